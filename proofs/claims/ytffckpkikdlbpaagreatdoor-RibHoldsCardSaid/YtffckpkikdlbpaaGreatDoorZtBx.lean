/- Lemmas and contracts for the theorem of this claim: HdB. -/
import Derived.Test.YtffckpkikdlbpaaGreatDoorZtBw
import Derived.Deep.CutBlock
set_option linter.unusedSimpArgs false
set_option linter.unusedVariables false
namespace Go.Proofs.YtffckpkikdlbpaaGreatDoor
open Go.RowKit Go.Maps
attribute [local go_sem] Oper.semAt_some
def HP (c : Cf) (A : Option Addr) (m b : Nat) (rs : List Nat) (V : World) : Prop := Blk V b 24 (cfC c A c.own.length m) ∧ Blk V (b + 1) 4 #[.bool false] ∧ MkP rs V
structure HoldR (c : Cf) (A : Option Addr) (m b : Nat) (w : World) (B t : Nat) (n g k : Nat) (T : Tb) (rs : List Nat) (W : World) : Prop where
  hk : k ≤ n
  hg : g = n - k
  tq : TQ w W B t T (HP c A m b rs)
  ow : OwnT T
  hc : T.c = c
  rf : T.rf ≤ k
  nd : rs.Nodup
  lo : ∀ r ∈ rs, w.heap.size ≤ r
def SwR (c : Cf) (A : Option Addr) (m b : Nat) (w : World) (B t k : Nat) (rs : List Nat) (W : World) : Prop := ∃ T, TQ w W B t T (HP c A m b rs) ∧ OwnT T ∧ T.c = c ∧ T.rf ≤ (k : Int) + 1
def RI (ws : World) (bd : Nat) (L : List Rt) (k : Nat) (V : World) : Prop := Blk V bd 3 #[.int .i64 (directN (L.take k) : Int)] ∧ Only [bd] ws V
theorem RI.only {ws V V' : World} {bd k : Nat} {L : List Rt} {bs : List Nat} (h : RI ws bd L k V) (k' : Only bs V V') (hb : ∀ b ∈ bs, ws.heap.size ≤ b) (hs : bd < ws.heap.size) : RI ws bd L k V' :=
  ⟨h.1.only k' (fun z => by have := hb bd z; omega), h.2.over (F1 := [bd] ++ bs) (fun b z => by
    rcases List.mem_append.1 z with z | z
    · exact .inl z
    · exact .inr (hb b z)) (k'.more (fun b z => List.mem_append.2 (.inr z)))⟩
theorem lit178 (ts : Array Value) (h : ts.size = 178) : ∃ u : Nat → Value, ts = #[u 0, u 1, u 2, u 3, u 4, u 5, u 6, u 7, u 8, u 9, u 10, u 11, u 12, u 13, u 14, u 15, u 16, u 17, u 18, u 19, u 20, u 21, u 22, u 23, u 24, u 25, u 26, u 27, u 28, u 29, u 30, u 31, u 32, u 33, u 34, u 35, u 36, u 37, u 38, u 39, u 40, u 41, u 42, u 43, u 44, u 45, u 46, u 47, u 48, u 49, u 50, u 51, u 52, u 53, u 54, u 55, u 56, u 57, u 58, u 59, u 60, u 61, u 62, u 63, u 64, u 65, u 66, u 67, u 68, u 69, u 70, u 71, u 72, u 73, u 74, u 75, u 76, u 77, u 78, u 79, u 80, u 81, u 82, u 83, u 84, u 85, u 86, u 87, u 88, u 89, u 90, u 91, u 92, u 93, u 94, u 95, u 96, u 97, u 98, u 99, u 100, u 101, u 102, u 103, u 104, u 105, u 106, u 107, u 108, u 109, u 110, u 111, u 112, u 113, u 114, u 115, u 116, u 117, u 118, u 119, u 120, u 121, u 122, u 123, u 124, u 125, u 126, u 127, u 128, u 129, u 130, u 131, u 132, u 133, u 134, u 135, u 136, u 137, u 138, u 139, u 140, u 141, u 142, u 143, u 144, u 145, u 146, u 147, u 148, u 149, u 150, u 151, u 152, u 153, u 154, u 155, u 156, u 157, u 158, u 159, u 160, u 161, u 162, u 163, u 164, u 165, u 166, u 167, u 168, u 169, u 170, u 171, u 172, u 173, u 174, u 175, u 176, u 177] ∧ ∀ i, u i = ts.getD i undef := by
  refine ⟨fun i => ts.getD i undef, ?_, fun _ => rfl⟩
  have e : ts.toList = (List.range 178).map (fun i => ts.getD i undef) := by
    refine List.ext_getElem (by simp [h]) (fun i h1 h2 => ?_)
    have hi : i < ts.size := by simpa using h1
    simp [hi]
  apply Array.ext'
  rw [e]
  rfl
theorem Only.thenKp {bs : List Nat} {a w w' : World} (h : Only bs a w) (k : Kp w w') : Only bs a w' := h.over (F1 := []) (by simp) (Only.of_kp k)
theorem directN_le (L : List Rt) : directN L ≤ L.length := List.length_filter_le _ _
set_option maxRecDepth 100000 in
set_option maxHeartbeats 16000000 in
theorem holds_any (c : Cf) (A A2 : Option Addr) (m m2 : Nat) (l : List Ac) (w : World) (hS : SlPI w A m c.own) (hw : ∀ k (hk : k < c.own.length), c.own[k].a < 4294967296) (hR : Rd w 9 Ac.enc A2 l) (hx : ∀ x ∈ l, x.fits) (hC : CapAt w) (hF : FacAt w) :
    Calls Tryz.prog 4 #[cfV c A c.own.length m, .slice A2 l.length m2] w fun e w' => e = .returned (.bool true) ∧ Kp w w' := by
  have HC := Lib.hid hC
  have HF := Lib.hid hF
  have HS := Lib.hid hS
  have HW := Lib.hid hw
  have HR := Lib.hid hR
  have HX := Lib.hid hx
  clear hC hF hS hw hR hx
  obtain ⟨b, hb⟩ : ∃ b, w.heap.size = b := ⟨_, rfl⟩
  obtain ⟨W, hW, kW, B0, B1⟩ : ∃ W, (w.alloc (.cells (cfC c A c.own.length m) 24)).alloc (.cells #[.bool false] 4) = W ∧ Kp w W ∧ Blk W b 24 (cfC c A c.own.length m) ∧ Blk W (b + 1) 4 #[.bool false] := ⟨_, rfl, ((Kp.refl _).alloc _).alloc _, by rw [← hb]; exact (Blk.new _ _ _).alloc _, by rw [← hb]; exact Blk.new1 _ _ _ _⟩
  have HB0 := Lib.hid B0
  have HB1 := Lib.hid B1
  have HKW := Lib.hid kW
  have Hb := Lib.hid (show w.heap.size ≤ b by omega)
  unfold cfC at hW
  obtain ⟨s0, s1, s2, s3, s4, s5, s6, s7, s8⟩ := cf_cells B0
  clear B0 B1 kW
  by_cases hf : (c.own.length : Int) ≤ 20
  · have df : decide ((c.own.length : Int) ≤ 20) = true := decide_eq_true hf
    have HL20 := Lib.hid (show c.own.length ≤ 1000000 by omega)
    clear hf
    by_cases h6 : l.length ≤ 60
    · have d6 : decide (60 < (l.length : Int)) = false := decide_eq_false (by omega)
      have H60 := Lib.hid h6
      clear h6
      cases ho : okCf c with
      | false =>
        have HO := Lib.hid ho
        clear ho
        refine calls_of_wp_marks Tryz.func4 rfl ?_; simp only [Tryz.ntmps4, List.size_toArray, List.length_cons, List.length_nil, Nat.reduceAdd, Nat.reduceSub, Array.replicate_succ, Array.replicate_zero, List.push_toArray, List.append_toArray, List.nil_append, List.cons_append]
        go_wp2_with fail
        refine (few_any c A _ m _).mono ?_
        rintro e w1 ⟨rfl, K1⟩
        rw [df]
        obtain ⟨s0, s1, s2, s3, s4, s5, s6, s7, s8⟩ := cf_cells (HB0.out.keep K1)
        go_wp2_with fail
        refine (right08_any c A m _ (HS.out.keep (HKW.out.trans K1)) HW.out HL20.out).mono ?_
        rintro e w2 ⟨rfl, K2⟩
        rw [HO.out]
        have k2 := K1.trans K2
        go_wp2_with fail
        refine (works_any _ (HC.out.keep (HKW.out.trans k2)) (HF.out.keep (HKW.out.trans k2))).mono ?_
        rintro e w5 ⟨rfl, K5⟩
        have B5 := (HB1.out.keep k2).keep K5
        have x0 : w5.cell? ⟨b + 1, 0, none⟩ = some (.bool false) := B5.cell 0
        have z0 := B5.frozen 0
        have u0 : (w5.setCell ⟨b + 1, 0, none⟩ (.bool true)).cell? ⟨b + 1, 0, none⟩ = some (.bool true) := (B5.set_ 0 _).cell 0
        have HK6 : Hid (Kp w (w5.setCell ⟨b + 1, 0, none⟩ (.bool true))) := Lib.hid (((HKW.out.trans k2).trans K5).setCell (by have := Hb.out; simp <;> omega) _)
        have HU0 := Lib.hid u0
        clear B5 K5 u0
        go_wp2_with fail
        have u0 := HU0.out
        refine post_takes ?_
        exact ⟨.bool true, by simp [results, Tryz.results4, go_sem, u0], rfl, HK6.out⟩
      | true =>
        have HO := Lib.hid ho
        clear ho
        refine calls_of_wp_marks Tryz.func4 rfl ?_; simp only [Tryz.ntmps4, List.size_toArray, List.length_cons, List.length_nil, Nat.reduceAdd, Nat.reduceSub, Array.replicate_succ, Array.replicate_zero, List.push_toArray, List.append_toArray, List.nil_append, List.cons_append]
        go_wp2_with fail
        refine (few_any c A _ m _).mono ?_
        rintro e w1 ⟨rfl, K1⟩
        rw [df]
        obtain ⟨s0, s1, s2, s3, s4, s5, s6, s7, s8⟩ := cf_cells (HB0.out.keep K1)
        go_wp2_with fail
        refine (right08_any c A m _ (HS.out.keep (HKW.out.trans K1)) HW.out HL20.out).mono ?_
        rintro e w2 ⟨rfl, K2⟩
        rw [HO.out]
        have k2 := K1.trans K2
        obtain ⟨s0, s1, s2, s3, s4, s5, s6, s7, s8⟩ := cf_cells (HB0.out.keep k2)
        go_wp2_with fail
        refine (rnew_any c A m w2 (HS.out.keep (HKW.out.trans k2)) (HC.out.keep (HKW.out.trans k2)) HW.out HO.out).mono ?_
        rintro e w3 ⟨t, F, rfl, hM, K3⟩
        have HT := Lib.hid (TQ.new (P := HP c A m b []) (HKW.out.trans k2) hM K3 (fun V k => ⟨(HB0.out.keep k2).keep k, (HB1.out.keep k2).keep k, fun r hr => by cases hr⟩) (Good.new HO.out HW.out) HC.out HF.out)
        obtain ⟨B, hB⟩ : ∃ B, w2.heap.size = B := ⟨_, rfl⟩
        rw [hB] at HT
        clear hB hM K1 K2 K3 k2 s0 s1 s2 s3 s4 s5 s6 s7 s8 df
        go_wp2_with fail
        refine (num_any 0 _).mono ?_
        rintro e w4 ⟨rfl, hw4⟩
        rw [← hw4]
        clear hw4 w4
        clear hW
        go_upto_block 0 with (fail)
        refine wp_block ?_
        refine wp_loop_ghost_k (fun g a' w' => ∃ (k : Nat) (T : Tb) (rs : List Nat) (ts : Array Value), HoldR c A m b w B t l.length g k T rs w' ∧ ts.size = 178 ∧ ts.getD 1 undef = .slice A2 l.length m2 ∧ ts.getD 2 undef = .pointer (some ⟨b, 0, none⟩) ∧ ts.getD 4 undef = .pointer (some ⟨b + 1, 0, none⟩) ∧ ts.getD 5 undef = .pointer (some ⟨t, 0, none⟩) ∧ ts.getD 7 undef = .int .i64 (k : Nat) ∧ a' = { tmps := ts, defers := rs.map mark }) l.length ?_ ?_
        · refine ⟨0, newT c, [], _, ?_, ?_, ?_, ?_, ?_, ?_, ?_, rfl⟩
          · exact ⟨Nat.zero_le _, by omega, HT.out, OwnT.new c, rfl, Int.le_refl _, List.nodup_nil, by simp⟩
          all_goals rfl
        · intro g a' wr hinv J K hJ hK
          obtain ⟨k, T, rs, ts, hrel, hz, f1, f2, f4, f5, f7, rfl⟩ := hinv
          obtain ⟨u, hu, hui⟩ := lit178 ts hz
          rw [← hui] at f1 f2 f4 f5 f7
          rw [hu]
          rw [f1, f2, f4, f5, f7]
          clear f1 f2 f4 f5 f7 hu hui hz ts
          have HREL := Lib.hid hrel
          clear hrel HT
          by_cases hlt : k < l.length
          · have hgi : (k : Int) < (l.length : Int) := by omega
            have hg0 : (0 : Int) ≤ (k : Int) := by omega
            obtain ⟨b2, off, hA2, x0, x1, x2, x3, x4, x5, x6, x7, x8⟩ := ac_at (HR.out.keep HREL.out.tq.kp) hlt
            have HXK := Lib.hid (HX.out _ (List.getElem_mem hlt))
            subst hA2
            obtain ⟨x, hx⟩ : ∃ x, l[k] = x := ⟨_, rfl⟩
            rw [hx] at x0 x1 x2 x3 x4 x5 x6 x7 x8 HXK
            clear hx
            obtain ⟨b8, hb8⟩ : ∃ b8, wr.heap.size = b8 := ⟨_, rfl⟩
            obtain ⟨W1, hW1, kW1, B8⟩ : ∃ W1, wr.alloc (.cells (acC x) 33) = W1 ∧ Kp wr W1 ∧ Blk W1 b8 33 (acC x) := ⟨_, rfl, (Kp.refl _).alloc _, by rw [← hb8]; exact Blk.new _ _ _⟩
            have S1 := HREL.out.tq.add kW1 (fun V => Blk V b8 33 (acC x)) (fun V h => (h b8 (by omega) B8.lt).trans B8)
            have HS1 := Lib.hid S1
            unfold acC at hW1
            clear S1 B8 kW1
            go_wp2_with fail
            clear hW1 x0 x1 x2 x3 x4 x5 x6 x7 x8
            refine (copy_TQ w W1 B t T _ HS1.out).mono ?_
            rintro e W2 ⟨u, rfl, S2, K2⟩
            obtain ⟨CU, hCU⟩ : ∃ CU, W1.heap.size = CU := ⟨_, rfl⟩
            rw [hCU] at S2
            have HS2 := Lib.hid S2
            clear K2 S2 hCU HS1
            go_wp2_with fail
            obtain ⟨FQ, hFQ⟩ := HS2.out.fst.tab
            have HFQ := Lib.hid hFQ
            refine (refused_any B t FQ T W2 hFQ).mono ?_
            rintro e w' ⟨rfl, hw'⟩
            rw [hw']
            clear hw' w' hFQ
            obtain ⟨rf, hrf⟩ : ∃ rf, T.rf = rf := ⟨_, rfl⟩
            rw [hrf]
            have HRF0 := Lib.hid hrf
            clear hrf
            obtain ⟨nw, hnw⟩ : ∃ nw, T.now = nw := ⟨_, rfl⟩
            have HNW := Lib.hid hnw
            have HNW0 := Lib.hid (show 0 ≤ nw by rw [← hnw]; exact HREL.out.tq.gd.ok.t.1)
            obtain ⟨a0, ha0⟩ : ∃ a0, atV x nw = a0 := ⟨_, rfl⟩
            have HA0 := Lib.hid ha0
            have HB8 := Lib.hid HS2.out.p.2
            clear hnw ha0
            go_upto_region 12 with (fail)
            refine wp_anyZ [58, 59, 60, 61, 11] [.agg #[.int .i64 x.wh, .int .i64 x.fc, .int .u32 (x.p.a : Int), .int .i64 x.p.l, .int .i64 x.h.f, .int .u32 (x.h.a : Int), .int .i64 x.h.m, .int .i64 x.more, .bool x.la], .pointer (some ⟨t, 0, none⟩), .int .i64 nw, .int .i64 a0, .int .i64 a0] [true, true, true, true, true] (by kernel_rfl) (by kernel_rfl) (by kernel_rfl) rfl rfl (by decide) rfl rfl rfl ?_ ?_
            · intro i o a w9 ho hw f g hkp K hK
              have hi : i < 5 := by have := (List.getElem?_eq_some_iff.1 ho).1; simpa using this
              have hcs : i = 0 ∨ i = 1 ∨ i = 2 ∨ i = 3 ∨ i = 4 := by omega
              clear hi
              rcases hcs with rfl | rfl | rfl | rfl | rfl
              all_goals
                first | simp only [List.getElem?_cons_zero, List.getElem?_cons_succ, Option.some.injEq] at ho | replace ho := Option.some.inj ho
                subst ho
              · have t8 : a.tmps[8]?.getD undef = .pointer (some ⟨b8, 0, none⟩) := g 8 (by decide)
                have p0 : w9.cell? ⟨b8, 0, none⟩ = some (.int .i64 x.wh) := ((HB8.out.keep hkp).cell 0)
                have p1 : w9.cell? ⟨b8, 1, none⟩ = some (.int .i64 x.fc) := ((HB8.out.keep hkp).cell 1)
                have p2 : w9.cell? ⟨b8, 2, none⟩ = some (.int .u32 (x.p.a : Int)) := ((HB8.out.keep hkp).cell 2)
                have p3 : w9.cell? ⟨b8, 3, none⟩ = some (.int .i64 x.p.l) := ((HB8.out.keep hkp).cell 3)
                have p4 : w9.cell? ⟨b8, 4, none⟩ = some (.int .i64 x.h.f) := ((HB8.out.keep hkp).cell 4)
                have p5 : w9.cell? ⟨b8, 5, none⟩ = some (.int .u32 (x.h.a : Int)) := ((HB8.out.keep hkp).cell 5)
                have p6 : w9.cell? ⟨b8, 6, none⟩ = some (.int .i64 x.h.m) := ((HB8.out.keep hkp).cell 6)
                have p7 : w9.cell? ⟨b8, 7, none⟩ = some (.int .i64 x.more) := ((HB8.out.keep hkp).cell 7)
                have p8 : w9.cell? ⟨b8, 8, none⟩ = some (.bool x.la) := ((HB8.out.keep hkp).cell 8)
                unfold Oper.wp
                simp only [execOp, Act.eval, Array.getD_eq_getD_getElem?]
                go_simp
                exact hK _ _ (Kp.refl _) rfl
              · have t5 : a.tmps[5]?.getD undef = .pointer (some ⟨t, 0, none⟩) := g 5 (by decide)
                unfold Oper.wp
                simp only [execOp, Act.eval, Array.getD_eq_getD_getElem?]
                go_simp
                exact hK _ _ (Kp.refl _) rfl
              · have t59 : a.tmps[59]?.getD undef = .pointer (some ⟨t, 0, none⟩) := f 1 rfl
                unfold Oper.wp
                simp only [execOp, Act.eval, Array.getD_eq_getD_getElem?]
                go_simp
                refine (now_any B t FQ T w9 (HFQ.out.keep hkp)).mono ?_
                rintro e wb ⟨rfl, hwb⟩
                rw [hwb, HNW.out]
                have hKc := Kp.refl w9
                exact hK _ _ hKc rfl
              · have t58 : a.tmps[58]?.getD undef = .agg #[.int .i64 x.wh, .int .i64 x.fc, .int .u32 (x.p.a : Int), .int .i64 x.p.l, .int .i64 x.h.f, .int .u32 (x.h.a : Int), .int .i64 x.h.m, .int .i64 x.more, .bool x.la] := f 0 rfl
                have t60 : a.tmps[60]?.getD undef = .int .i64 nw := f 2 rfl
                unfold Oper.wp
                simp only [execOp, Act.eval, Array.getD_eq_getD_getElem?]
                go_simp
                refine (at_any x nw _ HNW0.out).mono ?_
                rintro e wb ⟨rfl, hKc⟩
                rw [HA0.out]
                exact hK _ _ hKc rfl
              · have t61 : a.tmps[61]?.getD undef = .int .i64 a0 := f 3 rfl
                unfold Oper.wp
                simp only [execOp, Act.eval, Array.getD_eq_getD_getElem?]
                go_simp
                exact hK _ _ (Kp.refl _) rfl
            intro w9 KV
            (try simp only [Exit.then])
            simp only [wrS, List.zip_cons_cons, List.zip_nil_right, List.foldl_cons, List.foldl_nil, List.setIfInBounds_toArray, List.set_cons_zero, List.set_cons_succ]
            have HS3 := Lib.hid (HS2.out.keep KV)
            have HB8b := Lib.hid (HB8.out.keep KV)
            clear HS2 HB8 KV HFQ HNW HNW0 HA0
            have q0 : w9.cell? ⟨b8, 0, none⟩ = some (.int .i64 x.wh) := HB8b.out.cell 0
            have q1 : w9.cell? ⟨b8, 1, none⟩ = some (.int .i64 x.fc) := HB8b.out.cell 1
            have q2 : w9.cell? ⟨b8, 2, none⟩ = some (.int .u32 (x.p.a : Int)) := HB8b.out.cell 2
            have q3 : w9.cell? ⟨b8, 3, none⟩ = some (.int .i64 x.p.l) := HB8b.out.cell 3
            have q4 : w9.cell? ⟨b8, 4, none⟩ = some (.int .i64 x.h.f) := HB8b.out.cell 4
            have q5 : w9.cell? ⟨b8, 5, none⟩ = some (.int .u32 (x.h.a : Int)) := HB8b.out.cell 5
            have q6 : w9.cell? ⟨b8, 6, none⟩ = some (.int .i64 x.h.m) := HB8b.out.cell 6
            clear HB8b
            obtain ⟨wh, hwh⟩ : ∃ wh, x.wh = wh := ⟨_, rfl⟩
            rw [hwh] at q0
            clear hwh
            go_upto_block 2 with (fail)
            go_cut [] from 44 to 176 (fun wx => SwR c A m b w B t k rs wx)
            case first =>
              refine wp_block ?_
              refine wp_seq_k (fun K9 hK9 => ?_)
              go_cut [64] from 64 to 69 (fun s wx => s = .bool (decide (0 ≤ wh ∧ wh ≤ 4)) ∧ w9 = wx)
              case first =>
                by_cases h0 : wh = 0
                · have e0 : (wh == 0) = true := by simp [h0]
                  have hd : decide (0 ≤ wh ∧ wh ≤ 4) = true := decide_eq_true (by omega)
                  clear h0
                  go_wp2_with fail
                  go_meet
                  case rel => exact ⟨by first | rw [hd] | rfl, rfl⟩
                · have e0 : (wh == 0) = false := by simp [h0]
                  by_cases h1 : wh = 1
                  · have e1 : (wh == 1) = true := by simp [h1]
                    have hd : decide (0 ≤ wh ∧ wh ≤ 4) = true := decide_eq_true (by omega)
                    clear h0; clear h1
                    go_wp2_with fail
                    go_meet
                    case rel => exact ⟨by first | rw [hd] | rfl, rfl⟩
                  · have e1 : (wh == 1) = false := by simp [h1]
                    by_cases h2 : wh = 2
                    · have e2 : (wh == 2) = true := by simp [h2]
                      have hd : decide (0 ≤ wh ∧ wh ≤ 4) = true := decide_eq_true (by omega)
                      clear h0; clear h1; clear h2
                      go_wp2_with fail
                      go_meet
                      case rel => exact ⟨by first | rw [hd] | rfl, rfl⟩
                    · have e2 : (wh == 2) = false := by simp [h2]
                      by_cases h3 : wh = 3
                      · have e3 : (wh == 3) = true := by simp [h3]
                        have hd : decide (0 ≤ wh ∧ wh ≤ 4) = true := decide_eq_true (by omega)
                        clear h0; clear h1; clear h2; clear h3
                        go_wp2_with fail
                        go_meet
                        case rel => exact ⟨by first | rw [hd] | rfl, rfl⟩
                      · have e3 : (wh == 3) = false := by simp [h3]
                        by_cases h4 : wh = 4
                        · have e4 : (wh == 4) = true := by simp [h4]
                          have hd : decide (0 ≤ wh ∧ wh ≤ 4) = true := decide_eq_true (by omega)
                          clear h0; clear h1; clear h2; clear h3; clear h4
                          go_wp2_with fail
                          go_meet
                          case rel => exact ⟨by first | rw [hd] | rfl, rfl⟩
                        · have e4 : (wh == 4) = false := by simp [h4]
                          have hd : decide (0 ≤ wh ∧ wh ≤ 4) = false := decide_eq_false (by omega)
                          clear h0; clear h1; clear h2; clear h3; clear h4
                          go_wp2_with fail
                          go_meet
                          case rel => exact ⟨by first | rw [hd] | rfl, rfl⟩
              case rest =>
                obtain ⟨rfl, rfl⟩ := hcut
                cases hH : decide (0 ≤ wh ∧ wh ≤ 4) with
                | true =>
                  clear hH
                  go_wp2_with fail
                  refine (hear_TT w w9 B t CU u T T _ HS3.out x.p x.h a0 ⟨HXK.out.pa, HXK.out.pl.1, HXK.out.pl.2⟩ HXK.out.ha).mono ?_
                  rintro e W4 ⟨rfl, S4⟩
                  have hO1 := HREL.out.ow.heard x.p x.h a0
                  have hc1 := (heard_c T x.p x.h a0).trans HREL.out.hc
                  have hkk := HREL.out.rf
                  have h60 := H60.out
                  have hz := heard_200 HREL.out.tq.gd.ok x.p x.h a0 (by omega)
                  obtain ⟨⟨T1, R, E⟩, hZ⟩ : ∃ Z, heardT T x.p x.h a0 = Z := ⟨_, rfl⟩
                  rw [hZ] at S4 hO1 hc1 hz ⊢
                  simp only at S4 hO1 hc1 hz ⊢
                  clear hZ q0 q1 q2 q3 q4 q5 q6 HS3
                  have S5 := S4.keep ((Kp.refl W4).alloc (.cells (roC R) 48))
                  obtain ⟨W5, hW5⟩ : ∃ W5, W4.alloc (.cells (roC R) 48) = W5 := ⟨_, rfl⟩
                  rw [hW5] at S5
                  unfold roC at hW5
                  have HS5 := Lib.hid S5
                  have HO1 := Lib.hid hO1
                  have HC1 := Lib.hid hc1
                  clear S4 S5 hO1 hc1
                  go_upto_region 20 with (fail)
                  clear hW5
                  obtain ⟨FH, hFH⟩ := HS5.out.fst.tab
                  have HFH := Lib.hid hFH
                  obtain ⟨FU, hFU⟩ := HS5.out.snd.tab
                  have HFU := Lib.hid hFU
                  have HBC := Lib.hid HS5.out.p.1.1
                  obtain ⟨cap, hcap⟩ : ∃ cap, c.cap = cap := ⟨_, rfl⟩
                  have HCP := Lib.hid hcap
                  obtain ⟨rf1, hrf1⟩ : ∃ rf1, T1.rf = rf1 := ⟨_, rfl⟩
                  have HRF := Lib.hid hrf1
                  clear hFH hFU
                  rcases hz with ⟨z1, z2, z3, z4⟩ | ⟨z1, z2⟩
                  · have HLN := Lib.hid (show (T.l.length : Int) = cap by rw [z4, HREL.out.hc, hcap])
                    have HLL := Lib.hid z3.symm
                    have e200 : (E == 200) = true := by simp [z1]
                    have dg : decide (rf < rf1) = true := decide_eq_true (by rw [← hrf1, z2, ← HRF0.out]; omega)
                    have HRE := Lib.hid (show T1.rf ≤ (k : Int) + 1 by rw [z2]; omega)
                    clear z1 z2 z3 z4 hrf1 hcap
                    refine wp_anyZ [80, 81, 82, 83, 84, 85, 86, 87, 88, 89, 90, 91, 92, 93, 94, 95, 96, 97, 98, 99, 100, 101, 102, 103, 104, 105] [.int .i64 E, .int .i64 E, .bool true, .pointer (some ⟨t, 0, none⟩), .int .i64 rf1, .int .i64 rf, .bool true, .bool false, .bool false, .int .i64 E, .int .i64 E, .bool true, .bool true, .pointer (some ⟨u, 0, none⟩), .int .i64 cap, .pointer (some ⟨b, 7, none⟩), .int .i64 cap, .bool false, .bool false, .pointer (some ⟨u, 0, none⟩), .pointer (some ⟨t, 0, none⟩), .bool true, .bool false, .bool false, .bool false, .bool false] [true, true, true, true, true, true, true, true, true, true, true, true, true, true, true, true, true, true, true, true, true, true, true, true, true, true] (by kernel_rfl) (by kernel_rfl) (by kernel_rfl) rfl rfl (by decide) rfl rfl rfl ?_ ?_
                    · intro i o a w9 ho hw f g hkp K hK
                      have hi : i < 26 := by have := (List.getElem?_eq_some_iff.1 ho).1; simpa using this
                      have hcs : i = 0 ∨ i = 1 ∨ i = 2 ∨ i = 3 ∨ i = 4 ∨ i = 5 ∨ i = 6 ∨ i = 7 ∨ i = 8 ∨ i = 9 ∨ i = 10 ∨ i = 11 ∨ i = 12 ∨ i = 13 ∨ i = 14 ∨ i = 15 ∨ i = 16 ∨ i = 17 ∨ i = 18 ∨ i = 19 ∨ i = 20 ∨ i = 21 ∨ i = 22 ∨ i = 23 ∨ i = 24 ∨ i = 25 := by omega
                      clear hi
                      rcases hcs with rfl | rfl | rfl | rfl | rfl | rfl | rfl | rfl | rfl | rfl | rfl | rfl | rfl | rfl | rfl | rfl | rfl | rfl | rfl | rfl | rfl | rfl | rfl | rfl | rfl | rfl
                      all_goals
                        first | simp only [List.getElem?_cons_zero, List.getElem?_cons_succ, Option.some.injEq] at ho | replace ho := Option.some.inj ho
                        subst ho
                      · have t13 : a.tmps[13]?.getD undef = .int .i64 E := g 13 (by decide)
                        unfold Oper.wp
                        simp only [execOp, Act.eval, Array.getD_eq_getD_getElem?]
                        go_simp
                        exact hK _ _ (Kp.refl _) rfl
                      · have t80 : a.tmps[80]?.getD undef = .int .i64 E := f 0 rfl
                        unfold Oper.wp
                        simp only [execOp, Act.eval, Array.getD_eq_getD_getElem?]
                        go_simp
                        refine (num_any _ _).mono ?_
                        rintro e wb ⟨rfl, hwb⟩
                        rw [← hwb]
                        have hKc := Kp.refl w9
                        exact hK _ _ hKc rfl
                      · have t81 : a.tmps[81]?.getD undef = .int .i64 E := f 1 rfl
                        unfold Oper.wp
                        simp only [execOp, Act.eval, Array.getD_eq_getD_getElem?]
                        go_simp
                        exact hK _ _ (Kp.refl _) rfl
                      · have t5 : a.tmps[5]?.getD undef = .pointer (some ⟨t, 0, none⟩) := g 5 (by decide)
                        unfold Oper.wp
                        simp only [execOp, Act.eval, Array.getD_eq_getD_getElem?]
                        go_simp
                        exact hK _ _ (Kp.refl _) rfl
                      · have t83 : a.tmps[83]?.getD undef = .pointer (some ⟨t, 0, none⟩) := f 3 rfl
                        unfold Oper.wp
                        simp only [execOp, Act.eval, Array.getD_eq_getD_getElem?]
                        go_simp
                        refine (refused_any B t FH T1 w9 (HFH.out.keep hkp)).mono ?_
                        rintro e wb ⟨rfl, hwb⟩
                        rw [hwb, HRF.out]
                        have hKc := Kp.refl w9
                        exact hK _ _ hKc rfl
                      · have t10 : a.tmps[10]?.getD undef = .int .i64 rf := g 10 (by decide)
                        unfold Oper.wp
                        simp only [execOp, Act.eval, Array.getD_eq_getD_getElem?]
                        go_simp
                        exact hK _ _ (Kp.refl _) rfl
                      · have t84 : a.tmps[84]?.getD undef = .int .i64 rf1 := f 4 rfl
                        have t85 : a.tmps[85]?.getD undef = .int .i64 rf := f 5 rfl
                        unfold Oper.wp
                        simp only [execOp, Act.eval, Array.getD_eq_getD_getElem?]
                        go_simp
                        exact hK _ _ (Kp.refl _) rfl
                      · have t82 : a.tmps[82]?.getD undef = .bool true := f 2 rfl
                        have t86 : a.tmps[86]?.getD undef = .bool true := f 6 rfl
                        unfold Oper.wp
                        simp only [execOp, Act.eval, Array.getD_eq_getD_getElem?]
                        go_simp
                        exact hK _ _ (Kp.refl _) rfl
                      · have t87 : a.tmps[87]?.getD undef = .bool false := f 7 rfl
                        unfold Oper.wp
                        simp only [execOp, Act.eval, Array.getD_eq_getD_getElem?]
                        go_simp
                        exact hK _ _ (Kp.refl _) rfl
                      · have t13 : a.tmps[13]?.getD undef = .int .i64 E := g 13 (by decide)
                        unfold Oper.wp
                        simp only [execOp, Act.eval, Array.getD_eq_getD_getElem?]
                        go_simp
                        exact hK _ _ (Kp.refl _) rfl
                      · have t89 : a.tmps[89]?.getD undef = .int .i64 E := f 9 rfl
                        unfold Oper.wp
                        simp only [execOp, Act.eval, Array.getD_eq_getD_getElem?]
                        go_simp
                        refine (num_any _ _).mono ?_
                        rintro e wb ⟨rfl, hwb⟩
                        rw [← hwb]
                        have hKc := Kp.refl w9
                        exact hK _ _ hKc rfl
                      · have t90 : a.tmps[90]?.getD undef = .int .i64 E := f 10 rfl
                        unfold Oper.wp
                        simp only [execOp, Act.eval, Array.getD_eq_getD_getElem?]
                        go_simp
                        exact hK _ _ (Kp.refl _) rfl
                      · have t91 : a.tmps[91]?.getD undef = .bool true := f 11 rfl
                        unfold Oper.wp
                        simp only [execOp, Act.eval, Array.getD_eq_getD_getElem?]
                        go_simp
                        exact hK _ _ (Kp.refl _) rfl
                      · have t9 : a.tmps[9]?.getD undef = .pointer (some ⟨u, 0, none⟩) := g 9 (by decide)
                        unfold Oper.wp
                        simp only [execOp, Act.eval, Array.getD_eq_getD_getElem?]
                        go_simp
                        exact hK _ _ (Kp.refl _) rfl
                      · have t93 : a.tmps[93]?.getD undef = .pointer (some ⟨u, 0, none⟩) := f 13 rfl
                        unfold Oper.wp
                        simp only [execOp, Act.eval, Array.getD_eq_getD_getElem?]
                        go_simp
                        refine (len_any_ CU u FU T w9 (HFU.out.keep hkp)).mono ?_
                        rintro e wb ⟨rfl, hwb⟩
                        rw [hwb, HLN.out]
                        have hKc := Kp.refl w9
                        exact hK _ _ hKc rfl
                      · have t2 : a.tmps[2]?.getD undef = .pointer (some ⟨b, 0, none⟩) := g 2 (by decide)
                        unfold Oper.wp
                        simp only [execOp, Act.eval, Array.getD_eq_getD_getElem?]
                        go_simp
                        exact hK _ _ (Kp.refl _) rfl
                      · have t95 : a.tmps[95]?.getD undef = .pointer (some ⟨b, 7, none⟩) := f 15 rfl
                        have s7 : w9.cell? ⟨b, 7, none⟩ = some (.int .i64 cap) := by have := ((HBC.out.keep hkp).cell 7); rw [← HCP.out]; exact this
                        unfold Oper.wp
                        simp only [execOp, Act.eval, Array.getD_eq_getD_getElem?]
                        go_simp
                        exact hK _ _ (Kp.refl _) rfl
                      · have t94 : a.tmps[94]?.getD undef = .int .i64 cap := f 14 rfl
                        have t96 : a.tmps[96]?.getD undef = .int .i64 cap := f 16 rfl
                        unfold Oper.wp
                        simp only [execOp, Act.eval, Array.getD_eq_getD_getElem?]
                        go_simp
                        exact hK _ _ (Kp.refl _) rfl
                      · have t97 : a.tmps[97]?.getD undef = .bool false := f 17 rfl
                        unfold Oper.wp
                        simp only [execOp, Act.eval, Array.getD_eq_getD_getElem?]
                        go_simp
                        exact hK _ _ (Kp.refl _) rfl
                      · have t9 : a.tmps[9]?.getD undef = .pointer (some ⟨u, 0, none⟩) := g 9 (by decide)
                        unfold Oper.wp
                        simp only [execOp, Act.eval, Array.getD_eq_getD_getElem?]
                        go_simp
                        exact hK _ _ (Kp.refl _) rfl
                      · have t5 : a.tmps[5]?.getD undef = .pointer (some ⟨t, 0, none⟩) := g 5 (by decide)
                        unfold Oper.wp
                        simp only [execOp, Act.eval, Array.getD_eq_getD_getElem?]
                        go_simp
                        exact hK _ _ (Kp.refl _) rfl
                      · have t99 : a.tmps[99]?.getD undef = .pointer (some ⟨u, 0, none⟩) := f 19 rfl
                        have t100 : a.tmps[100]?.getD undef = .pointer (some ⟨t, 0, none⟩) := f 20 rfl
                        unfold Oper.wp
                        simp only [execOp, Act.eval, Array.getD_eq_getD_getElem?]
                        go_simp
                        refine (alike_same CU u B t FU FH T T1 w9 (HFU.out.keep hkp) (HFH.out.keep hkp) HLL.out).mono ?_
                        rintro e wb ⟨rfl, hKc⟩
                        exact hK _ _ hKc rfl
                      · have t101 : a.tmps[101]?.getD undef = .bool true := f 21 rfl
                        unfold Oper.wp
                        simp only [execOp, Act.eval, Array.getD_eq_getD_getElem?]
                        go_simp
                        exact hK _ _ (Kp.refl _) rfl
                      · have t98 : a.tmps[98]?.getD undef = .bool false := f 18 rfl
                        have t102 : a.tmps[102]?.getD undef = .bool false := f 22 rfl
                        unfold Oper.wp
                        simp only [execOp, Act.eval, Array.getD_eq_getD_getElem?]
                        go_simp
                        exact hK _ _ (Kp.refl _) rfl
                      · have t92 : a.tmps[92]?.getD undef = .bool true := f 12 rfl
                        have t103 : a.tmps[103]?.getD undef = .bool false := f 23 rfl
                        unfold Oper.wp
                        simp only [execOp, Act.eval, Array.getD_eq_getD_getElem?]
                        go_simp
                        exact hK _ _ (Kp.refl _) rfl
                      · have t88 : a.tmps[88]?.getD undef = .bool false := f 8 rfl
                        have t104 : a.tmps[104]?.getD undef = .bool false := f 24 rfl
                        unfold Oper.wp
                        simp only [execOp, Act.eval, Array.getD_eq_getD_getElem?]
                        go_simp
                        exact hK _ _ (Kp.refl _) rfl
                    intro w9 KV
                    (try simp only [Exit.then])
                    simp only [wrS, List.zip_cons_cons, List.zip_nil_right, List.foldl_cons, List.foldl_nil, List.setIfInBounds_toArray, List.set_cons_zero, List.set_cons_succ]
                    go_wp2_with fail
                    go_meet
                    case rel => exact ⟨T1, (HS5.out.keep KV).fst.imp (fun V h => h.1), HO1.out, HC1.out, HRE.out⟩
                  · have e200 : (E == 200) = false := by simp [z1]
                    have dg : decide (rf < rf1) = false := decide_eq_false (by rw [← hrf1, z2, ← HRF0.out]; omega)
                    have HRE := Lib.hid (show T1.rf ≤ (k : Int) + 1 by rw [z2]; omega)
                    clear z1 z2 hrf1 hcap
                    refine wp_anyZ [80, 81, 82, 83, 84, 85, 86, 87, 88, 89, 90, 91, 92, 93, 94, 95, 96, 97, 98, 99, 100, 101, 102, 103, 104, 105] [.int .i64 E, .int .i64 E, .bool false, .pointer (some ⟨t, 0, none⟩), .int .i64 rf1, .int .i64 rf, .bool false, .bool false, .bool false, .int .i64 E, .int .i64 E, .bool false, .bool false, undef, undef, undef, undef, undef, undef, undef, undef, undef, undef, undef, .bool false, .bool false] [true, true, true, true, true, true, true, true, true, true, true, true, true, false, false, false, false, false, false, false, false, false, false, false, true, true] (by kernel_rfl) (by kernel_rfl) (by kernel_rfl) rfl rfl (by decide) rfl rfl rfl ?_ ?_
                    · intro i o a w9 ho hw f g hkp K hK
                      have hi : i < 26 := by have := (List.getElem?_eq_some_iff.1 ho).1; simpa using this
                      have hcs : i = 0 ∨ i = 1 ∨ i = 2 ∨ i = 3 ∨ i = 4 ∨ i = 5 ∨ i = 6 ∨ i = 7 ∨ i = 8 ∨ i = 9 ∨ i = 10 ∨ i = 11 ∨ i = 12 ∨ i = 13 ∨ i = 14 ∨ i = 15 ∨ i = 16 ∨ i = 17 ∨ i = 18 ∨ i = 19 ∨ i = 20 ∨ i = 21 ∨ i = 22 ∨ i = 23 ∨ i = 24 ∨ i = 25 := by omega
                      clear hi
                      rcases hcs with rfl | rfl | rfl | rfl | rfl | rfl | rfl | rfl | rfl | rfl | rfl | rfl | rfl | rfl | rfl | rfl | rfl | rfl | rfl | rfl | rfl | rfl | rfl | rfl | rfl | rfl
                      all_goals
                        first | simp only [List.getElem?_cons_zero, List.getElem?_cons_succ, Option.some.injEq] at ho | replace ho := Option.some.inj ho
                        subst ho
                      · have t13 : a.tmps[13]?.getD undef = .int .i64 E := g 13 (by decide)
                        unfold Oper.wp
                        simp only [execOp, Act.eval, Array.getD_eq_getD_getElem?]
                        go_simp
                        exact hK _ _ (Kp.refl _) rfl
                      · have t80 : a.tmps[80]?.getD undef = .int .i64 E := f 0 rfl
                        unfold Oper.wp
                        simp only [execOp, Act.eval, Array.getD_eq_getD_getElem?]
                        go_simp
                        refine (num_any _ _).mono ?_
                        rintro e wb ⟨rfl, hwb⟩
                        rw [← hwb]
                        have hKc := Kp.refl w9
                        exact hK _ _ hKc rfl
                      · have t81 : a.tmps[81]?.getD undef = .int .i64 E := f 1 rfl
                        unfold Oper.wp
                        simp only [execOp, Act.eval, Array.getD_eq_getD_getElem?]
                        go_simp
                        exact hK _ _ (Kp.refl _) rfl
                      · have t5 : a.tmps[5]?.getD undef = .pointer (some ⟨t, 0, none⟩) := g 5 (by decide)
                        unfold Oper.wp
                        simp only [execOp, Act.eval, Array.getD_eq_getD_getElem?]
                        go_simp
                        exact hK _ _ (Kp.refl _) rfl
                      · have t83 : a.tmps[83]?.getD undef = .pointer (some ⟨t, 0, none⟩) := f 3 rfl
                        unfold Oper.wp
                        simp only [execOp, Act.eval, Array.getD_eq_getD_getElem?]
                        go_simp
                        refine (refused_any B t FH T1 w9 (HFH.out.keep hkp)).mono ?_
                        rintro e wb ⟨rfl, hwb⟩
                        rw [hwb, HRF.out]
                        have hKc := Kp.refl w9
                        exact hK _ _ hKc rfl
                      · have t10 : a.tmps[10]?.getD undef = .int .i64 rf := g 10 (by decide)
                        unfold Oper.wp
                        simp only [execOp, Act.eval, Array.getD_eq_getD_getElem?]
                        go_simp
                        exact hK _ _ (Kp.refl _) rfl
                      · have t84 : a.tmps[84]?.getD undef = .int .i64 rf1 := f 4 rfl
                        have t85 : a.tmps[85]?.getD undef = .int .i64 rf := f 5 rfl
                        unfold Oper.wp
                        simp only [execOp, Act.eval, Array.getD_eq_getD_getElem?]
                        go_simp
                        exact hK _ _ (Kp.refl _) rfl
                      · have t82 : a.tmps[82]?.getD undef = .bool false := f 2 rfl
                        have t86 : a.tmps[86]?.getD undef = .bool false := f 6 rfl
                        unfold Oper.wp
                        simp only [execOp, Act.eval, Array.getD_eq_getD_getElem?]
                        go_simp
                        exact hK _ _ (Kp.refl _) rfl
                      · have t87 : a.tmps[87]?.getD undef = .bool false := f 7 rfl
                        unfold Oper.wp
                        simp only [execOp, Act.eval, Array.getD_eq_getD_getElem?]
                        go_simp
                        exact hK _ _ (Kp.refl _) rfl
                      · have t13 : a.tmps[13]?.getD undef = .int .i64 E := g 13 (by decide)
                        unfold Oper.wp
                        simp only [execOp, Act.eval, Array.getD_eq_getD_getElem?]
                        go_simp
                        exact hK _ _ (Kp.refl _) rfl
                      · have t89 : a.tmps[89]?.getD undef = .int .i64 E := f 9 rfl
                        unfold Oper.wp
                        simp only [execOp, Act.eval, Array.getD_eq_getD_getElem?]
                        go_simp
                        refine (num_any _ _).mono ?_
                        rintro e wb ⟨rfl, hwb⟩
                        rw [← hwb]
                        have hKc := Kp.refl w9
                        exact hK _ _ hKc rfl
                      · have t90 : a.tmps[90]?.getD undef = .int .i64 E := f 10 rfl
                        unfold Oper.wp
                        simp only [execOp, Act.eval, Array.getD_eq_getD_getElem?]
                        go_simp
                        exact hK _ _ (Kp.refl _) rfl
                      · have t91 : a.tmps[91]?.getD undef = .bool false := f 11 rfl
                        unfold Oper.wp
                        simp only [execOp, Act.eval, Array.getD_eq_getD_getElem?]
                        go_simp
                        exact hK _ _ (Kp.refl _) rfl
                      · exact Bool.noConfusion (show false = true from hw)
                      · exact Bool.noConfusion (show false = true from hw)
                      · exact Bool.noConfusion (show false = true from hw)
                      · exact Bool.noConfusion (show false = true from hw)
                      · exact Bool.noConfusion (show false = true from hw)
                      · exact Bool.noConfusion (show false = true from hw)
                      · exact Bool.noConfusion (show false = true from hw)
                      · exact Bool.noConfusion (show false = true from hw)
                      · exact Bool.noConfusion (show false = true from hw)
                      · exact Bool.noConfusion (show false = true from hw)
                      · exact Bool.noConfusion (show false = true from hw)
                      · have t92 : a.tmps[92]?.getD undef = .bool false := f 12 rfl
                        have t103 : a.tmps[103]?.getD undef = undef := f 23 rfl
                        unfold Oper.wp
                        simp only [execOp, Act.eval, Array.getD_eq_getD_getElem?]
                        go_simp
                        exact hK _ _ (Kp.refl _) rfl
                      · have t88 : a.tmps[88]?.getD undef = .bool false := f 8 rfl
                        have t104 : a.tmps[104]?.getD undef = .bool false := f 24 rfl
                        unfold Oper.wp
                        simp only [execOp, Act.eval, Array.getD_eq_getD_getElem?]
                        go_simp
                        exact hK _ _ (Kp.refl _) rfl
                    intro w9 KV
                    (try simp only [Exit.then])
                    simp only [wrS, List.zip_cons_cons, List.zip_nil_right, List.foldl_cons, List.foldl_nil, List.setIfInBounds_toArray, List.set_cons_zero, List.set_cons_succ]
                    go_wp2_with fail
                    go_meet
                    case rel => exact ⟨T1, (HS5.out.keep KV).fst.imp (fun V h => h.1), HO1.out, HC1.out, HRE.out⟩
                | false =>
                  have HH := Lib.hid (of_decide_eq_false hH)
                  clear hH
                  have hkk := HREL.out.rf
                  by_cases h5 : wh = 5
                  · have e5 : (wh == 5) = true := by simp [h5]
                    clear h5
                    go_wp2_with fail
                    refine (lose_TT w w9 B t CU u T T _ HS3.out x.fc a0).mono ?_
                    rintro e W4 ⟨rfl, S4⟩
                    have HRE := Lib.hid (show (lostT T x.fc a0).1.rf ≤ (k : Int) + 1 by rw [lost_rf]; omega)
                    clear hkk
                    go_wp2_with fail
                    go_meet
                    case rel => exact ⟨_, S4.fst.imp (fun V h => h.1), HREL.out.ow.lost x.fc a0, (lost_c T x.fc a0).trans HREL.out.hc, HRE.out⟩
                  · have e5 : (wh == 5) = false := by simp [h5]
                    clear h5
                    by_cases h6 : wh = 6
                    · have e6 : (wh == 6) = true := by simp [h6]
                      clear h6
                      go_wp2_with fail
                      refine (exp_TT w w9 B t CU u T T _ HS3.out a0).mono ?_
                      rintro e W4 ⟨rfl, S4⟩
                      have HRE := Lib.hid (show (expT T a0).1.rf ≤ (k : Int) + 1 by rw [exp_rf]; omega)
                      have hO1 := HREL.out.ow.exp HREL.out.tq.gd.ok.u a0
                      have hc1 := (exp_c T a0).trans HREL.out.hc
                      have hdu := exp_due HREL.out.tq.gd.ok a0
                      obtain ⟨⟨T1, N1, E⟩, hZ⟩ : ∃ Z, expT T a0 = Z := ⟨_, rfl⟩
                      rw [hZ] at S4 hO1 hc1 hdu HRE ⊢
                      simp only at S4 hO1 hc1 hdu HRE ⊢
                      have HS4 := Lib.hid S4
                      have HO1 := Lib.hid hO1
                      have HC1 := Lib.hid hc1
                      have HDU := Lib.hid hdu
                      clear hZ q0 q1 q2 q3 q4 q5 q6 HS3 S4 hO1 hc1 hdu hkk
                      go_wp2_with fail
                      refine (num_any E _).mono ?_
                      rintro e w5 ⟨rfl, hw5⟩
                      rw [← hw5]
                      clear hw5 w5
                      by_cases hE : E = 0
                      · have eE : (E == 0) = true := by simp [hE]
                        have hdd := HDU.out hE
                        clear hE
                        obtain ⟨FE, hFE⟩ := HS4.out.fst.tab
                        go_wp2_with fail
                        refine (next_any_ B t FE T1 W4 hFE).mono ?_
                        rintro e W5 ⟨rfl, K5⟩
                        have HS5 := Lib.hid (HS4.out.keep K5)
                        unfold nextV
                        cases hfr : firstR T1.l with
                        | none =>
                          simp only
                          clear hdd hfr K5
                          go_wp2_with fail
                          go_meet
                          case rel => exact ⟨T1, HS5.out.fst.imp (fun V h => h.1), HO1.out, HC1.out, HRE.out⟩
                        | some r =>
                          have hd := hdd r hfr
                          simp only
                          have dd : decide (r.d ≤ a0) = false := decide_eq_false (by omega)
                          clear hdd hfr K5 hd
                          go_wp2_with fail
                          go_meet
                          case rel => exact ⟨T1, HS5.out.fst.imp (fun V h => h.1), HO1.out, HC1.out, HRE.out⟩
                      · have eE : (E == 0) = false := by simp [hE]
                        clear hE
                        go_wp2_with fail
                        go_meet
                        case rel => exact ⟨T1, HS4.out.fst.imp (fun V h => h.1), HO1.out, HC1.out, HRE.out⟩
                    · have e6 : (wh == 6) = false := by simp [h6]
                      clear h6
                      by_cases h7 : wh = 7
                      · have e7 : (wh == 7) = true := by simp [h7]
                        clear h7
                        go_wp2_with fail
                        refine (exp_TT w w9 B t CU u T T _ HS3.out a0).mono ?_
                        rintro e W4 ⟨rfl, S4⟩
                        have HRE := Lib.hid (show (expT T a0).1.rf ≤ (k : Int) + 1 by rw [exp_rf]; omega)
                        have hO1 := HREL.out.ow.exp HREL.out.tq.gd.ok.u a0
                        have hc1 := (exp_c T a0).trans HREL.out.hc
                        have hdu := exp_due HREL.out.tq.gd.ok a0
                        obtain ⟨⟨T1, N1, E⟩, hZ⟩ : ∃ Z, expT T a0 = Z := ⟨_, rfl⟩
                        rw [hZ] at S4 hO1 hc1 hdu HRE ⊢
                        simp only at S4 hO1 hc1 hdu HRE ⊢
                        have HS4 := Lib.hid S4
                        have HO1 := Lib.hid hO1
                        have HC1 := Lib.hid hc1
                        have HDU := Lib.hid hdu
                        clear hZ q0 q1 q2 q3 q4 q5 q6 HS3 S4 hO1 hc1 hdu hkk
                        go_wp2_with fail
                        refine (num_any E _).mono ?_
                        rintro e w5 ⟨rfl, hw5⟩
                        rw [← hw5]
                        clear hw5 w5
                        by_cases hE : E = 0
                        · have eE : (E == 0) = true := by simp [hE]
                          have hdd := HDU.out hE
                          clear hE
                          obtain ⟨FE, hFE⟩ := HS4.out.fst.tab
                          go_wp2_with fail
                          refine (next_any_ B t FE T1 W4 hFE).mono ?_
                          rintro e W5 ⟨rfl, K5⟩
                          have HS5 := Lib.hid (HS4.out.keep K5)
                          unfold nextV
                          cases hfr : firstR T1.l with
                          | none =>
                            simp only
                            clear hdd hfr K5
                            go_wp2_with fail
                            go_meet
                            case rel => exact ⟨T1, HS5.out.fst.imp (fun V h => h.1), HO1.out, HC1.out, HRE.out⟩
                          | some r =>
                            have hd := hdd r hfr
                            simp only
                            have dd : decide (r.d ≤ a0) = false := decide_eq_false (by omega)
                            clear hdd hfr K5 hd
                            go_wp2_with fail
                            go_meet
                            case rel => exact ⟨T1, HS5.out.fst.imp (fun V h => h.1), HO1.out, HC1.out, HRE.out⟩
                        · have eE : (E == 0) = false := by simp [hE]
                          clear hE
                          go_wp2_with fail
                          go_meet
                          case rel => exact ⟨T1, HS4.out.fst.imp (fun V h => h.1), HO1.out, HC1.out, HRE.out⟩
                      · have e7 : (wh == 7) = false := by simp [h7]
                        clear h7
                        by_cases h8 : wh = 8
                        · have e8 : (wh == 8) = true := by simp [h8]
                          clear h8
                          go_wp2_with fail
                          refine (seen_TT w w9 B t CU u T T _ HS3.out).mono ?_
                          rintro e W4 ⟨rfl, S4⟩
                          have HRE := Lib.hid (show (seenT T).1.rf ≤ (k : Int) + 1 from by show T.rf ≤ _; omega)
                          clear hkk
                          go_wp2_with fail
                          go_meet
                          case rel => exact ⟨_, S4.fst.imp (fun V h => h.1), HREL.out.ow.seen, HREL.out.hc, HRE.out⟩
                        · have e8 : (wh == 8) = false := by simp [h8]
                          clear h8
                          go_wp2_with fail
                          go_meet
                          case rel => exact ⟨T, HS3.out.fst.imp (fun V h => h.1), HREL.out.ow, HREL.out.hc, by omega⟩
            case rest =>
              obtain ⟨T2, S6, O6, hc6, rf6⟩ := hcut
              have HS6 := Lib.hid S6
              have HO6 := Lib.hid O6
              have HC6 := Lib.hid hc6
              have HF6 := Lib.hid rf6
              clear q0 q1 q2 q3 q4 q5 q6 HS3 S6 O6 hc6 rf6
              obtain ⟨bd, hbd⟩ : ∃ bd, wc.heap.size = bd := ⟨_, rfl⟩
              obtain ⟨W6, hW6, kW6, BD⟩ : ∃ W6, wc.alloc (.cells #[.int .i64 0] 3) = W6 ∧ Kp wc W6 ∧ Blk W6 bd 3 #[.int .i64 0] := ⟨_, rfl, (Kp.refl _).alloc _, by rw [← hbd]; exact Blk.new _ _ _⟩
              have HBD0 := Lib.hid BD
              have HK6 := Lib.hid kW6
              have Hbd := Lib.hid (show wc.heap.size ≤ bd by omega)
              have HW6 := Lib.hid hW6
              clear BD kW6 hW6
              go_wp2_with fail
              rw [HW6.out]
              clear HW6 hbd
              obtain ⟨FZ0, hFZ0⟩ := (HS6.out.keep HK6.out).tab
              refine (all_any B t FZ0 T2 W6 hFZ0).mono ?_
              rintro e ws ⟨x1, A1, c1, rfl, hM1, K7, HB9X, HB9Y⟩
              have hbl6 := HBD0.out.lt
              have HMA := Lib.hid hM1
              have hq1 := fun w => all_seq43 x1 w
              obtain ⟨L, hL⟩ : ∃ L, T2.l = L := ⟨_, rfl⟩
              rw [hL] at HMA
              have HLL := Lib.hid hL
              have Hn := Lib.hid (show L.length ≤ 900000 by
                obtain ⟨q, mp, m, A, QF, l, _, X⟩ := hFZ0
                rw [← hL]
                exact X.n)
              have HBD := Lib.hid (HBD0.out.keep K7)
              have HKS := Lib.hid (HK6.out.trans K7)
              have HXB := Lib.hid (show bd < x1 ∧ ∀ a, A1 = some a → bd < a.block from ⟨by have := HB9X; omega, fun a e => by have := HB9Y a e; omega⟩)
              clear hM1 hL hFZ0 HBD0 HK6 K7
              unfold allV
              go_wp2_with fail
              clear hq1
              have HBC0 := Lib.hid ((HS6.out.keep HKS.out).p.1)
              have Hb1 := Lib.hid HBC0.out.lt
              have Hbb : Hid (b < bd) := Lib.hid (by have := HS6.out.p.1.lt; have := Hbd.out; omega)
              refine wp_range_join_a (N := L.length) rfl call_all1 (all1_iter x1 A1 c1 L Hn.out) (fun _ _ => rfl)
                (RI ws bd L) (fun _ _ => False) (RI ws bd L L.length)
                ?_ (fun _ _ _ h => h.elim) ?_ ⟨HBD.out, Only.refl _ _⟩ (fun _ h => h) (fun _ _ _ _ h => h.elim) ?_ ?_
              · intro k' V V' h hO
                exact h.only hO (by simp) HBD.out.lt
              · intro k' V h
                exact HMA.out.only h.2 (by have := HXB.out.1; simp; omega) (fun a e => by have := HXB.out.2 a e; simp; omega)
              · rintro l' k' V hk' h hsV
                have HI := Lib.hid h
                rw [rtAt_eq hk']
                obtain ⟨r, hr⟩ : ∃ r, L[k'] = r := ⟨_, rfl⟩
                rw [hr]
                have HRK := Lib.hid hr
                have Hbl := Lib.hid HBD.out.lt
                clear h hr
                gi_wp2_with fail
                refine ⟨?_, fun U => Blk U V.heap.size 48 (roC r) ∧ RI ws bd L k' U, ⟨Blk.new _ _ _, HI.out.only (Only.of_kp ((Kp.refl _).alloc _)) (bs := []) (by simp) Hbl.out⟩, ?_, ?_⟩
                · rw [Kept2]
                  exact ⟨Below.heap_alloc _ _ _ (by omega), Below.heap_alloc _ _ _ (by omega)⟩
                · rintro X X' ⟨h0, h1⟩ hO
                  exact ⟨h0.only hO (by simp <;> omega), h1.only hO (by simp) Hbl.out⟩
                · rintro V2 ⟨h0, h1⟩ hsz
                  have HSZ := Lib.hid (show ws.heap.size + 1 < V2.heap.size from hsz)
                  obtain ⟨br, hbr⟩ : ∃ br, V.heap.size = br := ⟨_, rfl⟩
                  rw [hbr] at h0 ⊢
                  have Hbr := Lib.hid (show ws.heap.size + 1 < br by omega)
                  clear hbr
                  have HBr := Lib.hid h0
                  have HRI := Lib.hid h1
                  have HBC := Lib.hid (HBC0.out.only h1.2 (by have := Hbb.out; simp; omega))
                  have HRO := Lib.hid (HS.out.rd.keep (h1.2.kp (HS6.out.kp.trans HKS.out) (fun b' hb' => by have := HS6.out.kp.size; have := Hbd.out; simp at hb'; omega)))
                  have HIN : r ∈ L := by rw [← HRK.out]; exact List.getElem_mem hk'
                  have hs0 : ¬ r.s = 0 := (HS6.out.gd.ok.r r (by rw [HLL.out]; exact HIN)).2
                  have hod := HO6.out.d r (by rw [HLL.out]; exact HIN)
                  rw [HC6.out] at hod
                  have es0 : (r.s == 0) = false := by simp [hs0]
                  have Hhk := Lib.hid hk'
                  clear hs0 h0 h1 HIN
                  refine wpIn_block ?_
                  repeat refine wpIn_seq ?_
                  by_cases h1s : r.s = 1
                  · have es1 : (r.s == 1) = true := by simp [h1s]
                    have HOW := Lib.hid (show decide (r.p ∈ c.own) = true from decide_eq_true (hod.1 h1s))
                    have HDN := Lib.hid (show directN (L.take (k' + 1)) = directN (L.take k') + 1 by rw [directN_step hk', HRK.out, if_pos h1s])
                    clear hod h1s
                    refine round_anyZ [147, 148, 149, 150, 151, 152, 153, 154, 155, 156, 157, 158, 159] [.pointer (some ⟨br, 2, none⟩), .int .i64 r.s, .bool false, .bool false, .pointer (some ⟨br, 2, none⟩), .int .i64 r.s, .bool true, .agg #[.int .i64 c.t0, .int .i64 c.t1, .int .i64 c.t2, .int .i64 c.t3, .int .i64 c.t4, .int .i64 c.t5, .int .i64 c.t6, .int .i64 c.cap, .slice A c.own.length m], .pointer (some ⟨br, 0, none⟩), .agg #[.int .u32 (r.p.a : Int), .int .i64 r.p.l], .bool true, .bool false, .bool false] [true, true, true, true, true, true, true, true, true, true, true, true, true] (by kernel_rfl) (by kernel_rfl) (by kernel_rfl) (no_out (no_out (no_out_block no_out_round))) (by kernel_rfl) rfl rfl (by decide) rfl rfl rfl ?_ ?_
                    · intro i o a w9 ho hw f g hkp K hK
                      have hi : i < 13 := by have := (List.getElem?_eq_some_iff.1 ho).1; simpa using this
                      have hcs : i = 0 ∨ i = 1 ∨ i = 2 ∨ i = 3 ∨ i = 4 ∨ i = 5 ∨ i = 6 ∨ i = 7 ∨ i = 8 ∨ i = 9 ∨ i = 10 ∨ i = 11 ∨ i = 12 := by omega
                      clear hi
                      rcases hcs with rfl | rfl | rfl | rfl | rfl | rfl | rfl | rfl | rfl | rfl | rfl | rfl | rfl
                      all_goals
                        first | simp only [List.getElem?_cons_zero, List.getElem?_cons_succ, Option.some.injEq] at ho | replace ho := Option.some.inj ho
                        subst ho
                      · have t21 : a.tmps[21]?.getD undef = .pointer (some ⟨br, 0, none⟩) := g 21 (by decide)
                        unfold Oper.wp
                        simp only [execOp, Act.eval, Array.getD_eq_getD_getElem?]
                        go_simp
                        exact hK _ _ (Kp.refl _) rfl
                      · have t147 : a.tmps[147]?.getD undef = .pointer (some ⟨br, 2, none⟩) := f 0 rfl
                        have r2 : w9.cell? ⟨br, 2, none⟩ = some (.int .i64 r.s) := (HBr.out.keep hkp).cell 2
                        unfold Oper.wp
                        simp only [execOp, Act.eval, Array.getD_eq_getD_getElem?]
                        go_simp
                        exact hK _ _ (Kp.refl _) rfl
                      · have t148 : a.tmps[148]?.getD undef = .int .i64 r.s := f 1 rfl
                        unfold Oper.wp
                        simp only [execOp, Act.eval, Array.getD_eq_getD_getElem?]
                        go_simp
                        exact hK _ _ (Kp.refl _) rfl
                      · have t149 : a.tmps[149]?.getD undef = .bool false := f 2 rfl
                        unfold Oper.wp
                        simp only [execOp, Act.eval, Array.getD_eq_getD_getElem?]
                        go_simp
                        exact hK _ _ (Kp.refl _) rfl
                      · have t21 : a.tmps[21]?.getD undef = .pointer (some ⟨br, 0, none⟩) := g 21 (by decide)
                        unfold Oper.wp
                        simp only [execOp, Act.eval, Array.getD_eq_getD_getElem?]
                        go_simp
                        exact hK _ _ (Kp.refl _) rfl
                      · have t151 : a.tmps[151]?.getD undef = .pointer (some ⟨br, 2, none⟩) := f 4 rfl
                        have r2 : w9.cell? ⟨br, 2, none⟩ = some (.int .i64 r.s) := (HBr.out.keep hkp).cell 2
                        unfold Oper.wp
                        simp only [execOp, Act.eval, Array.getD_eq_getD_getElem?]
                        go_simp
                        exact hK _ _ (Kp.refl _) rfl
                      · have t152 : a.tmps[152]?.getD undef = .int .i64 r.s := f 5 rfl
                        unfold Oper.wp
                        simp only [execOp, Act.eval, Array.getD_eq_getD_getElem?]
                        go_simp
                        exact hK _ _ (Kp.refl _) rfl
                      · have t2 : a.tmps[2]?.getD undef = .pointer (some ⟨b, 0, none⟩) := g 2 (by decide)
                        obtain ⟨s0, s1, s2, s3, s4, s5, s6, s7, s8⟩ := cf_cells (HBC.out.keep hkp)
                        unfold Oper.wp
                        simp only [execOp, Act.eval, Array.getD_eq_getD_getElem?]
                        go_simp
                        exact hK _ _ (Kp.refl _) rfl
                      · have t21 : a.tmps[21]?.getD undef = .pointer (some ⟨br, 0, none⟩) := g 21 (by decide)
                        unfold Oper.wp
                        simp only [execOp, Act.eval, Array.getD_eq_getD_getElem?]
                        go_simp
                        exact hK _ _ (Kp.refl _) rfl
                      · have t155 : a.tmps[155]?.getD undef = .pointer (some ⟨br, 0, none⟩) := f 8 rfl
                        have r0 : w9.cell? ⟨br, 0, none⟩ = some (.int .u32 (r.p.a : Int)) := (HBr.out.keep hkp).cell 0
                        have r1 : w9.cell? ⟨br, 1, none⟩ = some (.int .i64 r.p.l) := (HBr.out.keep hkp).cell 1
                        unfold Oper.wp
                        simp only [execOp, Act.eval, Array.getD_eq_getD_getElem?]
                        go_simp
                        exact hK _ _ (Kp.refl _) rfl
                      · have t154 : a.tmps[154]?.getD undef = .agg #[.int .i64 c.t0, .int .i64 c.t1, .int .i64 c.t2, .int .i64 c.t3, .int .i64 c.t4, .int .i64 c.t5, .int .i64 c.t6, .int .i64 c.cap, .slice A c.own.length m] := f 7 rfl
                        have t156 : a.tmps[156]?.getD undef = .agg #[.int .u32 (r.p.a : Int), .int .i64 r.p.l] := f 9 rfl
                        unfold Oper.wp
                        simp only [execOp, Act.eval, Array.getD_eq_getD_getElem?]
                        go_simp
                        refine (owns_any c A m r.p w9 (HRO.out.keep hkp) HL20.out).mono ?_
                        rintro e wb ⟨rfl, hKc⟩
                        rw [HOW.out]
                        exact hK _ _ hKc rfl
                      · have t153 : a.tmps[153]?.getD undef = .bool true := f 6 rfl
                        have t157 : a.tmps[157]?.getD undef = .bool true := f 10 rfl
                        unfold Oper.wp
                        simp only [execOp, Act.eval, Array.getD_eq_getD_getElem?]
                        go_simp
                        exact hK _ _ (Kp.refl _) rfl
                      · have t150 : a.tmps[150]?.getD undef = .bool false := f 3 rfl
                        have t158 : a.tmps[158]?.getD undef = .bool false := f 11 rfl
                        unfold Oper.wp
                        simp only [execOp, Act.eval, Array.getD_eq_getD_getElem?]
                        go_simp
                        exact hK _ _ (Kp.refl _) rfl
                    intro w9 KV
                    (try simp only [Exit.then])
                    simp only [wrS, List.zip_cons_cons, List.zip_nil_right, List.foldl_cons, List.foldl_nil, List.setIfInBounds_toArray, List.set_cons_zero, List.set_cons_succ]
                    have HD := Lib.hid (HRI.out.1.keep KV)
                    have HO9 := Lib.hid (HRI.out.2.thenKp KV)
                    have d0 : w9.cell? ⟨bd, 0, none⟩ = some (.int .i64 (directN (L.take k') : Int)) := HD.out.cell 0
                    have zd := HD.out.frozen 0
                    have r2 : w9.cell? ⟨br, 2, none⟩ = some (.int .i64 r.s) := (HBr.out.keep KV).cell 2
                    obtain ⟨dn, hdn⟩ : ∃ dn : Int, (directN (L.take k') : Int) = dn := ⟨_, rfl⟩
                    have hdl := directN_le (L.take k')
                    have hlt9 := Hn.out
                    have hlk := Hhk.out
                    have htl : (L.take k').length = k' := by rw [List.length_take]; omega
                    rw [hdn] at d0
                    have m1 : -9223372036854775808 ≤ dn + 1 := by omega
                    have m2 : dn + 1 ≤ 9223372036854775807 := by omega
                    have HDD := Lib.hid (show (directN (L.take (k' + 1)) : Int) = dn + 1 by rw [HDN.out]; omega)
                    have OV := Lib.hid KV
                    clear hdn hdl hlt9 htl hlk KV
                    gi_wp2_with fail
                    refine ⟨⟨(Below.heap_setCell _ _ _ _ (by have := HBD.out.lt; simp; omega)).trans (OV.out.heap (by have := HSZ.out; omega)), (Below.heap_setCell _ _ _ _ (by have := HBD.out.lt; simp; omega)).trans (OV.out.heap (by have := HSZ.out; omega))⟩, ?_, HO9.out.setCell (.inl (by simp)) _⟩
                    rw [HDD.out]
                    simpa using HD.out.set_ 0 (.int .i64 (dn + 1))
                  · have es1 : (r.s == 1) = false := by simp [h1s]
                    have HOW := Lib.hid (show decide (r.p ∈ c.own) = false from decide_eq_false (fun z => h1s (hod.2 z)))
                    have HDN := Lib.hid (show directN (L.take (k' + 1)) = directN (L.take k') by rw [directN_step hk', HRK.out, if_neg h1s]; rfl)
                    clear hod h1s
                    refine round_anyZ [147, 148, 149, 150, 151, 152, 153, 154, 155, 156, 157, 158, 159] [.pointer (some ⟨br, 2, none⟩), .int .i64 r.s, .bool false, .bool false, .pointer (some ⟨br, 2, none⟩), .int .i64 r.s, .bool false, .agg #[.int .i64 c.t0, .int .i64 c.t1, .int .i64 c.t2, .int .i64 c.t3, .int .i64 c.t4, .int .i64 c.t5, .int .i64 c.t6, .int .i64 c.cap, .slice A c.own.length m], .pointer (some ⟨br, 0, none⟩), .agg #[.int .u32 (r.p.a : Int), .int .i64 r.p.l], .bool false, .bool false, .bool false] [true, true, true, true, true, true, true, true, true, true, true, true, true] (by kernel_rfl) (by kernel_rfl) (by kernel_rfl) (no_out (no_out (no_out_block no_out_round))) (by kernel_rfl) rfl rfl (by decide) rfl rfl rfl ?_ ?_
                    · intro i o a w9 ho hw f g hkp K hK
                      have hi : i < 13 := by have := (List.getElem?_eq_some_iff.1 ho).1; simpa using this
                      have hcs : i = 0 ∨ i = 1 ∨ i = 2 ∨ i = 3 ∨ i = 4 ∨ i = 5 ∨ i = 6 ∨ i = 7 ∨ i = 8 ∨ i = 9 ∨ i = 10 ∨ i = 11 ∨ i = 12 := by omega
                      clear hi
                      rcases hcs with rfl | rfl | rfl | rfl | rfl | rfl | rfl | rfl | rfl | rfl | rfl | rfl | rfl
                      all_goals
                        first | simp only [List.getElem?_cons_zero, List.getElem?_cons_succ, Option.some.injEq] at ho | replace ho := Option.some.inj ho
                        subst ho
                      · have t21 : a.tmps[21]?.getD undef = .pointer (some ⟨br, 0, none⟩) := g 21 (by decide)
                        unfold Oper.wp
                        simp only [execOp, Act.eval, Array.getD_eq_getD_getElem?]
                        go_simp
                        exact hK _ _ (Kp.refl _) rfl
                      · have t147 : a.tmps[147]?.getD undef = .pointer (some ⟨br, 2, none⟩) := f 0 rfl
                        have r2 : w9.cell? ⟨br, 2, none⟩ = some (.int .i64 r.s) := (HBr.out.keep hkp).cell 2
                        unfold Oper.wp
                        simp only [execOp, Act.eval, Array.getD_eq_getD_getElem?]
                        go_simp
                        exact hK _ _ (Kp.refl _) rfl
                      · have t148 : a.tmps[148]?.getD undef = .int .i64 r.s := f 1 rfl
                        unfold Oper.wp
                        simp only [execOp, Act.eval, Array.getD_eq_getD_getElem?]
                        go_simp
                        exact hK _ _ (Kp.refl _) rfl
                      · have t149 : a.tmps[149]?.getD undef = .bool false := f 2 rfl
                        unfold Oper.wp
                        simp only [execOp, Act.eval, Array.getD_eq_getD_getElem?]
                        go_simp
                        exact hK _ _ (Kp.refl _) rfl
                      · have t21 : a.tmps[21]?.getD undef = .pointer (some ⟨br, 0, none⟩) := g 21 (by decide)
                        unfold Oper.wp
                        simp only [execOp, Act.eval, Array.getD_eq_getD_getElem?]
                        go_simp
                        exact hK _ _ (Kp.refl _) rfl
                      · have t151 : a.tmps[151]?.getD undef = .pointer (some ⟨br, 2, none⟩) := f 4 rfl
                        have r2 : w9.cell? ⟨br, 2, none⟩ = some (.int .i64 r.s) := (HBr.out.keep hkp).cell 2
                        unfold Oper.wp
                        simp only [execOp, Act.eval, Array.getD_eq_getD_getElem?]
                        go_simp
                        exact hK _ _ (Kp.refl _) rfl
                      · have t152 : a.tmps[152]?.getD undef = .int .i64 r.s := f 5 rfl
                        unfold Oper.wp
                        simp only [execOp, Act.eval, Array.getD_eq_getD_getElem?]
                        go_simp
                        exact hK _ _ (Kp.refl _) rfl
                      · have t2 : a.tmps[2]?.getD undef = .pointer (some ⟨b, 0, none⟩) := g 2 (by decide)
                        obtain ⟨s0, s1, s2, s3, s4, s5, s6, s7, s8⟩ := cf_cells (HBC.out.keep hkp)
                        unfold Oper.wp
                        simp only [execOp, Act.eval, Array.getD_eq_getD_getElem?]
                        go_simp
                        exact hK _ _ (Kp.refl _) rfl
                      · have t21 : a.tmps[21]?.getD undef = .pointer (some ⟨br, 0, none⟩) := g 21 (by decide)
                        unfold Oper.wp
                        simp only [execOp, Act.eval, Array.getD_eq_getD_getElem?]
                        go_simp
                        exact hK _ _ (Kp.refl _) rfl
                      · have t155 : a.tmps[155]?.getD undef = .pointer (some ⟨br, 0, none⟩) := f 8 rfl
                        have r0 : w9.cell? ⟨br, 0, none⟩ = some (.int .u32 (r.p.a : Int)) := (HBr.out.keep hkp).cell 0
                        have r1 : w9.cell? ⟨br, 1, none⟩ = some (.int .i64 r.p.l) := (HBr.out.keep hkp).cell 1
                        unfold Oper.wp
                        simp only [execOp, Act.eval, Array.getD_eq_getD_getElem?]
                        go_simp
                        exact hK _ _ (Kp.refl _) rfl
                      · have t154 : a.tmps[154]?.getD undef = .agg #[.int .i64 c.t0, .int .i64 c.t1, .int .i64 c.t2, .int .i64 c.t3, .int .i64 c.t4, .int .i64 c.t5, .int .i64 c.t6, .int .i64 c.cap, .slice A c.own.length m] := f 7 rfl
                        have t156 : a.tmps[156]?.getD undef = .agg #[.int .u32 (r.p.a : Int), .int .i64 r.p.l] := f 9 rfl
                        unfold Oper.wp
                        simp only [execOp, Act.eval, Array.getD_eq_getD_getElem?]
                        go_simp
                        refine (owns_any c A m r.p w9 (HRO.out.keep hkp) HL20.out).mono ?_
                        rintro e wb ⟨rfl, hKc⟩
                        rw [HOW.out]
                        exact hK _ _ hKc rfl
                      · have t153 : a.tmps[153]?.getD undef = .bool false := f 6 rfl
                        have t157 : a.tmps[157]?.getD undef = .bool false := f 10 rfl
                        unfold Oper.wp
                        simp only [execOp, Act.eval, Array.getD_eq_getD_getElem?]
                        go_simp
                        exact hK _ _ (Kp.refl _) rfl
                      · have t150 : a.tmps[150]?.getD undef = .bool false := f 3 rfl
                        have t158 : a.tmps[158]?.getD undef = .bool false := f 11 rfl
                        unfold Oper.wp
                        simp only [execOp, Act.eval, Array.getD_eq_getD_getElem?]
                        go_simp
                        exact hK _ _ (Kp.refl _) rfl
                    intro w9 KV
                    (try simp only [Exit.then])
                    simp only [wrS, List.zip_cons_cons, List.zip_nil_right, List.foldl_cons, List.foldl_nil, List.setIfInBounds_toArray, List.set_cons_zero, List.set_cons_succ]
                    have r2 : w9.cell? ⟨br, 2, none⟩ = some (.int .i64 r.s) := (HBr.out.keep KV).cell 2
                    have HD := Lib.hid (HRI.out.1.keep KV)
                    have HO9 := Lib.hid (HRI.out.2.thenKp KV)
                    have OV := Lib.hid KV
                    clear KV
                    gi_wp2_with fail
                    refine ⟨⟨OV.out.heap (by have := HSZ.out; omega), OV.out.heap (by have := HSZ.out; omega)⟩, ?_, HO9.out⟩
                    rw [HDN.out]
                    exact HD.out
              · rintro V hV hd
                have HD9 := Lib.hid hd
                have KVV := Lib.hid (hV.2.kp HKS.out (fun b' hb' => by have := Hbd.out; simp at hb'; omega))
                have hS9 := HS6.out.add KVV.out (fun V' => V'.heap[ws.heap.size]? = some (.deferred (some []))) (fun V' h => (h _ (by have := HKS.out.size; omega) (Array.getElem?_eq_some_iff.1 hd).1).trans hd)
                have HS9 := Lib.hid hS9
                obtain ⟨FZ, hFZ⟩ := hS9.tab
                have HFZ := Lib.hid hFZ
                have HBC := Lib.hid hS9.p.1.1
                obtain ⟨cap, hcap⟩ : ∃ cap, c.cap = cap := ⟨_, rfl⟩
                have HCP := Lib.hid hcap
                obtain ⟨n1, hn1⟩ : ∃ n1, (T2.l.length : Int) = n1 := ⟨_, rfl⟩
                have HN1 := Lib.hid hn1
                obtain ⟨no, hno⟩ : ∃ no, (c.own.length : Int) = no := ⟨_, rfl⟩
                have HNO := Lib.hid hno
                have dcap : decide (cap < n1) = false := decide_eq_false (by have := HS6.out.gd.ok.n; rw [HC6.out] at this; omega)
                have hdir := direct_own HO6.out HS6.out.gd.ok
                have hB9 := hV.1
                rw [List.take_length, ← HLL.out, hdir, HC6.out, hno] at hB9
                have HBD9 := Lib.hid hB9
                have HBD := HBD9
                clear hS9 hFZ hd hV hcap hn1 hno hdir hB9
                go_upto_region 43 with (fail)
                refine wp_anyZ [165, 166, 167, 168, 169, 170, 171, 172, 173, 174, 175, 176] [.pointer (some ⟨t, 0, none⟩), .int .i64 n1, .pointer (some ⟨b, 7, none⟩), .int .i64 cap, .bool false, .bool false, .int .i64 no, .pointer (some ⟨b, 8, none⟩), .slice A c.own.length m, .int .i64 no, .bool false, .bool false] [true, true, true, true, true, true, true, true, true, true, true, true] (by kernel_rfl) (by kernel_rfl) (by kernel_rfl) rfl rfl (by decide) rfl rfl rfl ?_ ?_
                · intro i o a w9 ho hw f g hkp K hK
                  have hi : i < 12 := by have := (List.getElem?_eq_some_iff.1 ho).1; simpa using this
                  have hcs : i = 0 ∨ i = 1 ∨ i = 2 ∨ i = 3 ∨ i = 4 ∨ i = 5 ∨ i = 6 ∨ i = 7 ∨ i = 8 ∨ i = 9 ∨ i = 10 ∨ i = 11 := by omega
                  clear hi
                  rcases hcs with rfl | rfl | rfl | rfl | rfl | rfl | rfl | rfl | rfl | rfl | rfl | rfl
                  all_goals
                    first | simp only [List.getElem?_cons_zero, List.getElem?_cons_succ, Option.some.injEq] at ho | replace ho := Option.some.inj ho
                    subst ho
                  · have t5 : a.tmps[5]?.getD undef = .pointer (some ⟨t, 0, none⟩) := g 5 (by decide)
                    unfold Oper.wp
                    simp only [execOp, Act.eval, Array.getD_eq_getD_getElem?]
                    go_simp
                    exact hK _ _ (Kp.refl _) rfl
                  · have t165 : a.tmps[165]?.getD undef = .pointer (some ⟨t, 0, none⟩) := f 0 rfl
                    unfold Oper.wp
                    simp only [execOp, Act.eval, Array.getD_eq_getD_getElem?]
                    go_simp
                    refine (len_any_ B t FZ T2 w9 (HFZ.out.keep hkp)).mono ?_
                    rintro e wb ⟨rfl, hwb⟩
                    rw [hwb, HN1.out]
                    have hKc := Kp.refl w9
                    exact hK _ _ hKc rfl
                  · have t2 : a.tmps[2]?.getD undef = .pointer (some ⟨b, 0, none⟩) := g 2 (by decide)
                    unfold Oper.wp
                    simp only [execOp, Act.eval, Array.getD_eq_getD_getElem?]
                    go_simp
                    exact hK _ _ (Kp.refl _) rfl
                  · have t167 : a.tmps[167]?.getD undef = .pointer (some ⟨b, 7, none⟩) := f 2 rfl
                    have s7 : w9.cell? ⟨b, 7, none⟩ = some (.int .i64 cap) := by have := ((HBC.out.keep hkp).cell 7); rw [← HCP.out]; exact this
                    unfold Oper.wp
                    simp only [execOp, Act.eval, Array.getD_eq_getD_getElem?]
                    go_simp
                    exact hK _ _ (Kp.refl _) rfl
                  · have t166 : a.tmps[166]?.getD undef = .int .i64 n1 := f 1 rfl
                    have t168 : a.tmps[168]?.getD undef = .int .i64 cap := f 3 rfl
                    unfold Oper.wp
                    simp only [execOp, Act.eval, Array.getD_eq_getD_getElem?]
                    go_simp
                    exact hK _ _ (Kp.refl _) rfl
                  · have t169 : a.tmps[169]?.getD undef = .bool false := f 4 rfl
                    unfold Oper.wp
                    simp only [execOp, Act.eval, Array.getD_eq_getD_getElem?]
                    go_simp
                    exact hK _ _ (Kp.refl _) rfl
                  · have t18 : a.tmps[18]?.getD undef = .pointer (some ⟨bd, 0, none⟩) := g 18 (by decide)
                    have q0 : w9.cell? ⟨bd, 0, none⟩ = some (.int .i64 no) := (HBD.out.keep hkp).cell 0
                    unfold Oper.wp
                    simp only [execOp, Act.eval, Array.getD_eq_getD_getElem?]
                    go_simp
                    exact hK _ _ (Kp.refl _) rfl
                  · have t2 : a.tmps[2]?.getD undef = .pointer (some ⟨b, 0, none⟩) := g 2 (by decide)
                    unfold Oper.wp
                    simp only [execOp, Act.eval, Array.getD_eq_getD_getElem?]
                    go_simp
                    exact hK _ _ (Kp.refl _) rfl
                  · have t172 : a.tmps[172]?.getD undef = .pointer (some ⟨b, 8, none⟩) := f 7 rfl
                    have s8 : w9.cell? ⟨b, 8, none⟩ = some (.slice A c.own.length m) := (HBC.out.keep hkp).cell 8
                    unfold Oper.wp
                    simp only [execOp, Act.eval, Array.getD_eq_getD_getElem?]
                    go_simp
                    exact hK _ _ (Kp.refl _) rfl
                  · have t173 : a.tmps[173]?.getD undef = .slice A c.own.length m := f 8 rfl
                    have hno := HNO.out
                    unfold Oper.wp
                    simp only [execOp, Act.eval, Array.getD_eq_getD_getElem?]
                    go_simp
                    exact hK _ _ (Kp.refl _) rfl
                  · have t171 : a.tmps[171]?.getD undef = .int .i64 no := f 6 rfl
                    have t174 : a.tmps[174]?.getD undef = .int .i64 no := f 9 rfl
                    unfold Oper.wp
                    simp only [execOp, Act.eval, Array.getD_eq_getD_getElem?]
                    go_simp
                    exact hK _ _ (Kp.refl _) rfl
                  · have t170 : a.tmps[170]?.getD undef = .bool false := f 5 rfl
                    have t175 : a.tmps[175]?.getD undef = .bool false := f 10 rfl
                    unfold Oper.wp
                    simp only [execOp, Act.eval, Array.getD_eq_getD_getElem?]
                    go_simp
                    exact hK _ _ (Kp.refl _) rfl
                intro w9 KV
                (try simp only [Exit.then])
                simp only [wrS, List.zip_cons_cons, List.zip_nil_right, List.foldl_cons, List.foldl_nil, List.setIfInBounds_toArray, List.set_cons_zero, List.set_cons_succ]
                have HSE := Lib.hid ((HS9.out.keep KV).imp (Q := HP c A m b (ws.heap.size :: rs)) (fun V' h => ⟨h.1.1, h.1.2.1, fun r hr => by
                  rcases List.mem_cons.1 hr with rfl | hr
                  · exact h.2
                  · exact h.1.2.2 r hr⟩))
                have HNI : Hid (ws.heap.size ∉ rs) := Lib.hid (fun z => by
                  have h1 := HS6.out.p.2.2 _ z
                  have h2 := (Array.getElem?_eq_some_iff.1 h1).1
                  have := HKS.out.size
                  omega)
                clear KV
                have h60b := H60.out
                go_wp2_with fail
                refine Handed.intro (l.length - (k + 1)) ?_ ?_
                · have := HREL.out.hg
                  omega
                · go_step
                  refine ⟨k + 1, T2, ws.heap.size :: rs, _, ⟨by omega, rfl, HSE.out, HO6.out, HC6.out, by have := HF6.out; omega, List.nodup_cons.2 ⟨HNI.out, HREL.out.nd⟩, ?lo⟩, ?_, ?_, ?_, ?_, ?_, ?f7, rfl⟩
                  case lo =>
                    intro r hr
                    rcases List.mem_cons.1 hr with rfl | hr
                    · have := HKS.out.size
                      have := HS6.out.kp.size
                      omega
                    · exact HREL.out.lo r hr
                  case f7 => first | rfl | go_num | (show Value.int IntKind.i64 ((k : Int) + 1) = _; rfl)
                  all_goals rfl
          · have hgi : ¬ (k : Int) < (l.length : Int) := by omega
            have dg : decide ((k : Int) < (l.length : Int)) = false := decide_eq_false hgi
            go_wp2_with fail
            refine (works_any _ HREL.out.tq.gs.2.2.1 HREL.out.tq.gs.2.2.2).mono ?_
            rintro e w5 ⟨rfl, K5⟩
            have B5 := HREL.out.tq.p.2.1.keep K5
            have x0 : w5.cell? ⟨b + 1, 0, none⟩ = some (.bool false) := B5.cell 0
            have z0 := B5.frozen 0
            have k5 := HREL.out.tq.kp.trans K5
            have hmk : MkP rs w5 := fun r hr => (K5.heap (Array.getElem?_eq_some_iff.1 (HREL.out.tq.p.2.2 r hr)).1).trans (HREL.out.tq.p.2.2 r hr)
            have hne := mk_ne hmk B5
            have HMK : Hid (MkP rs (w5.setCell ⟨b + 1, 0, none⟩ (.bool true))) := Lib.hid (fun r hr => (Below.heap_setCell _ _ _ _ (fun e => hne (by have e2 : r = b + 1 := e; rw [← e2]; exact hr))).trans (hmk r hr))
            have HB6 : Hid (Blk (w5.setCell ⟨b + 1, 0, none⟩ (.bool true)) (b + 1) 4 #[.bool true]) := Lib.hid (by simpa using B5.set_ 0 (.bool true))
            have HK6 : Hid (Kp w (w5.setCell ⟨b + 1, 0, none⟩ (.bool true))) := Lib.hid (k5.setCell (by have := Hb.out; simp <;> omega) _)
            have HNE := Lib.hid hne
            clear hmk hne k5 B5 K5
            go_wp2_with fail
            refine post_takes ?_
            refine takes_all rs _ HREL.out.nd HMK.out (fun W' hO => ⟨.bool true, ?_, rfl, hO.kp HK6.out HREL.out.lo⟩)
            have u0 : W'.cell? ⟨b + 1, 0, none⟩ = some (.bool true) := (HB6.out.only hO HNE.out).cell 0
            simp [results, Tryz.results4, go_sem, u0]
    · have d6 : decide (60 < (l.length : Int)) = true := decide_eq_true (by omega)
      clear h6
      refine calls_of_wp_marks Tryz.func4 rfl ?_; simp only [Tryz.ntmps4, List.size_toArray, List.length_cons, List.length_nil, Nat.reduceAdd, Nat.reduceSub, Array.replicate_succ, Array.replicate_zero, List.push_toArray, List.append_toArray, List.nil_append, List.cons_append]
      go_wp2_with fail
      refine (few_any c A _ m _).mono ?_
      rintro e w1 ⟨rfl, K1⟩
      rw [df]
      go_wp2_with fail
      refine (works_any _ (HC.out.keep (HKW.out.trans K1)) (HF.out.keep (HKW.out.trans K1))).mono ?_
      rintro e w5 ⟨rfl, K5⟩
      have B5 := (HB1.out.keep K1).keep K5
      have x0 : w5.cell? ⟨b + 1, 0, none⟩ = some (.bool false) := B5.cell 0
      have z0 := B5.frozen 0
      have u0 : (w5.setCell ⟨b + 1, 0, none⟩ (.bool true)).cell? ⟨b + 1, 0, none⟩ = some (.bool true) := (B5.set_ 0 _).cell 0
      have HK6 : Hid (Kp w (w5.setCell ⟨b + 1, 0, none⟩ (.bool true))) := Lib.hid (((HKW.out.trans K1).trans K5).setCell (by have := Hb.out; simp <;> omega) _)
      have HU0 := Lib.hid u0
      clear B5 K5 u0
      go_wp2_with fail
      have u0 := HU0.out
      refine post_takes ?_
      exact ⟨.bool true, by simp [results, Tryz.results4, go_sem, u0], rfl, HK6.out⟩
  · have df : decide ((c.own.length : Int) ≤ 20) = false := decide_eq_false hf
    clear hf
    refine calls_of_wp_marks Tryz.func4 rfl ?_; simp only [Tryz.ntmps4, List.size_toArray, List.length_cons, List.length_nil, Nat.reduceAdd, Nat.reduceSub, Array.replicate_succ, Array.replicate_zero, List.push_toArray, List.append_toArray, List.nil_append, List.cons_append]
    go_wp2_with fail
    refine (few_any c A _ m _).mono ?_
    rintro e w1 ⟨rfl, K1⟩
    rw [df]
    go_wp2_with fail
    refine (works_any _ (HC.out.keep (HKW.out.trans K1)) (HF.out.keep (HKW.out.trans K1))).mono ?_
    rintro e w5 ⟨rfl, K5⟩
    have B5 := (HB1.out.keep K1).keep K5
    have x0 : w5.cell? ⟨b + 1, 0, none⟩ = some (.bool false) := B5.cell 0
    have z0 := B5.frozen 0
    have u0 : (w5.setCell ⟨b + 1, 0, none⟩ (.bool true)).cell? ⟨b + 1, 0, none⟩ = some (.bool true) := (B5.set_ 0 _).cell 0
    have HK6 : Hid (Kp w (w5.setCell ⟨b + 1, 0, none⟩ (.bool true))) := Lib.hid (((HKW.out.trans K1).trans K5).setCell (by have := Hb.out; simp <;> omega) _)
    have HU0 := Lib.hid u0
    clear B5 K5 u0
    go_wp2_with fail
    have u0 := HU0.out
    refine post_takes ?_
    exact ⟨.bool true, by simp [results, Tryz.results4, go_sem, u0], rfl, HK6.out⟩
end Go.Proofs.YtffckpkikdlbpaaGreatDoor
