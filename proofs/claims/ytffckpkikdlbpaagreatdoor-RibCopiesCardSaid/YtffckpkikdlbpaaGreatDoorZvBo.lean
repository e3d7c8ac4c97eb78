/- Lemmas and contracts for the theorem of this claim: AcT, AcR. -/
import Derived.Test.YtffckpkikdlbpaaGreatDoorZvBf
import Derived.Test.YtffckpkikdlbpaaGreatDoorZvBn
import Derived.Deep.CutBlock
set_option linter.all false
set_option maxHeartbeats 16000000
namespace Go.Proofs.YtffckpkikdlbpaaGreatDoor
section
open Go.RowKit Go.Maps
theorem vcI {fn : Func} {k i j g : Nat} {ts : Array Value} {W : World} {T : Tb} {A E : Option Addr} {m n : Nat} {u v : Value} (hf : fn.results = #[.tmp i, .cell k 39, .tmp j]) (hk : ts.getD k undef = .pointer (some ⟨g, 0, none⟩)) (hi : ts.getD i undef = u) (hj : ts.getD j undef = v) (B : Blk W g 39 (tbR T A E m n)) : (results fn ts).run Tryz.prog W = .ok (.tuple #[u, tbV T A E m n, v]) W := by
 obtain ⟨u0, u1, u2, u3, u4, u5, u6, u7, u8, u9, u10, u11⟩ := vbj B
 rw [Array.getD_eq_getD_getElem?] at hk hi hj
 simp [results, hf, hk, hi, hj, go_sem, u0, u1, u2, u3, u4, u5, u6, u7, u8, u9, u10, u11]
set_option maxRecDepth 100000 in
theorem vnL (r : Rt) (w : World) : (binOp .eql 48 (.agg #[.int .u32 (r.p.a : Int), .int .i64 r.p.l, .int .i64 r.s, .int .i64 r.m, .int .i64 r.l, .int .i64 r.f, .int .u32 (r.x : Int), .int .i64 r.d, .bool r.c]) (.agg #[.int .u32 (r.p.a : Int), .int .i64 r.p.l, .int .i64 r.s, .int .i64 r.m, .int .i64 r.l, .int .i64 r.f, .int .u32 (r.x : Int), .int .i64 r.d, .bool r.c])).run Tryz.prog w = .ok (.bool true) w := by
 rw [run_eql_struct, run_equalIn_agg w 9999 _ _ _ Tryz.underlying48 (by kernel_rfl)]
 simp [Op.eqFields, part, go_sem, Tryz.underlying3, Tryz.underlying2, Tryz.underlying27, Tryz.underlying4, Tryz.underlying46]
def New (w5 w6 V : World) : Prop := ∀ i, w5.heap.size ≤ i → i < w6.heap.size → V.heap[i]? = w6.heap[i]?
structure ActP (P : World → Prop) (b : Nat) (T : Tb) (A E : Option Addr) (m n : Nat) (x : Ac) (cs : Array Value) (w5 w6 : World) (V : World) : Prop where
 p : ∀ V', Only [b + 1 + 1] V V' → P V'
 tb : Blk V b 39 (tbR T A E m n)
 ac : Blk V (b + 1) 33 (acC x)
 rs : Blk V (b + 1 + 1) 39 cs
 nw : ∀ i, w5.heap.size ≤ i → i < w6.heap.size → V.heap[i]? = w6.heap[i]?
section
variable {w0 W W' w5 w6 w7 : World} {S : Nat → Tb → (World → Prop) → World → Prop} {t b m n : Nat} {T T2 : Tb} {A E E2 : Option Addr} {x : Ac} {P : World → Prop} {cs cs2 : Array Value}
theorem ActP.new (MS : Moves w0 S) (h : S t T2 (ActP P b T A E m n x cs w5 w5) W) (k : Kp W W') (hs : W.heap.size = w5.heap.size) (hW : W'.heap.size = w6.heap.size) (hb : b + 1 + 1 < w5.heap.size) (he : W' = w6) : S t T2 (ActP P b T A E m n x cs w5 w6) W' := by
 subst he
 refine MS.imp (MS.wide (bs := []) h k (by simp) (fun V => ∀ i, w5.heap.size ≤ i → i < W'.heap.size → V.heap[i]? = W'.heap[i]?) (fun V hV i h1 h2 => hV i (by omega) h2)) (fun V hV => ?_)
 have h1 := hV.1 V (Only.refl _ _)
 exact ⟨h1.p, h1.tb, h1.ac, h1.rs, hV.2⟩
theorem ActP.put (MS : Moves w0 S) (h : S t T2 (ActP P b T A E m n x cs w5 w6) W) (hw : w0.heap.size ≤ b) (hb : b + 1 + 1 < w5.heap.size) (k : Only [b + 1 + 1] W W') (hB : Blk W' (b + 1 + 1) 39 cs2) : S t T2 (ActP P b T A E m n x cs2 w5 w6) W' := by
 refine MS.put (g := b + 1 + 1) (Y := 39) (cs := cs2) h (by decide) (by omega) (fun V hV => ⟨cs, hV.rs⟩) (fun V V' hV k2 hB2 => ?_) k hB
 refine ⟨fun V'' k3 => hV.p V'' (k2.trans k3), hV.tb.only k2 (by simp; omega), hV.ac.only k2 (by simp), hB2, fun i h1 h2 => ?_⟩
 have h3 := hV.nw i h1 h2
 have h4 : i < V.heap.size := by
  have h5 : w6.heap[i]? = some w6.heap[i] := Array.getElem?_eq_getElem h2
  rw [h5] at h3
  exact (Array.getElem?_eq_some_iff.1 h3).1
 rw [k2.block i h4 (by simp; omega), h3]
theorem ActP.fin (MS : Moves w0 S) (h : S t T2 (ActP P b T A E m n x cs w5 w6) W) : S t T2 (fun V => P V ∧ New w5 w6 V) W :=
 MS.imp h (fun V hV => ⟨hV.p V (Only.refl _ _), hV.nw⟩)
theorem Stays.more {L L2 : List Rt} (h : Stays W W' E L E2 L2) (k : Kp W' w7) : Stays W w7 E L E2 L2 := fun V h1 h2 => h V h1 (fun i hi hl => (h2 i hi (Nat.lt_of_lt_of_le hl k.size)).trans (k.heap hl))
end
set_option maxRecDepth 100000 in
theorem vfN {w0 : World} {S : Nat → Tb → (World → Prop) → World → Prop} (MS : Moves w0 S) (t : Nat) (T : Tb) (A E : Option Addr) (m n : Nat) (x : Ac) (P : World → Prop) (w : World) (hS : S t T P w) (hP : ∀ V, P V → RfM V T A E) (hx : x.fits) :
  Calls Tryz.prog 14 #[.pointer (some ⟨t, 0, none⟩), tbV T A E m n, .agg (acC x)] w fun e W' => ∃ t2 E2 n2 w5 w6, e = .returned (.tuple #[.pointer (some ⟨t2, 0, none⟩), tbV (actT T x) A E2 m n2, .bool true]) ∧ w.heap.size ≤ w5.heap.size ∧ Stays w5 w6 E T.l E2 (actT T x).l ∧ S t2 (actT T x) (fun V => P V ∧ New w5 w6 V) W' := by
 obtain ⟨b, hb⟩ : ∃ b, w.heap.size = b := ⟨_, rfl⟩
 obtain ⟨W, hW, kW, B0, B1, B2⟩ : ∃ W, ((w.alloc (.cells (tbR T A E m n) 39)).alloc (.cells (acC x) 33)).alloc (.cells zero12 39) = W ∧ Kp w W ∧ Blk W b 39 (tbR T A E m n) ∧ Blk W (b + 1) 33 (acC x) ∧ Blk W (b + 1 + 1) 39 (tbR zeroTb none none 0 0) := ⟨_, rfl, (((Kp.refl _).alloc _).alloc _).alloc _, by rw [← hb]; exact ((Blk.new _ _ _).alloc _).alloc _, by rw [← hb]; exact (Blk.new1 _ _ _ _).alloc _, by rw [← hb]; exact Blk.new2 _ _ _ _ _⟩
 have S1 : Hid (S t T (ActP P b T A E m n x (tbR zeroTb none none 0 0) W W) W) := Lib.hid (MS.imp (MS.wide (bs := [b + 1 + 1]) hS kW (by simp; omega) (fun V => Blk V b 39 (tbR T A E m n) ∧ Blk V (b + 1) 33 (acC x) ∧ Blk V (b + 1 + 1) 39 (tbR zeroTb none none 0 0)) (fun V h => ⟨(h b (by omega) B0.lt).trans B0, (h (b + 1) (by omega) B1.lt).trans B1, (h (b + 1 + 1) (by omega) B2.lt).trans B2⟩)) (fun V h => ⟨h.1, h.2.1, h.2.2.1, h.2.2.2, fun i h1 h2 => by omega⟩))
 have Hw0 : Hid (w0.heap.size ≤ b) := Lib.hid (by rw [← hb]; exact (MS.kp hS).size)
 have Hb := Lib.hid hb
 have HG := Lib.hid (MS.good hS)
 have HX := Lib.hid hx
 have HbW : Hid (b + 1 + 1 < W.heap.size) := Lib.hid B2.lt
 obtain ⟨nw, hnw⟩ : ∃ nw, T.now = nw := ⟨_, rfl⟩
 have HNW0 := Lib.hid (show 0 ≤ nw by rw [← hnw]; exact (MS.good hS).ok.t.1)
 obtain ⟨a0, ha0⟩ : ∃ a0, atV x nw = a0 := ⟨_, rfl⟩
 have HA0 : Hid (atV x T.now = a0) := Lib.hid (by rw [hnw]; exact ha0)
 have HA1 := Lib.hid ha0
 have n10 : W.cell? ⟨b, 10, none⟩ = some (.int .i64 nw) := by rw [← hnw]; exact B0.cell 10
 have p0 := Blk.f B1 rfl
 unfold tbR zero12 acC at hW
 unfold acC
 clear hS hx B0 B1 B2 kW hnw ha0
 go_enter Tryz.func14, Tryz.ntmps14
 go_wp2_with fail
 clear hW
 refine (vnK x nw _ HNW0.out).mono ?_
 rintro e w1 ⟨rfl, K1⟩
 rw [HA1.out]
 clear n10 p0
 have S2 := Lib.hid (MS.keep S1.out K1)
 have HbW1 : Hid (b + 1 + 1 < w1.heap.size) := Lib.hid (by have := HbW.out; have := K1.size; omega)
 have S2 : Hid (S t T (ActP P b T A E m n x (tbR zeroTb none none 0 0) w1 w1) w1) := Lib.hid (MS.imp S2.out (fun V h => ⟨h.p, h.tb, h.ac, h.rs, fun i h1 h2 => by omega⟩))
 clear S1 K1 HbW
 have B1 := (MS.p S2.out).ac
 have q1 := Blk.f B1 rfl
 have u0 := Blk.f (MS.p S2.out).tb rfl
 have HRd : Hid (Rd w1 9 Rt.enc E T.l) := Lib.hid (hP _ ((MS.p S2.out).p _ (Only.refl _ _))).l
 clear B1
 go_upto_block 0 with (fail)
 refine wp_block ?_
 refine wp_seq_k (fun K9 hK9 => ?_)
 go_cut [33] from 33 to 38 (fun s wx => s = .bool (decide (0 ≤ x.wh ∧ x.wh ≤ 4)) ∧ w1 = wx)
 case first =>
  by_cases h0 : x.wh = 0
  ·have e0 : (x.wh == 0) = true := by simp [h0]
   have hd : decide (0 ≤ x.wh ∧ x.wh ≤ 4) = true := decide_eq_true (by omega)
   clear h0
   go_wp2_with fail
   go_meet
   case rel => exact ⟨by first | rw [hd] | rfl, rfl⟩
  ·have e0 : (x.wh == 0) = false := by simp [h0]
   by_cases h1 : x.wh = 1
   ·have e1 : (x.wh == 1) = true := by simp [h1]
    have hd : decide (0 ≤ x.wh ∧ x.wh ≤ 4) = true := decide_eq_true (by omega)
    clear h0 h1
    go_wp2_with fail
    go_meet
    case rel => exact ⟨by first | rw [hd] | rfl, rfl⟩
   ·have e1 : (x.wh == 1) = false := by simp [h1]
    by_cases h2 : x.wh = 2
    ·have e2 : (x.wh == 2) = true := by simp [h2]
     have hd : decide (0 ≤ x.wh ∧ x.wh ≤ 4) = true := decide_eq_true (by omega)
     clear h0 h1 h2
     go_wp2_with fail
     go_meet
     case rel => exact ⟨by first | rw [hd] | rfl, rfl⟩
    ·have e2 : (x.wh == 2) = false := by simp [h2]
     by_cases h3 : x.wh = 3
     ·have e3 : (x.wh == 3) = true := by simp [h3]
      have hd : decide (0 ≤ x.wh ∧ x.wh ≤ 4) = true := decide_eq_true (by omega)
      clear h0 h1 h2 h3
      go_wp2_with fail
      go_meet
      case rel => exact ⟨by first | rw [hd] | rfl, rfl⟩
     ·have e3 : (x.wh == 3) = false := by simp [h3]
      by_cases h4 : x.wh = 4
      ·have e4 : (x.wh == 4) = true := by simp [h4]
       have hd : decide (0 ≤ x.wh ∧ x.wh ≤ 4) = true := decide_eq_true (by omega)
       clear h0 h1 h2 h3 h4
       go_wp2_with fail
       go_meet
       case rel => exact ⟨by first | rw [hd] | rfl, rfl⟩
      ·have e4 : (x.wh == 4) = false := by simp [h4]
       have hd : decide (0 ≤ x.wh ∧ x.wh ≤ 4) = false := decide_eq_false (by omega)
       clear h0 h1 h2 h3 h4
       go_wp2_with fail
       go_meet
       case rel => exact ⟨by first | rw [hd] | rfl, rfl⟩
 case rest =>
  obtain ⟨rfl, rfl⟩ := hcut
  cases hH : decide (0 ≤ x.wh ∧ x.wh ≤ 4) with
  | true =>
   have HH := Lib.hid (of_decide_eq_true hH)
   clear hH
   obtain ⟨⟨T2, R, no⟩, hT2⟩ : ∃ z, heardT T x.p x.h a0 = z := ⟨_, rfl⟩
   have HT2 := Lib.hid hT2
   have HAT : Hid (actT T x = T2) := Lib.hid (by unfold actT; rw [if_pos HH.out, HA0.out, hT2])
   have HC : Hid (T2.c = T.c) := Lib.hid (by have := viQ T x.p x.h a0; rw [hT2] at this; exact this)
   clear hT2
   go_wp2_with fail
   have hcr := vfK T A E m n x.p x.h a0 w1 HRd.out HG.out.ok HX.out.pa HX.out.ha
   rw [HT2.out] at hcr
   refine hcr.mono ?_
   clear hcr
   rintro e w2 ⟨E2, n2, rfl, hst, K2⟩
   have HST := Lib.hid hst
   obtain ⟨W3, hW3, kW3, B10, B11⟩ := Blk.al2 (w := w2) rfl (tbR T2 A E2 m n2) 39 (roC R) 48
   have HK3 := Lib.hid kW3
   have HS3 : Hid (W3.heap.size = w2.heap.size + 1 + 1) := Lib.hid (by rw [← hW3]; simp)
   have S3 := Lib.hid (ActP.new MS S2.out (K2.trans kW3) rfl rfl HbW1.out rfl)
   have HB10 := Lib.hid B10
   have HB11 := Lib.hid B11
   have HK2 := Lib.hid K2
   unfold tbR roC at hW3
   clear hst kW3 B10 B11 K2 q1 u0
   have q2 := Blk.f (MS.p S3.out).ac rfl
   go_wp2_with fail
   clear hW3 q2
   have hcr := MS.hear S3.out x.p x.h a0 ⟨HX.out.pa, HX.out.pl.1, HX.out.pl.2⟩ HX.out.ha
   rw [HT2.out] at hcr
   refine hcr.mono ?_
   clear hcr
   rintro e w4 ⟨rfl, S4⟩
   have HN := Lib.hid (MS.p S4).nw
   obtain ⟨W5, hW5, kW5, B13⟩ := Blk.al1 (w := w4) rfl (roC R) 48
   have hlt4 : W3.heap.size ≤ w4.heap.size := by
    have h1 : w2.heap.size + 1 < w4.heap.size := by
     have h2 := HN.out (w2.heap.size + 1) (by have := HK2.out.size; omega) HB11.out.lt
     rw [HB11.out] at h2
     exact (Array.getElem?_eq_some_iff.1 h2).1
    have h3 := HS3.out
    omega
   have HZ : Hid (Blk W5 (b + 1 + 1) 39 (tbR zeroTb none none 0 0)) := Lib.hid ((MS.p S4).rs.keep kW5)
   have HL10 : Hid (Blk W5 w2.heap.size 39 (tbR T2 A E2 m n2)) := Lib.hid (Blk.keep (w := w4) ((HN.out w2.heap.size HK2.out.size HB10.out.lt).trans HB10.out) kW5)
   have HL11 : Hid (Blk W5 (w2.heap.size + 1) 48 (roC R)) := Lib.hid (Blk.keep (w := w4) ((HN.out (w2.heap.size + 1) (by have := HK2.out.size; omega) HB11.out.lt).trans HB11.out) kW5)
   have HL13 := Lib.hid B13
   have S4 := Lib.hid (MS.keep S4 kW5)
   have hne := HbW1.out
   have hk2 := HK2.out.size
   have hN1 : b + 1 + 1 < w2.heap.size := by omega
   have hN3 : b + 1 + 1 < w4.heap.size := by have := HB11.out.lt; omega
   have HN1 := Lib.hid hN1
   have HN3 := Lib.hid hN3
   unfold roC at hW5
   clear kW5 B13 hlt4 hne hk2 hN1 hN3 HN
   go_upto_region 10 with (fail)
   clear hW5
   obtain ⟨b10, hb10⟩ : ∃ b10, w2.heap.size = b10 := ⟨_, rfl⟩
   obtain ⟨b13, hb13⟩ : ∃ b13, w4.heap.size = b13 := ⟨_, rfl⟩
   rw [hb10] at HL10 HL11 HN1 ⊢
   rw [hb13] at HL13 HN3 ⊢
   clear hb10 hb13
   have hro := vnL R
   refine' vag (fun (_ : Unit) L V9 => Only [b + 1 + 1] W5 V9 ∧ (L 12 = false → Blk V9 (b + 1 + 1) 39 (tbR zeroTb none none 0 0)) ∧ (L 12 = true → Blk V9 (b + 1 + 1) 39 (tbR T2 A E2 m n2))) [60, 61, 62, 63, 64, 65, 66, 67, 68, 69, 70, 6, 10012, 8] (fun z => [.pointer (some ⟨t, 0, none⟩), .agg #[.int .i64 T2.c.t0, .int .i64 T2.c.t1, .int .i64 T2.c.t2, .int .i64 T2.c.t3, .int .i64 T2.c.t4, .int .i64 T2.c.t5, .int .i64 T2.c.t6, .int .i64 T2.c.cap, .slice A T2.c.own.length m, .slice E2 T2.l.length n2, .int .i64 T2.now, .int .i64 T2.rf], .agg #[.int .u32 (R.p.a : Int), .int .i64 R.p.l, .int .i64 R.s, .int .i64 R.m, .int .i64 R.l, .int .i64 R.f, .int .u32 (R.x : Int), .int .i64 R.d, .bool R.c], .agg #[.int .u32 (R.p.a : Int), .int .i64 R.p.l, .int .i64 R.s, .int .i64 R.m, .int .i64 R.l, .int .i64 R.f, .int .u32 (R.x : Int), .int .i64 R.d, .bool R.c], .bool true, .bool true, .int .i64 no, .int .i64 no, .int .i64 no, .bool true, .bool true, .pointer (some ⟨t, 0, none⟩), undef, .bool true]) (List.replicate 14 true) [12] (by kernel_rfl) (by kernel_rfl) (fun _ => rfl) (fun _ => rfl) (fun _ => rfl) () ⟨(Only.refl _ _).drew, fun _ => HZ.out.drew, fun h => (by cases h)⟩ (fun _ L L' _ e h => by simpa only [e 12 (by simp)] using h) ?_ ?_ ?_
   rotate_left
   ·intro z; simp only [List.zip_cons_cons, List.zip_nil_right, wrC, wrN, List.set_cons_zero, List.set_cons_succ, List.set_nil]; rfl
   ·repeat' (first | refine And.intro ?_ ?_ | exact trivial)
    all_goals intro z L a w9 hLi d hcl hM hO K hK
    all_goals have u := Blk.f (HL10.out.only hM.1 (by have := HN1.out; simp <;> omega)) rfl
    all_goals have c := Blk.f (HL13.out.only hM.1 (by have := HN3.out; simp <;> omega)) rfl
    all_goals have q := Blk.f (HL11.out.only hM.1 (by have := HN1.out; simp <;> omega)) rfl
    all_goals try (go_simp; exact hK z _ _ (hO rfl) (fun _ _ => rfl) rfl)
    ·go_simp
     refine (vaP _ _).mono ?_
     rintro e9 wb ⟨rfl, hwb⟩
     rw [← hwb]
     exact hK z _ _ (hO rfl) (fun _ _ => rfl) rfl
    ·have y := Blk.f (hM.2.1 hLi) rfl
     have f := Blk.frozen (hM.2.1 hLi)
     go_simp
     exact hK z _ _ ⟨hM.1.set12 (by simp), fun h => absurd h (by simp), fun _ => Blk.set12 (hM.2.1 hLi)⟩ (fun _ _ => rfl) rfl
   intro z L w9 hL hM
   (try simp only [Exit.then])
   have hM2 := hM
   clear hM
   have HF := Lib.hid (ActP.put MS S4.out Hw0.out HbW1.out hM2.1 (hM2.2.2 (hL 12 (by decide))))
   have HBF := Lib.hid (hM2.2.2 (hL 12 (by decide)))
   clear hM2 hL
   go_wp2_with fail
   refine bodyPost_ret (vcI (T := T2) (A := A) (E := E2) (m := m) (n := n2) rfl rfl rfl rfl HBF.out) rfl ?_
   exact ⟨t, E2, n2, w1, W3, by rw [HAT.out] <;> rfl, by have := HbW1.out; have := Hb.out; omega, by rw [HAT.out]; exact HST.out.more HK3.out, by rw [HAT.out]; exact ActP.fin MS HF.out⟩
  | false =>
   have HH := Lib.hid (of_decide_eq_false hH)
   clear hH
   by_cases h5 : x.wh = 5
   ·have e5 : (x.wh == 5) = true := by simp [h5]
    have HH5 := Lib.hid h5
    clear h5
    obtain ⟨⟨T2, N, no⟩, hT2⟩ : ∃ z, lostT T x.fc a0 = z := ⟨_, rfl⟩
    have HT2 := Lib.hid hT2
    have HAT : Hid (actT T x = T2) := Lib.hid (by unfold actT; rw [if_neg HH.out, if_pos HH5.out, HA0.out, hT2])
    have HC : Hid (T2.c = T.c) := Lib.hid (by have := vlI T x.fc a0; rw [hT2] at this; exact this)
    clear hT2
    go_wp2_with fail
    have hcr := vfI T A E m n x.fc a0 w1 HRd.out HG.out.ok
    rw [HT2.out] at hcr
    refine hcr.mono ?_
    clear hcr
    rintro e w2 ⟨E2, n2, rfl, hst, K2⟩
    have HST := Lib.hid hst
    obtain ⟨W3, hW3, kW3, B10⟩ := Blk.al1 (w := w2) rfl (tbR T2 A E2 m n2) 39
    have HK3 := Lib.hid kW3
    have S3 := Lib.hid (ActP.new MS S2.out (K2.trans kW3) rfl rfl HbW1.out rfl)
    have HB10 := Lib.hid B10
    have HK2 := Lib.hid K2
    unfold tbR at hW3
    clear hst kW3 B10 K2 q1 u0
    have q1 : W3.cell? ⟨b + 1, 1, none⟩ = some (.int .i64 x.fc) := (MS.p S3.out).ac.cell 1
    go_wp2_with fail
    clear hW3 q1
    have hcr := MS.lose S3.out x.fc a0
    rw [HT2.out] at hcr
    refine hcr.mono ?_
    clear hcr
    rintro e W5 ⟨rfl, S4⟩
    have HZ : Hid (Blk W5 (b + 1 + 1) 39 (tbR zeroTb none none 0 0)) := Lib.hid (MS.p S4).rs
    have HL10 : Hid (Blk W5 w2.heap.size 39 (tbR T2 A E2 m n2)) := Lib.hid (((MS.p S4).nw w2.heap.size HK2.out.size HB10.out.lt).trans HB10.out)
    have S4 := Lib.hid S4
    have HN1 : Hid (b + 1 + 1 < w2.heap.size) := Lib.hid (by have := HbW1.out; have := HK2.out.size; omega)
    go_upto_region 14 with (fail)
    obtain ⟨b10, hb10⟩ : ∃ b10, w2.heap.size = b10 := ⟨_, rfl⟩
    rw [hb10] at HL10 HN1 ⊢
    clear hb10
    refine' vag (fun (_ : Unit) L V9 => Only [b + 1 + 1] W5 V9 ∧ (L 12 = false → Blk V9 (b + 1 + 1) 39 (tbR zeroTb none none 0 0)) ∧ (L 12 = true → Blk V9 (b + 1 + 1) 39 (tbR T2 A E2 m n2))) [90, 91, 92, 93, 94, 95, 96, 97, 98, 99, 100, 6, 10012, 8] (fun z => [.pointer (some ⟨t, 0, none⟩), .agg #[.int .i64 T2.c.t0, .int .i64 T2.c.t1, .int .i64 T2.c.t2, .int .i64 T2.c.t3, .int .i64 T2.c.t4, .int .i64 T2.c.t5, .int .i64 T2.c.t6, .int .i64 T2.c.cap, .slice A T2.c.own.length m, .slice E2 T2.l.length n2, .int .i64 T2.now, .int .i64 T2.rf], .int .i64 N, .int .i64 N, .bool true, .bool true, .int .i64 no, .int .i64 no, .int .i64 no, .bool true, .bool true, .pointer (some ⟨t, 0, none⟩), undef, .bool true]) (List.replicate 14 true) [12] (by kernel_rfl) (by kernel_rfl) (fun _ => rfl) (fun _ => rfl) (fun _ => rfl) () ⟨(Only.refl _ _).drew, fun _ => HZ.out.drew, fun h => (by cases h)⟩ (fun _ L L' _ e h => by simpa only [e 12 (by simp)] using h) ?_ ?_ ?_
    rotate_left
    ·intro z; simp only [List.zip_cons_cons, List.zip_nil_right, wrC, wrN, List.set_cons_zero, List.set_cons_succ, List.set_nil]; rfl
    ·repeat' (first | refine And.intro ?_ ?_ | exact trivial)
     all_goals intro z L a w9 hLi d hcl hM hO K hK
     all_goals have u := Blk.f (HL10.out.only hM.1 (by have := HN1.out; simp <;> omega)) rfl
     all_goals try (go_simp; exact hK z _ _ (hO rfl) (fun _ _ => rfl) rfl)
     ·go_simp
      refine (vaP _ _).mono ?_
      rintro e9 wb ⟨rfl, hwb⟩
      rw [← hwb]
      exact hK z _ _ (hO rfl) (fun _ _ => rfl) rfl
     ·have y := Blk.f (hM.2.1 hLi) rfl
      have f := Blk.frozen (hM.2.1 hLi)
      go_simp
      exact hK z _ _ ⟨hM.1.set12 (by simp), fun h => absurd h (by simp), fun _ => Blk.set12 (hM.2.1 hLi)⟩ (fun _ _ => rfl) rfl
    intro z L w9 hL hM
    (try simp only [Exit.then])
    have hM2 := hM
    clear hM
    have HF := Lib.hid (ActP.put MS S4.out Hw0.out HbW1.out hM2.1 (hM2.2.2 (hL 12 (by decide))))
    have HBF := Lib.hid (hM2.2.2 (hL 12 (by decide)))
    clear hM2 hL
    go_wp2_with fail
    refine bodyPost_ret (vcI (T := T2) (A := A) (E := E2) (m := m) (n := n2) rfl rfl rfl rfl HBF.out) rfl ?_
    exact ⟨t, E2, n2, w1, W3, by rw [HAT.out] <;> rfl, by have := HbW1.out; have := Hb.out; omega, by rw [HAT.out]; exact HST.out.more HK3.out, by rw [HAT.out]; exact ActP.fin MS HF.out⟩
   ·have e5 : (x.wh == 5) = false := by simp [h5]
    have HH5 := Lib.hid h5
    clear h5
    by_cases h6 : x.wh = 6
    ·have e6 : (x.wh == 6) = true := by simp [h6]
     have HH6 : Hid (x.wh = 6 ∨ x.wh = 7) := Lib.hid (.inl h6)
     clear h6
     obtain ⟨⟨T2, N, no⟩, hT2⟩ : ∃ z, expT T a0 = z := ⟨_, rfl⟩
     have HT2 := Lib.hid hT2
     have HAT : Hid (actT T x = T2) := Lib.hid (by unfold actT; rw [if_neg HH.out, if_neg HH5.out, if_pos HH6.out, HA0.out, hT2])
     have HC : Hid (T2.c = T.c) := Lib.hid (by have := exp_c T a0; rw [hT2] at this; exact this)
     clear hT2
     go_wp2_with fail
     have hcr := vcs T A E m n a0 w1 HRd.out HG.out.ok
     rw [HT2.out] at hcr
     refine hcr.mono ?_
     clear hcr
     rintro e w2 ⟨E2, n2, rfl, hst, K2⟩
     have HST := Lib.hid hst
     obtain ⟨W3, hW3, kW3, B10⟩ := Blk.al1 (w := w2) rfl (tbR T2 A E2 m n2) 39
     have HK3 := Lib.hid kW3
     have S3 := Lib.hid (ActP.new MS S2.out (K2.trans kW3) rfl rfl HbW1.out rfl)
     have HB10 := Lib.hid B10
     have HK2 := Lib.hid K2
     unfold tbR at hW3
     clear hst kW3 B10 K2 q1 u0
     have q1 : W3.cell? ⟨b + 1, 1, none⟩ = some (.int .i64 x.fc) := (MS.p S3.out).ac.cell 1
     go_wp2_with fail
     clear hW3 q1
     have hcr := MS.exp S3.out a0
     rw [HT2.out] at hcr
     refine hcr.mono ?_
     clear hcr
     rintro e W5 ⟨rfl, S4⟩
     have HZ : Hid (Blk W5 (b + 1 + 1) 39 (tbR zeroTb none none 0 0)) := Lib.hid (MS.p S4).rs
     have HL10 : Hid (Blk W5 w2.heap.size 39 (tbR T2 A E2 m n2)) := Lib.hid (((MS.p S4).nw w2.heap.size HK2.out.size HB10.out.lt).trans HB10.out)
     have S4 := Lib.hid S4
     have HN1 : Hid (b + 1 + 1 < w2.heap.size) := Lib.hid (by have := HbW1.out; have := HK2.out.size; omega)
     go_upto_region 19 with (fail)
     obtain ⟨b10, hb10⟩ : ∃ b10, w2.heap.size = b10 := ⟨_, rfl⟩
     rw [hb10] at HL10 HN1 ⊢
     clear hb10
     refine' vag (fun (_ : Unit) L V9 => Only [b + 1 + 1] W5 V9 ∧ (L 12 = false → Blk V9 (b + 1 + 1) 39 (tbR zeroTb none none 0 0)) ∧ (L 12 = true → Blk V9 (b + 1 + 1) 39 (tbR T2 A E2 m n2))) [117, 118, 119, 120, 121, 122, 123, 124, 125, 126, 127, 6, 10012, 8] (fun z => [.pointer (some ⟨t, 0, none⟩), .agg #[.int .i64 T2.c.t0, .int .i64 T2.c.t1, .int .i64 T2.c.t2, .int .i64 T2.c.t3, .int .i64 T2.c.t4, .int .i64 T2.c.t5, .int .i64 T2.c.t6, .int .i64 T2.c.cap, .slice A T2.c.own.length m, .slice E2 T2.l.length n2, .int .i64 T2.now, .int .i64 T2.rf], .int .i64 N, .int .i64 N, .bool true, .bool true, .int .i64 no, .int .i64 no, .int .i64 no, .bool true, .bool true, .pointer (some ⟨t, 0, none⟩), undef, .bool true]) (List.replicate 14 true) [12] (by kernel_rfl) (by kernel_rfl) (fun _ => rfl) (fun _ => rfl) (fun _ => rfl) () ⟨(Only.refl _ _).drew, fun _ => HZ.out.drew, fun h => (by cases h)⟩ (fun _ L L' _ e h => by simpa only [e 12 (by simp)] using h) ?_ ?_ ?_
     rotate_left
     ·intro z; simp only [List.zip_cons_cons, List.zip_nil_right, wrC, wrN, List.set_cons_zero, List.set_cons_succ, List.set_nil]; rfl
     ·repeat' (first | refine And.intro ?_ ?_ | exact trivial)
      all_goals intro z L a w9 hLi d hcl hM hO K hK
      all_goals have u := Blk.f (HL10.out.only hM.1 (by have := HN1.out; simp <;> omega)) rfl
      all_goals try (go_simp; exact hK z _ _ (hO rfl) (fun _ _ => rfl) rfl)
      ·go_simp
       refine (vaP _ _).mono ?_
       rintro e9 wb ⟨rfl, hwb⟩
       rw [← hwb]
       exact hK z _ _ (hO rfl) (fun _ _ => rfl) rfl
      ·have y := Blk.f (hM.2.1 hLi) rfl
       have f := Blk.frozen (hM.2.1 hLi)
       go_simp
       exact hK z _ _ ⟨hM.1.set12 (by simp), fun h => absurd h (by simp), fun _ => Blk.set12 (hM.2.1 hLi)⟩ (fun _ _ => rfl) rfl
     intro z L w9 hL hM
     (try simp only [Exit.then])
     have hM2 := hM
     clear hM
     have HF := Lib.hid (ActP.put MS S4.out Hw0.out HbW1.out hM2.1 (hM2.2.2 (hL 12 (by decide))))
     have HBF := Lib.hid (hM2.2.2 (hL 12 (by decide)))
     clear hM2 hL
     go_wp2_with fail
     refine bodyPost_ret (vcI (T := T2) (A := A) (E := E2) (m := m) (n := n2) rfl rfl rfl rfl HBF.out) rfl ?_
     exact ⟨t, E2, n2, w1, W3, by rw [HAT.out] <;> rfl, by have := HbW1.out; have := Hb.out; omega, by rw [HAT.out]; exact HST.out.more HK3.out, by rw [HAT.out]; exact ActP.fin MS HF.out⟩
    ·have e6 : (x.wh == 6) = false := by simp [h6]
     by_cases h7 : x.wh = 7
     ·have e7 : (x.wh == 7) = true := by simp [h7]
      have HH6 : Hid (x.wh = 6 ∨ x.wh = 7) := Lib.hid (.inr h7)
      clear h6 h7
      obtain ⟨⟨T2, N, no⟩, hT2⟩ : ∃ z, expT T a0 = z := ⟨_, rfl⟩
      have HT2 := Lib.hid hT2
      have HAT : Hid (actT T x = T2) := Lib.hid (by unfold actT; rw [if_neg HH.out, if_neg HH5.out, if_pos HH6.out, HA0.out, hT2])
      have HC : Hid (T2.c = T.c) := Lib.hid (by have := exp_c T a0; rw [hT2] at this; exact this)
      clear hT2
      go_wp2_with fail
      have hcr := vcs T A E m n a0 w1 HRd.out HG.out.ok
      rw [HT2.out] at hcr
      refine hcr.mono ?_
      clear hcr
      rintro e w2 ⟨E2, n2, rfl, hst, K2⟩
      have HST := Lib.hid hst
      obtain ⟨W3, hW3, kW3, B10⟩ := Blk.al1 (w := w2) rfl (tbR T2 A E2 m n2) 39
      have HK3 := Lib.hid kW3
      have S3 := Lib.hid (ActP.new MS S2.out (K2.trans kW3) rfl rfl HbW1.out rfl)
      have HB10 := Lib.hid B10
      have HK2 := Lib.hid K2
      unfold tbR at hW3
      clear hst kW3 B10 K2 q1 u0
      have q1 : W3.cell? ⟨b + 1, 1, none⟩ = some (.int .i64 x.fc) := (MS.p S3.out).ac.cell 1
      go_wp2_with fail
      clear hW3 q1
      have hcr := MS.exp S3.out a0
      rw [HT2.out] at hcr
      refine hcr.mono ?_
      clear hcr
      rintro e W5 ⟨rfl, S4⟩
      have HZ : Hid (Blk W5 (b + 1 + 1) 39 (tbR zeroTb none none 0 0)) := Lib.hid (MS.p S4).rs
      have HL10 : Hid (Blk W5 w2.heap.size 39 (tbR T2 A E2 m n2)) := Lib.hid (((MS.p S4).nw w2.heap.size HK2.out.size HB10.out.lt).trans HB10.out)
      have S4 := Lib.hid S4
      have HN1 : Hid (b + 1 + 1 < w2.heap.size) := Lib.hid (by have := HbW1.out; have := HK2.out.size; omega)
      go_upto_region 19 with (fail)
      obtain ⟨b10, hb10⟩ : ∃ b10, w2.heap.size = b10 := ⟨_, rfl⟩
      rw [hb10] at HL10 HN1 ⊢
      clear hb10
      refine' vag (fun (_ : Unit) L V9 => Only [b + 1 + 1] W5 V9 ∧ (L 12 = false → Blk V9 (b + 1 + 1) 39 (tbR zeroTb none none 0 0)) ∧ (L 12 = true → Blk V9 (b + 1 + 1) 39 (tbR T2 A E2 m n2))) [117, 118, 119, 120, 121, 122, 123, 124, 125, 126, 127, 6, 10012, 8] (fun z => [.pointer (some ⟨t, 0, none⟩), .agg #[.int .i64 T2.c.t0, .int .i64 T2.c.t1, .int .i64 T2.c.t2, .int .i64 T2.c.t3, .int .i64 T2.c.t4, .int .i64 T2.c.t5, .int .i64 T2.c.t6, .int .i64 T2.c.cap, .slice A T2.c.own.length m, .slice E2 T2.l.length n2, .int .i64 T2.now, .int .i64 T2.rf], .int .i64 N, .int .i64 N, .bool true, .bool true, .int .i64 no, .int .i64 no, .int .i64 no, .bool true, .bool true, .pointer (some ⟨t, 0, none⟩), undef, .bool true]) (List.replicate 14 true) [12] (by kernel_rfl) (by kernel_rfl) (fun _ => rfl) (fun _ => rfl) (fun _ => rfl) () ⟨(Only.refl _ _).drew, fun _ => HZ.out.drew, fun h => (by cases h)⟩ (fun _ L L' _ e h => by simpa only [e 12 (by simp)] using h) ?_ ?_ ?_
      rotate_left
      ·intro z; simp only [List.zip_cons_cons, List.zip_nil_right, wrC, wrN, List.set_cons_zero, List.set_cons_succ, List.set_nil]; rfl
      ·repeat' (first | refine And.intro ?_ ?_ | exact trivial)
       all_goals intro z L a w9 hLi d hcl hM hO K hK
       all_goals have u := Blk.f (HL10.out.only hM.1 (by have := HN1.out; simp <;> omega)) rfl
       all_goals try (go_simp; exact hK z _ _ (hO rfl) (fun _ _ => rfl) rfl)
       ·go_simp
        refine (vaP _ _).mono ?_
        rintro e9 wb ⟨rfl, hwb⟩
        rw [← hwb]
        exact hK z _ _ (hO rfl) (fun _ _ => rfl) rfl
       ·have y := Blk.f (hM.2.1 hLi) rfl
        have f := Blk.frozen (hM.2.1 hLi)
        go_simp
        exact hK z _ _ ⟨hM.1.set12 (by simp), fun h => absurd h (by simp), fun _ => Blk.set12 (hM.2.1 hLi)⟩ (fun _ _ => rfl) rfl
      intro z L w9 hL hM
      (try simp only [Exit.then])
      have hM2 := hM
      clear hM
      have HF := Lib.hid (ActP.put MS S4.out Hw0.out HbW1.out hM2.1 (hM2.2.2 (hL 12 (by decide))))
      have HBF := Lib.hid (hM2.2.2 (hL 12 (by decide)))
      clear hM2 hL
      go_wp2_with fail
      refine bodyPost_ret (vcI (T := T2) (A := A) (E := E2) (m := m) (n := n2) rfl rfl rfl rfl HBF.out) rfl ?_
      exact ⟨t, E2, n2, w1, W3, by rw [HAT.out] <;> rfl, by have := HbW1.out; have := Hb.out; omega, by rw [HAT.out]; exact HST.out.more HK3.out, by rw [HAT.out]; exact ActP.fin MS HF.out⟩
     ·have e7 : (x.wh == 7) = false := by simp [h7]
      have HH6 : Hid (¬ (x.wh = 6 ∨ x.wh = 7)) := Lib.hid (by omega)
      clear h6 h7
      by_cases h8 : x.wh = 8
      ·have e8 : (x.wh == 8) = true := by simp [h8]
       have HH8 := Lib.hid h8
       clear h8
       obtain ⟨⟨T2, N⟩, hT2⟩ : ∃ z, seenT T = z := ⟨_, rfl⟩
       have HT2 := Lib.hid hT2
       have HAT : Hid (actT T x = T2) := Lib.hid (by unfold actT; rw [if_neg HH.out, if_neg HH5.out, if_neg HH6.out, if_pos HH8.out, hT2])
       have HC : Hid (T2.c = T.c) := Lib.hid (by have : (seenT T).1.c = T.c := rfl; rw [hT2] at this; exact this)
       clear hT2
       go_wp2_with fail
       have hcr := vfH T A E m n w1 HRd.out (by have := vcr HG.out.ok; omega)
       rw [HT2.out] at hcr
       refine hcr.mono ?_
       clear hcr
       rintro e w2 ⟨E2, n2, rfl, hst, K2⟩
       have HST := Lib.hid hst
       obtain ⟨W3, hW3, kW3, B10⟩ := Blk.al1 (w := w2) rfl (tbR T2 A E2 m n2) 39
       have HK3 := Lib.hid kW3
       have S3 := Lib.hid (ActP.new MS S2.out (K2.trans kW3) rfl rfl HbW1.out rfl)
       have HB10 := Lib.hid B10
       have HK2 := Lib.hid K2
       unfold tbR at hW3
       clear hst kW3 B10 K2 q1 u0
       go_upto_region 22 with (fail)
       clear hW3
       obtain ⟨b10, hb10⟩ : ∃ b10, w2.heap.size = b10 := ⟨_, rfl⟩
       have HL10 : Hid (∀ V, ActP P b T A E m n x (tbR zeroTb none none 0 0) w1 W3 V → Blk V b10 39 (tbR T2 A E2 m n2)) := Lib.hid (fun V h => by rw [← hb10]; exact (h.nw _ HK2.out.size HB10.out.lt).trans HB10.out)
       have HL11 : Hid (∀ V cs, ActP P b T A E m n x cs w1 W3 V → Blk V b10 39 (tbR T2 A E2 m n2)) := Lib.hid (fun V cs h => by rw [← hb10]; exact (h.nw _ HK2.out.size HB10.out.lt).trans HB10.out)
       rw [hb10]
       clear hb10 HL10
       refine' vag (fun (_ : Unit) L V9 => S t (bif L 3 then T2 else T) (ActP P b T A E m n x (bif L 7 then tbR T2 A E2 m n2 else tbR zeroTb none none 0 0) w1 W3) V9) [135, 136, 137, 138, 139, 140, 6, 10007, 8] (fun z => [.pointer (some ⟨t, 0, none⟩), .agg #[.int .i64 T2.c.t0, .int .i64 T2.c.t1, .int .i64 T2.c.t2, .int .i64 T2.c.t3, .int .i64 T2.c.t4, .int .i64 T2.c.t5, .int .i64 T2.c.t6, .int .i64 T2.c.cap, .slice A T2.c.own.length m, .slice E2 T2.l.length n2, .int .i64 T2.now, .int .i64 T2.rf], .pointer (some ⟨t, 0, none⟩), .int .i64 N, .int .i64 N, .bool true, .pointer (some ⟨t, 0, none⟩), undef, .bool true]) (List.replicate 9 true) [3, 7] (by kernel_rfl) (by kernel_rfl) (fun _ => rfl) (fun _ => rfl) (fun _ => rfl) () (MS.keep S3.out (Kp.refl _).drew) (fun _ L L' _ e h => by simpa only [e 3 (by simp), e 7 (by simp)] using h) ?_ ?_ ?_
       rotate_left
       ·intro z; simp only [List.zip_cons_cons, List.zip_nil_right, wrC, wrN, List.set_cons_zero, List.set_cons_succ, List.set_nil]; rfl
       ·repeat' (first | refine And.intro ?_ ?_ | exact trivial)
        all_goals intro z L a w9 hLi d hcl hM hO K hK
        all_goals have u := Blk.f (HL11.out _ _ (MS.p hM)) rfl
        all_goals try (go_simp; exact hK z _ _ (hO rfl) (fun _ _ => rfl) rfl)
        ·rw [hLi] at hM
         simp only [cond_false] at hM
         go_simp
         have hcr := MS.seen hM
         rw [HT2.out] at hcr
         refine hcr.mono ?_
         rintro e9 wb ⟨rfl, hS9⟩
         exact hK z _ _ (by simpa using hS9) (fun _ _ => rfl) rfl
        ·rw [hLi] at hM
         simp only [cond_false] at hM
         have hBz := (MS.p hM).rs
         have y := Blk.f hBz rfl
         have f := Blk.frozen hBz
         go_simp
         exact hK z _ _ (by simpa using ActP.put MS (cs2 := tbR T2 A E2 m n2) hM Hw0.out HbW1.out (Only.set12 (Only.refl [b + 1 + 1] w9) (by simp)) (Blk.set12 hBz)) (fun _ _ => rfl) rfl
       intro z L w9 hL hM
       (try simp only [Exit.then])
       have hM2 := hM
       rw [hL 3 (by decide), hL 7 (by decide)] at hM2
       clear hM
       have HF := Lib.hid hM2
       have HBF := Lib.hid (MS.p hM2).rs
       clear hM2 hL
       go_wp2_with fail
       refine bodyPost_ret (vcI (T := T2) (A := A) (E := E2) (m := m) (n := n2) rfl rfl rfl rfl HBF.out) rfl ?_
       exact ⟨t, E2, n2, w1, W3, by rw [HAT.out] <;> rfl, by have := HbW1.out; have := Hb.out; omega, by rw [HAT.out]; exact HST.out.more HK3.out, by rw [HAT.out]; exact ActP.fin MS HF.out⟩
      ·have e8 : (x.wh == 8) = false := by simp [h8]
       have HH8 := Lib.hid h8
       clear h8
       have HAT : Hid (actT T x = T) := Lib.hid (by unfold actT; rw [if_neg HH.out, if_neg HH5.out, if_neg HH6.out, if_neg HH8.out])
       clear u0
       go_upto_region 23 with (fail)
       clear q1
       refine' vag (fun (z : Nat) L V9 => S (bif L 1 then z else t) T (ActP P b T A E m n x (bif L 4 then tbR T A E m n else tbR zeroTb none none 0 0) w1 w1) V9) [141, 142, 143, 6, 10004, 8] (fun z => [.pointer (some ⟨t, 0, none⟩), .pointer (some ⟨z, 0, none⟩), .agg #[.int .i64 T.c.t0, .int .i64 T.c.t1, .int .i64 T.c.t2, .int .i64 T.c.t3, .int .i64 T.c.t4, .int .i64 T.c.t5, .int .i64 T.c.t6, .int .i64 T.c.cap, .slice A T.c.own.length m, .slice E T.l.length n, .int .i64 T.now, .int .i64 T.rf], .pointer (some ⟨z, 0, none⟩), undef, .bool true]) (List.replicate 6 true) [1, 4] (by kernel_rfl) (by kernel_rfl) (fun _ => rfl) (fun _ => rfl) (fun _ => rfl) t (MS.keep S2.out (Kp.refl _).drew) (fun _ L L' _ e h => by simpa only [e 1 (by simp), e 4 (by simp)] using h) ?_ ?_ ?_
       rotate_left
       ·intro z; simp only [List.zip_cons_cons, List.zip_nil_right, wrC, wrN, List.set_cons_zero, List.set_cons_succ, List.set_nil]; rfl
       ·repeat' (first | refine And.intro ?_ ?_ | exact trivial)
        all_goals intro z L a w9 hLi d hcl hM hO K hK
        all_goals have u := Blk.f (MS.p hM).tb rfl
        all_goals try (go_simp; exact hK z _ _ (hO rfl) (fun _ _ => rfl) rfl)
        ·have n3 : L 3 = false := vac _ hcl (i := 3) (j := 1) rfl rfl hLi
         rw [hLi] at hM
         simp only [cond_false] at hM
         go_simp
         refine (MS.copy hM).mono ?_
         rintro e9 wb ⟨z9, rfl, hS9⟩
         exact hK z9 _ _ (by simpa using hS9) (but2 hLi n3 rfl) rfl
        ·rw [hLi] at hM
         simp only [cond_false] at hM
         have hBz := (MS.p hM).rs
         have y := Blk.f hBz rfl
         have f := Blk.frozen hBz
         go_simp
         exact hK z _ _ (by simpa using ActP.put MS (cs2 := tbR T A E m n) hM Hw0.out HbW1.out (Only.set12 (Only.refl [b + 1 + 1] w9) (by simp)) (Blk.set12 hBz)) (fun _ _ => rfl) rfl
       intro z L w9 hL hM
       (try simp only [Exit.then])
       have hM2 := hM
       rw [hL 1 (by decide), hL 4 (by decide)] at hM2
       clear hM
       have HF := Lib.hid hM2
       have HBF := Lib.hid (MS.p hM2).rs
       clear hM2 hL
       go_wp2_with fail
       refine bodyPost_ret (vcI (T := T) (A := A) (E := E) (m := m) (n := n) rfl rfl rfl rfl HBF.out) rfl ?_
       exact ⟨z, E, n, w1, w1, by rw [HAT.out] <;> rfl, by have := HbW1.out; have := Hb.out; omega, by rw [HAT.out]; exact Stays.same, by rw [HAT.out]; exact ActP.fin MS HF.out⟩
end

section
open Go.RowKit Go.Maps
def Ac.enc (x : Ac) : List Value := [.int .i64 x.wh, .int .i64 x.fc, .int .u32 (x.p.a : Int), .int .i64 x.p.l, .int .i64 x.h.f, .int .u32 (x.h.a : Int), .int .i64 x.h.m, .int .i64 x.more, .bool x.la]
theorem ac_at {w : World} {A : Option Addr} {xs : List Ac} (h : Rd w 9 Ac.enc A xs) {k : Nat} (hk : k < xs.length) : ∃ b off : Nat, A = some ⟨b, off, none⟩ ∧ w.cell? ⟨b, off + k * 9, none⟩ = some (.int .i64 xs[k].wh) ∧ w.cell? ⟨b, off + k * 9 + 1, none⟩ = some (.int .i64 xs[k].fc) ∧ w.cell? ⟨b, off + k * 9 + 2, none⟩ = some (.int .u32 (xs[k].p.a : Int)) ∧ w.cell? ⟨b, off + k * 9 + 3, none⟩ = some (.int .i64 xs[k].p.l) ∧ w.cell? ⟨b, off + k * 9 + 4, none⟩ = some (.int .i64 xs[k].h.f) ∧ w.cell? ⟨b, off + k * 9 + 5, none⟩ = some (.int .u32 (xs[k].h.a : Int)) ∧ w.cell? ⟨b, off + k * 9 + 6, none⟩ = some (.int .i64 xs[k].h.m) ∧ w.cell? ⟨b, off + k * 9 + 7, none⟩ = some (.int .i64 xs[k].more) ∧ w.cell? ⟨b, off + k * 9 + 8, none⟩ = some (.bool xs[k].la) := by
 obtain ⟨b, off, e, hc⟩ := h k hk
 exact ⟨b, off, e, by simpa using hc 0 _ rfl, by simpa using hc 1 _ rfl, by simpa using hc 2 _ rfl, by simpa using hc 3 _ rfl, by simpa using hc 4 _ rfl, by simpa using hc 5 _ rfl, by simpa using hc 6 _ rfl, by simpa using hc 7 _ rfl, by simpa using hc 8 _ rfl⟩
end

end Go.Proofs.YtffckpkikdlbpaaGreatDoor
