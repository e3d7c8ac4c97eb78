/- Lemmas and contracts for the theorem of this claim: FhC. -/
import Derived.Test.YtgopnfacklmkaaaGreatDoorZzBn
import Derived.Deep.CutBlock
set_option linter.all false
set_option maxHeartbeats 16000000
namespace Go.Proofs.YtgopnfacklmkaaaGreatDoor
section
open Go.RowKit Go.Maps
attribute [local go_sem] Oper.semAt_some
structure HoldF (w3 : World) (n g k bk : Nat) (rs : List Nat) (W : World) : Prop where
 hk : k ≤ n
 hg : g = n - k
 kp : Kp w3 W
 box : Blk W bk 3 #[.int .i64 (k : Nat)]
 lb : w3.heap.size ≤ bk
 nd : rs.Nodup
 mks : MkF rs W
 lo : ∀ r ∈ rs, w3.heap.size ≤ r
structure Mk5 (b1 b2 b3 b4 b5 : Bool) : Prop where
theorem viG {r id : Nat} {P : Program} {Q : Exit → Act → World → Prop} {a0 : Act} {w : World} {l : List Oper} {b1 b2 b3 b4 b5 : Bool} (_ : Mk5 b1 b2 b3 b4 b5) (sl : List Nat) (v : Bool → Bool → Bool → Bool → Bool → List Value) (U : Bool → Bool → Bool → Bool → Bool → List Bool) (hm : P.follows .mixedOrders = true) (hb : backB .any l.toArray = true) (hnd : noDefer l.toArray = true) (hQ : ¬ LetsOut Q) (hg : l.all guardB = true) (hd : l.map (·.dst) = sl.map some) (hl : sl.length = (v b1 b2 b3 b4 b5).length) (hn : sl.Nodup) (hs : sl.all (fun k => decide (k < a0.tmps.size)) = true) (hU : l.map (wantV (v b1 b2 b3 b4 b5)) = U b1 b2 b3 b4 b5) (hV : List.zipWith (fun b x => if b = true then undef else x) (U b1 b2 b3 b4 b5) (v b1 b2 b3 b4 b5) = List.replicate (U b1 b2 b3 b4 b5).length undef)
  (step : ∀ (i : Nat) (o : Oper) (a : Act) (w' : World), l[i]? = some o → wantV (v b1 b2 b3 b4 b5) o = true → (∀ j, depsB o j = true → a.tmps[sl.getD j 0]?.getD undef = (v b1 b2 b3 b4 b5).getD j undef) → (∀ j, j ∉ sl → a.tmps[j]?.getD undef = a0.tmps.getD j undef) → Kp w w' →
   ∀ K : Act → World → Prop, (∀ u w'', Kp w' w'' → (v b1 b2 b3 b4 b5).getD i undef = u → K (a.put o.dst u) w'') → Oper.wp P o a w' K Q)
  (fin : ∀ w', Kp w w' → Q .normal { tmps := wrS a0.tmps (sl.zip (v b1 b2 b3 b4 b5)), defers := a0.defers } w') : (Code.region id l.toArray true).wpIn (Fence.wide.inRound r) 0 P Q a0 w :=
 viv sl _ _ hm hb hnd hQ hg hd hl hn hs hU hV step fin
def RgQ (V : World) (bw br : Nat) (y : Bool) (e : Exit) (a : Act) (w : World) : Prop := e = .normal ∧ Kp V w ∧ a.defers = [] ∧ a.tmps.size = 224 ∧ a.tmps.getD 16 undef = .pointer (some ⟨bw, 0, none⟩) ∧ a.tmps.getD 17 undef = .pointer (some ⟨bw + 1, 0, none⟩) ∧ a.tmps.getD 20 undef = .pointer (some ⟨br, 0, none⟩) ∧ a.tmps.getD 169 undef = .bool y
theorem RgQ.out {V : World} {bw br : Nat} {y : Bool} : ¬ LetsOut (RgQ V bw br y) := fun ⟨_, _, h, _⟩ => by cases h
set_option maxRecDepth 100000 in
theorem vgc (c : Cf) (A A2 A3 : Option Addr) (m m2 m3 : Nat) (l : List Fa) (tl : List Nat) (w : World) (hS : SlPI w A m c.own) (hw : ∀ k (hk : k < c.own.length), c.own[k].a < 4294967296) (hR : Rd w 7 Fa.enc A2 l) (hx : ∀ x ∈ l, x.fits) (hA : Rd w 1 adE A3 tl) (ha : ∀ a ∈ tl, a < 4294967296) (hC : CapAt w) (hG : RelsAt w) :
    Calls Tryz.prog 6 #[cfV c A c.own.length m, .slice A2 l.length m2, .slice A3 tl.length m3] w fun e w' => e = .returned (.bool true) ∧ Kp w w' := by
  have HC := Lib.hid hC
  have HG := Lib.hid hG
  have HS := Lib.hid hS
  have HW := Lib.hid hw
  have HR := Lib.hid hR
  have HX := Lib.hid hx
  have HA := Lib.hid hA
  have HAL := Lib.hid ha
  clear hC hG hS hw hR hx hA ha
  obtain ⟨b, hb⟩ : ∃ b, w.heap.size = b := ⟨_, rfl⟩
  obtain ⟨W, hW, kW, B0, B1⟩ := Blk.al2 hb (cfC c A c.own.length m) 49 #[.slice A3 tl.length m3] 70
  have HB0 := Lib.hid B0
  have HB1 := Lib.hid B1
  have HKW := Lib.hid kW
  have HWK : Hid (∀ V, Kp W V → Calls Tryz.prog 21 #[] V fun e w' => e = .returned (.bool true) ∧ Kp V w') := Lib.hid (fun V k => vkL V (HG.out.keep (HKW.out.trans k)))
  unfold cfC at hW
  obtain ⟨s0, s1, s2, s3, s4, s5, s6, s7, s8⟩ := veQ B0
  have o0 : W.cell? ⟨b + 1, 0, none⟩ = some (.slice A3 tl.length m3) := B1.cell 0
  clear B0 B1 kW
  by_cases h1 : 20 < c.own.length
  · have d1 : decide ((20 : Int) < (c.own.length : Int)) = true := decide_eq_true (by omega)
    clear h1
    refine calls_of_wp_marks Tryz.func6 rfl ?_; simp only [Tryz.ntmps6, List.size_toArray, List.length_cons, List.length_nil, Nat.reduceAdd, Nat.reduceSub, Array.replicate_succ, Array.replicate_zero, List.push_toArray, List.append_toArray, List.nil_append, List.cons_append]
    go_wp2_with fail
    refine (HWK.out _ (Kp.refl _)).mono ?_
    rintro e w5 ⟨rfl, K5⟩
    have HK5 := Lib.hid (HKW.out.trans (((Kp.refl _)).trans K5))
    clear K5
    go_wp2_with fail
    refine vbd ?_
    refine ⟨.bool true, ?_, rfl, HK5.out⟩
    simp [results, Tryz.results6, go_sem]
  have d1 : decide ((20 : Int) < (c.own.length : Int)) = false := decide_eq_false (by omega)
  have HL := Lib.hid (show c.own.length ≤ 1000000 by omega)
  clear h1
  by_cases h2 : 40 < l.length
  · have d2 : decide ((40 : Int) < (l.length : Int)) = true := decide_eq_true (by omega)
    clear h2
    refine calls_of_wp_marks Tryz.func6 rfl ?_; simp only [Tryz.ntmps6, List.size_toArray, List.length_cons, List.length_nil, Nat.reduceAdd, Nat.reduceSub, Array.replicate_succ, Array.replicate_zero, List.push_toArray, List.append_toArray, List.nil_append, List.cons_append]
    go_wp2_with fail
    refine (HWK.out _ (Kp.refl _)).mono ?_
    rintro e w5 ⟨rfl, K5⟩
    have HK5 := Lib.hid (HKW.out.trans (((Kp.refl _)).trans K5))
    clear K5
    go_wp2_with fail
    refine vbd ?_
    refine ⟨.bool true, ?_, rfl, HK5.out⟩
    simp [results, Tryz.results6, go_sem]
  have d2 : decide ((40 : Int) < (l.length : Int)) = false := decide_eq_false (by omega)
  have H40 := Lib.hid (show l.length ≤ 40 by omega)
  clear h2
  by_cases h3 : 20 < tl.length
  · have d3 : decide ((20 : Int) < (tl.length : Int)) = true := decide_eq_true (by omega)
    clear h3
    refine calls_of_wp_marks Tryz.func6 rfl ?_; simp only [Tryz.ntmps6, List.size_toArray, List.length_cons, List.length_nil, Nat.reduceAdd, Nat.reduceSub, Array.replicate_succ, Array.replicate_zero, List.push_toArray, List.append_toArray, List.nil_append, List.cons_append]
    go_wp2_with fail
    refine (HWK.out _ (Kp.refl _)).mono ?_
    rintro e w5 ⟨rfl, K5⟩
    have HK5 := Lib.hid (HKW.out.trans (((Kp.refl _)).trans K5))
    clear K5
    go_wp2_with fail
    refine vbd ?_
    refine ⟨.bool true, ?_, rfl, HK5.out⟩
    simp [results, Tryz.results6, go_sem]
  have d3 : decide ((20 : Int) < (tl.length : Int)) = false := decide_eq_false (by omega)
  have H20 := Lib.hid (show tl.length ≤ 20 by omega)
  clear h3
  cases ho : okCf c with
  | false =>
    have HO := Lib.hid ho
    clear ho
    refine calls_of_wp_marks Tryz.func6 rfl ?_; simp only [Tryz.ntmps6, List.size_toArray, List.length_cons, List.length_nil, Nat.reduceAdd, Nat.reduceSub, Array.replicate_succ, Array.replicate_zero, List.push_toArray, List.append_toArray, List.nil_append, List.cons_append]
    go_wp2_with fail
    refine (veb c A m _ (HS.out.keep HKW.out) HW.out HL.out).mono ?_
    rintro e w2 ⟨rfl, K2⟩
    rw [HO.out]
    go_wp2_with fail
    refine (HWK.out _ K2).mono ?_
    rintro e w5 ⟨rfl, K5⟩
    have HK5 := Lib.hid (HKW.out.trans ((K2).trans K5))
    clear K5
    go_wp2_with fail
    refine vbd ?_
    refine ⟨.bool true, ?_, rfl, HK5.out⟩
    simp [results, Tryz.results6, go_sem]
  | true =>
    have HO := Lib.hid ho
    clear ho
    refine calls_of_wp_marks Tryz.func6 rfl ?_; simp only [Tryz.ntmps6, List.size_toArray, List.length_cons, List.length_nil, Nat.reduceAdd, Nat.reduceSub, Array.replicate_succ, Array.replicate_zero, List.push_toArray, List.append_toArray, List.nil_append, List.cons_append]
    go_wp2_with fail
    refine (veb c A m _ (HS.out.keep HKW.out) HW.out HL.out).mono ?_
    rintro e w2 ⟨rfl, K2⟩
    rw [HO.out]
    have HK2 := Lib.hid (HKW.out.trans K2)
    have HKV := Lib.hid K2
    clear s0 s1 s2 s3 s4 s5 s6 s7 s8 o0 d1 d2 d3 hW K2
    obtain ⟨s0, s1, s2, s3, s4, s5, s6, s7, s8⟩ := veQ (HB0.out.keep HKV.out)
    go_wp2_with fail
    refine (vmb c A m w2 (HS.out.keep HK2.out) (HC.out.keep HK2.out) HW.out HO.out).mono ?_
    rintro e w3 ⟨t, F, rfl, hM, K3⟩
    have hg := Good.new HO.out HW.out
    have HOF := Lib.hid (vkY w2.heap.size t F (newT c) w3 hM (HG.out.keep (HK2.out.trans K3)) (vjt HO.out) (hM.fits hg))
    have HM := Lib.hid hM
    have HK3 := Lib.hid K3
    have HGD := Lib.hid hg
    clear hM K3 hg s0 s1 s2 s3 s4 s5 s6 s7 s8
    go_wp2_with fail
    refine HOF.out.mono ?_
    rintro e w4 ⟨f, G, rfl, hF, K4, hG4⟩
    have hS0 : FbS w2 w4 w2.heap.size t (newT c) f (hopL (newT c).l) [] := FbS.new HM.out ⟨G, hF, hG4⟩ HK3.out K4 HGD.out (HC.out.keep HK2.out) (HG.out.keep HK2.out)
    obtain ⟨B, hB⟩ : ∃ B, w2.heap.size = B := ⟨_, rfl⟩
    rw [hB] at hS0
    have HS0 := Lib.hid hS0
    have HFM := Lib.hid hF
    have HBC := Lib.hid (HB0.out.keep (HKV.out.trans (HK3.out.trans K4)))
    obtain ⟨no, hno⟩ : ∃ no, (c.own.length : Int) = no := ⟨_, rfl⟩
    have HNO := Lib.hid hno
    have HLN : Hid (((hopL (newT c).l).length : Int) = no) := Lib.hid (by rw [vol HO.out]; exact hno)
    clear hF K4 hG4 hS0 hB HOF HM HK3 HGD hno
    go_upto_region 5 with (fail)
    refine' vcV (fun (_ : Unit) _ V9 => Kp _ V9) [50, 51, 52, 53, 54, 55, 56, 57, 58, 59, 60] (fun (_ : Unit) => [.int .i64 0, .int .i64 0, .bool false, .bool false, .pointer (some ⟨f, 0, none⟩), .int .i64 no, .pointer (some ⟨b, 8, none⟩), .slice A c.own.length m, .int .i64 no, .bool false, .bool false]) (List.replicate 11 true) [] (by kernel_rfl) (by kernel_rfl) (fun _ => rfl) (fun _ => rfl) (fun _ => rfl) () (Kp.refl _).drew (fun _ _ _ _ _ h => h) ?_ ?_ ?_
    rotate_left
    · intro z; simp only [List.zip_cons_cons, List.zip_nil_right, wrC, wrN, List.set_cons_zero, List.set_cons_succ, List.set_nil]; rfl
    · repeat' (first | refine And.intro ?_ ?_ | exact trivial)
      all_goals intro z L a w9 hLi d hcl hM hO K hK
      all_goals try (go_simp; exact hK z _ _ (hO rfl) (fun _ _ => rfl) rfl)
      · go_simp
        refine (vdY 0 _).mono ?_
        rintro e wb ⟨rfl, hwb⟩
        rw [← hwb]
        have hKc := Kp.refl w9
        exact hK z _ _ (hM.trans hKc) (fun _ _ => rfl) rfl
      · go_simp
        refine (vhp f G _ w9 (HFM.out.keep hM)).mono ?_
        rintro e wb ⟨rfl, hwb⟩
        rw [← hwb, HLN.out]
        have hKc := Kp.refl w9
        exact hK z _ _ (hM.trans hKc) (fun _ _ => rfl) rfl
      · have s8 : w9.cell? ⟨b, 8, none⟩ = some (.slice A c.own.length m) := (HBC.out.keep hM).cell 8
        go_simp
        exact hK z _ _ (hO rfl) (fun _ _ => rfl) rfl
      · have hno := HNO.out
        go_simp
        exact hK z _ _ (hO rfl) (fun _ _ => rfl) rfl
    intro z L w9 hL KV
    (try simp only [Exit.then])
    have HS5 := Lib.hid (HS0.out.keep KV)
    clear HS0 HFM HBC KV HNO HLN
    go_upto_block 0 with (fail)
    refine wp_block ?_
    go_loopw [10] (fun i wr => ∃ k : Nat, k ≤ l.length ∧ i = .int .i64 k ∧ Hid (∃ T, FbS w2 wr B t T f (hopL T.l) [])) (fun i _ => l.length - (intOf i).toNat)
    case atStart => exact ⟨0, Nat.zero_le _, rfl, Lib.hid ⟨_, HS5.out⟩⟩
    case round =>
      obtain ⟨k, hk, rfl, HRL⟩ := hrel
      clear HS5
      by_cases hlt : k < l.length
      · have hgi : (k : Int) < (l.length : Int) := by omega
        have hg0 : (0 : Int) ≤ (k : Int) := by omega
        have h40 := H40.out
        obtain ⟨T, hS⟩ := HRL.out
        obtain ⟨b2, off, hA2, x0, x1, x2, x3, x4, x5, x6⟩ := fa_at (HR.out.keep (HK2.out.trans hS.kp)) hlt
        have HXK := Lib.hid (HX.out _ (List.getElem_mem hlt))
        subst hA2
        obtain ⟨x, hx⟩ : ∃ x, l[k] = x := ⟨_, rfl⟩
        rw [hx] at x0 x1 x2 x3 x4 x5 x6 HXK
        clear hx
        obtain ⟨b8, hb8⟩ : ∃ b8, wr.heap.size = b8 := ⟨_, rfl⟩
        obtain ⟨W1, hW1, kW1, B8⟩ := Blk.al1 hb8 (faC x) 76
        have HS1 : Hid (FbS w2 W1 B t T f (hopL T.l) [b8]) := Lib.hid (hS.add (cs := [b8]) kW1 (fun z hz => by rw [List.mem_singleton] at hz; subst hz; exact ⟨by omega, B8.lt⟩))
        have HSK := Lib.hid (hS.keep kW1)
        have HB8 := Lib.hid B8
        have HOK := Lib.hid hS.gd
        have hnw0 := hS.gd.ok.t
        obtain ⟨nw, hnw⟩ : ∃ nw, T.now = nw := ⟨_, rfl⟩
        rw [hnw] at hnw0
        have HNW := Lib.hid hnw
        have y0 : W1.cell? ⟨b8, 0, none⟩ = some (.int .i64 x.wh) := B8.cell 0
        have y6 : W1.cell? ⟨b8, 6, none⟩ = some (.int .i64 x.more) := B8.cell 6
        unfold faC at hW1
        clear hS kW1 B8 hnw
        by_cases hm1 : x.more < 0
        · have dm1 : decide (x.more < 0) = true := decide_eq_true hm1
          go_wp2_with fail
          go_roundw
          case rel => exact ⟨k + 1, by omega, by go_num, Lib.hid ⟨T, HSK.out⟩⟩
          case measure => simp [intOf]; omega
        have dm1 : decide (x.more < 0) = false := decide_eq_false hm1
        by_cases hm2 : 1000 < x.more
        · have dm2 : decide (1000 < x.more) = true := decide_eq_true hm2
          go_wp2_with fail
          go_roundw
          case rel => exact ⟨k + 1, by omega, by go_num, Lib.hid ⟨T, HSK.out⟩⟩
          case measure => simp [intOf]; omega
        have dm2 : decide (1000 < x.more) = false := decide_eq_false hm2
        have hwr : IntKind.i64.wrap (nw + x.more) = nw + x.more := IntWalk.i64_in _ ⟨by omega, by omega⟩
        by_cases hwh : 0 ≤ x.wh ∧ x.wh ≤ 5
        · have dw1 : decide (0 ≤ x.wh) = true := decide_eq_true hwh.1
          have dw2 : decide (x.wh ≤ 5) = true := decide_eq_true hwh.2
          have hfh := vkD HOK.out.ok x.p x.h (nw + x.more)
          have hft := viD HOK.out HXK.out.p HXK.out.a (nw + x.more)
          obtain ⟨⟨T1, R, E⟩, hZ⟩ : ∃ Z, heardT T x.p x.h (nw + x.more) = Z := ⟨_, rfl⟩
          rw [hZ] at hfh hft
          simp only at hfh hft
          have HZ := Lib.hid hZ
          have HFH := Lib.hid hfh
          have HFT := Lib.hid hft
          clear hfh hft hZ
          go_upto_region 13 with (fail)
          clear hm1 hm2 dm1 dm2 hwh dw1 dw2 x0 x1 x2 x3 x4 x5 x6 hW1 y0 y6 hnw0
          refine' vcV (fun (z : Nat) L V9 => FbS w2 V9 B t (bif L 10 then T1 else T) f (hopL T.l) (bif L 14 then [z, b8] else [b8]) ∧ Blk V9 b8 76 (faC x) ∧ (L 14 = true → w2.heap.size ≤ z ∧ Blk V9 z 52 (bif L 15 then roC R else roC zeroR))) [88, 89, 90, 91, 92, 93, 94, 95, 96, 97, 98, 87, 99, 100, 12, 10015, 13] (fun z => [.pointer (some ⟨t, 0, none⟩), .pointer (some ⟨b8, 1, none⟩), .agg #[.int .u32 (x.p.a : Int), .int .i64 x.p.l], .pointer (some ⟨b8, 3, none⟩), .agg #[.int .i64 x.h.f, .int .u32 (x.h.a : Int), .int .i64 x.h.m], .pointer (some ⟨t, 0, none⟩), .int .i64 nw, .pointer (some ⟨b8, 6, none⟩), .int .i64 x.more, .int .i64 (nw + x.more), .tuple #[.agg #[.int .u32 (R.p.a : Int), .int .i64 R.p.l, .int .i64 R.s, .int .i64 R.m, .int .i64 R.l, .int .i64 R.f, .int .u32 (R.x : Int), .int .i64 R.d, .bool R.c], .int .i64 E], .tuple #[.agg #[.int .u32 (R.p.a : Int), .int .i64 R.p.l, .int .i64 R.s, .int .i64 R.m, .int .i64 R.l, .int .i64 R.f, .int .u32 (R.x : Int), .int .i64 R.d, .bool R.c], .int .i64 E], .agg #[.int .u32 (R.p.a : Int), .int .i64 R.p.l, .int .i64 R.s, .int .i64 R.m, .int .i64 R.l, .int .i64 R.f, .int .u32 (R.x : Int), .int .i64 R.d, .bool R.c], .int .i64 E, .pointer (some ⟨z, 0, none⟩), undef, .int .i64 E]) (List.replicate 17 true) [10, 14, 15] (by kernel_rfl) (by kernel_rfl) (fun _ => rfl) (fun _ => rfl) (fun _ => rfl) 0 ⟨HS1.out.keep (Kp.refl _).drew, HB8.out.drew, fun h => (by cases h)⟩ (fun _ L L' _ e h => by simpa only [e 10 (by simp), e 14 (by simp), e 15 (by simp)] using h) ?_ ?_ ?_
          rotate_left
          · intro z; simp only [List.zip_cons_cons, List.zip_nil_right, wrC, wrN, List.set_cons_zero, List.set_cons_succ, List.set_nil]; rfl
          · repeat' (first | refine And.intro ?_ ?_ | exact trivial)
            all_goals intro z L a w9 hLi d hcl hM hO K hK
            all_goals try (go_simp; exact hK z _ _ (hO rfl) (fun _ _ => rfl) rfl)
            · have y1 : w9.cell? ⟨b8, 1, none⟩ = some (.int .u32 (x.p.a : Int)) := hM.2.1.cell 1
              have y2 : w9.cell? ⟨b8, 2, none⟩ = some (.int .i64 x.p.l) := hM.2.1.cell 2
              go_simp
              exact hK z _ _ (hO rfl) (fun _ _ => rfl) rfl
            · have y3 : w9.cell? ⟨b8, 3, none⟩ = some (.int .i64 x.h.f) := hM.2.1.cell 3
              have y4 : w9.cell? ⟨b8, 4, none⟩ = some (.int .u32 (x.h.a : Int)) := hM.2.1.cell 4
              have y5 : w9.cell? ⟨b8, 5, none⟩ = some (.int .i64 x.h.m) := hM.2.1.cell 5
              go_simp
              exact hK z _ _ (hO rfl) (fun _ _ => rfl) rfl
            · have n9 : L 9 = false := vea _ hcl (i := 9) rfl (by rfl) hLi
              have n10 : L 10 = false := vea _ hcl (i := 10) rfl (by rfl) n9
              have hS9 := hM.1
              rw [n10] at hS9
              simp only [cond_false] at hS9
              go_simp
              obtain ⟨F9, hF9⟩ := FbS.tab (hS9)
              refine (vjE B t F9 T w9 hF9).mono ?_
              rintro e9 wb ⟨rfl, hwb⟩
              rw [hwb, HNW.out]
              exact hK z _ _ (hO rfl) (fun _ _ => rfl) rfl
            · have y6 : w9.cell? ⟨b8, 6, none⟩ = some (.int .i64 x.more) := hM.2.1.cell 6
              go_simp
              exact hK z _ _ (hO rfl) (fun _ _ => rfl) rfl
            · have hS9 := hM.1
              rw [hLi] at hS9
              simp only [cond_false] at hS9
              have hc9 := voy _ _ _ _ _ _ _ _ hS9 x.p x.h (nw + x.more) HXK.out.p HXK.out.a
              rw [HZ.out] at hc9
              go_simp
              refine hc9.mono ?_
              rintro e9 wb ⟨rfl, hS8, hY⟩
              have hb8 : b8 ∈ (bif L 14 then [z, b8] else [b8]) := by cases L 14 <;> simp
              exact hK z _ _ ⟨by simpa using hS8, hY.blk hb8 hM.2.1, fun h => by (have h14 : L 14 = true := by simpa using h); exact ⟨(hM.2.2 h14).1, by simpa using hY.blk (by rw [h14]; simp) (hM.2.2 h14).2⟩⟩ (fun _ _ => rfl) rfl
            · have n15 : L 15 = false := vea _ hcl (i := 15) rfl (by rfl) hLi
              have hS9 := hM.1
              rw [hLi] at hS9
              simp only [cond_false] at hS9
              have hS8 := hS9.add (cs := [w9.heap.size]) ((Kp.refl w9).alloc (.cells #[.int .u32 0, .int .i64 0, .int .i64 0, .int .i64 0, .int .i64 0, .int .i64 0, .int .u32 0, .int .i64 0, .bool false] 52)) (by simp)
              have hB8 : Blk (w9.alloc (.cells #[.int .u32 0, .int .i64 0, .int .i64 0, .int .i64 0, .int .i64 0, .int .i64 0, .int .u32 0, .int .i64 0, .bool false] 52)) w9.heap.size 52 (roC zeroR) := Blk.new _ _ _
              go_simp
              exact hK w9.heap.size _ _ ⟨by simpa using hS8, hM.2.1.alloc _, fun _ => ⟨hS9.kp.size, by simpa [n15] using hB8⟩⟩ (but1 hLi rfl) rfl
            · have h14 := d 14 rfl
              have hB9 := (hM.2.2 h14).2
              rw [hLi] at hB9
              simp only [cond_false] at hB9
              have y := Blk.f (l := [.int .u32 0, .int .i64 0, .int .i64 0, .int .i64 0, .int .i64 0, .int .i64 0, .int .u32 0, .int .i64 0, .bool false]) hB9 rfl
              have f := Blk.frozen hB9
              have hS9 := hM.1
              rw [h14] at hS9
              simp only [cond_true] at hS9
              have hS8 := hS9.other (z := z) (by simp) (hM.2.2 h14).1 hB9 (by decide) (Only.putRo (g := z) (Only.refl [z] w9) (.inl (by simp)) R)
              have hne : b8 ≠ z := hM.2.1.ne_tagT hB9 (by decide)
              have hb9 : Blk (roSet w9 z R) b8 76 (faC x) := Blk.putRo_far hM.2.1 hne R
              have hz9 : Blk (roSet w9 z R) z 52 (roC R) := Blk.putRo hB9 R
              unfold roSet at hS8 hb9 hz9
              go_simp
              exact hK z _ _ ⟨by simpa [h14] using hS8, hb9, fun _ => ⟨(hM.2.2 h14).1, by simpa using hz9⟩⟩ (fun _ _ => rfl) rfl
          intro z L w9 hL hM
          (try simp only [Exit.then])
          obtain ⟨g1, -, g3⟩ := hM
          rw [hL 10 (by decide), hL 14 (by decide)] at g1
          rw [hL 14 (by decide), hL 15 (by decide)] at g3
          simp only [cond_true] at g1 g3
          obtain ⟨-, g4⟩ := g3 trivial
          have HS3 := Lib.hid (g1.cut (cs := []) (by simp))
          have HBZ := Lib.hid g4
          clear g1 g3 g4 hL HS1 HB8 HSK HZ HNW HXK hwr
          by_cases hE : E = 0
          · have eE : (E == 0) = true := by simp [hE]
            obtain ⟨q1, q2⟩ := HFH.out.2 hE
            obtain ⟨g, hg⟩ : ∃ g, w9.heap.size = g := ⟨_, rfl⟩
            obtain ⟨W10, hW10, kW10, BU⟩ := Blk.al1 hg (roC R) 52
            have hCo := vlb w2 w9 W10 B t T1 f (hopL T.l) [] HS3.out kW10 [R] (some ⟨g, 0, none⟩) 1 (Rd.of_blk BU (by decide) Rt.len (by show 1 ≤ _; decide) rfl) (fun a ha => by injection ha with ha; subst ha; show _ ≤ g; omega) (by show 1 ≤ 1000000; decide) (fun r hr => by rw [List.mem_singleton] at hr; subst hr; exact HFT.out)
            have e1 : runL [R] (hopL T.l) = hopL T1.l := by
              show (if comeE R (hopL T.l) = 0 then comeL R (hopL T.l) else hopL T.l) = hopL T1.l
              rw [if_pos q1, q2]
            rw [e1] at hCo
            have HCO := Lib.hid hCo
            have y := Blk.f (l := [.int .u32 (R.p.a : Int), .int .i64 R.p.l, .int .i64 R.s, .int .i64 R.m, .int .i64 R.l, .int .i64 R.f, .int .u32 (R.x : Int), .int .i64 R.d, .bool R.c]) HBZ.out rfl
            unfold roC at hW10
            clear hCo e1 q1 q2 hE kW10 BU HS3 HFH
            go_wp2_with (first | (go_at_call 23; refine (vdY _ _).mono ?_; rintro e wz ⟨rfl, rfl⟩))
            refine HCO.out.mono ?_
            rintro e V ⟨rfl, hS9⟩
            have HS9 := Lib.hid hS9
            clear hS9 hW10 y
            go_wp2_with fail
            go_roundw
            case rel => exact ⟨k + 1, by omega, by go_num, Lib.hid ⟨T1, HS9.out⟩⟩
            case measure => simp [intOf]; omega
          · have eE : (E == 0) = false := by simp [hE]
            have HE : Hid (T1.l = T.l) := Lib.hid (HFH.out.1 hE)
            clear hE
            go_wp2_with (first | (go_at_call 23; refine (vdY _ _).mono ?_; rintro e wz ⟨rfl, rfl⟩))
            go_roundw
            case rel => exact ⟨k + 1, by omega, by go_num, Lib.hid ⟨T1, by rw [HE.out]; exact HS3.out⟩⟩
            case measure => simp [intOf]; omega
        have hfe := vok HOK.out.ok (nw + x.more)
        obtain ⟨⟨T1, N1, E⟩, hZ⟩ : ∃ Z, expT T (nw + x.more) = Z := ⟨_, rfl⟩
        rw [hZ] at hfe
        simp only at hfe
        have HZ := Lib.hid hZ
        have HFE := Lib.hid hfe
        clear hfe hZ
        have hwh2 : x.wh < 0 ∨ (0 ≤ x.wh ∧ 5 < x.wh) := by omega
        clear hwh
        rcases hwh2 with hwh | hwh
        all_goals
          first | (have dw1 : decide (0 ≤ x.wh) = false := decide_eq_false (by omega)) | (have dw1 : decide (0 ≤ x.wh) = true := decide_eq_true (by omega); have dw2 : decide (x.wh ≤ 5) = false := decide_eq_false (by omega))
          go_upto_region 16 with (fail)
          clear hm1 hm2 dm1 dm2 hwh x0 x1 x2 x3 x4 x5 x6 hW1 y0 y6 hnw0
          refine' vcV (fun (_ : Unit) L V9 => FbS w2 V9 B t (bif L 6 then T1 else T) f (hopL T.l) [b8] ∧ Blk V9 b8 76 (faC x)) [108, 109, 110, 111, 112, 113, 114] (fun (_ : Unit) => [.pointer (some ⟨t, 0, none⟩), .pointer (some ⟨t, 0, none⟩), .int .i64 nw, .pointer (some ⟨b8, 6, none⟩), .int .i64 x.more, .int .i64 (nw + x.more), .tuple #[.int .i64 N1, .int .i64 E]]) (List.replicate 7 true) [6] (by kernel_rfl) (by kernel_rfl) (fun _ => rfl) (fun _ => rfl) (fun _ => rfl) () ⟨HS1.out.keep (Kp.refl _).drew, HB8.out.drew⟩ (fun _ L L' _ e h => by simpa only [e 6 (by simp)] using h) ?_ ?_ ?_
          rotate_left
          · intro z; simp only [List.zip_cons_cons, List.zip_nil_right, wrC, wrN, List.set_cons_zero, List.set_cons_succ, List.set_nil]; rfl
          · repeat' (first | refine And.intro ?_ ?_ | exact trivial)
            all_goals intro z L a w9 hLi d hcl hM hO K hK
            all_goals try (go_simp; exact hK z _ _ (hO rfl) (fun _ _ => rfl) rfl)
            · have n5 : L 5 = false := vea _ hcl (i := 5) rfl (by rfl) hLi
              have n6 : L 6 = false := vea _ hcl (i := 6) rfl (by rfl) n5
              have hS9 := hM.1
              rw [n6] at hS9
              simp only [cond_false] at hS9
              go_simp
              obtain ⟨F9, hF9⟩ := FbS.tab (hS9)
              refine (vjE B t F9 T w9 hF9).mono ?_
              rintro e9 wb ⟨rfl, hwb⟩
              rw [hwb, HNW.out]
              exact hK z _ _ (hO rfl) (fun _ _ => rfl) rfl
            · have y6 : w9.cell? ⟨b8, 6, none⟩ = some (.int .i64 x.more) := hM.2.cell 6
              go_simp
              exact hK z _ _ (hO rfl) (fun _ _ => rfl) rfl
            · have hS9 := hM.1
              rw [hLi] at hS9
              simp only [cond_false] at hS9
              have hc9 := voP _ _ _ _ _ _ _ _ hS9 (nw + x.more)
              rw [HZ.out] at hc9
              go_simp
              refine hc9.mono ?_
              rintro e9 wb ⟨rfl, hS8, hY⟩
              exact hK z _ _ ⟨by simpa using hS8, hY.blk (by simp) hM.2⟩ (fun _ _ => rfl) rfl
          intro z L w9 hL hM
          (try simp only [Exit.then])
          obtain ⟨g1, -⟩ := hM
          rw [hL 6 (by decide)] at g1
          simp only [cond_true] at g1
          have hS3 : FbS w2 w9 B t T1 f (hopL T.l) [] := g1.cut (cs := []) (by simp)
          obtain ⟨F9, hF9⟩ := hS3.tab
          have HF9 := Lib.hid hF9
          have HS3 := Lib.hid hS3
          clear g1 hL HS1 HB8 HSK HZ HNW HXK hwr hS3 hF9
          go_wp2_with fail
          refine (vgG B t F9 T1 w9 HF9.out).mono ?_
          rintro e w10 ⟨A9, c9, rfl, hO9, K9⟩
          have hnl : (newsL T1.l).length ≤ 1000000 := by
            have h1 : (newsL T1.l).length ≤ T1.l.length := List.length_filter_le _ _
            have h2 := HS3.out.gd.ok.len
            omega
          have hCo := vlb w2 w9 w10 B t T1 f (hopL T.l) [] HS3.out K9 (newsL T1.l) A9 c9 (hO9.rdAt (by decide) Rt.len) (voQ hO9) hnl (fun r hr => HF9.out.fits HS3.out.gd r (List.mem_filter.1 hr).1)
          rw [HFE.out] at hCo
          have HCO := Lib.hid hCo
          clear hCo hO9 K9 hnl
          go_wp2_with fail
          refine HCO.out.mono ?_
          rintro e w11 ⟨rfl, hS11⟩
          have HS11 := Lib.hid hS11
          clear hS11
          go_wp2_with fail
          refine (voz w2 w11 B t T1 f (hopL T1.l) [] HS11.out).mono ?_
          rintro e w12 ⟨rfl, hS12, -⟩
          have HS12 := Lib.hid hS12
          clear hS12
          go_wp2_with fail
          go_roundw
          case rel => exact ⟨k + 1, by omega, by go_num, Lib.hid ⟨(seenT T1).1, by rw [vmA]; exact HS12.out⟩⟩
          case measure => simp [intOf]; omega
      · obtain rfl : k = l.length := by omega
        clear hlt
        obtain ⟨T, hS⟩ := HRL.out
        obtain ⟨F9, G9, t1, t2, -, -, -⟩ := hS.tm
        have HOF := Lib.hid (vkY B t F9 T wr t1 hS.caps.2.2.1 hS.gd.ok (t1.fits hS.gd))
        have HT := Lib.hid t1
        have HF := Lib.hid t2
        have HKR := Lib.hid (HKV.out.trans hS.kp)
        have HGD := Lib.hid hS.gd
        clear t1 t2 hS HRL
        obtain ⟨X0, hX0⟩ : ∃ X, hopL T.l = X := ⟨_, rfl⟩
        rw [hX0] at HF HOF
        have HX0 := Lib.hid hX0
        clear hX0
        go_wp2_with fail
        refine HOF.out.mono ?_
        rintro e w13 ⟨o, GO, rfl, hO, K13, -⟩
        have hSm := vkK f G9 X0 o GO X0 w13 (HF.out.keep K13) hO
        rw [show sameL X0 X0 = true from decide_eq_true rfl] at hSm
        have HSM := Lib.hid hSm
        have HK13 := Lib.hid K13
        clear hSm hO K13
        go_wp2_with fail
        refine HSM.out.mono ?_
        rintro e w14 ⟨rfl, K14⟩
        have HT := Lib.hid (HT.out.keep (HK13.out.trans K14))
        have HF := Lib.hid (HF.out.keep (HK13.out.trans K14))
        have HKX : Hid (Kp W w14) := Lib.hid (HKR.out.trans (HK13.out.trans K14))
        obtain ⟨bk0, hbk0⟩ : ∃ g, w14.heap.size = g := ⟨_, rfl⟩
        obtain ⟨w15, hw15, kw15, BK⟩ := Blk.al1 hbk0 #[.int .i64 0] 3
        have HI0 : Hid (HoldF w14 tl.length tl.length 0 bk0 [] w15) := Lib.hid ⟨Nat.zero_le _, by omega, kw15, BK, by omega, List.nodup_nil, fun r hr => (by cases hr), fun r hr => (by cases hr)⟩
        clear K14 HK13 HKR kw15 BK HSM HOF
        have HW15 := Lib.hid hw15
        clear hw15
        go_upto_block 2 with (fail)
        rw [HW15.out]
        clear HW15 hbk0
        refine wp_block ?_
        refine wp_loop_ghost_k (fun g a' w' => ∃ (k bk : Nat) (rs : List Nat) (ts : Array Value), HoldF w14 tl.length g k bk rs w' ∧ ts.size = 224 ∧ ts.getD 5 undef = .pointer (some ⟨b + 1, 0, none⟩) ∧ ts.getD 7 undef = .pointer (some ⟨t, 0, none⟩) ∧ ts.getD 9 undef = .pointer (some ⟨f, 0, none⟩) ∧ ts.getD 15 undef = .pointer (some ⟨bk, 0, none⟩) ∧ a' = { tmps := ts, defers := rs.map markF }) tl.length ?_ ?_
        · refine ⟨0, bk0, [], _, HI0.out, ?_, ?_, ?_, ?_, ?_, rfl⟩
          all_goals rfl
        · intro g a' wr hinv J K hJ hK
          obtain ⟨k, bk, rs, ts, hrel, hz, f5, f7, f9, f15, rfl⟩ := hinv
          obtain ⟨u, hu, hui⟩ := lit224 ts hz
          rw [← hui] at f5 f7 f9 f15
          rw [hu]
          rw [f5, f7, f9, f15]
          clear f5 f7 f9 f15 hu hui hz ts HI0
          have HREL := Lib.hid hrel
          clear hrel
          have k0 : wr.cell? ⟨bk, 0, none⟩ = some (.int .i64 (k : Nat)) := HREL.out.box.cell 0
          have o0 : wr.cell? ⟨b + 1, 0, none⟩ = some (.slice A3 tl.length m3) := ((HB1.out.keep HKX.out).keep HREL.out.kp).cell 0
          by_cases hlt : k < tl.length
          · have hgi : (k : Int) < (tl.length : Int) := by omega
            have hg0 : (0 : Int) ≤ (k : Int) := by omega
            have h20 := H20.out
            obtain ⟨ga, off, hA3, za⟩ := ad_at (HA.out.keep ((HKW.out.trans HKX.out).trans HREL.out.kp)) hlt
            have HAA := Lib.hid (HAL.out _ (List.getElem_mem hlt))
            subst hA3
            obtain ⟨a, ha⟩ : ∃ a, tl[k] = a := ⟨_, rfl⟩
            rw [ha] at za HAA
            have HZ0 := Lib.hid za
            clear ha za
            obtain ⟨bw, hbw⟩ : ∃ bw, wr.heap.size = bw := ⟨_, rfl⟩
            obtain ⟨W1, hW1, kW1, BW, BF⟩ := Blk.al2 hbw #[.int .u32 0, .int .i64 0, .int .i64 0, .int .i64 0, .int .i64 0, .int .i64 0, .int .u32 0, .int .i64 0, .bool false] 52 #[.bool false] 4
            have BW : Blk W1 bw 52 (roC zeroR) := BW
            have HKW1 := Lib.hid kW1
            have HBW0 := Lib.hid hbw
            have HW0 := Lib.hid BW
            have HF0 := Lib.hid BF
            have Hbw : Hid (bk < bw ∧ w14.heap.size ≤ bw) := Lib.hid ⟨by have := HREL.out.box.lt; omega, by have := HREL.out.kp.size; omega⟩
            have HAA1 := Lib.hid (vkX B t F9 T W1 (HT.out.keep (HREL.out.kp.trans kW1)))
            have HLN : Hid (T.l.length ≤ 900000) := Lib.hid (by have := HGD.out.ok.len; omega)
            have HW1 := Lib.hid hW1
            clear kW1 BW BF hW1
            go_wp2_with fail
            rw [HW1.out]
            refine HAA1.out.mono ?_
            rintro e ws ⟨x1, A1, c1, rfl, hM1, K7, hx1, hx2⟩
            have HMA := Lib.hid hM1
            have HXB : Hid (bw + 1 < x1 ∧ ∀ a, A1 = some a → bw + 1 < a.block) := Lib.hid ⟨by have := HF0.out.lt; omega, fun a e => by have := HF0.out.lt; have := (hx2 a e).1; omega⟩
            have hq1 := fun w => vle x1 w
            obtain ⟨L, hL⟩ : ∃ L, T.l = L := ⟨_, rfl⟩
            rw [hL] at HMA HLN
            have HLL := Lib.hid hL
            have HKS : Hid (Kp wr ws) := Lib.hid (HKW1.out.trans K7)
            have HWS := Lib.hid (HW0.out.keep K7)
            have HFS := Lib.hid (HF0.out.keep K7)
            have HOL : Hid (∀ r ∈ L, okR r = true ∧ r.fits) := Lib.hid (fun r hr => by rw [← hL] at hr; exact ⟨(HGD.out.ok.r r hr).1, HT.out.fits HGD.out r hr⟩)
            clear hM1 hL K7 hx1 hx2 HW0 HF0 HKW1 HW1 HAA1 k0 o0
            unfold allV
            go_wp2_with fail
            clear hq1
            have Hl1 := Lib.hid HWS.out.lt
            have Hl2 := Lib.hid HFS.out.lt
            refine vbc (N := L.length) rfl vfZ (vga x1 A1 c1 L HLN.out) (fun _ _ => rfl)
              (LkI ws bw (bw + 1) a L) (fun _ _ => False) (LkI ws bw (bw + 1) a L L.length)
              ?_ (fun _ _ _ h => h.elim) ?_ (LkI.start HWS.out HFS.out) (fun _ h => h) (fun _ _ _ _ h => h.elim) ?_ ?_
            · intro q V V' h hO
              exact h.only hO (by simp) Hl1.out Hl2.out
            · intro q V h
              exact HMA.out.only h.2.2 (by have := HXB.out.1; simp; omega) (fun a e => by have := HXB.out.2 a e; simp; omega)
            · rintro l' q V hq h hsV
              have HI := Lib.hid h
              rw [vgH hq]
              obtain ⟨r, hr⟩ : ∃ r, L[q] = r := ⟨_, rfl⟩
              rw [hr]
              have HRK := Lib.hid hr
              clear h hr
              gi_wp2_with fail
              refine ⟨?_, fun U => Blk U V.heap.size 52 (roC r) ∧ LkI ws bw (bw + 1) a L q U, ⟨Blk.new _ _ _, HI.out.only (Only.of_kp ((Kp.refl _).alloc _)) (bs := []) (by simp) Hl1.out Hl2.out⟩, ?_, ?_⟩
              · rw [Kept2]
                exact ⟨Below.heap_alloc _ _ _ (by omega), Below.heap_alloc _ _ _ (by omega)⟩
              · rintro X X' ⟨h0, h1⟩ hO
                exact ⟨h0.only hO (by simp <;> omega), h1.only hO (by simp) Hl1.out Hl2.out⟩
              · rintro V2 ⟨h0, h1⟩ hsz
                have HSZ := Lib.hid (show ws.heap.size + 1 < V2.heap.size from hsz)
                obtain ⟨br, hbr⟩ : ∃ br, V.heap.size = br := ⟨_, rfl⟩
                rw [hbr] at h0 ⊢
                have Hbr := Lib.hid (show ws.heap.size + 1 < br by omega)
                clear hbr
                have hr0 := HOL.out r (by rw [← HRK.out]; exact List.getElem_mem hq)
                have hpk : r.p.pn.ok ∧ r.p.l = (r.p.pn.l : Int) := by
                  have hk := (vaq r).1 hr0.1
                  have h2 := hk.1
                  unfold toldB at h2
                  rw [Bool.and_eq_true] at h2
                  exact pn_ok h2.1 hr0.2.1
                have hnx := vld a hq
                have hli := voA a ((L.take q).foldl (lookStep a) (zeroR, false)) r
                rw [HRK.out] at hnx
                obtain ⟨i1, i2, i3⟩ := h1
                obtain ⟨⟨wt, fd⟩, hwf⟩ : ∃ s, (L.take q).foldl (lookStep a) (zeroR, false) = s := ⟨_, rfl⟩
                rw [hwf] at i1 i2 hnx hli
                simp only at i1 i2 hli
                obtain ⟨b1, e1⟩ : ∃ x, (r.s == 1) = x := ⟨_, rfl⟩
                obtain ⟨b2, e2⟩ : ∃ x, (r.s == 2) = x := ⟨_, rfl⟩
                obtain ⟨bh, e3⟩ : ∃ x, hasA r.p.pn a = x := ⟨_, rfl⟩
                obtain ⟨bg, e4⟩ : ∃ x, decide (wt.p.l < r.p.l) = x := ⟨_, rfl⟩
                rw [e1, e2, e3, e4] at hli
                rw [hli] at hnx
                have HNX := Lib.hid hnx
                have HHAS : Hid (∀ V, Calls Tryz.prog 32 #[.agg #[.int .u32 (r.p.a : Int), .int .i64 r.p.l], .int .u32 (a : Int)] V fun e w' => e = .returned (.bool bh) ∧ Kp V w') := Lib.hid (fun V => by
                  have h9 := vmF r.p.pn a V hpk.1 HAA.out
                  rw [e3, ← hpk.2] at h9
                  exact h9)
                have HBr := Lib.hid h0
                have HBW := Lib.hid i1
                have HBF := Lib.hid i2
                have HO2 := Lib.hid i3
                have HKV2 : Hid (Kp wr V2) := Lib.hid (i3.kp HKS.out (by have := Hbw.out; have := HREL.out.box.lt; simp; omega))
                have HBO : Hid (Blk V2 (b + 1) 70 #[.slice (some ⟨ga, off, none⟩) tl.length m3]) := Lib.hid (((HB1.out.keep HKX.out).keep HREL.out.kp).keep HKV2.out)
                have HBK := Lib.hid (HREL.out.box.keep HKV2.out)
                have HZA := Lib.hid (HKV2.out.cell HZ0.out)
                clear h0 i1 i2 i3 hnx hli hwf e3 hpk hr0
                refine wpIn_block ?_
                refine wpIn_seq ?_
                refine wpIn_mono (Q := RgQ V2 bw br ((b1 || b2) && (bh && (!fd || bg)))) ?_ ?_
                · clear HNX HRK HI HO2 HMA HLN HLL HKS HWS HFS HOL HT HF HKX HGD HX0 HREL HBW0 Hbw HXB HAA HSZ Hbr
                  have h9 : ∀ b1 b2 bh fd bg : Bool, (b1 = false ∧ b2 = false) ∨ (b1 = false ∧ b2 = true ∧ bh = false) ∨ (b1 = false ∧ b2 = true ∧ bh = true ∧ fd = false) ∨ (b1 = false ∧ b2 = true ∧ bh = true ∧ fd = true ∧ bg = false) ∨ (b1 = false ∧ b2 = true ∧ bh = true ∧ fd = true ∧ bg = true) ∨ (b1 = true ∧ bh = false) ∨ (b1 = true ∧ bh = true ∧ fd = false) ∨ (b1 = true ∧ bh = true ∧ fd = true ∧ bg = false) ∨ (b1 = true ∧ bh = true ∧ fd = true ∧ bg = true) := by
                    intro b1 b2 bh fd bg
                    cases b1 <;> cases b2 <;> cases bh <;> cases fd <;> cases bg <;> simp
                  have H5 : Mk5 b1 b2 bh fd bg := ⟨⟩
                  rcases h9 b1 b2 bh fd bg with ⟨rfl, rfl⟩ | ⟨rfl, rfl, rfl⟩ | ⟨rfl, rfl, rfl, rfl⟩ | ⟨rfl, rfl, rfl, rfl, rfl⟩ | ⟨rfl, rfl, rfl, rfl, rfl⟩ | ⟨rfl, rfl⟩ | ⟨rfl, rfl, rfl⟩ | ⟨rfl, rfl, rfl, rfl⟩ | ⟨rfl, rfl, rfl, rfl⟩
                  all_goals
                    refine viG H5 [140, 141, 142, 143, 144, 145, 146, 147, 148, 149, 150, 151, 152, 153, 154, 155, 156, 157, 158, 159, 160, 161, 162, 163, 164, 165, 166, 167, 168, 169] (fun b1 b2 bh fd bg => [.pointer (some ⟨br, 2, none⟩), .int .i64 r.s, .bool b1, .bool b1, bif b1 then undef else .pointer (some ⟨br, 2, none⟩), bif b1 then undef else .int .i64 r.s, bif b1 then undef else .bool b2, .bool (b1 || b2), .bool (b1 || b2), bif b1 || b2 then .pointer (some ⟨br, 0, none⟩) else undef, bif b1 || b2 then .agg #[.int .u32 (r.p.a : Int), .int .i64 r.p.l] else undef, bif b1 || b2 then .slice (some ⟨ga, off, none⟩) tl.length m3 else undef, bif b1 || b2 then .int .i64 (k : Nat) else undef, bif b1 || b2 then .pointer (some ⟨ga, off + k, none⟩) else undef, bif b1 || b2 then .int .u32 (a : Nat) else undef, bif b1 || b2 then .bool bh else undef, .bool ((b1 || b2) && bh), .bool ((b1 || b2) && bh), bif (b1 || b2) && bh then .bool fd else undef, bif (b1 || b2) && bh then .bool (!fd) else undef, bif (b1 || b2) && bh then .bool (!fd) else undef, bif ((b1 || b2) && bh) && fd then .pointer (some ⟨br, 0, none⟩) else undef, bif ((b1 || b2) && bh) && fd then .pointer (some ⟨br, 1, none⟩) else undef, bif ((b1 || b2) && bh) && fd then .int .i64 r.p.l else undef, bif ((b1 || b2) && bh) && fd then .pointer (some ⟨bw, 0, none⟩) else undef, bif ((b1 || b2) && bh) && fd then .pointer (some ⟨bw, 1, none⟩) else undef, bif ((b1 || b2) && bh) && fd then .int .i64 wt.p.l else undef, bif ((b1 || b2) && bh) && fd then .bool bg else undef, bif (b1 || b2) && bh then .bool (!fd || bg) else undef, .bool (((b1 || b2) && bh) && (!fd || bg))]) (fun b1 b2 bh fd bg => [true, true, true, true, !b1, !b1, !b1, true, true, (b1 || b2), (b1 || b2), (b1 || b2), (b1 || b2), (b1 || b2), (b1 || b2), (b1 || b2), true, true, ((b1 || b2) && bh), ((b1 || b2) && bh), ((b1 || b2) && bh), (((b1 || b2) && bh) && fd), (((b1 || b2) && bh) && fd), (((b1 || b2) && bh) && fd), (((b1 || b2) && bh) && fd), (((b1 || b2) && bh) && fd), (((b1 || b2) && bh) && fd), (((b1 || b2) && bh) && fd), ((b1 || b2) && bh), true]) (by kernel_rfl) (by kernel_rfl) (by kernel_rfl) RgQ.out (by kernel_rfl) rfl rfl (by decide) rfl rfl rfl ?_ ?_
                    · intro i o a9 w9 ho hw f g hkp K hK
                      have hi : i < 30 := by have := (List.getElem?_eq_some_iff.1 ho).1; simpa using this
                      have hcs : i = 0 ∨ i = 1 ∨ i = 2 ∨ i = 3 ∨ i = 4 ∨ i = 5 ∨ i = 6 ∨ i = 7 ∨ i = 8 ∨ i = 9 ∨ i = 10 ∨ i = 11 ∨ i = 12 ∨ i = 13 ∨ i = 14 ∨ i = 15 ∨ i = 16 ∨ i = 17 ∨ i = 18 ∨ i = 19 ∨ i = 20 ∨ i = 21 ∨ i = 22 ∨ i = 23 ∨ i = 24 ∨ i = 25 ∨ i = 26 ∨ i = 27 ∨ i = 28 ∨ i = 29 := by omega
                      clear hi
                      rcases hcs with rfl | rfl | rfl | rfl | rfl | rfl | rfl | rfl | rfl | rfl | rfl | rfl | rfl | rfl | rfl | rfl | rfl | rfl | rfl | rfl | rfl | rfl | rfl | rfl | rfl | rfl | rfl | rfl | rfl | rfl
                      all_goals
                        first | simp only [List.getElem?_cons_zero, List.getElem?_cons_succ, Option.some.injEq] at ho | replace ho := Option.some.inj ho
                        subst ho
                      · have t20 : a9.tmps[20]?.getD undef = .pointer (some ⟨br, 0, none⟩) := g 20 (by decide)
                        unfold Oper.wp
                        simp only [execOp, Act.eval, Array.getD_eq_getD_getElem?]
                        go_simp
                        exact hK _ _ (Kp.refl _) rfl
                      · have t140 : a9.tmps[140]?.getD undef = .pointer (some ⟨br, 2, none⟩) := f 0 rfl
                        have r2 : w9.cell? ⟨br, 2, none⟩ = some (.int .i64 r.s) := (HBr.out.keep hkp).cell 2
                        unfold Oper.wp
                        simp only [execOp, Act.eval, Array.getD_eq_getD_getElem?]
                        go_simp
                        exact hK _ _ (Kp.refl _) rfl
                      · have t141 : a9.tmps[141]?.getD undef = .int .i64 r.s := f 1 rfl
                        unfold Oper.wp
                        simp only [execOp, Act.eval, Array.getD_eq_getD_getElem?]
                        go_simp
                        exact hK _ _ (Kp.refl _) rfl
                      · first | have t142 : a9.tmps[142]?.getD undef = .bool true := f 2 rfl | have t142 : a9.tmps[142]?.getD undef = .bool false := f 2 rfl | have t142 : a9.tmps[142]?.getD undef = undef := f 2 rfl
                        unfold Oper.wp
                        simp only [execOp, Act.eval, Array.getD_eq_getD_getElem?]
                        go_simp
                        exact hK _ _ (Kp.refl _) rfl
                      · first
                        | exact Bool.noConfusion (show false = true from hw)
                        | (have t20 : a9.tmps[20]?.getD undef = .pointer (some ⟨br, 0, none⟩) := g 20 (by decide)
                           unfold Oper.wp
                           simp only [execOp, Act.eval, Array.getD_eq_getD_getElem?]
                           go_simp
                           exact hK _ _ (Kp.refl _) rfl)
                      · first
                        | exact Bool.noConfusion (show false = true from hw)
                        | (have t144 : a9.tmps[144]?.getD undef = .pointer (some ⟨br, 2, none⟩) := f 4 rfl
                           have r2 : w9.cell? ⟨br, 2, none⟩ = some (.int .i64 r.s) := (HBr.out.keep hkp).cell 2
                           unfold Oper.wp
                           simp only [execOp, Act.eval, Array.getD_eq_getD_getElem?]
                           go_simp
                           exact hK _ _ (Kp.refl _) rfl)
                      · first
                        | exact Bool.noConfusion (show false = true from hw)
                        | (have t145 : a9.tmps[145]?.getD undef = .int .i64 r.s := f 5 rfl
                           unfold Oper.wp
                           simp only [execOp, Act.eval, Array.getD_eq_getD_getElem?]
                           go_simp
                           exact hK _ _ (Kp.refl _) rfl)
                      · first | have t143 : a9.tmps[143]?.getD undef = .bool true := f 3 rfl | have t143 : a9.tmps[143]?.getD undef = .bool false := f 3 rfl | have t143 : a9.tmps[143]?.getD undef = undef := f 3 rfl
                        first | have t146 : a9.tmps[146]?.getD undef = .bool true := f 6 rfl | have t146 : a9.tmps[146]?.getD undef = .bool false := f 6 rfl | have t146 : a9.tmps[146]?.getD undef = undef := f 6 rfl
                        unfold Oper.wp
                        simp only [execOp, Act.eval, Array.getD_eq_getD_getElem?]
                        go_simp
                        exact hK _ _ (Kp.refl _) rfl
                      · first | have t147 : a9.tmps[147]?.getD undef = .bool true := f 7 rfl | have t147 : a9.tmps[147]?.getD undef = .bool false := f 7 rfl | have t147 : a9.tmps[147]?.getD undef = undef := f 7 rfl
                        unfold Oper.wp
                        simp only [execOp, Act.eval, Array.getD_eq_getD_getElem?]
                        go_simp
                        exact hK _ _ (Kp.refl _) rfl
                      · first
                        | exact Bool.noConfusion (show false = true from hw)
                        | (have t20 : a9.tmps[20]?.getD undef = .pointer (some ⟨br, 0, none⟩) := g 20 (by decide)
                           unfold Oper.wp
                           simp only [execOp, Act.eval, Array.getD_eq_getD_getElem?]
                           go_simp
                           exact hK _ _ (Kp.refl _) rfl)
                      · first
                        | exact Bool.noConfusion (show false = true from hw)
                        | (have t149 : a9.tmps[149]?.getD undef = .pointer (some ⟨br, 0, none⟩) := f 9 rfl
                           have r0 : w9.cell? ⟨br, 0, none⟩ = some (.int .u32 (r.p.a : Int)) := (HBr.out.keep hkp).cell 0
                           have r1 : w9.cell? ⟨br, 1, none⟩ = some (.int .i64 r.p.l) := (HBr.out.keep hkp).cell 1
                           unfold Oper.wp
                           simp only [execOp, Act.eval, Array.getD_eq_getD_getElem?]
                           go_simp
                           exact hK _ _ (Kp.refl _) rfl)
                      · first
                        | exact Bool.noConfusion (show false = true from hw)
                        | (have t5 : a9.tmps[5]?.getD undef = .pointer (some ⟨b + 1, 0, none⟩) := g 5 (by decide)
                           have o0 : w9.cell? ⟨b + 1, 0, none⟩ = some (.slice (some ⟨ga, off, none⟩) tl.length m3) := (HBO.out.keep hkp).cell 0
                           unfold Oper.wp
                           simp only [execOp, Act.eval, Array.getD_eq_getD_getElem?]
                           go_simp
                           exact hK _ _ (Kp.refl _) rfl)
                      · first
                        | exact Bool.noConfusion (show false = true from hw)
                        | (have t15 : a9.tmps[15]?.getD undef = .pointer (some ⟨bk, 0, none⟩) := g 15 (by decide)
                           have k0 : w9.cell? ⟨bk, 0, none⟩ = some (.int .i64 (k : Nat)) := (HBK.out.keep hkp).cell 0
                           unfold Oper.wp
                           simp only [execOp, Act.eval, Array.getD_eq_getD_getElem?]
                           go_simp
                           exact hK _ _ (Kp.refl _) rfl)
                      · first
                        | exact Bool.noConfusion (show false = true from hw)
                        | (have t151 : a9.tmps[151]?.getD undef = .slice (some ⟨ga, off, none⟩) tl.length m3 := f 11 rfl
                           have t152 : a9.tmps[152]?.getD undef = .int .i64 (k : Nat) := f 12 rfl
                           unfold Oper.wp
                           simp only [execOp, Act.eval, Array.getD_eq_getD_getElem?]
                           go_simp
                           exact hK _ _ (Kp.refl _) rfl)
                      · first
                        | exact Bool.noConfusion (show false = true from hw)
                        | (have t153 : a9.tmps[153]?.getD undef = .pointer (some ⟨ga, off + k, none⟩) := f 13 rfl
                           have za := hkp.cell HZA.out
                           unfold Oper.wp
                           simp only [execOp, Act.eval, Array.getD_eq_getD_getElem?]
                           go_simp
                           exact hK _ _ (Kp.refl _) rfl)
                      · first
                        | exact Bool.noConfusion (show false = true from hw)
                        | (have t150 : a9.tmps[150]?.getD undef = .agg #[.int .u32 (r.p.a : Int), .int .i64 r.p.l] := f 10 rfl
                           have t154 : a9.tmps[154]?.getD undef = .int .u32 (a : Nat) := f 14 rfl
                           unfold Oper.wp
                           simp only [execOp, Act.eval, Array.getD_eq_getD_getElem?]
                           go_simp
                           refine (HHAS.out w9).mono ?_
                           rintro e wb ⟨rfl, hKc⟩
                           exact hK _ _ hKc rfl)
                      · first | have t148 : a9.tmps[148]?.getD undef = .bool true := f 8 rfl | have t148 : a9.tmps[148]?.getD undef = .bool false := f 8 rfl | have t148 : a9.tmps[148]?.getD undef = undef := f 8 rfl
                        first | have t155 : a9.tmps[155]?.getD undef = .bool true := f 15 rfl | have t155 : a9.tmps[155]?.getD undef = .bool false := f 15 rfl | have t155 : a9.tmps[155]?.getD undef = undef := f 15 rfl
                        unfold Oper.wp
                        simp only [execOp, Act.eval, Array.getD_eq_getD_getElem?]
                        go_simp
                        exact hK _ _ (Kp.refl _) rfl
                      · first | have t156 : a9.tmps[156]?.getD undef = .bool true := f 16 rfl | have t156 : a9.tmps[156]?.getD undef = .bool false := f 16 rfl | have t156 : a9.tmps[156]?.getD undef = undef := f 16 rfl
                        unfold Oper.wp
                        simp only [execOp, Act.eval, Array.getD_eq_getD_getElem?]
                        go_simp
                        exact hK _ _ (Kp.refl _) rfl
                      · first
                        | exact Bool.noConfusion (show false = true from hw)
                        | (have t17 : a9.tmps[17]?.getD undef = .pointer (some ⟨bw + 1, 0, none⟩) := g 17 (by decide)
                           have f0 : w9.cell? ⟨bw + 1, 0, none⟩ = some (.bool _) := (HBF.out.keep hkp).cell 0
                           unfold Oper.wp
                           simp only [execOp, Act.eval, Array.getD_eq_getD_getElem?]
                           go_simp
                           exact hK _ _ (Kp.refl _) rfl)
                      · first
                        | exact Bool.noConfusion (show false = true from hw)
                        | (first | have t158 : a9.tmps[158]?.getD undef = .bool true := f 18 rfl | have t158 : a9.tmps[158]?.getD undef = .bool false := f 18 rfl | have t158 : a9.tmps[158]?.getD undef = undef := f 18 rfl
                           unfold Oper.wp
                           simp only [execOp, Act.eval, Array.getD_eq_getD_getElem?]
                           go_simp
                           exact hK _ _ (Kp.refl _) rfl)
                      · first
                        | exact Bool.noConfusion (show false = true from hw)
                        | (first | have t159 : a9.tmps[159]?.getD undef = .bool true := f 19 rfl | have t159 : a9.tmps[159]?.getD undef = .bool false := f 19 rfl | have t159 : a9.tmps[159]?.getD undef = undef := f 19 rfl
                           unfold Oper.wp
                           simp only [execOp, Act.eval, Array.getD_eq_getD_getElem?]
                           go_simp
                           exact hK _ _ (Kp.refl _) rfl)
                      · first
                        | exact Bool.noConfusion (show false = true from hw)
                        | (have t20 : a9.tmps[20]?.getD undef = .pointer (some ⟨br, 0, none⟩) := g 20 (by decide)
                           unfold Oper.wp
                           simp only [execOp, Act.eval, Array.getD_eq_getD_getElem?]
                           go_simp
                           exact hK _ _ (Kp.refl _) rfl)
                      · first
                        | exact Bool.noConfusion (show false = true from hw)
                        | (have t161 : a9.tmps[161]?.getD undef = .pointer (some ⟨br, 0, none⟩) := f 21 rfl
                           unfold Oper.wp
                           simp only [execOp, Act.eval, Array.getD_eq_getD_getElem?]
                           go_simp
                           exact hK _ _ (Kp.refl _) rfl)
                      · first
                        | exact Bool.noConfusion (show false = true from hw)
                        | (have t162 : a9.tmps[162]?.getD undef = .pointer (some ⟨br, 1, none⟩) := f 22 rfl
                           have r1 : w9.cell? ⟨br, 1, none⟩ = some (.int .i64 r.p.l) := (HBr.out.keep hkp).cell 1
                           unfold Oper.wp
                           simp only [execOp, Act.eval, Array.getD_eq_getD_getElem?]
                           go_simp
                           exact hK _ _ (Kp.refl _) rfl)
                      · first
                        | exact Bool.noConfusion (show false = true from hw)
                        | (have t16 : a9.tmps[16]?.getD undef = .pointer (some ⟨bw, 0, none⟩) := g 16 (by decide)
                           unfold Oper.wp
                           simp only [execOp, Act.eval, Array.getD_eq_getD_getElem?]
                           go_simp
                           exact hK _ _ (Kp.refl _) rfl)
                      · first
                        | exact Bool.noConfusion (show false = true from hw)
                        | (have t164 : a9.tmps[164]?.getD undef = .pointer (some ⟨bw, 0, none⟩) := f 24 rfl
                           unfold Oper.wp
                           simp only [execOp, Act.eval, Array.getD_eq_getD_getElem?]
                           go_simp
                           exact hK _ _ (Kp.refl _) rfl)
                      · first
                        | exact Bool.noConfusion (show false = true from hw)
                        | (have t165 : a9.tmps[165]?.getD undef = .pointer (some ⟨bw, 1, none⟩) := f 25 rfl
                           have t1 : w9.cell? ⟨bw, 1, none⟩ = some (.int .i64 wt.p.l) := (HBW.out.keep hkp).cell 1
                           unfold Oper.wp
                           simp only [execOp, Act.eval, Array.getD_eq_getD_getElem?]
                           go_simp
                           exact hK _ _ (Kp.refl _) rfl)
                      · first
                        | exact Bool.noConfusion (show false = true from hw)
                        | (have t163 : a9.tmps[163]?.getD undef = .int .i64 r.p.l := f 23 rfl
                           have t166 : a9.tmps[166]?.getD undef = .int .i64 wt.p.l := f 26 rfl
                           unfold Oper.wp
                           simp only [execOp, Act.eval, Array.getD_eq_getD_getElem?]
                           go_simp
                           exact hK _ _ (Kp.refl _) rfl)
                      · first
                        | exact Bool.noConfusion (show false = true from hw)
                        | (first | have t160 : a9.tmps[160]?.getD undef = .bool true := f 20 rfl | have t160 : a9.tmps[160]?.getD undef = .bool false := f 20 rfl | have t160 : a9.tmps[160]?.getD undef = undef := f 20 rfl
                           first | have t167 : a9.tmps[167]?.getD undef = .bool true := f 27 rfl | have t167 : a9.tmps[167]?.getD undef = .bool false := f 27 rfl | have t167 : a9.tmps[167]?.getD undef = undef := f 27 rfl
                           unfold Oper.wp
                           simp only [execOp, Act.eval, Array.getD_eq_getD_getElem?]
                           go_simp
                           exact hK _ _ (Kp.refl _) rfl)
                      · first | have t157 : a9.tmps[157]?.getD undef = .bool true := f 17 rfl | have t157 : a9.tmps[157]?.getD undef = .bool false := f 17 rfl | have t157 : a9.tmps[157]?.getD undef = undef := f 17 rfl
                        first | have t168 : a9.tmps[168]?.getD undef = .bool true := f 28 rfl | have t168 : a9.tmps[168]?.getD undef = .bool false := f 28 rfl | have t168 : a9.tmps[168]?.getD undef = undef := f 28 rfl
                        unfold Oper.wp
                        simp only [execOp, Act.eval, Array.getD_eq_getD_getElem?]
                        go_simp
                        exact hK _ _ (Kp.refl _) rfl
                    intro w9 KV
                    (try simp only [Exit.then])
                    simp only [wrS, List.zip_cons_cons, List.zip_nil_right, List.foldl_cons, List.foldl_nil, List.setIfInBounds_toArray, List.set_cons_zero, List.set_cons_succ]
                    simp only [cond_true, cond_false, Bool.or_true, Bool.true_or, Bool.false_or, Bool.or_false, Bool.and_true, Bool.true_and, Bool.and_false, Bool.false_and, Bool.not_true, Bool.not_false]
                    exact ⟨rfl, KV, rfl, rfl, rfl, rfl, rfl, rfl⟩
                · rintro e ⟨ts, df⟩ w9 ⟨rfl, KV, hdf, hz9, f16, f17, f20, f169⟩
                  simp only at hdf hz9 f16 f17 f20 f169
                  subst hdf
                  obtain ⟨v, hv, hvi⟩ := lit224 ts hz9
                  rw [← hvi] at f16 f17 f20 f169
                  rw [hv]
                  rw [f16, f17, f20, f169]
                  clear f16 f17 f20 f169 hv hvi hz9 ts
                  obtain ⟨y9, hy9⟩ : ∃ y, ((b1 || b2) && (bh && (!fd || bg))) = y := ⟨_, rfl⟩
                  have hn9 := HNX.out
                  rw [hy9] at hn9 ⊢
                  have HN9 := Lib.hid hn9
                  have y := Blk.f (l := [.int .u32 (r.p.a : Int), .int .i64 r.p.l, .int .i64 r.s, .int .i64 r.m, .int .i64 r.l, .int .i64 r.f, .int .u32 (r.x : Int), .int .i64 r.d, .bool r.c]) (HBr.out.keep KV) rfl
                  have yw := Blk.f (l := [.int .u32 (wt.p.a : Int), .int .i64 wt.p.l, .int .i64 wt.s, .int .i64 wt.m, .int .i64 wt.l, .int .i64 wt.f, .int .u32 (wt.x : Int), .int .i64 wt.d, .bool wt.c]) (HBW.out.keep KV) rfl
                  have yf : w9.cell? ⟨bw + 1, 0, none⟩ = some (.bool fd) := (HBF.out.keep KV).cell 0
                  have zw := Blk.frozen (HBW.out.keep KV)
                  have zf := Blk.frozen (HBF.out.keep KV)
                  have HKW9 := Lib.hid KV
                  clear KV hn9 hy9 e1 e2 e4
                  (try simp only [Exit.then])
                  cases y9
                  · gi_wp2_with fail
                    exact LkI.no (show _ = (wt, fd) from HN9.out) HBW.out HBF.out HO2.out HKW9.out HSZ.out
                  · gi_wp2_with fail
                    exact LkI.yes (show _ = (r, true) from HN9.out) HBW.out HBF.out HO2.out HKW9.out HSZ.out Hl1.out Hl2.out (by omega)
            · rintro V ⟨g1, g2, g3⟩ hd
              rw [List.take_length] at g1 g2
              change Blk V bw _ (roC (lookR a L).1) at g1
              change Blk V (bw + 1) _ #[.bool (lookR a L).2] at g2
              have hlk := viq HGD.out.ok (fun r hr => (HT.out.fits HGD.out r hr).1) a
              rw [HX0.out, HLL.out] at hlk
              have hpl := vlc (a := a) (fun r hr => (HOL.out r hr).1)
              obtain ⟨⟨wt, fd⟩, hwf⟩ : ∃ s, lookR a L = s := ⟨_, rfl⟩
              rw [hwf] at g1 g2 hlk hpl
              simp only at g1 g2 hlk hpl
              have HKX2 : Hid (Kp wr V) := Lib.hid (g3.kp HKS.out (by have := Hbw.out; have := HREL.out.box.lt; have := HBW0.out; simp; omega))
              have hFi : Calls Tryz.prog 33 #[.pointer (some ⟨f, 0, none⟩), .int .u32 (a : Int)] V fun e w' => e = .returned (.tuple #[hopV wt.hop, .bool fd]) ∧ Kp V w' := by
                have h9 := vbN f G9 X0 a V ((HG.out.keep (HKW.out.trans HKX.out)).keep (HREL.out.kp.trans HKX2.out)) (HF.out.keep (HREL.out.kp.trans HKX2.out)) HAA.out
                rw [hlk] at h9
                exact h9
              have hv : hopV wt.hop = .agg #[.int .u32 (wt.p.a : Int), .int .i64 wt.p.l, .bool (wt.s == 1), .int .i64 wt.f, .int .u32 (wt.x : Int), .int .i64 wt.m] := by
                show Value.agg #[.int .u32 (wt.p.a : Int), .int .i64 ((wt.p.l.toNat : Nat) : Int), .bool (wt.s == 1), .int .i64 wt.f, .int .u32 (wt.x : Int), .int .i64 wt.m] = _
                rw [Int.toNat_of_nonneg hpl]
              rw [hv] at hFi
              have HFI := Lib.hid hFi
              have k0 : V.cell? ⟨bk, 0, none⟩ = some (.int .i64 (k : Nat)) := (HREL.out.box.keep HKX2.out).cell 0
              have o0 : V.cell? ⟨b + 1, 0, none⟩ = some (.slice (some ⟨ga, off, none⟩) tl.length m3) := (((HB1.out.keep HKX.out).keep HREL.out.kp).keep HKX2.out).cell 0
              have za := HKX2.out.cell HZ0.out
              have HG1 := Lib.hid g1
              have HG2 := Lib.hid g2
              have HG3 := Lib.hid g3
              have HD := Lib.hid hd
              clear g1 g2 g3 hd hlk hpl hwf hFi hv
              go_wp2_with fail
              refine HFI.out.mono ?_
              rintro e w16 ⟨rfl, K16⟩
              obtain ⟨bh, hbh⟩ : ∃ g, w16.heap.size = g := ⟨_, rfl⟩
              obtain ⟨w17, hw17, kw17, BH⟩ := Blk.al1 hbh #[.int .u32 (wt.p.a : Int), .int .i64 wt.p.l, .bool (wt.s == 1), .int .i64 wt.f, .int .u32 (wt.x : Int), .int .i64 wt.m] 89
              have HK17 := Lib.hid (K16.trans kw17)
              have hh := Blk.f BH rfl
              have yw := Blk.f (l := [.int .u32 (wt.p.a : Int), .int .i64 wt.p.l, .int .i64 wt.s, .int .i64 wt.m, .int .i64 wt.l, .int .i64 wt.f, .int .u32 (wt.x : Int), .int .i64 wt.d, .bool wt.c]) (HG1.out.keep HK17.out) rfl
              have f0 : w17.cell? ⟨bw + 1, 0, none⟩ = some (.bool fd) := (HG2.out.keep HK17.out).cell 0
              have k0 : w17.cell? ⟨bk, 0, none⟩ = some (.int .i64 (k : Nat)) := (HREL.out.box.keep (HKX2.out.trans HK17.out)).cell 0
              obtain ⟨bk2, hbk2⟩ : ∃ g, w17.heap.size = g := ⟨_, rfl⟩
              obtain ⟨w18, hw18, kw18, BK2⟩ := Blk.al1 hbk2 #[.int .i64 (k : Nat)] 3
              have k2 : w18.cell? ⟨bk2, 0, none⟩ = some (.int .i64 (k : Nat)) := BK2.cell 0
              have kz := BK2.frozen 0
              obtain ⟨w19, hw19⟩ : ∃ x, w18.setCell ⟨bk2, 0, none⟩ (.int .i64 ((k : Int) + 1)) = x := ⟨_, rfl⟩
              have o19 : Only [bk2] w18 w19 := by rw [← hw19]; exact (Only.refl _ _).setCell (.inl (by simp)) _
              have HOD : Hid (HoldF w14 tl.length (tl.length - (k + 1)) (k + 1) bk2 (ws.heap.size :: rs) w19) := Lib.hid (by
                have hb := HBW0.out
                have hw := Hbw.out
                have hsz := HKS.out.size
                have hlt1 : ∀ r ∈ rs, r < wr.heap.size := fun r hr => (Array.getElem?_eq_some_iff.1 (HREL.out.mks r hr)).1
                have hV17 : V.heap.size ≤ bk2 := by have := HK17.out.size; omega
                have hVs := HKX2.out.size
                have hds := (Array.getElem?_eq_some_iff.1 HD.out).1
                refine ⟨by omega, rfl, o19.kp (HREL.out.kp.trans (HKX2.out.trans (HK17.out.trans kw18))) (by simp; omega), ?_, by omega, List.nodup_cons.2 ⟨fun z => by have := hlt1 _ z; omega, HREL.out.nd⟩, ?_, ?_⟩
                · rw [← hw19]
                  simpa using BK2.set_ 0 (.int .i64 ((k : Int) + 1))
                · have q1 : MkF rs w18 := ((HREL.out.mks.keep HKS.out).only HG3.out (fun r hr => by have := hlt1 r hr; simp; omega)).keep (HK17.out.trans kw18)
                  have q2 : MkF rs w19 := q1.only o19 (fun r hr => by have := hlt1 r hr; simp; omega)
                  intro r hr
                  rcases List.mem_cons.1 hr with rfl | hr
                  · exact (o19.block _ (by have := kw18.size; omega) (by simp; omega)).trans (((HK17.out.trans kw18).heap hds).trans HD.out)
                  · exact q2 r hr
                · intro r hr
                  rcases List.mem_cons.1 hr with rfl | hr
                  · omega
                  · exact HREL.out.lo r hr)
              have hne : ∀ w, (binOp .neq 39 (.agg #[.int .u32 (wt.p.a : Int), .int .i64 wt.p.l]) (.agg #[.int .u32 (wt.p.a : Int), .int .i64 wt.p.l])).run Tryz.prog w = .ok (.bool false) w := fun w => by
                rw [vkc]
                simp
              clear K16 kw17 BH kw18 BK2 o19 o0 za
              cases fd
              all_goals
                go_wp2_with fail
                refine Handed.intro (tl.length - (k + 1)) ?_ ?_
                · have := HREL.out.hg
                  omega
                · go_step
                  refine ⟨k + 1, bk2, ws.heap.size :: rs, _, HOD.out, ?_, ?_, ?_, ?_, ?_, rfl⟩
                  all_goals rfl
          · have hgi : ¬ (k : Int) < (tl.length : Int) := by omega
            have dg : decide ((k : Int) < (tl.length : Int)) = false := decide_eq_false hgi
            go_wp2_with fail
            refine (HWK.out _ (HKX.out.trans HREL.out.kp)).mono ?_
            rintro e w5 ⟨rfl, K5⟩
            have HMK := Lib.hid (HREL.out.mks.keep K5)
            have HK6 := Lib.hid (HKW.out.trans ((HKX.out.trans HREL.out.kp).trans K5))
            have HLO : Hid (∀ r ∈ rs, w.heap.size ≤ r) := Lib.hid (fun r hr => by have := HREL.out.lo r hr; have := (HKW.out.trans HKX.out).size; omega)
            clear K5
            go_wp2_with fail
            refine vbd ?_
            refine veD rs _ HREL.out.nd HMK.out (fun W' hO => ⟨.bool true, ?_, rfl, hO.kp HK6.out HLO.out⟩)
            simp [results, Tryz.results6, go_sem]
end

end Go.Proofs.YtgopnfacklmkaaaGreatDoor
