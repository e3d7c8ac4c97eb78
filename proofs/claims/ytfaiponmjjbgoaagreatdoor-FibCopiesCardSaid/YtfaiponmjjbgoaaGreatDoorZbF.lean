/- Lemmas and contracts for the theorem of this claim: RfE, RgA, AlB, AlC, AlD, AlE. -/
import Derived.Test.YtfaiponmjjbgoaaGreatDoorZbE
set_option linter.unusedSimpArgs false
set_option linter.unusedVariables false
/- The reference's One: a route comes to a list of hops. -/
namespace Go.Proofs.YtfaiponmjjbgoaaGreatDoor
open Go.RowKit

theorem insStep_len (h : Hp) (s : List Hp × Bool) (e : Hp) : (insStep h s e).1.length ≤ s.1.length + 2 := by
  unfold insStep
  simp only
  split <;> split <;> simp
theorem insFold_len (h : Hp) : ∀ (l : List Hp) (s : List Hp × Bool), (l.foldl (insStep h) s).1.length ≤ s.1.length + 2 * l.length
  | [], s => by simp
  | e :: l, s => by
    have h1 := insFold_len h l (insStep h s e)
    have h2 := insStep_len h s e
    simp only [List.foldl_cons, List.length_cons]
    omega
def insAt (h : Hp) (b0 : Bool) (L : List Hp) (k : Nat) : List Hp × Bool := (L.take k).foldl (insStep h) ([], b0)
theorem insAt_zero (h : Hp) (b0 : Bool) (L : List Hp) : insAt h b0 L 0 = ([], b0) := by simp [insAt]
theorem insAt_succ {h : Hp} {b0 : Bool} {L : List Hp} {k : Nat} (hk : k < L.length) : insAt h b0 L (k + 1) = insStep h (insAt h b0 L k) L[k] := by
  unfold insAt
  have e : L.take k ++ [L[k]] = L.take (k + 1) := by simp
  rw [← e, List.foldl_append]
  rfl
theorem insAt_len (h : Hp) (b0 : Bool) (L : List Hp) (k : Nat) : (insAt h b0 L k).1.length ≤ 2 * k := by
  have := insFold_len h (L.take k) ([], b0)
  unfold insAt
  simp only [List.length_nil, List.length_take] at this
  omega
theorem insAt_true {h : Hp} {b0 : Bool} {L : List Hp} {k : Nat} (e : (insAt h b0 L k).2 = true) : b0 = true := by
  cases b0 with
  | true => rfl
  | false => unfold insAt at e; rw [insStep_false] at e; exact e
theorem Own.len1 {α : Type} {w : World} {base e sz c : Nat} {enc : α → List Value} {A : Option Addr} {xs : List α} {y : α} (h : Own w base e sz enc (.slice A (xs.length + 1) c) (xs ++ [y])) : Own w base e sz enc (.slice A (xs ++ [y]).length c) (xs ++ [y]) := by
  have e : (xs ++ [y]).length = xs.length + 1 := by simp
  rw [e]; exact h
theorem insAt_all (h : Hp) (b0 : Bool) (L : List Hp) : insAt h b0 L L.length = L.foldl (insStep h) ([], b0) := by unfold insAt; rw [List.take_length]

def OneP (w : World) (A0 : Option Addr) (l : List Hp) (n : Int) (e : Ending) (w' : World) : Prop := ∃ A c, e = .returned (.tuple #[.agg #[.slice A l.length c], .int .i64 n]) ∧ Rd w' 6 Hp.enc A l ∧ Kp w w' ∧ (A = A0 ∨ ∀ a, A = some a → w.heap.size ≤ a.block ∧ a.block < w'.heap.size)

set_option maxRecDepth 100000 in
set_option maxHeartbeats 1000000 in
theorem one_bad (A : Option Addr) (c : Nat) (L : List Hp) (r : Rt) (w : World) (hR : Rd w 6 Hp.enc A L) (ha : r.p.a < 4294967296) (hx : r.x < 4294967296) (hr : rightB r = false) :
    Calls Tryz.prog 9 #[.agg #[.slice A L.length c], .agg #[.int .u32 r.p.a, .int .i64 r.p.l, .int .i64 r.s, .int .i64 r.m, .int .i64 r.l, .int .i64 r.f, .int .u32 r.x, .int .i64 r.d, .bool r.c]] w (OneP w A L 2) := by
  obtain ⟨W, hW, kW, B0, B2, B1⟩ : ∃ W, ((w.alloc (.cells #[.slice A L.length c] 35)).alloc (.cells #[.int .u32 r.p.a, .int .i64 r.p.l, .int .i64 r.s, .int .i64 r.m, .int .i64 r.l, .int .i64 r.f, .int .u32 r.x, .int .i64 r.d, .bool r.c] 29)).alloc (.cells #[.slice none 0 0] 35) = W ∧ Kp w W ∧ Blk W w.heap.size 35 #[.slice A L.length c] ∧ Blk W (w.heap.size + 1 + 1) 35 #[.slice none 0 0] ∧ Blk W (w.heap.size + 1) 29 #[.int .u32 r.p.a, .int .i64 r.p.l, .int .i64 r.s, .int .i64 r.m, .int .i64 r.l, .int .i64 r.f, .int .u32 r.x, .int .i64 r.d, .bool r.c] :=
    ⟨_, rfl, (((Kp.refl _).alloc _).alloc _).alloc _, ((Blk.new w _ _).alloc _).alloc _, Blk.new2 w _ _ _ _, (Blk.new1 w _ _ _).alloc _⟩
  have y0 : W.cell? ⟨w.heap.size + 1, 0, none⟩ = some (.int .u32 r.p.a) := B1.cell 0
  have y1 : W.cell? ⟨w.heap.size + 1, 1, none⟩ = some (.int .i64 r.p.l) := B1.cell 1
  have y2 : W.cell? ⟨w.heap.size + 1, 2, none⟩ = some (.int .i64 r.s) := B1.cell 2
  have y3 : W.cell? ⟨w.heap.size + 1, 3, none⟩ = some (.int .i64 r.m) := B1.cell 3
  have y4 : W.cell? ⟨w.heap.size + 1, 4, none⟩ = some (.int .i64 r.l) := B1.cell 4
  have y5 : W.cell? ⟨w.heap.size + 1, 5, none⟩ = some (.int .i64 r.f) := B1.cell 5
  have y6 : W.cell? ⟨w.heap.size + 1, 6, none⟩ = some (.int .u32 r.x) := B1.cell 6
  have y7 : W.cell? ⟨w.heap.size + 1, 7, none⟩ = some (.int .i64 r.d) := B1.cell 7
  have y8 : W.cell? ⟨w.heap.size + 1, 8, none⟩ = some (.bool r.c) := B1.cell 8
  have HR := Lib.hid hR
  have Hr := Lib.hid hr
  clear hR hr
  go_enter Tryz.func9, Tryz.ntmps9
  go_wp2_with fail
  refine (right_any r _ ha hx).mono ?_
  rintro e w1 ⟨rfl, hK⟩
  rw [Hr.out]
  have D0 := B0.keep hK
  have D2 := B2.keep hK
  have f0 : w1.cell? ⟨w.heap.size, 0, none⟩ = some (.slice A L.length c) := D0.cell 0
  have r0 : w1.cell? ⟨w.heap.size + 1 + 1, 0, none⟩ = some (.slice none 0 0) := D2.cell 0
  have z0 := D2.frozen 0
  have kz := kW.trans hK
  clear hW
  go_wp2_with fail
  have R1 := D2.set_ 0 (.slice A L.length c)
  have k2 : Kp w (w1.setCell ⟨w.heap.size + 1 + 1, 0, none⟩ (.slice A L.length c)) := kz.setCell (by simp <;> omega) _
  generalize w1.setCell ⟨w.heap.size + 1 + 1, 0, none⟩ (.slice A L.length c) = Z at R1 k2 ⊢
  have d0 : Z.cell? ⟨w.heap.size + 1 + 1, 0, none⟩ = some (.slice A L.length c) := R1.cell 0
  exact bodyPost_ret (v := .tuple #[.agg #[.slice A L.length c], .int .i64 2]) (by simp [results, Tryz.results9, go_sem, d0]) rfl ⟨A, c, rfl, HR.out.keep k2, k2, .inl rfl⟩

/-- What the loop of One finds. -/
structure OneI (w W0 : World) (A : Option Addr) (c : Nat) (L : List Hp) (q : Pn) (hb rb : Nat) (hh : Hp) : Prop where
  kp : Kp w W0
  fb : Blk W0 w.heap.size 35 #[.slice A L.length c]
  pa : W0.cell? ⟨w.heap.size + 1, 0, none⟩ = some (.int .u32 q.a)
  pl : W0.cell? ⟨w.heap.size + 1, 1, none⟩ = some (.int .i64 q.l)
  rb : Blk W0 (w.heap.size + 1 + 1) 35 #[.slice none 0 0]
  hb : Blk W0 hb 53 #[.int .u32 hh.p.a, .int .i64 hh.p.l, .bool hh.d, .int .i64 hh.f, .int .u32 hh.x, .int .i64 hh.m]
  rd : Rd W0 6 Hp.enc A L

set_option maxRecDepth 100000 in
set_option maxHeartbeats 8000000 in
theorem one_right (A : Option Addr) (c : Nat) (L : List Hp) (q : Pn) (s m l fc : Int) (x : Nat) (d : Int) (ch : Bool) (w : World) (hR : Rd w 6 Hp.enc A L) (hn : L.length ≤ 512) (hq : q.ok) (hx : x < 4294967296) (hu : Up L) (hc : checkR ⟨q.pi, s, m, l, fc, x, d, ch⟩ = 0) :
    Calls Tryz.prog 9 #[.agg #[.slice A L.length c], .agg (rtC q s m l fc x d ch)] w (OneP w A (comeL ⟨q.pi, s, m, l, fc, x, d, ch⟩ L) (comeE ⟨q.pi, s, m, l, fc, x, d, ch⟩ L)) := by
  obtain ⟨r, hr⟩ : ∃ r : Rt, r = ⟨q.pi, s, m, l, fc, x, d, ch⟩ := ⟨_, rfl⟩
  rw [← hr] at hc ⊢
  have hpn : r.p.pn = q := by rw [hr]; simp [Pn.pi, PI.pn]
  have hrr : rightB r = true := by
    cases h : rightB r with
    | true => rfl
    | false => rw [check_right, h] at hc; simp at hc
  -- the plain law
  obtain ⟨b0, hb0⟩ : ∃ b0 : Bool, decide (s = 1 ∨ s = 2) = b0 := ⟨_, rfl⟩
  have hsr : r.s = s := by rw [hr]
  have Hh : Hid ((rhop q s m fc x).2 = b0 ∧ (b0 = true → (rhop q s m fc x).1 = r.hop) ∧ r.hop.p = q) := by
    refine ⟨?_, ?_, by simp [Rt.hop, hpn]⟩
    · by_cases h12 : s = 1 ∨ s = 2
      · have := rhop_right hc (by rw [hsr]; exact h12)
        rw [hr] at this
        have e : (⟨q.pi, s, m, l, fc, x, d, ch⟩ : Rt).p.pn = q := by simp [Pn.pi, PI.pn]
        simp only [e] at this
        rw [this, ← hb0]; simp [h12]
      · rw [rhop_gone h12, ← hb0]; simp [h12]
    · intro hb
      rw [← hb0] at hb
      have h12 := of_decide_eq_true hb
      have := rhop_right hc (by rw [hsr]; exact h12)
      rw [hpn] at this
      have e2 : rhop q s m fc x = rhop q r.s r.m r.f r.x := by rw [hr]
      rw [e2, this]
  have Hlong : Hid ((b0 && !hasP q L && decide (512 ≤ L.length)) = true → comeL r L = L ∧ comeE r L = 3) := by
    intro h
    simp only [Bool.and_eq_true, Bool.not_eq_true', decide_eq_true_eq] at h
    obtain ⟨⟨h1, h2⟩, h3⟩ := h
    rw [← hb0] at h1
    have h12 := of_decide_eq_true h1
    rw [← hsr] at h12
    have e1 : r.hop.p = q := by simp [Rt.hop, hpn]
    have e2 : (hasP r.hop.p L || decide (L.length < 512)) = false := by rw [e1, h2]; simp; omega
    exact ⟨by simp only [comeL, hc, h12, if_true, putL, e2]; simp, by simp only [comeE, hc, h12, if_true, putE, e2]; simp⟩
  have Hok : Hid ((b0 && !hasP q L && decide (512 ≤ L.length)) = false → comeL r L = insEnd r.hop (insAt r.hop b0 L L.length) ∧ comeE r L = 0) := by
    intro h
    rw [insAt_all]
    by_cases h12 : s = 1 ∨ s = 2
    · have hb : b0 = true := by rw [← hb0]; simp [h12]
      subst hb
      rw [insStep_true L [] hu]
      have e1 : r.hop.p = q := by simp [Rt.hop, hpn]
      have e2 : (hasP r.hop.p L || decide (L.length < 512)) = true := by
        rw [e1]
        cases h5 : hasP q L with
        | true => simp
        | false => rw [h5] at h; simp at h; simp; omega
      rw [← hsr] at h12
      exact ⟨by simp only [comeL, hc, h12, if_true, putL, e2]; simp, by simp only [comeE, hc, h12, if_true, putE, e2]⟩
    · have hb : b0 = false := by rw [← hb0]; simp [h12]
      subst hb
      rw [insStep_gone]
      have e1 : r.hop.p = q := by simp [Rt.hop, hpn]
      rw [← hsr] at h12
      exact ⟨by simp only [comeL, hc, h12, if_true, if_false, e1, hpn]; simp, by simp only [comeE, hc, h12, if_true, if_false]⟩
  have HR := Lib.hid hR
  have Hright := Lib.hid (fun w => right_any r w (by rw [hr]; exact hq.1) (by rw [hr]; exact hx))
  rw [hrr, hr] at Hright
  have Hget := Lib.hid (fun w hR => rget_any A c L q.pi w hR (by omega))
  obtain ⟨gt, hgt⟩ : ∃ gt, getI q.pi L = gt := ⟨_, rfl⟩
  have Hgh : Hid (gt.2 = hasP q L) := by rw [← hgt]; exact Lib.hid getI_has
  rw [hgt] at Hget
  obtain ⟨hp, hhp⟩ : ∃ hp, hasP q L = hp := ⟨_, rfl⟩
  rw [hhp] at Hgh Hlong Hok
  obtain ⟨ph, hph⟩ : ∃ ph, rhop q s m fc x = ph := ⟨_, rfl⟩
  have Hhop := Lib.hid (fun w => rhop_any q s m l fc x d ch w)
  rw [hph] at Hh Hhop
  obtain ⟨CL, hCL⟩ : ∃ CL, comeL r L = CL := ⟨_, rfl⟩
  obtain ⟨CE, hCE⟩ : ∃ CE, comeE r L = CE := ⟨_, rfl⟩
  rw [hCL, hCE] at Hlong Hok ⊢
  obtain ⟨rh, hrh⟩ : ∃ rh, r.hop = rh := ⟨_, rfl⟩
  rw [hrh] at Hh Hok
  clear hR hgt hhp hph hCL hCE hrh hr hc hpn hrr hsr hb0
  unfold rtC at Hhop ⊢
  obtain ⟨W, hW, kW, B0, B1, B2⟩ : ∃ W, ((w.alloc (.cells #[.slice A L.length c] 35)).alloc (.cells #[.int .u32 q.a, .int .i64 q.l, .int .i64 s, .int .i64 m, .int .i64 l, .int .i64 fc, .int .u32 x, .int .i64 d, .bool ch] 29)).alloc (.cells #[.slice none 0 0] 35) = W ∧ Kp w W ∧ Blk W w.heap.size 35 #[.slice A L.length c] ∧ Blk W (w.heap.size + 1) 29 #[.int .u32 q.a, .int .i64 q.l, .int .i64 s, .int .i64 m, .int .i64 l, .int .i64 fc, .int .u32 x, .int .i64 d, .bool ch] ∧ Blk W (w.heap.size + 1 + 1) 35 #[.slice none 0 0] :=
    ⟨_, rfl, (((Kp.refl _).alloc _).alloc _).alloc _, ((Blk.new w _ _).alloc _).alloc _, (Blk.new1 w _ _ _).alloc _, Blk.new2 w _ _ _ _⟩
  obtain ⟨hh, b1⟩ := ph
  obtain ⟨gh, gb⟩ := gt
  simp only at Hh Hgh
  obtain rfl : b1 = b0 := Hh.out.1
  obtain rfl : gb = hp := Hgh.out
  have Hhh := Lib.hid Hh.out.2.1
  have Hhq := Lib.hid Hh.out.2.2
  clear Hh Hgh
  have y0 : W.cell? ⟨w.heap.size + 1, 0, none⟩ = some (.int .u32 q.a) := B1.cell 0
  have y1 : W.cell? ⟨w.heap.size + 1, 1, none⟩ = some (.int .i64 q.l) := B1.cell 1
  have y2 : W.cell? ⟨w.heap.size + 1, 2, none⟩ = some (.int .i64 s) := B1.cell 2
  have y3 : W.cell? ⟨w.heap.size + 1, 3, none⟩ = some (.int .i64 m) := B1.cell 3
  have y4 : W.cell? ⟨w.heap.size + 1, 4, none⟩ = some (.int .i64 l) := B1.cell 4
  have y5 : W.cell? ⟨w.heap.size + 1, 5, none⟩ = some (.int .i64 fc) := B1.cell 5
  have y6 : W.cell? ⟨w.heap.size + 1, 6, none⟩ = some (.int .u32 x) := B1.cell 6
  have y7 : W.cell? ⟨w.heap.size + 1, 7, none⟩ = some (.int .i64 d) := B1.cell 7
  have y8 : W.cell? ⟨w.heap.size + 1, 8, none⟩ = some (.bool ch) := B1.cell 8
  go_enter Tryz.func9, Tryz.ntmps9
  go_wp2_with fail
  refine (Hright.out _).mono ?_
  rintro e w1 ⟨rfl, hK1⟩
  have D1 := B1.keep hK1
  clear y0 y1 y2 y3 y4 y5 y6 y7 y8
  have x0 : w1.cell? ⟨w.heap.size + 1, 0, none⟩ = some (.int .u32 q.a) := D1.cell 0
  have x1 : w1.cell? ⟨w.heap.size + 1, 1, none⟩ = some (.int .i64 q.l) := D1.cell 1
  have x2 : w1.cell? ⟨w.heap.size + 1, 2, none⟩ = some (.int .i64 s) := D1.cell 2
  have x3 : w1.cell? ⟨w.heap.size + 1, 3, none⟩ = some (.int .i64 m) := D1.cell 3
  have x4 : w1.cell? ⟨w.heap.size + 1, 4, none⟩ = some (.int .i64 l) := D1.cell 4
  have x5 : w1.cell? ⟨w.heap.size + 1, 5, none⟩ = some (.int .i64 fc) := D1.cell 5
  have x6 : w1.cell? ⟨w.heap.size + 1, 6, none⟩ = some (.int .u32 x) := D1.cell 6
  have x7 : w1.cell? ⟨w.heap.size + 1, 7, none⟩ = some (.int .i64 d) := D1.cell 7
  have x8 : w1.cell? ⟨w.heap.size + 1, 8, none⟩ = some (.bool ch) := D1.cell 8
  clear hW
  go_wp2_with fail
  refine (Hhop.out _).mono ?_
  rintro e w2 ⟨rfl, hK2⟩
  have E1 := D1.keep hK2
  obtain ⟨V2, hV2, kV2, HB⟩ : ∃ V2, w2.alloc (.cells #[.int .u32 hh.p.a, .int .i64 hh.p.l, .bool hh.d, .int .i64 hh.f, .int .u32 hh.x, .int .i64 hh.m] 53) = V2 ∧ Kp w2 V2 ∧ Blk V2 w2.heap.size 53 #[.int .u32 hh.p.a, .int .i64 hh.p.l, .bool hh.d, .int .i64 hh.f, .int .u32 hh.x, .int .i64 hh.m] := ⟨_, rfl, (Kp.refl _).alloc _, Blk.new w2 _ _⟩
  clear x0 x1 x2 x3 x4 x5 x6 x7 x8
  have kV := ((kW.trans hK1).trans hK2).trans kV2
  have f0 : V2.cell? ⟨w.heap.size, 0, none⟩ = some (.slice A L.length c) := (((B0.keep hK1).keep hK2).keep kV2).cell 0
  have x0 : V2.cell? ⟨w.heap.size + 1, 0, none⟩ = some (.int .u32 q.a) := (E1.keep kV2).cell 0
  have x1 : V2.cell? ⟨w.heap.size + 1, 1, none⟩ = some (.int .i64 q.l) := (E1.keep kV2).cell 1
  unfold hopV
  go_wp2_with fail
  refine (Hget.out _ (HR.out.keep kV)).mono ?_
  rintro e w3 ⟨rfl, hK3⟩
  have kW0 := kV.trans hK3
  obtain ⟨W0, hW0, kX, I0⟩ : ∃ W0, w3.alloc (.cells #[.int .u32 gh.p.a, .int .i64 gh.p.l, .bool gh.d, .int .i64 gh.f, .int .u32 gh.x, .int .i64 gh.m] 53) = W0 ∧ Kp w3 W0 ∧ OneI w W0 A c L q w2.heap.size (w.heap.size + 1 + 1) hh := by
    refine ⟨_, rfl, (Kp.refl _).alloc _, ?_⟩
    have kk : Kp w2 (w3.alloc (.cells #[.int .u32 gh.p.a, .int .i64 gh.p.l, .bool gh.d, .int .i64 gh.f, .int .u32 gh.x, .int .i64 gh.m] 53)) := (kV2.trans hK3).alloc _
    exact ⟨kW0.alloc _, ((B0.keep hK1).keep hK2).keep kk, (E1.keep kk).cell 0, (E1.keep kk).cell 1, ((B2.keep hK1).keep hK2).keep kk, (HB.keep hK3).alloc _, HR.out.keep (kW0.alloc _)⟩
  clear f0 x0 x1 hV2 HB E1 D1 B0 B1 B2 hK3 kX kV kV2 hK2 hK1 kW
  have f0 : W0.cell? ⟨w.heap.size, 0, none⟩ = some (.slice A L.length c) := I0.fb.cell 0
  have r0 : W0.cell? ⟨w.heap.size + 1 + 1, 0, none⟩ = some (.slice none 0 0) := I0.rb.cell 0
  have z0 := I0.rb.frozen 0
  have HI := Lib.hid I0
  clear I0
  unfold hopV
  by_cases hlong : (b1 && !gb && decide (512 ≤ L.length)) = true
  · obtain ⟨rfl, rfl⟩ := Hlong.out hlong
    simp only [Bool.and_eq_true, Bool.not_eq_true', decide_eq_true_eq] at hlong
    obtain ⟨⟨rfl, rfl⟩, hl⟩ := hlong
    have hd : decide ((512 : Int) ≤ CL.length) = true := by simp; omega
    clear hl Hlong Hok
    go_wp2_with fail
    have R1 := HI.out.rb.set_ 0 (.slice A CL.length c)
    have k2 : Kp w (W0.setCell ⟨w.heap.size + 1 + 1, 0, none⟩ (.slice A CL.length c)) := HI.out.kp.setCell (by simp <;> omega) _
    generalize W0.setCell ⟨w.heap.size + 1 + 1, 0, none⟩ (.slice A CL.length c) = Z at R1 k2 ⊢
    have d0 : Z.cell? ⟨w.heap.size + 1 + 1, 0, none⟩ = some (.slice A CL.length c) := R1.cell 0
    exact bodyPost_ret (v := .tuple #[.agg #[.slice A CL.length c], .int .i64 3]) (by simp [results, Tryz.results9, go_sem, d0]) rfl ⟨A, c, rfl, HR.out.keep k2, k2, .inl rfl⟩
  have hlf : (b1 && !gb && decide (512 ≤ L.length)) = false := by
    cases h : (b1 && !gb && decide (512 ≤ L.length)) with
    | false => rfl
    | true => exact absurd h hlong
  obtain ⟨hCL, hCE⟩ := Hok.out hlf
  subst hCE
  have HCL := Lib.hid hCL
  clear hlong hCL Hlong Hok
  go_upto_region 5 with (fail)
  go_cut [38] from 28 to 38 (fun s wx => s = .bool false ∧ W0 = wx)
  case first =>
    cases b1 with
    | false =>
      go_wp2_with fail
      go_meet
      case rel => exact ⟨rfl, rfl⟩
    | true =>
      cases gb with
      | true =>
        go_wp2_with fail
        go_meet
        case rel => exact ⟨rfl, rfl⟩
      | false =>
        have hd : decide ((512 : Int) ≤ L.length) = false := by simp at hlf; simp; omega
        go_wp2_with fail
        go_meet
        case rel => exact ⟨rfl, rfl⟩
  case rest =>
  obtain ⟨rfl, rfl⟩ := hcut
  clear hlf f0 r0 z0
  have f0 : W0.cell? ⟨w.heap.size, 0, none⟩ = some (.slice A L.length c) := HI.out.fb.cell 0
  go_wp2_with fail
  clear f0
  go_loopw [7, 10, 11] (fun is v i wr => ∃ (k : Nat) (b' : Bool) (A' : Option Addr) (c' : Nat) (o : List Hp), k ≤ L.length ∧ i = .int .i64 k ∧ is = .bool b' ∧ v = .slice A' o.length c' ∧ Hid (Own wr W0.heap.size 53 6 Hp.enc (.slice A' o.length c') o) ∧ Hid (insAt rh b1 L k = (o, b')) ∧ Hid (Kp W0 wr)) (fun _ _ i _ => L.length - (intOf i).toNat)
  case atStart => exact ⟨0, b1, none, 0, [], Nat.zero_le _, rfl, rfl, rfl, Own.nil _ _ _ _ _, Lib.hid (insAt_zero _ _ _), Kp.refl _⟩
  case round =>
    obtain ⟨k, b', A', c', o, hk, rfl, rfl, rfl, ho, hat, hK⟩ := hrel
    have hol : o.length ≤ 2 * k := by have := insAt_len rh b1 L k; rw [hat.out] at this; exact this
    have hfit1 : Hid ((o.length + 1) * (48 + 1) ≤ 140737488355328) := Lib.hid (by omega)
    have hfit2 : Hid (∀ z : Hp, ((o ++ [z]).length + 1) * (48 + 1) ≤ 140737488355328) := Lib.hid (fun z => by rw [List.length_append, List.length_singleton]; omega)
    by_cases hlt : k < L.length
    · obtain ⟨b, off, hA, G0, G1, G2, G3, G4, G5⟩ := hop_at HI.out.rd hlt
      subst hA
      obtain ⟨y, hy⟩ : ∃ y, L[k] = y := ⟨_, rfl⟩
      rw [hy] at G0 G1 G2 G3 G4 G5
      have Hy := Lib.hid hy; clear hy
      obtain ⟨K0, hK0⟩ : ∃ K0 : Kp W0 wr, True := ⟨hK.out, trivial⟩
      clear hK0
      have Hne := Lib.hid (pfx_ne (p := y.p) (q := q))
      have f_wr : wr.cell? ⟨w.heap.size, 0, none⟩ = some (.slice (some ⟨b, off, none⟩) L.length c) := (HI.out.fb.keep K0).cell 0
      have p0_wr : wr.cell? ⟨w.heap.size + 1, 0, none⟩ = some (.int .u32 q.a) := K0.cell HI.out.pa
      have p1_wr : wr.cell? ⟨w.heap.size + 1, 1, none⟩ = some (.int .i64 q.l) := K0.cell HI.out.pl
      have g0_wr := K0.cell G0
      have g1_wr := K0.cell G1
      have g2_wr := K0.cell G2
      have g3_wr := K0.cell G3
      have g4_wr := K0.cell G4
      have g5_wr := K0.cell G5
      cases b' with
      | false =>
        by_cases heq : y.p = q
        · have Hst : Hid (insStep rh (o, false) y = (o, false)) := Lib.hid (by simp [insStep, Hhq.out, heq])
          have hne : ∀ w, (binOp .neq 26 (.agg #[.int .u32 y.p.a, .int .i64 y.p.l]) (.agg #[.int .u32 q.a, .int .i64 q.l])).run Tryz.prog w = .ok (.bool false) w := fun w => by rw [Hne.out]; simp [heq]
          clear heq
          go_upto_region 11 with (fail)
          go_quiet (fail)
          go_upto_region 14 with (fail)
          go_quiet (fail)
          go_wp2_with fail
          go_roundw
          case rel => exact ⟨k + 1, false, _, c', o, by omega, by go_num, rfl, rfl, ho.out.drewN _, Lib.hid (by rw [insAt_succ hlt, hat.out, Hy.out, Hst.out]), K0.drewN _⟩
          case measure => simp [intOf]; omega
        · have Hst : Hid (insStep rh (o, false) y = (o ++ [y], false)) := Lib.hid (by simp [insStep, Hhq.out, heq])
          have hne : ∀ w, (binOp .neq 26 (.agg #[.int .u32 y.p.a, .int .i64 y.p.l]) (.agg #[.int .u32 q.a, .int .i64 q.l])).run Tryz.prog w = .ok (.bool true) w := fun w => by rw [Hne.out]; simp [heq]
          clear heq
          go_upto_region 11 with (fail)
          go_quiet (fail)
          go_upto_region 14 with (fail)
          go_quiet (fail)
          go_wp2_with (at_builtin; go_must (refine wpList_appx EHop rfl _ _ rfl y rfl (ho.out.drewN _) (K0.drewN _) (Nat.le_refl _) ((K0.drewN _)).size rfl rfl rfl rfl rfl hfit1.out ?_); intro v_w5 w5 own_w5 K_w5 hg_w5; obtain ⟨A_w5, c_w5, rfl⟩ := own_w5.form1)
          go_roundw
          case rel => exact ⟨k + 1, false, _, c_w5, (o ++ [y]), by omega, by go_num, rfl, by simp, own_w5.len1, Lib.hid (by rw [insAt_succ hlt, hat.out, Hy.out, Hst.out]), K_w5⟩
          case measure => simp [intOf]; omega
      | true =>
        obtain rfl : b1 = true := insAt_true (h := rh) (L := L) (k := k) (by rw [hat.out])
        obtain rfl : hh = rh := Hhh.out rfl
        go_upto_region 11 with (fail)
        refine wp_tail 10 (by kernel_rfl) (by kernel_rfl) (fun V hV => ?_)
        have KV : Kp W0 V := by rw [hV]; exact K0.drew
        have HoV : Hid (Own V W0.heap.size 53 6 Hp.enc (.slice A' o.length c') o) := by rw [hV]; exact Lib.hid ho.out.drew
        clear hV
        clear f_wr p0_wr p1_wr g0_wr g1_wr g2_wr g3_wr g4_wr g5_wr
        have f_V : V.cell? ⟨w.heap.size, 0, none⟩ = some (.slice (some ⟨b, off, none⟩) L.length c) := (HI.out.fb.keep KV).cell 0
        have p0_V : V.cell? ⟨w.heap.size + 1, 0, none⟩ = some (.int .u32 q.a) := KV.cell HI.out.pa
        have p1_V : V.cell? ⟨w.heap.size + 1, 1, none⟩ = some (.int .i64 q.l) := KV.cell HI.out.pl
        have g0_V := KV.cell G0
        have g1_V := KV.cell G1
        simp only [List.take_succ_cons, List.take_zero, List.drop_succ_cons, List.drop_zero]
        repeat still_step
        refine wpStill_nil ?_
        go_wp2_with fail
        refine (rorder_any q y.p V).mono ?_
        rintro e w4 ⟨rfl, hK4⟩
        have hz := ord_le q y.p
        obtain ⟨z, hzz⟩ : ∃ z, ordP q y.p = z := ⟨_, rfl⟩
        rw [hzz] at hz ⊢
        have Hz := Lib.hid hz
        clear hz hzz
        have K4 := KV.trans hK4
        have Ho4 := Lib.hid (HoV.out.keep hK4)
        clear f_V p0_V p1_V g0_V g1_V
        have f_w4 : w4.cell? ⟨w.heap.size, 0, none⟩ = some (.slice (some ⟨b, off, none⟩) L.length c) := (HI.out.fb.keep K4).cell 0
        have p0_w4 : w4.cell? ⟨w.heap.size + 1, 0, none⟩ = some (.int .u32 q.a) := K4.cell HI.out.pa
        have p1_w4 : w4.cell? ⟨w.heap.size + 1, 1, none⟩ = some (.int .i64 q.l) := K4.cell HI.out.pl
        have g0_w4 := K4.cell G0
        have g1_w4 := K4.cell G1
        have g2_w4 := K4.cell G2
        have g3_w4 := K4.cell G3
        have g4_w4 := K4.cell G4
        have g5_w4 := K4.cell G5
        have h0_w4 : w4.cell? ⟨w2.heap.size, 0, none⟩ = some (.int .u32 hh.p.a) := (HI.out.hb.keep K4).cell 0
        have h1_w4 : w4.cell? ⟨w2.heap.size, 1, none⟩ = some (.int .i64 hh.p.l) := (HI.out.hb.keep K4).cell 1
        have h2_w4 : w4.cell? ⟨w2.heap.size, 2, none⟩ = some (.bool hh.d) := (HI.out.hb.keep K4).cell 2
        have h3_w4 : w4.cell? ⟨w2.heap.size, 3, none⟩ = some (.int .i64 hh.f) := (HI.out.hb.keep K4).cell 3
        have h4_w4 : w4.cell? ⟨w2.heap.size, 4, none⟩ = some (.int .u32 hh.x) := (HI.out.hb.keep K4).cell 4
        have h5_w4 : w4.cell? ⟨w2.heap.size, 5, none⟩ = some (.int .i64 hh.m) := (HI.out.hb.keep K4).cell 5
        by_cases hl2 : y.p.lt q
        · have hd : decide (z ≤ 0) = false := by rw [Hz.out]; simp [hl2]
          have hnq : ¬ y.p = q := fun e => by rw [e] at hl2; exact lt_irrefl _ hl2
          have Hst : Hid (insStep hh (o, true) y = (o ++ [y], true)) := Lib.hid (by simp [insStep, Hhq.out, hnq, hl2])
          have hne : ∀ w, (binOp .neq 26 (.agg #[.int .u32 y.p.a, .int .i64 y.p.l]) (.agg #[.int .u32 q.a, .int .i64 q.l])).run Tryz.prog w = .ok (.bool true) w := fun w => by rw [Hne.out]; simp [hnq]
          clear hnq hl2
          go_upto_region 14 with (fail)
          go_quiet (fail)
          go_wp2_with (at_builtin; go_must (refine wpList_appx EHop rfl _ _ rfl y rfl (Ho4.out.drewN _) (K4.drewN _) (Nat.le_refl _) ((K4.drewN _)).size rfl rfl rfl rfl rfl hfit1.out ?_); intro v_w5 w5 own_w5 K_w5 hg_w5; obtain ⟨A_w5, c_w5, rfl⟩ := own_w5.form1)
          go_roundw
          case rel => exact ⟨k + 1, true, _, c_w5, (o ++ [y]), by omega, by go_num, rfl, by simp, own_w5.len1, Lib.hid (by rw [insAt_succ hlt, hat.out, Hy.out, Hst.out]), K_w5⟩
          case measure => simp [intOf]; omega
        · have hd : decide (z ≤ 0) = true := by rw [Hz.out]; simp [hl2]
          by_cases heq : y.p = q
          · have Hst : Hid (insStep hh (o, true) y = (o ++ [hh], false)) := Lib.hid (by simp [insStep, Hhq.out, heq, lt_irrefl])
            have hne : ∀ w, (binOp .neq 26 (.agg #[.int .u32 y.p.a, .int .i64 y.p.l]) (.agg #[.int .u32 q.a, .int .i64 q.l])).run Tryz.prog w = .ok (.bool false) w := fun w => by rw [Hne.out]; simp [heq]
            clear heq hl2
            go_wp2_with (at_builtin; go_must (refine wpList_appx EHop rfl _ _ rfl hh rfl Ho4.out K4 (Nat.le_refl _) (K4).size rfl rfl rfl rfl rfl hfit1.out ?_); intro v_w5 w5 own_w5 K_w5 hg_w5; obtain ⟨A_w5, c_w5, rfl⟩ := own_w5.form1)
            clear f_w4 p0_w4 p1_w4 g0_w4 g1_w4 g2_w4 g3_w4 g4_w4 g5_w4 h0_w4 h1_w4 h2_w4 h3_w4 h4_w4 h5_w4
            have f_w5 : w5.cell? ⟨w.heap.size, 0, none⟩ = some (.slice (some ⟨b, off, none⟩) L.length c) := (HI.out.fb.keep K_w5).cell 0
            have p0_w5 : w5.cell? ⟨w.heap.size + 1, 0, none⟩ = some (.int .u32 q.a) := K_w5.cell HI.out.pa
            have p1_w5 : w5.cell? ⟨w.heap.size + 1, 1, none⟩ = some (.int .i64 q.l) := K_w5.cell HI.out.pl
            have g0_w5 := K_w5.cell G0
            have g1_w5 := K_w5.cell G1
            go_quiet (fail)
            go_wp2_with fail
            go_roundw
            case rel => exact ⟨k + 1, false, _, c_w5, (o ++ [hh]), by omega, by go_num, rfl, by simp, (own_w5.len1.drewN _), Lib.hid (by rw [insAt_succ hlt, hat.out, Hy.out, Hst.out]), (K_w5.drewN _)⟩
            case measure => simp [intOf]; omega
          · have Hst : Hid (insStep hh (o, true) y = (o ++ [hh] ++ [y], false)) := Lib.hid (by simp [insStep, Hhq.out, heq, hl2])
            have hne : ∀ w, (binOp .neq 26 (.agg #[.int .u32 y.p.a, .int .i64 y.p.l]) (.agg #[.int .u32 q.a, .int .i64 q.l])).run Tryz.prog w = .ok (.bool true) w := fun w => by rw [Hne.out]; simp [heq]
            clear heq hl2
            go_wp2_with (at_builtin; go_must (refine wpList_appx EHop rfl _ _ rfl hh rfl Ho4.out K4 (Nat.le_refl _) (K4).size rfl rfl rfl rfl rfl hfit1.out ?_); intro v_w5 w5 own_w5 K_w5 hg_w5; obtain ⟨A_w5, c_w5, rfl⟩ := own_w5.form1)
            clear f_w4 p0_w4 p1_w4 g0_w4 g1_w4 g2_w4 g3_w4 g4_w4 g5_w4 h0_w4 h1_w4 h2_w4 h3_w4 h4_w4 h5_w4
            have f_w5 : w5.cell? ⟨w.heap.size, 0, none⟩ = some (.slice (some ⟨b, off, none⟩) L.length c) := (HI.out.fb.keep K_w5).cell 0
            have p0_w5 : w5.cell? ⟨w.heap.size + 1, 0, none⟩ = some (.int .u32 q.a) := K_w5.cell HI.out.pa
            have p1_w5 : w5.cell? ⟨w.heap.size + 1, 1, none⟩ = some (.int .i64 q.l) := K_w5.cell HI.out.pl
            have g0_w5 := K_w5.cell G0
            have g1_w5 := K_w5.cell G1
            have g2_w5 := K_w5.cell G2
            have g3_w5 := K_w5.cell G3
            have g4_w5 := K_w5.cell G4
            have g5_w5 := K_w5.cell G5
            go_quiet (fail)
            go_wp2_with (at_builtin; go_must (refine wpList_appx EHop rfl _ _ rfl y rfl (own_w5.drewN _) (K_w5.drewN _) (Nat.le_refl _) ((K_w5.drewN _)).size rfl rfl rfl rfl rfl (hfit2.out _) ?_); intro v_w6 w6 own_w6 K_w6 hg_w6; obtain ⟨A_w6, c_w6, rfl⟩ := own_w6.form1)
            go_roundw
            case rel => exact ⟨k + 1, false, _, c_w6, (o ++ [hh] ++ [y]), by omega, by go_num, rfl, by simp, own_w6.len1, Lib.hid (by rw [insAt_succ hlt, hat.out, Hy.out, Hst.out]), K_w6⟩
            case measure => simp [intOf]; omega
    · obtain rfl : k = L.length := by omega
      have f1 : wr.cell? ⟨w.heap.size, 0, none⟩ = some (.slice A L.length c) := (HI.out.fb.keep hK.out).cell 0
      have D2 := HI.out.rb.keep hK.out
      have hlo := HI.out.rb.lt
      have fin : Hid (∀ (V : World) (A3 : Option Addr) (c3 : Nat) (l3 : List Hp), Kp W0 V → Own V W0.heap.size 53 6 Hp.enc (.slice A3 l3.length c3) l3 → insEnd rh (insAt rh b1 L L.length) = l3 →
          ∃ Z, V.setCell ⟨w.heap.size + 1 + 1, 0, none⟩ (.slice A3 l3.length c3) = Z ∧ Z.cell? ⟨w.heap.size + 1 + 1, 0, none⟩ = some (.slice A3 l3.length c3) ∧ OneP w A CL 0 (.returned (.tuple #[.agg #[.slice A3 l3.length c3], .int .i64 0])) Z) := by
        intro V A3 c3 l3 kV oV e3
        refine ⟨_, rfl, ((HI.out.rb.keep kV).set_ 0 _).cell 0, A3, c3, by rw [HCL.out, e3], ?_, (HI.out.kp.trans kV).setCell (by simp <;> omega) _, .inr (fun a ha => ⟨Nat.le_trans HI.out.kp.size (oV.newA a ha), by have := oV.lt_ a ha; simpa [World.setCell] using this⟩)⟩
        rw [HCL.out, e3]
        exact (Own.setBelow (p := ⟨w.heap.size + 1 + 1, 0, none⟩) oV (by simp only; omega) _).rdAt (by decide) Hp.len
      cases b' with
      | false =>
        have r0 : wr.cell? ⟨w.heap.size + 1 + 1, 0, none⟩ = some (.slice none 0 0) := D2.cell 0
        have z0 := D2.frozen 0
        obtain ⟨Z, hZ, d0, hP⟩ := fin.out wr A' c' o hK.out ho.out (by rw [hat.out]; rfl)
        have HP := Lib.hid hP
        clear hP fin
        go_wp2_with fail
        exact bodyPost_ret (v := .tuple #[.agg #[.slice A' o.length c'], .int .i64 0]) (by simp [results, Tryz.results9, go_sem, d0]) rfl HP.out
      | true =>
        obtain rfl : b1 = true := insAt_true (h := rh) (L := L) (k := L.length) (by rw [hat.out])
        obtain rfl : hh = rh := Hhh.out rfl
        have K0 := hK.out
        have h0_wr : wr.cell? ⟨w2.heap.size, 0, none⟩ = some (.int .u32 hh.p.a) := (HI.out.hb.keep K0).cell 0
        have h1_wr : wr.cell? ⟨w2.heap.size, 1, none⟩ = some (.int .i64 hh.p.l) := (HI.out.hb.keep K0).cell 1
        have h2_wr : wr.cell? ⟨w2.heap.size, 2, none⟩ = some (.bool hh.d) := (HI.out.hb.keep K0).cell 2
        have h3_wr : wr.cell? ⟨w2.heap.size, 3, none⟩ = some (.int .i64 hh.f) := (HI.out.hb.keep K0).cell 3
        have h4_wr : wr.cell? ⟨w2.heap.size, 4, none⟩ = some (.int .u32 hh.x) := (HI.out.hb.keep K0).cell 4
        have h5_wr : wr.cell? ⟨w2.heap.size, 5, none⟩ = some (.int .i64 hh.m) := (HI.out.hb.keep K0).cell 5
        go_wp2_with (at_builtin; go_must (refine wpList_appx EHop rfl _ _ rfl hh rfl ho.out K0 (Nat.le_refl _) K0.size rfl rfl rfl rfl rfl hfit1.out ?_); intro v_w5 w5 own_w5 K_w5 hg_w5; obtain ⟨A_w5, c_w5, rfl⟩ := own_w5.form1; have D5 := HI.out.rb.keep K_w5; have r5 : w5.cell? ⟨w.heap.size + 1 + 1, 0, none⟩ = some (.slice none 0 0) := D5.cell 0; have z5 := D5.frozen 0)
        obtain ⟨Z, hZ, d0, hP⟩ := fin.out w5 A_w5 c_w5 (o ++ [hh]) K_w5 own_w5.len1 (by rw [hat.out]; rfl)
        rw [List.length_append, List.length_singleton] at hZ d0 hP
        rw [hZ]
        exact bodyPost_ret (v := .tuple #[.agg #[.slice A_w5 (o.length + 1) c_w5], .int .i64 0]) (by simp [results, Tryz.results9, go_sem, d0]) rfl hP

theorem one_any (A : Option Addr) (c : Nat) (L : List Hp) (r : Rt) (w : World) (hR : Rd w 6 Hp.enc A L) (hn : L.length ≤ 512) (ha : r.p.a < 4294967296) (hx : r.x < 4294967296) (hu : Up L) :
    Calls Tryz.prog 9 #[.agg #[.slice A L.length c], .agg #[.int .u32 r.p.a, .int .i64 r.p.l, .int .i64 r.s, .int .i64 r.m, .int .i64 r.l, .int .i64 r.f, .int .u32 r.x, .int .i64 r.d, .bool r.c]] w (OneP w A (comeL r L) (comeE r L)) := by
  cases hr : rightB r with
  | false =>
    have hc : checkR r = 2 := by rw [check_right, hr]; rfl
    have e1 : comeL r L = L := by simp [comeL, hc]
    have e2 : comeE r L = 2 := by simp [comeE, hc]
    rw [e1, e2]
    exact one_bad A c L r w hR ha hx hr
  | true =>
    have hc : checkR r = 0 := by rw [check_right, hr]; rfl
    obtain ⟨hs, hok⟩ := check_zero hc
    obtain ⟨hq, hl⟩ := pn_ok hok ha
    obtain ⟨p, s, m, l, fc, x, d, ch⟩ := r
    simp only at *
    have ep : p = p.pn.pi := by cases p; simp only [Pn.pi, PI.pn] at *; rw [hl]; simp
    rw [ep] at hc
    have := one_right A c L p.pn s m l fc x d ch w hR hn hq hx hu hc
    unfold rtC at this
    rw [← hl, ← ep] at this
    exact this

end Go.Proofs.YtfaiponmjjbgoaaGreatDoor

/- The reference's Has of a prefix that may be, and Find. -/
namespace Go.Proofs.YtfaiponmjjbgoaaGreatDoor
open Go.RowKit

def hasA (p : Pn) (a : Nat) : Bool := decide (p.holds ⟨a, 32⟩)
theorem hasA_eq {p : Pn} {a : Nat} (hp : p.ok) : hasA p a = decide (cut a p.l = p.a) := by
  unfold hasA Pn.holds
  have := hp.2.1
  congr 1
  simp only [eq_iff_iff]
  exact ⟨fun h => h.2, fun h => ⟨this, h⟩⟩

set_option maxRecDepth 100000 in
set_option maxHeartbeats 1000000 in
theorem rhas_any (p : Pn) (a : Nat) (w : World) (hp : p.ok) (ha : a < 4294967296) : Calls Tryz.prog 34 #[.agg #[.int .u32 p.a, .int .i64 p.l], .int .u32 a] w fun e w' => e = .returned (.bool (hasA p a)) ∧ Kp w w' := by
  obtain ⟨W, hW, kW, B0⟩ : ∃ W, w.alloc (.cells #[.int .u32 p.a, .int .i64 p.l] 26) = W ∧ Kp w W ∧ Blk W w.heap.size 26 #[.int .u32 p.a, .int .i64 p.l] := ⟨_, rfl, (Kp.refl _).alloc _, Blk.new w _ _⟩
  have p0 : W.cell? ⟨w.heap.size, 0, none⟩ = some (.int .u32 p.a) := B0.cell 0
  have p1 : W.cell? ⟨w.heap.size, 1, none⟩ = some (.int .i64 p.l) := B0.cell 1
  obtain ⟨R, hR⟩ : ∃ R, hasA p a = R := ⟨_, rfl⟩
  rw [hR]
  have HR : Hid (R = decide (cut a p.l = cut p.a p.l)) := by rw [← hR, hasA_eq hp, hp.2.2]; exact Lib.hid rfl
  have Hok := Lib.hid (pi_ok hp)
  have hpl := hp.2.1
  have hpa := hp.1
  have HRi := Lib.hid (fun w => rright_any p.pi w hp.1)
  clear hR hp
  go_enter Tryz.func34, Tryz.ntmps34
  go_wp2_with fail
  refine (HRi.out _).mono ?_
  rintro e w1 ⟨rfl, hK⟩
  rw [Hok.out]
  have B1 := B0.keep hK
  have q0 : w1.cell? ⟨w.heap.size, 0, none⟩ = some (.int .u32 p.a) := B1.cell 0
  have q1 : w1.cell? ⟨w.heap.size, 1, none⟩ = some (.int .i64 p.l) := B1.cell 1
  have k1 := kW.trans hK
  clear hW p0 p1
  go_wp2_with fail
  go_loop [5] (fun k => ∃ i : Nat, i ≤ p.l ∧ k = .int .i64 i ∧ Hid (∀ j, j < i → bitN p.a j = bitN a j)) (fun k => p.l - (intOf k).toNat)
  case atStart => exact ⟨0, Nat.zero_le _, rfl, fun j h => absurd h (by omega)⟩
  case round =>
    obtain ⟨i, hi, rfl, hall⟩ := hrel
    by_cases hlt : i < p.l
    · have hd : decide ((i : Int) < p.l) = true := by simpa using hlt
      have hi32 : i < 32 := by omega
      go_wp2_with fail
      refine (rbit_any p.a i _ hpa hi32).mono ?_
      rintro e w' ⟨rfl, rfl⟩
      go_wp2_with fail
      refine (rbit_any a i _ ha hi32).mono ?_
      rintro e w' ⟨rfl, rfl⟩
      by_cases hb : bitN p.a i = bitN a i
      · rw [hb]
        have Hb := Lib.hid hb; clear hb
        go_wp2_with fail
        go_round
        case rel =>
          refine ⟨i + 1, by omega, by go_num, fun j h2 => ?_⟩
          rcases Nat.lt_or_ge j i with h3 | h3
          · exact hall.out j h3
          · obtain rfl : j = i := by omega
            exact Hb.out
        case measure => simp [intOf]; omega
      · obtain rfl : R = false := by
          rw [HR.out]
          simp only [decide_eq_false_iff_not]
          intro hc
          exact hb ((bits_same hpa ha hpl).2 hc.symm i hlt)
        have hne : ((bitN p.a i : Int) != (bitN a i : Int)) = true := by simp; omega
        obtain ⟨x, hx⟩ : ∃ x, bitN p.a i = x := ⟨_, rfl⟩
        obtain ⟨y, hy⟩ : ∃ y, bitN a i = y := ⟨_, rfl⟩
        rw [hx, hy] at hne ⊢
        clear hb hx hy
        go_wp2_with fail
        go_ret
        exact ⟨rfl, k1⟩
    · obtain rfl : i = p.l := by omega
      obtain rfl : R = true := by
        rw [HR.out]
        simp only [decide_eq_true_eq]
        exact ((bits_same hpa ha hpl).1 (fun j h => hall.out j h)).symm
      have hd : decide ((p.l : Int) < p.l) = false := by simp
      go_wp2_with fail
      go_ret
      exact ⟨rfl, k1⟩

/-- The boxes of Find. -/
structure FdI (w : World) (A : Option Addr) (c : Nat) (L : List Hp) (s : Hp) (W : World) : Prop where
  kp : Kp w W
  fb : Blk W w.heap.size 35 #[.slice A L.length c]
  rb : Blk W (w.heap.size + 1) 53 #[.int .u32 0, .int .i64 0, .bool false, .int .i64 0, .int .u32 0, .int .i64 0]
  hb : Blk W (w.heap.size + 1 + 1) 53 #[.int .u32 s.p.a, .int .i64 s.p.l, .bool s.d, .int .i64 s.f, .int .u32 s.x, .int .i64 s.m]
theorem FdI.keep {w : World} {A : Option Addr} {c : Nat} {L : List Hp} {s : Hp} {W W' : World} (h : FdI w A c L s W) (k : Kp W W') : FdI w A c L s W' := ⟨h.kp.trans k, h.fb.keep k, h.rb.keep k, h.hb.keep k⟩
theorem FdI.set {w : World} {A : Option Addr} {c : Nat} {L : List Hp} {s : Hp} {W : World} (h : FdI w A c L s W) (y : Hp) : FdI w A c L y (set6 W (w.heap.size + 1 + 1) 0 y) := by
  have O : Only [w.heap.size + 1 + 1] W (set6 W (w.heap.size + 1 + 1) 0 y) := (Only.refl _ _).set6 (by simp) _ _
  exact ⟨O.kp h.kp (by simp <;> omega), h.fb.only O (by simp <;> omega), h.rb.only O (by simp), h.hb.set6 0 y rfl⟩
def fdAt (a : Nat) (L : List Hp) (k : Nat) : Hp × Bool := (L.take k).foldl (findStep a) (hop0, false)
theorem fdAt_zero (a : Nat) (L : List Hp) : fdAt a L 0 = (hop0, false) := by simp [fdAt]
theorem fdAt_succ {a : Nat} {L : List Hp} {k : Nat} (hk : k < L.length) : fdAt a L (k + 1) = findStep a (fdAt a L k) L[k] := by
  unfold fdAt
  have e : L.take k ++ [L[k]] = L.take (k + 1) := by simp
  rw [← e, List.foldl_append]
  rfl
theorem fdAt_all {a : Nat} {L : List Hp} (hu : Up L) (ho : ∀ h ∈ L, h.p.ok) : fdAt a L L.length = foundH a L := by
  unfold fdAt
  rw [List.take_length]
  have := findStep_all (a := a) L [] (by simpa using hu) (by simpa using ho)
  rw [found_nil] at this
  simpa using this

set_option maxRecDepth 100000 in
set_option maxHeartbeats 8000000 in
theorem rfind_any (A : Option Addr) (c : Nat) (L : List Hp) (a : Nat) (w : World) (hR : Rd w 6 Hp.enc A L) (hn : L.length ≤ 1000000) (ha : a < 4294967296) (hu : Up L) (ho : ∀ h ∈ L, h.p.ok) :
    Calls Tryz.prog 16 #[.agg #[.slice A L.length c], .int .u32 a] w (FindP w (foundH a L)) := by
  have HF := Lib.hid (fdAt_all (a := a) hu ho)
  have HR := Lib.hid hR
  have Ho := Lib.hid ho
  clear hR hu ho
  go_enter Tryz.func16, Tryz.ntmps16
  go_wp2_with fail
  obtain ⟨W0, hW0, I0⟩ : ∃ W0, ((w.alloc (.cells #[.slice A L.length c] 35)).alloc (.cells #[.int .u32 0, .int .i64 0, .bool false, .int .i64 0, .int .u32 0, .int .i64 0] 53)).alloc (.cells #[.int .u32 0, .int .i64 0, .bool false, .int .i64 0, .int .u32 0, .int .i64 0] 53) = W0 ∧ FdI w A c L hop0 W0 :=
    ⟨_, rfl, (((Kp.refl _).alloc _).alloc _).alloc _, ((Blk.new w _ _).alloc _).alloc _, (Blk.new1 w _ _ _).alloc _, Blk.new2 w _ _ _ _⟩
  have HI0 := Lib.hid I0
  rw [hW0]
  clear hW0 I0
  go_loopw [7, 8] (fun is i wr => ∃ (k : Nat) (s : Hp × Bool), k ≤ L.length ∧ i = .int .i64 k ∧ is = .bool s.2 ∧ Hid (fdAt a L k = s) ∧ Hid (FdI w A c L s.1 wr)) (fun _ i _ => L.length - (intOf i).toNat)
  case atStart => exact ⟨0, (hop0, false), Nat.zero_le _, rfl, rfl, Lib.hid (fdAt_zero _ _), HI0⟩
  case round =>
    obtain ⟨k, ⟨s, sb⟩, hk, rfl, rfl, hs, hI⟩ := hrel
    simp only at hI ⊢
    have f0 : wr.cell? ⟨w.heap.size, 0, none⟩ = some (.slice A L.length c) := hI.out.fb.cell 0
    by_cases hlt : k < L.length
    · obtain ⟨b, off, hA, g0, g1, g2, g3, g4, g5⟩ := hop_at (HR.out.keep hI.out.kp) hlt
      subst hA
      obtain ⟨y, hy⟩ : ∃ y, L[k] = y := ⟨_, rfl⟩
      rw [hy] at g0 g1 g2 g3 g4 g5
      have Hy := Lib.hid hy
      have Hyo := Lib.hid (Ho.out y (by rw [← hy]; exact List.getElem_mem _))
      clear hy
      have h0 : wr.cell? ⟨w.heap.size + 1 + 1, 0, none⟩ = some (.int .u32 s.p.a) := hI.out.hb.cell 0
      have h1 : wr.cell? ⟨w.heap.size + 1 + 1, 1, none⟩ = some (.int .i64 s.p.l) := hI.out.hb.cell 1
      have h2 : wr.cell? ⟨w.heap.size + 1 + 1, 2, none⟩ = some (.bool s.d) := hI.out.hb.cell 2
      have h3 : wr.cell? ⟨w.heap.size + 1 + 1, 3, none⟩ = some (.int .i64 s.f) := hI.out.hb.cell 3
      have h4 : wr.cell? ⟨w.heap.size + 1 + 1, 4, none⟩ = some (.int .u32 s.x) := hI.out.hb.cell 4
      have h5 : wr.cell? ⟨w.heap.size + 1 + 1, 5, none⟩ = some (.int .i64 s.m) := hI.out.hb.cell 5
      have z0 := hI.out.hb.frozen 0
      have z1 := hI.out.hb.frozen 1
      have z2 := hI.out.hb.frozen 2
      have z3 := hI.out.hb.frozen 3
      have z4 := hI.out.hb.frozen 4
      have z5 := hI.out.hb.frozen 5
      cases hh : hasA y.p a with
      | false =>
        have Hh := Lib.hid hh
        have Hst : Hid (findStep a (s, sb) y = (s, sb)) := Lib.hid (by
          have : ¬ y.p.holds ⟨a, 32⟩ := of_decide_eq_false hh
          simp [findStep, this])
        clear hh
        go_upto_region 6 with (fail)
        refine wp_anyW (by kernel_rfl) (fun V hV => ?_)
        have KV : Kp wr V := by rw [hV]; exact (Kp.refl _).drew
        clear hV
        have f0' := KV.cell f0
        have g0' := KV.cell g0
        have g1' := KV.cell g1
        have g2' := KV.cell g2
        have g3' := KV.cell g3
        have g4' := KV.cell g4
        have g5' := KV.cell g5
        clear f0 g0 g1 g2 g3 g4 g5 h0 z0 h1 z1 h2 z2 h3 z3 h4 z4 h5 z5
        refine wpAny_take (i := 0) (v := .pointer (some ⟨w.heap.size, 0, none⟩)) rfl (by kernel_rfl) (by kernel_rfl) (by kernel_rfl) (fun _ _ _ h => h) (Or.inl ⟨by kernel_rfl, fun w => by go_simp⟩) ?_
        refine wpAny_take (i := 2) (v := .int .i64 k) rfl (by kernel_rfl) (by kernel_rfl) (by kernel_rfl) (fun _ _ _ h => h) (Or.inl ⟨by kernel_rfl, fun w => by go_simp⟩) ?_
        refine wpAny_take (i := 6) (v := .int .u32 a) rfl (by kernel_rfl) (by kernel_rfl) (by kernel_rfl) (fun _ _ _ h => h) (Or.inl ⟨by kernel_rfl, fun w => by go_simp⟩) ?_
        refine wpAny_ready (rs := [1]) (by kernel_rfl) (by simp) ?_
        refine AllReady.cons rfl (fun K hK => ?_) AllReady.nil
        go_simp
        refine hK _ _ ?_
        clear hK K
        refine wpAny_take (i := 3) (v := .pointer (some ⟨b, off + k * 6, none⟩)) rfl (by kernel_rfl) (by kernel_rfl) (by kernel_rfl) (fun _ _ _ h => h) (Or.inl ⟨by kernel_rfl, fun w => by go_simp⟩) ?_
        refine wpAny_take (i := 4) (v := .pointer (some ⟨b, off + k * 6, none⟩)) rfl (by kernel_rfl) (by kernel_rfl) (by kernel_rfl) (fun _ _ _ h => h) (Or.inl ⟨by kernel_rfl, fun w => by go_simp⟩) ?_
        refine wpAny_ready (rs := [5]) (by kernel_rfl) (by simp) ?_
        refine AllReady.cons rfl (fun K hK => ?_) AllReady.nil
        go_simp
        refine hK _ _ ?_
        clear hK K
        refine wpAny_ready (rs := [7]) (by kernel_rfl) (by simp) ?_
        refine AllReady.cons rfl (fun K hK => ?_) AllReady.nil
        go_simp
        refine (rhas_any y.p a _ Hyo.out ha).mono ?_
        rintro e wa ⟨rfl, hKa⟩
        rw [Hh.out]
        refine hK _ _ ?_
        clear hK K
        have Ka := KV.trans hKa
        refine wpAny_take (i := 8) (v := .bool false) rfl (by kernel_rfl) (by kernel_rfl) (by kernel_rfl) (fun _ _ _ h => h) (Or.inl ⟨by kernel_rfl, fun w => by go_simp⟩) ?_
        refine wpAny_take (i := 9) (v := undef) rfl (by kernel_rfl) (by kernel_rfl) (by kernel_rfl) (fun _ _ _ h => h) (Or.inr ⟨by kernel_rfl, rfl⟩) ?_
        refine wpAny_take (i := 10) (v := undef) rfl (by kernel_rfl) (by kernel_rfl) (by kernel_rfl) (fun _ _ _ h => h) (Or.inr ⟨by kernel_rfl, rfl⟩) ?_
        refine wpAny_take (i := 11) (v := undef) rfl (by kernel_rfl) (by kernel_rfl) (by kernel_rfl) (fun _ _ _ h => h) (Or.inr ⟨by kernel_rfl, rfl⟩) ?_
        refine wpAny_take (i := 12) (v := undef) rfl (by kernel_rfl) (by kernel_rfl) (by kernel_rfl) (fun _ _ _ h => h) (Or.inr ⟨by kernel_rfl, rfl⟩) ?_
        refine wpAny_take (i := 13) (v := undef) rfl (by kernel_rfl) (by kernel_rfl) (by kernel_rfl) (fun _ _ _ h => h) (Or.inr ⟨by kernel_rfl, rfl⟩) ?_
        refine wpAny_take (i := 14) (v := undef) rfl (by kernel_rfl) (by kernel_rfl) (by kernel_rfl) (fun _ _ _ h => h) (Or.inr ⟨by kernel_rfl, rfl⟩) ?_
        refine wpAny_take (i := 15) (v := undef) rfl (by kernel_rfl) (by kernel_rfl) (by kernel_rfl) (fun _ _ _ h => h) (Or.inr ⟨by kernel_rfl, rfl⟩) ?_
        refine wpAny_take (i := 16) (v := undef) rfl (by kernel_rfl) (by kernel_rfl) (by kernel_rfl) (fun _ _ _ h => h) (Or.inr ⟨by kernel_rfl, rfl⟩) ?_
        refine wpAny_take (i := 17) (v := undef) rfl (by kernel_rfl) (by kernel_rfl) (by kernel_rfl) (fun _ _ _ h => h) (Or.inr ⟨by kernel_rfl, rfl⟩) ?_
        refine wpAny_take (i := 18) (v := undef) rfl (by kernel_rfl) (by kernel_rfl) (by kernel_rfl) (fun _ _ _ h => h) (Or.inr ⟨by kernel_rfl, rfl⟩) ?_
        refine wpAny_take (i := 19) (v := undef) rfl (by kernel_rfl) (by kernel_rfl) (by kernel_rfl) (fun _ _ _ h => h) (Or.inr ⟨by kernel_rfl, rfl⟩) ?_
        refine wpAny_take (i := 20) (v := undef) rfl (by kernel_rfl) (by kernel_rfl) (by kernel_rfl) (fun _ _ _ h => h) (Or.inr ⟨by kernel_rfl, rfl⟩) ?_
        refine wpAny_take (i := 21) (v := undef) rfl (by kernel_rfl) (by kernel_rfl) (by kernel_rfl) (fun _ _ _ h => h) (Or.inr ⟨by kernel_rfl, rfl⟩) ?_
        refine wpAny_take (i := 22) (v := undef) rfl (by kernel_rfl) (by kernel_rfl) (by kernel_rfl) (fun _ _ _ h => h) (Or.inr ⟨by kernel_rfl, rfl⟩) ?_
        refine wpAny_take (i := 23) (v := undef) rfl (by kernel_rfl) (by kernel_rfl) (by kernel_rfl) (fun _ _ _ h => h) (Or.inr ⟨by kernel_rfl, rfl⟩) ?_
        refine wpAny_rest 24 rfl (by kernel_rfl) ?_
        simp only [List.drop_succ_cons, List.drop_zero]
        go_wp2_with fail
        go_roundw
        case rel => exact ⟨k + 1, (s, sb), by omega, by go_num, rfl, Lib.hid (by rw [fdAt_succ hlt, hs.out, Hy.out, Hst.out]), Lib.hid (hI.out.keep Ka)⟩
        case measure => simp [intOf]; omega
      | true =>
        have Hh := Lib.hid hh
        have hhold : y.p.holds ⟨a, 32⟩ := of_decide_eq_true hh
        have Hhold := Lib.hid hhold
        clear hh hhold
        cases sb with
        | false =>
          have Hst : Hid (findStep a (s, false) y = (y, true)) := Lib.hid (by simp [findStep, Hhold.out])
          go_upto_region 6 with (fail)
          refine wp_anyW (by kernel_rfl) (fun V hV => ?_)
          have KV : Kp wr V := by rw [hV]; exact (Kp.refl _).drew
          clear hV
          have f0' := KV.cell f0
          have g0' := KV.cell g0
          have g1' := KV.cell g1
          have g2' := KV.cell g2
          have g3' := KV.cell g3
          have g4' := KV.cell g4
          have g5' := KV.cell g5
          clear f0 g0 g1 g2 g3 g4 g5 h0 z0 h1 z1 h2 z2 h3 z3 h4 z4 h5 z5
          refine wpAny_take (i := 0) (v := .pointer (some ⟨w.heap.size, 0, none⟩)) rfl (by kernel_rfl) (by kernel_rfl) (by kernel_rfl) (fun _ _ _ h => h) (Or.inl ⟨by kernel_rfl, fun w => by go_simp⟩) ?_
          refine wpAny_take (i := 2) (v := .int .i64 k) rfl (by kernel_rfl) (by kernel_rfl) (by kernel_rfl) (fun _ _ _ h => h) (Or.inl ⟨by kernel_rfl, fun w => by go_simp⟩) ?_
          refine wpAny_take (i := 6) (v := .int .u32 a) rfl (by kernel_rfl) (by kernel_rfl) (by kernel_rfl) (fun _ _ _ h => h) (Or.inl ⟨by kernel_rfl, fun w => by go_simp⟩) ?_
          refine wpAny_ready (rs := [1]) (by kernel_rfl) (by simp) ?_
          refine AllReady.cons rfl (fun K hK => ?_) AllReady.nil
          go_simp
          refine hK _ _ ?_
          clear hK K
          refine wpAny_take (i := 3) (v := .pointer (some ⟨b, off + k * 6, none⟩)) rfl (by kernel_rfl) (by kernel_rfl) (by kernel_rfl) (fun _ _ _ h => h) (Or.inl ⟨by kernel_rfl, fun w => by go_simp⟩) ?_
          refine wpAny_take (i := 4) (v := .pointer (some ⟨b, off + k * 6, none⟩)) rfl (by kernel_rfl) (by kernel_rfl) (by kernel_rfl) (fun _ _ _ h => h) (Or.inl ⟨by kernel_rfl, fun w => by go_simp⟩) ?_
          refine wpAny_ready (rs := [5]) (by kernel_rfl) (by simp) ?_
          refine AllReady.cons rfl (fun K hK => ?_) AllReady.nil
          go_simp
          refine hK _ _ ?_
          clear hK K
          refine wpAny_ready (rs := [7]) (by kernel_rfl) (by simp) ?_
          refine AllReady.cons rfl (fun K hK => ?_) AllReady.nil
          go_simp
          refine (rhas_any y.p a _ Hyo.out ha).mono ?_
          rintro e wa ⟨rfl, hKa⟩
          rw [Hh.out]
          refine hK _ _ ?_
          clear hK K
          have Ka := KV.trans hKa
          refine wpAny_take (i := 8) (v := .bool true) rfl (by kernel_rfl) (by kernel_rfl) (by kernel_rfl) (fun _ _ _ h => h) (Or.inl ⟨by kernel_rfl, fun w => by go_simp⟩) ?_
          refine wpAny_take (i := 9) (v := .bool false) rfl (by kernel_rfl) (by kernel_rfl) (by kernel_rfl) (fun _ _ _ h => h) (Or.inl ⟨by kernel_rfl, fun w => by go_simp⟩) ?_
          refine wpAny_take (i := 10) (v := .bool true) rfl (by kernel_rfl) (by kernel_rfl) (by kernel_rfl) (fun _ _ _ h => h) (Or.inl ⟨by kernel_rfl, fun w => by go_simp⟩) ?_
          refine wpAny_take (i := 11) (v := .bool true) rfl (by kernel_rfl) (by kernel_rfl) (by kernel_rfl) (fun _ _ _ h => h) (Or.inl ⟨by kernel_rfl, fun w => by go_simp⟩) ?_
          refine wpAny_take (i := 12) (v := undef) rfl (by kernel_rfl) (by kernel_rfl) (by kernel_rfl) (fun _ _ _ h => h) (Or.inr ⟨by kernel_rfl, rfl⟩) ?_
          refine wpAny_take (i := 13) (v := undef) rfl (by kernel_rfl) (by kernel_rfl) (by kernel_rfl) (fun _ _ _ h => h) (Or.inr ⟨by kernel_rfl, rfl⟩) ?_
          refine wpAny_take (i := 14) (v := undef) rfl (by kernel_rfl) (by kernel_rfl) (by kernel_rfl) (fun _ _ _ h => h) (Or.inr ⟨by kernel_rfl, rfl⟩) ?_
          refine wpAny_take (i := 15) (v := undef) rfl (by kernel_rfl) (by kernel_rfl) (by kernel_rfl) (fun _ _ _ h => h) (Or.inr ⟨by kernel_rfl, rfl⟩) ?_
          refine wpAny_take (i := 16) (v := undef) rfl (by kernel_rfl) (by kernel_rfl) (by kernel_rfl) (fun _ _ _ h => h) (Or.inr ⟨by kernel_rfl, rfl⟩) ?_
          refine wpAny_take (i := 17) (v := undef) rfl (by kernel_rfl) (by kernel_rfl) (by kernel_rfl) (fun _ _ _ h => h) (Or.inr ⟨by kernel_rfl, rfl⟩) ?_
          refine wpAny_take (i := 18) (v := undef) rfl (by kernel_rfl) (by kernel_rfl) (by kernel_rfl) (fun _ _ _ h => h) (Or.inr ⟨by kernel_rfl, rfl⟩) ?_
          refine wpAny_take (i := 19) (v := undef) rfl (by kernel_rfl) (by kernel_rfl) (by kernel_rfl) (fun _ _ _ h => h) (Or.inr ⟨by kernel_rfl, rfl⟩) ?_
          refine wpAny_take (i := 20) (v := undef) rfl (by kernel_rfl) (by kernel_rfl) (by kernel_rfl) (fun _ _ _ h => h) (Or.inr ⟨by kernel_rfl, rfl⟩) ?_
          refine wpAny_take (i := 21) (v := undef) rfl (by kernel_rfl) (by kernel_rfl) (by kernel_rfl) (fun _ _ _ h => h) (Or.inr ⟨by kernel_rfl, rfl⟩) ?_
          refine wpAny_take (i := 22) (v := undef) rfl (by kernel_rfl) (by kernel_rfl) (by kernel_rfl) (fun _ _ _ h => h) (Or.inr ⟨by kernel_rfl, rfl⟩) ?_
          refine wpAny_take (i := 23) (v := .bool true) rfl (by kernel_rfl) (by kernel_rfl) (by kernel_rfl) (fun _ _ _ h => h) (Or.inl ⟨by kernel_rfl, fun w => by go_simp⟩) ?_
          refine wpAny_rest 24 rfl (by kernel_rfl) ?_
          simp only [List.drop_succ_cons, List.drop_zero]
          have J := Lib.hid (hI.out.keep Ka)
          have f2 : wa.cell? ⟨w.heap.size, 0, none⟩ = some (.slice (some ⟨b, off, none⟩) L.length c) := J.out.fb.cell 0
          have k0 := hKa.cell g0'
          have k1 := hKa.cell g1'
          have k2 := hKa.cell g2'
          have k3 := hKa.cell g3'
          have k4 := hKa.cell g4'
          have k5 := hKa.cell g5'
          have h0 : wa.cell? ⟨w.heap.size + 1 + 1, 0, none⟩ = some (.int .u32 s.p.a) := J.out.hb.cell 0
          have h1 : wa.cell? ⟨w.heap.size + 1 + 1, 1, none⟩ = some (.int .i64 s.p.l) := J.out.hb.cell 1
          have h2 : wa.cell? ⟨w.heap.size + 1 + 1, 2, none⟩ = some (.bool s.d) := J.out.hb.cell 2
          have h3 : wa.cell? ⟨w.heap.size + 1 + 1, 3, none⟩ = some (.int .i64 s.f) := J.out.hb.cell 3
          have h4 : wa.cell? ⟨w.heap.size + 1 + 1, 4, none⟩ = some (.int .u32 s.x) := J.out.hb.cell 4
          have h5 : wa.cell? ⟨w.heap.size + 1 + 1, 5, none⟩ = some (.int .i64 s.m) := J.out.hb.cell 5
          have z0 := J.out.hb.frozen 0
          have z1 := J.out.hb.frozen 1
          have z2 := J.out.hb.frozen 2
          have z3 := J.out.hb.frozen 3
          have z4 := J.out.hb.frozen 4
          have z5 := J.out.hb.frozen 5
          clear f0' g0' g1' g2' g3' g4' g5'
          go_wp2_with fail
          go_roundw
          case rel => exact ⟨k + 1, (y, true), by omega, by go_num, rfl, Lib.hid (by rw [fdAt_succ hlt, hs.out, Hy.out, Hst.out]), Lib.hid (J.out.set y)⟩
          case measure => simp [intOf]; omega
        | true =>
          by_cases hlen : s.p.l < y.p.l
          · have Hst : Hid (findStep a (s, true) y = (y, true)) := Lib.hid (by simp [findStep, Hhold.out, hlen])
            have hd : decide ((s.p.l : Int) < y.p.l) = true := by simpa using hlen
            have hd' : decide (s.p.l < y.p.l) = true := by simpa using hlen
            clear hlen
            go_upto_region 6 with (fail)
            refine wp_anyW (by kernel_rfl) (fun V hV => ?_)
            have KV : Kp wr V := by rw [hV]; exact (Kp.refl _).drew
            clear hV
            have f0' := KV.cell f0
            have g0' := KV.cell g0
            have g1' := KV.cell g1
            have g2' := KV.cell g2
            have g3' := KV.cell g3
            have g4' := KV.cell g4
            have g5' := KV.cell g5
            clear f0 g0 g1 g2 g3 g4 g5 h0 z0 h1 z1 h2 z2 h3 z3 h4 z4 h5 z5
            refine wpAny_take (i := 0) (v := .pointer (some ⟨w.heap.size, 0, none⟩)) rfl (by kernel_rfl) (by kernel_rfl) (by kernel_rfl) (fun _ _ _ h => h) (Or.inl ⟨by kernel_rfl, fun w => by go_simp⟩) ?_
            refine wpAny_take (i := 2) (v := .int .i64 k) rfl (by kernel_rfl) (by kernel_rfl) (by kernel_rfl) (fun _ _ _ h => h) (Or.inl ⟨by kernel_rfl, fun w => by go_simp⟩) ?_
            refine wpAny_take (i := 6) (v := .int .u32 a) rfl (by kernel_rfl) (by kernel_rfl) (by kernel_rfl) (fun _ _ _ h => h) (Or.inl ⟨by kernel_rfl, fun w => by go_simp⟩) ?_
            refine wpAny_ready (rs := [1]) (by kernel_rfl) (by simp) ?_
            refine AllReady.cons rfl (fun K hK => ?_) AllReady.nil
            go_simp
            refine hK _ _ ?_
            clear hK K
            refine wpAny_take (i := 3) (v := .pointer (some ⟨b, off + k * 6, none⟩)) rfl (by kernel_rfl) (by kernel_rfl) (by kernel_rfl) (fun _ _ _ h => h) (Or.inl ⟨by kernel_rfl, fun w => by go_simp⟩) ?_
            refine wpAny_take (i := 4) (v := .pointer (some ⟨b, off + k * 6, none⟩)) rfl (by kernel_rfl) (by kernel_rfl) (by kernel_rfl) (fun _ _ _ h => h) (Or.inl ⟨by kernel_rfl, fun w => by go_simp⟩) ?_
            refine wpAny_ready (rs := [5]) (by kernel_rfl) (by simp) ?_
            refine AllReady.cons rfl (fun K hK => ?_) AllReady.nil
            go_simp
            refine hK _ _ ?_
            clear hK K
            refine wpAny_ready (rs := [7]) (by kernel_rfl) (by simp) ?_
            refine AllReady.cons rfl (fun K hK => ?_) AllReady.nil
            go_simp
            refine (rhas_any y.p a _ Hyo.out ha).mono ?_
            rintro e wa ⟨rfl, hKa⟩
            rw [Hh.out]
            refine hK _ _ ?_
            clear hK K
            have Ka := KV.trans hKa
            refine wpAny_take (i := 8) (v := .bool true) rfl (by kernel_rfl) (by kernel_rfl) (by kernel_rfl) (fun _ _ _ h => h) (Or.inl ⟨by kernel_rfl, fun w => by go_simp⟩) ?_
            refine wpAny_take (i := 9) (v := .bool true) rfl (by kernel_rfl) (by kernel_rfl) (by kernel_rfl) (fun _ _ _ h => h) (Or.inl ⟨by kernel_rfl, fun w => by go_simp⟩) ?_
            refine wpAny_take (i := 10) (v := .bool false) rfl (by kernel_rfl) (by kernel_rfl) (by kernel_rfl) (fun _ _ _ h => h) (Or.inl ⟨by kernel_rfl, fun w => by go_simp⟩) ?_
            refine wpAny_take (i := 11) (v := .bool false) rfl (by kernel_rfl) (by kernel_rfl) (by kernel_rfl) (fun _ _ _ h => h) (Or.inl ⟨by kernel_rfl, fun w => by go_simp⟩) ?_
            refine wpAny_take (i := 12) (v := .pointer (some ⟨w.heap.size, 0, none⟩)) rfl (by kernel_rfl) (by kernel_rfl) (by kernel_rfl) (fun _ _ _ h => h) (Or.inl ⟨by kernel_rfl, fun w => by go_simp⟩) ?_
            refine wpAny_take (i := 14) (v := .int .i64 k) rfl (by kernel_rfl) (by kernel_rfl) (by kernel_rfl) (fun _ _ _ h => h) (Or.inl ⟨by kernel_rfl, fun w => by go_simp⟩) ?_
            refine wpAny_take (i := 19) (v := .pointer (some ⟨w.heap.size + 1 + 1, 0, none⟩)) rfl (by kernel_rfl) (by kernel_rfl) (by kernel_rfl) (fun _ _ _ h => h) (Or.inl ⟨by kernel_rfl, fun w => by go_simp⟩) ?_
            refine wpAny_take (i := 20) (v := .pointer (some ⟨w.heap.size + 1 + 1, 1, none⟩)) rfl (by kernel_rfl) (by kernel_rfl) (by kernel_rfl) (fun _ _ _ h => h) (Or.inl ⟨by kernel_rfl, fun w => by go_simp⟩) ?_
            have J := Lib.hid (hI.out.keep Ka)
            have f2 : wa.cell? ⟨w.heap.size, 0, none⟩ = some (.slice (some ⟨b, off, none⟩) L.length c) := J.out.fb.cell 0
            have k0 := hKa.cell g0'
            have k1 := hKa.cell g1'
            have k2 := hKa.cell g2'
            have k3 := hKa.cell g3'
            have k4 := hKa.cell g4'
            have k5 := hKa.cell g5'
            have h0 : wa.cell? ⟨w.heap.size + 1 + 1, 0, none⟩ = some (.int .u32 s.p.a) := J.out.hb.cell 0
            have h1 : wa.cell? ⟨w.heap.size + 1 + 1, 1, none⟩ = some (.int .i64 s.p.l) := J.out.hb.cell 1
            have h2 : wa.cell? ⟨w.heap.size + 1 + 1, 2, none⟩ = some (.bool s.d) := J.out.hb.cell 2
            have h3 : wa.cell? ⟨w.heap.size + 1 + 1, 3, none⟩ = some (.int .i64 s.f) := J.out.hb.cell 3
            have h4 : wa.cell? ⟨w.heap.size + 1 + 1, 4, none⟩ = some (.int .u32 s.x) := J.out.hb.cell 4
            have h5 : wa.cell? ⟨w.heap.size + 1 + 1, 5, none⟩ = some (.int .i64 s.m) := J.out.hb.cell 5
            have z0 := J.out.hb.frozen 0
            have z1 := J.out.hb.frozen 1
            have z2 := J.out.hb.frozen 2
            have z3 := J.out.hb.frozen 3
            have z4 := J.out.hb.frozen 4
            have z5 := J.out.hb.frozen 5
            clear f0' g0' g1' g2' g3' g4' g5'
            refine wpAny_ready (rs := [13, 21]) (by kernel_rfl) (by simp) ?_
            refine AllReady.cons rfl (fun K hK => ?_) (AllReady.cons rfl (fun K hK => ?_) AllReady.nil)
            · go_simp
              refine hK _ _ ?_
              clear hK K
              refine wpAny_take (i := 15) (v := .pointer (some ⟨b, off + k * 6, none⟩)) rfl (by kernel_rfl) (by kernel_rfl) (by kernel_rfl) (fun _ _ _ h => h) (Or.inl ⟨by kernel_rfl, fun w => by go_simp⟩) ?_
              refine wpAny_take (i := 16) (v := .pointer (some ⟨b, off + k * 6, none⟩)) rfl (by kernel_rfl) (by kernel_rfl) (by kernel_rfl) (fun _ _ _ h => h) (Or.inl ⟨by kernel_rfl, fun w => by go_simp⟩) ?_
              refine wpAny_take (i := 17) (v := .pointer (some ⟨b, off + k * 6 + 1, none⟩)) rfl (by kernel_rfl) (by kernel_rfl) (by kernel_rfl) (fun _ _ _ h => h) (Or.inl ⟨by kernel_rfl, fun w => by go_simp⟩) ?_
              refine wpAny_ready (rs := [18, 21]) (by kernel_rfl) (by simp) ?_
              refine AllReady.cons rfl (fun K hK => ?_) (AllReady.cons rfl (fun K hK => ?_) AllReady.nil)
              · go_simp
                refine hK _ _ ?_
                clear hK K
                refine wpAny_ready (rs := [21]) (by kernel_rfl) (by simp) ?_
                refine AllReady.cons rfl (fun K hK => ?_) AllReady.nil
                go_simp
                refine hK _ _ ?_
                clear hK K
                refine wpAny_rest 22 rfl (by kernel_rfl) ?_
                simp only [List.drop_succ_cons, List.drop_zero]
                go_wp2_with fail
                go_roundw
                case rel => exact ⟨k + 1, (y, true), by omega, by go_num, rfl, Lib.hid (by rw [fdAt_succ hlt, hs.out, Hy.out, Hst.out]), Lib.hid (J.out.set y)⟩
                case measure => simp [intOf]; omega
              · go_simp
                refine hK _ _ ?_
                clear hK K
                refine wpAny_ready (rs := [18]) (by kernel_rfl) (by simp) ?_
                refine AllReady.cons rfl (fun K hK => ?_) AllReady.nil
                go_simp
                refine hK _ _ ?_
                clear hK K
                refine wpAny_rest 22 rfl (by kernel_rfl) ?_
                simp only [List.drop_succ_cons, List.drop_zero]
                go_wp2_with fail
                go_roundw
                case rel => exact ⟨k + 1, (y, true), by omega, by go_num, rfl, Lib.hid (by rw [fdAt_succ hlt, hs.out, Hy.out, Hst.out]), Lib.hid (J.out.set y)⟩
                case measure => simp [intOf]; omega
            · go_simp
              refine hK _ _ ?_
              clear hK K
              refine wpAny_ready (rs := [13]) (by kernel_rfl) (by simp) ?_
              refine AllReady.cons rfl (fun K hK => ?_) AllReady.nil
              go_simp
              refine hK _ _ ?_
              clear hK K
              refine wpAny_take (i := 15) (v := .pointer (some ⟨b, off + k * 6, none⟩)) rfl (by kernel_rfl) (by kernel_rfl) (by kernel_rfl) (fun _ _ _ h => h) (Or.inl ⟨by kernel_rfl, fun w => by go_simp⟩) ?_
              refine wpAny_take (i := 16) (v := .pointer (some ⟨b, off + k * 6, none⟩)) rfl (by kernel_rfl) (by kernel_rfl) (by kernel_rfl) (fun _ _ _ h => h) (Or.inl ⟨by kernel_rfl, fun w => by go_simp⟩) ?_
              refine wpAny_take (i := 17) (v := .pointer (some ⟨b, off + k * 6 + 1, none⟩)) rfl (by kernel_rfl) (by kernel_rfl) (by kernel_rfl) (fun _ _ _ h => h) (Or.inl ⟨by kernel_rfl, fun w => by go_simp⟩) ?_
              refine wpAny_ready (rs := [18]) (by kernel_rfl) (by simp) ?_
              refine AllReady.cons rfl (fun K hK => ?_) AllReady.nil
              go_simp
              refine hK _ _ ?_
              clear hK K
              refine wpAny_rest 22 rfl (by kernel_rfl) ?_
              simp only [List.drop_succ_cons, List.drop_zero]
              go_wp2_with fail
              go_roundw
              case rel => exact ⟨k + 1, (y, true), by omega, by go_num, rfl, Lib.hid (by rw [fdAt_succ hlt, hs.out, Hy.out, Hst.out]), Lib.hid (J.out.set y)⟩
              case measure => simp [intOf]; omega
          · have Hst : Hid (findStep a (s, true) y = (s, true)) := Lib.hid (by simp [findStep, hlen])
            have hd : decide ((s.p.l : Int) < y.p.l) = false := by simpa using hlen
            have hd' : decide (s.p.l < y.p.l) = false := by simpa using hlen
            clear hlen
            go_upto_region 6 with (fail)
            refine wp_anyW (by kernel_rfl) (fun V hV => ?_)
            have KV : Kp wr V := by rw [hV]; exact (Kp.refl _).drew
            clear hV
            have f0' := KV.cell f0
            have g0' := KV.cell g0
            have g1' := KV.cell g1
            have g2' := KV.cell g2
            have g3' := KV.cell g3
            have g4' := KV.cell g4
            have g5' := KV.cell g5
            clear f0 g0 g1 g2 g3 g4 g5 h0 z0 h1 z1 h2 z2 h3 z3 h4 z4 h5 z5
            refine wpAny_take (i := 0) (v := .pointer (some ⟨w.heap.size, 0, none⟩)) rfl (by kernel_rfl) (by kernel_rfl) (by kernel_rfl) (fun _ _ _ h => h) (Or.inl ⟨by kernel_rfl, fun w => by go_simp⟩) ?_
            refine wpAny_take (i := 2) (v := .int .i64 k) rfl (by kernel_rfl) (by kernel_rfl) (by kernel_rfl) (fun _ _ _ h => h) (Or.inl ⟨by kernel_rfl, fun w => by go_simp⟩) ?_
            refine wpAny_take (i := 6) (v := .int .u32 a) rfl (by kernel_rfl) (by kernel_rfl) (by kernel_rfl) (fun _ _ _ h => h) (Or.inl ⟨by kernel_rfl, fun w => by go_simp⟩) ?_
            refine wpAny_ready (rs := [1]) (by kernel_rfl) (by simp) ?_
            refine AllReady.cons rfl (fun K hK => ?_) AllReady.nil
            go_simp
            refine hK _ _ ?_
            clear hK K
            refine wpAny_take (i := 3) (v := .pointer (some ⟨b, off + k * 6, none⟩)) rfl (by kernel_rfl) (by kernel_rfl) (by kernel_rfl) (fun _ _ _ h => h) (Or.inl ⟨by kernel_rfl, fun w => by go_simp⟩) ?_
            refine wpAny_take (i := 4) (v := .pointer (some ⟨b, off + k * 6, none⟩)) rfl (by kernel_rfl) (by kernel_rfl) (by kernel_rfl) (fun _ _ _ h => h) (Or.inl ⟨by kernel_rfl, fun w => by go_simp⟩) ?_
            refine wpAny_ready (rs := [5]) (by kernel_rfl) (by simp) ?_
            refine AllReady.cons rfl (fun K hK => ?_) AllReady.nil
            go_simp
            refine hK _ _ ?_
            clear hK K
            refine wpAny_ready (rs := [7]) (by kernel_rfl) (by simp) ?_
            refine AllReady.cons rfl (fun K hK => ?_) AllReady.nil
            go_simp
            refine (rhas_any y.p a _ Hyo.out ha).mono ?_
            rintro e wa ⟨rfl, hKa⟩
            rw [Hh.out]
            refine hK _ _ ?_
            clear hK K
            have Ka := KV.trans hKa
            refine wpAny_take (i := 8) (v := .bool true) rfl (by kernel_rfl) (by kernel_rfl) (by kernel_rfl) (fun _ _ _ h => h) (Or.inl ⟨by kernel_rfl, fun w => by go_simp⟩) ?_
            refine wpAny_take (i := 9) (v := .bool true) rfl (by kernel_rfl) (by kernel_rfl) (by kernel_rfl) (fun _ _ _ h => h) (Or.inl ⟨by kernel_rfl, fun w => by go_simp⟩) ?_
            refine wpAny_take (i := 10) (v := .bool false) rfl (by kernel_rfl) (by kernel_rfl) (by kernel_rfl) (fun _ _ _ h => h) (Or.inl ⟨by kernel_rfl, fun w => by go_simp⟩) ?_
            refine wpAny_take (i := 11) (v := .bool false) rfl (by kernel_rfl) (by kernel_rfl) (by kernel_rfl) (fun _ _ _ h => h) (Or.inl ⟨by kernel_rfl, fun w => by go_simp⟩) ?_
            refine wpAny_take (i := 12) (v := .pointer (some ⟨w.heap.size, 0, none⟩)) rfl (by kernel_rfl) (by kernel_rfl) (by kernel_rfl) (fun _ _ _ h => h) (Or.inl ⟨by kernel_rfl, fun w => by go_simp⟩) ?_
            refine wpAny_take (i := 14) (v := .int .i64 k) rfl (by kernel_rfl) (by kernel_rfl) (by kernel_rfl) (fun _ _ _ h => h) (Or.inl ⟨by kernel_rfl, fun w => by go_simp⟩) ?_
            refine wpAny_take (i := 19) (v := .pointer (some ⟨w.heap.size + 1 + 1, 0, none⟩)) rfl (by kernel_rfl) (by kernel_rfl) (by kernel_rfl) (fun _ _ _ h => h) (Or.inl ⟨by kernel_rfl, fun w => by go_simp⟩) ?_
            refine wpAny_take (i := 20) (v := .pointer (some ⟨w.heap.size + 1 + 1, 1, none⟩)) rfl (by kernel_rfl) (by kernel_rfl) (by kernel_rfl) (fun _ _ _ h => h) (Or.inl ⟨by kernel_rfl, fun w => by go_simp⟩) ?_
            have J := Lib.hid (hI.out.keep Ka)
            have f2 : wa.cell? ⟨w.heap.size, 0, none⟩ = some (.slice (some ⟨b, off, none⟩) L.length c) := J.out.fb.cell 0
            have k0 := hKa.cell g0'
            have k1 := hKa.cell g1'
            have k2 := hKa.cell g2'
            have k3 := hKa.cell g3'
            have k4 := hKa.cell g4'
            have k5 := hKa.cell g5'
            have h0 : wa.cell? ⟨w.heap.size + 1 + 1, 0, none⟩ = some (.int .u32 s.p.a) := J.out.hb.cell 0
            have h1 : wa.cell? ⟨w.heap.size + 1 + 1, 1, none⟩ = some (.int .i64 s.p.l) := J.out.hb.cell 1
            have h2 : wa.cell? ⟨w.heap.size + 1 + 1, 2, none⟩ = some (.bool s.d) := J.out.hb.cell 2
            have h3 : wa.cell? ⟨w.heap.size + 1 + 1, 3, none⟩ = some (.int .i64 s.f) := J.out.hb.cell 3
            have h4 : wa.cell? ⟨w.heap.size + 1 + 1, 4, none⟩ = some (.int .u32 s.x) := J.out.hb.cell 4
            have h5 : wa.cell? ⟨w.heap.size + 1 + 1, 5, none⟩ = some (.int .i64 s.m) := J.out.hb.cell 5
            have z0 := J.out.hb.frozen 0
            have z1 := J.out.hb.frozen 1
            have z2 := J.out.hb.frozen 2
            have z3 := J.out.hb.frozen 3
            have z4 := J.out.hb.frozen 4
            have z5 := J.out.hb.frozen 5
            clear f0' g0' g1' g2' g3' g4' g5'
            refine wpAny_ready (rs := [13, 21]) (by kernel_rfl) (by simp) ?_
            refine AllReady.cons rfl (fun K hK => ?_) (AllReady.cons rfl (fun K hK => ?_) AllReady.nil)
            · go_simp
              refine hK _ _ ?_
              clear hK K
              refine wpAny_take (i := 15) (v := .pointer (some ⟨b, off + k * 6, none⟩)) rfl (by kernel_rfl) (by kernel_rfl) (by kernel_rfl) (fun _ _ _ h => h) (Or.inl ⟨by kernel_rfl, fun w => by go_simp⟩) ?_
              refine wpAny_take (i := 16) (v := .pointer (some ⟨b, off + k * 6, none⟩)) rfl (by kernel_rfl) (by kernel_rfl) (by kernel_rfl) (fun _ _ _ h => h) (Or.inl ⟨by kernel_rfl, fun w => by go_simp⟩) ?_
              refine wpAny_take (i := 17) (v := .pointer (some ⟨b, off + k * 6 + 1, none⟩)) rfl (by kernel_rfl) (by kernel_rfl) (by kernel_rfl) (fun _ _ _ h => h) (Or.inl ⟨by kernel_rfl, fun w => by go_simp⟩) ?_
              refine wpAny_ready (rs := [18, 21]) (by kernel_rfl) (by simp) ?_
              refine AllReady.cons rfl (fun K hK => ?_) (AllReady.cons rfl (fun K hK => ?_) AllReady.nil)
              · go_simp
                refine hK _ _ ?_
                clear hK K
                refine wpAny_ready (rs := [21]) (by kernel_rfl) (by simp) ?_
                refine AllReady.cons rfl (fun K hK => ?_) AllReady.nil
                go_simp
                refine hK _ _ ?_
                clear hK K
                refine wpAny_rest 22 rfl (by kernel_rfl) ?_
                simp only [List.drop_succ_cons, List.drop_zero]
                go_wp2_with fail
                go_roundw
                case rel => exact ⟨k + 1, (s, true), by omega, by go_num, rfl, Lib.hid (by rw [fdAt_succ hlt, hs.out, Hy.out, Hst.out]), J⟩
                case measure => simp [intOf]; omega
              · go_simp
                refine hK _ _ ?_
                clear hK K
                refine wpAny_ready (rs := [18]) (by kernel_rfl) (by simp) ?_
                refine AllReady.cons rfl (fun K hK => ?_) AllReady.nil
                go_simp
                refine hK _ _ ?_
                clear hK K
                refine wpAny_rest 22 rfl (by kernel_rfl) ?_
                simp only [List.drop_succ_cons, List.drop_zero]
                go_wp2_with fail
                go_roundw
                case rel => exact ⟨k + 1, (s, true), by omega, by go_num, rfl, Lib.hid (by rw [fdAt_succ hlt, hs.out, Hy.out, Hst.out]), J⟩
                case measure => simp [intOf]; omega
            · go_simp
              refine hK _ _ ?_
              clear hK K
              refine wpAny_ready (rs := [13]) (by kernel_rfl) (by simp) ?_
              refine AllReady.cons rfl (fun K hK => ?_) AllReady.nil
              go_simp
              refine hK _ _ ?_
              clear hK K
              refine wpAny_take (i := 15) (v := .pointer (some ⟨b, off + k * 6, none⟩)) rfl (by kernel_rfl) (by kernel_rfl) (by kernel_rfl) (fun _ _ _ h => h) (Or.inl ⟨by kernel_rfl, fun w => by go_simp⟩) ?_
              refine wpAny_take (i := 16) (v := .pointer (some ⟨b, off + k * 6, none⟩)) rfl (by kernel_rfl) (by kernel_rfl) (by kernel_rfl) (fun _ _ _ h => h) (Or.inl ⟨by kernel_rfl, fun w => by go_simp⟩) ?_
              refine wpAny_take (i := 17) (v := .pointer (some ⟨b, off + k * 6 + 1, none⟩)) rfl (by kernel_rfl) (by kernel_rfl) (by kernel_rfl) (fun _ _ _ h => h) (Or.inl ⟨by kernel_rfl, fun w => by go_simp⟩) ?_
              refine wpAny_ready (rs := [18]) (by kernel_rfl) (by simp) ?_
              refine AllReady.cons rfl (fun K hK => ?_) AllReady.nil
              go_simp
              refine hK _ _ ?_
              clear hK K
              refine wpAny_rest 22 rfl (by kernel_rfl) ?_
              simp only [List.drop_succ_cons, List.drop_zero]
              go_wp2_with fail
              go_roundw
              case rel => exact ⟨k + 1, (s, true), by omega, by go_num, rfl, Lib.hid (by rw [fdAt_succ hlt, hs.out, Hy.out, Hst.out]), J⟩
              case measure => simp [intOf]; omega
    · obtain rfl : k = L.length := by omega
      have HE : Hid (foundH a L = (s, sb)) := Lib.hid (by rw [← HF.out, hs.out])
      have h0 : wr.cell? ⟨w.heap.size + 1 + 1, 0, none⟩ = some (.int .u32 s.p.a) := hI.out.hb.cell 0
      have h1 : wr.cell? ⟨w.heap.size + 1 + 1, 1, none⟩ = some (.int .i64 s.p.l) := hI.out.hb.cell 1
      have h2 : wr.cell? ⟨w.heap.size + 1 + 1, 2, none⟩ = some (.bool s.d) := hI.out.hb.cell 2
      have h3 : wr.cell? ⟨w.heap.size + 1 + 1, 3, none⟩ = some (.int .i64 s.f) := hI.out.hb.cell 3
      have h4 : wr.cell? ⟨w.heap.size + 1 + 1, 4, none⟩ = some (.int .u32 s.x) := hI.out.hb.cell 4
      have h5 : wr.cell? ⟨w.heap.size + 1 + 1, 5, none⟩ = some (.int .i64 s.m) := hI.out.hb.cell 5
      have r0 : wr.cell? ⟨w.heap.size + 1, 0, none⟩ = some (.int .u32 0) := hI.out.rb.cell 0
      have r1 : wr.cell? ⟨w.heap.size + 1, 1, none⟩ = some (.int .i64 0) := hI.out.rb.cell 1
      have r2 : wr.cell? ⟨w.heap.size + 1, 2, none⟩ = some (.bool false) := hI.out.rb.cell 2
      have r3 : wr.cell? ⟨w.heap.size + 1, 3, none⟩ = some (.int .i64 0) := hI.out.rb.cell 3
      have r4 : wr.cell? ⟨w.heap.size + 1, 4, none⟩ = some (.int .u32 0) := hI.out.rb.cell 4
      have r5 : wr.cell? ⟨w.heap.size + 1, 5, none⟩ = some (.int .i64 0) := hI.out.rb.cell 5
      have z0 := hI.out.rb.frozen 0
      have z1 := hI.out.rb.frozen 1
      have z2 := hI.out.rb.frozen 2
      have z3 := hI.out.rb.frozen 3
      have z4 := hI.out.rb.frozen 4
      have z5 := hI.out.rb.frozen 5
      have R1 : Blk (set6 wr (w.heap.size + 1) 0 s) (w.heap.size + 1) 53 #[.int .u32 s.p.a, .int .i64 s.p.l, .bool s.d, .int .i64 s.f, .int .u32 s.x, .int .i64 s.m] := hI.out.rb.set6 0 s rfl
      have kz : Kp w (set6 wr (w.heap.size + 1) 0 s) := ((Only.refl [w.heap.size + 1] _).set6 (by simp) _ _).kp hI.out.kp (by simp)
      have HR1 := Lib.hid R1
      clear R1
      go_wp2_with fail
      change bodyPost _ _ _ _ _ (set6 wr (w.heap.size + 1) 0 s)
      have R1 := HR1.out
      clear HR1
      generalize set6 wr (w.heap.size + 1) 0 s = Z at R1 kz ⊢
      have d0 : Z.cell? ⟨w.heap.size + 1, 0, none⟩ = some (.int .u32 s.p.a) := R1.cell 0
      have d1 : Z.cell? ⟨w.heap.size + 1, 1, none⟩ = some (.int .i64 s.p.l) := R1.cell 1
      have d2 : Z.cell? ⟨w.heap.size + 1, 2, none⟩ = some (.bool s.d) := R1.cell 2
      have d3 : Z.cell? ⟨w.heap.size + 1, 3, none⟩ = some (.int .i64 s.f) := R1.cell 3
      have d4 : Z.cell? ⟨w.heap.size + 1, 4, none⟩ = some (.int .u32 s.x) := R1.cell 4
      have d5 : Z.cell? ⟨w.heap.size + 1, 5, none⟩ = some (.int .i64 s.m) := R1.cell 5
      exact bodyPost_ret (v := .tuple #[hopV s, .bool sb]) (by simp [results, Tryz.results16, go_sem, d0, d1, d2, d3, d4, d5, hopV]) rfl ⟨by rw [HE.out], kz⟩
end Go.Proofs.YtfaiponmjjbgoaaGreatDoor

/- prefix.Order, with cmp's functions beneath it. -/
namespace Go.Proofs.YtfaiponmjjbgoaaGreatDoor
open Go.RowKit

def cmpI (x y : Int) : Int := if x < y then -1 else if y < x then 1 else 0
def ordI (a l b k : Int) : Int := if cmpI a b = 0 then cmpI l k else cmpI a b

theorem nanA_any (x : Int) (w : World) : Calls Tryz.prog 128 #[.int .u32 x] w fun e w' => e = .returned (.bool false) ∧ w = w' := by
  go_enter Tryz.func128, Tryz.ntmps128
  go_wp2_with fail
  go_ret
  exact ⟨rfl, rfl⟩
theorem nanI_any (x : Int) (w : World) : Calls Tryz.prog 129 #[.int .i64 x] w fun e w' => e = .returned (.bool false) ∧ w = w' := by
  go_enter Tryz.func129, Tryz.ntmps129
  go_wp2_with fail
  go_ret
  exact ⟨rfl, rfl⟩
set_option maxHeartbeats 400000 in
theorem cmpA_any (x y : Int) (w : World) : Calls Tryz.prog 103 #[.int .u32 x, .int .u32 y] w fun e w' => e = .returned (.int .i64 (cmpI x y)) ∧ w = w' := by
  obtain ⟨r, hr⟩ : ∃ r, cmpI x y = r := ⟨_, rfl⟩
  rw [hr]
  have Hr := Lib.hid hr; clear hr
  by_cases h1 : x < y
  · have d1 : decide (x < y) = true := by simpa using h1
    have e : r = -1 := by rw [← Hr.out]; simp [cmpI, h1]
    subst e
    clear h1 Hr
    go_enter Tryz.func103, Tryz.ntmps103
    go_wp2_with (go_at_call 128; refine (nanA_any _ _).mono ?_; rintro e w' ⟨rfl, rfl⟩)
    go_ret
    exact ⟨rfl, rfl⟩
  · have d1 : decide (x < y) = false := by simpa using h1
    by_cases h2 : y < x
    · have d2 : decide (y < x) = true := by simpa using h2
      have e : r = 1 := by rw [← Hr.out]; simp [cmpI, h1, h2]
      subst e
      clear h1 h2 Hr
      go_enter Tryz.func103, Tryz.ntmps103
      go_wp2_with (go_at_call 128; refine (nanA_any _ _).mono ?_; rintro e w' ⟨rfl, rfl⟩)
      go_ret
      exact ⟨rfl, rfl⟩
    · have d2 : decide (y < x) = false := by simpa using h2
      have e : r = 0 := by rw [← Hr.out]; simp [cmpI, h1, h2]
      subst e
      clear h1 h2 Hr
      go_enter Tryz.func103, Tryz.ntmps103
      go_wp2_with (go_at_call 128; refine (nanA_any _ _).mono ?_; rintro e w' ⟨rfl, rfl⟩)
      go_ret
      exact ⟨rfl, rfl⟩
set_option maxHeartbeats 400000 in
theorem cmpL_any (x y : Int) (w : World) : Calls Tryz.prog 104 #[.int .i64 x, .int .i64 y] w fun e w' => e = .returned (.int .i64 (cmpI x y)) ∧ w = w' := by
  obtain ⟨r, hr⟩ : ∃ r, cmpI x y = r := ⟨_, rfl⟩
  rw [hr]
  have Hr := Lib.hid hr; clear hr
  by_cases h1 : x < y
  · have d1 : decide (x < y) = true := by simpa using h1
    have e : r = -1 := by rw [← Hr.out]; simp [cmpI, h1]
    subst e
    clear h1 Hr
    go_enter Tryz.func104, Tryz.ntmps104
    go_wp2_with (go_at_call 129; refine (nanI_any _ _).mono ?_; rintro e w' ⟨rfl, rfl⟩)
    go_ret
    exact ⟨rfl, rfl⟩
  · have d1 : decide (x < y) = false := by simpa using h1
    by_cases h2 : y < x
    · have d2 : decide (y < x) = true := by simpa using h2
      have e : r = 1 := by rw [← Hr.out]; simp [cmpI, h1, h2]
      subst e
      clear h1 h2 Hr
      go_enter Tryz.func104, Tryz.ntmps104
      go_wp2_with (go_at_call 129; refine (nanI_any _ _).mono ?_; rintro e w' ⟨rfl, rfl⟩)
      go_ret
      exact ⟨rfl, rfl⟩
    · have d2 : decide (y < x) = false := by simpa using h2
      have e : r = 0 := by rw [← Hr.out]; simp [cmpI, h1, h2]
      subst e
      clear h1 h2 Hr
      go_enter Tryz.func104, Tryz.ntmps104
      go_wp2_with (go_at_call 129; refine (nanI_any _ _).mono ?_; rintro e w' ⟨rfl, rfl⟩)
      go_ret
      exact ⟨rfl, rfl⟩

set_option maxRecDepth 100000 in
set_option maxHeartbeats 1000000 in
theorem cor_any (x y : Int) (g : Nat) (w : World) (hB : Blk w g 3 #[.int .i64 x, .int .i64 y]) : Calls Tryz.prog 102 #[.slice (some ⟨g, 0, none⟩) 2 2] w fun e w' => e = .returned (.int .i64 (if x = 0 then y else x)) ∧ w = w' := by
  have c0 : w.cell? ⟨g, 0, none⟩ = some (.int .i64 x) := hB.cell 0
  have c1 : w.cell? ⟨g, 1, none⟩ = some (.int .i64 y) := hB.cell 1
  clear hB
  obtain ⟨r, hr⟩ : ∃ r, (if x = 0 then y else x) = r := ⟨_, rfl⟩
  rw [hr]
  have Hr := Lib.hid hr; clear hr
  go_enter Tryz.func102, Tryz.ntmps102
  go_wp2_with fail
  go_loop [8] (fun i => ∃ k : Nat, k ≤ 2 ∧ i = .int .i64 k ∧ Hid (0 < k → x = 0) ∧ Hid (1 < k → y = 0)) (fun i => 2 - (intOf i).toNat)
  case atStart => exact ⟨0, by omega, rfl, fun h => absurd h (by omega), fun h => absurd h (by omega)⟩
  case round =>
    obtain ⟨k, hk, rfl, h0, h1⟩ := hrel
    have hc3 : k = 0 ∨ k = 1 ∨ k = 2 := by omega
    rcases hc3 with rfl | rfl | rfl
    · by_cases hx : x = 0
      · subst hx
        go_wp2_with fail
        go_round
        case rel => exact ⟨1, by omega, by go_num, fun _ => by trivial, fun h => absurd h (by omega)⟩
        case measure => simp [intOf]
      · have hx1 : (x != 0) = true := by simpa using hx
        have e : r = x := by rw [← Hr.out, if_neg hx]
        subst e
        clear hx Hr
        go_wp2_with fail
        go_ret
        exact ⟨rfl, rfl⟩
    · have hx : x = 0 := h0.out (by omega)
      subst hx
      have e : r = y := by rw [← Hr.out, if_pos rfl]
      subst e
      clear Hr h0 h1
      by_cases hy : r = 0
      · subst hy
        go_wp2_with fail
        go_round
        case rel => exact ⟨2, by omega, by go_num, fun _ => by trivial, fun _ => by trivial⟩
        case measure => simp [intOf]
      · have hy1 : (r != 0) = true := by simpa using hy
        clear hy
        go_wp2_with fail
        go_ret
        exact ⟨rfl, rfl⟩
    · have hx : x = 0 := h0.out (by omega)
      have hy : y = 0 := h1.out (by omega)
      subst hx hy
      have e : r = 0 := by rw [← Hr.out, if_pos rfl]
      subst e
      clear Hr h0 h1
      go_wp2_with fail
      go_ret
      exact ⟨rfl, rfl⟩

set_option maxRecDepth 100000 in
set_option maxHeartbeats 1000000 in
theorem order_any (a l b k : Int) (w : World) : Calls Tryz.prog 78 #[.agg #[.int .u32 a, .int .i64 l], .agg #[.int .u32 b, .int .i64 k]] w fun e w' => e = .returned (.int .i64 (ordI a l b k)) ∧ Kp w w' := by
  obtain ⟨W, hW, kW, B0, B1⟩ : ∃ W, (w.alloc (.cells #[.int .u32 a, .int .i64 l] 26)).alloc (.cells #[.int .u32 b, .int .i64 k] 26) = W ∧ Kp w W ∧ Blk W w.heap.size 26 #[.int .u32 a, .int .i64 l] ∧ Blk W (w.heap.size + 1) 26 #[.int .u32 b, .int .i64 k] := ⟨_, rfl, ((Kp.refl _).alloc _).alloc _, (Blk.new w _ _).alloc _, Blk.new1 w _ _ _⟩
  obtain ⟨x, hx⟩ : ∃ x, cmpI a b = x := ⟨_, rfl⟩
  obtain ⟨y, hy⟩ : ∃ y, cmpI l k = y := ⟨_, rfl⟩
  have Hx := Lib.hid hx
  have Hy := Lib.hid hy
  have Hr : Hid (ordI a l b k = if x = 0 then y else x) := by rw [← hx, ← hy]; exact Lib.hid rfl
  clear hx hy
  go_enter Tryz.func78, Tryz.ntmps78
  go_wp2_with fail
  refine wp_tail 10 (by kernel_rfl) (by kernel_rfl) (fun V hV => ?_)
  have KV : Kp W V := by rw [hV]; exact (Kp.refl _).drew
  have p0 : V.cell? ⟨w.heap.size, 0, none⟩ = some (.int .u32 a) := (B0.keep KV).cell 0
  have p1 : V.cell? ⟨w.heap.size, 1, none⟩ = some (.int .i64 l) := (B0.keep KV).cell 1
  have q0 : V.cell? ⟨w.heap.size + 1, 0, none⟩ = some (.int .u32 b) := (B1.keep KV).cell 0
  have q1 : V.cell? ⟨w.heap.size + 1, 1, none⟩ = some (.int .i64 k) := (B1.keep KV).cell 1
  clear hV hW
  simp only [List.take_succ_cons, List.take_zero, List.drop_succ_cons, List.drop_zero]
  still_step
  still_step
  still_step
  still_step
  still_call (by refine (cmpA_any a b _).mono ?_; rintro e w' ⟨rfl, rfl⟩; rw [Hx.out]; exact ⟨rfl, rfl⟩)
  still_step
  still_step
  still_step
  still_step
  still_call (by refine (cmpL_any l k _).mono ?_; rintro e w' ⟨rfl, rfl⟩; rw [Hy.out]; exact ⟨rfl, rfl⟩)
  refine wpStill_nil ?_
  clear p0 p1 q0 q1
  go_wp2_with fail
  refine (cor_any x y V.heap.size _ (Blk.new V _ _)).mono ?_
  rintro e w' ⟨rfl, rfl⟩
  rw [← Hr.out]
  go_wp2_with fail
  go_ret
  exact ⟨rfl, (kW.trans KV).alloc _⟩
end Go.Proofs.YtfaiponmjjbgoaaGreatDoor

/- The trie's told and From, with the iterator over rows; fib's keys, sorted. -/
namespace Go.Proofs.YtfaiponmjjbgoaaGreatDoor
open Go.RowKit
attribute [local go_sem] Oper.semAt_some

theorem jump_normal {l : Nat} {J : Act → World → Prop} {Q : Exit → Act → World → Prop} {a : Act} {w : World} (h : Q .normal a w) : Exit.jump l J Q .normal a w := h
theorem call_told1 (args : Array Value) (w : World) : (callFunc 113 args).run Tryz.prog w = .ok (.enter 113 args) w := by kernel_rfl
def toldV (bx : Nat) : Value := .func (.func 113) #[] #[.pointer (some ⟨bx, 0, none⟩)]
set_option maxHeartbeats 400000 in
theorem told_any (A : Option Addr) (n c : Nat) (w : World) :
    Calls Tryz.prog 92 #[.slice A n c] w fun e w' => e = .returned (toldV w.heap.size) ∧ Blk w' w.heap.size 126 #[.slice A n c] ∧ Kp w w' := by
  have hmf := makeFunc_run
  unfold toldV
  go_enter Tryz.func92, Tryz.ntmps92
  go_wp2_with fail
  go_ret
  exact ⟨rfl, Blk.new w _ _, (Kp.refl _).alloc _⟩

/-- What the iterator over rows reads. -/
structure ToldMem (bx : Nat) (A : Option Addr) (c : Nat) (rs : List (Pn × Int)) (W : World) : Prop where
  bx : Blk W bx 126 #[.slice A rs.length c]
  rd : Rd W 3 rowE A rs
def rowAt (rs : List (Pn × Int)) (k : Nat) : Pn × Int := rs.getD k (⟨0, 0⟩, 0)
theorem rowAt_eq {rs : List (Pn × Int)} {k : Nat} (h : k < rs.length) : rowAt rs k = rs[k] := by simp [rowAt, List.getD, h]

set_option maxRecDepth 100000 in
set_option maxHeartbeats 1000000 in
theorem told1_iter (bx : Nat) (A : Option Addr) (c : Nat) (rs : List (Pn × Int)) (hn : rs.length ≤ 1000000) :
    Iter Tryz.prog 113 #[.pointer (some ⟨bx, 0, none⟩)] rs.length
      (fun k => #[.agg #[.int .u32 (rowAt rs k).1.a, .int .i64 (rowAt rs k).1.l], .int .i64 (rowAt rs k).2]) (ToldMem bx A c rs) := by
  intro l I Z W hI hZ hM hy h0
  have HI := Lib.hid hI; clear hI
  have HZ := Lib.hid hZ; clear hZ
  have HM := Lib.hid hM; clear hM
  have HY := Lib.hid hy; clear hy
  obtain ⟨N, hN⟩ : ∃ N, rs.length = N := ⟨_, rfl⟩
  have HN := Lib.hid hN
  rw [hN] at HY hn ⊢
  clear hN
  have D0 := HM.out 0 W h0
  have c0 : W.cell? ⟨bx, 0, none⟩ = some (.slice A N c) := by have := D0.bx.cell 0; rw [HN.out] at this; exact this
  have H0 := Lib.hid h0; clear h0
  clear D0
  go_enter Tryz.func113, Tryz.ntmps113
  go_wp2_with fail
  refine wp_scope_fwd 0 rfl ?_
  go_wp2_with fail
  refine wp_label ?_
  go_wp2_with fail
  go_loopw [7] (fun i wr => ∃ k : Nat, k ≤ N ∧ i = .int .i64 k ∧ Hid (I k wr)) (fun i _ => N - (intOf i).toNat)
  case atStart => exact ⟨0, Nat.zero_le _, rfl, H0⟩
  case round =>
    obtain ⟨k, hk, rfl, hi⟩ := hrel
    have D := HM.out k wr hi.out
    by_cases hlt : k < N
    · obtain ⟨b, off, hA, x0, x1, x2⟩ := row_at D.rd (k := k) (by rw [HN.out]; omega)
      subst hA
      rw [← rowAt_eq (by rw [HN.out]; omega)] at x0 x1 x2
      clear D c0
      have Hi2 : Hid (I k (wr.alloc (.cells #[.int .u32 (rowAt rs k).1.a, .int .i64 (rowAt rs k).1.l, .int .i64 (rowAt rs k).2] 129))) := Lib.hid (HI.out k _ _ hi.out ((Kp.refl _).alloc _))
      obtain ⟨fn, tmps, asg, bd, hrun, hround⟩ := HY.out k _ hlt Hi2.out
      obtain ⟨r, hr⟩ : ∃ r, rowAt rs k = r := ⟨_, rfl⟩
      rw [hr] at x0 x1 x2 hrun hround Hi2
      have Hr := Lib.hid hr; clear hr
      go_upto_region 3 with (fail)
      refine (wpIn_wide (n := 0)).1 ?_
      gi_wp2_with fail
      refine ⟨rfl, hround.mono ?_⟩
      clear hrun hround
      rintro e W' (⟨rfl, hi2⟩ | ⟨rfl, hz⟩)
      · have Hi3 := Lib.hid hi2; clear hi2
        gi_wp2_with fail
        go_wp2_with fail
        go_roundw
        case rel => exact ⟨k + 1, by omega, by go_num, Hi3⟩
        case measure => simp [intOf]; omega
      · have Hz := Lib.hid hz; clear hz
        gi_wp2_with fail
        go_wp2_with fail
        refine jump_normal ?_
        go_end0
        exact ⟨rfl, .inr ⟨k + 1, by omega, by omega, Hz.out⟩⟩
    · obtain rfl : k = N := by omega
      go_wp2_with fail
      refine jump_normal ?_
      go_end0
      exact ⟨rfl, .inl hi.out⟩

/-- What From of the least prefix hands over: an iterator over all rows. -/
def FromP (w : World) (t : Tr) (e : Ending) (w' : World) : Prop := ∃ bx A c, e = .returned (toldV bx) ∧ ToldMem bx A c t.rows w' ∧ Kp w w' ∧ w.heap.size ≤ bx ∧ ∀ a, A = some a → w.heap.size ≤ a.block
theorem cmp_zero (a : Nat) : cmpI a 0 = if a = 0 then 0 else 1 := by
  unfold cmpI
  by_cases h : a = 0
  · subst h; simp
  · rw [if_neg (by omega), if_pos (by omega), if_neg h]
theorem ord_zero (a l : Nat) : decide (ordI a l 0 0 < 0) = false := by
  unfold ordI
  rw [cmp_zero, cmp_zero]
  by_cases h : a = 0
  · simp [h]; split <;> omega
  · simp [h]

set_option maxRecDepth 100000 in
set_option maxHeartbeats 1000000 in
theorem from_any (tr : Nat) (many : Int) (t : Tr) (w : World) (hT : Blk w tr 87 #[t.ptr, .int .i64 many, .bool true]) (hM : TM w t) (hn : t.rows.length ≤ 1000000) :
    Calls Tryz.prog 67 #[.pointer (some ⟨tr, 0, none⟩), .agg #[.int .u32 0, .int .i64 0]] w (FromP w t) := by
  obtain ⟨W, hW, kW, B0⟩ : ∃ W, w.alloc (.cells #[.int .u32 0, .int .i64 0] 26) = W ∧ Kp w W ∧ Blk W w.heap.size 26 #[.int .u32 0, .int .i64 0] := ⟨_, rfl, (Kp.refl _).alloc _, Blk.new w _ _⟩
  have HT := Lib.hid (hT.keep kW)
  have HM := Lib.hid (hM.keep kW)
  clear hT hM
  go_enter Tryz.func67, Tryz.ntmps67
  go_wp2_with fail
  refine (none_any tr _ many _ HT.out).mono ?_
  rintro e w' ⟨rfl, rfl⟩
  go_wp2_with fail
  refine (trows_any tr many t _ HT.out HM.out hn).mono ?_
  rintro e w1 ⟨A, c, rfl, hR, hK1, hA⟩
  have k1 := kW.trans hK1
  have hsz := kW.size
  have B1 := B0.keep hK1
  have HR := Lib.hid hR
  have HA := Lib.hid hA
  clear hW hR hA HT HM
  obtain ⟨rs, hrs⟩ : ∃ rs, t.rows = rs := ⟨_, rfl⟩
  rw [hrs] at HR hn ⊢
  have Hrs := Lib.hid hrs; clear hrs
  go_wp2_with fail
  go_loopw [6] (fun i wr => i = .int .i64 0 ∧ Hid (Kp w1 wr)) (fun i _ => 0)
  case atStart => exact ⟨rfl, Kp.refl _⟩
  case round =>
    obtain ⟨rfl, hk⟩ := hrel
    have B2 := B1.keep hk.out
    have R2 := Lib.hid (HR.out.keep hk.out)
    have p0 : wr.cell? ⟨w.heap.size, 0, none⟩ = some (.int .u32 0) := B2.cell 0
    have p1 : wr.cell? ⟨w.heap.size, 1, none⟩ = some (.int .i64 0) := B2.cell 1
    have fin : Hid (∀ W3, Kp wr W3 → ∀ W4, Blk W4 W3.heap.size 126 #[.slice A rs.length c] → Kp W3 W4 → FromP w t (.returned (toldV W3.heap.size)) W4) := fun W3 k3 W4 B4 k4 => by
      have kk := (k1.trans hk.out).trans k3
      refine ⟨W3.heap.size, A, c, rfl, ?_, kk.trans k4, kk.size, fun a ha => ?_⟩
      · rw [Hrs.out]; exact ⟨B4, R2.out.keep (k3.trans k4)⟩
      · have := HA.out a ha; omega
    by_cases h0 : 0 < rs.length
    · obtain ⟨b, off, rfl, x0, x1, x2⟩ := row_at R2.out h0
      obtain ⟨r, hr⟩ : ∃ r, rs[0] = r := ⟨_, rfl⟩
      rw [hr] at x0 x1 x2
      simp only [Nat.zero_mul, Nat.add_zero] at x0 x1 x2
      have Hr := Lib.hid hr; clear hr
      have ho := ord_zero r.1.a r.1.l
      have Ho := Lib.hid ho; clear ho
      go_upto_region 5 with (fail)
      refine wp_tail 11 (by kernel_rfl) (by kernel_rfl) (fun V hV => ?_)
      have KV : Kp wr V := by rw [hV]; exact (Kp.refl _).drew
      clear hV
      have y0 := KV.cell x0
      have y1 := KV.cell x1
      have y2 := KV.cell x2
      have q0 := KV.cell p0
      have q1 := KV.cell p1
      clear x0 x1 x2 p0 p1
      simp only [List.take_succ_cons, List.take_zero, List.drop_succ_cons, List.drop_zero]
      repeat still_step
      refine wpStill_nil ?_
      go_wp2_with fail
      refine (order_any r.1.a r.1.l 0 0 V).mono ?_
      rintro e w2 ⟨rfl, hK2⟩
      have hd := Ho.out
      obtain ⟨o, hoo⟩ : ∃ o, ordI r.1.a r.1.l 0 0 = o := ⟨_, rfl⟩
      rw [hoo] at hd ⊢
      have Hoo := Lib.hid hoo; clear hoo y0 y1 y2 q0 q1
      go_wp2_with fail
      refine (told_any _ _ _ w2).mono ?_
      rintro e w3 ⟨rfl, B3, hK3⟩
      have HB3 := Lib.hid B3; clear B3
      go_wp2_with fail
      go_ret
      exact fin.out w2 (KV.trans hK2) w3 HB3.out hK3
    · obtain rfl : rs = [] := List.length_eq_zero_iff.1 (by omega)
      go_upto_region 5 with (fail)
      go_quiet (fail)
      go_wp2_with fail
      refine (told_any _ _ _ _).mono ?_
      rintro e w3 ⟨rfl, B3, hK3⟩
      have HB3 := Lib.hid B3; clear B3
      go_wp2_with fail
      go_ret
      exact fin.out (wr.drewN nq) ((Kp.refl _).drewN _) w3 HB3.out hK3

set_option maxRecDepth 100000 in
set_option maxHeartbeats 400000 in
theorem ksort_any (tr : Nat) (many : Int) (t : Tr) (w : World) (hT : Blk w tr 87 #[t.ptr, .int .i64 many, .bool true]) (hM : TM w t) (hn : t.rows.length ≤ 1000000) :
    Calls Tryz.prog 49 #[.agg #[.pointer (some ⟨tr, 0, none⟩)]] w (FromP w t) := by
  have k1 : Kp w (w.alloc (.cells #[.pointer (some ⟨tr, 0, none⟩)] 67)) := (Kp.refl _).alloc _
  have HT := Lib.hid (hT.keep k1)
  have HM := Lib.hid (hM.keep k1)
  clear hT hM
  go_enter Tryz.func49, Tryz.ntmps49
  go_wp2_with fail
  refine (from_any tr many t _ HT.out HM.out hn).mono ?_
  rintro e w2 ⟨bx, A, c, rfl, hM2, hK2, hb, hA⟩
  have HM2 := Lib.hid hM2
  have HA := Lib.hid hA
  clear hM2 hA
  have hs := k1.size
  unfold toldV
  go_wp2_with fail
  go_ret
  exact ⟨bx, A, c, rfl, HM2.out, k1.trans hK2, by omega, fun a ha => by have := HA.out a ha; omega⟩
end Go.Proofs.YtfaiponmjjbgoaaGreatDoor

/- fib's gathered, sorted and All, with the iterator that All hands over. -/
namespace Go.Proofs.YtfaiponmjjbgoaaGreatDoor
open Go.RowKit
attribute [local go_sem] Oper.semAt_some

def hopsOf (H : List Hp) (rs : List (Pn × Int)) : List Hp := rs.map (fun r => H.getD r.2.toNat hop0)
theorem hopsOf_len (H : List Hp) (rs : List (Pn × Int)) : (hopsOf H rs).length = rs.length := by simp [hopsOf]
theorem hopsOf_take {H : List Hp} {rs : List (Pn × Int)} {k : Nat} (hk : k < rs.length) : hopsOf H (rs.take k) ++ [H.getD (rowAt rs k).2.toNat hop0] = hopsOf H (rs.take (k + 1)) := by
  have e : rs.take k ++ [rs[k]] = rs.take (k + 1) := by simp
  rw [rowAt_eq hk, ← e]
  unfold hopsOf
  rw [List.map_append]
  rfl
def GatI (w : World) (AH : Option Addr) (cH : Nat) (H : List Hp) (rs : List (Pn × Int)) (k : Nat) (W : World) : Prop :=
  ∃ v, Blk W w.heap.size 33 #[.slice AH H.length cH] ∧ Blk W (w.heap.size + 1) 33 #[v] ∧ Own W (w.heap.size + 1 + 1 + 1 + 1) 53 6 Hp.enc v (hopsOf H (rs.take k)) ∧ Kp w W
def GatP (w : World) (l : List Hp) (e : Ending) (w' : World) : Prop := ∃ A c, e = .returned (.slice A l.length c) ∧ Rd w' 6 Hp.enc A l ∧ Kp w w' ∧ ∀ a, A = some a → w.heap.size ≤ a.block

set_option maxRecDepth 100000 in
set_option maxHeartbeats 2000000 in
theorem gath_any (bx : Nat) (A : Option Addr) (c : Nat) (rs : List (Pn × Int)) (AH : Option Addr) (cH : Nat) (H : List Hp) (w : World) (hn : rs.length ≤ 1000000) (hT : ToldMem bx A c rs w) (hR : Rd w 6 Hp.enc AH H) (hH : H.length ≤ 512) (hp : ∀ r ∈ rs, 0 ≤ r.2 ∧ r.2.toNat < H.length) :
    Calls Tryz.prog 48 #[.slice AH H.length cH, toldV bx] w (GatP w (hopsOf H rs)) := by
  have HT := Lib.hid hT; clear hT
  have HR := Lib.hid hR; clear hR
  have Hp' := Lib.hid hp; clear hp
  have Hit := Lib.hid (told1_iter bx A c rs hn)
  unfold toldV
  refine calls_of_wp_marks Tryz.func48 rfl ?_; simp only [Tryz.ntmps48, List.size_toArray, List.length_cons, List.length_nil, Nat.reduceAdd, Nat.reduceSub, Array.replicate_succ, Array.replicate_zero, List.push_toArray, List.append_toArray, List.nil_append, List.cons_append]
  go_wp2_with fail
  refine wp_range (N := rs.length) rfl call_told1 Hit.out (fun _ _ => rfl) (GatI w AH cH H rs) (fun _ _ _ => False) ?_ (fun _ _ _ _ h => h.elim) ?_ ?_ ?_ ?_ (fun _ _ _ _ _ h => h.elim)
  · rintro k W W' ⟨v, h0, h1, h2, h3⟩ hO
    simp only [World.size_alloc] at hO
    exact ⟨v, h0.only hO (by simp <;> omega), h1.only hO (by simp <;> omega), h2.only hO (by simp <;> omega), hO.kp h3 (by simp <;> omega)⟩
  · rintro k W ⟨v, h0, h1, h2, h3⟩
    exact ⟨HT.out.bx.keep h3, HT.out.rd.keep h3⟩
  · exact ⟨_, (Blk.new w _ _).alloc _, Blk.new1 w _ _ _, by rw [List.take_zero]; exact Own.nil _ _ _ _ _, ((Kp.refl _).alloc _).alloc _⟩
  · intro l k W hk _
    gi_wp2_with fail
    refine ⟨trivial, ?_⟩
    rintro W2 ⟨v, h0, h1, h2, h3⟩ hsz
    simp only [World.size_alloc] at hsz
    have Htk := Lib.hid (hopsOf_take (H := H) hk)
    have hin := Hp'.out (rowAt rs k) (by rw [rowAt_eq hk]; exact List.getElem_mem hk)
    obtain ⟨r, hr⟩ : ∃ r, rowAt rs k = r := ⟨_, rfl⟩
    rw [hr] at Htk hin ⊢
    obtain ⟨n, hnr⟩ : ∃ n : Nat, r.2 = (n : Int) := ⟨r.2.toNat, by omega⟩
    rw [hnr] at hin Htk ⊢
    rw [Int.toNat_natCast] at hin Htk
    have hnH := hin.2
    have Hr := Lib.hid hr
    have Hnr := Lib.hid hnr
    clear hr hnr hin
    obtain ⟨b, off, hA, g0, g1, g2, g3, g4, g5⟩ := hop_at (HR.out.keep h3) hnH
    obtain ⟨y, hy⟩ : ∃ y, H[n] = y := ⟨_, rfl⟩
    have hyd : H.getD n hop0 = y := by rw [← hy]; simp [List.getD, hnH]
    rw [hyd] at Htk
    rw [hy] at g0 g1 g2 g3 g4 g5
    have Hy := Lib.hid hy
    clear hy hyd
    subst hA
    have hlen : (hopsOf H (rs.take k)).length = k := by rw [hopsOf_len]; simp; omega
    have Hlen := Lib.hid hlen; clear hlen
    obtain ⟨acc, hacc⟩ : ∃ acc, hopsOf H (rs.take k) = acc := ⟨_, rfl⟩
    rw [hacc] at h2 Htk Hlen
    have Hacc := Lib.hid hacc; clear hacc
    have hfit : (acc.length + 1) * 49 ≤ 140737488355328 := by rw [Hlen.out]; omega
    have x0 : W2.cell? ⟨w.heap.size + 1, 0, none⟩ = some v := h1.cell 0
    have l0 : W2.cell? ⟨w.heap.size, 0, none⟩ = some (.slice (some ⟨b, off, none⟩) H.length cH) := h0.cell 0
    have fin : Hid (∀ (w3 : World) (A3 : Option Addr) (c3 : Nat), Own w3 (w.heap.size + 1 + 1 + 1 + 1) 53 6 Hp.enc (.slice A3 (acc.length + 1) c3) (acc ++ [y]) → Kp w w3 → (∀ b', b' < w.heap.size + 1 + 1 + 1 + 1 → w3.heap[b']? = W2.heap[b']?) →
        Kept2 ((w.alloc (.cells #[.slice (some ⟨b, off, none⟩) H.length cH] 33)).alloc (.cells #[.slice none 0 0] 33)) W2 (w3.setCell ⟨w.heap.size + 1, 0, none⟩ (.slice A3 (acc.length + 1) c3)) ∧ GatI w (some ⟨b, off, none⟩) cH H rs (k + 1) (w3.setCell ⟨w.heap.size + 1, 0, none⟩ (.slice A3 (acc.length + 1) c3))) := by
      intro w3 A3 c3 hown' hK' hE
      refine ⟨⟨?_, ?_⟩, _, ?_, (show Blk w3 _ _ _ from (hE _ (by omega)).trans h1).set_ 0 _, ?_, hK'.setCell (by simp) _⟩
      · simp only [World.size_alloc]; exact (Below.heap_setCell _ _ _ _ (by simp)).trans (hE _ (by omega))
      · simp only [World.size_alloc]; exact (Below.heap_setCell _ _ _ _ (by simp <;> omega)).trans (hE _ (by omega))
      · exact (show Blk w3 _ _ _ from (hE _ (by omega)).trans h0).far (by simp) _
      · rw [← Htk.out]; exact Own.setBelow (p := ⟨w.heap.size + 1, 0, none⟩) hown' (by simp only; omega) _
    have Ho := Lib.hid h2
    clear h2 Htk Hlen
    gi_wp2_with fail
    refine round_any (by kernel_rfl) (by kernel_rfl) (no_out_block no_out_round) (fun V hV => ?_)
    have KV : Kp W2 V := by rw [hV]; exact (Kp.refl _).drew
    clear hV
    have hsV := KV.size
    have z0 := KV.cell g0
    have z1 := KV.cell g1
    have z2 := KV.cell g2
    have z3 := KV.cell g3
    have z4 := KV.cell g4
    have z5 := KV.cell g5
    have xV := KV.cell x0
    have lV := KV.cell l0
    have BV := h1.keep KV
    clear g0 g1 g2 g3 g4 g5 x0 l0
    refine wpAny_take (i := 2) (v := .int .i64 n) rfl (by kernel_rfl) (by kernel_rfl) (by kernel_rfl) (fun _ _ _ h => h) (Or.inl ⟨by rfl, fun w => by go_simp⟩) ?_
    refine wpAny_ready (rs := [0, 1]) (by kernel_rfl) (by simp) ?_
    refine AllReady.cons rfl (fun K hK => ?_) (AllReady.cons rfl (fun K hK => ?_) AllReady.nil)
    · go_simp
      refine hK _ _ ?_
      clear hK K
      refine wpAny_ready (rs := [1]) (by kernel_rfl) (by simp) ?_
      refine AllReady.cons rfl (fun K hK => ?_) AllReady.nil
      go_simp
      refine hK _ _ ?_
      clear hK K
      refine wpAny_rest 3 rfl (by kernel_rfl) ?_
      simp only [List.drop_succ_cons, List.drop_zero]
      go_wp2_with (at_builtin; go_must (refine wpList_appx EHop rfl _ _ rfl y rfl (Ho.out.keep KV) (h3.trans KV) (by omega) (by omega) rfl rfl rfl rfl rfl (by omega) ?_); intro v' w3 hown' hK' hg; obtain ⟨A3, c3, rfl⟩ := hown'.form1; have B3 := BV.grown hg (Own.ne (Ho.out.keep KV) (by omega)); have cc3 : w3.cell? ⟨w.heap.size + 1, 0, none⟩ = some v := B3.cell 0; have zz := B3.frozen 0)
      exact fin.out w3 _ _ hown' hK' (fun b' hb' => (hg.block _ (by omega) (Own.ne (Ho.out.keep KV) hb')).trans (KV.heap (by omega)))
    · go_simp
      refine hK _ _ ?_
      clear hK K
      refine wpAny_take (i := 3) (v := .pointer (some ⟨b, off + n * 6, none⟩)) rfl (by kernel_rfl) (by kernel_rfl) (by kernel_rfl) (fun _ _ _ h => h) (Or.inl ⟨by rfl, fun w => by go_simp⟩) ?_
      refine wpAny_ready (rs := [0,4]) (by kernel_rfl) (by simp) ?_
      refine AllReady.cons rfl (fun K hK => ?_) (AllReady.cons rfl (fun K hK => ?_) AllReady.nil)
      · go_simp
        refine hK _ _ ?_
        clear hK K
        refine wpAny_rest 4 rfl (by kernel_rfl) ?_
        simp only [List.drop_succ_cons, List.drop_zero]
        go_wp2_with (at_builtin; go_must (refine wpList_appx EHop rfl _ _ rfl y rfl (Ho.out.keep KV) (h3.trans KV) (by omega) (by omega) rfl rfl rfl rfl rfl (by omega) ?_); intro v' w3 hown' hK' hg; obtain ⟨A3, c3, rfl⟩ := hown'.form1; have B3 := BV.grown hg (Own.ne (Ho.out.keep KV) (by omega)); have cc3 : w3.cell? ⟨w.heap.size + 1, 0, none⟩ = some v := B3.cell 0; have zz := B3.frozen 0)
        exact fin.out w3 _ _ hown' hK' (fun b' hb' => (hg.block _ (by omega) (Own.ne (Ho.out.keep KV) hb')).trans (KV.heap (by omega)))
      · go_simp
        refine hK _ _ ?_
        clear hK K
        refine wpAny_ready (rs := [0,5]) (by kernel_rfl) (by simp) ?_
        refine AllReady.cons rfl (fun K hK => ?_) (AllReady.cons rfl (fun K hK => ?_) AllReady.nil)
        · go_simp
          refine hK _ _ ?_
          clear hK K
          refine wpAny_rest 5 rfl (by kernel_rfl) ?_
          simp only [List.drop_succ_cons, List.drop_zero]
          go_wp2_with (at_builtin; go_must (refine wpList_appx EHop rfl _ _ rfl y rfl (Ho.out.keep KV) (h3.trans KV) (by omega) (by omega) rfl rfl rfl rfl rfl (by omega) ?_); intro v' w3 hown' hK' hg; obtain ⟨A3, c3, rfl⟩ := hown'.form1; have B3 := BV.grown hg (Own.ne (Ho.out.keep KV) (by omega)); have cc3 : w3.cell? ⟨w.heap.size + 1, 0, none⟩ = some v := B3.cell 0; have zz := B3.frozen 0)
          exact fin.out w3 _ _ hown' hK' (fun b' hb' => (hg.block _ (by omega) (Own.ne (Ho.out.keep KV) hb')).trans (KV.heap (by omega)))
        · go_simp
          refine hK _ _ ?_
          clear hK K
          have xX : (V.alloc (.cells #[.int .u32 y.p.a, .int .i64 y.p.l, .bool y.d, .int .i64 y.f, .int .u32 y.x, .int .i64 y.m] 53)).cell? ⟨w.heap.size + 1, 0, none⟩ = some v := ((Kp.refl V).alloc _).cell xV
          refine wpAny_ready (rs := [0]) (by kernel_rfl) (by simp) ?_
          refine AllReady.cons rfl (fun K hK => ?_) AllReady.nil
          go_simp
          refine hK _ _ ?_
          clear hK K
          refine wpAny_rest 6 rfl (by kernel_rfl) ?_
          simp only [List.drop_succ_cons, List.drop_zero]
          go_wp2_with (at_builtin; go_must (refine wpList_appx EHop rfl _ _ rfl y rfl (Ho.out.keep KV) (h3.trans KV) (by omega) (by omega) rfl rfl rfl rfl rfl (by omega) ?_); intro v' w3 hown' hK' hg; obtain ⟨A3, c3, rfl⟩ := hown'.form1; have B3 := BV.grown hg (Own.ne (Ho.out.keep KV) (by omega)); have cc3 : w3.cell? ⟨w.heap.size + 1, 0, none⟩ = some v := B3.cell 0; have zz := B3.frozen 0)
          exact fin.out w3 _ _ hown' hK' (fun b' hb' => (hg.block _ (by omega) (Own.ne (Ho.out.keep KV) hb')).trans (KV.heap (by omega)))
  · rintro W ⟨v, h0, h1, h2, h3⟩ hd
    rw [List.take_length] at h2
    simp only [World.size_alloc] at hd
    have x0 : W.cell? ⟨w.heap.size + 1, 0, none⟩ = some v := h1.cell 0
    obtain ⟨A', c', rfl, hR'⟩ := h2.rd (by decide) Hp.len
    have H2 := Lib.hid h2
    have HR' := Lib.hid hR'
    clear h2 hR'
    go_wp2_with fail
    simp only [World.size_alloc]
    refine takes_one hd (fun W' hO => ?_)
    refine ⟨.slice A' (hopsOf H rs).length c', ?_, A', c', rfl, ?_, hO.kp h3 (by simp <;> omega), fun a ha => by have := H2.out.newA a ha; omega⟩
    · simp [results, Tryz.results48, go_sem]
    · exact HR'.out.only hO (fun a ha => by have := H2.out.newA a ha; simp; omega)

set_option maxRecDepth 100000 in
set_option maxHeartbeats 1000000 in
theorem fsort_any (f : Nat) (F : List Nat) (L : List Hp) (w : World) (hM : FM w f F L) :
    Calls Tryz.prog 31 #[.pointer (some ⟨f, 0, none⟩)] w (GatP w L) := by
  obtain ⟨tr, t, A, c, H, rfl, m, u, pm⟩ := hM
  have HL : Hid (hopsOf H t.rows = L) := Lib.hid (sorted_hops m.fi u pm)
  have hroom := m.room
  have hlen := m.fi.len
  have HP := Lib.hid (fun r hr => row_place m.fi (r := r) hr)
  have HM := Lib.hid m
  have hrl : t.rows.length ≤ 1000000 := by omega
  have f0 : w.cell? ⟨f, 0, none⟩ = some (.pointer (some ⟨tr, 0, none⟩)) := m.blk.cell 0
  have f1 : w.cell? ⟨f, 1, none⟩ = some (.slice A H.length c) := m.blk.cell 1
  clear m hlen
  go_enter Tryz.func31, Tryz.ntmps31
  go_wp2_with fail
  refine (fnone_any f tr _ _ HM.out.blk).mono ?_
  rintro e w' ⟨rfl, rfl⟩
  go_wp2_with fail
  go_region_held3 (fun w' => w'.cell? ⟨f, 0, none⟩ = some (.pointer (some ⟨tr, 0, none⟩)) ∧ w'.cell? ⟨f, 1, none⟩ = some (.slice A H.length c)) (first | exact ⟨Ka.cell f0, Ka.cell f1⟩ | exact ⟨(Ka.trans Kb).cell f0, (Ka.trans Kb).cell f1⟩ | go_keep) (first | (go_at_call 49; refine (ksort_any tr _ t _ HM.out.trie.blk.drew (HM.out.trie.tm.keep (Kp.refl w).drew) hrl).mono ?_; rintro e wa ⟨bx, A', c', rfl, hD, hKa, hb, hA'⟩; have Ka : Kp w wa := (Kp.refl w).drew.trans hKa; have HD := Lib.hid hD; clear hD hA') | (go_at_call 48; refine (gath_any bx A' c' t.rows A c H wa hrl HD.out ((HM.out.own.keep Ka).rdAt (by decide) Hp.len) hroom HP.out).mono ?_; rintro e wb ⟨A2, c2, rfl, hR2, Kb, hA2⟩; rw [HL.out] at hR2 ⊢; have HR2 := Lib.hid hR2; have HA2 := Lib.hid hA2; clear hR2 hA2))
  go_wp2_with fail
  go_ret
  exact ⟨A2, c2, rfl, HR2.out, Ka.trans Kb, fun a ha => by have := HA2.out a ha; have := Ka.size; omega⟩

theorem call_all1 (args : Array Value) (w : World) : (callFunc 32 args).run Tryz.prog w = .ok (.enter 32 args) w := by kernel_rfl
def allV (bx : Nat) : Value := .func (.func 32) #[] #[.pointer (some ⟨bx, 0, none⟩)]
/-- What All's iterator reads. -/
structure AllMem (bx : Nat) (A : Option Addr) (c : Nat) (l : List Hp) (W : World) : Prop where
  bx : Blk W bx 33 #[.slice A l.length c]
  rd : Rd W 6 Hp.enc A l
def AllP (w : World) (L : List Hp) (e : Ending) (w' : World) : Prop := ∃ bx A c, e = .returned (allV bx) ∧ AllMem bx A c L w' ∧ Kp w w' ∧ w.heap.size ≤ bx ∧ ∀ a, A = some a → w.heap.size ≤ a.block
set_option maxHeartbeats 400000 in
theorem all_any (f : Nat) (F : List Nat) (L : List Hp) (w : World) (hM : FM w f F L) :
    Calls Tryz.prog 10 #[.pointer (some ⟨f, 0, none⟩)] w (AllP w L) := by
  have hmf := makeFunc_run
  go_enter Tryz.func10, Tryz.ntmps10
  go_wp2_with fail
  refine (fsort_any f F L w hM).mono ?_
  rintro e w1 ⟨A, c, rfl, hR, hK, hA⟩
  have HR := Lib.hid hR
  have HA := Lib.hid hA
  clear hR hA
  go_wp2_with fail
  go_ret
  exact ⟨w1.heap.size, A, c, rfl, ⟨Blk.new w1 _ _, HR.out.keep ((Kp.refl _).alloc _)⟩, hK.alloc _, hK.size, HA.out⟩

def hopAt (l : List Hp) (k : Nat) : Hp := l.getD k hop0
theorem hopAt_eq {l : List Hp} {k : Nat} (h : k < l.length) : hopAt l k = l[k] := by simp [hopAt, List.getD, h]
set_option maxRecDepth 100000 in
set_option maxHeartbeats 1000000 in
theorem all1_iter (bx : Nat) (A : Option Addr) (c : Nat) (rs : List Hp) (hn : rs.length ≤ 1000000) :
    Iter Tryz.prog 32 #[.pointer (some ⟨bx, 0, none⟩)] rs.length (fun k => #[.int .i64 k, hopV (hopAt rs k)]) (AllMem bx A c rs) := by
  intro l I Z W hI hZ hM hy h0
  have HI := Lib.hid hI; clear hI
  have HZ := Lib.hid hZ; clear hZ
  have HM := Lib.hid hM; clear hM
  have HY := Lib.hid hy; clear hy
  obtain ⟨N, hN⟩ : ∃ N, rs.length = N := ⟨_, rfl⟩
  have HN := Lib.hid hN
  rw [hN] at HY hn ⊢
  clear hN
  have D0 := HM.out 0 W h0
  have c0 : W.cell? ⟨bx, 0, none⟩ = some (.slice A N c) := by have := D0.bx.cell 0; rw [HN.out] at this; exact this
  have H0 := Lib.hid h0; clear h0
  clear D0
  go_enter Tryz.func32, Tryz.ntmps32
  go_wp2_with fail
  refine wp_scope_fwd 0 rfl ?_
  go_wp2_with fail
  refine wp_label ?_
  go_wp2_with fail
  go_loopw [7] (fun i wr => ∃ k : Nat, k ≤ N ∧ i = .int .i64 k ∧ Hid (I k wr)) (fun i _ => N - (intOf i).toNat)
  case atStart => exact ⟨0, Nat.zero_le _, rfl, H0⟩
  case round =>
    obtain ⟨k, hk, rfl, hi⟩ := hrel
    have D := HM.out k wr hi.out
    by_cases hlt : k < N
    · obtain ⟨b, off, hA, x0, x1, x2, x3, x4, x5⟩ := hop_at D.rd (k := k) (by rw [HN.out]; omega)
      subst hA
      rw [← hopAt_eq (by rw [HN.out]; omega)] at x0 x1 x2 x3 x4 x5
      clear D c0
      have Hi2 : Hid (I k (wr.alloc (.cells #[.int .u32 (hopAt rs k).p.a, .int .i64 (hopAt rs k).p.l, .bool (hopAt rs k).d, .int .i64 (hopAt rs k).f, .int .u32 (hopAt rs k).x, .int .i64 (hopAt rs k).m] 53))) := Lib.hid (HI.out k _ _ hi.out ((Kp.refl _).alloc _))
      obtain ⟨fn, tmps, asg, bd, hrun, hround⟩ := HY.out k _ hlt Hi2.out
      obtain ⟨r, hr⟩ : ∃ r, hopAt rs k = r := ⟨_, rfl⟩
      rw [hr] at x0 x1 x2 x3 x4 x5 hrun hround Hi2
      have Hr := Lib.hid hr; clear hr
      unfold hopV at hrun
      go_upto_region 3 with (fail)
      refine (wpIn_wide (n := 0)).1 ?_
      gi_wp2_with fail
      refine ⟨rfl, hround.mono ?_⟩
      clear hrun hround
      rintro e W' (⟨rfl, hi2⟩ | ⟨rfl, hz⟩)
      · have Hi3 := Lib.hid hi2; clear hi2
        gi_wp2_with fail
        go_wp2_with fail
        go_roundw
        case rel => exact ⟨k + 1, by omega, by go_num, Hi3⟩
        case measure => simp [intOf]; omega
      · have Hz := Lib.hid hz; clear hz
        gi_wp2_with fail
        go_wp2_with fail
        refine jump_normal ?_
        go_end0
        exact ⟨rfl, .inr ⟨k + 1, by omega, by omega, Hz.out⟩⟩
    · obtain rfl : k = N := by omega
      go_wp2_with fail
      refine jump_normal ?_
      go_end0
      exact ⟨rfl, .inl hi.out⟩
end Go.Proofs.YtfaiponmjjbgoaaGreatDoor

/- Layer 13's rows: what is gone over is the list, as far as so many. -/
namespace Go.Proofs.YtfaiponmjjbgoaaGreatDoor
open Go.RowKit
attribute [local go_sem] Oper.semAt_some

/-- The boxes of rows: the wanted list, how many, the answer, the count. -/
structure RwB (w : World) (A : Option Addr) (c : Nat) (L : List Hp) (many : Int) (j : Int) (W : World) : Prop where
  kp : Kp w W
  wb : Blk W w.heap.size 33 #[.slice A L.length c]
  mb : Blk W (w.heap.size + 1) 3 #[.int .i64 many]
  rb : Blk W (w.heap.size + 1 + 1) 4 #[.bool false]
  nb : Blk W (w.heap.size + 1 + 1 + 1) 3 #[.int .i64 j]
theorem RwB.only {w : World} {A : Option Addr} {c : Nat} {L : List Hp} {many j : Int} {W W' : World} {bs : List Nat} (h : RwB w A c L many j W) (k : Only bs W W') (hb : ∀ b ∈ bs, w.heap.size + 1 + 1 + 1 + 1 ≤ b) : RwB w A c L many j W' := by
  have hn : ∀ g, g < w.heap.size + 1 + 1 + 1 + 1 → g ∉ bs := fun g hg hm => by have := hb g hm; omega
  exact ⟨k.kp h.kp (fun b hm => by have := hb b hm; omega), h.wb.only k (hn _ (by omega)), h.mb.only k (hn _ (by omega)), h.rb.only k (hn _ (by omega)), h.nb.only k (hn _ (by omega))⟩
def RwI (w : World) (A : Option Addr) (c : Nat) (L : List Hp) (many : Int) (k : Nat) (W : World) : Prop := RwB w A c L many k W ∧ (k = 0 ∨ (k : Int) < many)
def RwZ (w : World) (A : Option Addr) (c : Nat) (L : List Hp) (many : Int) (k : Nat) (W : World) : Prop := RwB w A c L many k W ∧ many ≤ k ∧ (k = 1 ∨ (k : Int) - 1 < many)
def RwS (w : World) (A : Option Addr) (c : Nat) (L : List Hp) (many : Int) (W : World) : Prop := RwB w A c L many (min (L.length : Int) (max 1 many)) W
/-- What holds between a round's assignment and its body. -/
structure RwJ (w : World) (A : Option Addr) (c : Nat) (L : List Hp) (many : Int) (k h : Nat) (y : Hp) (W : World) : Prop where
  b : RwB w A c L many k W
  hb : Blk W h 53 #[.int .u32 y.p.a, .int .i64 y.p.l, .bool y.d, .int .i64 y.f, .int .u32 y.x, .int .i64 y.m]

theorem func_nil (w : World) (f : Fn) (x y : Array Value) : (binOp .eql 41 (.func f x y) .nilFunc).run Tryz.prog w = .ok (.bool false) w := by kernel_rfl

set_option maxRecDepth 100000 in
set_option maxHeartbeats 4000000 in
theorem rows_any (bx : Nat) (A' : Option Addr) (c' : Nat) (A : Option Addr) (c : Nat) (L : List Hp) (many : Int) (w : World) (hM : AllMem bx A' c' L w) (hR : Rd w 6 Hp.enc A L) (hn : L.length ≤ 512) :
    Calls Tryz.prog 11 #[allV bx, .slice A L.length c, .int .i64 many] w fun e w' => e = .returned (.bool true) ∧ Kp w w' := by
  have HM := Lib.hid hM
  have HR := Lib.hid hR
  have Hit := Lib.hid (all1_iter bx A' c' L (by omega))
  have hfn := func_nil
  clear hM hR
  unfold allV
  refine calls_of_wp_marks Tryz.func11 rfl ?_; simp only [Tryz.ntmps11, List.size_toArray, List.length_cons, List.length_nil, Nat.reduceAdd, Nat.reduceSub, Array.replicate_succ, Array.replicate_zero, List.push_toArray, List.append_toArray, List.nil_append, List.cons_append]
  go_wp2_with fail
  obtain ⟨W0, hW0⟩ : ∃ W0, (((w.alloc (.cells #[.slice A L.length c] 33)).alloc (.cells #[.int .i64 many] 3)).alloc (.cells #[.bool false] 4)).alloc (.cells #[.int .i64 0] 3) = W0 := ⟨_, rfl⟩
  have hB0 : RwB w A c L many 0 W0 := by
    rw [← hW0]
    exact ⟨((((Kp.refl _).alloc _).alloc _).alloc _).alloc _, (((Blk.new w _ _).alloc _).alloc _).alloc _, ((Blk.new1 w _ _ _).alloc _).alloc _, (Blk.new2 w _ _ _ _).alloc _, Blk.new3 w _ _ _ _ _⟩
  have hs0 : W0.heap.size = w.heap.size + 1 + 1 + 1 + 1 := by rw [← hW0]; simp
  rw [hW0]
  clear hW0
  have Hs0 := Lib.hid hs0
  have HB0 := Lib.hid hB0
  clear hs0 hB0
  refine wp_range_join_a (N := L.length) rfl call_all1 Hit.out (fun _ _ => rfl) (RwI w A c L many) (RwZ w A c L many) (RwS w A c L many) ?_ ?_ ?_ ?_ ?_ ?_ ?_ ?_
  · rintro k W W' ⟨h1, h2⟩ hO
    exact ⟨h1.only hO (by simp [Hs0.out]), h2⟩
  · rintro k W W' ⟨h1, h2⟩ hO
    exact ⟨h1.only hO (by simp [Hs0.out]), h2⟩
  · rintro k W ⟨h1, _⟩
    exact ⟨HM.out.bx.keep h1.kp, HM.out.rd.keep h1.kp⟩
  · exact ⟨HB0.out, .inl rfl⟩
  · rintro W ⟨h1, h2⟩
    have e : (L.length : Int) = min (L.length : Int) (max 1 many) := by omega
    unfold RwS
    rw [← e]
    exact h1
  · rintro k W hk0 hkN ⟨h1, h2, h3⟩
    have e : (k : Int) = min (L.length : Int) (max 1 many) := by omega
    unfold RwS
    rw [← e]
    exact h1
  · rintro l k W hk ⟨hB, hkm⟩ hsz
    rw [hopAt_eq hk]
    obtain ⟨y, hy⟩ : ∃ y, L[k] = y := ⟨_, rfl⟩
    rw [hy]
    have Hy := Lib.hid hy; clear hy
    have Hkm := Lib.hid hkm; clear hkm
    have hw4 := Hs0.out
    have hJ : RwJ w A c L many k W.heap.size y (W.alloc (.cells #[.int .u32 y.p.a, .int .i64 y.p.l, .bool y.d, .int .i64 y.f, .int .u32 y.x, .int .i64 y.m] 53)) := ⟨hB.only (bs := []) (Only.of_kp ((Kp.refl _).alloc _)) (by simp), Blk.new W _ _⟩
    have HJ := Lib.hid hJ; clear hJ
    have Hsz := Lib.hid hsz
    have HwW := Lib.hid (show w.heap.size + 1 + 1 + 1 + 1 + 1 < W.heap.size by omega)
    clear hsz hw4
    unfold hopV
    gi_wp2_with fail
    refine ⟨⟨Below.heap_alloc W _ _ (by have := Hsz.out; omega), Below.heap_alloc W _ _ (by have := Hsz.out; omega)⟩, RwJ w A c L many k W.heap.size y, HJ.out, ?_, ?_⟩
    · rintro V V' ⟨j1, j2⟩ hO
      have := Hsz.out
      exact ⟨j1.only hO (by simp [Hs0.out]), j2.only hO (by simp; omega)⟩
    rintro U ⟨j1, j2⟩ hU
    have HU := Lib.hid hU; clear hU
    have hRU := Lib.hid (HR.out.keep j1.kp)
    obtain ⟨b, off, hA, g0, g1, g2, g3, g4, g5⟩ := hop_at hRU.out hk
    subst hA
    rw [Hy.out] at g0 g1 g2 g3 g4 g5
    have HJ1 := Lib.hid j1
    have HJ2 := Lib.hid j2
    clear j1 j2
    have n0 : U.cell? ⟨w.heap.size + 1 + 1 + 1, 0, none⟩ = some (.int .i64 k) := HJ1.out.nb.cell 0
    have m0 : U.cell? ⟨w.heap.size + 1, 0, none⟩ = some (.int .i64 many) := HJ1.out.mb.cell 0
    have l0 : U.cell? ⟨w.heap.size, 0, none⟩ = some (.slice (some ⟨b, off, none⟩) L.length c) := HJ1.out.wb.cell 0
    have zn := HJ1.out.nb.frozen 0
    have y0 : U.cell? ⟨W.heap.size, 0, none⟩ = some (.int .u32 y.p.a) := HJ2.out.cell 0
    have y1 : U.cell? ⟨W.heap.size, 1, none⟩ = some (.int .i64 y.p.l) := HJ2.out.cell 1
    have y2 : U.cell? ⟨W.heap.size, 2, none⟩ = some (.bool y.d) := HJ2.out.cell 2
    have y3 : U.cell? ⟨W.heap.size, 3, none⟩ = some (.int .i64 y.f) := HJ2.out.cell 3
    have y4 : U.cell? ⟨W.heap.size, 4, none⟩ = some (.int .u32 y.x) := HJ2.out.cell 4
    have y5 : U.cell? ⟨W.heap.size, 5, none⟩ = some (.int .i64 y.m) := HJ2.out.cell 5
    have hne : ∀ w, (binOp .neq 53 (.agg #[.int .u32 y.p.a, .int .i64 y.p.l, .bool y.d, .int .i64 y.f, .int .u32 y.x, .int .i64 y.m]) (.agg #[.int .u32 y.p.a, .int .i64 y.p.l, .bool y.d, .int .i64 y.f, .int .u32 y.x, .int .i64 y.m])).run Tryz.prog w = .ok (.bool false) w := fun w => by
      have := hopV_ne w y y
      unfold hopV at this
      simpa using this
    have hnl : decide ((L.length : Int) ≤ k) = false := by simp; omega
    have hnl2 : decide (L.length ≤ k) = false := by simp; omega
    gi_wp2_with fail
    refine round_tail 16 (by kernel_rfl) (by kernel_rfl) (by kernel_rfl) (no_out (no_out (no_out_block no_out_round))) (fun V hV => ?_)
    have KV : Kp U V := by rw [hV]; exact (Kp.refl _).drew
    clear hV
    have hRV : Hid (RwB w (some ⟨b, off, none⟩) c L many k V) := Lib.hid (HJ1.out.only (bs := []) (Only.of_kp KV) (by simp))
    have V0 := KV.cell g0
    have V1 := KV.cell g1
    have V2 := KV.cell g2
    have V3 := KV.cell g3
    have V4 := KV.cell g4
    have V5 := KV.cell g5
    have Vn := KV.cell n0
    have Vm := KV.cell m0
    have Vl := KV.cell l0
    have Y0 := KV.cell y0
    have Y1 := KV.cell y1
    have Y2 := KV.cell y2
    have Y3 := KV.cell y3
    have Y4 := KV.cell y4
    have Y5 := KV.cell y5
    have zV := hRV.out.nb.frozen 0
    clear g0 g1 g2 g3 g4 g5 n0 m0 l0 y0 y1 y2 y3 y4 y5 zn HJ2
    simp only [List.take_succ_cons, List.take_zero, List.drop_succ_cons, List.drop_zero]
    repeat still_step
    refine wpStill_nil ?_
    have hkB : (k : Int) + 1 = ((k + 1 : Nat) : Int) := by omega
    have HkB := Lib.hid hkB; clear hkB
    have hB1 : RwB w (some ⟨b, off, none⟩) c L many ((k : Int) + 1) (V.setCell ⟨w.heap.size + 1 + 1 + 1, 0, none⟩ (.int .i64 ((k : Int) + 1))) :=
      ⟨hRV.out.kp.setCell (by simp <;> omega) _, hRV.out.wb.far (by simp <;> omega) _, hRV.out.mb.far (by simp) _, hRV.out.rb.far (by simp) _, hRV.out.nb.set_ 0 _⟩
    have hkp : Kept2 W0 U (V.setCell ⟨w.heap.size + 1 + 1 + 1, 0, none⟩ (.int .i64 ((k : Int) + 1))) := by
      have h1 := Hs0.out
      have h2 := HU.out
      exact ⟨(Below.heap_setCell _ _ _ _ (by simp; omega)).trans (KV.heap (by omega)), (Below.heap_setCell _ _ _ _ (by simp; omega)).trans (KV.heap (by omega))⟩
    have HB1 := Lib.hid hB1
    have HKp := Lib.hid hkp
    clear hB1 hkp V0 V1 V2 V3 V4 V5 Vl Y0 Y1 Y2 Y3 Y4 Y5 hne
    by_cases hm : many ≤ (k : Int) + 1
    · have hd : decide (many ≤ (k : Int) + 1) = true := by simpa using hm
      go_wp2_with fail
      gi_wp2_with fail
      refine ⟨HKp.out, rfl, ?_, ?_, ?_⟩
      · rw [← HkB.out]; exact HB1.out
      · omega
      · have := Hkm.out; omega
    · have hd : decide (many ≤ (k : Int) + 1) = false := by simpa using hm
      go_wp2_with fail
      gi_wp2_with fail
      refine ⟨HKp.out, ?_, ?_⟩
      · rw [← HkB.out]; exact HB1.out
      · right; omega
  · rintro W hS hd
    unfold RwS at hS
    obtain ⟨j, hj⟩ : ∃ j, min (L.length : Int) (max 1 many) = j := ⟨_, rfl⟩
    rw [hj] at hS
    have Hj := Lib.hid hj; clear hj
    have HS := Lib.hid hS
    have n0 : W.cell? ⟨w.heap.size + 1 + 1 + 1, 0, none⟩ = some (.int .i64 j) := hS.nb.cell 0
    have m0 : W.cell? ⟨w.heap.size + 1, 0, none⟩ = some (.int .i64 many) := hS.mb.cell 0
    have l0 : W.cell? ⟨w.heap.size, 0, none⟩ = some (.slice A L.length c) := hS.wb.cell 0
    have r0 : W.cell? ⟨w.heap.size + 1 + 1, 0, none⟩ = some (.bool false) := hS.rb.cell 0
    have z0 := hS.rb.frozen 0
    clear hS
    have hW0 := Hs0.out
    have R1 := HS.out.rb.set_ 0 (.bool true)
    have k1 : Kp w (W.setCell ⟨w.heap.size + 1 + 1, 0, none⟩ (.bool true)) := HS.out.kp.setCell (by simp <;> omega) _
    have hd1 : (W.setCell ⟨w.heap.size + 1 + 1, 0, none⟩ (.bool true)).heap[W0.heap.size]? = some (.deferred (some [])) := (Below.heap_setCell _ _ _ _ (by simp; omega)).trans hd
    have HR1 := Lib.hid R1
    have Hd1 := Lib.hid hd1
    have HK1 := Lib.hid k1
    have HW0 := Lib.hid hW0
    clear hd hd1 R1 k1 hW0
    go_wp2_with fail
    all_goals
      first
        | rw [show (j == (L.length : Int)) = true by (have := Hj.out; simp; omega)]
        | rw [show (j == (1 : Int)) = true by (have := Hj.out; simp; omega)]
        | rw [show (j == many) = true by (have := Hj.out; simp; omega)]
      refine takes_one Hd1.out (fun W' hO => ?_)
      have hne : w.heap.size + 1 + 1 ∉ [W0.heap.size] := by have := HW0.out; simp; omega
      have d0 : W'.cell? ⟨w.heap.size + 1 + 1, 0, none⟩ = some (.bool true) := (HR1.out.only hO hne).cell 0
      refine ⟨.bool true, by simp [results, Tryz.results11, go_sem, d0], rfl, hO.kp HK1.out (by have := HW0.out; simp; omega)⟩
end Go.Proofs.YtfaiponmjjbgoaaGreatDoor
