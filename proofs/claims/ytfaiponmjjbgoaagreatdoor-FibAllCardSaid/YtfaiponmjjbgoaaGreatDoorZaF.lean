/- Proved here: THE TIED CARD of FibAll of the package waywardenlaw13: for every input the law returns true, and each argument reads behind the call as it read before (Rows.FibAllCardSaid). Conditions: the variable prefix.rels starts as the program's text lays it, which the card ties. -/
import Derived.Test.YtfaiponmjjbgoaaGreatDoorZaE
import Derived.ChangeArms
import Derived.Test.YtfaiponmjjbgoaaGreatDoorRows
import Derived.ProofKit
import Derived.LaidMore
import Derived.OpenShut
import Derived.Stop.Joined
import Derived.Test.YtfaiponmjjbgoaaGreatDoorTie
import Derived.Test.YtfaiponmjjbgoaaGreatDoorCards
import Derived.SevenTiedAt
/- The reference's One: a route comes to a list of hops. -/
namespace Go.Proofs.YtfaiponmjjbgoaaGreatDoor
open Go.RowKit

theorem insStep_len (h : Hp) (s : List Hp × Bool) (e : Hp) : (insStep h s e).1.length ≤ s.1.length + 2 := by
  unfold insStep
  simp only
  split <;> split <;> simp
theorem insFold_len (h : Hp) : ∀ (l : List Hp) (s : List Hp × Bool), (l.foldl (insStep h) s).1.length ≤ s.1.length + 2 * l.length
  | [], s => by simp
  | e :: l, s => by
    have h1 := insFold_len h l (insStep h s e)
    have h2 := insStep_len h s e
    simp only [List.foldl_cons, List.length_cons]
    omega
def insAt (h : Hp) (b0 : Bool) (L : List Hp) (k : Nat) : List Hp × Bool := (L.take k).foldl (insStep h) ([], b0)
theorem insAt_zero (h : Hp) (b0 : Bool) (L : List Hp) : insAt h b0 L 0 = ([], b0) := by simp [insAt]
theorem insAt_succ {h : Hp} {b0 : Bool} {L : List Hp} {k : Nat} (hk : k < L.length) : insAt h b0 L (k + 1) = insStep h (insAt h b0 L k) L[k] := by
  unfold insAt
  have e : L.take k ++ [L[k]] = L.take (k + 1) := by simp
  rw [← e, List.foldl_append]
  rfl
theorem insAt_len (h : Hp) (b0 : Bool) (L : List Hp) (k : Nat) : (insAt h b0 L k).1.length ≤ 2 * k := by
  have := insFold_len h (L.take k) ([], b0)
  unfold insAt
  simp only [List.length_nil, List.length_take] at this
  omega
theorem insAt_true {h : Hp} {b0 : Bool} {L : List Hp} {k : Nat} (e : (insAt h b0 L k).2 = true) : b0 = true := by
  cases b0 with
  | true => rfl
  | false => unfold insAt at e; rw [insStep_false] at e; exact e
theorem Own.len1 {α : Type} {w : World} {base e sz c : Nat} {enc : α → List Value} {A : Option Addr} {xs : List α} {y : α} (h : Own w base e sz enc (.slice A (xs.length + 1) c) (xs ++ [y])) : Own w base e sz enc (.slice A (xs ++ [y]).length c) (xs ++ [y]) := by
  have e : (xs ++ [y]).length = xs.length + 1 := by simp
  rw [e]; exact h
theorem insAt_all (h : Hp) (b0 : Bool) (L : List Hp) : insAt h b0 L L.length = L.foldl (insStep h) ([], b0) := by unfold insAt; rw [List.take_length]

def OneP (w : World) (A0 : Option Addr) (l : List Hp) (n : Int) (e : Ending) (w' : World) : Prop := ∃ A c, e = .returned (.tuple #[.agg #[.slice A l.length c], .int .i64 n]) ∧ Rd w' 6 Hp.enc A l ∧ Kp w w' ∧ (A = A0 ∨ ∀ a, A = some a → w.heap.size ≤ a.block ∧ a.block < w'.heap.size)

set_option maxRecDepth 100000 in
set_option maxHeartbeats 1000000 in
theorem one_bad (A : Option Addr) (c : Nat) (L : List Hp) (r : Rt) (w : World) (hR : Rd w 6 Hp.enc A L) (ha : r.p.a < 4294967296) (hx : r.x < 4294967296) (hr : rightB r = false) :
    Calls Tryz.prog 9 #[.agg #[.slice A L.length c], .agg #[.int .u32 r.p.a, .int .i64 r.p.l, .int .i64 r.s, .int .i64 r.m, .int .i64 r.l, .int .i64 r.f, .int .u32 r.x, .int .i64 r.d, .bool r.c]] w (OneP w A L 2) := by
  obtain ⟨W, hW, kW, B0, B2, B1⟩ : ∃ W, ((w.alloc (.cells #[.slice A L.length c] 35)).alloc (.cells #[.int .u32 r.p.a, .int .i64 r.p.l, .int .i64 r.s, .int .i64 r.m, .int .i64 r.l, .int .i64 r.f, .int .u32 r.x, .int .i64 r.d, .bool r.c] 29)).alloc (.cells #[.slice none 0 0] 35) = W ∧ Kp w W ∧ Blk W w.heap.size 35 #[.slice A L.length c] ∧ Blk W (w.heap.size + 1 + 1) 35 #[.slice none 0 0] ∧ Blk W (w.heap.size + 1) 29 #[.int .u32 r.p.a, .int .i64 r.p.l, .int .i64 r.s, .int .i64 r.m, .int .i64 r.l, .int .i64 r.f, .int .u32 r.x, .int .i64 r.d, .bool r.c] :=
    ⟨_, rfl, (((Kp.refl _).alloc _).alloc _).alloc _, ((Blk.new w _ _).alloc _).alloc _, Blk.new2 w _ _ _ _, (Blk.new1 w _ _ _).alloc _⟩
  have y0 : W.cell? ⟨w.heap.size + 1, 0, none⟩ = some (.int .u32 r.p.a) := B1.cell 0
  have y1 : W.cell? ⟨w.heap.size + 1, 1, none⟩ = some (.int .i64 r.p.l) := B1.cell 1
  have y2 : W.cell? ⟨w.heap.size + 1, 2, none⟩ = some (.int .i64 r.s) := B1.cell 2
  have y3 : W.cell? ⟨w.heap.size + 1, 3, none⟩ = some (.int .i64 r.m) := B1.cell 3
  have y4 : W.cell? ⟨w.heap.size + 1, 4, none⟩ = some (.int .i64 r.l) := B1.cell 4
  have y5 : W.cell? ⟨w.heap.size + 1, 5, none⟩ = some (.int .i64 r.f) := B1.cell 5
  have y6 : W.cell? ⟨w.heap.size + 1, 6, none⟩ = some (.int .u32 r.x) := B1.cell 6
  have y7 : W.cell? ⟨w.heap.size + 1, 7, none⟩ = some (.int .i64 r.d) := B1.cell 7
  have y8 : W.cell? ⟨w.heap.size + 1, 8, none⟩ = some (.bool r.c) := B1.cell 8
  have HR := Lib.hid hR
  have Hr := Lib.hid hr
  clear hR hr
  go_enter Tryz.func9, Tryz.ntmps9
  go_wp2_with fail
  refine (right_any r _ ha hx).mono ?_
  rintro e w1 ⟨rfl, hK⟩
  rw [Hr.out]
  have D0 := B0.keep hK
  have D2 := B2.keep hK
  have f0 : w1.cell? ⟨w.heap.size, 0, none⟩ = some (.slice A L.length c) := D0.cell 0
  have r0 : w1.cell? ⟨w.heap.size + 1 + 1, 0, none⟩ = some (.slice none 0 0) := D2.cell 0
  have z0 := D2.frozen 0
  have kz := kW.trans hK
  clear hW
  go_wp2_with fail
  have R1 := D2.set_ 0 (.slice A L.length c)
  have k2 : Kp w (w1.setCell ⟨w.heap.size + 1 + 1, 0, none⟩ (.slice A L.length c)) := kz.setCell (by simp <;> omega) _
  generalize w1.setCell ⟨w.heap.size + 1 + 1, 0, none⟩ (.slice A L.length c) = Z at R1 k2 ⊢
  have d0 : Z.cell? ⟨w.heap.size + 1 + 1, 0, none⟩ = some (.slice A L.length c) := R1.cell 0
  exact bodyPost_ret (v := .tuple #[.agg #[.slice A L.length c], .int .i64 2]) (by simp [results, Tryz.results9, go_sem, d0]) rfl ⟨A, c, rfl, HR.out.keep k2, k2, .inl rfl⟩

/-- What the loop of One finds. -/
structure OneI (w W0 : World) (A : Option Addr) (c : Nat) (L : List Hp) (q : Pn) (hb rb : Nat) (hh : Hp) : Prop where
  kp : Kp w W0
  fb : Blk W0 w.heap.size 35 #[.slice A L.length c]
  pa : W0.cell? ⟨w.heap.size + 1, 0, none⟩ = some (.int .u32 q.a)
  pl : W0.cell? ⟨w.heap.size + 1, 1, none⟩ = some (.int .i64 q.l)
  rb : Blk W0 (w.heap.size + 1 + 1) 35 #[.slice none 0 0]
  hb : Blk W0 hb 53 #[.int .u32 hh.p.a, .int .i64 hh.p.l, .bool hh.d, .int .i64 hh.f, .int .u32 hh.x, .int .i64 hh.m]
  rd : Rd W0 6 Hp.enc A L

set_option maxRecDepth 100000 in
set_option maxHeartbeats 8000000 in
theorem one_right (A : Option Addr) (c : Nat) (L : List Hp) (q : Pn) (s m l fc : Int) (x : Nat) (d : Int) (ch : Bool) (w : World) (hR : Rd w 6 Hp.enc A L) (hn : L.length ≤ 512) (hq : q.ok) (hx : x < 4294967296) (hu : Up L) (hc : checkR ⟨q.pi, s, m, l, fc, x, d, ch⟩ = 0) :
    Calls Tryz.prog 9 #[.agg #[.slice A L.length c], .agg (rtC q s m l fc x d ch)] w (OneP w A (comeL ⟨q.pi, s, m, l, fc, x, d, ch⟩ L) (comeE ⟨q.pi, s, m, l, fc, x, d, ch⟩ L)) := by
  obtain ⟨r, hr⟩ : ∃ r : Rt, r = ⟨q.pi, s, m, l, fc, x, d, ch⟩ := ⟨_, rfl⟩
  rw [← hr] at hc ⊢
  have hpn : r.p.pn = q := by rw [hr]; simp [Pn.pi, PI.pn]
  have hrr : rightB r = true := by
    cases h : rightB r with
    | true => rfl
    | false => rw [check_right, h] at hc; simp at hc
  -- the plain law
  obtain ⟨b0, hb0⟩ : ∃ b0 : Bool, decide (s = 1 ∨ s = 2) = b0 := ⟨_, rfl⟩
  have hsr : r.s = s := by rw [hr]
  have Hh : Hid ((rhop q s m fc x).2 = b0 ∧ (b0 = true → (rhop q s m fc x).1 = r.hop) ∧ r.hop.p = q) := by
    refine ⟨?_, ?_, by simp [Rt.hop, hpn]⟩
    · by_cases h12 : s = 1 ∨ s = 2
      · have := rhop_right hc (by rw [hsr]; exact h12)
        rw [hr] at this
        have e : (⟨q.pi, s, m, l, fc, x, d, ch⟩ : Rt).p.pn = q := by simp [Pn.pi, PI.pn]
        simp only [e] at this
        rw [this, ← hb0]; simp [h12]
      · rw [rhop_gone h12, ← hb0]; simp [h12]
    · intro hb
      rw [← hb0] at hb
      have h12 := of_decide_eq_true hb
      have := rhop_right hc (by rw [hsr]; exact h12)
      rw [hpn] at this
      have e2 : rhop q s m fc x = rhop q r.s r.m r.f r.x := by rw [hr]
      rw [e2, this]
  have Hlong : Hid ((b0 && !hasP q L && decide (512 ≤ L.length)) = true → comeL r L = L ∧ comeE r L = 3) := by
    intro h
    simp only [Bool.and_eq_true, Bool.not_eq_true', decide_eq_true_eq] at h
    obtain ⟨⟨h1, h2⟩, h3⟩ := h
    rw [← hb0] at h1
    have h12 := of_decide_eq_true h1
    rw [← hsr] at h12
    have e1 : r.hop.p = q := by simp [Rt.hop, hpn]
    have e2 : (hasP r.hop.p L || decide (L.length < 512)) = false := by rw [e1, h2]; simp; omega
    exact ⟨by simp only [comeL, hc, h12, if_true, putL, e2]; simp, by simp only [comeE, hc, h12, if_true, putE, e2]; simp⟩
  have Hok : Hid ((b0 && !hasP q L && decide (512 ≤ L.length)) = false → comeL r L = insEnd r.hop (insAt r.hop b0 L L.length) ∧ comeE r L = 0) := by
    intro h
    rw [insAt_all]
    by_cases h12 : s = 1 ∨ s = 2
    · have hb : b0 = true := by rw [← hb0]; simp [h12]
      subst hb
      rw [insStep_true L [] hu]
      have e1 : r.hop.p = q := by simp [Rt.hop, hpn]
      have e2 : (hasP r.hop.p L || decide (L.length < 512)) = true := by
        rw [e1]
        cases h5 : hasP q L with
        | true => simp
        | false => rw [h5] at h; simp at h; simp; omega
      rw [← hsr] at h12
      exact ⟨by simp only [comeL, hc, h12, if_true, putL, e2]; simp, by simp only [comeE, hc, h12, if_true, putE, e2]⟩
    · have hb : b0 = false := by rw [← hb0]; simp [h12]
      subst hb
      rw [insStep_gone]
      have e1 : r.hop.p = q := by simp [Rt.hop, hpn]
      rw [← hsr] at h12
      exact ⟨by simp only [comeL, hc, h12, if_true, if_false, e1, hpn]; simp, by simp only [comeE, hc, h12, if_true, if_false]⟩
  have HR := Lib.hid hR
  have Hright := Lib.hid (fun w => right_any r w (by rw [hr]; exact hq.1) (by rw [hr]; exact hx))
  rw [hrr, hr] at Hright
  have Hget := Lib.hid (fun w hR => rget_any A c L q.pi w hR (by omega))
  obtain ⟨gt, hgt⟩ : ∃ gt, getI q.pi L = gt := ⟨_, rfl⟩
  have Hgh : Hid (gt.2 = hasP q L) := by rw [← hgt]; exact Lib.hid getI_has
  rw [hgt] at Hget
  obtain ⟨hp, hhp⟩ : ∃ hp, hasP q L = hp := ⟨_, rfl⟩
  rw [hhp] at Hgh Hlong Hok
  obtain ⟨ph, hph⟩ : ∃ ph, rhop q s m fc x = ph := ⟨_, rfl⟩
  have Hhop := Lib.hid (fun w => rhop_any q s m l fc x d ch w)
  rw [hph] at Hh Hhop
  obtain ⟨CL, hCL⟩ : ∃ CL, comeL r L = CL := ⟨_, rfl⟩
  obtain ⟨CE, hCE⟩ : ∃ CE, comeE r L = CE := ⟨_, rfl⟩
  rw [hCL, hCE] at Hlong Hok ⊢
  obtain ⟨rh, hrh⟩ : ∃ rh, r.hop = rh := ⟨_, rfl⟩
  rw [hrh] at Hh Hok
  clear hR hgt hhp hph hCL hCE hrh hr hc hpn hrr hsr hb0
  unfold rtC at Hhop ⊢
  obtain ⟨W, hW, kW, B0, B1, B2⟩ : ∃ W, ((w.alloc (.cells #[.slice A L.length c] 35)).alloc (.cells #[.int .u32 q.a, .int .i64 q.l, .int .i64 s, .int .i64 m, .int .i64 l, .int .i64 fc, .int .u32 x, .int .i64 d, .bool ch] 29)).alloc (.cells #[.slice none 0 0] 35) = W ∧ Kp w W ∧ Blk W w.heap.size 35 #[.slice A L.length c] ∧ Blk W (w.heap.size + 1) 29 #[.int .u32 q.a, .int .i64 q.l, .int .i64 s, .int .i64 m, .int .i64 l, .int .i64 fc, .int .u32 x, .int .i64 d, .bool ch] ∧ Blk W (w.heap.size + 1 + 1) 35 #[.slice none 0 0] :=
    ⟨_, rfl, (((Kp.refl _).alloc _).alloc _).alloc _, ((Blk.new w _ _).alloc _).alloc _, (Blk.new1 w _ _ _).alloc _, Blk.new2 w _ _ _ _⟩
  obtain ⟨hh, b1⟩ := ph
  obtain ⟨gh, gb⟩ := gt
  simp only at Hh Hgh
  obtain rfl : b1 = b0 := Hh.out.1
  obtain rfl : gb = hp := Hgh.out
  have Hhh := Lib.hid Hh.out.2.1
  have Hhq := Lib.hid Hh.out.2.2
  clear Hh Hgh
  have y0 : W.cell? ⟨w.heap.size + 1, 0, none⟩ = some (.int .u32 q.a) := B1.cell 0
  have y1 : W.cell? ⟨w.heap.size + 1, 1, none⟩ = some (.int .i64 q.l) := B1.cell 1
  have y2 : W.cell? ⟨w.heap.size + 1, 2, none⟩ = some (.int .i64 s) := B1.cell 2
  have y3 : W.cell? ⟨w.heap.size + 1, 3, none⟩ = some (.int .i64 m) := B1.cell 3
  have y4 : W.cell? ⟨w.heap.size + 1, 4, none⟩ = some (.int .i64 l) := B1.cell 4
  have y5 : W.cell? ⟨w.heap.size + 1, 5, none⟩ = some (.int .i64 fc) := B1.cell 5
  have y6 : W.cell? ⟨w.heap.size + 1, 6, none⟩ = some (.int .u32 x) := B1.cell 6
  have y7 : W.cell? ⟨w.heap.size + 1, 7, none⟩ = some (.int .i64 d) := B1.cell 7
  have y8 : W.cell? ⟨w.heap.size + 1, 8, none⟩ = some (.bool ch) := B1.cell 8
  go_enter Tryz.func9, Tryz.ntmps9
  go_wp2_with fail
  refine (Hright.out _).mono ?_
  rintro e w1 ⟨rfl, hK1⟩
  have D1 := B1.keep hK1
  clear y0 y1 y2 y3 y4 y5 y6 y7 y8
  have x0 : w1.cell? ⟨w.heap.size + 1, 0, none⟩ = some (.int .u32 q.a) := D1.cell 0
  have x1 : w1.cell? ⟨w.heap.size + 1, 1, none⟩ = some (.int .i64 q.l) := D1.cell 1
  have x2 : w1.cell? ⟨w.heap.size + 1, 2, none⟩ = some (.int .i64 s) := D1.cell 2
  have x3 : w1.cell? ⟨w.heap.size + 1, 3, none⟩ = some (.int .i64 m) := D1.cell 3
  have x4 : w1.cell? ⟨w.heap.size + 1, 4, none⟩ = some (.int .i64 l) := D1.cell 4
  have x5 : w1.cell? ⟨w.heap.size + 1, 5, none⟩ = some (.int .i64 fc) := D1.cell 5
  have x6 : w1.cell? ⟨w.heap.size + 1, 6, none⟩ = some (.int .u32 x) := D1.cell 6
  have x7 : w1.cell? ⟨w.heap.size + 1, 7, none⟩ = some (.int .i64 d) := D1.cell 7
  have x8 : w1.cell? ⟨w.heap.size + 1, 8, none⟩ = some (.bool ch) := D1.cell 8
  clear hW
  go_wp2_with fail
  refine (Hhop.out _).mono ?_
  rintro e w2 ⟨rfl, hK2⟩
  have E1 := D1.keep hK2
  obtain ⟨V2, hV2, kV2, HB⟩ : ∃ V2, w2.alloc (.cells #[.int .u32 hh.p.a, .int .i64 hh.p.l, .bool hh.d, .int .i64 hh.f, .int .u32 hh.x, .int .i64 hh.m] 53) = V2 ∧ Kp w2 V2 ∧ Blk V2 w2.heap.size 53 #[.int .u32 hh.p.a, .int .i64 hh.p.l, .bool hh.d, .int .i64 hh.f, .int .u32 hh.x, .int .i64 hh.m] := ⟨_, rfl, (Kp.refl _).alloc _, Blk.new w2 _ _⟩
  clear x0 x1 x2 x3 x4 x5 x6 x7 x8
  have kV := ((kW.trans hK1).trans hK2).trans kV2
  have f0 : V2.cell? ⟨w.heap.size, 0, none⟩ = some (.slice A L.length c) := (((B0.keep hK1).keep hK2).keep kV2).cell 0
  have x0 : V2.cell? ⟨w.heap.size + 1, 0, none⟩ = some (.int .u32 q.a) := (E1.keep kV2).cell 0
  have x1 : V2.cell? ⟨w.heap.size + 1, 1, none⟩ = some (.int .i64 q.l) := (E1.keep kV2).cell 1
  unfold hopV
  go_wp2_with fail
  refine (Hget.out _ (HR.out.keep kV)).mono ?_
  rintro e w3 ⟨rfl, hK3⟩
  have kW0 := kV.trans hK3
  obtain ⟨W0, hW0, kX, I0⟩ : ∃ W0, w3.alloc (.cells #[.int .u32 gh.p.a, .int .i64 gh.p.l, .bool gh.d, .int .i64 gh.f, .int .u32 gh.x, .int .i64 gh.m] 53) = W0 ∧ Kp w3 W0 ∧ OneI w W0 A c L q w2.heap.size (w.heap.size + 1 + 1) hh := by
    refine ⟨_, rfl, (Kp.refl _).alloc _, ?_⟩
    have kk : Kp w2 (w3.alloc (.cells #[.int .u32 gh.p.a, .int .i64 gh.p.l, .bool gh.d, .int .i64 gh.f, .int .u32 gh.x, .int .i64 gh.m] 53)) := (kV2.trans hK3).alloc _
    exact ⟨kW0.alloc _, ((B0.keep hK1).keep hK2).keep kk, (E1.keep kk).cell 0, (E1.keep kk).cell 1, ((B2.keep hK1).keep hK2).keep kk, (HB.keep hK3).alloc _, HR.out.keep (kW0.alloc _)⟩
  clear f0 x0 x1 hV2 HB E1 D1 B0 B1 B2 hK3 kX kV kV2 hK2 hK1 kW
  have f0 : W0.cell? ⟨w.heap.size, 0, none⟩ = some (.slice A L.length c) := I0.fb.cell 0
  have r0 : W0.cell? ⟨w.heap.size + 1 + 1, 0, none⟩ = some (.slice none 0 0) := I0.rb.cell 0
  have z0 := I0.rb.frozen 0
  have HI := Lib.hid I0
  clear I0
  unfold hopV
  by_cases hlong : (b1 && !gb && decide (512 ≤ L.length)) = true
  · obtain ⟨rfl, rfl⟩ := Hlong.out hlong
    simp only [Bool.and_eq_true, Bool.not_eq_true', decide_eq_true_eq] at hlong
    obtain ⟨⟨rfl, rfl⟩, hl⟩ := hlong
    have hd : decide ((512 : Int) ≤ CL.length) = true := by simp; omega
    clear hl Hlong Hok
    go_wp2_with fail
    have R1 := HI.out.rb.set_ 0 (.slice A CL.length c)
    have k2 : Kp w (W0.setCell ⟨w.heap.size + 1 + 1, 0, none⟩ (.slice A CL.length c)) := HI.out.kp.setCell (by simp <;> omega) _
    generalize W0.setCell ⟨w.heap.size + 1 + 1, 0, none⟩ (.slice A CL.length c) = Z at R1 k2 ⊢
    have d0 : Z.cell? ⟨w.heap.size + 1 + 1, 0, none⟩ = some (.slice A CL.length c) := R1.cell 0
    exact bodyPost_ret (v := .tuple #[.agg #[.slice A CL.length c], .int .i64 3]) (by simp [results, Tryz.results9, go_sem, d0]) rfl ⟨A, c, rfl, HR.out.keep k2, k2, .inl rfl⟩
  have hlf : (b1 && !gb && decide (512 ≤ L.length)) = false := by
    cases h : (b1 && !gb && decide (512 ≤ L.length)) with
    | false => rfl
    | true => exact absurd h hlong
  obtain ⟨hCL, hCE⟩ := Hok.out hlf
  subst hCE
  have HCL := Lib.hid hCL
  clear hlong hCL Hlong Hok
  go_upto_region 5 with (fail)
  go_cut [38] from 28 to 38 (fun s wx => s = .bool false ∧ W0 = wx)
  case first =>
    cases b1 with
    | false =>
      go_wp2_with fail
      go_meet
      case rel => exact ⟨rfl, rfl⟩
    | true =>
      cases gb with
      | true =>
        go_wp2_with fail
        go_meet
        case rel => exact ⟨rfl, rfl⟩
      | false =>
        have hd : decide ((512 : Int) ≤ L.length) = false := by simp at hlf; simp; omega
        go_wp2_with fail
        go_meet
        case rel => exact ⟨rfl, rfl⟩
  case rest =>
  obtain ⟨rfl, rfl⟩ := hcut
  clear hlf f0 r0 z0
  have f0 : W0.cell? ⟨w.heap.size, 0, none⟩ = some (.slice A L.length c) := HI.out.fb.cell 0
  go_wp2_with fail
  clear f0
  go_loopw [7, 10, 11] (fun is v i wr => ∃ (k : Nat) (b' : Bool) (A' : Option Addr) (c' : Nat) (o : List Hp), k ≤ L.length ∧ i = .int .i64 k ∧ is = .bool b' ∧ v = .slice A' o.length c' ∧ Hid (Own wr W0.heap.size 53 6 Hp.enc (.slice A' o.length c') o) ∧ Hid (insAt rh b1 L k = (o, b')) ∧ Hid (Kp W0 wr)) (fun _ _ i _ => L.length - (intOf i).toNat)
  case atStart => exact ⟨0, b1, none, 0, [], Nat.zero_le _, rfl, rfl, rfl, Own.nil _ _ _ _ _, Lib.hid (insAt_zero _ _ _), Kp.refl _⟩
  case round =>
    obtain ⟨k, b', A', c', o, hk, rfl, rfl, rfl, ho, hat, hK⟩ := hrel
    have hol : o.length ≤ 2 * k := by have := insAt_len rh b1 L k; rw [hat.out] at this; exact this
    have hfit1 : Hid ((o.length + 1) * (48 + 1) ≤ 140737488355328) := Lib.hid (by omega)
    have hfit2 : Hid (∀ z : Hp, ((o ++ [z]).length + 1) * (48 + 1) ≤ 140737488355328) := Lib.hid (fun z => by rw [List.length_append, List.length_singleton]; omega)
    by_cases hlt : k < L.length
    · obtain ⟨b, off, hA, G0, G1, G2, G3, G4, G5⟩ := hop_at HI.out.rd hlt
      subst hA
      obtain ⟨y, hy⟩ : ∃ y, L[k] = y := ⟨_, rfl⟩
      rw [hy] at G0 G1 G2 G3 G4 G5
      have Hy := Lib.hid hy; clear hy
      obtain ⟨K0, hK0⟩ : ∃ K0 : Kp W0 wr, True := ⟨hK.out, trivial⟩
      clear hK0
      have Hne := Lib.hid (pfx_ne (p := y.p) (q := q))
      have f_wr : wr.cell? ⟨w.heap.size, 0, none⟩ = some (.slice (some ⟨b, off, none⟩) L.length c) := (HI.out.fb.keep K0).cell 0
      have p0_wr : wr.cell? ⟨w.heap.size + 1, 0, none⟩ = some (.int .u32 q.a) := K0.cell HI.out.pa
      have p1_wr : wr.cell? ⟨w.heap.size + 1, 1, none⟩ = some (.int .i64 q.l) := K0.cell HI.out.pl
      have g0_wr := K0.cell G0
      have g1_wr := K0.cell G1
      have g2_wr := K0.cell G2
      have g3_wr := K0.cell G3
      have g4_wr := K0.cell G4
      have g5_wr := K0.cell G5
      cases b' with
      | false =>
        by_cases heq : y.p = q
        · have Hst : Hid (insStep rh (o, false) y = (o, false)) := Lib.hid (by simp [insStep, Hhq.out, heq])
          have hne : ∀ w, (binOp .neq 26 (.agg #[.int .u32 y.p.a, .int .i64 y.p.l]) (.agg #[.int .u32 q.a, .int .i64 q.l])).run Tryz.prog w = .ok (.bool false) w := fun w => by rw [Hne.out]; simp [heq]
          clear heq
          go_upto_region 11 with (fail)
          go_quiet (fail)
          go_upto_region 14 with (fail)
          go_quiet (fail)
          go_wp2_with fail
          go_roundw
          case rel => exact ⟨k + 1, false, _, c', o, by omega, by go_num, rfl, rfl, ho.out.drewN _, Lib.hid (by rw [insAt_succ hlt, hat.out, Hy.out, Hst.out]), K0.drewN _⟩
          case measure => simp [intOf]; omega
        · have Hst : Hid (insStep rh (o, false) y = (o ++ [y], false)) := Lib.hid (by simp [insStep, Hhq.out, heq])
          have hne : ∀ w, (binOp .neq 26 (.agg #[.int .u32 y.p.a, .int .i64 y.p.l]) (.agg #[.int .u32 q.a, .int .i64 q.l])).run Tryz.prog w = .ok (.bool true) w := fun w => by rw [Hne.out]; simp [heq]
          clear heq
          go_upto_region 11 with (fail)
          go_quiet (fail)
          go_upto_region 14 with (fail)
          go_quiet (fail)
          go_wp2_with (at_builtin; go_must (refine wpList_appx EHop rfl _ _ rfl y rfl (ho.out.drewN _) (K0.drewN _) (Nat.le_refl _) ((K0.drewN _)).size rfl rfl rfl rfl rfl hfit1.out ?_); intro v_w5 w5 own_w5 K_w5 hg_w5; obtain ⟨A_w5, c_w5, rfl⟩ := own_w5.form1)
          go_roundw
          case rel => exact ⟨k + 1, false, _, c_w5, (o ++ [y]), by omega, by go_num, rfl, by simp, own_w5.len1, Lib.hid (by rw [insAt_succ hlt, hat.out, Hy.out, Hst.out]), K_w5⟩
          case measure => simp [intOf]; omega
      | true =>
        obtain rfl : b1 = true := insAt_true (h := rh) (L := L) (k := k) (by rw [hat.out])
        obtain rfl : hh = rh := Hhh.out rfl
        go_upto_region 11 with (fail)
        refine wp_tail 10 (by kernel_rfl) (by kernel_rfl) (fun V hV => ?_)
        have KV : Kp W0 V := by rw [hV]; exact K0.drew
        have HoV : Hid (Own V W0.heap.size 53 6 Hp.enc (.slice A' o.length c') o) := by rw [hV]; exact Lib.hid ho.out.drew
        clear hV
        clear f_wr p0_wr p1_wr g0_wr g1_wr g2_wr g3_wr g4_wr g5_wr
        have f_V : V.cell? ⟨w.heap.size, 0, none⟩ = some (.slice (some ⟨b, off, none⟩) L.length c) := (HI.out.fb.keep KV).cell 0
        have p0_V : V.cell? ⟨w.heap.size + 1, 0, none⟩ = some (.int .u32 q.a) := KV.cell HI.out.pa
        have p1_V : V.cell? ⟨w.heap.size + 1, 1, none⟩ = some (.int .i64 q.l) := KV.cell HI.out.pl
        have g0_V := KV.cell G0
        have g1_V := KV.cell G1
        simp only [List.take_succ_cons, List.take_zero, List.drop_succ_cons, List.drop_zero]
        repeat still_step
        refine wpStill_nil ?_
        go_wp2_with fail
        refine (rorder_any q y.p V).mono ?_
        rintro e w4 ⟨rfl, hK4⟩
        have hz := ord_le q y.p
        obtain ⟨z, hzz⟩ : ∃ z, ordP q y.p = z := ⟨_, rfl⟩
        rw [hzz] at hz ⊢
        have Hz := Lib.hid hz
        clear hz hzz
        have K4 := KV.trans hK4
        have Ho4 := Lib.hid (HoV.out.keep hK4)
        clear f_V p0_V p1_V g0_V g1_V
        have f_w4 : w4.cell? ⟨w.heap.size, 0, none⟩ = some (.slice (some ⟨b, off, none⟩) L.length c) := (HI.out.fb.keep K4).cell 0
        have p0_w4 : w4.cell? ⟨w.heap.size + 1, 0, none⟩ = some (.int .u32 q.a) := K4.cell HI.out.pa
        have p1_w4 : w4.cell? ⟨w.heap.size + 1, 1, none⟩ = some (.int .i64 q.l) := K4.cell HI.out.pl
        have g0_w4 := K4.cell G0
        have g1_w4 := K4.cell G1
        have g2_w4 := K4.cell G2
        have g3_w4 := K4.cell G3
        have g4_w4 := K4.cell G4
        have g5_w4 := K4.cell G5
        have h0_w4 : w4.cell? ⟨w2.heap.size, 0, none⟩ = some (.int .u32 hh.p.a) := (HI.out.hb.keep K4).cell 0
        have h1_w4 : w4.cell? ⟨w2.heap.size, 1, none⟩ = some (.int .i64 hh.p.l) := (HI.out.hb.keep K4).cell 1
        have h2_w4 : w4.cell? ⟨w2.heap.size, 2, none⟩ = some (.bool hh.d) := (HI.out.hb.keep K4).cell 2
        have h3_w4 : w4.cell? ⟨w2.heap.size, 3, none⟩ = some (.int .i64 hh.f) := (HI.out.hb.keep K4).cell 3
        have h4_w4 : w4.cell? ⟨w2.heap.size, 4, none⟩ = some (.int .u32 hh.x) := (HI.out.hb.keep K4).cell 4
        have h5_w4 : w4.cell? ⟨w2.heap.size, 5, none⟩ = some (.int .i64 hh.m) := (HI.out.hb.keep K4).cell 5
        by_cases hl2 : y.p.lt q
        · have hd : decide (z ≤ 0) = false := by rw [Hz.out]; simp [hl2]
          have hnq : ¬ y.p = q := fun e => by rw [e] at hl2; exact lt_irrefl _ hl2
          have Hst : Hid (insStep hh (o, true) y = (o ++ [y], true)) := Lib.hid (by simp [insStep, Hhq.out, hnq, hl2])
          have hne : ∀ w, (binOp .neq 26 (.agg #[.int .u32 y.p.a, .int .i64 y.p.l]) (.agg #[.int .u32 q.a, .int .i64 q.l])).run Tryz.prog w = .ok (.bool true) w := fun w => by rw [Hne.out]; simp [hnq]
          clear hnq hl2
          go_upto_region 14 with (fail)
          go_quiet (fail)
          go_wp2_with (at_builtin; go_must (refine wpList_appx EHop rfl _ _ rfl y rfl (Ho4.out.drewN _) (K4.drewN _) (Nat.le_refl _) ((K4.drewN _)).size rfl rfl rfl rfl rfl hfit1.out ?_); intro v_w5 w5 own_w5 K_w5 hg_w5; obtain ⟨A_w5, c_w5, rfl⟩ := own_w5.form1)
          go_roundw
          case rel => exact ⟨k + 1, true, _, c_w5, (o ++ [y]), by omega, by go_num, rfl, by simp, own_w5.len1, Lib.hid (by rw [insAt_succ hlt, hat.out, Hy.out, Hst.out]), K_w5⟩
          case measure => simp [intOf]; omega
        · have hd : decide (z ≤ 0) = true := by rw [Hz.out]; simp [hl2]
          by_cases heq : y.p = q
          · have Hst : Hid (insStep hh (o, true) y = (o ++ [hh], false)) := Lib.hid (by simp [insStep, Hhq.out, heq, lt_irrefl])
            have hne : ∀ w, (binOp .neq 26 (.agg #[.int .u32 y.p.a, .int .i64 y.p.l]) (.agg #[.int .u32 q.a, .int .i64 q.l])).run Tryz.prog w = .ok (.bool false) w := fun w => by rw [Hne.out]; simp [heq]
            clear heq hl2
            go_wp2_with (at_builtin; go_must (refine wpList_appx EHop rfl _ _ rfl hh rfl Ho4.out K4 (Nat.le_refl _) (K4).size rfl rfl rfl rfl rfl hfit1.out ?_); intro v_w5 w5 own_w5 K_w5 hg_w5; obtain ⟨A_w5, c_w5, rfl⟩ := own_w5.form1)
            clear f_w4 p0_w4 p1_w4 g0_w4 g1_w4 g2_w4 g3_w4 g4_w4 g5_w4 h0_w4 h1_w4 h2_w4 h3_w4 h4_w4 h5_w4
            have f_w5 : w5.cell? ⟨w.heap.size, 0, none⟩ = some (.slice (some ⟨b, off, none⟩) L.length c) := (HI.out.fb.keep K_w5).cell 0
            have p0_w5 : w5.cell? ⟨w.heap.size + 1, 0, none⟩ = some (.int .u32 q.a) := K_w5.cell HI.out.pa
            have p1_w5 : w5.cell? ⟨w.heap.size + 1, 1, none⟩ = some (.int .i64 q.l) := K_w5.cell HI.out.pl
            have g0_w5 := K_w5.cell G0
            have g1_w5 := K_w5.cell G1
            go_quiet (fail)
            go_wp2_with fail
            go_roundw
            case rel => exact ⟨k + 1, false, _, c_w5, (o ++ [hh]), by omega, by go_num, rfl, by simp, (own_w5.len1.drewN _), Lib.hid (by rw [insAt_succ hlt, hat.out, Hy.out, Hst.out]), (K_w5.drewN _)⟩
            case measure => simp [intOf]; omega
          · have Hst : Hid (insStep hh (o, true) y = (o ++ [hh] ++ [y], false)) := Lib.hid (by simp [insStep, Hhq.out, heq, hl2])
            have hne : ∀ w, (binOp .neq 26 (.agg #[.int .u32 y.p.a, .int .i64 y.p.l]) (.agg #[.int .u32 q.a, .int .i64 q.l])).run Tryz.prog w = .ok (.bool true) w := fun w => by rw [Hne.out]; simp [heq]
            clear heq hl2
            go_wp2_with (at_builtin; go_must (refine wpList_appx EHop rfl _ _ rfl hh rfl Ho4.out K4 (Nat.le_refl _) (K4).size rfl rfl rfl rfl rfl hfit1.out ?_); intro v_w5 w5 own_w5 K_w5 hg_w5; obtain ⟨A_w5, c_w5, rfl⟩ := own_w5.form1)
            clear f_w4 p0_w4 p1_w4 g0_w4 g1_w4 g2_w4 g3_w4 g4_w4 g5_w4 h0_w4 h1_w4 h2_w4 h3_w4 h4_w4 h5_w4
            have f_w5 : w5.cell? ⟨w.heap.size, 0, none⟩ = some (.slice (some ⟨b, off, none⟩) L.length c) := (HI.out.fb.keep K_w5).cell 0
            have p0_w5 : w5.cell? ⟨w.heap.size + 1, 0, none⟩ = some (.int .u32 q.a) := K_w5.cell HI.out.pa
            have p1_w5 : w5.cell? ⟨w.heap.size + 1, 1, none⟩ = some (.int .i64 q.l) := K_w5.cell HI.out.pl
            have g0_w5 := K_w5.cell G0
            have g1_w5 := K_w5.cell G1
            have g2_w5 := K_w5.cell G2
            have g3_w5 := K_w5.cell G3
            have g4_w5 := K_w5.cell G4
            have g5_w5 := K_w5.cell G5
            go_quiet (fail)
            go_wp2_with (at_builtin; go_must (refine wpList_appx EHop rfl _ _ rfl y rfl (own_w5.drewN _) (K_w5.drewN _) (Nat.le_refl _) ((K_w5.drewN _)).size rfl rfl rfl rfl rfl (hfit2.out _) ?_); intro v_w6 w6 own_w6 K_w6 hg_w6; obtain ⟨A_w6, c_w6, rfl⟩ := own_w6.form1)
            go_roundw
            case rel => exact ⟨k + 1, false, _, c_w6, (o ++ [hh] ++ [y]), by omega, by go_num, rfl, by simp, own_w6.len1, Lib.hid (by rw [insAt_succ hlt, hat.out, Hy.out, Hst.out]), K_w6⟩
            case measure => simp [intOf]; omega
    · obtain rfl : k = L.length := by omega
      have f1 : wr.cell? ⟨w.heap.size, 0, none⟩ = some (.slice A L.length c) := (HI.out.fb.keep hK.out).cell 0
      have D2 := HI.out.rb.keep hK.out
      have hlo := HI.out.rb.lt
      have fin : Hid (∀ (V : World) (A3 : Option Addr) (c3 : Nat) (l3 : List Hp), Kp W0 V → Own V W0.heap.size 53 6 Hp.enc (.slice A3 l3.length c3) l3 → insEnd rh (insAt rh b1 L L.length) = l3 →
          ∃ Z, V.setCell ⟨w.heap.size + 1 + 1, 0, none⟩ (.slice A3 l3.length c3) = Z ∧ Z.cell? ⟨w.heap.size + 1 + 1, 0, none⟩ = some (.slice A3 l3.length c3) ∧ OneP w A CL 0 (.returned (.tuple #[.agg #[.slice A3 l3.length c3], .int .i64 0])) Z) := by
        intro V A3 c3 l3 kV oV e3
        refine ⟨_, rfl, ((HI.out.rb.keep kV).set_ 0 _).cell 0, A3, c3, by rw [HCL.out, e3], ?_, (HI.out.kp.trans kV).setCell (by simp <;> omega) _, .inr (fun a ha => ⟨Nat.le_trans HI.out.kp.size (oV.newA a ha), by have := oV.lt_ a ha; simpa [World.setCell] using this⟩)⟩
        rw [HCL.out, e3]
        exact (Own.setBelow (p := ⟨w.heap.size + 1 + 1, 0, none⟩) oV (by simp only; omega) _).rdAt (by decide) Hp.len
      cases b' with
      | false =>
        have r0 : wr.cell? ⟨w.heap.size + 1 + 1, 0, none⟩ = some (.slice none 0 0) := D2.cell 0
        have z0 := D2.frozen 0
        obtain ⟨Z, hZ, d0, hP⟩ := fin.out wr A' c' o hK.out ho.out (by rw [hat.out]; rfl)
        have HP := Lib.hid hP
        clear hP fin
        go_wp2_with fail
        exact bodyPost_ret (v := .tuple #[.agg #[.slice A' o.length c'], .int .i64 0]) (by simp [results, Tryz.results9, go_sem, d0]) rfl HP.out
      | true =>
        obtain rfl : b1 = true := insAt_true (h := rh) (L := L) (k := L.length) (by rw [hat.out])
        obtain rfl : hh = rh := Hhh.out rfl
        have K0 := hK.out
        have h0_wr : wr.cell? ⟨w2.heap.size, 0, none⟩ = some (.int .u32 hh.p.a) := (HI.out.hb.keep K0).cell 0
        have h1_wr : wr.cell? ⟨w2.heap.size, 1, none⟩ = some (.int .i64 hh.p.l) := (HI.out.hb.keep K0).cell 1
        have h2_wr : wr.cell? ⟨w2.heap.size, 2, none⟩ = some (.bool hh.d) := (HI.out.hb.keep K0).cell 2
        have h3_wr : wr.cell? ⟨w2.heap.size, 3, none⟩ = some (.int .i64 hh.f) := (HI.out.hb.keep K0).cell 3
        have h4_wr : wr.cell? ⟨w2.heap.size, 4, none⟩ = some (.int .u32 hh.x) := (HI.out.hb.keep K0).cell 4
        have h5_wr : wr.cell? ⟨w2.heap.size, 5, none⟩ = some (.int .i64 hh.m) := (HI.out.hb.keep K0).cell 5
        go_wp2_with (at_builtin; go_must (refine wpList_appx EHop rfl _ _ rfl hh rfl ho.out K0 (Nat.le_refl _) K0.size rfl rfl rfl rfl rfl hfit1.out ?_); intro v_w5 w5 own_w5 K_w5 hg_w5; obtain ⟨A_w5, c_w5, rfl⟩ := own_w5.form1; have D5 := HI.out.rb.keep K_w5; have r5 : w5.cell? ⟨w.heap.size + 1 + 1, 0, none⟩ = some (.slice none 0 0) := D5.cell 0; have z5 := D5.frozen 0)
        obtain ⟨Z, hZ, d0, hP⟩ := fin.out w5 A_w5 c_w5 (o ++ [hh]) K_w5 own_w5.len1 (by rw [hat.out]; rfl)
        rw [List.length_append, List.length_singleton] at hZ d0 hP
        rw [hZ]
        exact bodyPost_ret (v := .tuple #[.agg #[.slice A_w5 (o.length + 1) c_w5], .int .i64 0]) (by simp [results, Tryz.results9, go_sem, d0]) rfl hP

theorem one_any (A : Option Addr) (c : Nat) (L : List Hp) (r : Rt) (w : World) (hR : Rd w 6 Hp.enc A L) (hn : L.length ≤ 512) (ha : r.p.a < 4294967296) (hx : r.x < 4294967296) (hu : Up L) :
    Calls Tryz.prog 9 #[.agg #[.slice A L.length c], .agg #[.int .u32 r.p.a, .int .i64 r.p.l, .int .i64 r.s, .int .i64 r.m, .int .i64 r.l, .int .i64 r.f, .int .u32 r.x, .int .i64 r.d, .bool r.c]] w (OneP w A (comeL r L) (comeE r L)) := by
  cases hr : rightB r with
  | false =>
    have hc : checkR r = 2 := by rw [check_right, hr]; rfl
    have e1 : comeL r L = L := by simp [comeL, hc]
    have e2 : comeE r L = 2 := by simp [comeE, hc]
    rw [e1, e2]
    exact one_bad A c L r w hR ha hx hr
  | true =>
    have hc : checkR r = 0 := by rw [check_right, hr]; rfl
    obtain ⟨hs, hok⟩ := check_zero hc
    obtain ⟨hq, hl⟩ := pn_ok hok ha
    obtain ⟨p, s, m, l, fc, x, d, ch⟩ := r
    simp only at *
    have ep : p = p.pn.pi := by cases p; simp only [Pn.pi, PI.pn] at *; rw [hl]; simp
    rw [ep] at hc
    have := one_right A c L p.pn s m l fc x d ch w hR hn hq hx hu hc
    unfold rtC at this
    rw [← hl, ← ep] at this
    exact this

end Go.Proofs.YtfaiponmjjbgoaaGreatDoor

/- layer 13's works. -/
namespace Go.Proofs.YtfaiponmjjbgoaaGreatDoor
open Go.RowKit
attribute [local go_sem] Oper.semAt_some

def wr1 : Rt := ⟨⟨167772160, 8⟩, 1, 1, 0, 0, 0, 0, true⟩
def wr2 : Rt := ⟨⟨167837696, 16⟩, 2, 3, 0, 1, 167772674, 9, false⟩
def wr3 : Rt := ⟨⟨167837696, 16⟩, 3, 16, 3, 1, 167772674, 9, false⟩
def wh1 : Hp := ⟨⟨167772160, 8⟩, true, 0, 0, 1⟩
def wh2 : Hp := ⟨⟨167837696, 16⟩, false, 1, 167772674, 3⟩
theorem wl1 : runL [wr1, wr2] [] = [wh1, wh2] := by decide +kernel
theorem wn1 : runN [wr1, wr2] [] = 2 := by decide +kernel
theorem we1 : runE [wr1, wr2] [] = 0 := by decide +kernel
theorem wf1 : foundH 167838211 [wh1, wh2] = (wh2, true) := by decide +kernel
theorem wf2 : foundH 167903232 [wh1, wh2] = (wh1, true) := by decide +kernel
theorem wf3 : foundH 184549376 [wh1, wh2] = (hop0, false) := by decide +kernel
theorem wl3 : runL [wr3] [wh1, wh2] = [wh1] := by decide +kernel
theorem wn3 : runN [wr3] [wh1, wh2] = 1 := by decide +kernel
theorem we3 : runE [wr3] [wh1, wh2] = 0 := by decide +kernel
theorem wf4 : foundH 167838211 [wh1] = (wh1, true) := by decide +kernel

set_option maxRecDepth 100000 in
theorem own_any (q l : Int) (w : World) : Calls Tryz.prog 24 #[.agg #[.int .u32 q, .int .i64 l]] w fun e w' => e = .returned (.agg #[.int .u32 q, .int .i64 l, .int .i64 1, .int .i64 1, .int .i64 0, .int .i64 0, .int .u32 0, .int .i64 0, .bool true]) ∧ Kp w w' := by
  go_enter Tryz.func24, Tryz.ntmps24
  go_wp2_with fail
  refine bodyPost_ret (v := .agg #[.int .u32 q, .int .i64 l, .int .i64 1, .int .i64 1, .int .i64 0, .int .i64 0, .int .u32 0, .int .i64 0, .bool true]) (by simp [results, Tryz.results24, go_sem]) rfl ⟨rfl, ?_⟩
  exact ((Kp.refl _).alloc _).alloc _
theorem num_any (n : Int) (w : World) : Calls Tryz.prog 13 #[.int .i64 n] w fun e w' => e = .returned (.int .i64 n) ∧ w = w' := by
  go_enter Tryz.func13, Tryz.ntmps13
  go_wp2_with fail
  go_ret
  exact ⟨rfl, rfl⟩

theorem wq1 (w : World) : (binOp .eql 53 (.agg #[.int .u32 167837696, .int .i64 16, .bool false, .int .i64 1, .int .u32 167772674, .int .i64 3]) (.agg #[.int .u32 167837696, .int .i64 16, .bool false, .int .i64 1, .int .u32 167772674, .int .i64 3])).run Tryz.prog w = .ok (.bool true) w := by kernel_rfl
theorem wq2 (w : World) : (binOp .eql 53 (.agg #[.int .u32 167772160, .int .i64 8, .bool true, .int .i64 0, .int .u32 0, .int .i64 1]) (.agg #[.int .u32 167772160, .int .i64 8, .bool true, .int .i64 0, .int .u32 0, .int .i64 1])).run Tryz.prog w = .ok (.bool true) w := by kernel_rfl

theorem hv1 : hopV wh1 = .agg #[.int .u32 167772160, .int .i64 8, .bool true, .int .i64 0, .int .u32 0, .int .i64 1] := rfl
theorem hv2 : hopV wh2 = .agg #[.int .u32 167837696, .int .i64 16, .bool false, .int .i64 1, .int .u32 167772674, .int .i64 3] := rfl
theorem hv0 : hopV hop0 = .agg #[.int .u32 0, .int .i64 0, .bool false, .int .i64 0, .int .u32 0, .int .i64 0] := rfl
theorem FT.open {w w' : World} {f : Nat} {F : List Nat} {L : List Hp} (h : FT w w' f F L) (hG : RelsAt w) (hGn : 0 ∉ F) : ∃ F', FM w' f F' L ∧ Only F w w' ∧ (∀ b ∈ F', b ∈ F ∨ w.heap.size ≤ b) ∧ RelsAt w' ∧ 0 ∉ F' := by
  obtain ⟨F', h1, h2, h3⟩ := h
  refine ⟨F', h1, h2, h3, hG.only h2 hGn, fun hc => ?_⟩
  rcases h3 _ hc with e | e
  · exact hGn e
  · have := rels_lt hG; omega
theorem Rd.one (w : World) (r : Rt) : Rd (w.alloc (.cells r.enc.toArray 29)) 9 Rt.enc (some ⟨w.heap.size, 0, none⟩) [r] := Rd.of_blk (Blk.new w _ _) (by omega) Rt.len (by unfold maxLen; simp) (by simp)
theorem Rd.one1 (w : World) (o : Obj) (r : Rt) : Rd ((w.alloc o).alloc (.cells r.enc.toArray 29)) 9 Rt.enc (some ⟨w.heap.size + 1, 0, none⟩) [r] := Rd.of_blk (Blk.new1 w _ _ _) (by omega) Rt.len (by unfold maxLen; simp) (by simp)
theorem Rd.two (w : World) (r s : Rt) : Rd (w.alloc (.cells (r.enc ++ s.enc).toArray 29)) 9 Rt.enc (some ⟨w.heap.size, 0, none⟩) [r, s] := Rd.of_blk (Blk.new w _ _) (by omega) Rt.len (by unfold maxLen; simp) (by simp)

set_option maxRecDepth 100000 in
set_option maxHeartbeats 4000000 in
theorem works_any (w : World) (hG : RelsAt w) : Calls Tryz.prog 6 #[] w fun e w' => e = .returned (.bool true) ∧ Kp w w' := by
  have HG := Lib.hid hG
  clear hG
  go_enter Tryz.func6, Tryz.ntmps6
  go_wp2_with fail
  refine (fnew_any w).mono ?_
  rintro e w1 ⟨f, F, rfl, hM, hK, hF⟩
  have hlF := hM.lt
  have hGn : 0 ∉ F := fun hc => by have := hF _ hc; have := rels_lt HG.out; omega
  obtain ⟨W, hW, kW, B0, B1⟩ : ∃ W, (w1.alloc (.cells #[.int .u32 167772160, .int .i64 8] 26)).alloc (.cells #[.int .u32 167837696, .int .i64 16] 26) = W ∧ Kp w1 W ∧ Blk W w1.heap.size 26 #[.int .u32 167772160, .int .i64 8] ∧ Blk W (w1.heap.size + 1) 26 #[.int .u32 167837696, .int .i64 16] := ⟨_, rfl, ((Kp.refl _).alloc _).alloc _, (Blk.new w1 _ _).alloc _, Blk.new1 w1 _ _ _⟩
  have a0 : W.cell? ⟨w1.heap.size, 0, none⟩ = some (.int .u32 167772160) := B0.cell 0
  have a1 : W.cell? ⟨w1.heap.size, 1, none⟩ = some (.int .i64 8) := B0.cell 1
  have a2 : W.cell? ⟨w1.heap.size + 1, 0, none⟩ = some (.int .u32 167837696) := B1.cell 0
  have a3 : W.cell? ⟨w1.heap.size + 1, 1, none⟩ = some (.int .i64 16) := B1.cell 1
  have HM := Lib.hid (hM.keep kW)
  have HGW := Lib.hid (HG.out.keep (hK.trans kW))
  have HGn := Lib.hid hGn
  have HlF := Lib.hid hlF
  have HF := Lib.hid hF
  clear hM hGn hlF hF
  go_wp2_with fail
  have hb0 : w1.heap.size ∉ F := fun hc => by have := HlF.out _ hc; omega
  have hb1 : w1.heap.size + 1 ∉ F := fun hc => by have := HlF.out _ hc; omega
  have Hb0 := Lib.hid hb0
  have Hb1 := Lib.hid hb1
  clear hb0 hb1
  go_region_held3 (fun w' => w'.cell? ⟨w1.heap.size, 0, none⟩ = some (.int .u32 167772160) ∧ w'.cell? ⟨w1.heap.size, 1, none⟩ = some (.int .i64 8) ∧ w'.cell? ⟨w1.heap.size + 1, 0, none⟩ = some (.int .u32 167837696) ∧ w'.cell? ⟨w1.heap.size + 1, 1, none⟩ = some (.int .i64 16))
    (first | exact ⟨Ob.cell a0 Hb0.out, Ob.cell a1 Hb0.out, Ob.cell a2 Hb1.out, Ob.cell a3 Hb1.out⟩ | exact ⟨Ka.cell a0, Ka.cell a1, Ka.cell a2, Ka.cell a3⟩ | exact ⟨(Ka.alloc _).cell a0, (Ka.alloc _).cell a1, (Ka.alloc _).cell a2, (Ka.alloc _).cell a3⟩ | go_keep)
    (first | (go_at_call 24; refine (own_any 167772160 8 _).mono ?_; rintro e wa ⟨rfl, hKa⟩; have Ka : Kp W wa := (Kp.refl W).drew.trans hKa) | (go_at_call 8; refine (Come_any f F [] [wr1, wr2] (some ⟨wa.heap.size, 0, none⟩) 2 _ (HGW.out.keep (Ka.alloc _)) HGn.out (HM.out.keep (Ka.alloc _)) (Rd.two wa wr1 wr2) (fun _ a ha hc => by injection ha with ha; subst ha; have h9 : wa.heap.size < w1.heap.size := HlF.out _ hc; have := kW.size; have := Ka.size; omega) (by simp) (by simp [Rt.fits, wr1, wr2])).mono ?_; rintro e wb ⟨rfl, hT⟩; rw [wn1, we1]; rw [wl1] at hT; obtain ⟨F2, hM2, hO2, hs2, hG2, hGn2⟩ := hT.open (HGW.out.keep (Ka.alloc _)) HGn.out; have Ob : Only F W wb := (Only.of_kp (Ka.alloc _)).trans hO2))
  have B0b := B0.only Ob Hb0.out
  have B1b := B1.only Ob Hb1.out
  have kwb : Kp w wb := hO2.kp (((hK.trans kW).trans Ka).alloc _) HF.out
  have hs2' : ∀ b ∈ F2, w.heap.size ≤ b := fun b hb => by
    rcases hs2 b hb with e | e
    · exact HF.out b e
    · exact Nat.le_trans ((((hK.trans kW).trans Ka).alloc _).size) e
  have Hs2 := Lib.hid hs2'
  have hl1 := B1.lt
  have hn0 : w1.heap.size ∉ F2 := fun hc => by
    rcases hs2 _ hc with e | e
    · exact Hb0.out e
    · have := Ka.size; simp at e; omega
  have hn1 : w1.heap.size + 1 ∉ F2 := fun hc => by
    rcases hs2 _ hc with e | e
    · exact Hb1.out e
    · have := Ka.size; simp at e; omega
  have Hn0 := Lib.hid hn0
  have Hn1 := Lib.hid hn1
  have Hl2 := Lib.hid hM2.lt
  clear hn0 hn1 hl1
  clear a0 a1 a2 a3 hs2 hs2' hO2 hT hW
  go_wp2_with fail
  refine (fFind_any f F2 [wh1, wh2] 167838211 _ (hG2) (hM2) (by omega)).mono ?_
  rintro e x2 ⟨rfl, hK2⟩
  rw [wf1]
  obtain ⟨V2, hV2, kV2, BV2⟩ : ∃ V, x2.alloc (.cells #[.int .u32 167837696, .int .i64 16, .bool false, .int .i64 1, .int .u32 167772674, .int .i64 3] 53) = V ∧ Kp x2 V ∧ Blk V x2.heap.size 53 #[.int .u32 167837696, .int .i64 16, .bool false, .int .i64 1, .int .u32 167772674, .int .i64 3] := ⟨_, rfl, (Kp.refl _).alloc _, Blk.new x2 _ _⟩
  have K2 := hK2.trans kV2
  simp only [hv2]
  have hG3 := hG2.keep K2
  have hM3 := hM2.keep K2
  have hkx2 := hK2
  clear hK2 kV2 hG2 hM2
  go_wp2_with fail
  refine (fFind_any f F2 [wh1, wh2] 167903232 _ (hG3) (hM3) (by omega)).mono ?_
  rintro e x3 ⟨rfl, hK3⟩
  rw [wf2]
  obtain ⟨V3, hV3, kV3, BV3⟩ : ∃ V, x3.alloc (.cells #[.int .u32 167772160, .int .i64 8, .bool true, .int .i64 0, .int .u32 0, .int .i64 1] 53) = V ∧ Kp x3 V ∧ Blk V x3.heap.size 53 #[.int .u32 167772160, .int .i64 8, .bool true, .int .i64 0, .int .u32 0, .int .i64 1] := ⟨_, rfl, (Kp.refl _).alloc _, Blk.new x3 _ _⟩
  have K3 := hK3.trans kV3
  simp only [hv1]
  have hG4 := hG3.keep K3
  have hM4 := hM3.keep K3
  have hkx3 := K2.trans hK3
  clear hK3 kV3 hG3 hM3 hV2
  go_wp2_with fail
  refine (fFind_any f F2 [wh1, wh2] 184549376 _ (hG4) (hM4) (by omega)).mono ?_
  rintro e x4 ⟨rfl, hK4⟩
  rw [wf3]
  simp only [hv0]
  have K4 : Kp V3 (x4.alloc (.cells #[.int .u32 0, .int .i64 0, .bool false, .int .i64 0, .int .u32 0, .int .i64 0] 53)) := hK4.alloc _
  have hG5 := hG4.keep K4
  have hM5 := hM4.keep K4
  have B1c := B1b.keep ((K2.trans K3).trans K4)
  have B1d := B1b.keep ((K2.trans K3).trans hK4)
  have a2 : ∀ o, (x4.alloc o).cell? ⟨w1.heap.size + 1, 0, none⟩ = some (.int .u32 167837696) := fun o => (B1d.alloc o).cell 0
  have a3 : ∀ o, (x4.alloc o).cell? ⟨w1.heap.size + 1, 1, none⟩ = some (.int .i64 16) := fun o => (B1d.alloc o).cell 1
  clear hK4 hG4 hM4 hV3 B1d
  have HM5 := Lib.hid hM5
  have HG5 := Lib.hid hG5
  have HGn2 := Lib.hid hGn2
  have hl5 := hM5.lt
  have Hl5 := Lib.hid hl5
  clear hM5 hG5 hGn2 hl5
  go_wp2_with fail
  have k5 : ∀ o, Kp (x4.alloc (.cells #[.int .u32 0, .int .i64 0, .bool false, .int .i64 0, .int .u32 0, .int .i64 0] 53)) ((x4.alloc (.cells #[.int .u32 0, .int .i64 0, .bool false, .int .i64 0, .int .u32 0, .int .i64 0] 53)).alloc o) := fun o => (Kp.refl _).alloc o
  refine (Come_any f F2 [wh1, wh2] [wr3] (some ⟨x4.heap.size + 1, 0, none⟩) 1 _ (HG5.out.keep (k5 _)) HGn2.out (HM5.out.keep (k5 _)) (Rd.one1 x4 _ wr3) (fun _ a ha hc => by injection ha with ha; subst ha; have h9 := Hl5.out _ hc; simp at h9) (by simp) (by simp [Rt.fits, wr3])).mono ?_
  rintro e wc ⟨rfl, hT⟩
  rw [wn3, we3]
  rw [wl3] at hT
  obtain ⟨F6, hM6, hO6, hs6, hG6, hGn6⟩ := hT.open (HG5.out.keep (k5 _)) HGn2.out
  have O6 : Only F2 (x4.alloc (.cells #[.int .u32 0, .int .i64 0, .bool false, .int .i64 0, .int .u32 0, .int .i64 0] 53)) wc := (Only.of_kp (k5 _)).trans hO6
  have kwv : Kp w (x4.alloc (.cells #[.int .u32 0, .int .i64 0, .bool false, .int .i64 0, .int .u32 0, .int .i64 0] 53)) := ((kwb.trans K2).trans K3).trans K4
  have kwc : Kp w wc := O6.kp kwv Hs2.out
  clear hT hO6 a2 a3 hs6
  go_wp2_with fail
  refine (fFind_any f F6 [wh1] 167838211 _ (hG6) (hM6) (by omega)).mono ?_
  rintro e x6 ⟨rfl, hK6⟩
  rw [wf4]
  obtain ⟨V6, hV6, kV6, BV6⟩ : ∃ V, x6.alloc (.cells #[.int .u32 167772160, .int .i64 8, .bool true, .int .i64 0, .int .u32 0, .int .i64 1] 53) = V ∧ Kp x6 V ∧ Blk V x6.heap.size 53 #[.int .u32 167772160, .int .i64 8, .bool true, .int .i64 0, .int .u32 0, .int .i64 1] := ⟨_, rfl, (Kp.refl _).alloc _, Blk.new x6 _ _⟩
  have K6 := hK6.trans kV6
  simp only [hv1]
  have kz := kwc.trans K6
  have D0 := ((B0b.keep ((K2.trans K3).trans K4)).only O6 Hn0.out).keep K6
  have D1 := ((B1b.keep ((K2.trans K3).trans K4)).only O6 Hn1.out).keep K6
  have D2 := ((BV2.keep (K3.trans K4)).only O6 (fun hc => by have h1 := Hl2.out _ hc; have := hkx2.size; omega)).keep K6
  have D3 := ((BV3.keep K4).only O6 (fun hc => by have h1 := Hl2.out _ hc; have := hkx3.size; omega)).keep K6
  have hM7 := hM6.keep K6
  have HM7 := Lib.hid hM7
  have d0 : V6.cell? ⟨w1.heap.size, 0, none⟩ = some (.int .u32 167772160) := D0.cell 0
  have d1 : V6.cell? ⟨w1.heap.size, 1, none⟩ = some (.int .i64 8) := D0.cell 1
  have g0 : V6.cell? ⟨w1.heap.size + 1, 0, none⟩ = some (.int .u32 167837696) := D1.cell 0
  have g1 : V6.cell? ⟨w1.heap.size + 1, 1, none⟩ = some (.int .i64 16) := D1.cell 1
  have p0 : V6.cell? ⟨x2.heap.size, 0, none⟩ = some (.int .u32 167837696) := D2.cell 0
  have p1 : V6.cell? ⟨x2.heap.size, 1, none⟩ = some (.int .i64 16) := D2.cell 1
  have p2 : V6.cell? ⟨x2.heap.size, 2, none⟩ = some (.bool false) := D2.cell 2
  have p3 : V6.cell? ⟨x2.heap.size, 3, none⟩ = some (.int .i64 1) := D2.cell 3
  have p4 : V6.cell? ⟨x2.heap.size, 4, none⟩ = some (.int .u32 167772674) := D2.cell 4
  have p5 : V6.cell? ⟨x2.heap.size, 5, none⟩ = some (.int .i64 3) := D2.cell 5
  have q0 : V6.cell? ⟨x3.heap.size, 0, none⟩ = some (.int .u32 167772160) := D3.cell 0
  have q1 : V6.cell? ⟨x3.heap.size, 1, none⟩ = some (.int .i64 8) := D3.cell 1
  have q2 : V6.cell? ⟨x3.heap.size, 2, none⟩ = some (.bool true) := D3.cell 2
  have q3 : V6.cell? ⟨x3.heap.size, 3, none⟩ = some (.int .i64 0) := D3.cell 3
  have q4 : V6.cell? ⟨x3.heap.size, 4, none⟩ = some (.int .u32 0) := D3.cell 4
  have q5 : V6.cell? ⟨x3.heap.size, 5, none⟩ = some (.int .i64 1) := D3.cell 5
  have r0 : V6.cell? ⟨x6.heap.size, 0, none⟩ = some (.int .u32 167772160) := BV6.cell 0
  have r1 : V6.cell? ⟨x6.heap.size, 1, none⟩ = some (.int .i64 8) := BV6.cell 1
  have r2 : V6.cell? ⟨x6.heap.size, 2, none⟩ = some (.bool true) := BV6.cell 2
  have r3 : V6.cell? ⟨x6.heap.size, 3, none⟩ = some (.int .i64 0) := BV6.cell 3
  have r4 : V6.cell? ⟨x6.heap.size, 4, none⟩ = some (.int .u32 0) := BV6.cell 4
  have r5 : V6.cell? ⟨x6.heap.size, 5, none⟩ = some (.int .i64 1) := BV6.cell 5
  have e1 := wq1
  have e2 := wq2
  clear hK6 kV6 hM7 hM6 D0 D1 D2 D3 BV6 BV2 BV3 K2 K3 K4 K6 O6 kwv kwc HM5 HG5 Hl5 k5 B1c kwb Ob Ka hKa HM HGW
  go_wp2_with fail
  refine (num_any 0 _).mono ?_
  rintro e w' ⟨rfl, rfl⟩
  go_wp2_with fail
  refine (num_any 0 _).mono ?_
  rintro e w' ⟨rfl, rfl⟩
  go_wp2_with fail
  refine (flen_any f F6 [wh1] _ HM7.out).mono ?_
  rintro e w' ⟨rfl, rfl⟩
  go_wp2_with fail
  go_ret
  exact ⟨rfl, kz⟩
end Go.Proofs.YtfaiponmjjbgoaaGreatDoor

/- FibAll's table and the reference's list, side by side. -/
namespace Go.Proofs.YtfaiponmjjbgoaaGreatDoor
open Go.RowKit

theorem runL_one (r : Rt) (L : List Hp) : runL [r] L = comeL r L := by
  simp only [runL]
  by_cases h : comeE r L = 0
  · rw [if_pos h]
  · rw [if_neg h, come_err h]
theorem FM.up {w : World} {f : Nat} {F : List Nat} {L : List Hp} (h : FM w f F L) : Up L ∧ L.length ≤ 512 := by
  obtain ⟨tr, t, A, c, H, _, m, u, pm⟩ := h
  exact ⟨u, by rw [← pm.length_eq]; exact m.room⟩

/-- A table of hops, and the reference's list of the same hops in a block of its own. -/
structure AlI (w : World) (f u : Nat) (W : World) (F : List Nat) (L : List Hp) (A : Option Addr) (c : Nat) : Prop where
  fm : FM W f F L
  new : ∀ b ∈ F, w.heap.size ≤ b
  rels : RelsAt W
  gn : 0 ∉ F
  kp : Kp w W
  ub : Blk W u 35 #[.slice A L.length c]
  un : u ∉ F
  uw : w.heap.size ≤ u
  ug : u ≠ 0
  rd : Rd W 6 Hp.enc A L
  an : ∀ a, A = some a → a.block < W.heap.size ∧ a.block ∉ F ∧ a.block ≠ u

section
variable {w : World} {f u : Nat} {W W' : World} {F : List Nat} {L L' : List Hp} {A A' : Option Addr} {c c' : Nat}
theorem AlI.keep (h : AlI w f u W F L A c) (k : Kp W W') : AlI w f u W' F L A c :=
  ⟨h.fm.keep k, h.new, h.rels.keep k, h.gn, h.kp.trans k, h.ub.keep k, h.un, h.uw, h.ug, h.rd.keep k, fun a ha => ⟨Nat.lt_of_lt_of_le (h.an a ha).1 k.size, (h.an a ha).2⟩⟩
/-- Routes came to the table alone: the reference's list stands. -/
structure AlJ (w : World) (f u : Nat) (W : World) (F : List Nat) (L0 L : List Hp) (A : Option Addr) (c : Nat) : Prop where
  fm : FM W f F L
  new : ∀ b ∈ F, w.heap.size ≤ b
  rels : RelsAt W
  gn : 0 ∉ F
  kp : Kp w W
  ub : Blk W u 35 #[.slice A L0.length c]
  un : u ∉ F
  uw : w.heap.size ≤ u
  ug : u ≠ 0
  rd : Rd W 6 Hp.enc A L0
  an : ∀ a, A = some a → a.block < W.heap.size ∧ a.block ∉ F ∧ a.block ≠ u
theorem AlI.come (h : AlI w f u W F L A c) (hT : FT W W' f F L') : ∃ F', AlJ w f u W' F' L L' A c ∧ Only F W W' ∧ ∀ b ∈ F', b ∈ F ∨ W.heap.size ≤ b := by
  obtain ⟨F', fm, O, s5, r5, gn5⟩ := hT.open h.rels h.gn
  have hub := h.ub.lt
  refine ⟨F', ⟨fm, fun b hb => ?_, r5, gn5, O.kp h.kp h.new, h.ub.only O h.un, fun hc => ?_, h.uw, h.ug, h.rd.only O (fun a ha => (h.an a ha).2.1), fun a ha => ⟨Nat.lt_of_lt_of_le (h.an a ha).1 O.size, fun hc => ?_, (h.an a ha).2.2⟩⟩, O, s5⟩
  · rcases s5 b hb with e | e
    · exact h.new b e
    · exact Nat.le_trans h.kp.size e
  · rcases s5 _ hc with e | e
    · exact h.un e
    · omega
  · have := (h.an a ha).1
    rcases s5 _ hc with e | e
    · exact (h.an a ha).2.1 e
    · omega
theorem AlJ.keep {L0 : List Hp} (h : AlJ w f u W F L0 L A c) (k : Kp W W') : AlJ w f u W' F L0 L A c :=
  ⟨h.fm.keep k, h.new, h.rels.keep k, h.gn, h.kp.trans k, h.ub.keep k, h.un, h.uw, h.ug, h.rd.keep k, fun a ha => ⟨Nat.lt_of_lt_of_le (h.an a ha).1 k.size, (h.an a ha).2⟩⟩
/-- The reference's list is set to the table's. -/
theorem AlJ.set {L0 : List Hp} (h : AlJ w f u W F L0 L A c) (k : Kp W W') (hR : Rd W' 6 Hp.enc A' L) (hA : A' = A ∨ ∀ a, A' = some a → W.heap.size ≤ a.block ∧ a.block < W'.heap.size) : AlI w f u (W'.setCell ⟨u, 0, none⟩ (.slice A' L.length c')) F L A' c' := by
  have g := h.keep k
  have hub := h.ub.lt
  have O : Only [u] W' (W'.setCell ⟨u, 0, none⟩ (.slice A' L.length c')) := (Only.refl _ _).setCell (.inl (by simp)) _
  have hall : ∀ a, A' = some a → a.block < W'.heap.size ∧ a.block ∉ F ∧ a.block ≠ u := fun a ha => by
    rcases hA with rfl | hA
    · exact g.an a ha
    · have h1 := hA a ha
      exact ⟨h1.2, fun hc => by have := h.fm.lt _ hc; omega, by omega⟩
  refine ⟨g.fm.only O (fun b hb => by simp; intro e; subst e; exact g.un hb), g.new, g.rels.only O ?_, g.gn, O.kp g.kp (by simp; exact g.uw), g.ub.set_ 0 _, g.un, g.uw, g.ug, hR.only O (fun a ha => by simp; exact (hall a ha).2.2), fun a ha => ⟨?_, (hall a ha).2⟩⟩
  · simp only [List.mem_singleton]
    exact fun e => g.ug e.symm
  · simpa [World.setCell] using (hall a ha).1
end
end Go.Proofs.YtfaiponmjjbgoaaGreatDoor

/- FibAll: whatever the routes, the law returns true, and what was there stands. -/
namespace Go.Proofs.YtfaiponmjjbgoaaGreatDoor
open Go.RowKit
attribute [local go_sem] Oper.semAt_some

def rtA (r : Rt) : Array Value := #[.int .u32 r.p.a, .int .i64 r.p.l, .int .i64 r.s, .int .i64 r.m, .int .i64 r.l, .int .i64 r.f, .int .u32 r.x, .int .i64 r.d, .bool r.c]
def AlAll (w : World) (f u : Nat) (W : World) : Prop := ∃ F L A c, AlI w f u W F L A c
theorem AllMem.only {bx : Nat} {A : Option Addr} {c : Nat} {l : List Hp} {W W' : World} {bs : List Nat} (h : AllMem bx A c l W) (k : Only bs W W') (h1 : bx ∉ bs) (h2 : ∀ a, A = some a → a.block ∉ bs) : AllMem bx A c l W' := ⟨h.bx.only k h1, h.rd.only k h2⟩
theorem AllMem.keep {bx : Nat} {A : Option Addr} {c : Nat} {l : List Hp} {W W' : World} (h : AllMem bx A c l W) (k : Kp W W') : AllMem bx A c l W' := ⟨h.bx.keep k, h.rd.keep k⟩

set_option maxRecDepth 100000 in
set_option maxHeartbeats 8000000 in
theorem all_walk (A : Option Addr) (c : Nat) (rs : List Rt) (many : Int) (r : Rt) (w : World) (hG : RelsAt w) (hR : Rd w 9 Rt.enc A rs) (hn : rs.length ≤ 20) (hfit : ∀ r ∈ rs, r.fits) (hr : r.fits) :
    Calls Tryz.prog 3 #[.slice A rs.length c, .int .i64 many, .agg (rtA r)] w fun e w' => e = .returned (.bool true) ∧ Kp w w' := by
  obtain ⟨W, hW, kW, B0⟩ : ∃ W, w.alloc (.cells (rtA r) 29) = W ∧ Kp w W ∧ Blk W w.heap.size 29 (rtA r) := ⟨_, rfl, (Kp.refl _).alloc _, Blk.new w _ _⟩
  have HG := Lib.hid (hG.keep kW)
  have HR := Lib.hid (hR.keep kW)
  have Hfit := Lib.hid hfit
  have Hr := Lib.hid hr
  clear hG hR hfit hr
  have hd : decide ((20 : Int) < rs.length) = false := by simp; omega
  have hd' : decide (20 < rs.length) = false := by simp; omega
  unfold rtA at hW B0 ⊢
  go_enter Tryz.func3, Tryz.ntmps3
  go_wp2_with fail
  refine (fnew_any W).mono ?_
  rintro e w1 ⟨f, F0, rfl, hM, hK, hF⟩
  have hlF := hM.lt
  have hgl := rels_lt HG.out
  have hI : AlAll W f w1.heap.size (w1.alloc (.cells #[.slice none 0 0] 35)) :=
    ⟨F0, [], none, 0, ⟨hM.keep ((Kp.refl _).alloc _), hF, HG.out.keep (hK.alloc _), fun hc => by have := hF _ hc; omega, hK.alloc _, Blk.new w1 _ _, fun hc => by have := hlF _ hc; omega, hK.size, by have := hK.size; omega, Rd.nil _ _ _ _, fun a ha => by cases ha⟩⟩
  have HI := Lib.hid hI
  clear hM hK hF hlF hI hgl
  go_wp2_with fail
  go_loopw [9] (fun i wr => ∃ k : Nat, k ≤ rs.length ∧ i = .int .i64 k ∧ Hid (AlAll W f w1.heap.size wr)) (fun i _ => rs.length - (intOf i).toNat)
  case atStart => exact ⟨0, Nat.zero_le _, rfl, HI⟩
  case round =>
    obtain ⟨k, hk, rfl, hA⟩ := hrel
    obtain ⟨F, L, A1, c1, I⟩ := hA.out
    have HII := Lib.hid I
    by_cases hlt : k < rs.length
    · obtain ⟨b, off, hb, x0, x1, x2, x3, x4, x5, x6, x7, x8⟩ := rt_at (HR.out.keep I.kp) hlt
      subst hb
      obtain ⟨q, hq⟩ : ∃ q, rs[k] = q := ⟨_, rfl⟩
      rw [hq] at x0 x1 x2 x3 x4 x5 x6 x7 x8
      have hqf := Hfit.out q (by rw [← hq]; exact List.getElem_mem _)
      have Hq := Lib.hid hqf
      have Hqe := Lib.hid hq
      clear hq hqf I
      go_wp2_with fail
      have ha : ∀ o, Kp wr (wr.alloc o) := fun o => (Kp.refl _).alloc o
      have hlF := HII.out.fm.lt
      refine (Come_any f F L [q] (some ⟨wr.heap.size, 0, none⟩) 1 _ (HII.out.rels.keep (ha _)) HII.out.gn (HII.out.fm.keep (ha _)) (Rd.one wr q) (fun _ a ha hc => by injection ha with ha; subst ha; have h9 : wr.heap.size < wr.heap.size := hlF _ hc; omega) (by simp) (by simpa using Hq.out)).mono ?_
      rintro e w5 ⟨rfl, hT⟩
      obtain ⟨F5, hJ, hO, hS⟩ := (HII.out.keep (ha _)).come hT
      rw [runL_one] at hJ
      have HJ := Lib.hid hJ
      have hRk := rt_at (HR.out.keep hJ.kp) hlt
      rw [Hqe.out] at hRk
      obtain ⟨b2, off2, hb2, y0, y1, y2, y3, y4, y5, y6, y7, y8⟩ := hRk
      injection hb2 with hb2
      injection hb2 with hb3 hb4
      subst hb3 hb4
      have u0 : w5.cell? ⟨w1.heap.size, 0, none⟩ = some (.slice A1 L.length c1) := hJ.ub.cell 0
      have z0 := hJ.ub.frozen 0
      have hLu := HII.out.fm.up
      have HLu := Lib.hid hLu
      clear hT hJ hO hS hlF ha x0 x1 x2 x3 x4 x5 x6 x7 x8 hLu
      go_wp2_with fail
      go_region_with (go_at_call 9; refine (one_any A1 c1 L q _ (HJ.out.rd.keep (Kp.refl _).drew) HLu.out.2 Hq.out.1 Hq.out.2 HLu.out.1).mono ?_; rintro e w6 ⟨A2, c2, rfl, hR2, hK2, hA2⟩; have v0 : w6.cell? ⟨w1.heap.size, 0, none⟩ = some (.slice A1 L.length c1) := ((Kp.refl w5).drew.trans hK2).cell u0; have zz0 : w6.frozen? ⟨w1.heap.size, 0, none⟩ = false := (((Kp.refl w5).drew.trans hK2).frozen u0).trans z0; have HR2 := Lib.hid hR2; have HA2 := Lib.hid hA2; clear hR2 hA2)
      all_goals
        go_wp2_with fail
        go_roundw
        case rel => exact ⟨k + 1, by omega, by go_num, Lib.hid ⟨_, _, _, _, HJ.out.set ((Kp.refl w5).drew.trans hK2) HR2.out HA2.out⟩⟩
        case measure => simp [intOf]; omega
    · obtain rfl : k = rs.length := by omega
      clear hA I
      go_wp2_with fail
      refine (all_any f F L wr HII.out.fm).mono ?_
      rintro e w3 ⟨bx, A2, c2, rfl, hD, hK3, hbx, hA2⟩
      have HI3 := Lib.hid (HII.out.keep hK3)
      have HD := Lib.hid hD
      have Hbx := Lib.hid hbx
      have HA2 := Lib.hid hA2
      clear hD hbx hA2
      have B3 := B0.keep (HII.out.kp.trans hK3)
      have y0 : w3.cell? ⟨w.heap.size, 0, none⟩ = some (.int .u32 r.p.a) := B3.cell 0
      have y1 : w3.cell? ⟨w.heap.size, 1, none⟩ = some (.int .i64 r.p.l) := B3.cell 1
      have y2 : w3.cell? ⟨w.heap.size, 2, none⟩ = some (.int .i64 r.s) := B3.cell 2
      have y3 : w3.cell? ⟨w.heap.size, 3, none⟩ = some (.int .i64 r.m) := B3.cell 3
      have y4 : w3.cell? ⟨w.heap.size, 4, none⟩ = some (.int .i64 r.l) := B3.cell 4
      have y5 : w3.cell? ⟨w.heap.size, 5, none⟩ = some (.int .i64 r.f) := B3.cell 5
      have y6 : w3.cell? ⟨w.heap.size, 6, none⟩ = some (.int .u32 r.x) := B3.cell 6
      have y7 : w3.cell? ⟨w.heap.size, 7, none⟩ = some (.int .i64 r.d) := B3.cell 7
      have y8 : w3.cell? ⟨w.heap.size, 8, none⟩ = some (.bool r.c) := B3.cell 8
      clear B3
      unfold allV
      go_wp2_with fail
      have ha : ∀ o, Kp w3 (w3.alloc o) := fun o => (Kp.refl _).alloc o
      have hlF := HII.out.fm.lt
      have hlF3 := HI3.out.fm.lt
      refine (Come_any f F L [r] (some ⟨w3.heap.size, 0, none⟩) 1 _ (HI3.out.rels.keep (ha _)) HI3.out.gn (HI3.out.fm.keep (ha _)) (Rd.one w3 r) (fun _ a ha hc => by injection ha with ha; subst ha; have h9 : w3.heap.size < w3.heap.size := hlF3 _ hc; omega) (by simp) (by simpa using Hr.out)).mono ?_
      rintro e w5 ⟨rfl, hT⟩
      obtain ⟨F5, hJ, hO, hS⟩ := (HI3.out.keep (ha _)).come hT
      have HJ := Lib.hid hJ
      have hD5 : AllMem bx A2 c2 L w5 := (HD.out.keep (ha _)).only hO (fun hc => by have := hlF _ hc; have := Hbx.out; omega) (fun a ha hc => by have := hlF _ hc; have := HA2.out a ha; omega)
      have HD5 := Lib.hid hD5
      have u0 : w5.cell? ⟨w1.heap.size, 0, none⟩ = some (.slice A1 L.length c1) := hJ.ub.cell 0
      have hLu := HII.out.fm.up.2
      clear hT hJ hO hS hlF hlF3 ha y0 y1 y2 y3 y4 y5 y6 y7 y8 hD5
      go_wp2_with fail
      refine (rows_any bx A2 c2 A1 c1 L many w5 HD5.out HJ.out.rd hLu).mono ?_
      rintro e w6 ⟨rfl, hK6⟩
      have u6 : w6.cell? ⟨w1.heap.size, 0, none⟩ = some (.slice A1 L.length c1) := hK6.cell u0
      clear u0
      go_wp2_with fail
      refine (rows_any bx A2 c2 A1 c1 L 999 w6 (HD5.out.keep hK6) (HJ.out.rd.keep hK6) hLu).mono ?_
      rintro e w7 ⟨rfl, hK7⟩
      go_wp2_with fail
      refine (works_any _ (HJ.out.rels.keep (hK6.trans hK7))).mono ?_
      rintro e w8 ⟨rfl, hK8⟩
      go_wp2_with fail
      go_ret
      exact ⟨rfl, (((kW.trans HJ.out.kp).trans hK6).trans hK7).trans hK8⟩

set_option maxRecDepth 100000 in
set_option maxHeartbeats 2000000 in
theorem all_law (A : Option Addr) (c : Nat) (rs : List Rt) (many : Int) (r : Rt) (w : World) (hG : RelsAt w) (hR : Rd w 9 Rt.enc A rs) (hfit : ∀ r ∈ rs, r.fits) (hr : r.fits) :
    Calls Tryz.prog 3 #[.slice A rs.length c, .int .i64 many, .agg (rtA r)] w fun e w' => e = .returned (.bool true) ∧ Kp w w' := by
  by_cases hn : rs.length ≤ 20
  · exact all_walk A c rs many r w hG hR hn hfit hr
  · have hd : decide ((20 : Int) < rs.length) = true := by simp; omega
    have hd' : decide (20 < rs.length) = true := by simp; omega
    have kW : Kp w (w.alloc (.cells (rtA r) 29)) := (Kp.refl _).alloc _
    have HG := Lib.hid (hG.keep kW)
    clear hG hR hfit hr hn
    unfold rtA at kW HG ⊢
    go_enter Tryz.func3, Tryz.ntmps3
    go_wp2_with fail
    refine (works_any _ HG.out).mono ?_
    rintro e w' ⟨rfl, hK⟩
    go_wp2_with fail
    go_ret
    exact ⟨rfl, kW.trans hK⟩
end Go.Proofs.YtfaiponmjjbgoaaGreatDoor

/- Routes among a law's arguments, opened. -/
namespace Go.Proofs.YtfaiponmjjbgoaaGreatDoor
open Go.ChangeShapes Go.WideShapes Go.ChangeAt Go.RowKit Go.Joins Go.Deep

theorem len9 {l : List Value} (h : l.length = 9) : ∃ c0 c1 c2 c3 c4 c5 c6 c7 c8, l = [c0, c1, c2, c3, c4, c5, c6, c7, c8] := by
  match l, h with
  | [c0, c1, c2, c3, c4, c5, c6, c7, c8], _ => exact ⟨c0, c1, c2, c3, c4, c5, c6, c7, c8, rfl⟩
theorem len8 {α : Type} {l : List α} (h : l.length = 8) : ∃ c0 c1 c2 c3 c4 c5 c6 c7, l = [c0, c1, c2, c3, c4, c5, c6, c7] := by
  match l, h with
  | [c0, c1, c2, c3, c4, c5, c6, c7], _ => exact ⟨c0, c1, c2, c3, c4, c5, c6, c7, rfl⟩
theorem two_of {α : Type} {l : List α} (h : l.length = 2) : ∃ a b, l = [a, b] := by
  match l, h with
  | [a, b], _ => exact ⟨a, b, rfl⟩
theorem nat_of_u32 {n : Int} (h : (Lit.int .u32 n).wf = true) : ∃ a : Nat, n = (a : Int) ∧ a < 4294967296 := by
  simp [Lit.wf, IntKind.min, IntKind.max, IntKind.bits, IntKind.signed] at h
  exact ⟨n.toNat, by omega, by omega⟩

section
variable {H : Type} {enc : TypeId × Value → H}
set_option maxRecDepth 100000 in
theorem pfx_of {W : World} {base : Nat} {sp : Nat → Bool} {held : Bool} (cs : List Value) (n : Nat) (x : DataW H × List MemPlace) (h : DataW.trod enc Tryz.prog W base sp held n 26 cs = some x) : ∃ (a : Nat) (l : Int), cs = [.int .u32 a, .int .i64 l] ∧ a < 4294967296 := by
  obtain ⟨xs, m, _, _, hl, hlen, hf⟩ := DataW.trod_struct Tryz.underlying26 h
  have hC : Tryz.prog.cellsOf 26 = 2 := by kernel_rfl
  have hCi : Tryz.prog.cellsOf 3 = 1 := by kernel_rfl
  have hCa : Tryz.prog.cellsOf 24 = 1 := by kernel_rfl
  rw [hC] at hl
  obtain ⟨c0, c1, rfl⟩ := two_of hl
  obtain ⟨y0, y1, rfl⟩ := two_of hlen
  have e0 : DataW.trod enc Tryz.prog W base sp held m 24 [c0] = some y0 := by
    have this : DataW.trod enc Tryz.prog W base sp held m 24 (([c0, c1].drop 0).take (Tryz.prog.cellsOf 24)) = some y0 := hf 0 _ rfl
    rw [hCa] at this; exact this
  have e1 : DataW.trod enc Tryz.prog W base sp held m 3 [c1] = some y1 := by
    have this : DataW.trod enc Tryz.prog W base sp held m 3 (([c0, c1].drop 1).take (Tryz.prog.cellsOf 3)) = some y1 := hf 1 _ rfl
    rw [hCi] at this; exact this
  obtain ⟨a, ha, _, hw⟩ := DataW.trod_int Tryz.underlying24 e0
  obtain ⟨b, hb, _⟩ := DataW.trod_int Tryz.underlying3 e1
  simp at ha hb
  subst ha hb
  obtain ⟨a', rfl, hlt⟩ := nat_of_u32 hw
  exact ⟨a', b, rfl, hlt⟩

set_option maxRecDepth 100000 in
theorem route_of {W : World} {base : Nat} {sp : Nat → Bool} {held : Bool} (cs : List Value) (n : Nat) (x : DataW H × List MemPlace) (h : DataW.trod enc Tryz.prog W base sp held n 29 cs = some x) : ∃ y : Rt, cs = y.enc ∧ y.fits := by
  obtain ⟨xs, m, _, _, hl, hlen, hf⟩ := DataW.trod_struct Tryz.underlying29 h
  have hC : Tryz.prog.cellsOf 29 = 9 := by kernel_rfl
  have hCp : Tryz.prog.cellsOf 26 = 2 := by kernel_rfl
  have hCs : Tryz.prog.cellsOf 27 = 1 := by kernel_rfl
  have hCi : Tryz.prog.cellsOf 3 = 1 := by kernel_rfl
  have hCl : Tryz.prog.cellsOf 2 = 1 := by kernel_rfl
  have hCa : Tryz.prog.cellsOf 24 = 1 := by kernel_rfl
  have hCb : Tryz.prog.cellsOf 4 = 1 := by kernel_rfl
  rw [hC] at hl
  obtain ⟨c0, c1, c2, c3, c4, c5, c6, c7, c8, rfl⟩ := len9 hl
  obtain ⟨y0, y1, y2, y3, y4, y5, y6, y7, rfl⟩ := len8 hlen
  clear hl hlen hC h
  have e0 : DataW.trod enc Tryz.prog W base sp held m 26 [c0, c1] = some y0 := by
    have this : DataW.trod enc Tryz.prog W base sp held m 26 (([c0, c1, c2, c3, c4, c5, c6, c7, c8].drop 0).take (Tryz.prog.cellsOf 26)) = some y0 := hf 0 _ rfl
    rw [hCp] at this; exact this
  have e1 : DataW.trod enc Tryz.prog W base sp held m 27 [c2] = some y1 := by
    have this : DataW.trod enc Tryz.prog W base sp held m 27 (([c0, c1, c2, c3, c4, c5, c6, c7, c8].drop 2).take (Tryz.prog.cellsOf 27)) = some y1 := hf 1 _ rfl
    rw [hCs] at this; exact this
  have e2 : DataW.trod enc Tryz.prog W base sp held m 3 [c3] = some y2 := by
    have this : DataW.trod enc Tryz.prog W base sp held m 3 (([c0, c1, c2, c3, c4, c5, c6, c7, c8].drop 3).take (Tryz.prog.cellsOf 3)) = some y2 := hf 2 _ rfl
    rw [hCi] at this; exact this
  have e3 : DataW.trod enc Tryz.prog W base sp held m 3 [c4] = some y3 := by
    have this : DataW.trod enc Tryz.prog W base sp held m 3 (([c0, c1, c2, c3, c4, c5, c6, c7, c8].drop 4).take (Tryz.prog.cellsOf 3)) = some y3 := hf 3 _ rfl
    rw [hCi] at this; exact this
  have e4 : DataW.trod enc Tryz.prog W base sp held m 3 [c5] = some y4 := by
    have this : DataW.trod enc Tryz.prog W base sp held m 3 (([c0, c1, c2, c3, c4, c5, c6, c7, c8].drop 5).take (Tryz.prog.cellsOf 3)) = some y4 := hf 4 _ rfl
    rw [hCi] at this; exact this
  have e5 : DataW.trod enc Tryz.prog W base sp held m 24 [c6] = some y5 := by
    have this : DataW.trod enc Tryz.prog W base sp held m 24 (([c0, c1, c2, c3, c4, c5, c6, c7, c8].drop 6).take (Tryz.prog.cellsOf 24)) = some y5 := hf 5 _ rfl
    rw [hCa] at this; exact this
  have e6 : DataW.trod enc Tryz.prog W base sp held m 2 [c7] = some y6 := by
    have this : DataW.trod enc Tryz.prog W base sp held m 2 (([c0, c1, c2, c3, c4, c5, c6, c7, c8].drop 7).take (Tryz.prog.cellsOf 2)) = some y6 := hf 6 _ rfl
    rw [hCl] at this; exact this
  have e7 : DataW.trod enc Tryz.prog W base sp held m 4 [c8] = some y7 := by
    have this : DataW.trod enc Tryz.prog W base sp held m 4 (([c0, c1, c2, c3, c4, c5, c6, c7, c8].drop 8).take (Tryz.prog.cellsOf 4)) = some y7 := hf 7 _ rfl
    rw [hCb] at this; exact this
  clear hf
  obtain ⟨a, l, hp, hpl⟩ := pfx_of _ _ _ e0
  obtain ⟨s, hs, _⟩ := DataW.trod_int Tryz.underlying27 e1
  obtain ⟨mm, hm, _⟩ := DataW.trod_int Tryz.underlying3 e2
  obtain ⟨ll, hll, _⟩ := DataW.trod_int Tryz.underlying3 e3
  obtain ⟨f, hff, _⟩ := DataW.trod_int Tryz.underlying3 e4
  obtain ⟨xx, hx, _, hw⟩ := DataW.trod_int Tryz.underlying24 e5
  obtain ⟨d, hd, _⟩ := DataW.trod_int Tryz.underlying2 e6
  obtain ⟨b, hb, _⟩ := DataW.trod_bool Tryz.underlying4 e7
  clear e0 e1 e2 e3 e4 e5 e6 e7
  simp only [List.cons.injEq, and_true] at hp hs hm hll hff hx hd hb
  obtain ⟨x', rfl, hlt⟩ := nat_of_u32 hw
  obtain ⟨rfl, rfl⟩ := hp
  subst hs hm hll hff hx hd hb
  exact ⟨⟨⟨a, l⟩, s, mm, ll, f, x', d, b⟩, rfl, hpl, hlt⟩

set_option maxRecDepth 100000 in
theorem open_route {W : World} {base : Nat} {v : Value} {d : DataW H} {p : List MemPlace} (hv : Value.okWide Tryz.prog W .any base 29 v) (h : DataW.Trod enc Tryz.prog W 0 (fun _ => true) true 29 v d p) : ∃ r : Rt, v = .agg (rtA r) ∧ r.fits := by
  obtain ⟨cs, rfl, hsz⟩ := okWide_struct Tryz.underlying29 hv
  obtain ⟨fuel, hf⟩ := h
  obtain ⟨r, hr, hfit⟩ := route_of _ _ _ hf
  refine ⟨r, ?_, hfit⟩
  have : cs = r.enc.toArray := by
    apply Array.ext'
    simpa [Value.cells] using hr
  rw [this]
  rfl
set_option maxRecDepth 100000 in
theorem open_routes {W : World} {base : Nat} {v : Value} {d : DataW H} {p : List MemPlace} (hv : Value.okWide Tryz.prog W .any base 22 v) (h : DataW.Trod enc Tryz.prog W 0 (fun _ => true) true 22 v d p) : ∃ A c rs, v = .slice A rs.length c ∧ Rd W 9 Rt.enc A rs ∧ ∀ r ∈ rs, r.fits := by
  obtain ⟨a, l, cp, rfl⟩ := okWide_slice Tryz.underlying22 hv
  obtain ⟨n, h⟩ := h
  obtain ⟨A, c, ls, hl, _, hrd, hg⟩ := rd_of_slice (sz := 9) Rt.enc Rt.fits (fun _ => rfl) Tryz.underlying22 (by kernel_rfl) (by omega) route_of h
  exact ⟨A, c, ls, hl, hrd, hg⟩
end
end Go.Proofs.YtfaiponmjjbgoaaGreatDoor

/- What the listed variable gives the walks. -/
namespace Go.Proofs.YtfaiponmjjbgoaaGreatDoor
open Go.ChangeShapes Go.WideShapes Go.ChangeAt Go.RowKit

theorem gRels : Tryz.prog.globalNamed "waywarden/prefix.rels" = some 0 := by kernel_rfl
theorem tRels : (Tryz.prog.globals[0]?).map (·.type) = some 232 := by kernel_rfl
def relsLaid : List (String × DataW Unit) := [("waywarden/prefix.rels", Rows.laid_waywarden_prefix_rels)]

theorem rel_one {H : Type} {enc : TypeId × Value → H} {W : World} {base fuel : Nat} {sp : Nat → Bool} {held : Bool} {c : List Value} {p : List MemPlace} {a : Int}
    (h : DataW.trod enc Tryz.prog W base sp held fuel 216 c = some (.lit (.int .i64 a), p)) : c = [.int .i64 a] := by
  obtain ⟨n, e1, e2, _⟩ := DataW.trod_int Tryz.underlying216 h
  simp only [Prod.mk.injEq, DataW.lit.injEq, Lit.int.injEq] at e2
  rw [e1, e2.1.2]
theorem len2 {l : List Value} (h : l.length = 2) : ∃ a b, l = [a, b] := by
  match l, h with
  | [a, b], _ => exact ⟨a, b, rfl⟩
theorem len4 {l : List Value} (h : l.length = 4) : ∃ a b c d, l = [a, b, c, d] := by
  match l, h with
  | [a, b, c, d], _ => exact ⟨a, b, c, d, rfl⟩
set_option maxRecDepth 100000 in
theorem rel_row {H : Type} {enc : TypeId × Value → H} {W : World} {base fuel : Nat} {sp : Nat → Bool} {held : Bool} {c : List Value} {p : List MemPlace} {a b : Int}
    (h : DataW.trod enc Tryz.prog W base sp held fuel 231 c = some (.agg [.lit (.int .i64 a), .lit (.int .i64 b)], p)) : c = [.int .i64 a, .int .i64 b] := by
  obtain ⟨xs, m, rfl, hx, hlen, hn, hel⟩ := DataW.trod_array Tryz.underlying231 h
  have c1 : Tryz.prog.cellsOf 216 = 1 := by kernel_rfl
  have c2 : Tryz.prog.cellsOf 231 = 2 := by kernel_rfl
  rw [c2] at hlen
  rw [c1] at hel
  have h0 := hel 0 (by decide)
  have h1 := hel 1 (by decide)
  match xs, hn, hx, h0, h1 with
  | [(x0, p0), (x1, p1)], _, hx, h0, h1 =>
    simp only [List.map_cons, List.map_nil, Prod.mk.injEq, DataW.agg.injEq, List.cons.injEq, and_true] at hx
    obtain ⟨⟨rfl, rfl⟩, _⟩ := hx
    have e0 := rel_one (show DataW.trod _ Tryz.prog W _ _ _ m _ _ = some (_, p0) from h0)
    have e1 := rel_one (show DataW.trod _ Tryz.prog W _ _ _ m _ _ = some (_, p1) from h1)
    obtain ⟨u, v, rfl⟩ := len2 hlen
    simp at e0 e1
    rw [e0, e1]
set_option maxRecDepth 100000 in
theorem rels_of_laid {W : World} (h : laidMetH Tryz.prog relsLaid W) : RelsAt W := by
  unfold relsLaid at h
  rw [MakeChecks.laidMetH_plain _ _ _ (by kernel_rfl)] at h
  obtain ⟨ps, ⟨g0, t0, cs0, f0, p0, q0, hg0, ht0, hv0, hd0, _, _⟩, _, _⟩ := h
  obtain rfl := Option.some.inj (gRels.symm.trans hg0)
  obtain rfl := Option.some.inj (tRels.symm.trans ht0)
  obtain ⟨xs, m, rfl, hx, hlen, hn, hel⟩ := DataW.trod_array Tryz.underlying232 hd0
  have c2 : Tryz.prog.cellsOf 231 = 2 := by kernel_rfl
  have c4 : Tryz.prog.cellsOf 232 = 4 := by kernel_rfl
  rw [c4] at hlen
  rw [c2] at hel
  have h0 := hel 0 (by decide)
  have h1 := hel 1 (by decide)
  have r0 := World.var?_cell hg0 hv0 0
  have r1 := World.var?_cell hg0 hv0 1
  have r2 := World.var?_cell hg0 hv0 2
  have r3 := World.var?_cell hg0 hv0 3
  match xs, hn, hx, h0, h1 with
  | [(x0, p0), (x1, p1)], _, hx, h0, h1 =>
    simp only [Rows.laid_waywarden_prefix_rels, List.map_cons, List.map_nil, Prod.mk.injEq, DataW.agg.injEq, List.cons.injEq, and_true] at hx
    obtain ⟨⟨rfl, rfl⟩, _⟩ := hx
    have e0 := rel_row (show DataW.trod _ Tryz.prog W _ _ _ m _ _ = some (_, p0) from h0)
    have e1 := rel_row (show DataW.trod _ Tryz.prog W _ _ _ m _ _ = some (_, p1) from h1)
    obtain ⟨l⟩ := cs0
    obtain ⟨a, b, c, d, rfl⟩ := len4 hlen
    simp at e0 e1 r0 r1 r2 r3
    obtain ⟨rfl, rfl⟩ := e0
    obtain ⟨rfl, rfl⟩ := e1
    exact ⟨r0, r1, r2, r3⟩
theorem door_met (os : Os) (args : Array Value) : laidMetH Tryz.prog relsLaid ((World.doorLaid Tryz.prog 400 os).forCall (fun _ _ => 0) ⟨#[], args, []⟩).memory :=
  laidMetH_of_parts3 (fuel := 8) (laidMet_of_run' 8 (by kernel_rfl) (by kernel_rfl)) (by kernel_rfl) (by kernel_rfl)
end Go.Proofs.YtfaiponmjjbgoaaGreatDoor

namespace Go.Proofs.YtfaiponmjjbgoaaGreatDoor
open Go Go.ChangeShapes Go.WideShapes Go.ChangeAt Go.RowKit Go.Joins Go.Deep

set_option maxRecDepth 100000 in
theorem fibAll_lifted (os : Os) (started : os.Started) (H : Type) (enc : TypeId × Value → H) :
    ReturnsInHanded {} Tryz.checked os 3 .any (fun w args => (Rows.fibAllSpec.pre enc Tryz.prog Tryz.f3 [] false w args ∧ laidMetH Tryz.prog relsLaid w) ∧ sizedMet enc Tryz.prog Tryz.f3 (OpenSpec.ofChange Rows.fibAllSpec) false w args)
      (Rows.fibAllSpec.post enc Tryz.prog Tryz.f3 false true false false) := by
  refine returnsInHanded_of_change_and (C := Tryz.checked) (X := fun w _ => laidMetH Tryz.prog relsLaid w) (fun _ _ _ hh h => h.of_heap hh) Tryz.own started (by kernel_rfl) Tryz.func3
    (ChangeSpec.witness_shaped (enc := enc) (C := Tryz.checked) (os := os) (X := fun w _ => laidMetH Tryz.prog relsLaid w) false (World.doorLaid Tryz.prog 400 os) #[.slice none 0 0, .int .i64 0, .agg (rtA ⟨⟨0, 0⟩, 0, 0, 0, 0, 0, 0, false⟩)] 8 rfl (World.shaped_of_RefB (by kernel_rfl) (by kernel_rfl)) (by kernel_rfl) (by kernel_rfl) (by kernel_rfl) (door_met os _)) ?_
  intro W base args ds gs before hval0 hW _ _ hL _
  have hval : ∀ (j : Nat) t v, Tryz.f3.params[j]? = some t → args[j]? = some v → Value.okWide Tryz.prog W .any base t v := hval0
  have hW' := hW
  obtain ⟨p, q, hA0, hV, rfl, hfz, hnd⟩ := hW
  have hA : DataW.TrodAll enc Tryz.prog W 0 (fun _ => true) true Tryz.f3.params.toList args.toList ds p := hA0
  rw [Tryz.params3] at hA hval
  obtain ⟨v0, v1, v2, d0, d1, d2, p0, p1, p2, rfl, rfl, rfl, h0, h1, h2⟩ := trodAll_three hA
  obtain ⟨rfl, rfl⟩ := trodVars_none hV
  obtain ⟨A, c, rs, rfl, hrd, hfit⟩ := open_routes (hval 0 _ v0 rfl rfl) h0
  obtain ⟨a1, rfl, rfl, rfl, wf1⟩ := open_int Tryz.underlying3 (hval 1 _ v1 rfl rfl) h1
  obtain ⟨r, rfl, hr⟩ := open_route (hval 2 _ v2 rfl rfl) h2
  clear hA0 hval0
  refine (all_law A c rs a1 r W (rels_of_laid hL) hrd hfit hr).mono fun e W' ⟨he, hK⟩ => ?_
  subst he
  refine ⟨_, rfl, law_post hW' rfl rfl rfl rfl rfl ?_ hK⟩
  intro t ht
  rw [Tryz.params3] at ht
  simp only [List.mem_cons, List.not_mem_nil, or_false] at ht
  rcases ht with rfl | rfl | rfl <;> exact ⟨by kernel_rfl, of_decide_eq_true (by kernel_rfl)⟩

theorem fibAll_holds : Rows.FibAllSaid :=
  OpenClaim.holds_of_wide 3 Tryz.f3 rfl rfl rfl rfl rfl rfl rfl ⟨rfl, rfl, rfl, rfl, rfl⟩ rfl rfl rfl rfl rfl (by kernel_rfl) Tryz.func3 (by kernel_rfl)
    (of_decide_eq_true (by kernel_rfl)) (by unfold Func.isWrapper; first | (rw [if_pos (by decide +kernel)]; kernel_rfl) | (rw [if_neg (by decide +kernel)]; exact ⟨rfl, rfl⟩))
    (fun os started H enc _ => fibAll_lifted os started H enc)

theorem fibAll_card_holds : Rows.FibAllCardSaid :=
  Claim7.holds_tied_plain_at .later [] [.data] true (true, "89544b4481af1fe2b1dcb90f9884f3ae7a5bb5c016065a8cb0c8ddfef58b9e85") true
    fibAll_holds (fun _ h => by cases h) (by kernel_rfl) (fun _ h => by cases h) fibAll_row_tie rfl ⟨rfl, rfl⟩ (by kernel_rfl) rfl
    (fun f fn hf hfn => by
      obtain rfl : f = 3 := Option.some.inj ((show Tryz.prog.funcNamed "waywarden/waywardenlaw13.FibAll" = some 3 by kernel_rfl).symm.trans hf) |>.symm
      obtain rfl : fn = Tryz.f3 := (Option.some.inj (Tryz.func3.symm.trans hfn)).symm
      exact ⟨by kernel_rfl, fun j t ht => by
        rw [Tryz.params3] at ht
        have hm : t ∈ [22, 3, 29] := by simpa using Array.mem_of_getElem? ht
        have hall : ([22, 3, 29].all fun u => !Tryz.prog.wantsStandIn u) = true := by kernel_rfl
        exact (show Tryz.prog.wantsStandIn t = false by simpa using List.all_eq_true.1 hall t hm)⟩)
    (by kernel_rfl)
end Go.Proofs.YtfaiponmjjbgoaaGreatDoor
