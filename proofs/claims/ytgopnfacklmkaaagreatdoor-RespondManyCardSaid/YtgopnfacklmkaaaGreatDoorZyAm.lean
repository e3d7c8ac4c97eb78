/- Lemmas and contracts for the theorem of this claim: HeapL, QueL, TmA, TmB, TmC, TmD, TmE. -/
import Derived.Test.YtgopnfacklmkaaaGreatDoorZyAl
import Derived.Maps.OwnSet
import Derived.DeepKeys4
import Derived.BigRegion
set_option linter.all false
set_option maxHeartbeats 16000000
namespace Go.Proofs.YtgopnfacklmkaaaGreatDoor
section
def parH (k : Nat) : Nat := (k - 1) / 2
def swH {α : Type} (f : Nat → α) (i j : Nat) : Nat → α := fun k => if k = i then f j else if k = j then f i else f k
theorem swH_l {α : Type} (f : Nat → α) (i j : Nat) : swH f i j i = f j := by unfold swH; rw [if_pos rfl]
theorem swH_r {α : Type} (f : Nat → α) (i j : Nat) : swH f i j j = f i := by
 unfold swH
 by_cases h : j = i
 ·rw [if_pos h, h]
 ·rw [if_neg h, if_pos rfl]
theorem swH_o {α : Type} (f : Nat → α) {i j k : Nat} (hi : k ≠ i) (hj : k ≠ j) : swH f i j k = f k := by unfold swH; rw [if_neg hi, if_neg hj]
theorem vav {k : Nat} (h : 0 < k) : parH k < k := by unfold parH; omega
theorem vfD {i j : Nat} (h : j = 2 * i + 1 ∨ j = 2 * i + 2) : parH j = i ∧ 0 < j := by unfold parH; omega
theorem vch {k i : Nat} (hk : 0 < k) (h : parH k = i) : k = 2 * i + 1 ∨ k = 2 * i + 2 := by unfold parH at h; omega
structure OrdH {α : Type} (lt : α → α → Bool) : Prop where
 asym : ∀ a b, lt a b = true → lt b a = false
 trans : ∀ a b c, lt b a = false → lt c b = false → lt c a = false
variable {α : Type} {lt : α → α → Bool}
def Heap (lt : α → α → Bool) (f : Nat → α) (n : Nat) : Prop := ∀ k, 0 < k → k < n → lt (f k) (f (parH k)) = false
structure HeapBut (lt : α → α → Bool) (f : Nat → α) (n b : Nat) : Prop where
 rel : ∀ k, 0 < k → k < n → k ≠ b → parH k ≠ b → lt (f k) (f (parH k)) = false
 grand : ∀ k, 0 < k → k < n → parH k = b → 0 < b → lt (f k) (f (parH b)) = false
structure UpH (lt : α → α → Bool) (f : Nat → α) (n j : Nat) : Prop where
 but : HeapBut lt f n j
 below : ∀ k, 0 < k → k < n → parH k = j → lt (f k) (f j) = false
theorem UpH.done {f : Nat → α} {n j : Nat} (h : UpH lt f n j) (hj : j = 0 ∨ lt (f j) (f (parH j)) = false) : Heap lt f n := by
 intro k h0 hn
 by_cases h1 : k = j
 ·subst h1
  rcases hj with hj | hj
  ·omega
  ·exact hj
 ·by_cases h2 : parH k = j
  ·rw [h2]; exact h.below k h0 hn h2
  ·exact h.but.rel k h0 hn h1 h2
theorem UpH.step (o : OrdH lt) {f : Nat → α} {n j : Nat} (h : UpH lt f n j) (h0 : 0 < j) (hn : j < n) (hl : lt (f j) (f (parH j)) = true) : UpH lt (swH f (parH j) j) n (parH j) := by
 have hp := vav h0
 refine ⟨⟨?_, ?_⟩, ?_⟩
 ·intro k k0 kn kne kp
  have hkj : k ≠ j := fun e => kp (by rw [e])
  rw [swH_o f kne hkj]
  by_cases hpj : parH k = j
  ·rw [hpj, swH_r]
   exact h.but.grand k k0 kn hpj h0
  ·rw [swH_o f kp hpj]
   exact h.but.rel k k0 kn hkj hpj
 ·intro k k0 kn kp p0
  have hpp := vav p0
  rw [swH_o (k := parH (parH j)) f (by omega) (by omega)]
  have hup : lt (f (parH j)) (f (parH (parH j))) = false := h.but.rel (parH j) p0 (by omega) (by omega) (by omega)
  by_cases hkj : k = j
  ·subst hkj
   rw [swH_r]
   exact hup
  ·have hkp : k ≠ parH j := by have := vav k0; omega
   rw [swH_o f hkp hkj]
   refine o.trans _ (f (parH j)) _ hup ?_
   have := h.but.rel k k0 kn hkj (by omega)
   rw [kp] at this
   exact this
 ·intro k k0 kn kp
  rw [swH_l]
  by_cases hkj : k = j
  ·subst hkj
   rw [swH_r]
   exact o.asym _ _ hl
  ·have hkp : k ≠ parH j := by have := vav k0; omega
   rw [swH_o f hkp hkj]
   have h3 := h.but.rel k k0 kn hkj (by omega)
   rw [kp] at h3
   exact o.trans _ (f (parH j)) _ (o.asym _ _ hl) h3
structure DownH (lt : α → α → Bool) (f : Nat → α) (n i0 i : Nat) : Prop where
 but : HeapBut lt f n i
 above : i ≠ i0 → 0 < i → lt (f i) (f (parH i)) = false
theorem DownH.stay {f : Nat → α} {n i0 i : Nat} (h : DownH lt f n i0 i) (hc : ∀ k, 0 < k → k < n → parH k = i → lt (f k) (f i) = false) : UpH lt f n i ∧ (i ≠ i0 → Heap lt f n) :=
 ⟨⟨h.but, hc⟩, fun hne => UpH.done ⟨h.but, hc⟩ (by
  by_cases h0 : i = 0
  ·exact .inl h0
  ·exact .inr (h.above hne (by omega)))⟩
theorem DownH.step (o : OrdH lt) {f : Nat → α} {n i0 i j : Nat} (h : DownH lt f n i0 i) (hj : j = 2 * i + 1 ∨ j = 2 * i + 2) (hn : j < n) (hl : lt (f j) (f i) = true) (hs : ∀ k, 0 < k → k < n → parH k = i → k ≠ j → lt (f k) (f j) = false) (hi0 : i0 ≤ i) : DownH lt (swH f i j) n i0 j ∧ i0 < j := by
 obtain ⟨hp, j0⟩ := vfD hj
 have hij : i < j := by omega
 refine ⟨⟨⟨?_, ?_⟩, ?_⟩, by omega⟩
 ·intro k k0 kn kne kp
  by_cases hki : k = i
  ·subst hki
   have := vav k0
   rw [swH_l, swH_o (k := parH k) f (by omega) (by omega)]
   exact h.but.grand j j0 hn hp k0
  ·rw [swH_o f hki kne]
   by_cases hpi : parH k = i
   ·rw [hpi, swH_l]
    exact hs k k0 kn hpi kne
   ·rw [swH_o f hpi kp]
    exact h.but.rel k k0 kn hki hpi
 ·intro k k0 kn kp _
  have := vav k0
  rw [hp, swH_l, swH_o (k := k) f (by omega) (by omega)]
  have h3 := h.but.rel k k0 kn (by omega) (by omega)
  rw [kp] at h3
  exact h3
 ·intro _ _
  rw [swH_r, hp, swH_l]
  exact o.asym _ _ hl
theorem Heap.less {f : Nat → α} {n m : Nat} (h : Heap lt f n) (hm : m ≤ n) : Heap lt f m := fun k h0 hk => h k h0 (by omega)
theorem Heap.push {f : Nat → α} {n : Nat} (h : Heap lt f n) : UpH lt f (n + 1) n :=
 ⟨⟨fun k h0 hn hk hp => h k h0 (by omega), fun k h0 hn hp hb => by have := vav h0; omega⟩, fun k h0 hn hp => by have := vav h0; omega⟩
theorem Heap.put (o : OrdH lt) {f g : Nat → α} {n i : Nat} (h : Heap lt f n) (hg : ∀ k, k < n → k ≠ i → g k = f k) (hi : i < n) : DownH lt g n i i :=
 ⟨⟨fun k h0 hn hk hp => by
   have := vav h0
   rw [hg k hn hk, hg (parH k) (by omega) hp]
   exact h k h0 hn,
  fun k h0 hn hp hb => by
   have h1 := vav h0
   have h2 := vav hb
   rw [hg k hn (by omega), hg (parH i) (by omega) (by omega)]
   have e := h k h0 hn
   rw [hp] at e
   exact o.trans _ (f i) _ (h i hb hi) e⟩,
  fun hne => absurd rfl hne⟩
end

section
structure Tw where
 k : Int
 p : PI
 d : Int
def ordT (r s : Tw) : Int := if cmpI r.d s.d ≠ 0 then cmpI r.d s.d else if cmpI r.k s.k ≠ 0 then cmpI r.k s.k else ordI r.p.a r.p.l s.p.a s.p.l
def ltT (r s : Tw) : Bool := decide (ordT r s < 0)
theorem vci {x y : Int} : cmpI x y < 0 ↔ x < y := by unfold cmpI; split <;> (try split) <;> omega
theorem vax {x y : Int} : cmpI x y = 0 ↔ x = y := by unfold cmpI; split <;> (try split) <;> omega
theorem veT {a l b k : Int} : ordI a l b k < 0 ↔ a < b ∨ (a = b ∧ l < k) := by
 unfold ordI
 split
 ·rename_i h
  rw [vax] at h
  rw [vci]
  omega
 ·rename_i h
  rw [vax] at h
  rw [vci]
  omega
theorem vgR {r s : Tw} : ltT r s = true ↔ r.d < s.d ∨ (r.d = s.d ∧ (r.k < s.k ∨ (r.k = s.k ∧ ((r.p.a : Int) < s.p.a ∨ ((r.p.a : Int) = s.p.a ∧ r.p.l < s.p.l))))) := by
 unfold ltT
 rw [decide_eq_true_eq]
 unfold ordT
 by_cases h1 : r.d = s.d
 ·rw [if_neg (by rw [Decidable.not_not, vax]; exact h1)]
  by_cases h2 : r.k = s.k
  ·rw [if_neg (by rw [Decidable.not_not, vax]; exact h2), veT]
   omega
  ·rw [if_pos (by rw [Ne, vax]; exact h2), vci]
   omega
 ·rw [if_pos (by rw [Ne, vax]; exact h1), vci]
  omega
theorem vgS {r s : Tw} : ltT r s = false ↔ ¬ (r.d < s.d ∨ (r.d = s.d ∧ (r.k < s.k ∨ (r.k = s.k ∧ ((r.p.a : Int) < s.p.a ∨ ((r.p.a : Int) = s.p.a ∧ r.p.l < s.p.l)))))) := by
 rw [← vgR]
 cases ltT r s <;> simp
theorem vaW : OrdH ltT := by
 constructor
 ·intro a b h
  rw [vgR] at h
  rw [vgS]
  omega
 ·intro a b c h1 h2
  rw [vgS] at h1 h2 ⊢
  omega
def swapL {α : Type} (l : List α) (i j : Nat) (hi : i < l.length) (hj : j < l.length) : List α := (l.set i l[j]).set j l[i]
theorem vay {α : Type} (l : List α) (i j : Nat) (hi : i < l.length) (hj : j < l.length) : (swapL l i j hi hj).length = l.length := by unfold swapL; simp
theorem vaK {α : Type} (l : List α) (i j : Nat) (hi : i < l.length) (hj : j < l.length) : (swapL l i j hi hj).Perm l := List.set_set_perm hi hj
theorem viv {α : Type} (l : List α) (d : α) (i j : Nat) (hi : i < l.length) (hj : j < l.length) : (fun k => (swapL l i j hi hj).getD k d) = swH (fun k => l.getD k d) i j := by
 funext k
 unfold swapL swH
 simp only [List.getD_eq_getElem?_getD, List.getElem?_set]
 by_cases h1 : k = i
 ·subst h1
  rw [if_pos rfl]
  by_cases h2 : j = k
  ·subst h2
   simp [hi]
  ·rw [if_neg h2]
   simp [hi, hj]
 ·rw [if_neg h1]
  by_cases h2 : k = j
  ·subst h2
   simp [hi, hj]
  ·rw [if_neg h2, if_neg (fun e => h2 e.symm), if_neg (fun e => h1 e.symm)]
end

section
open Go.RowKit
theorem vdz (x : Int) (w : World) : Calls Tryz.prog 359 #[.int .i64 x] w fun e w' => e = .returned (.bool false) ∧ w = w' := by
 go_enter Tryz.func359, Tryz.ntmps359
 go_wp2_with fail
 go_ret
 exact ⟨rfl, rfl⟩
theorem viw (x y : Int) (w : World) : Calls Tryz.prog 357 #[.int .i64 x, .int .i64 y] w fun e w' => e = .returned (.int .i64 (cmpI x y)) ∧ w = w' := by
 obtain ⟨r, hr⟩ : ∃ r, cmpI x y = r := ⟨_, rfl⟩
 rw [hr]
 have Hr := Lib.hid hr; clear hr
 by_cases h1 : x < y
 ·have d1 : decide (x < y) = true := by simpa using h1
  have e : r = -1 := by rw [← Hr.out]; simp [cmpI, h1]
  subst e
  clear h1 Hr
  go_enter Tryz.func357, Tryz.ntmps357
  go_wp2_with (go_at_call 359; refine (vdz _ _).mono ?_; rintro e w' ⟨rfl, rfl⟩)
  go_ret
  exact ⟨rfl, rfl⟩
 ·have d1 : decide (x < y) = false := by simpa using h1
  by_cases h2 : y < x
  ·have d2 : decide (y < x) = true := by simpa using h2
   have e : r = 1 := by rw [← Hr.out]; simp [cmpI, h1, h2]
   subst e
   clear h1 h2 Hr
   go_enter Tryz.func357, Tryz.ntmps357
   go_wp2_with (go_at_call 359; refine (vdz _ _).mono ?_; rintro e w' ⟨rfl, rfl⟩)
   go_ret
   exact ⟨rfl, rfl⟩
  ·have d2 : decide (y < x) = false := by simpa using h2
   have e : r = 0 := by rw [← Hr.out]; simp [cmpI, h1, h2]
   subst e
   clear h1 h2 Hr
   go_enter Tryz.func357, Tryz.ntmps357
   go_wp2_with (go_at_call 359; refine (vdz _ _).mono ?_; rintro e w' ⟨rfl, rfl⟩)
   go_ret
   exact ⟨rfl, rfl⟩
theorem vdA (x : Int) (w : World) : Calls Tryz.prog 360 #[.int .i64 x] w fun e w' => e = .returned (.bool false) ∧ w = w' := by
 go_enter Tryz.func360, Tryz.ntmps360
 go_wp2_with fail
 go_ret
 exact ⟨rfl, rfl⟩
theorem vix (x y : Int) (w : World) : Calls Tryz.prog 358 #[.int .i64 x, .int .i64 y] w fun e w' => e = .returned (.int .i64 (cmpI x y)) ∧ w = w' := by
 obtain ⟨r, hr⟩ : ∃ r, cmpI x y = r := ⟨_, rfl⟩
 rw [hr]
 have Hr := Lib.hid hr; clear hr
 by_cases h1 : x < y
 ·have d1 : decide (x < y) = true := by simpa using h1
  have e : r = -1 := by rw [← Hr.out]; simp [cmpI, h1]
  subst e
  clear h1 Hr
  go_enter Tryz.func358, Tryz.ntmps358
  go_wp2_with (go_at_call 360; refine (vdA _ _).mono ?_; rintro e w' ⟨rfl, rfl⟩)
  go_ret
  exact ⟨rfl, rfl⟩
 ·have d1 : decide (x < y) = false := by simpa using h1
  by_cases h2 : y < x
  ·have d2 : decide (y < x) = true := by simpa using h2
   have e : r = 1 := by rw [← Hr.out]; simp [cmpI, h1, h2]
   subst e
   clear h1 h2 Hr
   go_enter Tryz.func358, Tryz.ntmps358
   go_wp2_with (go_at_call 360; refine (vdA _ _).mono ?_; rintro e w' ⟨rfl, rfl⟩)
   go_ret
   exact ⟨rfl, rfl⟩
  ·have d2 : decide (y < x) = false := by simpa using h2
   have e : r = 0 := by rw [← Hr.out]; simp [cmpI, h1, h2]
   subst e
   clear h1 h2 Hr
   go_enter Tryz.func358, Tryz.ntmps358
   go_wp2_with (go_at_call 360; refine (vdA _ _).mono ?_; rintro e w' ⟨rfl, rfl⟩)
   go_ret
   exact ⟨rfl, rfl⟩
def or3 (x y z : Int) : Int := if x ≠ 0 then x else if y ≠ 0 then y else z
set_option maxRecDepth 100000 in
theorem viy (x y z : Int) (g : Nat) (w : World) (hB : Blk w g 3 #[.int .i64 x, .int .i64 y, .int .i64 z]) : Calls Tryz.prog 208 #[.slice (some ⟨g, 0, none⟩) 3 3] w fun e w' => e = .returned (.int .i64 (or3 x y z)) ∧ w = w' := by
 obtain ⟨c0, c1, c2⟩ := Blk.v3 hB (.int .i64 x) (.int .i64 y) (.int .i64 z) rfl
 clear hB
 obtain ⟨r, hr⟩ : ∃ r, or3 x y z = r := ⟨_, rfl⟩
 rw [hr]
 have Hr := Lib.hid hr; clear hr
 go_enter Tryz.func208, Tryz.ntmps208
 go_wp2_with fail
 go_loop [8] (fun i => ∃ k : Nat, k ≤ 3 ∧ i = .int .i64 k ∧ Hid (0 < k → x = 0) ∧ Hid (1 < k → y = 0) ∧ Hid (2 < k → z = 0)) (fun i => 3 - (intOf i).toNat)
 case atStart => exact ⟨0, by omega, rfl, fun h => absurd h (by omega), fun h => absurd h (by omega), fun h => absurd h (by omega)⟩
 case round =>
  obtain ⟨k, hk, rfl, h0, h1, h2⟩ := hrel
  have hc3 : k = 0 ∨ k = 1 ∨ k = 2 ∨ k = 3 := by omega
  rcases hc3 with rfl | rfl | rfl | rfl
  ·by_cases hx : x = 0
   ·subst hx
    go_wp2_with fail
    go_round
    case rel => exact ⟨1, by omega, by go_num, fun _ => by trivial, fun h => absurd h (by omega), fun h => absurd h (by omega)⟩
    case measure => simp [intOf]
   ·have hx1 : (x != 0) = true := by simpa using hx
    have e : r = x := by rw [← Hr.out, or3, if_pos hx]
    subst e
    clear hx Hr
    go_wp2_with fail
    go_ret
    exact ⟨rfl, rfl⟩
  ·have hx : x = 0 := h0.out (by omega)
   subst hx
   by_cases hy : y = 0
   ·subst hy
    clear h0 h1 h2
    go_wp2_with fail
    go_round
    case rel => exact ⟨2, by omega, by go_num, fun _ => by trivial, fun _ => by trivial, fun h => absurd h (by omega)⟩
    case measure => simp [intOf]
   ·have hy1 : (y != 0) = true := by simpa using hy
    have e : r = y := by rw [← Hr.out, or3, if_neg (by simp), if_pos hy]
    subst e
    clear hy Hr h0 h1 h2
    go_wp2_with fail
    go_ret
    exact ⟨rfl, rfl⟩
  ·have hx : x = 0 := h0.out (by omega)
   have hy : y = 0 := h1.out (by omega)
   subst hx hy
   have e : r = z := by rw [← Hr.out, or3, if_neg (by simp), if_neg (by simp)]
   subst e
   clear Hr h0 h1 h2
   by_cases hz : r = 0
   ·subst hz
    go_wp2_with fail
    go_round
    case rel => exact ⟨3, by omega, by go_num, fun _ => by trivial, fun _ => by trivial, fun _ => by trivial⟩
    case measure => simp [intOf]
   ·have hz1 : (r != 0) = true := by simpa using hz
    clear hz
    go_wp2_with fail
    go_ret
    exact ⟨rfl, rfl⟩
  ·have hx : x = 0 := h0.out (by omega)
   have hy : y = 0 := h1.out (by omega)
   have hz : z = 0 := h2.out (by omega)
   subst hx hy hz
   have e : r = 0 := by rw [← Hr.out, or3, if_neg (by simp), if_neg (by simp)]
   subst e
   clear Hr h0 h1 h2
   go_wp2_with fail
   go_ret
   exact ⟨rfl, rfl⟩
def Tw.enc (r : Tw) : List Value := [.int .i64 r.k, .int .u32 r.p.a, .int .i64 r.p.l, .int .i64 r.d]
theorem Tw.len (r : Tw) : r.enc.length = 4 := rfl
set_option maxRecDepth 100000 in
theorem vdV (r s : Tw) (w : World) : Calls Tryz.prog 356 #[.agg #[.int .i64 r.k, .int .u32 r.p.a, .int .i64 r.p.l, .int .i64 r.d], .agg #[.int .i64 s.k, .int .u32 s.p.a, .int .i64 s.p.l, .int .i64 s.d]] w fun e w' => e = .returned (.int .i64 (ordT r s)) ∧ Kp w w' := by
 obtain ⟨W, hW, kW, B0, B1⟩ := Blk.al2 (w := w) rfl #[.int .i64 r.k, .int .u32 r.p.a, .int .i64 r.p.l, .int .i64 r.d] 337 #[.int .i64 s.k, .int .u32 s.p.a, .int .i64 s.p.l, .int .i64 s.d] 337
 obtain ⟨x, hx⟩ : ∃ x, cmpI r.d s.d = x := ⟨_, rfl⟩
 obtain ⟨y, hy⟩ : ∃ y, cmpI r.k s.k = y := ⟨_, rfl⟩
 obtain ⟨z, hz⟩ : ∃ z, ordI r.p.a r.p.l s.p.a s.p.l = z := ⟨_, rfl⟩
 have Hx := Lib.hid hx
 have Hy := Lib.hid hy
 have Hz := Lib.hid hz
 have Hr : Hid (ordT r s = or3 x y z) := by rw [← hx, ← hy, ← hz]; exact Lib.hid rfl
 clear hx hy hz
 obtain ⟨p0, p1, p2, p3⟩ := Blk.v4 B0 (.int .i64 r.k) (.int .u32 r.p.a) (.int .i64 r.p.l) (.int .i64 r.d) rfl
 obtain ⟨q0, q1, q2, q3⟩ := Blk.v4 B1 (.int .i64 s.k) (.int .u32 s.p.a) (.int .i64 s.p.l) (.int .i64 s.d) rfl
 have K : Kp W W.drew := (Kp.refl W).drew
 go_enter Tryz.func356, Tryz.ntmps356
 go_wp2_with fail
 try rw [hW]
 clear hW
 go_region_held3 (fun w' => w'.cell? ⟨w.heap.size, 0, none⟩ = some (.int .i64 r.k) ∧ w'.cell? ⟨w.heap.size, 1, none⟩ = some (.int .u32 r.p.a) ∧ w'.cell? ⟨w.heap.size, 2, none⟩ = some (.int .i64 r.p.l) ∧ w'.cell? ⟨w.heap.size, 3, none⟩ = some (.int .i64 r.d) ∧ w'.cell? ⟨w.heap.size + 1, 0, none⟩ = some (.int .i64 s.k) ∧ w'.cell? ⟨w.heap.size + 1, 1, none⟩ = some (.int .u32 s.p.a) ∧ w'.cell? ⟨w.heap.size + 1, 2, none⟩ = some (.int .i64 s.p.l) ∧ w'.cell? ⟨w.heap.size + 1, 3, none⟩ = some (.int .i64 s.d))
  (first | exact ⟨K.cell p0, K.cell p1, K.cell p2, K.cell p3, K.cell q0, K.cell q1, K.cell q2, K.cell q3⟩ | exact ⟨(K.alloc _).cell p0, (K.alloc _).cell p1, (K.alloc _).cell p2, (K.alloc _).cell p3, (K.alloc _).cell q0, (K.alloc _).cell q1, (K.alloc _).cell q2, (K.alloc _).cell q3⟩ | go_keep)
  (first
   | (go_at_call 357; refine (viw r.d s.d _).mono ?_; rintro e w' ⟨rfl, rfl⟩; rw [Hx.out])
   | (go_at_call 358; refine (vix r.k s.k _).mono ?_; rintro e w' ⟨rfl, rfl⟩; rw [Hy.out])
   | (go_at_call 152; refine (vgP r.p.a r.p.l s.p.a s.p.l _).mono ?_; rintro e wv ⟨rfl, hKv⟩; rw [Hz.out]; have K := K.trans hKv; clear hKv)
   | (go_at_call 208; refine (viy x y z _ _ (Blk.new _ _ _)).mono ?_; rintro e w' ⟨rfl, rfl⟩; rw [← Hr.out]))
 all_goals (try go_wp2_with fail)
 all_goals go_ret
 all_goals exact ⟨rfl, (kW.trans K).alloc _⟩
theorem tw_at {w : World} {A : Option Addr} {xs : List Tw} (h : Rd w 4 Tw.enc A xs) {k : Nat} (hk : k < xs.length) : ∃ b off : Nat, A = some ⟨b, off, none⟩ ∧ w.cell? ⟨b, off + k * 4, none⟩ = some (.int .i64 xs[k].k) ∧ w.cell? ⟨b, off + k * 4 + 1, none⟩ = some (.int .u32 (xs[k].p.a : Int)) ∧ w.cell? ⟨b, off + k * 4 + 2, none⟩ = some (.int .i64 xs[k].p.l) ∧ w.cell? ⟨b, off + k * 4 + 3, none⟩ = some (.int .i64 xs[k].d) := by
 obtain ⟨b, off, e, hc⟩ := h k hk
 exact ⟨b, off, e, by simpa using hc 0 _ rfl, by simpa using hc 1 _ rfl, by simpa using hc 2 _ rfl, by simpa using hc 3 _ rfl⟩
theorem vaO (q : Nat) (s : Value) (A : Option Addr) (n c : Nat) (w : World) (h : Blk w q 214 #[.slice A n c, s]) : Calls Tryz.prog 263 #[.pointer (some ⟨q, 0, none⟩)] w fun e w' => e = .returned (.int .i64 (n : Int)) ∧ w = w' := by
 have c0 : w.cell? ⟨q, 0, none⟩ = some (.slice A n c) := h.cell 0
 clear h
 go_enter Tryz.func263, Tryz.ntmps263
 go_wp2_with fail
 go_ret
 exact ⟨rfl, rfl⟩
set_option maxRecDepth 100000 in
theorem vaz (q : Nat) (s : Value) (A : Option Addr) (c : Nat) (l : List Tw) (i j : Nat) (w : World) (h : Blk w q 214 #[.slice A l.length c, s]) (hR : Rd w 4 Tw.enc A l) (hi : i < l.length) (hj : j < l.length) :
  Calls Tryz.prog 352 #[.pointer (some ⟨q, 0, none⟩), .int .i64 (i : Int), .int .i64 (j : Int)] w fun e w' => e = .returned (.bool (ltT l[i] l[j])) ∧ Kp w w' := by
 have c0 : w.cell? ⟨q, 0, none⟩ = some (.slice A l.length c) := h.cell 0
 obtain ⟨b, off, hA, x0, x1, x2, x3⟩ := tw_at hR hi
 obtain ⟨b', off', hA', y0, y1, y2, y3⟩ := tw_at hR hj
 subst hA
 injection hA' with hA'
 injection hA' with e1 e2
 subst e1
 subst e2
 obtain ⟨r, hr⟩ : ∃ r, l[i] = r := ⟨_, rfl⟩
 obtain ⟨t, ht⟩ : ∃ t, l[j] = t := ⟨_, rfl⟩
 rw [hr] at x0 x1 x2 x3 ⊢
 rw [ht] at y0 y1 y2 y3 ⊢
 have i0 : (0 : Int) ≤ (i : Int) := by omega
 have i1 : (i : Int) < (l.length : Int) := by omega
 have j0 : (0 : Int) ≤ (j : Int) := by omega
 have j1 : (j : Int) < (l.length : Int) := by omega
 clear h hR hi hj hr ht
 go_enter Tryz.func352, Tryz.ntmps352
 go_wp2_with fail
 go_still_tail 14, (by kernel_rfl)
 change wpList _ _ _ _ _ w.drew
 go_wp2_with fail
 refine (vdV r t _).mono ?_
 rintro e w1 ⟨rfl, K1⟩
 go_wp2_with fail
 go_ret
 exact ⟨rfl, (Kp.refl w).drew.trans K1⟩
end

section
open Go.RowKit Go.Maps
theorem laidOut12 : laidOutB Tryz.prog = true := by kernel_rfl
theorem wideTm : (match Tryz.prog.underlying 252 with | some (.array _ _) | some (.struct _) => true | _ => false) = true := by rw [Tryz.underlying252]
theorem widePf : (match Tryz.prog.underlying 39 with | some (.array _ _) | some (.struct _) => true | _ => false) = true := by rw [Tryz.underlying39]
set_option maxRecDepth 100000 in
theorem keyedTm : Keyed Tryz.prog 252 := Keyed.of_law (deep_law_laid laidOut12 (m := 3) (by omega) (of_decide_eq_true (by kernel_rfl)) (by kernel_rfl) wideTm)
set_option maxRecDepth 100000 in
theorem keyedPf : Keyed Tryz.prog 39 := Keyed.of_law (deep_law_laid laidOut12 (m := 2) (by omega) (of_decide_eq_true (by kernel_rfl)) (by kernel_rfl) widePf)
def wfI (n : Int) : Prop := -9223372036854775808 ≤ n ∧ n ≤ 9223372036854775807
theorem vcz {n : Int} (h : wfI n) : (Lit.int .i64 n).wf = true := by
 obtain ⟨h1, h2⟩ := h
 simp [Lit.wf, IntKind.min, IntKind.max, IntKind.bits, IntKind.signed]
 omega
theorem vjv {n : Nat} (h : n < 4294967296) : (Lit.int .u32 (n : Int)).wf = true := by
 simp [Lit.wf, IntKind.min, IntKind.max, IntKind.bits, IntKind.signed]
 omega
abbrev pfV (p : PI) : Value := .agg #[.int .u32 (p.a : Int), .int .i64 p.l]
abbrev tmV (t : Tw) : Value := .agg #[.int .i64 t.k, .int .u32 (t.p.a : Int), .int .i64 t.p.l]
def pfKey (p : PI) : Lit := .string (keyBytes [.int .u32 (p.a : Int), .int .i64 p.l])
def tmKey (t : Tw) : Lit := .string (keyBytes [.int .i64 t.k, .int .u32 (t.p.a : Int), .int .i64 t.p.l])
set_option maxRecDepth 100000 in
theorem vfE (p : PI) (ha : p.a < 4294967296) (hl : wfI p.l) (n : Nat) : Tryz.prog.keyLits (n + 2) 39 [.int .u32 (p.a : Int), .int .i64 p.l] = some [.int .u32 (p.a : Int), .int .i64 p.l] := by
 have hC : Tryz.prog.cellsOf 39 = 2 := by kernel_rfl
 have hC0 : Tryz.prog.cellsOf 37 = 1 := by kernel_rfl
 have hC1 : Tryz.prog.cellsOf 3 = 1 := by kernel_rfl
 have w0 := vjv ha
 have w1 := vcz hl
 simp [Program.keyLits, Tryz.underlying39, Tryz.underlying37, Tryz.underlying3, hC, hC0, hC1, w0, w1]
set_option maxRecDepth 100000 in
theorem vfF (t : Tw) (hk : wfI t.k) (ha : t.p.a < 4294967296) (hl : wfI t.p.l) (n : Nat) : Tryz.prog.keyLits (n + 3) 252 [.int .i64 t.k, .int .u32 (t.p.a : Int), .int .i64 t.p.l] = some [.int .i64 t.k, .int .u32 (t.p.a : Int), .int .i64 t.p.l] := by
 have hC : Tryz.prog.cellsOf 252 = 3 := by kernel_rfl
 have hC0 : Tryz.prog.cellsOf 250 = 1 := by kernel_rfl
 have hC1 : Tryz.prog.cellsOf 39 = 2 := by kernel_rfl
 have hC2 : Tryz.prog.cellsOf 37 = 1 := by kernel_rfl
 have hC3 : Tryz.prog.cellsOf 3 = 1 := by kernel_rfl
 have w0 := vcz hk
 have w1 := vjv ha
 have w2 := vcz hl
 simp [Program.keyLits, Tryz.underlying252, Tryz.underlying250, Tryz.underlying39, Tryz.underlying37, Tryz.underlying3, hC, hC0, hC1, hC2, hC3, w0, w1, w2]
 rw [if_pos (by intro i hi; have h2 : i = 0 ∨ i = 1 := (by omega); rcases h2 with rfl | rfl <;> simp)]
 rfl
theorem size12 : ∃ n, Tryz.prog.types.size + 1 = n + 3 := ⟨Tryz.prog.types.size - 2, by
 have h : 2 ≤ Tryz.prog.types.size := of_decide_eq_true (by kernel_rfl)
 omega⟩
set_option maxRecDepth 100000 in
theorem viz (p : PI) (ha : p.a < 4294967296) (hl : wfI p.l) : keyOf Tryz.prog 39 (pfV p) = some (pfKey p) := by
 obtain ⟨n, hn⟩ := size12
 have hk : Tryz.prog.keyType 39 = true := by kernel_rfl
 have hC : Tryz.prog.cellsOf 39 = 2 := by kernel_rfl
 have hp := vfE p ha hl (n + 1)
 unfold keyOf
 rw [Tryz.underlying39]
 simp only [hk, hn, Value.formed, Tryz.underlying39, hC, Value.cells]
 simp [hp, pfKey]
set_option maxRecDepth 100000 in
theorem viA (t : Tw) (hk : wfI t.k) (ha : t.p.a < 4294967296) (hl : wfI t.p.l) : keyOf Tryz.prog 252 (tmV t) = some (tmKey t) := by
 obtain ⟨n, hn⟩ := size12
 have hkt : Tryz.prog.keyType 252 = true := by kernel_rfl
 have hC : Tryz.prog.cellsOf 252 = 3 := by kernel_rfl
 have hp := vfF t hk ha hl n
 unfold keyOf
 rw [Tryz.underlying252]
 simp only [hkt, hn, Value.formed, Tryz.underlying252, hC, Value.cells]
 simp [hp, tmKey]
end

section
open Go.RowKit Go.Maps Go.WideShapes
structure Tk where
 k : Int
 p : PI
theorem Tk.ext' {s t : Tk} (h1 : s.k = t.k) (h2 : s.p = t.p) : s = t := by cases s; cases t; simp only at h1 h2; subst h1; subst h2; rfl
def Tw.tk (t : Tw) : Tk := ⟨t.k, t.p⟩
structure Tk.wf (t : Tk) : Prop where
 k : wfI t.k
 a : t.p.a < 4294967296
 l : wfI t.p.l
def tkKey (t : Tk) : Lit := tmKey ⟨t.k, t.p, 0⟩
abbrev tkV (t : Tk) : Value := .agg #[.int .i64 t.k, .int .u32 (t.p.a : Int), .int .i64 t.p.l]
theorem vaF {t : Tk} (h : t.wf) : keyOf Tryz.prog 252 (tkV t) = some (tkKey t) := viA ⟨t.k, t.p, 0⟩ h.k h.a h.l
theorem vdW {t : Tk} (h : t.wf) : WideAt.IsKeyLit (tkKey t) := keyedTm.key (vaF h)
theorem vby {s t : Tk} (hs : s.wf) (ht : t.wf) (h : tkKey s = tkKey t) : s = t := by
 have e := keyedTm.inj (vaF hs) (by rw [h]; exact vaF ht)
 obtain ⟨k, a, l⟩ := s
 obtain ⟨k', b, m⟩ := t
 simp at e
 obtain ⟨e1, e2, e3⟩ := e
 subst e1
 subst e3
 have : a = b := by omega
 subst this
 rfl
structure PlD (D : DataW Unit) (f : Tk → Option Nat) : Prop where
 has_ : ∀ t : Tk, t.wf → Maps.has D (tkKey t) = (f t).isSome
 at_ : ∀ t : Tk, t.wf → ∀ i, f t = some i → D.atKey (tkKey t) (.lit (.int .i64 0)) = .lit (.int .i64 (i : Int))
def MpT (w : World) (m : Nat) (n : Nat) (f : Tk → Option Nat) : Prop := ∃ D : DataW Unit, w.ownsMap Tryz.prog 252 (plainElem Tryz.prog 3) m n D ∧ Maps.size D = n ∧ PlD D f
open Classical in
noncomputable def updT (f : Tk → Option Nat) (t : Tk) (v : Option Nat) : Tk → Option Nat := fun s => if s = t then v else f s
theorem vap (f : Tk → Option Nat) (t : Tk) (v : Option Nat) : updT f t v t = v := by unfold updT; rw [if_pos rfl]
theorem vae (f : Tk → Option Nat) {s t : Tk} (v : Option Nat) (h : s ≠ t) : updT f t v s = f s := by unfold updT; rw [if_neg h]
theorem vbz {w : World} {k : TypeId} {R : Value → Option (DataW Unit × List MemPlace)} {b n : Nat} {D : DataW Unit} (h : w.ownsMap Tryz.prog k R b n D) : w.ownsMap Tryz.prog k R b (Maps.size D) D := by
 obtain ⟨es, clock, h1, h2, h3, h4⟩ := h
 refine ⟨es, clock, h1, h2, ?_, h4⟩
 rw [h4, Maps.size_eq, length_read]
 exact Nat.le_refl _
theorem MpT.put {w w' : World} {m n k : Nat} {f : Tk → Option Nat} {t : Tk} (ht : t.wf) {i : Nat} {D : DataW Unit} (hD : w.ownsMap Tryz.prog 252 (plainElem Tryz.prog 3) m n D) (hn : Maps.size D = n) (hf : PlD D f) (h : w'.ownsMap Tryz.prog 252 (plainElem Tryz.prog 3) m k (D.put (tkKey t) (.lit (.int .i64 (i : Int))))) :
  MpT w' m (if (f t).isSome then n else n + 1) (updT f t (some i)) := by
 have hT := hD.tidy keyedTm
 have hsz : Maps.size (D.put (tkKey t) (.lit (.int .i64 (i : Int)))) = if (f t).isSome then n else n + 1 := by
  rw [Maps.size_put hT, hf.has_ t ht, hn]
 refine ⟨_, by rw [← hsz]; exact vbz h, hsz, ⟨fun s hs => ?_, fun s hs j hj => ?_⟩⟩
 ·by_cases e : s = t
  ·subst e
   rw [vap, Maps.has_put_same hT.isMap (vdW hs)]
   rfl
  ·rw [vae _ _ e, Maps.has_put_other (fun h => e (vby hs ht h))]
   exact hf.has_ s hs
 ·by_cases e : s = t
  ·subst e
   rw [vap] at hj
   injection hj with hj
   subst hj
   exact Maps.atKey_put_same hT.isMap (vdW hs) _ _
  ·rw [vae _ _ e] at hj
   rw [Maps.atKey_put_other (fun h => e (vby hs ht h))]
   exact hf.at_ s hs j hj
theorem MpT.del {w w' : World} {m n k : Nat} {f : Tk → Option Nat} {t : Tk} (ht : t.wf) {D : DataW Unit} (hD : w.ownsMap Tryz.prog 252 (plainElem Tryz.prog 3) m n D) (hn : Maps.size D = n) (hf : PlD D f) (h : w'.ownsMap Tryz.prog 252 (plainElem Tryz.prog 3) m k (D.del (tkKey t))) :
  MpT w' m (if (f t).isSome then n - 1 else n) (updT f t none) := by
 have hT := hD.tidy keyedTm
 have hsz : Maps.size (D.del (tkKey t)) = if (f t).isSome then n - 1 else n := by
  have := Maps.size_del hT (k := tkKey t)
  rw [hf.has_ t ht, hn] at this
  split at this <;> simp_all <;> omega
 refine ⟨_, by rw [← hsz]; exact vbz h, hsz, ⟨fun s hs => ?_, fun s hs j hj => ?_⟩⟩
 ·by_cases e : s = t
  ·subst e
   rw [vap, Maps.has_del_same]
   rfl
  ·rw [vae _ _ e, Maps.has_del_other (fun h => e (vby hs ht h))]
   exact hf.has_ s hs
 ·by_cases e : s = t
  ·subst e
   rw [vap] at hj
   cases hj
  ·rw [vae _ _ e] at hj
   rw [Maps.atKey_del_other (fun h => e (vby hs ht h))]
   exact hf.at_ s hs j hj
theorem vcA {α : Type} {enc : α → List Value} (h4 : ∀ x, (enc x).length = 4) : ∀ (l : List α) (a b : Nat), b < 4 → (l.flatMap enc)[a * 4 + b]? = (l[a]?).bind (fun y => (enc y)[b]?)
 | [], a, b, _ => by simp
 | y :: l, 0, b, hb => by
  rw [List.flatMap_cons, List.getElem?_append_left (by rw [h4]; omega)]
  simp
 | y :: l, a + 1, b, hb => by
  rw [List.flatMap_cons, List.getElem?_append_right (by rw [h4]; omega), h4]
  rw [show (a + 1) * 4 + b - 4 = a * 4 + b by omega, vcA h4 l a b hb]
  simp
theorem vcB {α : Type} {enc : α → List Value} (h4 : ∀ x, (enc x).length = 4) (l : List α) : (l.flatMap enc).length = l.length * 4 := vaM h4 l
theorem vgT {α : Type} {enc : α → List Value} (h4 : ∀ x, (enc x).length = 4) (l : List α) {i : Nat} (hi : i < l.length) (x : α) {a0 a1 a2 a3 : Value} (hx : enc x = [a0, a1, a2, a3]) :
  (l.set i x).flatMap enc = ((((l.flatMap enc).set (i * 4) a0).set (i * 4 + 1) a1).set (i * 4 + 2) a2).set (i * 4 + 3) a3 := by
 have hl := vcB h4 l
 apply List.ext_getElem?
 intro m
 have hm : m = m / 4 * 4 + m % 4 := by omega
 have hb : m % 4 < 4 := Nat.mod_lt _ (by decide)
 generalize m / 4 = a at hm
 generalize m % 4 = b at hm hb
 subst hm
 rw [vcA h4 _ _ _ hb]
 simp only [List.getElem?_set, List.length_set, hl]
 by_cases ha : i = a
 ·subst ha
  have hb4 : b = 0 ∨ b = 1 ∨ b = 2 ∨ b = 3 := by omega
  rcases hb4 with rfl | rfl | rfl | rfl
  ·rw [if_pos rfl, if_pos hi, if_neg (by omega), if_neg (by omega), if_neg (by omega), if_pos (by omega), if_pos (by omega), Option.bind_some, hx]; rfl
  ·rw [if_pos rfl, if_pos hi, if_neg (by omega), if_neg (by omega), if_pos (by omega), if_pos (by omega), Option.bind_some, hx]; rfl
  ·rw [if_pos rfl, if_pos hi, if_neg (by omega), if_pos (by omega), if_pos (by omega), Option.bind_some, hx]; rfl
  ·rw [if_pos rfl, if_pos hi, if_pos (by omega), if_pos (by omega), Option.bind_some, hx]; rfl
 ·rw [if_neg ha, if_neg (by omega), if_neg (by omega), if_neg (by omega), if_neg (by omega), vcA h4 _ _ _ hb]
def twSet (w : World) (g i : Nat) (x : Tw) : World := (((w.setCell ⟨g, i * 4, none⟩ (.int .i64 x.k)).setCell ⟨g, i * 4 + 1, none⟩ (.int .u32 (x.p.a : Int))).setCell ⟨g, i * 4 + 2, none⟩ (.int .i64 x.p.l)).setCell ⟨g, i * 4 + 3, none⟩ (.int .i64 x.d)
theorem Own.putTw {w : World} {B g n c : Nat} {l : List Tw} (h : Own w B 337 4 Tw.enc (.slice (some ⟨g, 0, none⟩) n c) l) {i : Nat} (hi : i < l.length) (x : Tw) : Own (twSet w g i x) B 337 4 Tw.enc (.slice (some ⟨g, 0, none⟩) n c) (l.set i x) := by
 obtain ⟨hl, hr⟩ := h
 rcases hr with ⟨h2, _⟩ | ⟨g', cap, cur, hv, hg, hh, hn, hm, hs, ht⟩
 ·cases h2
 ·injection hv with e1 e2 e3
  injection e1 with e1
  injection e1 with e1
  subst e1
  subst e2
  subst e3
  have hB : Blk w g 337 cur := hh
  have hB' := (((hB.set_ (i * 4) (.int .i64 x.k)).set_ (i * 4 + 1) (.int .u32 (x.p.a : Int))).set_ (i * 4 + 2) (.int .i64 x.p.l)).set_ (i * 4 + 3) (.int .i64 x.d)
  refine ⟨by rw [vcB Tw.len, List.length_set], .inr ⟨g, c, _, by rw [List.length_set], hg, hB', by rw [List.length_set]; exact hn, hm, by simp [hs], ?_⟩⟩
  rw [List.length_set, vgT Tw.len l hi x (show Tw.enc x = [_, _, _, _] from rfl), ← ht]
  simp only [Array.toList_setIfInBounds, List.take_set]
end

end Go.Proofs.YtgopnfacklmkaaaGreatDoor
