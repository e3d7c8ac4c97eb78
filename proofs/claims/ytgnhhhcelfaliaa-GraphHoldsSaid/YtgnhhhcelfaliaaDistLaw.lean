/- The plain law of distances: what the rounds come to. -/
import Derived.Test.YtgnhhhcelfaliaaGraphO
namespace Go.Proofs.Ytgnhhhcelfaliaa

/-- Two routers that a link which is up connects. -/
def Edge (ls : List Lk) (u v : Nat) : Prop := ∃ l ∈ ls, l.Up = true ∧ ((l.A = (u : Int) ∧ l.B = (v : Int)) ∨ (l.A = (v : Int) ∧ l.B = (u : Int)))
/-- An owner is so many links away, at most. -/
def Rch (ls : List Lk) (os : List Int) : Nat → Nat → Prop
  | 0, v => (v : Int) ∈ os
  | k + 1, v => Rch ls os k v ∨ ∃ u, Rch ls os k u ∧ Edge ls u v

theorem Rch.mono {ls : List Lk} {os : List Int} {k j v : Nat} (h : Rch ls os k v) (hk : k ≤ j) : Rch ls os j v := by
  induction hk with
  | refl => exact h
  | step _ ih => exact .inl ih
theorem Rch.owners {ls : List Lk} {os os' : List Int} (hs : ∀ x ∈ os, x ∈ os') : ∀ {k v : Nat}, Rch ls os k v → Rch ls os' k v
  | 0, _, h => hs _ h
  | k + 1, _, .inl h => .inl (Rch.owners hs h)
  | k + 1, _, .inr ⟨u, h, e⟩ => .inr ⟨u, Rch.owners hs h, e⟩
theorem Rch.links {ls ls' : List Lk} {os : List Int} (hs : ∀ u v, Edge ls u v → Edge ls' u v) : ∀ {k v : Nat}, Rch ls os k v → Rch ls' os k v
  | 0, _, h => h
  | k + 1, _, .inl h => .inl (Rch.links hs h)
  | k + 1, _, .inr ⟨u, h, e⟩ => .inr ⟨u, Rch.links hs h, hs _ _ e⟩

theorem stable {ls : List Lk} {os : List Int} {j : Nat} (h : ∀ v, Rch ls os (j + 1) v → Rch ls os j v) : ∀ k v, Rch ls os k v → Rch ls os j v := by
  intro k
  induction k with
  | zero => intro v hv; exact hv.mono (Nat.zero_le _)
  | succ k ih =>
    intro v hv
    rcases hv with hv | ⟨u, hu, e⟩
    · exact ih v hv
    · exact h v (.inr ⟨u, ih u hu, e⟩)

open Classical in
noncomputable def cnt (n : Nat) (p : Nat → Prop) : Nat := (List.range n).countP (fun v => decide (p v))
open Classical in
theorem cnt_le (n : Nat) (p : Nat → Prop) : cnt n p ≤ n := by unfold cnt; have := List.countP_le_length (p := fun v => decide (p v)) (l := List.range n); simpa using this
open Classical in
theorem cnt_lt {n : Nat} {p q : Nat → Prop} (hpq : ∀ v, p v → q v) {v : Nat} (hv : v < n) (hq : q v) (hp : ¬ p v) : cnt n p < cnt n q := by
  unfold cnt
  have key : ∀ l : List Nat, v ∈ l → l.countP (fun v => decide (p v)) < l.countP (fun v => decide (q v)) := by
    intro l
    induction l with
    | nil => intro h; cases h
    | cons x l ih =>
      intro h
      have hle : l.countP (fun v => decide (p v)) ≤ l.countP (fun v => decide (q v)) := List.countP_mono_left (fun y _ hy => by simpa using hpq y (by simpa using hy))
      rw [List.countP_cons, List.countP_cons]
      by_cases hx : x = v
      · subst hx
        simp [hp, hq]
        omega
      · have hm : v ∈ l := by
          rcases List.mem_cons.1 h with h | h
          · exact absurd h.symm hx
          · exact h
        have := ih hm
        by_cases h1 : p x
        · have h2 := hpq x h1
          simp [h1, h2]; omega
        · simp [h1]
          split <;> omega
  exact key _ (by simpa using hv)

/-- Whoever reaches an owner does so over fewer links than there are routers. -/
theorem short {ls : List Lk} {os : List Int} {n : Nat} (hb : ∀ k v, Rch ls os k v → v < n) : ∀ k v, Rch ls os k v → ∃ j, j ≤ k ∧ j < n ∧ Rch ls os j v := by
  have grow : ∀ k, (∃ j, j < k ∧ ∀ v, Rch ls os (j + 1) v → Rch ls os j v) ∨ (∀ v, ¬ Rch ls os 0 v) ∨ k + 1 ≤ cnt n (Rch ls os k) := by
    intro k
    induction k with
    | zero =>
      by_cases h : ∃ v, Rch ls os 0 v
      · obtain ⟨v, hv⟩ := h
        right; right
        have := cnt_lt (n := n) (p := fun _ => False) (q := Rch ls os 0) (fun _ h => h.elim) (hb 0 v hv) hv id
        omega
      · right; left; intro v hv; exact h ⟨v, hv⟩
    | succ k ih =>
      rcases ih with ⟨j, hj, h⟩ | h | h
      · exact .inl ⟨j, by omega, h⟩
      · exact .inr (.inl h)
      · by_cases hs : ∀ v, Rch ls os (k + 1) v → Rch ls os k v
        · exact .inl ⟨k, by omega, hs⟩
        · right; right
          have : ∃ v, Rch ls os (k + 1) v ∧ ¬ Rch ls os k v := by
            apply Classical.byContradiction
            intro hc
            exact hs (fun v hv => Classical.byContradiction (fun hn => hc ⟨v, hv, hn⟩))
          obtain ⟨v, hv, hn⟩ := this
          have := cnt_lt (n := n) (p := Rch ls os k) (q := Rch ls os (k + 1)) (fun _ h => .inl h) (hb _ v hv) hv hn
          omega
  intro k v hv
  rcases grow n with ⟨j, hj, h⟩ | h | h
  · by_cases hkj : k ≤ j
    · exact ⟨k, Nat.le_refl _, by omega, hv⟩
    · exact ⟨j, by omega, hj, stable h k v hv⟩
  · exfalso
    have none : ∀ k v, ¬ Rch ls os k v := by
      intro k
      induction k with
      | zero => exact h
      | succ k ih =>
        rintro v (hv | ⟨u, hu, _⟩)
        · exact ih v hv
        · exact ih u hu
    exact none k v hv
  · have := cnt_le n (Rch ls os n); omega

/-- The i-th of a list of numbers, 16 if there is none. -/
def at16 (d : List Int) (i : Nat) : Int := d.getD i 16
theorem at16_lt {d : List Int} {i : Nat} (h : i < d.length) : at16 d i = d[i] := by simp [at16, List.getD, h]

/-- What the rounds keep: from 1 to 16, and what is below 16 tells of a way. -/
def Good (ls : List Lk) (os : List Int) (d : List Int) : Prop := ∀ v, 1 ≤ at16 d v ∧ at16 d v ≤ 16 ∧ (at16 d v < 16 → Rch ls os (at16 d v - 1).toNat v)

theorem at16_set {d : List Int} {a : Nat} {x : Int} (ha : a < d.length) (v : Nat) : at16 (d.set a x) v = if v = a then x else at16 d v := by
  unfold at16 List.getD
  rw [List.getElem?_set]
  by_cases h : a = v
  · subst h; simp [ha]
  · rw [if_neg h, if_neg (fun e => h e.symm)]

structure LkOk (n : Nat) (l : Lk) : Prop where
  a0 : 0 ≤ l.A
  a1 : l.A < n
  b0 : 0 ≤ l.B
  b1 : l.B < n
  ne : l.A ≠ l.B

theorem relax_at {d : List Int} {l : Lk} (hl : LkOk d.length l) (hu : l.Up = true) (v : Nat) :
    at16 (relax d l) v = if v = l.B.toNat then min (at16 d l.B.toNat) (min (at16 d l.A.toNat) (at16 d l.B.toNat + 1) + 1) else if v = l.A.toNat then min (at16 d l.A.toNat) (at16 d l.B.toNat + 1) else at16 d v := by
  obtain ⟨a, ha⟩ := Int.eq_ofNat_of_zero_le hl.a0
  obtain ⟨b, hb⟩ := Int.eq_ofNat_of_zero_le hl.b0
  have h1 := hl.a1
  have h2 := hl.b1
  have h3 := hl.ne
  have ha' : a < d.length := by omega
  have hb' : b < d.length := by omega
  rw [relax_up ha hb hu ha' hb' (by omega), at16_set (by simpa using hb'), at16_set ha', ha, hb]
  simp only [Int.toNat_natCast, at16_lt ha', at16_lt hb']

theorem relax_le {d : List Int} {l : Lk} (hl : LkOk d.length l) (v : Nat) : at16 (relax d l) v ≤ at16 d v := by
  cases hu : l.Up with
  | false => simp [relax, hu]
  | true =>
    rw [relax_at hl hu]
    split
    · rename_i h; subst h; omega
    · split
      · rename_i h; subst h; omega
      · exact Int.le_refl _

theorem relax_good {ls : List Lk} {os : List Int} {d : List Int} {l : Lk} (hl : LkOk d.length l) (hm : l ∈ ls) (h : Good ls os d) : Good ls os (relax d l) := by
  cases hu : l.Up with
  | false => simpa [relax, hu] using h
  | true =>
    obtain ⟨a, ha⟩ := Int.eq_ofNat_of_zero_le hl.a0
    obtain ⟨b, hb⟩ := Int.eq_ofNat_of_zero_le hl.b0
    have eab : Edge ls a b := ⟨l, hm, hu, .inl ⟨ha, hb⟩⟩
    have eba : Edge ls b a := ⟨l, hm, hu, .inr ⟨ha, hb⟩⟩
    have hA := h a
    have hB := h b
    intro v
    rw [relax_at hl hu, ha, hb]
    simp only [Int.toNat_natCast]
    split
    · rename_i hv; subst hv
      refine ⟨by omega, by omega, fun hlt => ?_⟩
      by_cases c : at16 d v ≤ min (at16 d a) (at16 d v + 1) + 1
      · rw [show min (at16 d v) (min (at16 d a) (at16 d v + 1) + 1) = at16 d v by omega] at hlt ⊢
        exact hB.2.2 hlt
      · rw [show min (at16 d v) (min (at16 d a) (at16 d v + 1) + 1) = at16 d a + 1 by omega] at hlt ⊢
        rw [show (at16 d a + 1 - 1).toNat = (at16 d a - 1).toNat + 1 by omega]
        exact .inr ⟨a, hA.2.2 (by omega), eab⟩
    · split
      · rename_i hv; subst hv
        refine ⟨by omega, by omega, fun hlt => ?_⟩
        by_cases c : at16 d v ≤ at16 d b + 1
        · rw [show min (at16 d v) (at16 d b + 1) = at16 d v by omega] at hlt ⊢
          exact hA.2.2 hlt
        · rw [show min (at16 d v) (at16 d b + 1) = at16 d b + 1 by omega] at hlt ⊢
          rw [show (at16 d b + 1 - 1).toNat = (at16 d b - 1).toNat + 1 by omega]
          exact .inr ⟨b, hB.2.2 (by omega), eba⟩
      · exact h v

theorem all_good {os : List Int} {all : List Lk} : ∀ {ls : List Lk} {d : List Int}, (∀ l ∈ ls, l ∈ all ∧ LkOk d.length l) → Good all os d → Good all os (relaxAll ls d)
  | [], _, _, h => h
  | l :: ls, d, hl, h => by
    show Good all os (relaxAll ls (relax d l))
    refine all_good (fun m hm => ?_) (relax_good (hl l (by simp)).2 (hl l (by simp)).1 h)
    rw [relax_len]; exact hl m (by simp [hm])
theorem all_le : ∀ {ls : List Lk} {d : List Int}, (∀ l ∈ ls, LkOk d.length l) → ∀ v, at16 (relaxAll ls d) v ≤ at16 d v
  | [], _, _, v => Int.le_refl _
  | l :: ls, d, hl, v => by
    show at16 (relaxAll ls (relax d l)) v ≤ _
    exact Int.le_trans (all_le (fun m hm => by rw [relax_len]; exact hl m (by simp [hm])) v) (relax_le (hl l (by simp)) v)
theorem all_edge : ∀ {ls : List Lk} {d : List Int}, (∀ l ∈ ls, LkOk d.length l) → ∀ {u v : Nat}, Edge ls u v → at16 (relaxAll ls d) v ≤ at16 d u + 1
  | [], _, _, _, _, ⟨_, h, _⟩ => by cases h
  | l :: ls, d, hl, u, v, ⟨m, hm, hu, he⟩ => by
    show at16 (relaxAll ls (relax d l)) v ≤ _
    have hl' : ∀ m ∈ ls, LkOk (relax d l).length m := fun m hm => by rw [relax_len]; exact hl m (by simp [hm])
    rcases List.mem_cons.1 hm with rfl | hm
    · refine Int.le_trans (all_le hl' v) ?_
      have hlm := hl m (by simp)
      have hne := hlm.ne
      rw [relax_at hlm hu]
      rcases he with ⟨ea, eb⟩ | ⟨ea, eb⟩
      · rw [ea, eb]
        simp only [Int.toNat_natCast]
        simp only [if_true]
        omega
      · rw [ea, eb]
        simp only [Int.toNat_natCast]
        rw [if_neg (by omega)]
        simp only [if_true]
        omega
    · exact Int.le_trans (all_edge hl' ⟨m, hm, hu, he⟩) (by have := relax_le (hl l (by simp)) u; omega)

section
variable {n : Nat} {ls : List Lk} {os : List Int}
theorem put_at {d : List Int} {o : Int} (h0 : 0 ≤ o) (h1 : o < d.length) (v : Nat) : at16 (put1 d o) v = if (v : Int) = o then 1 else at16 d v := by
  unfold put1
  rw [at16_set (by omega)]
  by_cases h : (v : Int) = o
  · rw [if_pos h, if_pos (by omega)]
  · rw [if_neg h, if_neg (by omega)]
theorem start_at : ∀ {os : List Int} {d : List Int}, (∀ o ∈ os, 0 ≤ o ∧ o < d.length) → ∀ v, at16 (os.foldl put1 d) v = if (v : Int) ∈ os then 1 else at16 d v
  | [], _, _, v => by simp
  | o :: os, d, h, v => by
    rw [List.foldl_cons, start_at (fun x hx => by rw [put1_len]; exact h x (by simp [hx]))]
    have ho := h o (by simp)
    rw [put_at ho.1 ho.2]
    by_cases h1 : (v : Int) ∈ os
    · simp [h1]
    · by_cases h2 : (v : Int) = o
      · simp [h2]
      · simp [h1, h2]
theorem start16 (n : Nat) (v : Nat) : at16 (List.replicate n 16) v = 16 := by
  unfold at16 List.getD
  rw [List.getElem?_replicate]
  split <;> simp
theorem dStart_at (ho : ∀ o ∈ os, 0 ≤ o ∧ o < (n : Int)) (v : Nat) : at16 (dStart n os) v = if (v : Int) ∈ os then 1 else 16 := by
  unfold dStart
  rw [start_at (by simpa using ho)]
  rw [Int.toNat_natCast, start16]
theorem dStart_good (ho : ∀ o ∈ os, 0 ≤ o ∧ o < (n : Int)) : Good ls os (dStart n os) := by
  intro v
  rw [dStart_at ho]
  split
  · rename_i h; exact ⟨by omega, by omega, fun _ => h⟩
  · exact ⟨by omega, by omega, fun h => absurd h (by omega)⟩

variable (hl : ∀ l ∈ ls, LkOk n l) (ho : ∀ o ∈ os, 0 ≤ o ∧ o < (n : Int))
include hl ho
set_option linter.unusedSectionVars false in
theorem distN_good : ∀ k, Good ls os (distN ls (dStart n os) k)
  | 0 => dStart_good ho
  | k + 1 => all_good (fun l hm => ⟨hm, by rw [distN_len, dStart_len, Int.toNat_natCast]; exact hl l hm⟩) (distN_good k)
set_option linter.unusedSectionVars false in
theorem distN_le (k j v : Nat) : at16 (distN ls (dStart n os) (k + j)) v ≤ at16 (distN ls (dStart n os) k) v := by
  induction j with
  | zero => exact Int.le_refl _
  | succ j ih =>
    refine Int.le_trans ?_ ih
    exact all_le (fun l hm => by rw [distN_len, dStart_len, Int.toNat_natCast]; exact hl l hm) v
theorem distN_up : ∀ k v, Rch ls os k v → at16 (distN ls (dStart n os) k) v ≤ k + 1
  | 0, v, h => by
    show at16 (dStart n os) v ≤ _
    rw [dStart_at ho, if_pos (show (v : Int) ∈ os from h)]; simp
  | k + 1, v, .inl h => by
    have h1 := distN_up k v h
    have h2 := distN_le hl ho k 1 v
    omega
  | k + 1, v, .inr ⟨u, h, e⟩ => by
    have h1 := distN_up k u h
    have h2 : at16 (distN ls (dStart n os) (k + 1)) v ≤ at16 (distN ls (dStart n os) k) u + 1 := all_edge (fun l hm => by rw [distN_len, dStart_len, Int.toNat_natCast]; exact hl l hm) e
    omega
theorem rch_lt : ∀ k v, Rch ls os k v → v < n
  | 0, v, h => by have := ho _ h; omega
  | k + 1, v, .inl h => rch_lt k v h
  | k + 1, v, .inr ⟨u, _, l, hm, _, he⟩ => by
    have h := hl l hm
    have h1 := h.a1
    have h2 := h.b1
    rcases he with ⟨ea, eb⟩ | ⟨ea, eb⟩ <;> omega

theorem dist_good : Good ls os (dist n ls os) := by unfold dist; exact distN_good hl ho _
theorem dist_up (k v : Nat) (h : Rch ls os k v) : at16 (dist n ls os) v ≤ k + 1 := by
  obtain ⟨j, hj, hjn, hr⟩ := short (rch_lt hl ho) k v h
  have h1 := distN_up hl ho j v hr
  have h2 := distN_le hl ho j (n - j) v
  rw [show j + (n - j) = n by omega] at h2
  unfold dist
  rw [Int.toNat_natCast]
  omega
theorem dist_own (v : Nat) (h : (v : Int) ∈ os) : at16 (dist n ls os) v = 1 := by
  have h1 := dist_up hl ho 0 v h
  have h2 := (dist_good hl ho v).1
  simp at h1
  omega
theorem dist_edge {u v : Nat} (e : Edge ls u v) : at16 (dist n ls os) v ≤ at16 (dist n ls os) u + 1 := by
  have hu := dist_good hl ho u
  have hv := dist_good hl ho v
  by_cases h : at16 (dist n ls os) u < 16
  · have := dist_up hl ho ((at16 (dist n ls os) u - 1).toNat + 1) v (Or.inr ⟨u, hu.2.2 h, e⟩)
    omega
  · omega
theorem dist_from {v : Nat} (h : (v : Int) ∉ os) (h16 : at16 (dist n ls os) v < 16) : ∃ u, Edge ls u v ∧ at16 (dist n ls os) u + 1 ≤ at16 (dist n ls os) v := by
  have hv := dist_good hl ho v
  have hr := hv.2.2 h16
  generalize hk : (at16 (dist n ls os) v - 1).toNat = k at hr
  cases k with
  | zero => exact absurd hr h
  | succ k =>
    rcases hr with hr | ⟨u, hu, e⟩
    · have := dist_up hl ho k v hr; omega
    · have := dist_up hl ho k u hu
      exact ⟨u, e, by omega⟩
end
theorem dist_wide {n : Nat} {ls : List Lk} {os os' : List Int} (hl : ∀ l ∈ ls, LkOk n l) (ho : ∀ o ∈ os, 0 ≤ o ∧ o < (n : Int)) (ho' : ∀ o ∈ os', 0 ≤ o ∧ o < (n : Int)) (hs : ∀ x ∈ os, x ∈ os') (v : Nat) : at16 (dist n ls os') v ≤ at16 (dist n ls os) v := by
  have hv := dist_good hl ho v
  have hv' := dist_good hl ho' v
  by_cases h : at16 (dist n ls os) v < 16
  · have := dist_up hl ho' _ v ((hv.2.2 h).owners hs)
    omega
  · omega
theorem dist_fewer {n : Nat} {ls ls' : List Lk} {os : List Int} (hl : ∀ l ∈ ls, LkOk n l) (hl' : ∀ l ∈ ls', LkOk n l) (ho : ∀ o ∈ os, 0 ≤ o ∧ o < (n : Int)) (hs : ∀ u v, Edge ls u v → Edge ls' u v) (v : Nat) : at16 (dist n ls' os) v ≤ at16 (dist n ls os) v := by
  have hv := dist_good hl ho v
  have hv' := dist_good hl' ho v
  by_cases h : at16 (dist n ls os) v < 16
  · have := dist_up hl' ho _ v ((hv.2.2 h).links hs)
    omega
  · omega
end Go.Proofs.Ytgnhhhcelfaliaa
