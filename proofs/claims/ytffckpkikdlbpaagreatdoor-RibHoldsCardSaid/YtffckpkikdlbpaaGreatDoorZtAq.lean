/- Lemmas and contracts for the theorem of this claim: RbL. -/
import Derived.Test.YtffckpkikdlbpaaGreatDoorZtAn
set_option linter.unusedSimpArgs false
set_option linter.unusedVariables false
namespace Go.Proofs.YtffckpkikdlbpaaGreatDoor
open Go.RowKit
def ltP (p q : PI) : Prop := (p.a : Int) < q.a ∨ ((p.a : Int) = q.a ∧ p.l < q.l)
theorem ltP_tri (p q : PI) : ltP p q ∨ p = q ∨ ltP q p := by
  unfold ltP
  by_cases h1 : (p.a : Int) < q.a
  · exact .inl (.inl h1)
  · by_cases h2 : (q.a : Int) < p.a
    · exact .inr (.inr (.inl h2))
    · have ha : (p.a : Int) = q.a := by omega
      by_cases h3 : p.l < q.l
      · exact .inl (.inr ⟨ha, h3⟩)
      · by_cases h4 : q.l < p.l
        · exact .inr (.inr (.inr ⟨ha.symm, h4⟩))
        · exact .inr (.inl (PI.ext' (by omega) (by omega)))
theorem ltP_ne {p q : PI} (h : ltP p q) : p ≠ q := by rintro rfl; unfold ltP at h; omega
theorem ltP_asymm {p q : PI} (h : ltP p q) : ¬ ltP q p := by unfold ltP at *; omega
theorem ltP_trans {p q r : PI} (h : ltP p q) (k : ltP q r) : ltP p r := by unfold ltP at *; omega
theorem ordI_ltP {p q : PI} : ordI p.a p.l q.a q.l < 0 ↔ ltP p q := ordI_neg
theorem ordI_zero {p q : PI} : ordI p.a p.l q.a q.l = 0 ↔ p = q := by
  constructor
  · intro h
    unfold ordI at h
    split at h
    · next e => exact PI.ext' (by have := cmpI_zero.1 e; omega) (cmpI_zero.1 h)
    · next e => exact absurd h e
  · rintro rfl
    unfold ordI
    rw [cmpI_eq, if_pos rfl, cmpI_eq]
theorem ordI_le {p q : PI} : ordI p.a p.l q.a q.l ≤ 0 ↔ ¬ ltP q p := by
  rw [show (ordI p.a p.l q.a q.l ≤ 0) ↔ (ordI p.a p.l q.a q.l < 0 ∨ ordI p.a p.l q.a q.l = 0) by omega, ordI_ltP, ordI_zero]
  constructor
  · rintro (h | rfl)
    · exact ltP_asymm h
    · exact fun h => ltP_ne h rfl
  · intro h
    rcases ltP_tri p q with h1 | h1 | h1
    all_goals first | exact .inl h1 | exact .inr h1 | exact absurd h1 h
def UpR (L : List Rt) : Prop := L.Pairwise (fun x y => ltP x.p y.p)
theorem UpR.inj {L : List Rt} (u : UpR L) : ∀ {x y : Rt}, x ∈ L → y ∈ L → x.p = y.p → x = y := by
  induction L with
  | nil => intro x y hx; simp at hx
  | cons a t ih =>
    intro x y hx hy e
    have h := List.pairwise_cons.1 u
    rcases List.mem_cons.1 hx with e1 | h1
    · rcases List.mem_cons.1 hy with e2 | h2
      · rw [e1, e2]
      · subst e1
        exact absurd e (ltP_ne (h.1 _ h2))
    · rcases List.mem_cons.1 hy with e2 | h2
      · subst e2
        exact absurd e.symm (ltP_ne (h.1 _ h1))
      · exact ih h.2 h1 h2 e
theorem UpR.filter {L : List Rt} (u : UpR L) (f : Rt → Bool) : UpR (L.filter f) := List.Pairwise.sublist List.filter_sublist u
theorem UpR.nodup {L : List Rt} (u : UpR L) : (L.map Rt.p).Nodup := by
  rw [List.Nodup, List.pairwise_map]
  exact u.imp (fun h => ltP_ne h)
theorem UpR.eq {L M : List Rt} (u : UpR L) (v : UpR M) (h : ∀ x, x ∈ L ↔ x ∈ M) : L = M := by
  induction L generalizing M with
  | nil =>
    cases M with
    | nil => rfl
    | cons y t => exact absurd ((h y).2 List.mem_cons_self) (by simp)
  | cons x t ih =>
    cases M with
    | nil => exact absurd ((h x).1 List.mem_cons_self) (by simp)
    | cons y s =>
      have hu := List.pairwise_cons.1 u
      have hv := List.pairwise_cons.1 v
      have exy : x = y := by
        rcases List.mem_cons.1 ((h x).1 List.mem_cons_self) with e | e
        · exact e
        · rcases List.mem_cons.1 ((h y).2 List.mem_cons_self) with e2 | e2
          · exact e2.symm
          · exact absurd (hv.1 _ e) (ltP_asymm (hu.1 _ e2))
      subst exy
      congr 1
      refine ih hu.2 hv.2 (fun z => ?_)
      constructor
      · intro hz
        rcases List.mem_cons.1 ((h z).1 (List.mem_cons_of_mem _ hz)) with e | e
        · subst e
          exact absurd rfl (ltP_ne (hu.1 _ hz))
        · exact e
      · intro hz
        rcases List.mem_cons.1 ((h z).2 (List.mem_cons_of_mem _ hz)) with e | e
        · subst e
          exact absurd rfl (ltP_ne (hv.1 _ hz))
        · exact e
theorem UpR.eq_perm {L M : List Rt} (u : UpR L) (v : UpR M) (h : L.Perm M) : L = M := u.eq v (fun _ => h.mem_iff)
def getR (p : PI) (L : List Rt) : Option Rt := L.find? (fun x => decide (x.p = p))
theorem getR_mem {p : PI} {L : List Rt} {r : Rt} (h : getR p L = some r) : r ∈ L ∧ r.p = p := ⟨List.mem_of_find?_eq_some h, by simpa using List.find?_some h⟩
theorem getR_some {L : List Rt} (u : UpR L) {r : Rt} (h : r ∈ L) : getR r.p L = some r := by
  cases e : getR r.p L with
  | none =>
    have := List.find?_eq_none.1 e r h
    simp at this
  | some x =>
    obtain ⟨h1, h2⟩ := getR_mem e
    rw [u.inj h1 h h2]
theorem getR_none {p : PI} {L : List Rt} : getR p L = none ↔ ∀ x ∈ L, x.p ≠ p := by
  unfold getR
  rw [List.find?_eq_none]
  simp
theorem getR_iff {L : List Rt} (u : UpR L) {p : PI} {r : Rt} : getR p L = some r ↔ r ∈ L ∧ r.p = p := by
  constructor
  · exact getR_mem
  · rintro ⟨h, rfl⟩
    exact getR_some u h
def offR (p : PI) (L : List Rt) : List Rt := L.filter (fun x => decide (x.p ≠ p))
theorem mem_offR {p : PI} {L : List Rt} {x : Rt} : x ∈ offR p L ↔ x ∈ L ∧ x.p ≠ p := by unfold offR; simp
def withG (r : Rt) : Bool → List Rt → List Rt
  | d, [] => if d then [] else [r]
  | d, x :: t => (if !d && decide (ordI r.p.a r.p.l x.p.a x.p.l ≤ 0) then [r] else []) ++ ((if x.p = r.p then [] else [x]) ++ withG r (d || decide (ordI r.p.a r.p.l x.p.a x.p.l ≤ 0)) t)
def setR (r : Rt) (L : List Rt) : List Rt := withG r (decide (r.s = 0)) L
theorem withG_true (r : Rt) (L : List Rt) : withG r true L = offR r.p L := by
  induction L with
  | nil => rfl
  | cons x t ih =>
    unfold withG offR
    rw [List.filter_cons]
    simp only [Bool.not_true, Bool.false_and, Bool.false_eq_true, if_false, List.nil_append, Bool.true_or, ih]
    by_cases h : x.p = r.p
    · simp [h, offR]
    · simp [h, offR]
theorem withG_perm (r : Rt) (d : Bool) (L : List Rt) : (withG r d L).Perm ((if d then [] else [r]) ++ offR r.p L) := by
  induction L generalizing d with
  | nil => unfold withG offR; cases d <;> simp
  | cons x t ih =>
    cases d with
    | true => rw [withG_true]; simp
    | false =>
      unfold withG
      by_cases h : ordI r.p.a r.p.l x.p.a x.p.l ≤ 0
      · simp only [Bool.not_false, Bool.true_and, h, decide_true, if_true, Bool.or_true, withG_true, Bool.false_eq_true, if_false]
        refine List.Perm.append_left _ ?_
        unfold offR
        rw [List.filter_cons]
        by_cases hx : x.p = r.p
        · simp [hx]
        · simp [hx]
      · simp only [Bool.not_false, Bool.true_and, h, decide_false, if_false, Bool.false_or, Bool.false_eq_true, List.nil_append]
        have i := ih false
        simp only [Bool.false_eq_true, if_false] at i
        have hx : ¬ x.p = r.p := by
          intro e
          rw [ordI_le, e] at h
          exact h (fun k => ltP_ne k rfl)
        rw [if_neg hx]
        have e : offR r.p (x :: t) = x :: offR r.p t := by unfold offR; rw [List.filter_cons]; simp [hx]
        rw [e]
        exact (i.cons x).trans (List.Perm.swap _ _ _)
theorem setR_perm (r : Rt) (L : List Rt) : (setR r L).Perm ((if r.s = 0 then [] else [r]) ++ offR r.p L) := by
  have := withG_perm r (decide (r.s = 0)) L
  simpa [setR] using this
theorem mem_setR {r x : Rt} {L : List Rt} : x ∈ setR r L ↔ (x = r ∧ r.s ≠ 0) ∨ (x ∈ L ∧ x.p ≠ r.p) := by
  rw [(setR_perm r L).mem_iff, List.mem_append, mem_offR]
  by_cases h : r.s = 0 <;> simp [h]
theorem mem_withG {r x : Rt} {d : Bool} {L : List Rt} : x ∈ withG r d L ↔ (x = r ∧ d = false) ∨ (x ∈ L ∧ x.p ≠ r.p) := by
  rw [(withG_perm r d L).mem_iff, List.mem_append, mem_offR]
  cases d <;> simp
theorem withG_up (r : Rt) (d : Bool) {L : List Rt} (u : UpR L) : UpR (withG r d L) := by
  induction L generalizing d with
  | nil => unfold withG; cases d <;> simp [UpR]
  | cons x t ih =>
    have hu := List.pairwise_cons.1 u
    cases d with
    | true => rw [withG_true]; exact u.filter _
    | false =>
      unfold withG
      by_cases h : ordI r.p.a r.p.l x.p.a x.p.l ≤ 0
      · simp only [Bool.not_false, Bool.true_and, h, decide_true, if_true, Bool.or_true, withG_true]
        rw [ordI_le] at h
        have hr : ∀ y ∈ t, ltP r.p y.p := fun y hy => by
          rcases ltP_tri r.p x.p with k | k | k
          · exact ltP_trans k (hu.1 y hy)
          · rw [k]; exact hu.1 y hy
          · exact absurd k h
        rw [List.singleton_append]
        refine List.pairwise_cons.2 ⟨fun y hy => ?_, ?_⟩
        · rcases List.mem_append.1 hy with hy | hy
          · by_cases hx : x.p = r.p
            · rw [if_pos hx] at hy; simp at hy
            · rw [if_neg hx] at hy
              simp only [List.mem_cons, List.not_mem_nil, or_false] at hy
              subst hy
              rcases ltP_tri r.p y.p with k | k | k
              all_goals first | exact k | exact absurd k.symm hx | exact absurd k h
          · exact hr y (mem_offR.1 hy).1
        · by_cases hx : x.p = r.p
          · rw [if_pos hx]; exact UpR.filter hu.2 _
          · rw [if_neg hx]
            exact List.pairwise_cons.2 ⟨fun y hy => hu.1 y (mem_offR.1 hy).1, UpR.filter hu.2 _⟩
      · simp only [Bool.not_false, Bool.true_and, h, decide_false, Bool.false_or, Bool.false_eq_true, if_false, List.nil_append]
        rw [ordI_le] at h
        have h := Classical.not_not.1 h
        rw [if_neg (fun e => ltP_ne h e)]
        refine List.pairwise_cons.2 ⟨fun y hy => ?_, ih false hu.2⟩
        rcases mem_withG.1 hy with ⟨rfl, _⟩ | ⟨hy, _⟩
        · exact h
        · exact hu.1 y hy
theorem setR_up (r : Rt) {L : List Rt} (u : UpR L) : UpR (setR r L) := withG_up r _ u
theorem getR_set (r : Rt) {L : List Rt} (u : UpR L) (p : PI) : getR p (setR r L) = if p = r.p then (if r.s = 0 then none else some r) else getR p L := by
  by_cases hp : p = r.p
  · subst hp
    rw [if_pos rfl]
    by_cases hs : r.s = 0
    · rw [if_pos hs, getR_none]
      intro x hx
      rcases mem_setR.1 hx with ⟨_, h⟩ | ⟨_, h⟩
      all_goals first | exact absurd hs h | exact h
    · rw [if_neg hs]
      exact getR_some (setR_up r u) (mem_setR.2 (.inl ⟨rfl, hs⟩))
  · rw [if_neg hp]
    cases e : getR p L with
    | none =>
      rw [getR_none] at e ⊢
      intro x hx
      rcases mem_setR.1 hx with ⟨h, _⟩ | ⟨h, _⟩
      · subst h; exact fun h => hp h.symm
      · exact e x h
    | some x =>
      obtain ⟨h1, h2⟩ := getR_mem e
      rw [getR_iff (setR_up r u)]
      exact ⟨mem_setR.2 (.inr ⟨h1, by rw [h2]; exact hp⟩), h2⟩
def twR (r : Rt) : Tw := ⟨3, r.p, r.d⟩
def armL (L : List Rt) : List Tw := (L.filter (fun r => decide (2 ≤ r.s))).map twR
theorem armL_perm {L M : List Rt} (h : L.Perm M) : (armL L).Perm (armL M) := (h.filter _).map _
theorem armL_off (p : PI) (L : List Rt) : armL (offR p L) = offP p (armL L) := by
  unfold armL offR offP
  rw [List.filter_map, List.filter_filter, List.filter_filter]
  congr 1
  refine List.filter_congr (fun x _ => ?_)
  simp only [Function.comp, twR]
  exact Bool.and_comm _ _
theorem armL_append (L M : List Rt) : armL (L ++ M) = armL L ++ armL M := by unfold armL; rw [List.filter_append, List.map_append]
theorem armL_set (r : Rt) (L : List Rt) : (armL (setR r L)).Perm ((if 2 ≤ r.s then [twR r] else []) ++ offP r.p (armL L)) := by
  refine (armL_perm (setR_perm r L)).trans ?_
  rw [armL_append, armL_off]
  refine List.Perm.append_right _ ?_
  by_cases h : 2 ≤ r.s
  · rw [if_pos h, if_neg (by omega)]
    simp [armL, h]
  · rw [if_neg h]
    by_cases h0 : r.s = 0
    · simp [armL, h0]
    · simp [armL, h0, h]
theorem mem_armL {L : List Rt} {y : Tw} : y ∈ armL L ↔ ∃ r ∈ L, 2 ≤ r.s ∧ twR r = y := by
  unfold armL
  rw [List.mem_map]
  constructor
  · rintro ⟨r, h, rfl⟩
    simp only [List.mem_filter, decide_eq_true_eq] at h
    exact ⟨r, h.1, h.2, rfl⟩
  · rintro ⟨r, h1, h2, rfl⟩
    exact ⟨r, by simp [h1, h2], rfl⟩
def firstS (o : Option Rt) (x : Rt) : Option Rt := if decide (2 ≤ x.s) && (match o with | none => true | some y => decide (x.d < y.d)) then some x else o
def firstR (L : List Rt) : Option Rt := L.foldl firstS none
theorem twR_not {x r : Rt} : ltT (twR x) (twR r) = false ↔ ¬ (x.d < r.d ∨ (x.d = r.d ∧ ltP x.p r.p)) := by
  rw [ltT_not]
  show ¬ (x.d < r.d ∨ (x.d = r.d ∧ ((3 : Int) < 3 ∨ ((3 : Int) = 3 ∧ ((x.p.a : Int) < r.p.a ∨ ((x.p.a : Int) = r.p.a ∧ x.p.l < r.p.l)))))) ↔ _
  unfold ltP
  omega
def FirstOk (o : Option Rt) (M : List Rt) : Prop := (o = none → ∀ x ∈ M, x.s < 2) ∧ ∀ r, o = some r → r ∈ M ∧ 2 ≤ r.s ∧ ∀ x ∈ M, 2 ≤ x.s → ltT (twR x) (twR r) = false
theorem ltT_self (x : Tw) : ltT x x = false := by rw [ltT_not]; omega
theorem firstS_ok {o : Option Rt} {M : List Rt} {x : Rt} (h : FirstOk o M) (hx : ∀ y ∈ M, ltP y.p x.p) : FirstOk (firstS o x) (M ++ [x]) := by
  obtain ⟨h1, h2⟩ := h
  unfold firstS
  cases o with
  | none =>
    by_cases hs : 2 ≤ x.s
    · rw [if_pos (by simp [hs])]
      refine ⟨fun e => (by cases e), fun r e => ?_⟩
      injection e with e
      subst e
      refine ⟨by simp, hs, fun y hy hy2 => ?_⟩
      rcases List.mem_append.1 hy with hy | hy
      · have := h1 rfl y hy; omega
      · simp only [List.mem_cons, List.not_mem_nil, or_false] at hy
        subst hy
        exact ltT_self _
    · rw [if_neg (by simp [hs])]
      refine ⟨fun _ y hy => ?_, fun r e => by cases e⟩
      rcases List.mem_append.1 hy with hy | hy
      · exact h1 rfl y hy
      · simp only [List.mem_cons, List.not_mem_nil, or_false] at hy
        subst hy
        omega
  | some r =>
    obtain ⟨g1, g2, g3⟩ := h2 r rfl
    by_cases hc : 2 ≤ x.s ∧ x.d < r.d
    · rw [if_pos (by simp [hc.1, hc.2])]
      refine ⟨fun e => (by cases e), fun r' e => ?_⟩
      injection e with e
      subst e
      refine ⟨by simp, hc.1, fun y hy hy2 => ?_⟩
      rcases List.mem_append.1 hy with hy | hy
      · have k := g3 y hy hy2
        rw [twR_not] at k ⊢
        unfold ltP at k ⊢
        omega
      · simp only [List.mem_cons, List.not_mem_nil, or_false] at hy
        subst hy
        exact ltT_self _
    · rw [if_neg (by simp only [Bool.and_eq_true, decide_eq_true_eq]; exact hc)]
      refine ⟨fun e => (by cases e), fun r' e => ?_⟩
      injection e with e
      subst e
      refine ⟨List.mem_append_left _ g1, g2, fun y hy hy2 => ?_⟩
      rcases List.mem_append.1 hy with hy | hy
      · exact g3 y hy hy2
      · simp only [List.mem_cons, List.not_mem_nil, or_false] at hy
        subst hy
        have k := hx r g1
        rw [twR_not]
        unfold ltP at k ⊢
        omega
theorem foldS_ok : ∀ (t : List Rt) (o : Option Rt) (M : List Rt), FirstOk o M → UpR (M ++ t) → FirstOk (t.foldl firstS o) (M ++ t)
  | [], o, M, h, _ => by simpa using h
  | x :: t, o, M, h, u => by
    have e : M ++ x :: t = (M ++ [x]) ++ t := by simp
    rw [List.foldl_cons, e]
    refine foldS_ok t _ _ (firstS_ok h (fun y hy => ?_)) (by rw [← e]; exact u)
    exact (List.pairwise_append.1 u).2.2 y hy x List.mem_cons_self
theorem firstR_ok {L : List Rt} (u : UpR L) : FirstOk (firstR L) L := foldS_ok L none [] ⟨fun _ y hy => by simp at hy, fun r e => by cases e⟩ u
theorem firstR_least {L : List Rt} (u : UpR L) {y : Tw} (hy : y ∈ armL L) (hl : ∀ z ∈ armL L, ltT z y = false) : ∃ r, firstR L = some r ∧ r ∈ L ∧ 2 ≤ r.s ∧ twR r = y := by
  obtain ⟨h1, h2⟩ := firstR_ok u
  obtain ⟨x, hx, hs, rfl⟩ := mem_armL.1 hy
  cases e : firstR L with
  | none => have := h1 e x hx; omega
  | some r =>
    obtain ⟨g1, g2, g3⟩ := h2 r e
    have k1 := g3 x hx hs
    have k2 := hl (twR r) (mem_armL.2 ⟨r, g1, g2, rfl⟩)
    rw [twR_not] at k1 k2
    unfold ltP at k1 k2
    have e2 : r = x := u.inj g1 hx (PI.ext' (by omega) (by omega))
    subst e2
    exact ⟨r, rfl, g1, g2, rfl⟩
theorem firstR_none {L : List Rt} (u : UpR L) : firstR L = none ↔ armL L = [] := by
  obtain ⟨h1, h2⟩ := firstR_ok u
  constructor
  · intro e
    rw [List.eq_nil_iff_forall_not_mem]
    intro y hy
    obtain ⟨x, hx, hs, _⟩ := mem_armL.1 hy
    have := h1 e x hx
    omega
  · intro e
    cases e2 : firstR L with
    | none => rfl
    | some r =>
      obtain ⟨g1, g2, _⟩ := h2 r e2
      have : twR r ∈ armL L := mem_armL.2 ⟨r, g1, g2, rfl⟩
      rw [e] at this
      simp at this
end Go.Proofs.YtffckpkikdlbpaaGreatDoor
