/- Lemmas and contracts for the theorem of this claim: RbL, RbM, RoA. -/
import Derived.Test.YtgopnfacklmkaaaGreatDoorZzAk
set_option linter.all false
set_option maxHeartbeats 16000000
namespace Go.Proofs.YtgopnfacklmkaaaGreatDoor
section
open Go.RowKit
def ltP (p q : PI) : Prop := (p.a : Int) < q.a ∨ ((p.a : Int) = q.a ∧ p.l < q.l)
theorem veR (p q : PI) : ltP p q ∨ p = q ∨ ltP q p := by
 unfold ltP
 by_cases h1 : (p.a : Int) < q.a
 ·exact .inl (.inl h1)
 ·by_cases h2 : (q.a : Int) < p.a
  ·exact .inr (.inr (.inl h2))
  ·have ha : (p.a : Int) = q.a := by omega
   by_cases h3 : p.l < q.l
   ·exact .inl (.inr ⟨ha, h3⟩)
   ·by_cases h4 : q.l < p.l
    ·exact .inr (.inr (.inr ⟨ha.symm, h4⟩))
    ·exact .inr (.inl (PI.ext' (by omega) (by omega)))
theorem vbB {p q : PI} (h : ltP p q) : p ≠ q := by rintro rfl; unfold ltP at h; omega
theorem vfE {p q : PI} (h : ltP p q) : ¬ ltP q p := by unfold ltP at *; omega
theorem vfF {p q r : PI} (h : ltP p q) (k : ltP q r) : ltP p r := by unfold ltP at *; omega
theorem vgX {p q : PI} : ordI p.a p.l q.a q.l < 0 ↔ ltP p q := vgV
theorem vjl {p q : PI} : ordI p.a p.l q.a q.l = 0 ↔ p = q := by
 constructor
 ·intro h
  unfold ordI at h
  split at h
  ·next e => exact PI.ext' (by have := vaR.1 e; omega) (vaR.1 h)
  ·next e => exact absurd h e
 ·rintro rfl
  unfold ordI
  rw [vjc, if_pos rfl, vjc]
theorem vgp {p q : PI} : ordI p.a p.l q.a q.l ≤ 0 ↔ ¬ ltP q p := by
 rw [show (ordI p.a p.l q.a q.l ≤ 0) ↔ (ordI p.a p.l q.a q.l < 0 ∨ ordI p.a p.l q.a q.l = 0) by omega, vgX, vjl]
 constructor
 ·rintro (h | rfl)
  ·exact vfE h
  ·exact fun h => vbB h rfl
 ·intro h
  rcases veR p q with h1 | h1 | h1
  all_goals first | exact .inl h1 | exact .inr h1 | exact absurd h1 h
def UpR (L : List Rt) : Prop := L.Pairwise (fun x y => ltP x.p y.p)
theorem UpR.inj {L : List Rt} (u : UpR L) : ∀ {x y : Rt}, x ∈ L → y ∈ L → x.p = y.p → x = y := by
 induction L with
 | nil => intro x y hx; simp at hx
 | cons a t ih =>
  intro x y hx hy e
  have h := List.pairwise_cons.1 u
  rcases List.mem_cons.1 hx with e1 | h1
  ·rcases List.mem_cons.1 hy with e2 | h2
   ·rw [e1, e2]
   ·subst e1
    exact absurd e (vbB (h.1 _ h2))
  ·rcases List.mem_cons.1 hy with e2 | h2
   ·subst e2
    exact absurd e.symm (vbB (h.1 _ h1))
   ·exact ih h.2 h1 h2 e
theorem UpR.filter {L : List Rt} (u : UpR L) (f : Rt → Bool) : UpR (L.filter f) := List.Pairwise.sublist List.filter_sublist u
theorem UpR.nodup {L : List Rt} (u : UpR L) : (L.map Rt.p).Nodup := by
 rw [List.Nodup, List.pairwise_map]
 exact u.imp (fun h => vbB h)
theorem UpR.eq {L M : List Rt} (u : UpR L) (v : UpR M) (h : ∀ x, x ∈ L ↔ x ∈ M) : L = M := by
 induction L generalizing M with
 | nil =>
  cases M with
  | nil => rfl
  | cons y t => exact absurd ((h y).2 List.mem_cons_self) (by simp)
 | cons x t ih =>
  cases M with
  | nil => exact absurd ((h x).1 List.mem_cons_self) (by simp)
  | cons y s =>
   have hu := List.pairwise_cons.1 u
   have hv := List.pairwise_cons.1 v
   have exy : x = y := by
    rcases List.mem_cons.1 ((h x).1 List.mem_cons_self) with e | e
    ·exact e
    ·rcases List.mem_cons.1 ((h y).2 List.mem_cons_self) with e2 | e2
     ·exact e2.symm
     ·exact absurd (hv.1 _ e) (vfE (hu.1 _ e2))
   subst exy
   congr 1
   refine ih hu.2 hv.2 (fun z => ?_)
   constructor
   ·intro hz
    rcases List.mem_cons.1 ((h z).1 (List.mem_cons_of_mem _ hz)) with e | e
    ·subst e
     exact absurd rfl (vbB (hu.1 _ hz))
    ·exact e
   ·intro hz
    rcases List.mem_cons.1 ((h z).2 (List.mem_cons_of_mem _ hz)) with e | e
    ·subst e
     exact absurd rfl (vbB (hv.1 _ hz))
    ·exact e
theorem UpR.eq_perm {L M : List Rt} (u : UpR L) (v : UpR M) (h : L.Perm M) : L = M := u.eq v (fun _ => h.mem_iff)
def getR (p : PI) (L : List Rt) : Option Rt := L.find? (fun x => decide (x.p = p))
theorem vaP {p : PI} {L : List Rt} {r : Rt} (h : getR p L = some r) : r ∈ L ∧ r.p = p := ⟨List.mem_of_find?_eq_some h, by simpa using List.find?_some h⟩
theorem vdF {L : List Rt} (u : UpR L) {r : Rt} (h : r ∈ L) : getR r.p L = some r := by
 cases e : getR r.p L with
 | none =>
  have := List.find?_eq_none.1 e r h
  simp at this
 | some x =>
  obtain ⟨h1, h2⟩ := vaP e
  rw [u.inj h1 h h2]
theorem vjm {p : PI} {L : List Rt} : getR p L = none ↔ ∀ x ∈ L, x.p ≠ p := by
 unfold getR
 rw [List.find?_eq_none]
 simp
def offR (p : PI) (L : List Rt) : List Rt := L.filter (fun x => decide (x.p ≠ p))
theorem vdg {p : PI} {L : List Rt} {x : Rt} : x ∈ offR p L ↔ x ∈ L ∧ x.p ≠ p := by unfold offR; simp
def withG (r : Rt) : Bool → List Rt → List Rt
 | d, [] => if d then [] else [r]
 | d, x :: t => (if !d && decide (ordI r.p.a r.p.l x.p.a x.p.l ≤ 0) then [r] else []) ++ ((if x.p = r.p then [] else [x]) ++ withG r (d || decide (ordI r.p.a r.p.l x.p.a x.p.l ≤ 0)) t)
def setR (r : Rt) (L : List Rt) : List Rt := withG r (decide (r.s = 0)) L
theorem vbT (r : Rt) (L : List Rt) : withG r true L = offR r.p L := by
 induction L with
 | nil => rfl
 | cons x t ih =>
  unfold withG offR
  rw [List.filter_cons]
  simp only [Bool.not_true, Bool.false_and, Bool.false_eq_true, if_false, List.nil_append, Bool.true_or, ih]
  by_cases h : x.p = r.p
  ·simp [h, offR]
  ·simp [h, offR]
theorem veu (r : Rt) (d : Bool) (L : List Rt) : (withG r d L).Perm ((if d then [] else [r]) ++ offR r.p L) := by
 induction L generalizing d with
 | nil => unfold withG offR; cases d <;> simp
 | cons x t ih =>
  cases d with
  | true => rw [vbT]; simp
  | false =>
   unfold withG
   by_cases h : ordI r.p.a r.p.l x.p.a x.p.l ≤ 0
   ·simp only [Bool.not_false, Bool.true_and, h, decide_true, if_true, Bool.or_true, vbT, Bool.false_eq_true, if_false]
    refine List.Perm.append_left _ ?_
    unfold offR
    rw [List.filter_cons]
    by_cases hx : x.p = r.p
    ·simp [hx]
    ·simp [hx]
   ·simp only [Bool.not_false, Bool.true_and, h, decide_false, if_false, Bool.false_or, Bool.false_eq_true, List.nil_append]
    have i := ih false
    simp only [Bool.false_eq_true, if_false] at i
    have hx : ¬ x.p = r.p := by
     intro e
     rw [vgp, e] at h
     exact h (fun k => vbB k rfl)
    rw [if_neg hx]
    have e : offR r.p (x :: t) = x :: offR r.p t := by unfold offR; rw [List.filter_cons]; simp [hx]
    rw [e]
    exact (i.cons x).trans (List.Perm.swap _ _ _)
theorem vas (r : Rt) (L : List Rt) : (setR r L).Perm ((if r.s = 0 then [] else [r]) ++ offR r.p L) := by
 have := veu r (decide (r.s = 0)) L
 simpa [setR] using this
theorem vao {r x : Rt} {L : List Rt} : x ∈ setR r L ↔ (x = r ∧ r.s ≠ 0) ∨ (x ∈ L ∧ x.p ≠ r.p) := by
 rw [(vas r L).mem_iff, List.mem_append, vdg]
 by_cases h : r.s = 0 <;> simp [h]
theorem vjn {r x : Rt} {d : Bool} {L : List Rt} : x ∈ withG r d L ↔ (x = r ∧ d = false) ∨ (x ∈ L ∧ x.p ≠ r.p) := by
 rw [(veu r d L).mem_iff, List.mem_append, vdg]
 cases d <;> simp
theorem vlS (r : Rt) (d : Bool) {L : List Rt} (u : UpR L) : UpR (withG r d L) := by
 induction L generalizing d with
 | nil => unfold withG; cases d <;> simp [UpR]
 | cons x t ih =>
  have hu := List.pairwise_cons.1 u
  cases d with
  | true => rw [vbT]; exact u.filter _
  | false =>
   unfold withG
   by_cases h : ordI r.p.a r.p.l x.p.a x.p.l ≤ 0
   ·simp only [Bool.not_false, Bool.true_and, h, decide_true, if_true, Bool.or_true, vbT]
    rw [vgp] at h
    have hr : ∀ y ∈ t, ltP r.p y.p := fun y hy => by
     rcases veR r.p x.p with k | k | k
     ·exact vfF k (hu.1 y hy)
     ·rw [k]; exact hu.1 y hy
     ·exact absurd k h
    rw [List.singleton_append]
    refine List.pairwise_cons.2 ⟨fun y hy => ?_, ?_⟩
    ·rcases List.mem_append.1 hy with hy | hy
     ·by_cases hx : x.p = r.p
      ·rw [if_pos hx] at hy; simp at hy
      ·rw [if_neg hx] at hy
       simp only [List.mem_cons, List.not_mem_nil, or_false] at hy
       subst hy
       rcases veR r.p y.p with k | k | k
       all_goals first | exact k | exact absurd k.symm hx | exact absurd k h
     ·exact hr y (vdg.1 hy).1
    ·by_cases hx : x.p = r.p
     ·rw [if_pos hx]; exact UpR.filter hu.2 _
     ·rw [if_neg hx]
      exact List.pairwise_cons.2 ⟨fun y hy => hu.1 y (vdg.1 hy).1, UpR.filter hu.2 _⟩
   ·simp only [Bool.not_false, Bool.true_and, h, decide_false, Bool.false_or, Bool.false_eq_true, if_false, List.nil_append]
    rw [vgp] at h
    have h := Classical.not_not.1 h
    rw [if_neg (fun e => vbB h e)]
    refine List.pairwise_cons.2 ⟨fun y hy => ?_, ih false hu.2⟩
    rcases vjn.1 hy with ⟨rfl, _⟩ | ⟨hy, _⟩
    ·exact h
    ·exact hu.1 y hy
theorem vbw (r : Rt) {L : List Rt} (u : UpR L) : UpR (setR r L) := vlS r _ u
def twR (r : Rt) : Tw := ⟨3, r.p, r.d⟩
def armL (L : List Rt) : List Tw := (L.filter (fun r => decide (2 ≤ r.s))).map twR
theorem vjo {L M : List Rt} (h : L.Perm M) : (armL L).Perm (armL M) := (h.filter _).map _
theorem vlT (p : PI) (L : List Rt) : armL (offR p L) = offP p (armL L) := by
 unfold armL offR offP
 rw [List.filter_map, List.filter_filter, List.filter_filter]
 congr 1
 refine List.filter_congr (fun x _ => ?_)
 simp only [Function.comp, twR]
 exact Bool.and_comm _ _
theorem vgq (L M : List Rt) : armL (L ++ M) = armL L ++ armL M := by unfold armL; rw [List.filter_append, List.map_append]
theorem vgY (r : Rt) (L : List Rt) : (armL (setR r L)).Perm ((if 2 ≤ r.s then [twR r] else []) ++ offP r.p (armL L)) := by
 refine (vjo (vas r L)).trans ?_
 rw [vgq, vlT]
 refine List.Perm.append_right _ ?_
 by_cases h : 2 ≤ r.s
 ·rw [if_pos h, if_neg (by omega)]
  simp [armL, h]
 ·rw [if_neg h]
  by_cases h0 : r.s = 0
  ·simp [armL, h0]
  ·simp [armL, h0, h]
theorem veS {L : List Rt} {y : Tw} : y ∈ armL L ↔ ∃ r ∈ L, 2 ≤ r.s ∧ twR r = y := by
 unfold armL
 rw [List.mem_map]
 constructor
 ·rintro ⟨r, h, rfl⟩
  simp only [List.mem_filter, decide_eq_true_eq] at h
  exact ⟨r, h.1, h.2, rfl⟩
 ·rintro ⟨r, h1, h2, rfl⟩
  exact ⟨r, by simp [h1, h2], rfl⟩
def firstS (o : Option Rt) (x : Rt) : Option Rt := if decide (2 ≤ x.s) && (match o with | none => true | some y => decide (x.d < y.d)) then some x else o
def firstR (L : List Rt) : Option Rt := L.foldl firstS none
theorem vgr {x r : Rt} : ltT (twR x) (twR r) = false ↔ ¬ (x.d < r.d ∨ (x.d = r.d ∧ ltP x.p r.p)) := by
 rw [vdy]
 show ¬ (x.d < r.d ∨ (x.d = r.d ∧ ((3 : Int) < 3 ∨ ((3 : Int) = 3 ∧ ((x.p.a : Int) < r.p.a ∨ ((x.p.a : Int) = r.p.a ∧ x.p.l < r.p.l)))))) ↔ _
 unfold ltP
 omega
def FirstOk (o : Option Rt) (M : List Rt) : Prop := (o = none → ∀ x ∈ M, x.s < 2) ∧ ∀ r, o = some r → r ∈ M ∧ 2 ≤ r.s ∧ ∀ x ∈ M, 2 ≤ x.s → ltT (twR x) (twR r) = false
theorem vgZ (x : Tw) : ltT x x = false := by rw [vdy]; omega
theorem vjp {o : Option Rt} {M : List Rt} {x : Rt} (h : FirstOk o M) (hx : ∀ y ∈ M, ltP y.p x.p) : FirstOk (firstS o x) (M ++ [x]) := by
 obtain ⟨h1, h2⟩ := h
 unfold firstS
 cases o with
 | none =>
  by_cases hs : 2 ≤ x.s
  ·rw [if_pos (by simp [hs])]
   refine ⟨fun e => (by cases e), fun r e => ?_⟩
   injection e with e
   subst e
   refine ⟨by simp, hs, fun y hy hy2 => ?_⟩
   rcases List.mem_append.1 hy with hy | hy
   ·have := h1 rfl y hy; omega
   ·simp only [List.mem_cons, List.not_mem_nil, or_false] at hy
    subst hy
    exact vgZ _
  ·rw [if_neg (by simp [hs])]
   refine ⟨fun _ y hy => ?_, fun r e => by cases e⟩
   rcases List.mem_append.1 hy with hy | hy
   ·exact h1 rfl y hy
   ·simp only [List.mem_cons, List.not_mem_nil, or_false] at hy
    subst hy
    omega
 | some r =>
  obtain ⟨g1, g2, g3⟩ := h2 r rfl
  by_cases hc : 2 ≤ x.s ∧ x.d < r.d
  ·rw [if_pos (by simp [hc.1, hc.2])]
   refine ⟨fun e => (by cases e), fun r' e => ?_⟩
   injection e with e
   subst e
   refine ⟨by simp, hc.1, fun y hy hy2 => ?_⟩
   rcases List.mem_append.1 hy with hy | hy
   ·have k := g3 y hy hy2
    rw [vgr] at k ⊢
    unfold ltP at k ⊢
    omega
   ·simp only [List.mem_cons, List.not_mem_nil, or_false] at hy
    subst hy
    exact vgZ _
  ·rw [if_neg (by simp only [Bool.and_eq_true, decide_eq_true_eq]; exact hc)]
   refine ⟨fun e => (by cases e), fun r' e => ?_⟩
   injection e with e
   subst e
   refine ⟨List.mem_append_left _ g1, g2, fun y hy hy2 => ?_⟩
   rcases List.mem_append.1 hy with hy | hy
   ·exact g3 y hy hy2
   ·simp only [List.mem_cons, List.not_mem_nil, or_false] at hy
    subst hy
    have k := hx r g1
    rw [vgr]
    unfold ltP at k ⊢
    omega
theorem vha : ∀ (t : List Rt) (o : Option Rt) (M : List Rt), FirstOk o M → UpR (M ++ t) → FirstOk (t.foldl firstS o) (M ++ t)
 | [], o, M, h, _ => by simpa using h
 | x :: t, o, M, h, u => by
  have e : M ++ x :: t = (M ++ [x]) ++ t := by simp
  rw [List.foldl_cons, e]
  refine vha t _ _ (vjp h (fun y hy => ?_)) (by rw [← e]; exact u)
  exact (List.pairwise_append.1 u).2.2 y hy x List.mem_cons_self
theorem vba {L : List Rt} (u : UpR L) : FirstOk (firstR L) L := vha L none [] ⟨fun _ y hy => by simp at hy, fun r e => by cases e⟩ u
theorem vfG {L : List Rt} (u : UpR L) {y : Tw} (hy : y ∈ armL L) (hl : ∀ z ∈ armL L, ltT z y = false) : ∃ r, firstR L = some r ∧ r ∈ L ∧ 2 ≤ r.s ∧ twR r = y := by
 obtain ⟨h1, h2⟩ := vba u
 obtain ⟨x, hx, hs, rfl⟩ := veS.1 hy
 cases e : firstR L with
 | none => have := h1 e x hx; omega
 | some r =>
  obtain ⟨g1, g2, g3⟩ := h2 r e
  have k1 := g3 x hx hs
  have k2 := hl (twR r) (veS.2 ⟨r, g1, g2, rfl⟩)
  rw [vgr] at k1 k2
  unfold ltP at k1 k2
  have e2 : r = x := u.inj g1 hx (PI.ext' (by omega) (by omega))
  subst e2
  exact ⟨r, rfl, g1, g2, rfl⟩
structure Tb where
 c : Cf
 l : List Rt
 now : Int
 rf : Int
structure TbOk (T : Tb) : Prop where
 c : okCf T.c = true
 u : UpR T.l
 r : ∀ x ∈ T.l, okR x = true ∧ x.s ≠ 0
 n : (T.l.length : Int) ≤ T.c.cap
 t : 0 ≤ T.now ∧ T.now ≤ 4611686018426387904
 f : 0 ≤ T.rf ∧ T.rf ≤ 2147483647
def zeroR : Rt := noR ⟨0, 0⟩
def wasR (p : PI) (L : List Rt) : Rt := (getR p L).getD (noR p)
def timely (T : Tb) (now : Int) : Bool := okNow now && decide (T.now ≤ now)
def fullB (T : Tb) (p : PI) (r : Rt) : Bool := (getR p T.l).isNone && (decide (r.s ≠ 0) && decide (T.c.cap ≤ (T.l.length : Int)))
def heardT (T : Tb) (p : PI) (h : Hd) (now : Int) : Tb × Rt × Int :=
 if toldB p && okHd h then
  if timely T now then
   if fullB T p (hearR T.c (wasR p T.l) h now) then (⟨T.c, T.l, now, min (T.rf + 1) 2147483647⟩, zeroR, 200)
   else (⟨T.c, setR (hearR T.c (wasR p T.l) h now) T.l, now, T.rf⟩, hearR T.c (wasR p T.l) h now, 0)
  else (T, zeroR, 170)
 else (T, zeroR, 2)
def expG (c : Cf) (now : Int) : Nat → List Rt → List Rt × Int
 | 0, L => (L, 0)
 | k + 1, L => match firstR L with
  | none => (L, 0)
  | some r => if now < r.d then (L, 0) else ((expG c now k (setR (expR c r now) L)).1, (expG c now k (setR (expR c r now) L)).2 + 1)
def expT (T : Tb) (now : Int) : Tb × Int × Int :=
 if timely T now then (⟨T.c, (expG T.c now 1000 T.l).1, now, T.rf⟩, (expG T.c now 1000 T.l).2, 0)
 else (T, 0, 170)
def seenR (r : Rt) : Rt := ⟨r.p, r.s, r.m, r.l, r.f, r.x, r.d, false⟩
def newsL (L : List Rt) : List Rt := L.filter (fun r => r.c)
def seenT (T : Tb) : Tb × Int := (⟨T.c, T.l.map seenR, T.now, T.rf⟩, ((newsL T.l).length : Int))
def putAll (l : List Rt) (L : List Rt) : List Rt := l.foldl (fun M r => setR r M) L
def newT (c : Cf) : Tb := ⟨c, putAll (c.own.map ownR) [], 0, 0⟩
theorem TbOk.set {T : Tb} (h : TbOk T) {r : Rt} (hr : okR r = true) (hn : r.s ≠ 0 → (getR r.p T.l).isNone = true → (T.l.length : Int) < T.c.cap) {now rf : Int} (ht : 0 ≤ now ∧ now ≤ 4611686018426387904) (hf : 0 ≤ rf ∧ rf ≤ 2147483647) : TbOk ⟨T.c, setR r T.l, now, rf⟩ where
 c := h.c
 u := vbw r h.u
 r := fun x hx => by
  rcases vao.1 hx with ⟨rfl, h0⟩ | ⟨hx, _⟩
  ·exact ⟨hr, h0⟩
  ·exact h.r x hx
 n := by
  show ((setR r T.l).length : Int) ≤ T.c.cap
  have hl := (vas r T.l).length_eq
  rw [List.length_append] at hl
  have ho : (offR r.p T.l).length ≤ T.l.length := List.length_filter_le _ _
  have hn0 := h.n
  by_cases h0 : r.s = 0
  ·rw [if_pos h0] at hl
   simp only [List.length_nil] at hl
   omega
  ·rw [if_neg h0] at hl
   simp only [List.length_cons, List.length_nil] at hl
   cases e : getR r.p T.l with
   | none =>
    have := hn h0 (by rw [e]; rfl)
    omega
   | some x =>
    obtain ⟨k1, k2⟩ := vaP e
    have hlt : (offR r.p T.l).length < T.l.length := by
     unfold offR
     refine Nat.lt_of_le_of_ne (List.length_filter_le _ _) (fun e2 => ?_)
     have e3 := List.length_filter_eq_length_iff.1 e2 x k1
     simp [k2] at e3
    omega
 t := ht
 f := hf
theorem vcx {T : Tb} (h : TbOk T) {p : PI} (hp : toldB p = true) : okR (wasR p T.l) = true ∧ (wasR p T.l).p = p := by
 unfold wasR
 cases e : getR p T.l with
 | none => exact ⟨vfC hp, rfl⟩
 | some r => exact ⟨(h.r r (vaP e).1).1, (vaP e).2⟩
theorem vaX {T : Tb} {now : Int} : timely T now = true ↔ 0 ≤ now ∧ now ≤ 4611686018426387904 ∧ T.now ≤ now := by
 unfold timely okNow
 rw [Bool.and_eq_true, vaa, decide_eq_true_eq]
 omega
theorem vhb {T : Tb} (h : TbOk T) (p : PI) (k : Hd) (now : Int) : TbOk (heardT T p k now).1 := by
 unfold heardT
 split
 ·next e1 =>
  rw [Bool.and_eq_true] at e1
  split
  ·next e2 =>
   rw [vaX] at e2
   have hf := h.f
   obtain ⟨w1, w2⟩ := vcx h e1.1
   have hr := vcN h.c w1 e1.2 (now := now) (by rw [okNow, vaa]; omega)
   have hpp : (hearR T.c (wasR p T.l) k now).p = p := by rw [vjh, w2]
   split
   ·exact ⟨h.c, h.u, h.r, h.n, by show 0 ≤ now ∧ now ≤ _; omega, by show 0 ≤ min (T.rf + 1) 2147483647 ∧ min (T.rf + 1) 2147483647 ≤ 2147483647; omega⟩
   ·next e3 =>
    refine h.set hr (fun h0 h1 => ?_) (by omega) hf
    unfold fullB at e3
    rw [hpp] at h1
    simp only [Bool.and_eq_true, decide_eq_true_eq] at e3
    have := mt (fun z => (⟨h1, h0, z⟩ : _ ∧ _ ∧ _)) e3
    omega
  ·exact h
 ·exact h
theorem TbOk.put {T : Tb} (h : TbOk T) {r x : Rt} (hx : x ∈ T.l) (hp : r.p = x.p) (hr : okR r = true) {now rf : Int} (ht : 0 ≤ now ∧ now ≤ 4611686018426387904) (hf : 0 ≤ rf ∧ rf ≤ 2147483647) : TbOk ⟨T.c, setR r T.l, now, rf⟩ :=
 h.set hr (fun _ h1 => by rw [hp, vdF h.u hx] at h1; cases h1) ht hf
def dueN (now : Int) (r : Rt) : Nat := if r.d ≤ now then (if r.s = 2 then 2 else if 3 ≤ r.s then 1 else 0) else 0
def dueS (now : Int) (L : List Rt) : Nat := (L.map (dueN now)).sum
theorem vfH {now : Int} {L M : List Rt} (h : L.Perm M) : dueS now L = dueS now M := (h.map _).sum_nat
theorem vjq (now : Int) (L : List Rt) : dueS now L ≤ 2 * L.length := by
 induction L with
 | nil => exact Nat.le_refl _
 | cons x t ih =>
  unfold dueS at ih ⊢
  rw [List.map_cons, List.sum_cons, List.length_cons]
  have : dueN now x ≤ 2 := by unfold dueN; split <;> (try split) <;> (try split) <;> omega
  omega
theorem vlU {L : List Rt} (u : UpR L) {x : Rt} (hx : x ∈ L) : L.Perm (x :: offR x.p L) := by
 induction L with
 | nil => simp at hx
 | cons a t ih =>
  have h := List.pairwise_cons.1 u
  rcases List.mem_cons.1 hx with rfl | hx
  ·have e : offR x.p (x :: t) = t := by
    unfold offR
    rw [List.filter_cons, if_neg (by simp)]
    exact List.filter_eq_self.2 (fun y hy => by simpa using (vbB (h.1 y hy)).symm)
   rw [e]
  ·have e : offR x.p (a :: t) = a :: offR x.p t := by
    unfold offR
    rw [List.filter_cons, if_pos (by simpa using vbB (h.1 x hx))]
   rw [e]
   exact ((ih h.2 hx).cons a).trans (List.Perm.swap _ _ _)
theorem vlV {c : Cf} {r : Rt} {now : Int} (hc : okCf c = true) (hr : okR r = true) (h2 : 2 ≤ r.s) (hd : r.d ≤ now) : dueN now (expR c r now) < dueN now r := by
 have ht := vbJ hc 4 (by omega)
 simp only [leastS, Cf.t] at ht
 have hs := vbh ((vaq r).1 hr).2
 unfold expR
 rw [if_neg (by omega)]
 split
 ·next e =>
  have e1 : dueN now r = 2 := by unfold dueN; rw [if_pos hd, if_pos e]
  have e2 : dueN now (lostR c r now) ≤ 1 := by unfold dueN lostR; split <;> simp
  omega
 ·next e =>
  have e1 : dueN now r = 1 := by unfold dueN; rw [if_pos hd, if_neg e, if_pos (by omega)]
  split
  ·have e2 : dueN now ⟨r.p, 4, r.m, 0, r.f, r.x, now + c.t4, r.c⟩ = 0 := by unfold dueN; rw [if_neg (by simp only; omega)]
   omega
  ·have e2 : dueN now (noR r.p) = 0 := by unfold dueN noR; split <;> simp
   omega
theorem vhc {c : Cf} {r : Rt} {L : List Rt} {now : Int} (u : UpR L) (hc : okCf c = true) (hx : r ∈ L) (hr : okR r = true) (h2 : 2 ≤ r.s) (hd : r.d ≤ now) : dueS now (setR (expR c r now) L) < dueS now L := by
 have e1 := vfH (now := now) (vlU u hx)
 have e2 := vfH (now := now) (vas (expR c r now) L)
 rw [exp_p] at e2
 have e3 := vlV hc hr h2 hd
 rw [e1, e2]
 unfold dueS
 rw [List.map_cons, List.sum_cons, List.map_append, List.sum_append_nat]
 have : ((if (expR c r now).s = 0 then [] else [expR c r now]).map (dueN now)).sum ≤ dueN now (expR c r now) := by split <;> simp
 omega
theorem vjr {T : Tb} (h : TbOk T) (now : Int) (ht : 0 ≤ now ∧ now ≤ 4611686018426387904) : ∀ (k : Nat) (M : List Rt), TbOk ⟨T.c, M, now, T.rf⟩ → TbOk ⟨T.c, (expG T.c now k M).1, now, T.rf⟩
 | 0, M, hM => hM
 | k + 1, M, hM => by
  unfold expG
  split
  ·exact hM
  ·next r e =>
   split
   ·exact hM
   ·next hd =>
    obtain ⟨h1, h2, _⟩ := (vba hM.u).2 r e
    exact vjr h now ht k _ (hM.put h1 (exp_p _ _ _) (vcw h.c (hM.r r h1).1 (by rw [okNow, vaa]; exact ht)) ht h.f)
theorem vdG {c : Cf} {now : Int} (hc : okCf c = true) : ∀ (k j : Nat) (L : List Rt), UpR L → (∀ x ∈ L, okR x = true) → okNow now = true → dueS now L < k → dueS now L < j → expG c now k L = expG c now j L
 | 0, _, _, _, _, _, h, _ => absurd h (Nat.not_lt_zero _)
 | _, 0, _, _, _, _, _, h => absurd h (Nat.not_lt_zero _)
 | k + 1, j + 1, L, u, hr, hn, hk, hj => by
  unfold expG
  cases e : firstR L with
  | none => rfl
  | some r =>
   by_cases hd : now < r.d
   ·simp only [hd, if_true]
   ·obtain ⟨h1, h2, _⟩ := (vba u).2 r e
    have hlt := vhc u hc h1 (hr r h1) h2 (now := now) (by omega)
    have ih := vdG hc k j (setR (expR c r now) L) (vbw _ u) (fun x hx => by
     rcases vao.1 hx with ⟨rfl, _⟩ | ⟨hx, _⟩
     ·exact vcw hc (hr r h1) hn
     ·exact hr x hx) hn (by omega) (by omega)
    simp only [hd, if_false, ih]
theorem vnc {T : Tb} (h : TbOk T) (now : Int) : TbOk (expT T now).1 := by
 unfold expT
 split
 ·next e2 =>
  rw [vaX] at e2
  exact vjr h now (by omega) 1000 T.l ⟨h.c, h.u, h.r, h.n, by show 0 ≤ now ∧ now ≤ _; omega, h.f⟩
 ·exact h
theorem vjs (L : List Rt) : UpR (L.map seenR) ↔ UpR L := by
 unfold UpR
 rw [List.pairwise_map]
 exact Iff.rfl
theorem vhR {r : Rt} (h : okR r = true) : okR (seenR r) = true := by
 rw [vaq] at h ⊢
 refine ⟨h.1, ?_⟩
 by_cases e : r.s = 0
 ·have h2 : (if r.s = 0 then hasB r 0 0 && (nowB r && !r.c) else _) = true := h.2
  rw [if_pos e] at h2
  show (if r.s = 0 then hasB r 0 0 && (nowB r && !false) else _) = true
  rw [if_pos e]
  simp only [Bool.and_eq_true] at h2 ⊢
  exact ⟨h2.1, h2.2.1, rfl⟩
 ·have h2 := h.2
  unfold stateB at h2
  rw [if_neg e] at h2
  show (if r.s = 0 then hasB r 0 0 && (nowB r && !false) else _) = true
  rw [if_neg e]
  exact h2
theorem vnX {T : Tb} (h : TbOk T) : TbOk (seenT T).1 where
 c := h.c
 u := (vjs _).2 h.u
 r := fun x hx => by
  obtain ⟨y, hy, rfl⟩ := List.mem_map.1 hx
  exact ⟨vhR (h.r y hy).1, (h.r y hy).2⟩
 n := by show ((T.l.map seenR).length : Int) ≤ _; rw [List.length_map]; exact h.n
 t := h.t
 f := h.f
theorem vaY : ∀ (l : List PI) (L : List Rt), UpR L → UpR (putAll (l.map ownR) L) ∧ (∀ x, x ∈ putAll (l.map ownR) L ↔ (∃ p ∈ l, x = ownR p) ∨ (x ∈ L ∧ x.p ∉ l)) ∧ (putAll (l.map ownR) L).length ≤ l.length + L.length
 | [], L, u => ⟨u, fun x => by simp [putAll], by simp [putAll]⟩
 | p :: l, L, u => by
  obtain ⟨h1, h2, h3⟩ := vaY l (setR (ownR p) L) (vbw _ u)
  have e : putAll ((p :: l).map ownR) L = putAll (l.map ownR) (setR (ownR p) L) := rfl
  rw [e]
  refine ⟨h1, fun x => ?_, ?_⟩
  ·rw [h2 x, vao]
   have e0 : (ownR p).p = p := rfl
   have e1 : (ownR p).s ≠ 0 := (by decide : (1 : Int) ≠ 0)
   rw [e0]
   constructor
   ·rintro (⟨q, hq, rfl⟩ | ⟨⟨rfl, _⟩ | ⟨hx, hxp⟩, hn⟩)
    ·exact .inl ⟨q, List.mem_cons_of_mem _ hq, rfl⟩
    ·exact .inl ⟨p, List.mem_cons_self, rfl⟩
    ·exact .inr ⟨hx, fun h => by rcases List.mem_cons.1 h with h | h <;> first | exact hxp h | exact hn h⟩
   ·rintro (⟨q, hq, rfl⟩ | ⟨hx, hn⟩)
    ·rcases List.mem_cons.1 hq with rfl | hq
     ·by_cases hm : q ∈ l
      ·exact .inl ⟨q, hm, rfl⟩
      ·exact .inr ⟨.inl ⟨rfl, e1⟩, hm⟩
     ·exact .inl ⟨q, hq, rfl⟩
    ·exact .inr ⟨.inr ⟨hx, fun h => hn (by rw [h]; exact List.mem_cons_self)⟩, fun h => hn (List.mem_cons_of_mem _ h)⟩
  ·have hl := (vas (ownR p) L).length_eq
   rw [List.length_append, if_neg (show ¬ (ownR p).s = 0 from (by decide : ¬ (1 : Int) = 0))] at hl
   have ho : (offR (ownR p).p L).length ≤ L.length := List.length_filter_le _ _
   simp only [List.length_cons, List.length_nil] at hl ⊢
   omega
theorem vjt {c : Cf} (h : okCf c = true) : TbOk (newT c) := by
 obtain ⟨h1, h2, h3⟩ := vaY c.own [] List.Pairwise.nil
 obtain ⟨g1, g2, g3, g4, g5, g6⟩ := vaO h
 refine ⟨h, h1, fun x hx => ?_, ?_, by show (0 : Int) ≤ 0 ∧ (0 : Int) ≤ _; omega, by show (0 : Int) ≤ 0 ∧ (0 : Int) ≤ _; omega⟩
 ·rcases (h2 x).1 hx with ⟨p, hp, rfl⟩ | ⟨hx, _⟩
  ·exact ⟨vfD (g5 p hp), (by decide : (1 : Int) ≠ 0)⟩
  ·simp at hx
 ·show ((putAll (c.own.map ownR) []).length : Int) ≤ c.cap
  simp only [List.length_nil] at h3
  omega
def roC (r : Rt) : Array Value := #[.int .u32 (r.p.a : Int), .int .i64 r.p.l, .int .i64 r.s, .int .i64 r.m, .int .i64 r.l, .int .i64 r.f, .int .u32 (r.x : Int), .int .i64 r.d, .bool r.c]
abbrev roV (r : Rt) : Value := .agg #[.int .u32 (r.p.a : Int), .int .i64 r.p.l, .int .i64 r.s, .int .i64 r.m, .int .i64 r.l, .int .i64 r.f, .int .u32 (r.x : Int), .int .i64 r.d, .bool r.c]
def roSet (w : World) (g : Nat) (r : Rt) : World := (((((((((w.setCell ⟨g, 0, none⟩ (.int .u32 (r.p.a : Int))).setCell ⟨g, 1, none⟩ (.int .i64 r.p.l)).setCell ⟨g, 2, none⟩ (.int .i64 r.s)).setCell ⟨g, 3, none⟩ (.int .i64 r.m)).setCell ⟨g, 4, none⟩ (.int .i64 r.l)).setCell ⟨g, 5, none⟩ (.int .i64 r.f)).setCell ⟨g, 6, none⟩ (.int .u32 (r.x : Int))).setCell ⟨g, 7, none⟩ (.int .i64 r.d)).setCell ⟨g, 8, none⟩ (.bool r.c))
theorem Blk.putRo {w : World} {g : Nat} {T : TypeId} {v0 v1 v2 v3 v4 v5 v6 v7 v8 : Value} (h : Blk w g T #[v0, v1, v2, v3, v4, v5, v6, v7, v8]) (r : Rt) : Blk (roSet w g r) g T (roC r) := by
 have H := (((((((((h.set_ 0 (.int .u32 (r.p.a : Int))).set_ 1 (.int .i64 r.p.l)).set_ 2 (.int .i64 r.s)).set_ 3 (.int .i64 r.m)).set_ 4 (.int .i64 r.l)).set_ 5 (.int .i64 r.f)).set_ 6 (.int .u32 (r.x : Int))).set_ 7 (.int .i64 r.d)).set_ 8 (.bool r.c))
 simp only [List.setIfInBounds_toArray, List.set_cons_zero, List.set_cons_succ] at H
 exact H
theorem Blk.putRo_far {w : World} {g p : Nat} {T : TypeId} {cs : Array Value} (h : Blk w g T cs) (hg : g ≠ p) (r : Rt) : Blk (roSet w p r) g T cs := (((((((((h.far (p := ⟨p, 0, none⟩) hg (.int .u32 (r.p.a : Int))).far (p := ⟨p, 1, none⟩) hg (.int .i64 r.p.l)).far (p := ⟨p, 2, none⟩) hg (.int .i64 r.s)).far (p := ⟨p, 3, none⟩) hg (.int .i64 r.m)).far (p := ⟨p, 4, none⟩) hg (.int .i64 r.l)).far (p := ⟨p, 5, none⟩) hg (.int .i64 r.f)).far (p := ⟨p, 6, none⟩) hg (.int .u32 (r.x : Int))).far (p := ⟨p, 7, none⟩) hg (.int .i64 r.d)).far (p := ⟨p, 8, none⟩) hg (.bool r.c))
theorem Only.putRo {bs : List Nat} {a w : World} (h : Only bs a w) {g : Nat} (hg : g ∈ bs ∨ a.heap.size ≤ g) (r : Rt) : Only bs a (roSet w g r) := (((((((((h.setCell (p := ⟨g, 0, none⟩) hg (.int .u32 (r.p.a : Int))).setCell (p := ⟨g, 1, none⟩) hg (.int .i64 r.p.l)).setCell (p := ⟨g, 2, none⟩) hg (.int .i64 r.s)).setCell (p := ⟨g, 3, none⟩) hg (.int .i64 r.m)).setCell (p := ⟨g, 4, none⟩) hg (.int .i64 r.l)).setCell (p := ⟨g, 5, none⟩) hg (.int .i64 r.f)).setCell (p := ⟨g, 6, none⟩) hg (.int .u32 (r.x : Int))).setCell (p := ⟨g, 7, none⟩) hg (.int .i64 r.d)).setCell (p := ⟨g, 8, none⟩) hg (.bool r.c))
theorem Kp.putRo {a w : World} (h : Kp a w) {g : Nat} (hg : a.heap.size ≤ g) (r : Rt) : Kp a (roSet w g r) := (((((((((h.setCell (p := ⟨g, 0, none⟩) hg (.int .u32 (r.p.a : Int))).setCell (p := ⟨g, 1, none⟩) hg (.int .i64 r.p.l)).setCell (p := ⟨g, 2, none⟩) hg (.int .i64 r.s)).setCell (p := ⟨g, 3, none⟩) hg (.int .i64 r.m)).setCell (p := ⟨g, 4, none⟩) hg (.int .i64 r.l)).setCell (p := ⟨g, 5, none⟩) hg (.int .i64 r.f)).setCell (p := ⟨g, 6, none⟩) hg (.int .u32 (r.x : Int))).setCell (p := ⟨g, 7, none⟩) hg (.int .i64 r.d)).setCell (p := ⟨g, 8, none⟩) hg (.bool r.c))
theorem Blk.put9 {W w : World} {g : Nat} {T : TypeId} {v0 v1 v2 v3 v4 v5 v6 v7 v8 : Value} (h : Blk W g T #[v0, v1, v2, v3, v4, v5, v6, v7, v8]) (r : Rt) (k : Kp w W) (hg : w.heap.size ≤ g) : ∃ R, roSet W g r = R ∧ Blk R g T (roC r) ∧ Kp w R := ⟨_, rfl, Blk.putRo h r, Kp.putRo k hg r⟩
theorem Blk.put10 {W w : World} {g e : Nat} {T T' : TypeId} {v0 v1 v2 v3 v4 v5 v6 v7 v8 x v : Value} (h : Blk W g T #[v0, v1, v2, v3, v4, v5, v6, v7, v8]) (r : Rt) (he : Blk W e T' #[x]) (hge : g ≠ e) (k : Kp w W) (hg : w.heap.size ≤ g) (hh : w.heap.size ≤ e) : ∃ R, (roSet W g r).setCell ⟨e, 0, none⟩ v = R ∧ Blk R g T (roC r) ∧ Blk R e T' #[v] ∧ Kp w R :=
 ⟨_, rfl, (Blk.putRo h r).far (p := ⟨e, 0, none⟩) hge _, (Blk.putRo_far he (fun z => hge z.symm) r).set_ 0 v, (Kp.putRo k hg r).setCell (p := ⟨e, 0, none⟩) hh _⟩
theorem Blk.putO {w : World} {g e : Nat} {T T' : TypeId} {v0 v1 v2 v3 v4 v5 v6 v7 v8 x v : Value} (h : Blk w g T #[v0, v1, v2, v3, v4, v5, v6, v7, v8]) (r : Rt) (he : Blk w e T' #[x]) (hge : g ≠ e) : ∃ R, (roSet w g r).setCell ⟨e, 0, none⟩ v = R ∧ Blk R g T (roC r) ∧ Blk R e T' #[v] ∧ Only [g, e] w R :=
 ⟨_, rfl, (Blk.putRo h r).far (p := ⟨e, 0, none⟩) hge _, (Blk.putRo_far he (fun z => hge z.symm) r).set_ 0 v, (Only.putRo (Only.refl _ w) (.inl (by simp)) r).setCell (p := ⟨e, 0, none⟩) (.inl (by simp)) _⟩
theorem vae {w : World} {g : Nat} {T : TypeId} {r : Rt} (h : Blk w g T (roC r)) : w.cell? ⟨g, 0, none⟩ = some (.int .u32 (r.p.a : Int)) ∧ w.cell? ⟨g, 1, none⟩ = some (.int .i64 r.p.l) ∧ w.cell? ⟨g, 2, none⟩ = some (.int .i64 r.s) ∧ w.cell? ⟨g, 3, none⟩ = some (.int .i64 r.m) ∧ w.cell? ⟨g, 4, none⟩ = some (.int .i64 r.l) ∧ w.cell? ⟨g, 5, none⟩ = some (.int .i64 r.f) ∧ w.cell? ⟨g, 6, none⟩ = some (.int .u32 (r.x : Int)) ∧ w.cell? ⟨g, 7, none⟩ = some (.int .i64 r.d) ∧ w.cell? ⟨g, 8, none⟩ = some (.bool r.c) := ⟨h.cell 0, h.cell 1, h.cell 2, h.cell 3, h.cell 4, h.cell 5, h.cell 6, h.cell 7, h.cell 8⟩
def zero9 : Array Value := #[.int .u32 0, .int .i64 0, .int .i64 0, .int .i64 0, .int .i64 0, .int .i64 0, .int .u32 0, .int .i64 0, .bool false]
theorem veT : roC zeroR = zero9 := rfl
theorem vju (p : PI) : checkR (ownR p) = if toldB p then 0 else 2 := by
 show (if stateB (ownR p) && toldB p then (0 : Int) else 2) = _
 rw [show stateB (ownR p) = true from rfl, Bool.true_and]
def ROwnP (p : PI) (w : World) (e : Ending) (w' : World) : Prop := e = .returned (.tuple #[roV (if toldB p then ownR p else zeroR), .int .i64 (if toldB p then 0 else 2)]) ∧ Kp w w'
set_option maxRecDepth 100000 in
theorem vlW (p : PI) (w : World) (ha : p.a < 4294967296) : Calls Tryz.prog 52 #[.agg #[.int .u32 (p.a : Int), .int .i64 p.l]] w (ROwnP p w) := by
 obtain ⟨b, hb⟩ : ∃ b, w.heap.size = b := ⟨_, rfl⟩
 obtain ⟨W, hW, kW, B0, B1, B2⟩ := Blk.al3 hb #[.int .u32 (p.a : Int), .int .i64 p.l] 39 zero9 52 (roC (ownR p)) 52
 have hchk := vju p
 obtain ⟨p0, p1, p2, p3, p4, p5, p6, p7, p8⟩ := vae B2
 simp only [ownR, zero9, roC] at hW p0 p1 p2 p3 p4 p5 p6 p7 p8
 rw [show ((0 : Nat) : Int) = 0 from rfl] at hW p6
 have hbw := B2.lt
 go_enter Tryz.func52, Tryz.ntmps52
 go_wp2_with fail
 clear hW p0 p1 p2 p3 p4 p5 p6 p7 p8
 refine (vbo (ownR p) _ ha (by decide : 0 < 4294967296)).mono ?_
 rintro e w1 ⟨rfl, K1⟩
 have B3 := B1.keep K1
 have B4 := B2.keep K1
 have k1 := kW.trans K1
 have hlt := B4.lt
 clear B0 B1 B2 K1
 obtain ⟨p0, p1, p2, p3, p4, p5, p6, p7, p8⟩ := Blk.v9 B4 (.int .u32 (p.a : Int)) (.int .i64 p.l) (.int .i64 1) (.int .i64 1) (.int .i64 0) (.int .i64 0) (.int .u32 0) (.int .i64 0) (.bool true) rfl
 have q0 := Blk.f (l := [.int .u32 0, .int .i64 0, .int .i64 0, .int .i64 0, .int .i64 0, .int .i64 0, .int .u32 0, .int .i64 0, .bool false]) B3 rfl
 have z0 := Blk.frozen B3
 cases ht : toldB p with
 | true =>
  rw [ht] at hchk
  rw [hchk]
  simp only [if_true]
  go_wp2_with fail
  obtain ⟨W3, hW3, B6, k3⟩ : ∃ W3, roSet w1 (b + 1) (ownR p) = W3 ∧ Blk W3 (b + 1) 52 (roC (ownR p)) ∧ Kp w W3 := ⟨_, rfl, B3.putRo _, k1.putRo (by omega) _⟩
  simp only [roSet, ownR] at hW3
  rw [show ((0 : Nat) : Int) = 0 from rfl] at hW3
  rw [hW3]
  clear hW3 p0 p1 p2 p3 p4 p5 p6 p7 p8 q0 z0
  obtain ⟨y0, y1, y2, y3, y4, y5, y6, y7, y8⟩ := vae B6
  exact ⟨rfl, .tuple #[roV (ownR p), .int .i64 0], by simp [results, Tryz.results52, go_sem, y0, y1, y2, y3, y4, y5, y6, y7, y8], by rw [ht]; rfl, k3⟩
 | false =>
  rw [ht] at hchk
  rw [hchk]
  simp only [Bool.false_eq_true, if_false]
  go_wp2_with fail
  obtain ⟨W3, hW3, B6, k3⟩ : ∃ W3, roSet w1 (b + 1) zeroR = W3 ∧ Blk W3 (b + 1) 52 (roC zeroR) ∧ Kp w W3 := ⟨_, rfl, B3.putRo _, k1.putRo (by omega) _⟩
  simp only [roSet, zeroR, noR] at hW3
  rw [show ((0 : Nat) : Int) = 0 from rfl] at hW3
  rw [hW3]
  clear hW3 p0 p1 p2 p3 p4 p5 p6 p7 p8
  obtain ⟨y0, y1, y2, y3, y4, y5, y6, y7, y8⟩ := vae B6
  exact ⟨rfl, .tuple #[roV zeroR, .int .i64 2], by simp [results, Tryz.results52, go_sem, y0, y1, y2, y3, y4, y5, y6, y7, y8], by rw [ht]; rfl, k3⟩
end

end Go.Proofs.YtgopnfacklmkaaaGreatDoor
