/- Lemmas and contracts for the theorem of this claim: RbL, RbM, RoA, RoB. -/
import Derived.Test.YtgopnfacklmkaaaGreatDoorZxAr
import Derived.BigQuiet
set_option linter.all false
set_option maxHeartbeats 16000000
namespace Go.Proofs.YtgopnfacklmkaaaGreatDoor
section
open Go.RowKit
def ltP (p q : PI) : Prop := (p.a : Int) < q.a ∨ ((p.a : Int) = q.a ∧ p.l < q.l)
theorem vdK (p q : PI) : ltP p q ∨ p = q ∨ ltP q p := by
 unfold ltP
 by_cases h1 : (p.a : Int) < q.a
 ·exact .inl (.inl h1)
 ·by_cases h2 : (q.a : Int) < p.a
  ·exact .inr (.inr (.inl h2))
  ·have ha : (p.a : Int) = q.a := by omega
   by_cases h3 : p.l < q.l
   ·exact .inl (.inr ⟨ha, h3⟩)
   ·by_cases h4 : q.l < p.l
    ·exact .inr (.inr (.inr ⟨ha.symm, h4⟩))
    ·exact .inr (.inl (PI.ext' (by omega) (by omega)))
theorem vbI {p q : PI} (h : ltP p q) : p ≠ q := by rintro rfl; unfold ltP at h; omega
theorem veo {p q : PI} (h : ltP p q) : ¬ ltP q p := by unfold ltP at *; omega
theorem vep {p q r : PI} (h : ltP p q) (k : ltP q r) : ltP p r := by unfold ltP at *; omega
theorem vfn {p q : PI} : ordI p.a p.l q.a q.l < 0 ↔ ltP p q := vfl
theorem vht {p q : PI} : ordI p.a p.l q.a q.l = 0 ↔ p = q := by
 constructor
 ·intro h
  unfold ordI at h
  split at h
  ·next e => exact PI.ext' (by have := vay.1 e; omega) (vay.1 h)
  ·next e => exact absurd h e
 ·rintro rfl
  unfold ordI
  rw [vhl, if_pos rfl, vhl]
theorem veS {p q : PI} : ordI p.a p.l q.a q.l ≤ 0 ↔ ¬ ltP q p := by
 rw [show (ordI p.a p.l q.a q.l ≤ 0) ↔ (ordI p.a p.l q.a q.l < 0 ∨ ordI p.a p.l q.a q.l = 0) by omega, vfn, vht]
 constructor
 ·rintro (h | rfl)
  ·exact veo h
  ·exact fun h => vbI h rfl
 ·intro h
  rcases vdK p q with h1 | h1 | h1
  all_goals first | exact .inl h1 | exact .inr h1 | exact absurd h1 h
def UpR (L : List Rt) : Prop := L.Pairwise (fun x y => ltP x.p y.p)
theorem UpR.inj {L : List Rt} (u : UpR L) : ∀ {x y : Rt}, x ∈ L → y ∈ L → x.p = y.p → x = y := by
 induction L with
 | nil => intro x y hx; simp at hx
 | cons a t ih =>
  intro x y hx hy e
  have h := List.pairwise_cons.1 u
  rcases List.mem_cons.1 hx with e1 | h1
  ·rcases List.mem_cons.1 hy with e2 | h2
   ·rw [e1, e2]
   ·subst e1
    exact absurd e (vbI (h.1 _ h2))
  ·rcases List.mem_cons.1 hy with e2 | h2
   ·subst e2
    exact absurd e.symm (vbI (h.1 _ h1))
   ·exact ih h.2 h1 h2 e
theorem UpR.filter {L : List Rt} (u : UpR L) (f : Rt → Bool) : UpR (L.filter f) := List.Pairwise.sublist List.filter_sublist u
theorem UpR.nodup {L : List Rt} (u : UpR L) : (L.map Rt.p).Nodup := by
 rw [List.Nodup, List.pairwise_map]
 exact u.imp (fun h => vbI h)
theorem UpR.eq {L M : List Rt} (u : UpR L) (v : UpR M) (h : ∀ x, x ∈ L ↔ x ∈ M) : L = M := by
 induction L generalizing M with
 | nil =>
  cases M with
  | nil => rfl
  | cons y t => exact absurd ((h y).2 List.mem_cons_self) (by simp)
 | cons x t ih =>
  cases M with
  | nil => exact absurd ((h x).1 List.mem_cons_self) (by simp)
  | cons y s =>
   have hu := List.pairwise_cons.1 u
   have hv := List.pairwise_cons.1 v
   have exy : x = y := by
    rcases List.mem_cons.1 ((h x).1 List.mem_cons_self) with e | e
    ·exact e
    ·rcases List.mem_cons.1 ((h y).2 List.mem_cons_self) with e2 | e2
     ·exact e2.symm
     ·exact absurd (hv.1 _ e) (veo (hu.1 _ e2))
   subst exy
   congr 1
   refine ih hu.2 hv.2 (fun z => ?_)
   constructor
   ·intro hz
    rcases List.mem_cons.1 ((h z).1 (List.mem_cons_of_mem _ hz)) with e | e
    ·subst e
     exact absurd rfl (vbI (hu.1 _ hz))
    ·exact e
   ·intro hz
    rcases List.mem_cons.1 ((h z).2 (List.mem_cons_of_mem _ hz)) with e | e
    ·subst e
     exact absurd rfl (vbI (hv.1 _ hz))
    ·exact e
theorem UpR.eq_perm {L M : List Rt} (u : UpR L) (v : UpR M) (h : L.Perm M) : L = M := u.eq v (fun _ => h.mem_iff)
def getR (p : PI) (L : List Rt) : Option Rt := L.find? (fun x => decide (x.p = p))
theorem vaw {p : PI} {L : List Rt} {r : Rt} (h : getR p L = some r) : r ∈ L ∧ r.p = p := ⟨List.mem_of_find?_eq_some h, by simpa using List.find?_some h⟩
theorem vhu {L : List Rt} (u : UpR L) {r : Rt} (h : r ∈ L) : getR r.p L = some r := by
 cases e : getR r.p L with
 | none =>
  have := List.find?_eq_none.1 e r h
  simp at this
 | some x =>
  obtain ⟨h1, h2⟩ := vaw e
  rw [u.inj h1 h h2]
theorem vhv {p : PI} {L : List Rt} : getR p L = none ↔ ∀ x ∈ L, x.p ≠ p := by
 unfold getR
 rw [List.find?_eq_none]
 simp
def offR (p : PI) (L : List Rt) : List Rt := L.filter (fun x => decide (x.p ≠ p))
theorem vcs {p : PI} {L : List Rt} {x : Rt} : x ∈ offR p L ↔ x ∈ L ∧ x.p ≠ p := by unfold offR; simp
def withG (r : Rt) : Bool → List Rt → List Rt
 | d, [] => if d then [] else [r]
 | d, x :: t => (if !d && decide (ordI r.p.a r.p.l x.p.a x.p.l ≤ 0) then [r] else []) ++ ((if x.p = r.p then [] else [x]) ++ withG r (d || decide (ordI r.p.a r.p.l x.p.a x.p.l ≤ 0)) t)
def setR (r : Rt) (L : List Rt) : List Rt := withG r (decide (r.s = 0)) L
theorem vbj (r : Rt) (L : List Rt) : withG r true L = offR r.p L := by
 induction L with
 | nil => rfl
 | cons x t ih =>
  unfold withG offR
  rw [List.filter_cons]
  simp only [Bool.not_true, Bool.false_and, Bool.false_eq_true, if_false, List.nil_append, Bool.true_or, ih]
  by_cases h : x.p = r.p
  ·simp [h, offR]
  ·simp [h, offR]
theorem vdl (r : Rt) (d : Bool) (L : List Rt) : (withG r d L).Perm ((if d then [] else [r]) ++ offR r.p L) := by
 induction L generalizing d with
 | nil => unfold withG offR; cases d <;> simp
 | cons x t ih =>
  cases d with
  | true => rw [vbj]; simp
  | false =>
   unfold withG
   by_cases h : ordI r.p.a r.p.l x.p.a x.p.l ≤ 0
   ·simp only [Bool.not_false, Bool.true_and, h, decide_true, if_true, Bool.or_true, vbj, Bool.false_eq_true, if_false]
    refine List.Perm.append_left _ ?_
    unfold offR
    rw [List.filter_cons]
    by_cases hx : x.p = r.p
    ·simp [hx]
    ·simp [hx]
   ·simp only [Bool.not_false, Bool.true_and, h, decide_false, if_false, Bool.false_or, Bool.false_eq_true, List.nil_append]
    have i := ih false
    simp only [Bool.false_eq_true, if_false] at i
    have hx : ¬ x.p = r.p := by
     intro e
     rw [veS, e] at h
     exact h (fun k => vbI k rfl)
    rw [if_neg hx]
    have e : offR r.p (x :: t) = x :: offR r.p t := by unfold offR; rw [List.filter_cons]; simp [hx]
    rw [e]
    exact (i.cons x).trans (List.Perm.swap _ _ _)
theorem vaQ (r : Rt) (L : List Rt) : (setR r L).Perm ((if r.s = 0 then [] else [r]) ++ offR r.p L) := by
 have := vdl r (decide (r.s = 0)) L
 simpa [setR] using this
theorem vfo {r x : Rt} {L : List Rt} : x ∈ setR r L ↔ (x = r ∧ r.s ≠ 0) ∨ (x ∈ L ∧ x.p ≠ r.p) := by
 rw [(vaQ r L).mem_iff, List.mem_append, vcs]
 by_cases h : r.s = 0 <;> simp [h]
theorem vhw {r x : Rt} {d : Bool} {L : List Rt} : x ∈ withG r d L ↔ (x = r ∧ d = false) ∨ (x ∈ L ∧ x.p ≠ r.p) := by
 rw [(vdl r d L).mem_iff, List.mem_append, vcs]
 cases d <;> simp
theorem vjm (r : Rt) (d : Bool) {L : List Rt} (u : UpR L) : UpR (withG r d L) := by
 induction L generalizing d with
 | nil => unfold withG; cases d <;> simp [UpR]
 | cons x t ih =>
  have hu := List.pairwise_cons.1 u
  cases d with
  | true => rw [vbj]; exact u.filter _
  | false =>
   unfold withG
   by_cases h : ordI r.p.a r.p.l x.p.a x.p.l ≤ 0
   ·simp only [Bool.not_false, Bool.true_and, h, decide_true, if_true, Bool.or_true, vbj]
    rw [veS] at h
    have hr : ∀ y ∈ t, ltP r.p y.p := fun y hy => by
     rcases vdK r.p x.p with k | k | k
     ·exact vep k (hu.1 y hy)
     ·rw [k]; exact hu.1 y hy
     ·exact absurd k h
    rw [List.singleton_append]
    refine List.pairwise_cons.2 ⟨fun y hy => ?_, ?_⟩
    ·rcases List.mem_append.1 hy with hy | hy
     ·by_cases hx : x.p = r.p
      ·rw [if_pos hx] at hy; simp at hy
      ·rw [if_neg hx] at hy
       simp only [List.mem_cons, List.not_mem_nil, or_false] at hy
       subst hy
       rcases vdK r.p y.p with k | k | k
       all_goals first | exact k | exact absurd k.symm hx | exact absurd k h
     ·exact hr y (vcs.1 hy).1
    ·by_cases hx : x.p = r.p
     ·rw [if_pos hx]; exact UpR.filter hu.2 _
     ·rw [if_neg hx]
      exact List.pairwise_cons.2 ⟨fun y hy => hu.1 y (vcs.1 hy).1, UpR.filter hu.2 _⟩
   ·simp only [Bool.not_false, Bool.true_and, h, decide_false, Bool.false_or, Bool.false_eq_true, if_false, List.nil_append]
    rw [veS] at h
    have h := Classical.not_not.1 h
    rw [if_neg (fun e => vbI h e)]
    refine List.pairwise_cons.2 ⟨fun y hy => ?_, ih false hu.2⟩
    rcases vhw.1 hy with ⟨rfl, _⟩ | ⟨hy, _⟩
    ·exact h
    ·exact hu.1 y hy
theorem vhx (r : Rt) {L : List Rt} (u : UpR L) : UpR (setR r L) := vjm r _ u
def twR (r : Rt) : Tw := ⟨3, r.p, r.d⟩
def armL (L : List Rt) : List Tw := (L.filter (fun r => decide (2 ≤ r.s))).map twR
theorem vhy {L M : List Rt} (h : L.Perm M) : (armL L).Perm (armL M) := (h.filter _).map _
theorem vjn (p : PI) (L : List Rt) : armL (offR p L) = offP p (armL L) := by
 unfold armL offR offP
 rw [List.filter_map, List.filter_filter, List.filter_filter]
 congr 1
 refine List.filter_congr (fun x _ => ?_)
 simp only [Function.comp, twR]
 exact Bool.and_comm _ _
theorem veT (L M : List Rt) : armL (L ++ M) = armL L ++ armL M := by unfold armL; rw [List.filter_append, List.map_append]
theorem vjo (r : Rt) (L : List Rt) : (armL (setR r L)).Perm ((if 2 ≤ r.s then [twR r] else []) ++ offP r.p (armL L)) := by
 refine (vhy (vaQ r L)).trans ?_
 rw [veT, vjn]
 refine List.Perm.append_right _ ?_
 by_cases h : 2 ≤ r.s
 ·rw [if_pos h, if_neg (by omega)]
  simp [armL, h]
 ·rw [if_neg h]
  by_cases h0 : r.s = 0
  ·simp [armL, h0]
  ·simp [armL, h0, h]
def firstS (o : Option Rt) (x : Rt) : Option Rt := if decide (2 ≤ x.s) && (match o with | none => true | some y => decide (x.d < y.d)) then some x else o
def firstR (L : List Rt) : Option Rt := L.foldl firstS none
structure Tb where
 c : Cf
 l : List Rt
 now : Int
 rf : Int
structure TbOk (T : Tb) : Prop where
 c : okCf T.c = true
 u : UpR T.l
 r : ∀ x ∈ T.l, okR x = true ∧ x.s ≠ 0
 n : (T.l.length : Int) ≤ T.c.cap
 t : 0 ≤ T.now ∧ T.now ≤ 4611686018426387904
 f : 0 ≤ T.rf ∧ T.rf ≤ 2147483647
def zeroR : Rt := noR ⟨0, 0⟩
def wasR (p : PI) (L : List Rt) : Rt := (getR p L).getD (noR p)
def timely (T : Tb) (now : Int) : Bool := okNow now && decide (T.now ≤ now)
def fullB (T : Tb) (p : PI) (r : Rt) : Bool := (getR p T.l).isNone && (decide (r.s ≠ 0) && decide (T.c.cap ≤ (T.l.length : Int)))
def heardT (T : Tb) (p : PI) (h : Hd) (now : Int) : Tb × Rt × Int :=
 if toldB p && okHd h then
  if timely T now then
   if fullB T p (hearR T.c (wasR p T.l) h now) then (⟨T.c, T.l, now, min (T.rf + 1) 2147483647⟩, zeroR, 200)
   else (⟨T.c, setR (hearR T.c (wasR p T.l) h now) T.l, now, T.rf⟩, hearR T.c (wasR p T.l) h now, 0)
  else (T, zeroR, 170)
 else (T, zeroR, 2)
def putAll (l : List Rt) (L : List Rt) : List Rt := l.foldl (fun M r => setR r M) L
def newT (c : Cf) : Tb := ⟨c, putAll (c.own.map ownR) [], 0, 0⟩
theorem veq {T : Tb} (h : TbOk T) {p : PI} (hp : toldB p = true) : okR (wasR p T.l) = true ∧ (wasR p T.l).p = p := by
 unfold wasR
 cases e : getR p T.l with
 | none => exact ⟨vhq hp, rfl⟩
 | some r => exact ⟨(h.r r (vaw e).1).1, (vaw e).2⟩
theorem vdm {T : Tb} {now : Int} : timely T now = true ↔ 0 ≤ now ∧ now ≤ 4611686018426387904 ∧ T.now ≤ now := by
 unfold timely okNow
 rw [Bool.and_eq_true, vag, decide_eq_true_eq]
 omega
theorem vbX : ∀ (l : List PI) (L : List Rt), UpR L → UpR (putAll (l.map ownR) L) ∧ (∀ x, x ∈ putAll (l.map ownR) L ↔ (∃ p ∈ l, x = ownR p) ∨ (x ∈ L ∧ x.p ∉ l)) ∧ (putAll (l.map ownR) L).length ≤ l.length + L.length
 | [], L, u => ⟨u, fun x => by simp [putAll], by simp [putAll]⟩
 | p :: l, L, u => by
  obtain ⟨h1, h2, h3⟩ := vbX l (setR (ownR p) L) (vhx _ u)
  have e : putAll ((p :: l).map ownR) L = putAll (l.map ownR) (setR (ownR p) L) := rfl
  rw [e]
  refine ⟨h1, fun x => ?_, ?_⟩
  ·rw [h2 x, vfo]
   have e0 : (ownR p).p = p := rfl
   have e1 : (ownR p).s ≠ 0 := (by decide : (1 : Int) ≠ 0)
   rw [e0]
   constructor
   ·rintro (⟨q, hq, rfl⟩ | ⟨⟨rfl, _⟩ | ⟨hx, hxp⟩, hn⟩)
    ·exact .inl ⟨q, List.mem_cons_of_mem _ hq, rfl⟩
    ·exact .inl ⟨p, List.mem_cons_self, rfl⟩
    ·exact .inr ⟨hx, fun h => by rcases List.mem_cons.1 h with h | h <;> first | exact hxp h | exact hn h⟩
   ·rintro (⟨q, hq, rfl⟩ | ⟨hx, hn⟩)
    ·rcases List.mem_cons.1 hq with rfl | hq
     ·by_cases hm : q ∈ l
      ·exact .inl ⟨q, hm, rfl⟩
      ·exact .inr ⟨.inl ⟨rfl, e1⟩, hm⟩
     ·exact .inl ⟨q, hq, rfl⟩
    ·exact .inr ⟨.inr ⟨hx, fun h => hn (by rw [h]; exact List.mem_cons_self)⟩, fun h => hn (List.mem_cons_of_mem _ h)⟩
  ·have hl := (vaQ (ownR p) L).length_eq
   rw [List.length_append, if_neg (show ¬ (ownR p).s = 0 from (by decide : ¬ (1 : Int) = 0))] at hl
   have ho : (offR (ownR p).p L).length ≤ L.length := List.length_filter_le _ _
   simp only [List.length_cons, List.length_nil] at hl ⊢
   omega
theorem vlO {c : Cf} (h : okCf c = true) : TbOk (newT c) := by
 obtain ⟨h1, h2, h3⟩ := vbX c.own [] List.Pairwise.nil
 obtain ⟨g1, g2, g3, g4, g5, g6⟩ := vcq h
 refine ⟨h, h1, fun x hx => ?_, ?_, by show (0 : Int) ≤ 0 ∧ (0 : Int) ≤ _; omega, by show (0 : Int) ≤ 0 ∧ (0 : Int) ≤ _; omega⟩
 ·rcases (h2 x).1 hx with ⟨p, hp, rfl⟩ | ⟨hx, _⟩
  ·exact ⟨ven (g5 p hp), (by decide : (1 : Int) ≠ 0)⟩
  ·simp at hx
 ·show ((putAll (c.own.map ownR) []).length : Int) ≤ c.cap
  simp only [List.length_nil] at h3
  omega
def roC (r : Rt) : Array Value := #[.int .u32 (r.p.a : Int), .int .i64 r.p.l, .int .i64 r.s, .int .i64 r.m, .int .i64 r.l, .int .i64 r.f, .int .u32 (r.x : Int), .int .i64 r.d, .bool r.c]
abbrev roV (r : Rt) : Value := .agg #[.int .u32 (r.p.a : Int), .int .i64 r.p.l, .int .i64 r.s, .int .i64 r.m, .int .i64 r.l, .int .i64 r.f, .int .u32 (r.x : Int), .int .i64 r.d, .bool r.c]
def roSet (w : World) (g : Nat) (r : Rt) : World := (((((((((w.setCell ⟨g, 0, none⟩ (.int .u32 (r.p.a : Int))).setCell ⟨g, 1, none⟩ (.int .i64 r.p.l)).setCell ⟨g, 2, none⟩ (.int .i64 r.s)).setCell ⟨g, 3, none⟩ (.int .i64 r.m)).setCell ⟨g, 4, none⟩ (.int .i64 r.l)).setCell ⟨g, 5, none⟩ (.int .i64 r.f)).setCell ⟨g, 6, none⟩ (.int .u32 (r.x : Int))).setCell ⟨g, 7, none⟩ (.int .i64 r.d)).setCell ⟨g, 8, none⟩ (.bool r.c))
theorem Blk.putRo {w : World} {g : Nat} {T : TypeId} {v0 v1 v2 v3 v4 v5 v6 v7 v8 : Value} (h : Blk w g T #[v0, v1, v2, v3, v4, v5, v6, v7, v8]) (r : Rt) : Blk (roSet w g r) g T (roC r) := by
 have H := (((((((((h.set_ 0 (.int .u32 (r.p.a : Int))).set_ 1 (.int .i64 r.p.l)).set_ 2 (.int .i64 r.s)).set_ 3 (.int .i64 r.m)).set_ 4 (.int .i64 r.l)).set_ 5 (.int .i64 r.f)).set_ 6 (.int .u32 (r.x : Int))).set_ 7 (.int .i64 r.d)).set_ 8 (.bool r.c))
 simp only [List.setIfInBounds_toArray, List.set_cons_zero, List.set_cons_succ] at H
 exact H
theorem Blk.putRo_far {w : World} {g p : Nat} {T : TypeId} {cs : Array Value} (h : Blk w g T cs) (hg : g ≠ p) (r : Rt) : Blk (roSet w p r) g T cs := (((((((((h.far (p := ⟨p, 0, none⟩) hg (.int .u32 (r.p.a : Int))).far (p := ⟨p, 1, none⟩) hg (.int .i64 r.p.l)).far (p := ⟨p, 2, none⟩) hg (.int .i64 r.s)).far (p := ⟨p, 3, none⟩) hg (.int .i64 r.m)).far (p := ⟨p, 4, none⟩) hg (.int .i64 r.l)).far (p := ⟨p, 5, none⟩) hg (.int .i64 r.f)).far (p := ⟨p, 6, none⟩) hg (.int .u32 (r.x : Int))).far (p := ⟨p, 7, none⟩) hg (.int .i64 r.d)).far (p := ⟨p, 8, none⟩) hg (.bool r.c))
theorem Only.putRo {bs : List Nat} {a w : World} (h : Only bs a w) {g : Nat} (hg : g ∈ bs ∨ a.heap.size ≤ g) (r : Rt) : Only bs a (roSet w g r) := (((((((((h.setCell (p := ⟨g, 0, none⟩) hg (.int .u32 (r.p.a : Int))).setCell (p := ⟨g, 1, none⟩) hg (.int .i64 r.p.l)).setCell (p := ⟨g, 2, none⟩) hg (.int .i64 r.s)).setCell (p := ⟨g, 3, none⟩) hg (.int .i64 r.m)).setCell (p := ⟨g, 4, none⟩) hg (.int .i64 r.l)).setCell (p := ⟨g, 5, none⟩) hg (.int .i64 r.f)).setCell (p := ⟨g, 6, none⟩) hg (.int .u32 (r.x : Int))).setCell (p := ⟨g, 7, none⟩) hg (.int .i64 r.d)).setCell (p := ⟨g, 8, none⟩) hg (.bool r.c))
theorem Kp.putRo {a w : World} (h : Kp a w) {g : Nat} (hg : a.heap.size ≤ g) (r : Rt) : Kp a (roSet w g r) := (((((((((h.setCell (p := ⟨g, 0, none⟩) hg (.int .u32 (r.p.a : Int))).setCell (p := ⟨g, 1, none⟩) hg (.int .i64 r.p.l)).setCell (p := ⟨g, 2, none⟩) hg (.int .i64 r.s)).setCell (p := ⟨g, 3, none⟩) hg (.int .i64 r.m)).setCell (p := ⟨g, 4, none⟩) hg (.int .i64 r.l)).setCell (p := ⟨g, 5, none⟩) hg (.int .i64 r.f)).setCell (p := ⟨g, 6, none⟩) hg (.int .u32 (r.x : Int))).setCell (p := ⟨g, 7, none⟩) hg (.int .i64 r.d)).setCell (p := ⟨g, 8, none⟩) hg (.bool r.c))
theorem Blk.put9 {W w : World} {g : Nat} {T : TypeId} {v0 v1 v2 v3 v4 v5 v6 v7 v8 : Value} (h : Blk W g T #[v0, v1, v2, v3, v4, v5, v6, v7, v8]) (r : Rt) (k : Kp w W) (hg : w.heap.size ≤ g) : ∃ R, roSet W g r = R ∧ Blk R g T (roC r) ∧ Kp w R := ⟨_, rfl, Blk.putRo h r, Kp.putRo k hg r⟩
theorem Blk.put10 {W w : World} {g e : Nat} {T T' : TypeId} {v0 v1 v2 v3 v4 v5 v6 v7 v8 x v : Value} (h : Blk W g T #[v0, v1, v2, v3, v4, v5, v6, v7, v8]) (r : Rt) (he : Blk W e T' #[x]) (hge : g ≠ e) (k : Kp w W) (hg : w.heap.size ≤ g) (hh : w.heap.size ≤ e) : ∃ R, (roSet W g r).setCell ⟨e, 0, none⟩ v = R ∧ Blk R g T (roC r) ∧ Blk R e T' #[v] ∧ Kp w R :=
 ⟨_, rfl, (Blk.putRo h r).far (p := ⟨e, 0, none⟩) hge _, (Blk.putRo_far he (fun z => hge z.symm) r).set_ 0 v, (Kp.putRo k hg r).setCell (p := ⟨e, 0, none⟩) hh _⟩
theorem Blk.putO {w : World} {g e : Nat} {T T' : TypeId} {v0 v1 v2 v3 v4 v5 v6 v7 v8 x v : Value} (h : Blk w g T #[v0, v1, v2, v3, v4, v5, v6, v7, v8]) (r : Rt) (he : Blk w e T' #[x]) (hge : g ≠ e) : ∃ R, (roSet w g r).setCell ⟨e, 0, none⟩ v = R ∧ Blk R g T (roC r) ∧ Blk R e T' #[v] ∧ Only [g, e] w R :=
 ⟨_, rfl, (Blk.putRo h r).far (p := ⟨e, 0, none⟩) hge _, (Blk.putRo_far he (fun z => hge z.symm) r).set_ 0 v, (Only.putRo (Only.refl _ w) (.inl (by simp)) r).setCell (p := ⟨e, 0, none⟩) (.inl (by simp)) _⟩
theorem vac {w : World} {g : Nat} {T : TypeId} {r : Rt} (h : Blk w g T (roC r)) : w.cell? ⟨g, 0, none⟩ = some (.int .u32 (r.p.a : Int)) ∧ w.cell? ⟨g, 1, none⟩ = some (.int .i64 r.p.l) ∧ w.cell? ⟨g, 2, none⟩ = some (.int .i64 r.s) ∧ w.cell? ⟨g, 3, none⟩ = some (.int .i64 r.m) ∧ w.cell? ⟨g, 4, none⟩ = some (.int .i64 r.l) ∧ w.cell? ⟨g, 5, none⟩ = some (.int .i64 r.f) ∧ w.cell? ⟨g, 6, none⟩ = some (.int .u32 (r.x : Int)) ∧ w.cell? ⟨g, 7, none⟩ = some (.int .i64 r.d) ∧ w.cell? ⟨g, 8, none⟩ = some (.bool r.c) := ⟨h.cell 0, h.cell 1, h.cell 2, h.cell 3, h.cell 4, h.cell 5, h.cell 6, h.cell 7, h.cell 8⟩
def zero9 : Array Value := #[.int .u32 0, .int .i64 0, .int .i64 0, .int .i64 0, .int .i64 0, .int .i64 0, .int .u32 0, .int .i64 0, .bool false]
theorem vfp : roC zeroR = zero9 := rfl
theorem vhz (p : PI) : checkR (ownR p) = if toldB p then 0 else 2 := by
 show (if stateB (ownR p) && toldB p then (0 : Int) else 2) = _
 rw [show stateB (ownR p) = true from rfl, Bool.true_and]
def ROwnP (p : PI) (w : World) (e : Ending) (w' : World) : Prop := e = .returned (.tuple #[roV (if toldB p then ownR p else zeroR), .int .i64 (if toldB p then 0 else 2)]) ∧ Kp w w'
set_option maxRecDepth 100000 in
theorem vjp (p : PI) (w : World) (ha : p.a < 4294967296) : Calls Tryz.prog 52 #[.agg #[.int .u32 (p.a : Int), .int .i64 p.l]] w (ROwnP p w) := by
 obtain ⟨b, hb⟩ : ∃ b, w.heap.size = b := ⟨_, rfl⟩
 obtain ⟨W, hW, kW, B0, B1, B2⟩ := Blk.al3 hb #[.int .u32 (p.a : Int), .int .i64 p.l] 39 zero9 52 (roC (ownR p)) 52
 have hchk := vhz p
 obtain ⟨p0, p1, p2, p3, p4, p5, p6, p7, p8⟩ := vac B2
 simp only [ownR, zero9, roC] at hW p0 p1 p2 p3 p4 p5 p6 p7 p8
 rw [show ((0 : Nat) : Int) = 0 from rfl] at hW p6
 have hbw := B2.lt
 go_enter Tryz.func52, Tryz.ntmps52
 go_wp2_with fail
 clear hW p0 p1 p2 p3 p4 p5 p6 p7 p8
 refine (vbS (ownR p) _ ha (by decide : 0 < 4294967296)).mono ?_
 rintro e w1 ⟨rfl, K1⟩
 have B3 := B1.keep K1
 have B4 := B2.keep K1
 have k1 := kW.trans K1
 have hlt := B4.lt
 clear B0 B1 B2 K1
 obtain ⟨p0, p1, p2, p3, p4, p5, p6, p7, p8⟩ := Blk.v9 B4 (.int .u32 (p.a : Int)) (.int .i64 p.l) (.int .i64 1) (.int .i64 1) (.int .i64 0) (.int .i64 0) (.int .u32 0) (.int .i64 0) (.bool true) rfl
 have q0 := Blk.f (l := [.int .u32 0, .int .i64 0, .int .i64 0, .int .i64 0, .int .i64 0, .int .i64 0, .int .u32 0, .int .i64 0, .bool false]) B3 rfl
 have z0 := Blk.frozen B3
 cases ht : toldB p with
 | true =>
  rw [ht] at hchk
  rw [hchk]
  simp only [if_true]
  go_wp2_with fail
  obtain ⟨W3, hW3, B6, k3⟩ : ∃ W3, roSet w1 (b + 1) (ownR p) = W3 ∧ Blk W3 (b + 1) 52 (roC (ownR p)) ∧ Kp w W3 := ⟨_, rfl, B3.putRo _, k1.putRo (by omega) _⟩
  simp only [roSet, ownR] at hW3
  rw [show ((0 : Nat) : Int) = 0 from rfl] at hW3
  rw [hW3]
  clear hW3 p0 p1 p2 p3 p4 p5 p6 p7 p8 q0 z0
  obtain ⟨y0, y1, y2, y3, y4, y5, y6, y7, y8⟩ := vac B6
  exact ⟨rfl, .tuple #[roV (ownR p), .int .i64 0], by simp [results, Tryz.results52, go_sem, y0, y1, y2, y3, y4, y5, y6, y7, y8], by rw [ht]; rfl, k3⟩
 | false =>
  rw [ht] at hchk
  rw [hchk]
  simp only [Bool.false_eq_true, if_false]
  go_wp2_with fail
  obtain ⟨W3, hW3, B6, k3⟩ : ∃ W3, roSet w1 (b + 1) zeroR = W3 ∧ Blk W3 (b + 1) 52 (roC zeroR) ∧ Kp w W3 := ⟨_, rfl, B3.putRo _, k1.putRo (by omega) _⟩
  simp only [roSet, zeroR, noR] at hW3
  rw [show ((0 : Nat) : Int) = 0 from rfl] at hW3
  rw [hW3]
  clear hW3 p0 p1 p2 p3 p4 p5 p6 p7 p8
  obtain ⟨y0, y1, y2, y3, y4, y5, y6, y7, y8⟩ := vac B6
  exact ⟨rfl, .tuple #[roV zeroR, .int .i64 2], by simp [results, Tryz.results52, go_sem, y0, y1, y2, y3, y4, y5, y6, y7, y8], by rw [ht]; rfl, k3⟩
def RRetP (x : Rt) (w : World) (e : Ending) (w' : World) : Prop := e = .returned (roV x) ∧ Kp w w'
set_option maxRecDepth 100000 in
theorem vfq (c : Cf) (A : Option Addr) (n m : Nat) (r : Rt) (now : Int) (w : World) (hn0 : 0 ≤ now) (hn1 : now ≤ 4611686018427387904) (ht0 : 0 ≤ c.t3) (ht1 : c.t3 ≤ 1000000) : Calls Tryz.prog 146 #[cfV c A n m, roV r, .int .i64 now] w fun e w' => e = .returned (roV (lostR c r now)) ∧ Kp w w' := by
 obtain ⟨b, hb⟩ : ∃ b, w.heap.size = b := ⟨_, rfl⟩
 obtain ⟨W, hW, kW, B0, B1, B2⟩ := Blk.al3 hb (cfC c A n m) 49 (roC r) 52 zero9 52
 unfold cfC roC zero9 at hW
 have hlt := B2.lt
 have c3 := Blk.f B0 rfl
 have p0 := Blk.f B1 rfl
 have y0 := Blk.frozen B1
 obtain ⟨W5, hW5, B5, B6, k5⟩ : ∃ W5, (((((W.setCell ⟨b + 1, 2, none⟩ (.int .i64 3)).setCell ⟨b + 1, 4, none⟩ (.int .i64 r.m)).setCell ⟨b + 1, 3, none⟩ (.int .i64 16)).setCell ⟨b + 1, 7, none⟩ (.int .i64 (now + c.t3))).setCell ⟨b + 1, 8, none⟩ (.bool true)) = W5 ∧ Blk W5 (b + 1) 52 #[.int .u32 (r.p.a : Int), .int .i64 r.p.l, .int .i64 3, .int .i64 16, .int .i64 r.m, .int .i64 r.f, .int .u32 (r.x : Int), .int .i64 (now + c.t3), .bool true] ∧ Blk W5 (b + 1 + 1) 52 zero9 ∧ Kp w W5 := ⟨_, rfl, by have H := (((((B1.set_ 2 (.int .i64 3)).set_ 4 (.int .i64 r.m)).set_ 3 (.int .i64 16)).set_ 7 (.int .i64 (now + c.t3))).set_ 8 (.bool true)); simp only [roC, List.setIfInBounds_toArray, List.set_cons_zero, List.set_cons_succ] at H; exact H, (((((B2.far (p := ⟨b + 1, 2, none⟩) (by show b + 1 + 1 ≠ b + 1; omega) (.int .i64 3)).far (p := ⟨b + 1, 4, none⟩) (by show b + 1 + 1 ≠ b + 1; omega) (.int .i64 r.m)).far (p := ⟨b + 1, 3, none⟩) (by show b + 1 + 1 ≠ b + 1; omega) (.int .i64 16)).far (p := ⟨b + 1, 7, none⟩) (by show b + 1 + 1 ≠ b + 1; omega) (.int .i64 (now + c.t3))).far (p := ⟨b + 1, 8, none⟩) (by show b + 1 + 1 ≠ b + 1; omega) (.bool true)), (((((kW.setCell (p := ⟨b + 1, 2, none⟩) (by show w.heap.size ≤ b + 1; omega) (.int .i64 3)).setCell (p := ⟨b + 1, 4, none⟩) (by show w.heap.size ≤ b + 1; omega) (.int .i64 r.m)).setCell (p := ⟨b + 1, 3, none⟩) (by show w.heap.size ≤ b + 1; omega) (.int .i64 16)).setCell (p := ⟨b + 1, 7, none⟩) (by show w.heap.size ≤ b + 1; omega) (.int .i64 (now + c.t3))).setCell (p := ⟨b + 1, 8, none⟩) (by show w.heap.size ≤ b + 1; omega) (.bool true))⟩
 have s0 := Blk.f (l := [.int .u32 (r.p.a : Int), .int .i64 r.p.l, .int .i64 3, .int .i64 16, .int .i64 r.m, .int .i64 r.f, .int .u32 (r.x : Int), .int .i64 (now + c.t3), .bool true]) B5 rfl
 have q0 := Blk.f (l := [.int .u32 0, .int .i64 0, .int .i64 0, .int .i64 0, .int .i64 0, .int .i64 0, .int .u32 0, .int .i64 0, .bool false]) B6 rfl
 have z0 := Blk.frozen B6
 obtain ⟨W3, hW3, B7, k3⟩ : ∃ W3, roSet W5 (b + 1 + 1) (lostR c r now) = W3 ∧ Blk W3 (b + 1 + 1) 52 (roC (lostR c r now)) ∧ Kp w W3 := ⟨_, rfl, Blk.putRo B6 _, k5.putRo (by omega) _⟩
 obtain ⟨u0, u1, u2, u3, u4, u5, u6, u7, u8⟩ := vac B7
 simp only [roSet, lostR] at hW3
 simp only [lostR] at u0 u1 u2 u3 u4 u5 u6 u7 u8
 go_enter Tryz.func146, Tryz.ntmps146
 go_wp2_with fail
 exact ⟨rfl, roV (lostR c r now), by simp [results, Tryz.results146, go_sem, lostR, u0, u1, u2, u3, u4, u5, u6, u7, u8], rfl, k3⟩
abbrev stopRV (e : Int) : Value := .iface 219 (.int .i64 e)
abbrev stopR (e : Int) : Ending := .panicked [{ v := stopRV e, recovered := false }]
def yesP (b : Bool) (n : Int) (w : World) (e : Ending) (w' : World) : Prop := (b = true → e = .returned (.tuple #[])) ∧ (b = false → e = stopR n) ∧ Kp w w'
theorem yesP.no {b : Bool} {n : Int} {w w' : World} (h : b = false) (k : Kp w w') : yesP b n w (stopR n) w' := ⟨fun e => (by rw [h] at e; cases e), fun _ => rfl, k⟩
theorem yesP.yes {b : Bool} {n : Int} {w w' : World} (h : b = true) (k : Kp w w') : yesP b n w (.returned (.tuple #[])) w' := ⟨fun _ => rfl, fun e => (by rw [h] at e; cases e), k⟩
set_option maxRecDepth 100000 in
theorem veU (now : Int) (w : World) : Calls Tryz.prog 123 #[.int .i64 now] w (yesP (okNow now) 170 w) := by
 have kW := (Kp.refl w).alloc (.cells #[.int .i64 now] 2)
 go_enter Tryz.func123, Tryz.ntmps123
 go_wp2_with fail
 refine (vcc 0 4611686018426387904 now _ _ (Blk.new _ _ _)).mono ?_
 rintro e w1 ⟨rfl, rfl⟩
 cases h : withB 0 4611686018426387904 now with
 | true =>
  have H := Lib.hid (show okNow now = true from h)
  go_wp2_with fail
  go_end0
  exact yesP.yes H.out kW
 | false =>
  have H := Lib.hid (show okNow now = false from h)
  go_wp2_with fail
  exact ⟨rfl, yesP.no H.out kW⟩
set_option maxRecDepth 100000 in
theorem vdL (h : Hd) (w : World) (ha : h.a < 4294967296) : Calls Tryz.prog 122 #[.agg #[.int .i64 h.f, .int .u32 (h.a : Int), .int .i64 h.m]] w (yesP (okHd h) 2 w) := by
 obtain ⟨b, hb⟩ : ∃ b, w.heap.size = b := ⟨_, rfl⟩
 obtain ⟨W, hW, kW, B0⟩ := Blk.al1 hb #[.int .i64 h.f, .int .u32 (h.a : Int), .int .i64 h.m] 57
 have c0 := Blk.f B0 rfl
 go_enter Tryz.func122, Tryz.ntmps122
 go_wp2_with fail
 refine (vcD h.f h.a _ ha).mono ?_
 rintro e w1 ⟨rfl, K1⟩
 have B1 := B0.keep K1
 have k1 := kW.trans K1
 have c2 := Blk.f B1 rfl
 clear c0 hW
 cases h1 : mayB h.f h.a with
 | false =>
  have H := Lib.hid (show okHd h = false by unfold okHd; rw [h1]; rfl)
  go_wp2_with fail
  exact ⟨rfl, yesP.no H.out k1⟩
 | true =>
  go_wp2_with fail
  refine (vbh 1 16 h.m _ _ (Blk.new _ _ _)).mono ?_
  rintro e w2 ⟨rfl, rfl⟩
  have k2 := k1.alloc (.cells #[.int .i64 h.m] 3)
  cases h2 : withB 1 16 h.m with
  | true =>
   have H := Lib.hid (show okHd h = true by unfold okHd; rw [h1, h2]; rfl)
   go_wp2_with fail
   go_end0
   exact yesP.yes H.out k2
  | false =>
   have H := Lib.hid (show okHd h = false by unfold okHd; rw [h1, h2]; rfl)
   go_wp2_with fail
   exact ⟨rfl, yesP.no H.out k2⟩
def bothB (c : Cf) (r : Rt) : Bool := okCf c && okR r
set_option maxRecDepth 100000 in
theorem ver (c : Cf) (A : Option Addr) (m : Nat) (r : Rt) (w : World) (hS : SlPI w A m c.own) (hC : CapAt w) (ha : ∀ k (hk : k < c.own.length), c.own[k].a < 4294967296) (hp : r.p.a < 4294967296) (hx : r.x < 4294967296) : Calls Tryz.prog 121 #[cfV c A c.own.length m, roV r] w (yesP (bothB c r) 2 w) := by
 obtain ⟨b, hb⟩ : ∃ b, w.heap.size = b := ⟨_, rfl⟩
 obtain ⟨W, hW, kW, B0, B1⟩ := Blk.al2 hb (cfC c A c.own.length m) 49 (roC r) 52
 unfold cfC roC at hW
 have c0 := Blk.f B0 rfl
 have hS := hS.keep kW
 go_enter Tryz.func121, Tryz.ntmps121
 go_wp2_with fail
 refine (vdk c A m _ hS.le hS.rd (hC.keep kW) ha).mono ?_
 rintro e w1 ⟨rfl, K1⟩
 have B2 := B1.keep K1
 have k1 := kW.trans K1
 clear hW c0
 have p0 := Blk.f B2 rfl
 cases h1 : okCf c with
 | false =>
  rw [show checkC c = 2 by unfold checkC; rw [h1]; rfl]
  have H := Lib.hid (show bothB c r = false by unfold bothB; rw [h1]; rfl)
  go_wp2_with fail
  exact ⟨rfl, yesP.no H.out k1⟩
 | true =>
  rw [show checkC c = 0 by unfold checkC; rw [h1]; rfl]
  go_wp2_with fail
  refine (vbS r _ hp hx).mono ?_
  rintro e w2 ⟨rfl, K2⟩
  have k2 := k1.trans K2
  cases h2 : okR r with
  | true =>
   rw [show checkR r = 0 by rw [vek, h2]; rfl]
   have H := Lib.hid (show bothB c r = true by unfold bothB; rw [h1, h2]; rfl)
   go_wp2_with fail
   go_end0
   exact yesP.yes H.out k2
  | false =>
   rw [show checkR r = 2 by rw [vek, h2]; rfl]
   have H := Lib.hid (show bothB c r = false by unfold bothB; rw [h1, h2]; rfl)
   go_wp2_with fail
   exact ⟨rfl, yesP.no H.out k2⟩
theorem hearLay (c : Cf) (A : Option Addr) (n m : Nat) (r : Rt) (h : Hd) (w : World) (V : Array Value) : ∃ b W X, w.heap.size = b ∧ (((w.alloc (.cells (cfC c A n m) 49)).alloc (.cells (roC r) 52)).alloc (.cells #[.int .i64 h.f, .int .u32 (h.a : Int), .int .i64 h.m] 57)).alloc (.cells zero9 52) = W ∧ W.heap.size = b + 1 + 1 + 1 + 1 ∧ W.alloc (.cells V 52) = X ∧ Blk W b 49 (cfC c A n m) ∧ Blk W (b + 1) 52 (roC r) ∧ Blk W (b + 1 + 1) 57 #[.int .i64 h.f, .int .u32 (h.a : Int), .int .i64 h.m] ∧ Kp w X ∧ Blk X b 49 (cfC c A n m) ∧ Blk X (b + 1) 52 (roC r) ∧ Blk X (b + 1 + 1) 57 #[.int .i64 h.f, .int .u32 (h.a : Int), .int .i64 h.m] ∧ Blk X (b + 1 + 1 + 1) 52 zero9 ∧ Blk X (b + 1 + 1 + 1 + 1) 52 V := by
 obtain ⟨W, hW, k, B0, B1, B2, B3⟩ := Blk.al4 (w := w) rfl (cfC c A n m) 49 (roC r) 52 #[.int .i64 h.f, .int .u32 (h.a : Int), .int .i64 h.m] 57 zero9 52
 have hs : W.heap.size = w.heap.size + 1 + 1 + 1 + 1 := by rw [← hW]; simp
 obtain ⟨X, hX, k2, D⟩ := Blk.al1 hs V 52
 exact ⟨_, W, X, rfl, hW, hs, hX, B0, B1, B2, k.trans k2, B0.keep k2, B1.keep k2, B2.keep k2, B3.keep k2, D⟩
end

end Go.Proofs.YtgopnfacklmkaaaGreatDoor
