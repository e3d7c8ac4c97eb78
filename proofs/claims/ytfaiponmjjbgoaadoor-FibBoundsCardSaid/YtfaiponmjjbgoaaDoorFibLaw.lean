/- A table of hops as plain data: a list in order, and a tree of places. No program in sight. -/
import Derived.Test.YtfaiponmjjbgoaaDoorTr2
namespace Go.Proofs.YtfaiponmjjbgoaaDoor

structure Hp where
  p : Pn
  d : Bool
  f : Int
  x : Int
  m : Int
deriving DecidableEq

def Up (l : List Hp) : Prop := l.Pairwise (fun r s => r.p.lt s.p)
theorem up_ext : ∀ {l m : List Hp}, Up l → Up m → (∀ r, r ∈ l ↔ r ∈ m) → l = m
  | [], [], _, _, _ => rfl
  | [], s :: m, _, _, h => by have := (h s).2 (by simp); cases this
  | r :: l, [], _, _, h => by have := (h r).1 (by simp); cases this
  | r :: l, s :: m, hl, hm, h => by
    have hl' := List.pairwise_cons.1 hl
    have hm' := List.pairwise_cons.1 hm
    have e : r = s := by
      rcases List.mem_cons.1 ((h r).1 (by simp)) with e | h1
      · exact e
      · rcases List.mem_cons.1 ((h s).2 (by simp)) with e | h2
        · exact e.symm
        · exact absurd (lt_trans (hm'.1 r h1) (hl'.1 s h2)) (lt_irrefl _)
    subst e
    rw [up_ext hl'.2 hm'.2 (fun t => ?_)]
    constructor
    · intro ht
      rcases List.mem_cons.1 ((h t).1 (by simp [ht])) with e | h1
      · subst e; exact absurd (hl'.1 t ht) (lt_irrefl _)
      · exact h1
    · intro ht
      rcases List.mem_cons.1 ((h t).2 (by simp [ht])) with e | h1
      · subst e; exact absurd (hm'.1 t ht) (lt_irrefl _)
      · exact h1
theorem up_inj {l : List Hp} (h : Up l) {r s : Hp} (hr : r ∈ l) (hs : s ∈ l) (e : r.p = s.p) : r = s := by
  induction l with
  | nil => cases hr
  | cons a l ih =>
    have h' := List.pairwise_cons.1 h
    rcases List.mem_cons.1 hr with rfl | hr
    · rcases List.mem_cons.1 hs with rfl | hs
      · rfl
      · have := h'.1 s hs; rw [e] at this; exact absurd this (lt_irrefl _)
    · rcases List.mem_cons.1 hs with h1 | hs
      · subst h1
        have := h'.1 r (by assumption); rw [e] at this; exact absurd this (lt_irrefl _)
      · exact ih h'.2 (by assumption) hs

/-- The reference's list without a prefix's hop. -/
def delH (q : Pn) (l : List Hp) : List Hp := l.filter (fun e => !decide (e.p = q))
theorem del_mem {q : Pn} {l : List Hp} {e : Hp} : e ∈ delH q l ↔ e.p ≠ q ∧ e ∈ l := by
  unfold delH; rw [List.mem_filter]; simp [and_comm]
theorem del_up {q : Pn} {l : List Hp} (h : Up l) : Up (delH q l) := List.Pairwise.filter _ h
/-- The reference's list with a hop in its order, in the place of its prefix's. -/
def insH (h : Hp) : List Hp → List Hp
  | [] => [h]
  | e :: l => if e.p.lt h.p then e :: insH h l else h :: delH h.p (e :: l)
theorem ins_mem {h : Hp} : ∀ {l : List Hp}, Up l → ∀ e, e ∈ insH h l ↔ e = h ∨ (e.p ≠ h.p ∧ e ∈ l)
  | [], _, e => by simp [insH]
  | a :: l, hu, e => by
    have hu' := List.pairwise_cons.1 hu
    unfold insH
    split
    · rename_i hlt
      have ha : a.p ≠ h.p := fun e => by rw [e] at hlt; exact lt_irrefl _ hlt
      rw [List.mem_cons, ins_mem hu'.2 e, List.mem_cons]
      constructor
      · rintro (rfl | rfl | h1)
        · exact .inr ⟨ha, .inl rfl⟩
        · exact .inl rfl
        · exact .inr ⟨h1.1, .inr h1.2⟩
      · rintro (rfl | ⟨h1, rfl | h2⟩)
        · exact .inr (.inl rfl)
        · exact .inl rfl
        · exact .inr (.inr ⟨h1, h2⟩)
    · rw [List.mem_cons, del_mem]
theorem ins_up {h : Hp} : ∀ {l : List Hp}, Up l → Up (insH h l)
  | [], _ => List.pairwise_singleton _ _
  | a :: l, hu => by
    have hu' := List.pairwise_cons.1 hu
    unfold insH
    split
    · rename_i hlt
      refine List.pairwise_cons.2 ⟨fun e he => ?_, ins_up hu'.2⟩
      rcases (ins_mem hu'.2 e).1 he with rfl | ⟨_, h2⟩
      · exact hlt
      · exact hu'.1 e h2
    · rename_i hn
      refine List.pairwise_cons.2 ⟨fun e he => ?_, del_up hu⟩
      obtain ⟨h1, h2⟩ := del_mem.1 he
      rcases List.mem_cons.1 h2 with rfl | h2
      · rcases lt_total h.p e.p with h3 | h3 | h3
        · exact h3
        · exact absurd h3.symm h1
        · exact absurd h3 hn
      · rcases lt_total h.p a.p with h3 | h3 | h3
        · exact lt_trans h3 (hu'.1 e h2)
        · rw [h3]; exact hu'.1 e h2
        · exact absurd h3 hn
/-- The reference's loop, step by step. -/
def insStep (h : Hp) (s : List Hp × Bool) (e : Hp) : List Hp × Bool :=
  let a := if s.2 && !decide (e.p.lt h.p) then (s.1 ++ [h], false) else s
  (if e.p = h.p then a.1 else a.1 ++ [e], a.2)
def insEnd (h : Hp) (s : List Hp × Bool) : List Hp := if s.2 then s.1 ++ [h] else s.1
theorem insStep_false {h : Hp} : ∀ (l : List Hp) (o : List Hp), l.foldl (insStep h) (o, false) = (o ++ delH h.p l, false)
  | [], o => by simp [delH]
  | e :: l, o => by
    rw [List.foldl_cons]
    have : insStep h (o, false) e = (if e.p = h.p then o else o ++ [e], false) := by simp [insStep]
    rw [this, insStep_false l]
    by_cases he : e.p = h.p <;> simp [delH, he]
theorem insStep_true {h : Hp} : ∀ (l : List Hp) (o : List Hp), Up l → insEnd h (l.foldl (insStep h) (o, true)) = o ++ insH h l
  | [], o, _ => by simp [insEnd, insH]
  | e :: l, o, hu => by
    rw [List.foldl_cons]
    by_cases hlt : e.p.lt h.p
    · have hne : ¬ e.p = h.p := fun e' => by rw [e'] at hlt; exact lt_irrefl _ hlt
      have : insStep h (o, true) e = (o ++ [e], true) := by simp [insStep, hlt, hne]
      rw [this, insStep_true l _ (List.pairwise_cons.1 hu).2]
      simp [insH, hlt]
    · have : insStep h (o, true) e = (if e.p = h.p then o ++ [h] else o ++ [h] ++ [e], false) := by simp [insStep, hlt]
      rw [this, insStep_false]
      have e1 : insH h (e :: l) = h :: delH h.p (e :: l) := by unfold insH; rw [if_neg hlt]
      rw [e1]
      by_cases he : e.p = h.p <;> simp [insEnd, delH, he]
theorem insStep_gone {h : Hp} (l o : List Hp) : insEnd h (l.foldl (insStep h) (o, false)) = o ++ delH h.p l := by rw [insStep_false]; simp [insEnd]

/-- A tree of places and hops: each prefix of the tree has its hop's place, each hop's prefix is there. -/
structure FI (t : Tr) (H : List Hp) : Prop where
  wf : t.Wf
  rows : ∀ p i, (p, i) ∈ t.rows ↔ ∃ (k : Nat) (h : k < H.length), i = (k : Int) ∧ H[k].p = p
  len : t.rows.length = H.length

theorem rises_inj {l : List (Pn × Int)} (h : Rises l) {r s : Pn × Int} (hr : r ∈ l) (hs : s ∈ l) (e : r.1 = s.1) : r = s := by
  induction l with
  | nil => cases hr
  | cons a l ih =>
    have h' := List.pairwise_cons.1 h
    rcases List.mem_cons.1 hr with rfl | hr
    · rcases List.mem_cons.1 hs with rfl | hs
      · rfl
      · have := h'.1 s hs; rw [e] at this; exact absurd this (lt_irrefl _)
    · rcases List.mem_cons.1 hs with h1 | hs
      · subst h1
        have := h'.1 r (by assumption); rw [e] at this; exact absurd this (lt_irrefl _)
      · exact ih h'.2 (by assumption) hs
theorem FI.inj {t : Tr} {H : List Hp} (h : FI t H) {i j : Nat} (hi : i < H.length) (hj : j < H.length) (e : H[i].p = H[j].p) : i = j := by
  have h1 := (h.rows H[i].p i).2 ⟨i, hi, rfl, rfl⟩
  have h2 := (h.rows H[i].p j).2 ⟨j, hj, rfl, e.symm⟩
  have := rises_inj (rows_rise h.wf) h1 h2 rfl
  injection this with _ h3
  omega

theorem FI.set {t : Tr} {H : List Hp} (h : FI t H) {k : Nat} (hk : k < H.length) {e : Hp} (he : e.p = H[k].p) : FI t (H.set k e) ∧ ∀ x, x ∈ H.set k e ↔ x = e ∨ (x.p ≠ e.p ∧ x ∈ H) := by
  have key : ∀ (i : Nat) (hi : i < (H.set k e).length), (H.set k e)[i].p = (H[i]'(by simpa using hi)).p := fun i hi => by
    rw [List.getElem_set]
    split
    · rename_i h1; subst h1; exact he
    · rfl
  refine ⟨⟨h.wf, fun p i => ?_, by rw [h.len]; simp⟩, fun x => ?_⟩
  · rw [h.rows]
    constructor
    · rintro ⟨j, hj, h1, h2⟩; exact ⟨j, by simpa using hj, h1, by rw [key]; exact h2⟩
    · rintro ⟨j, hj, h1, h2⟩; exact ⟨j, by simpa using hj, h1, by rw [key] at h2; exact h2⟩
  · constructor
    · intro hx
      obtain ⟨i, hi, rfl⟩ := List.getElem_of_mem hx
      have hi' : i < H.length := by simpa using hi
      by_cases h1 : i = k
      · subst h1; left; simp
      · right
        rw [List.getElem_set_ne (fun e => h1 e.symm)]
        refine ⟨fun h2 => h1 (h.inj hi' hk (h2.trans he)), List.getElem_mem _⟩
    · rintro (rfl | ⟨h1, h2⟩)
      · exact List.mem_iff_getElem.2 ⟨k, by simpa using hk, by simp⟩
      · obtain ⟨i, hi, rfl⟩ := List.getElem_of_mem h2
        have hik : ¬ k = i := fun e' => by subst e'; exact h1 he.symm
        exact List.mem_iff_getElem.2 ⟨i, by simpa using hi, by rw [List.getElem_set_ne hik]⟩

theorem rows_count {l m : List (Pn × Int)} {q : Pn} {v : Int} (hl : Rises l) (hm : Rises m) (hq : ∀ u, (q, u) ∉ l) (h : ∀ r, r ∈ m ↔ r = (q, v) ∨ r ∈ l) : m.length = l.length + 1 := by
  have hn : ∀ {l : List (Pn × Int)}, Rises l → l.Nodup := fun {l} h => List.Pairwise.imp (fun {a b} hab e => by rw [e] at hab; exact lt_irrefl _ hab) h
  have p : m.Perm ((q, v) :: l) := (List.perm_ext_iff_of_nodup (hn hm) (List.nodup_cons.2 ⟨hq v, hn hl⟩)).2 (fun r => by rw [h r, List.mem_cons])
  rw [p.length_eq, List.length_cons]

theorem FI.app {t t' : Tr} {H : List Hp} (h : FI t H) {e : Hp} (hn : ∀ u, (e.p, u) ∉ t.rows) (hw : t'.Wf) (hr : ∀ r : Pn × Int, r ∈ t'.rows ↔ r = (e.p, (H.length : Int)) ∨ r ∈ t.rows) : FI t' (H ++ [e]) ∧ ∀ x, x ∈ H ++ [e] ↔ x = e ∨ (x.p ≠ e.p ∧ x ∈ H) := by
  refine ⟨⟨hw, fun p i => ?_, ?_⟩, fun x => ?_⟩
  · rw [hr]
    constructor
    · rintro (h1 | h1)
      · injection h1 with h1 h2
        subst h1
        exact ⟨H.length, by simp, h2, by simp⟩
      · obtain ⟨k, hk, h2, h3⟩ := (h.rows p i).1 h1
        exact ⟨k, by simp; omega, h2, by rw [List.getElem_append_left hk]; exact h3⟩
    · rintro ⟨k, hk, rfl, h3⟩
      by_cases hkl : k < H.length
      · rw [List.getElem_append_left hkl] at h3
        exact .inr ((h.rows p k).2 ⟨k, hkl, rfl, h3⟩)
      · have : k = H.length := by simp at hk; omega
        subst this
        simp at h3
        left; rw [h3]
  · rw [rows_count (rows_rise h.wf) (rows_rise hw) hn hr, h.len]; simp
  · rw [List.mem_append, List.mem_singleton]
    constructor
    · rintro (h1 | h1)
      · right
        obtain ⟨k, hk, rfl⟩ := List.getElem_of_mem h1
        refine ⟨fun e' => hn k ?_, h1⟩
        rw [← e']
        exact (h.rows _ _).2 ⟨k, hk, rfl, rfl⟩
      · exact .inl h1
    · rintro (h1 | h1)
      · exact .inr h1
      · exact .inl h1.2
theorem FI.nil : FI .nil [] := ⟨trivial, fun p i => by simp [Tr.rows], rfl⟩

/-- A prefix is taken away; the last hop comes into its place. -/
theorem FI.del {t t1 t2 : Tr} {H : List Hp} (h : FI t H) {q : Pn} {k : Nat} (hk : k < H.length) (hp : H[k].p = q) (hw1 : t1.Wf) (hr1 : ∀ r : Pn × Int, r ∈ t1.rows ↔ r.1 ≠ q ∧ r ∈ t.rows)
    (hw2 : t2.Wf) (hr2 : ∀ r : Pn × Int, r ∈ t2.rows ↔ if k = H.length - 1 then r ∈ t1.rows else (r = ((H[H.length - 1]'(by omega)).p, (k : Int)) ∨ (r.1 ≠ (H[H.length - 1]'(by omega)).p ∧ r ∈ t1.rows))) :
    FI t2 ((H.set k (H[H.length - 1]'(by omega))).take (H.length - 1)) ∧ ∀ x, x ∈ (H.set k (H[H.length - 1]'(by omega))).take (H.length - 1) ↔ x.p ≠ q ∧ x ∈ H := by
  have hlast : H.length - 1 < H.length := by omega
  have get : ∀ (i : Nat) (hi : i < ((H.set k H[H.length - 1]).take (H.length - 1)).length), ((H.set k H[H.length - 1]).take (H.length - 1))[i] = if i = k then H[H.length - 1] else H[i]'(by simp at hi; omega) := fun i hi => by
    rw [List.getElem_take, List.getElem_set]
    by_cases e : k = i
    · subst e; simp
    · rw [if_neg e, if_neg (fun e' => e e'.symm)]
  have hlen : ((H.set k H[H.length - 1]).take (H.length - 1)).length = H.length - 1 := by simp
  have hmem2 : ∀ p i, (p, i) ∈ t2.rows ↔ ∃ (j : Nat) (hj : j < ((H.set k H[H.length - 1]).take (H.length - 1)).length), i = (j : Int) ∧ (((H.set k H[H.length - 1]).take (H.length - 1))[j]).p = p := by
    intro p i
    rw [hr2]
    by_cases hkl : k = H.length - 1
    · rw [if_pos hkl, hr1, h.rows]
      constructor
      · rintro ⟨h1, j, hj, rfl, rfl⟩
        have hjk : j ≠ k := fun e => by subst e; exact h1 hp
        refine ⟨j, by rw [hlen]; omega, rfl, ?_⟩
        rw [get, if_neg hjk]
      · rintro ⟨j, hj, rfl, h2⟩
        have hj' := hj
        rw [hlen] at hj'
        rw [get, if_neg (by omega)] at h2
        subst h2
        refine ⟨fun e => ?_, j, by omega, rfl, rfl⟩
        have := h.inj (i := j) (j := k) (by omega) hk (by rw [hp]; exact e)
        omega
    · rw [if_neg hkl, hr1, h.rows]
      constructor
      · rintro (h1 | ⟨h1, h2, j, hj, rfl, rfl⟩)
        · injection h1 with h1 h2
          subst h1 h2
          refine ⟨k, by rw [hlen]; omega, rfl, ?_⟩
          rw [get, if_pos rfl]
        · have hjk : j ≠ k := fun e => by subst e; exact h2 hp
          have hjl : j ≠ H.length - 1 := fun e => by subst e; exact h1 rfl
          refine ⟨j, by rw [hlen]; omega, rfl, ?_⟩
          rw [get, if_neg hjk]
      · rintro ⟨j, hj, rfl, h2⟩
        have hj' := hj
        rw [hlen] at hj'
        rw [get] at h2
        by_cases hjk : j = k
        · subst hjk
          rw [if_pos rfl] at h2
          left; rw [h2]
        · rw [if_neg hjk] at h2
          subst h2
          right
          refine ⟨fun e => ?_, fun e => ?_, j, by omega, rfl, rfl⟩
          · have := h.inj (i := j) (j := H.length - 1) (by omega) hlast e; omega
          · have := h.inj (i := j) (j := k) (by omega) hk (by rw [hp]; exact e); omega
  have hxm : ∀ x, x ∈ (H.set k H[H.length - 1]).take (H.length - 1) ↔ x.p ≠ q ∧ x ∈ H := by
    intro x
    constructor
    · intro hx
      obtain ⟨j, hj, rfl⟩ := List.getElem_of_mem hx
      have hj' := hj
      rw [hlen] at hj'
      rw [get]
      by_cases hjk : j = k
      · subst hjk
        rw [if_pos rfl]
        refine ⟨fun e => ?_, List.getElem_mem _⟩
        have := h.inj (i := H.length - 1) (j := j) hlast hk (by rw [hp]; exact e); omega
      · rw [if_neg hjk]
        refine ⟨fun e => ?_, List.getElem_mem _⟩
        have := h.inj (i := j) (j := k) (by omega) hk (by rw [hp]; exact e); omega
    · rintro ⟨h1, h2⟩
      obtain ⟨j, hj, rfl⟩ := List.getElem_of_mem h2
      have hjk : j ≠ k := fun e => by subst e; exact h1 hp
      by_cases hjl : j = H.length - 1
      · subst hjl
        exact List.mem_iff_getElem.2 ⟨k, by rw [hlen]; omega, by rw [get, if_pos rfl]⟩
      · exact List.mem_iff_getElem.2 ⟨j, by rw [hlen]; omega, by rw [get, if_neg hjk]⟩
  refine ⟨⟨hw2, hmem2, ?_⟩, hxm⟩
  -- the count
  have hn : ∀ {l : List (Pn × Int)}, Rises l → l.Nodup := fun {l} h => List.Pairwise.imp (fun {a b} hab e => by rw [e] at hab; exact lt_irrefl _ hab) h
  have c1 : t.rows.length = t1.rows.length + 1 := by
    refine rows_count (q := q) (v := (k : Int)) (rows_rise hw1) (rows_rise h.wf) (fun u hu => ((hr1 _).1 hu).1 rfl) (fun r => ?_)
    rw [hr1]
    constructor
    · intro hr
      by_cases e : r.1 = q
      · left
        exact rises_inj (rows_rise h.wf) hr ((h.rows q k).2 ⟨k, hk, rfl, hp⟩) e
      · exact .inr ⟨e, hr⟩
    · rintro (rfl | hr)
      · exact (h.rows q k).2 ⟨k, hk, rfl, hp⟩
      · exact hr.2
  have c2 : t2.rows.length = t1.rows.length := by
    by_cases hkl : k = H.length - 1
    · have p : t2.rows.Perm t1.rows := (List.perm_ext_iff_of_nodup (hn (rows_rise hw2)) (hn (rows_rise hw1))).2 (fun r => by rw [hr2, if_pos hkl])
      exact p.length_eq
    · have hne : (H[H.length - 1]).p ≠ q := fun e => by
        have := h.inj (i := H.length - 1) (j := k) hlast hk (by rw [hp]; exact e); omega
      have hin : ((H[H.length - 1]).p, ((H.length - 1 : Nat) : Int)) ∈ t1.rows := (hr1 _).2 ⟨hne, (h.rows _ _).2 ⟨H.length - 1, hlast, rfl, rfl⟩⟩
      have hr2' : ∀ r : Pn × Int, r ∈ t2.rows ↔ (r = ((H[H.length - 1]).p, (k : Int)) ∨ (r.1 ≠ (H[H.length - 1]).p ∧ r ∈ t1.rows)) := fun r => by rw [hr2, if_neg hkl]
      have hnd : (t1.rows.filter (fun r => !decide (r.1 = (H[H.length - 1]).p))).Nodup := (hn (rows_rise hw1)).filter _
      have hri : Rises (t1.rows.filter (fun r => !decide (r.1 = (H[H.length - 1]).p))) := List.Pairwise.filter _ (rows_rise hw1)
      have a1 := rows_count (l := t1.rows.filter (fun r => !decide (r.1 = (H[H.length - 1]).p))) (q := (H[H.length - 1]).p) (v := (k : Int)) hri (rows_rise hw2) (fun u hu => by simp at hu) (fun r => by rw [hr2', List.mem_filter]; simp [and_comm])
      have a2 := rows_count (l := t1.rows.filter (fun r => !decide (r.1 = (H[H.length - 1]).p))) (q := (H[H.length - 1]).p) (v := ((H.length - 1 : Nat) : Int)) hri (rows_rise hw1) (fun u hu => by simp at hu) (fun r => by
        rw [List.mem_filter]
        constructor
        · intro hr
          by_cases e : r.1 = (H[H.length - 1]).p
          · exact .inl (rises_inj (rows_rise hw1) hr hin e)
          · exact .inr ⟨hr, by simpa using e⟩
        · rintro (rfl | hr)
          · exact hin
          · exact hr.1)
      omega
  rw [hlen, ← h.len]
  omega
end Go.Proofs.YtfaiponmjjbgoaaDoor
