/- Trees of prefixes as plain data: what they hold, in which order, and what putting and taking comes to. No program in sight. -/
import Derived.Test.YtfaiponmjjbgoaaDoorPx
namespace Go.Proofs.YtfaiponmjjbgoaaDoor

/-- A node: its block, its prefix, its value, whether it has one, and what is beneath it. -/
inductive Tr where
  | nil
  | node (b : Nat) (p : Pn) (v : Int) (h : Bool) (x y : Tr)

def Tr.rows : Tr → List (Pn × Int)
  | .nil => []
  | .node _ p v h x y => (if h then [(p, v)] else []) ++ x.rows ++ y.rows
def Tr.pfx : Tr → List Pn
  | .nil => []
  | .node _ p _ _ x y => p :: x.pfx ++ y.pfx
def Tr.bs : Tr → List Nat
  | .nil => []
  | .node b _ _ _ x y => b :: x.bs ++ y.bs
def Tr.Wf : Tr → Prop
  | .nil => True
  | .node _ p _ _ x y => p.ok ∧ (∀ q ∈ x.pfx, (p.child 0).holds q) ∧ (∀ q ∈ y.pfx, (p.child 1).holds q) ∧ x.Wf ∧ y.Wf

theorem pfx_ok : ∀ {t : Tr}, t.Wf → ∀ q ∈ t.pfx, q.ok
  | .nil, _, q, h => by cases h
  | .node b p v hh x y, ⟨hp, _, _, hx, hy⟩, q, h => by
    simp only [Tr.pfx, List.cons_append, List.mem_cons, List.mem_append] at h
    rcases h with rfl | h | h
    · exact hp
    · exact pfx_ok hx q h
    · exact pfx_ok hy q h
theorem rows_pfx : ∀ {t : Tr} {r : Pn × Int}, r ∈ t.rows → r.1 ∈ t.pfx
  | .node b p v h x y, r, hr => by
    simp only [Tr.rows, List.mem_append] at hr
    simp only [Tr.pfx, List.cons_append, List.mem_cons, List.mem_append]
    rcases hr with (hr | hr) | hr
    · left; split at hr
      · simp at hr; rw [hr]
      · cases hr
    · right; left; exact rows_pfx hr
    · right; right; exact rows_pfx hr

/-- Rows rise. -/
def Rises : List (Pn × Int) → Prop := List.Pairwise (fun r s => r.1.lt s.1)
theorem rows_rise : ∀ {t : Tr}, t.Wf → Rises t.rows
  | .nil, _ => List.Pairwise.nil
  | .node b p v h x y, ⟨hp, h0, h1, hx, hy⟩ => by
    have px : ∀ r ∈ x.rows, p.lt r.1 := fun r hr => by
      have h := h0 _ (rows_pfx hr)
      have hq := pfx_ok hx _ (rows_pfx hr)
      obtain ⟨a, b, _⟩ := child_strict (by omega) hp h hq.2.1
      exact lt_of_within a b
    have py : ∀ r ∈ y.rows, p.lt r.1 := fun r hr => by
      have h := h1 _ (rows_pfx hr)
      have hq := pfx_ok hy _ (rows_pfx hr)
      obtain ⟨a, b, _⟩ := child_strict (by omega) hp h hq.2.1
      exact lt_of_within a b
    have pxy : ∀ r ∈ x.rows, ∀ s ∈ y.rows, r.1.lt s.1 := fun r hr s hs => by
      have hq := pfx_ok hx _ (rows_pfx hr)
      have hl := (child_strict (by omega) hp (h0 _ (rows_pfx hr)) hq.2.1).2.1
      have := hq.2.1
      exact lt_sides (h0 _ (rows_pfx hr)) (h1 _ (rows_pfx hs)) (by omega)
    unfold Rises Tr.rows
    rw [List.pairwise_append, List.pairwise_append]
    refine ⟨⟨?_, rows_rise hx, ?_⟩, rows_rise hy, ?_⟩
    · split <;> simp
    · intro r hr s hs
      split at hr
      · simp at hr; subst hr; exact px s hs
      · cases hr
    · intro r hr s hs
      rcases List.mem_append.1 hr with hr | hr
      · split at hr
        · simp at hr; subst hr; exact py s hs
        · cases hr
      · exact pxy r hr s hs

theorem rises_ext : ∀ {l m : List (Pn × Int)}, Rises l → Rises m → (∀ r, r ∈ l ↔ r ∈ m) → l = m
  | [], [], _, _, _ => rfl
  | [], s :: m, _, _, h => by have := (h s).2 (by simp); cases this
  | r :: l, [], _, _, h => by have := (h r).1 (by simp); cases this
  | r :: l, s :: m, hl, hm, h => by
    have hl' := List.pairwise_cons.1 hl
    have hm' := List.pairwise_cons.1 hm
    have e : r = s := by
      rcases List.mem_cons.1 ((h r).1 (by simp)) with e | h1
      · exact e
      · rcases List.mem_cons.1 ((h s).2 (by simp)) with e | h2
        · exact e.symm
        · exact absurd (lt_trans (hm'.1 r h1) (hl'.1 s h2)) (lt_irrefl _)
    subst e
    rw [rises_ext hl'.2 hm'.2 (fun t => ?_)]
    constructor
    · intro ht
      rcases List.mem_cons.1 ((h t).1 (by simp [ht])) with e | h1
      · subst e; exact absurd (hl'.1 t ht) (lt_irrefl _)
      · exact h1
    · intro ht
      rcases List.mem_cons.1 ((h t).2 (by simp [ht])) with e | h1
      · subst e; exact absurd (hm'.1 t ht) (lt_irrefl _)
      · exact h1

/-- The tree at the place of a prefix. -/
def Tr.look (q : Pn) : Tr → Tr
  | .nil => .nil
  | .node b p v h x y => if p.holds q then (if p.l = q.l then .node b p v h x y else if bitN q.a p.l = 0 then x.look q else y.look q) else .node b p v h x y
/-- The tree with another one at the place of a prefix. -/
def Tr.put (q : Pn) (s : Tr) : Tr → Tr
  | .nil => s
  | .node b p v h x y => if p.holds q then (if p.l = q.l then s else if bitN q.a p.l = 0 then .node b p v h (Tr.put q s x) y else .node b p v h x (Tr.put q s y)) else s

theorem bit_cases (a i : Nat) : bitN a i = 0 ∨ bitN a i = 1 := by have := bit_lt a i; omega

theorem side_no {p q : Pn} {t : Tr} {i : Nat} (hi : i < 2) (hp : p.ok) (hq : q.ok) (h : ∀ r ∈ t.pfx, (p.child i).holds r) (hb : bitN q.a p.l ≠ i) : q ∉ t.pfx := fun hm => by
  exact hb (child_strict hi hp (h q hm) hq.2.1).2.2

/-- What is found at a prefix's place is all there is of it. -/
theorem look_mem {q : Pn} (hq : q.ok) : ∀ {t : Tr}, t.Wf → ∀ v, ((q, v) ∈ t.rows ↔ ∃ b x y, t.look q = .node b q v true x y)
  | .nil, _, v => by simp [Tr.rows, Tr.look]
  | .node b p u h x y, ⟨hp, h0, h1, hx, hy⟩, v => by
    have ihx := look_mem hq hx v
    have ihy := look_mem hq hy v
    have hnx : ¬ p.holds q → (q, v) ∉ x.rows := fun hn hm => hn (child_strict (by omega) hp (h0 _ (rows_pfx hm)) hq.2.1).1
    have hny : ¬ p.holds q → (q, v) ∉ y.rows := fun hn hm => hn (child_strict (by omega) hp (h1 _ (rows_pfx hm)) hq.2.1).1
    by_cases hh : p.holds q
    · by_cases hl : p.l = q.l
      · have e := holds_eq hh hl hq
        subst e
        have nx : (p, v) ∉ x.rows := fun hm => absurd (child_strict (by omega) hp (h0 _ (rows_pfx hm)) hq.2.1).2.1 (Nat.lt_irrefl _)
        have ny : (p, v) ∉ y.rows := fun hm => absurd (child_strict (by omega) hp (h1 _ (rows_pfx hm)) hq.2.1).2.1 (Nat.lt_irrefl _)
        simp only [Tr.look, hh, if_true, Tr.rows, List.mem_append, nx, ny, or_false]
        constructor
        · intro hm
          cases h with
          | true => simp at hm; subst hm; exact ⟨b, x, y, rfl⟩
          | false => simp at hm
        · rintro ⟨b', x', y', e⟩
          injection e with e1 e2 e3 e4 e5 e6
          subst e3 e4
          simp
      · have np : ¬ q = p := fun e => hl (by rw [e])
        have nself : (q, v) ∉ (if h then [(p, u)] else []) := by
          cases h <;> simp [np]
        rcases bit_cases q.a p.l with hb | hb
        · have ny : (q, v) ∉ y.rows := fun hm => side_no (by omega) hp hq h1 (by omega) (rows_pfx hm)
          simp only [Tr.look, hh, hl, hb, if_true, if_false, Tr.rows, List.mem_append, nself, ny, false_or, or_false]
          exact ihx
        · have hb0 : ¬ bitN q.a p.l = 0 := by omega
          have nx : (q, v) ∉ x.rows := fun hm => side_no (by omega) hp hq h0 (by omega) (rows_pfx hm)
          simp only [Tr.look, hh, hl, hb0, if_true, if_false, Tr.rows, List.mem_append, nself, nx, false_or]
          exact ihy
    · have np : ¬ q = p := fun e => hh (by rw [e]; exact holds_self hp)
      have nself : (q, v) ∉ (if h then [(p, u)] else []) := by cases h <;> simp [np]
      simp only [Tr.look, hh, if_false, Tr.rows, List.mem_append, nself, hnx hh, hny hh, or_false, false_iff, not_exists]
      intro b' x' y' e
      injection e with e1 e2
      exact np e2.symm

/-- What is put at a prefix's place: the rows beside it stay. -/
theorem put_rows {q : Pn} (hq : q.ok) {s : Tr} : ∀ {t : Tr}, t.Wf → (∀ r : Pn × Int, r ∈ s.rows → r.1 = q ∨ r ∈ (t.look q).rows) → (∀ r : Pn × Int, r ∈ (t.look q).rows → r.1 ≠ q → r ∈ s.rows) →
    (∀ r : Pn × Int, r.1 ≠ q → (r ∈ (Tr.put q s t).rows ↔ r ∈ t.rows)) ∧ (∀ v, (q, v) ∈ (Tr.put q s t).rows ↔ (q, v) ∈ s.rows)
  | .nil, _, h1, h2 => by
    refine ⟨fun r hr => ?_, fun v => by first | exact Iff.rfl | trivial⟩
    simp only [Tr.put, Tr.rows, List.not_mem_nil, iff_false]
    intro hm
    rcases h1 r hm with e | hm
    · exact hr e
    · simp [Tr.look, Tr.rows] at hm
  | .node b p u h x y, ⟨hp, h0, hone, hx, hy⟩, h1, h2 => by
    by_cases hh : p.holds q
    · by_cases hl : p.l = q.l
      · simp only [Tr.look, hh, hl, if_true] at h1 h2
        simp only [Tr.put, hh, hl, if_true]
        refine ⟨fun r hr => ⟨fun hm => ?_, fun hm => h2 r hm hr⟩, fun v => by first | exact Iff.rfl | trivial⟩
        rcases h1 r hm with e | hm
        · exact absurd e hr
        · exact hm
      · have np : ¬ q = p := fun e => hl (by rw [e])
        have nself : ∀ v, (q, v) ∉ (if h then [(p, u)] else []) := by intro v; cases h <;> simp [np]
        rcases bit_cases q.a p.l with hb | hb
        · simp only [Tr.look, hh, hl, hb, if_true, if_false] at h1 h2
          obtain ⟨i1, i2⟩ := put_rows hq hx h1 h2
          have ny : ∀ v, (q, v) ∉ y.rows := fun v hm => side_no (by omega) hp hq hone (by omega) (rows_pfx hm)
          simp only [Tr.put, hh, hl, hb, if_true, if_false, Tr.rows, List.mem_append]
          refine ⟨fun r hr => by rw [i1 r hr], fun v => ?_⟩
          rw [i2 v]; simp [nself v, ny v]
        · have hb0 : ¬ bitN q.a p.l = 0 := by omega
          simp only [Tr.look, hh, hl, hb0, if_true, if_false] at h1 h2
          obtain ⟨i1, i2⟩ := put_rows hq hy h1 h2
          have nx : ∀ v, (q, v) ∉ x.rows := fun v hm => side_no (by omega) hp hq h0 (by omega) (rows_pfx hm)
          simp only [Tr.put, hh, hl, hb0, if_true, if_false, Tr.rows, List.mem_append]
          refine ⟨fun r hr => by rw [i1 r hr], fun v => ?_⟩
          rw [i2 v]; simp [nself v, nx v]
    · simp only [Tr.look, hh, if_false] at h1 h2
      simp only [Tr.put, hh, if_false]
      refine ⟨fun r hr => ⟨fun hm => ?_, fun hm => h2 r hm hr⟩, fun v => by first | exact Iff.rfl | trivial⟩
      rcases h1 r hm with e | hm
      · exact absurd e hr
      · exact hm

/-- Well formed: what is put must lie where its place is. -/
theorem put_wf {q : Pn} (hq : q.ok) {s : Tr} (hs : s.Wf) : ∀ {t : Tr}, t.Wf → (∀ c : Pn, c.ok → c.holds q → (∀ r ∈ (t.look q).pfx, c.holds r) → ∀ r ∈ s.pfx, c.holds r) → (Tr.put q s t).Wf ∧ ∀ c : Pn, c.ok → c.holds q → (∀ r ∈ t.pfx, c.holds r) → ∀ r ∈ (Tr.put q s t).pfx, c.holds r
  | .nil, _, hc => ⟨hs, fun c h1 h2 _ => hc c h1 h2 (by simp [Tr.look, Tr.pfx])⟩
  | .node b p u h x y, ⟨hp, h0, h1, hx, hy⟩, hc => by
    by_cases hh : p.holds q
    · by_cases hl : p.l = q.l
      · simp only [Tr.look, hh, hl, if_true] at hc
        simp only [Tr.put, hh, hl, if_true]
        exact ⟨hs, hc⟩
      · have hlt : p.l < q.l := Nat.lt_of_le_of_ne hh.1 hl
        have hp32 : p.l < 32 := Nat.lt_of_lt_of_le hlt hq.2.1
        have hch := child_holds hh hlt hq.2.1
        rcases bit_cases q.a p.l with hb | hb
        · simp only [Tr.look, hh, hl, hb, if_true, if_false] at hc
          obtain ⟨i1, i2⟩ := put_wf hq hs hx hc
          simp only [Tr.put, hh, hl, hb, if_true, if_false]
          rw [hb] at hch
          refine ⟨⟨hp, i2 _ (child_ok (by omega) hp hp32) hch h0, h1, i1, hy⟩, fun c hco hcq hall r hr => ?_⟩
          simp only [Tr.pfx, List.cons_append, List.mem_cons, List.mem_append] at hr hall
          rcases hr with rfl | hr | hr
          · exact hall _ (.inl rfl)
          · exact i2 c hco hcq (fun r hr => hall r (.inr (.inl hr))) r hr
          · exact hall r (.inr (.inr hr))
        · have hb0 : ¬ bitN q.a p.l = 0 := by omega
          simp only [Tr.look, hh, hl, hb0, if_true, if_false] at hc
          obtain ⟨i1, i2⟩ := put_wf hq hs hy (by simpa using hc)
          simp only [Tr.put, hh, hl, hb0, if_true, if_false]
          rw [hb] at hch
          refine ⟨⟨hp, h0, i2 _ (child_ok (by omega) hp hp32) hch h1, hx, i1⟩, fun c hco hcq hall r hr => ?_⟩
          simp only [Tr.pfx, List.cons_append, List.mem_cons, List.mem_append] at hr hall
          rcases hr with rfl | hr | hr
          · exact hall _ (.inl rfl)
          · exact hall r (.inr (.inl hr))
          · exact i2 c hco hcq (fun r hr => hall r (.inr (.inr hr))) r hr
    · simp only [Tr.look, hh, if_false] at hc
      simp only [Tr.put, hh, if_false]
      exact ⟨hs, hc⟩

/-- The tree at a place is well formed; and if it is a node that does not hold the prefix, and is not it, it is none that the prefix's is. -/
theorem look_wf {q : Pn} : ∀ {t : Tr}, t.Wf → (t.look q).Wf
  | .nil, h => h
  | .node b p u h x y, hw => by
    unfold Tr.look
    split
    · split
      · exact hw
      · split
        · exact look_wf hw.2.2.2.1
        · exact look_wf hw.2.2.2.2
    · exact hw
theorem look_kind {q : Pn} (hq : q.ok) : ∀ {t : Tr} {b : Nat} {p : Pn} {u : Int} {h : Bool} {x y : Tr}, t.look q = .node b p u h x y → p = q ∨ ¬ p.holds q
  | .nil, _, _, _, _, _, _, e => by simp [Tr.look] at e
  | .node b p u h x y, b', p', u', h', x', y', e => by
    unfold Tr.look at e
    split at e
    · rename_i hh
      split at e
      · rename_i hl
        injection e with _ e2
        subst e2
        exact .inl (holds_eq hh hl hq)
      · split at e
        · exact look_kind hq e
        · exact look_kind hq e
    · rename_i hh
      injection e with _ e2
      subst e2
      exact .inr hh

/-- A prefix with a value hung where it has none. -/
def hangT (q : Pn) (v : Int) (b1 b2 : Nat) : Tr → Tr
  | .nil => .node b1 q v true .nil .nil
  | .node b p u h x y =>
    if p = q then .node b p v true x y
    else if p.com q = q then (if bitN p.a q.l = 0 then .node b1 q v true (.node b p u h x y) .nil else .node b1 q v true .nil (.node b p u h x y))
    else if bitN q.a (p.com q).l = 0 then .node b2 (p.com q) 0 false (.node b1 q v true .nil .nil) (.node b p u h x y)
    else .node b2 (p.com q) 0 false (.node b p u h x y) (.node b1 q v true .nil .nil)

theorem wf_within {t : Tr} {b : Nat} {p : Pn} {u : Int} {h : Bool} {x y : Tr} (e : t = .node b p u h x y) (hw : t.Wf) : ∀ r ∈ t.pfx, p.holds r := by
  subst e
  intro r hr
  simp only [Tr.pfx, List.cons_append, List.mem_cons, List.mem_append] at hr
  obtain ⟨hp, h0, h1, hx, hy⟩ := hw
  rcases hr with rfl | hr | hr
  · exact holds_self hp
  · exact (child_strict (by omega) hp (h0 r hr) (pfx_ok hx r hr).2.1).1
  · exact (child_strict (by omega) hp (h1 r hr) (pfx_ok hy r hr).2.1).1

theorem hang_rows {q : Pn} {v : Int} {b1 b2 : Nat} {s : Tr} (hs : s.Wf) (hk : ∀ u, (q, u) ∉ s.rows) : ∀ r : Pn × Int, r ∈ (hangT q v b1 b2 s).rows ↔ r = (q, v) ∨ r ∈ s.rows := by
  intro r
  cases s with
  | nil => simp [hangT, Tr.rows]
  | node b p u h x y =>
    simp only [hangT]
    split
    · rename_i e
      subst e
      have hf : h = false := by
        cases h with
        | false => rfl
        | true => exact absurd (show (p, u) ∈ (Tr.node b p u true x y).rows by simp [Tr.rows]) (hk u)
      subst hf
      simp [Tr.rows]
    · split
      · split <;> simp [Tr.rows]
      · split
        · simp [Tr.rows]
        · simp only [Tr.rows, List.mem_append]
          simp
          constructor
          · rintro (h | h); exact .inr h; exact .inl h
          · rintro (h | h); exact .inr h; exact .inl h
end Go.Proofs.YtfaiponmjjbgoaaDoor
