/- Trees of prefixes as plain data: hanging, tidying, and what is above a prefix. No program in sight. -/
import Derived.Test.YtfaiponmjjbgoaaDoorTr
namespace Go.Proofs.YtfaiponmjjbgoaaDoor

theorem holds_com {c p q : Pn} (h1 : c.holds p) (h2 : c.holds q) (hp : p.ok) (hq : q.ok) : c.holds (p.com q) :=
  holds_both h1 com_left (com_max h1 h2) (com_ok hp).2.1

theorem hang_wf {q : Pn} (hq : q.ok) {v : Int} {b1 b2 : Nat} {s : Tr} (hs : s.Wf) (hk : ∀ b p u h x y, s = .node b p u h x y → p = q ∨ ¬ p.holds q) :
    (hangT q v b1 b2 s).Wf ∧ ∀ c : Pn, c.ok → c.holds q → (∀ r ∈ s.pfx, c.holds r) → ∀ r ∈ (hangT q v b1 b2 s).pfx, c.holds r := by
  cases s with
  | nil =>
    refine ⟨⟨hq, by simp [Tr.pfx], by simp [Tr.pfx], trivial, trivial⟩, fun c _ hc _ r hr => ?_⟩
    simp [hangT, Tr.pfx] at hr
    subst hr; exact hc
  | node b p u h x y =>
    have hp : p.ok := hs.1
    have hin := wf_within rfl hs
    have hkk := hk b p u h x y rfl
    simp only [hangT]
    split
    · rename_i e
      subst e
      exact ⟨hs, fun c _ _ hall r hr => hall r hr⟩
    · rename_i hne
      have hno : ¬ p.holds q := by rcases hkk with e | e; exact absurd e hne; exact e
      split
      · rename_i hc
        have hqp : q.holds p := by rw [← hc]; exact com_left
        have hlt : q.l < p.l := by
          rcases Nat.lt_or_ge q.l p.l with h1 | h1
          · exact h1
          · exact absurd (holds_eq hqp (Nat.le_antisymm hqp.1 h1) hp).symm hne
        have hch := child_holds hqp hlt hp.2.1
        have hside : ∀ r ∈ (Tr.node b p u h x y).pfx, (q.child (bitN p.a q.l)).holds r := fun r hr => holds_trans hch (hin r hr) hp.2.1
        split
        · rename_i hb
          rw [hb] at hside
          refine ⟨⟨hq, hside, by simp [Tr.pfx], hs, trivial⟩, fun c _ hcq hall r hr => ?_⟩
          rw [Tr.pfx] at hr
          simp only [Tr.pfx, List.append_nil, List.mem_cons] at hr
          rcases hr with rfl | hr
          · exact hcq
          · exact hall r (by simpa [Tr.pfx] using hr)
        · rename_i hb
          have hb1 : bitN p.a q.l = 1 := by have := bit_lt p.a q.l; omega
          rw [hb1] at hside
          refine ⟨⟨hq, by simp [Tr.pfx], hside, trivial, hs⟩, fun c _ hcq hall r hr => ?_⟩
          rw [Tr.pfx] at hr
          simp only [Tr.pfx, List.cons_append, List.nil_append, List.mem_cons] at hr
          rcases hr with rfl | hr
          · exact hcq
          · exact hall r (by simpa [Tr.pfx] using hr)
      · rename_i hc
        have hcok := com_ok (p := p) (q := q) hp
        have c1 : (p.com q).holds p := com_left
        have c2 := com_right hp hq
        have l1 : (p.com q).l < p.l := by
          rcases Nat.lt_or_ge (p.com q).l p.l with h1 | h1
          · exact h1
          · have e := holds_eq c1 (Nat.le_antisymm c1.1 h1) hp
            rw [e] at c2; exact absurd c2 hno
        have l2 : (p.com q).l < q.l := by
          rcases Nat.lt_or_ge (p.com q).l q.l with h1 | h1
          · exact h1
          · exact absurd (holds_eq c2 (Nat.le_antisymm c2.1 h1) hq) hc
        have hbits := com_bits hp hq l1 l2
        have s1 := child_holds c1 l1 hp.2.1
        have s2 := child_holds c2 l2 hq.2.1
        have hside : ∀ r ∈ (Tr.node b p u h x y).pfx, ((p.com q).child (bitN p.a (p.com q).l)).holds r := fun r hr => holds_trans s1 (hin r hr) hp.2.1
        have hleaf : (Tr.node b1 q v true .nil .nil).Wf := ⟨hq, by simp [Tr.pfx], by simp [Tr.pfx], trivial, trivial⟩
        split
        · rename_i hb
          have hb1 : bitN p.a (p.com q).l = 1 := by have := bit_lt p.a (p.com q).l; omega
          rw [hb1] at hside
          rw [hb] at s2
          refine ⟨⟨hcok, fun r hr => ?_, hside, hleaf, hs⟩, fun c _ hcq hall r hr => ?_⟩
          · simp [Tr.pfx] at hr; subst hr; exact s2
          · rw [Tr.pfx] at hr
            simp only [Tr.pfx, List.append_nil, List.cons_append, List.nil_append, List.mem_cons] at hr
            have hcp := hall p (by simp [Tr.pfx])
            rcases hr with rfl | rfl | hr
            · exact holds_com hcp hcq hp hq
            · exact hcq
            · exact hall r (by simpa [Tr.pfx] using hr)
        · rename_i hb
          have hb1 : bitN q.a (p.com q).l = 1 := by have := bit_lt q.a (p.com q).l; omega
          have hb0 : bitN p.a (p.com q).l = 0 := by have := bit_lt p.a (p.com q).l; omega
          rw [hb0] at hside
          rw [hb1] at s2
          refine ⟨⟨hcok, hside, fun r hr => ?_, hs, hleaf⟩, fun c _ hcq hall r hr => ?_⟩
          · simp [Tr.pfx] at hr; subst hr; exact s2
          · rw [Tr.pfx] at hr
            have hcp := hall p (by simp [Tr.pfx])
            rcases List.mem_cons.1 hr with rfl | hr
            · exact holds_com hcp hcq hp hq
            · rcases List.mem_append.1 hr with hr | hr
              · exact hall r hr
              · simp [Tr.pfx] at hr; subst hr; exact hcq

/-- The tree with a prefix hung. -/
def insT (q : Pn) (v : Int) (b1 b2 : Nat) (t : Tr) : Tr := Tr.put q (hangT q v b1 b2 (t.look q)) t
theorem ins_all {q : Pn} (hq : q.ok) {v : Int} {b1 b2 : Nat} {t : Tr} (ht : t.Wf) (hn : ∀ u, (q, u) ∉ t.rows) :
    (insT q v b1 b2 t).Wf ∧ ∀ r : Pn × Int, r ∈ (insT q v b1 b2 t).rows ↔ r = (q, v) ∨ r ∈ t.rows := by
  have hs := look_wf (q := q) ht
  have hk : ∀ b p u h x y, t.look q = .node b p u h x y → p = q ∨ ¬ p.holds q := fun b p u h x y e => look_kind hq e
  have hnone : ∀ u, (q, u) ∉ (t.look q).rows := fun u hm => by
    rcases hl : t.look q with _ | ⟨b, p, w, h, x, y⟩
    · rw [hl] at hm; simp [Tr.rows] at hm
    · rw [hl] at hm hs
      rcases hk b p w h x y hl with e | e
      · subst e
        have hx : (p, u) ∉ x.rows := fun hm => absurd (child_strict (by omega) hs.1 (hs.2.1 _ (rows_pfx hm)) hq.2.1).2.1 (Nat.lt_irrefl _)
        have hy : (p, u) ∉ y.rows := fun hm => absurd (child_strict (by omega) hs.1 (hs.2.2.1 _ (rows_pfx hm)) hq.2.1).2.1 (Nat.lt_irrefl _)
        simp only [Tr.rows, List.mem_append, hx, hy, or_false] at hm
        cases h with
        | false => simp at hm
        | true =>
          simp at hm
          subst hm
          exact hn u ((look_mem hq ht u).2 ⟨b, x, y, hl⟩)
      · exact e ((wf_within rfl hs) q (rows_pfx hm))
  obtain ⟨w1, w2⟩ := hang_wf hq (v := v) (b1 := b1) (b2 := b2) hs hk
  have hr := hang_rows (v := v) (b1 := b1) (b2 := b2) hs hnone
  obtain ⟨p1, p2⟩ := put_rows hq (s := hangT q v b1 b2 (t.look q)) ht (fun r hm => by rcases (hr r).1 hm with e | e; exact .inl (by rw [e]); exact .inr e) (fun r hm _ => (hr r).2 (.inr hm))
  refine ⟨(put_wf hq w1 ht w2).1, fun r => ?_⟩
  by_cases e : r.1 = q
  · obtain ⟨r1, r2⟩ := r
    simp only at e
    subst e
    unfold insT
    rw [p2 r2, hr]
    constructor
    · rintro (h | h)
      · exact .inl h
      · exact absurd h (hnone r2)
    · rintro (h | h)
      · exact .inl h
      · exact absurd h (hn r2)
  · unfold insT
    rw [p1 r e]
    constructor
    · exact .inr
    · rintro (h | h)
      · exact absurd (by rw [h]) e
      · exact h

/-- The tree with another value, or none, of a prefix that has one. -/
def setT (q : Pn) (v : Int) (h : Bool) (t : Tr) : Tr := match t.look q with
  | .node b p _ _ x y => Tr.put q (.node b p v h x y) t
  | .nil => t
theorem set_all {q : Pn} (hq : q.ok) {v u : Int} {h : Bool} {t : Tr} (ht : t.Wf) (hm : (q, u) ∈ t.rows) :
    (setT q v h t).Wf ∧ ∀ r : Pn × Int, r ∈ (setT q v h t).rows ↔ (h = true ∧ r = (q, v)) ∨ (r.1 ≠ q ∧ r ∈ t.rows) := by
  obtain ⟨b, x, y, hl⟩ := (look_mem hq ht u).1 hm
  have hs := look_wf (q := q) ht
  rw [hl] at hs
  have e : setT q v h t = Tr.put q (.node b q v h x y) t := by simp [setT, hl]
  have hx : ∀ w, (q, w) ∉ x.rows := fun w hm => absurd (child_strict (by omega) hs.1 (hs.2.1 _ (rows_pfx hm)) hq.2.1).2.1 (Nat.lt_irrefl _)
  have hy : ∀ w, (q, w) ∉ y.rows := fun w hm => absurd (child_strict (by omega) hs.1 (hs.2.2.1 _ (rows_pfx hm)) hq.2.1).2.1 (Nat.lt_irrefl _)
  have hw : (Tr.node b q v h x y).Wf := hs
  obtain ⟨p1, p2⟩ := put_rows hq (s := .node b q v h x y) ht (fun r hr => by
      simp only [Tr.rows, List.mem_append] at hr
      rcases hr with (hr | hr) | hr
      · split at hr
        · simp at hr; left; rw [hr]
        · cases hr
      · right; rw [hl]; simp [Tr.rows, hr]
      · right; rw [hl]; simp [Tr.rows, hr]) (fun r hr hne => by
      rw [hl] at hr
      simp only [Tr.rows, List.mem_append] at hr ⊢
      rcases hr with (hr | hr) | hr
      · simp at hr; exact absurd (by rw [hr]) hne
      · exact .inl (.inr hr)
      · exact .inr hr)
  rw [e]
  refine ⟨(put_wf hq hw ht (fun c _ hc hall r hr => by rw [hl] at hall; exact hall r hr)).1, fun r => ?_⟩
  by_cases e1 : r.1 = q
  · obtain ⟨r1, r2⟩ := r
    simp only at e1
    subst e1
    rw [p2 r2]
    simp only [Tr.rows, List.mem_append, hx, hy, or_false]
    cases h <;> simp
  · rw [p1 r e1]
    constructor
    · exact fun h => .inr ⟨e1, h⟩
    · rintro (⟨_, h⟩ | ⟨_, h⟩)
      · exact absurd (by rw [h]) e1
      · exact h

/-- What stays where a node stands. -/
def keptT : Tr → Tr
  | .node b p v true x y => .node b p v true x y
  | .node _ _ _ false .nil y => y
  | .node _ _ _ false x .nil => x
  | t => t
theorem kept_rows (t : Tr) : (keptT t).rows = t.rows := by
  cases t with
  | nil => rfl
  | node b p v h x y =>
    cases h
    · cases x <;> cases y <;> simp [keptT, Tr.rows]
    · rfl
theorem kept_wf {t : Tr} (h : t.Wf) : (keptT t).Wf ∧ ∀ r ∈ (keptT t).pfx, r ∈ t.pfx := by
  cases t with
  | nil => exact ⟨trivial, fun _ h => h⟩
  | node b p v hh x y =>
    cases hh
    · cases x with
      | nil => exact ⟨h.2.2.2.2, fun r hr => by simp only [keptT] at hr; simp [Tr.pfx, hr]⟩
      | node b1 p1 v1 h1 x1 y1 =>
        cases y with
        | nil => exact ⟨h.2.2.2.1, fun r hr => by simp only [keptT] at hr; simp only [Tr.pfx, List.append_nil, List.mem_cons]; exact .inr (by simpa [Tr.pfx] using hr)⟩
        | node b2 p2 v2 h2 x2 y2 => exact ⟨h, fun _ h => h⟩
    · exact ⟨h, fun _ h => h⟩
def tidyT (q : Pn) : Tr → Tr
  | .nil => .nil
  | .node b p v h x y => if p.holds q then keptT (if p.l = q.l then .node b p v h x y else if bitN q.a p.l = 0 then .node b p v h (tidyT q x) y else .node b p v h x (tidyT q y)) else .node b p v h x y
theorem tidy_rows (q : Pn) : ∀ t : Tr, (tidyT q t).rows = t.rows
  | .nil => rfl
  | .node b p v h x y => by
    unfold tidyT
    split
    · rw [kept_rows]
      split
      · rfl
      · split
        · simp only [Tr.rows, tidy_rows q x]
        · simp only [Tr.rows, tidy_rows q y]
    · rfl
theorem tidy_wf (q : Pn) : ∀ {t : Tr}, t.Wf → (tidyT q t).Wf ∧ ∀ r ∈ (tidyT q t).pfx, r ∈ t.pfx
  | .nil, h => ⟨h, fun _ h => h⟩
  | .node b p v h x y, hw => by
    obtain ⟨hp, h0, h1, hx, hy⟩ := hw
    obtain ⟨x1, x2⟩ := tidy_wf q hx
    obtain ⟨y1, y2⟩ := tidy_wf q hy
    have wx : (Tr.node b p v h (tidyT q x) y).Wf := ⟨hp, fun r hr => h0 r (x2 r hr), h1, x1, hy⟩
    have wy : (Tr.node b p v h x (tidyT q y)).Wf := ⟨hp, h0, fun r hr => h1 r (y2 r hr), hx, y1⟩
    have mx : ∀ r ∈ (Tr.node b p v h (tidyT q x) y).pfx, r ∈ (Tr.node b p v h x y).pfx := fun r hr => by
      simp only [Tr.pfx, List.cons_append, List.mem_cons, List.mem_append] at hr ⊢
      rcases hr with hr | hr | hr
      · exact .inl hr
      · exact .inr (.inl (x2 r hr))
      · exact .inr (.inr hr)
    have my : ∀ r ∈ (Tr.node b p v h x (tidyT q y)).pfx, r ∈ (Tr.node b p v h x y).pfx := fun r hr => by
      simp only [Tr.pfx, List.cons_append, List.mem_cons, List.mem_append] at hr ⊢
      rcases hr with hr | hr | hr
      · exact .inl hr
      · exact .inr (.inl hr)
      · exact .inr (.inr (y2 r hr))
    unfold tidyT
    split
    · split
      · exact kept_wf ⟨hp, h0, h1, hx, hy⟩
      · split
        · exact ⟨(kept_wf wx).1, fun r hr => mx r ((kept_wf wx).2 r hr)⟩
        · exact ⟨(kept_wf wy).1, fun r hr => my r ((kept_wf wy).2 r hr)⟩
    · exact ⟨⟨hp, h0, h1, hx, hy⟩, fun _ h => h⟩

/-- The rows of what a prefix is, or is within, from the top on. -/
def aboveT (q : Pn) : Tr → List (Pn × Int)
  | .nil => []
  | .node _ p v h x y => if p.holds q then (if h then [(p, v)] else []) ++ (if p.l = q.l then [] else if bitN q.a p.l = 0 then aboveT q x else aboveT q y) else []
theorem above_all {q : Pn} (hq : q.ok) : ∀ {t : Tr}, t.Wf → aboveT q t = t.rows.filter (fun r => decide (r.1.holds q))
  | .nil, _ => rfl
  | .node b p v h x y, ⟨hp, h0, h1, hx, hy⟩ => by
    have none : ∀ {t : Tr}, (∀ r ∈ t.rows, ¬ r.1.holds q) → t.rows.filter (fun r => decide (r.1.holds q)) = [] := fun {t} h => by
      rw [List.filter_eq_nil_iff]; intro r hr; simpa using h r hr
    have self : (if h then [(p, v)] else []).filter (fun r : Pn × Int => decide (r.1.holds q)) = if p.holds q then (if h then [(p, v)] else []) else [] := by
      cases h <;> simp [List.filter_cons]
    simp only [aboveT, Tr.rows, List.filter_append, self]
    by_cases hh : p.holds q
    · by_cases hl : p.l = q.l
      · have nx : ∀ r ∈ x.rows, ¬ r.1.holds q := fun r hr hc => by
          have := (child_strict (by omega) hp (h0 _ (rows_pfx hr)) (pfx_ok hx _ (rows_pfx hr)).2.1).2.1
          have := hc.1; omega
        have ny : ∀ r ∈ y.rows, ¬ r.1.holds q := fun r hr hc => by
          have := (child_strict (by omega) hp (h1 _ (rows_pfx hr)) (pfx_ok hy _ (rows_pfx hr)).2.1).2.1
          have := hc.1; omega
        rw [none nx, none ny]
        simp [hh, hl]
      · have hlt : p.l < q.l := Nat.lt_of_le_of_ne hh.1 hl
        have bitof : ∀ {r : Pn} {i : Nat}, i < 2 → (p.child i).holds r → r.ok → r.holds q → bitN q.a p.l = i := fun {r i} hi hc hr hrq => by
          exact (child_strict hi hp (holds_trans hc hrq hr.2.1) hq.2.1).2.2
        rcases bit_cases q.a p.l with hb | hb
        · have ny : ∀ r ∈ y.rows, ¬ r.1.holds q := fun r hr hc => by
            have := bitof (by omega) (h1 _ (rows_pfx hr)) (pfx_ok hy _ (rows_pfx hr)) hc; omega
          rw [none ny, ← above_all hq hx]
          simp [hh, hl, hb]
        · have hb0 : ¬ bitN q.a p.l = 0 := by omega
          have nx : ∀ r ∈ x.rows, ¬ r.1.holds q := fun r hr hc => by
            have := bitof (by omega) (h0 _ (rows_pfx hr)) (pfx_ok hx _ (rows_pfx hr)) hc; omega
          rw [none nx, ← above_all hq hy]
          simp [hh, hl, hb0]
    · have nx : ∀ r ∈ x.rows, ¬ r.1.holds q := fun r hr hc => hh (holds_trans (child_strict (by omega) hp (h0 _ (rows_pfx hr)) (pfx_ok hx _ (rows_pfx hr)).2.1).1 hc (pfx_ok hx _ (rows_pfx hr)).2.1)
      have ny : ∀ r ∈ y.rows, ¬ r.1.holds q := fun r hr hc => hh (holds_trans (child_strict (by omega) hp (h1 _ (rows_pfx hr)) (pfx_ok hy _ (rows_pfx hr)).2.1).1 hc (pfx_ok hy _ (rows_pfx hr)).2.1)
      rw [none nx, none ny]
      simp [hh]
end Go.Proofs.YtfaiponmjjbgoaaDoor
