/- Tidying a tree in memory, place by place from the last one on; and a node's kept. -/
import Derived.Test.YtfaiponmjjbgoaaDoorTrK
namespace Go.Proofs.YtfaiponmjjbgoaaDoor
open Go.RowKit

theorem kept_bs (t : Tr) : (keptT t).bs.Sublist t.bs := by
  cases t with
  | nil => exact List.Sublist.refl _
  | node b p v h x y =>
    cases h
    · cases x with
      | nil => simp only [keptT, Tr.bs, List.cons_append, List.nil_append]; exact List.sublist_cons_self _ _
      | node b1 p1 v1 h1 x1 y1 =>
        cases y with
        | nil => simp only [keptT]; simp only [Tr.bs, List.append_nil]; exact List.sublist_cons_self _ _
        | node b2 p2 v2 h2 x2 y2 => exact List.Sublist.refl _
    · exact List.Sublist.refl _
theorem kept_TM {w : World} {t : Tr} (h : TM w t) : TM w (keptT t) := by
  cases t with
  | nil => exact h
  | node b p v hh x y =>
    cases hh
    · cases x with
      | nil => exact h.2.2
      | node b1 p1 v1 h1 x1 y1 =>
        cases y with
        | nil => exact h.2.1
        | node b2 p2 v2 h2 x2 y2 => exact h
    · exact h
theorem tidy_bs (q : Pn) : ∀ t : Tr, (tidyT q t).bs.Sublist t.bs
  | .nil => List.Sublist.refl _
  | .node b p v h x y => by
    unfold tidyT
    split
    · refine (kept_bs _).trans ?_
      split
      · exact List.Sublist.refl _
      · split
        · simp only [Tr.bs, List.cons_append]; exact ((tidy_bs q x).append_right _).cons_cons _
        · simp only [Tr.bs, List.cons_append]; exact ((List.Sublist.refl _).append (tidy_bs q y)).cons_cons _
    · exact List.Sublist.refl _

/-- The tree whose way is tidied from its k-th place on. -/
def tidyK (q : Pn) : Nat → Tr → Tr
  | 0, t => tidyT q t
  | _ + 1, .nil => .nil
  | k + 1, .node b p v h x y => if p.holds q then (if p.l = q.l then .node b p v h x y else if bitN q.a p.l = 0 then .node b p v h (tidyK q k x) y else .node b p v h x (tidyK q k y)) else .node b p v h x y
theorem tidyK_bs (q : Pn) : ∀ (k : Nat) (t : Tr), (tidyK q k t).bs.Sublist t.bs
  | 0, t => tidy_bs q t
  | _ + 1, .nil => List.Sublist.refl _
  | k + 1, .node b p v h x y => by
    unfold tidyK
    split
    · split
      · exact List.Sublist.refl _
      · split
        · simp only [Tr.bs, List.cons_append]; exact ((tidyK_bs q k x).append_right _).cons_cons _
        · simp only [Tr.bs, List.cons_append]; exact ((List.Sublist.refl _).append (tidyK_bs q k y)).cons_cons _
    · exact List.Sublist.refl _
theorem tidyK_end (q : Pn) : ∀ (k : Nat) (t : Tr) (A : Nat × Nat), (Tr.way q A t).length ≤ k → tidyK q k t = t
  | 0, .nil, A, h => rfl
  | 0, .node b p v hh x y, A, h => by
    by_cases h1 : p.holds q
    · simp [Tr.way, h1] at h
    · simp [tidyK, tidyT, h1]
  | k + 1, .nil, A, h => rfl
  | k + 1, .node b p v hh x y, A, h => by
    unfold tidyK
    by_cases h1 : p.holds q
    · by_cases h2 : p.l = q.l
      · simp [h1, h2]
      · by_cases h3 : bitN q.a p.l = 0
        · simp only [Tr.way, h1, h2, h3, if_true, if_false, List.length_cons] at h ⊢
          rw [tidyK_end q k x (b, 4) (by omega)]
        · simp only [Tr.way, h1, h2, h3, if_true, if_false, List.length_cons] at h ⊢
          rw [tidyK_end q k y (b, 5) (by omega)]
    · simp [h1]

/-- What a step finds at its place, and what its store leaves. -/
structure Step (w : World) (q : Pn) (k : Nat) (t : Tr) (A B : Nat × Nat) (s : Tr) : Prop where
  node : ∃ b p v h x y, s = .node b p v h x y
  cell : ∃ ty cs, Blk w B.1 ty cs ∧ cs[B.2]? = some s.ptr
  tm : TM w s
  out : B.1 ∉ s.bs
  inn : B = A ∨ B.1 ∈ t.bs
  after : TM (w.setCell ⟨B.1, B.2, none⟩ (keptT s).ptr) (tidyK q k t)
  top : (B = A ∧ tidyK q k t = keptT s) ∨ (B.1 ∈ t.bs ∧ (tidyK q k t).ptr = (tidyK q (k + 1) t).ptr)

theorem tidy_step {w : World} {q : Pn} : ∀ {k : Nat} {t : Tr} {A B : Nat × Nat}, TM w (tidyK q (k + 1) t) → (∃ ty cs, Blk w A.1 ty cs ∧ cs[A.2]? = some (tidyK q (k + 1) t).ptr) → A.1 ∉ t.bs → t.bs.Nodup → (Tr.way q A t)[k]? = some B → ∃ s, Step w q k t A B s
  | k, .nil, A, B, _, _, _, _, hB => by simp [Tr.way] at hB
  | 0, .node b p v h x y, A, B, hM, hA, ho, hn, hB => by
    by_cases h1 : p.holds q
    · simp only [Tr.way, h1, if_true, List.getElem?_cons_zero, Option.some.injEq] at hB
      subst hB
      have e : keptT (tidyK q 1 (.node b p v h x y)) = tidyK q 0 (.node b p v h x y) := by
        show _ = tidyT q (.node b p v h x y)
        conv => rhs; unfold tidyT
        conv => lhs; unfold tidyK
        simp only [h1, if_true]
        rfl
      have hsub := (tidyK_bs q 1 (.node b p v h x y)).subset
      refine ⟨tidyK q 1 (.node b p v h x y), ?_, hA, hM, fun hc => ho (hsub hc), .inl rfl, ?_, .inl ⟨rfl, e.symm⟩⟩
      · unfold tidyK
        simp only [h1, if_true]
        split
        · exact ⟨_, _, _, _, _, _, rfl⟩
        · split
          · exact ⟨_, _, _, _, _, _, rfl⟩
          · exact ⟨_, _, _, _, _, _, rfl⟩
      · rw [← e]
        exact (kept_TM hM).only (bs := [A.1]) ((Only.refl _ _).setCell (.inl (by simp)) _) (fun c hc => by simp; intro e'; subst e'; exact ho (hsub ((kept_bs _).subset hc)))
    · simp [Tr.way, h1] at hB
  | k + 1, .node b p v h x y, A, B, hM, hA, ho, hn, hB => by
    have hb : b ∉ x.bs ∧ b ∉ y.bs ∧ x.bs.Nodup ∧ y.bs.Nodup ∧ ∀ c ∈ x.bs, c ∉ y.bs := by
      simp only [Tr.bs, List.cons_append, List.nodup_cons, List.mem_append, not_or, List.nodup_append] at hn
      refine ⟨hn.1.1, hn.1.2, hn.2.1, hn.2.2.1, fun c hc hc' => hn.2.2.2 c hc c hc' rfl⟩
    by_cases h1 : p.holds q
    · by_cases h2 : p.l = q.l
      · simp [Tr.way, h1, h2] at hB
      · by_cases h3 : bitN q.a p.l = 0
        · simp only [Tr.way, h1, h2, h3, if_true, if_false, List.getElem?_cons_succ] at hB
          have e2 : tidyK q (k + 1 + 1) (.node b p v h x y) = .node b p v h (tidyK q (k + 1) x) y := by simp [tidyK, h1, h2, h3]
          have e1 : tidyK q (k + 1) (.node b p v h x y) = .node b p v h (tidyK q k x) y := by simp [tidyK, h1, h2, h3]
          rw [e2] at hM
          obtain ⟨h0, hx, hy⟩ := hM
          obtain ⟨s, S⟩ := tidy_step (A := (b, 4)) hx ⟨_, _, h0, rfl⟩ hb.1 hb.2.2.1 hB
          have hin : B.1 = b ∨ B.1 ∈ x.bs := by
            rcases S.inn with e | e
            · left; rw [e]
            · exact .inr e
          refine ⟨s, S.node, S.cell, S.tm, S.out, .inr ?_, ?_, .inr ⟨?_, by rw [e1, e2]; rfl⟩⟩
          · rcases hin with e | e <;> simp [Tr.bs, e]
          · rw [e1]
            refine ⟨?_, S.after, hy.only (bs := [B.1]) ((Only.refl _ _).setCell (.inl (by simp)) _) (fun c hc => ?_)⟩
            · rcases S.top with ⟨ea, eb⟩ | ⟨ea, eb⟩
              · rw [ea, eb]; exact h0.set_ 4 _
              · rw [eb]; exact h0.far (by simp only; intro e'; rw [← e'] at ea; exact hb.1 ea) _
            · simp only [List.mem_singleton]
              intro e'; subst e'
              rcases hin with e | e
              · rw [e] at hc; exact hb.2.1 hc
              · exact hb.2.2.2.2 _ e hc
          · rcases hin with e | e <;> simp [Tr.bs, e]
        · simp only [Tr.way, h1, h2, h3, if_true, if_false, List.getElem?_cons_succ] at hB
          have e2 : tidyK q (k + 1 + 1) (.node b p v h x y) = .node b p v h x (tidyK q (k + 1) y) := by simp [tidyK, h1, h2, h3]
          have e1 : tidyK q (k + 1) (.node b p v h x y) = .node b p v h x (tidyK q k y) := by simp [tidyK, h1, h2, h3]
          rw [e2] at hM
          obtain ⟨h0, hx, hy⟩ := hM
          obtain ⟨s, S⟩ := tidy_step (A := (b, 5)) hy ⟨_, _, h0, rfl⟩ hb.2.1 hb.2.2.2.1 hB
          have hin : B.1 = b ∨ B.1 ∈ y.bs := by
            rcases S.inn with e | e
            · left; rw [e]
            · exact .inr e
          refine ⟨s, S.node, S.cell, S.tm, S.out, .inr ?_, ?_, .inr ⟨?_, by rw [e1, e2]; rfl⟩⟩
          · rcases hin with e | e <;> simp [Tr.bs, e]
          · rw [e1]
            refine ⟨?_, hx.only (bs := [B.1]) ((Only.refl _ _).setCell (.inl (by simp)) _) (fun c hc => ?_), S.after⟩
            · rcases S.top with ⟨ea, eb⟩ | ⟨ea, eb⟩
              · rw [ea, eb]; exact h0.set_ 5 _
              · rw [eb]; exact h0.far (by simp only; intro e'; rw [← e'] at ea; exact hb.2.1 ea) _
            · simp only [List.mem_singleton]
              intro e'; subst e'
              rcases hin with e | e
              · rw [e] at hc; exact hb.1 hc
              · exact hb.2.2.2.2 _ hc e
          · rcases hin with e | e <;> simp [Tr.bs, e]
    · simp [Tr.way, h1] at hB

theorem kept_ptr {b : Nat} {p : Pn} {v : Int} {h : Bool} {x y : Tr} : (keptT (.node b p v h x y)).ptr = if h then .pointer (some ⟨b, 0, none⟩) else match x, y with
    | .nil, y => y.ptr
    | x, .nil => x.ptr
    | _, _ => .pointer (some ⟨b, 0, none⟩) := by
  cases h <;> cases x <;> cases y <;> rfl

set_option maxRecDepth 100000 in
set_option maxHeartbeats 1000000 in
theorem kept_any (b : Nat) (p : Pn) (v : Int) (h : Bool) (x y : Tr) (w : World) (hB : Blk w b 87 #[.int .u32 p.a, .int .i64 p.l, .int .i64 v, .bool h, x.ptr, y.ptr]) :
    Calls Tryd.prog 54 #[.pointer (some ⟨b, 0, none⟩)] w fun e w' => e = .returned (keptT (.node b p v h x y)).ptr ∧ w = w' := by
  have h1 := ptr_is_nil
  have h2 := ptr_not_nil
  have n3 : w.cell? ⟨b, 3, none⟩ = some (.bool h) := hB.cell 3
  have n4 : w.cell? ⟨b, 4, none⟩ = some x.ptr := hB.cell 4
  have n5 : w.cell? ⟨b, 5, none⟩ = some y.ptr := hB.cell 5
  clear hB
  cases h
  · cases x with
    | nil =>
      have n4' : w.cell? ⟨b, 4, none⟩ = some (.pointer none) := n4
      clear n4
      go_enter Tryd.func54, Tryd.ntmps54
      go_wp2_with fail
      go_ret
      exact ⟨rfl, rfl⟩
    | node b1 p1 v1 g1 x1 y1 =>
      have n4' : w.cell? ⟨b, 4, none⟩ = some (.pointer (some ⟨b1, 0, none⟩)) := n4
      clear n4
      cases y with
      | nil =>
        have n5' : w.cell? ⟨b, 5, none⟩ = some (.pointer none) := n5
        clear n5
        go_enter Tryd.func54, Tryd.ntmps54
        go_wp2_with fail
        go_ret
        exact ⟨rfl, rfl⟩
      | node b2 p2 v2 g2 x2 y2 =>
        have n5' : w.cell? ⟨b, 5, none⟩ = some (.pointer (some ⟨b2, 0, none⟩)) := n5
        clear n5
        go_enter Tryd.func54, Tryd.ntmps54
        go_wp2_with fail
        go_ret
        exact ⟨rfl, rfl⟩
  · go_enter Tryd.func54, Tryd.ntmps54
    go_wp2_with fail
    go_ret
    exact ⟨rfl, rfl⟩
end Go.Proofs.YtfaiponmjjbgoaaDoor
