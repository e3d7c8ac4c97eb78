/- Trees of prefixes in memory: nodes in blocks, places, and a store at a place. -/
import Derived.Test.YtfaiponmjjbgoaaDoorTr2
import Derived.Test.YtfaiponmjjbgoaaDoorRec
namespace Go.Proofs.YtfaiponmjjbgoaaDoor
open Go.RowKit

def Tr.ptr : Tr → Value
  | .nil => .pointer none
  | .node b _ _ _ _ _ => .pointer (some ⟨b, 0, none⟩)
def TM (w : World) : Tr → Prop
  | .nil => True
  | .node b p v h x y => Blk w b 87 #[.int .u32 p.a, .int .i64 p.l, .int .i64 v, .bool h, x.ptr, y.ptr] ∧ TM w x ∧ TM w y

theorem TM.only {bs : List Nat} {w w' : World} (k : Only bs w w') : ∀ {t : Tr}, TM w t → (∀ b ∈ t.bs, b ∉ bs) → TM w' t
  | .nil, _, _ => trivial
  | .node b p v h x y, ⟨h0, hx, hy⟩, hb => ⟨h0.only k (hb b (by simp [Tr.bs])), TM.only k hx (fun c hc => hb c (by simp [Tr.bs, hc])), TM.only k hy (fun c hc => hb c (by simp [Tr.bs, hc]))⟩
theorem TM.keep {w w' : World} {t : Tr} (h : TM w t) (k : Kp w w') : TM w' t := TM.only (bs := []) (Only.of_kp k) h (fun _ _ => by simp)
theorem TM.lt {w : World} : ∀ {t : Tr}, TM w t → ∀ b ∈ t.bs, b < w.heap.size
  | .node b p v h x y, ⟨h0, hx, hy⟩, c, hc => by
    simp only [Tr.bs, List.cons_append, List.mem_cons, List.mem_append] at hc
    rcases hc with rfl | hc | hc
    · exact h0.lt
    · exact TM.lt hx c hc
    · exact TM.lt hy c hc

/-- Where the tree at a prefix's place hangs: a block and an offset. -/
def Tr.place (q : Pn) (A : Nat × Nat) : Tr → Nat × Nat
  | .nil => A
  | .node b p _ _ x y => if p.holds q then (if p.l = q.l then A else if bitN q.a p.l = 0 then Tr.place q (b, 4) x else Tr.place q (b, 5) y) else A
/-- The blocks beside the tree at a prefix's place. -/
def Tr.beside (q : Pn) : Tr → List Nat
  | .nil => []
  | .node b p _ _ x y => if p.holds q then (if p.l = q.l then [] else if bitN q.a p.l = 0 then b :: (Tr.beside q x ++ y.bs) else b :: (x.bs ++ Tr.beside q y)) else []
theorem beside_look (q : Pn) : ∀ t : Tr, t.bs.Perm (Tr.beside q t ++ (t.look q).bs)
  | .nil => by simp [Tr.bs, Tr.beside, Tr.look]
  | .node b p v h x y => by
    simp only [Tr.beside, Tr.look]
    split
    · split
      · simp
      · split
        · simp only [Tr.bs, List.cons_append]
          refine List.Perm.cons _ ?_
          refine ((beside_look q x).append_right _).trans ?_
          rw [List.append_assoc, List.append_assoc]
          exact List.Perm.append_left _ List.perm_append_comm
        · simp only [Tr.bs, List.cons_append]
          refine List.Perm.cons _ ?_
          rw [List.append_assoc]
          exact List.Perm.append_left _ (beside_look q y)
    · simp
theorem beside_put (q : Pn) (s : Tr) : ∀ t : Tr, (Tr.put q s t).bs.Perm (Tr.beside q t ++ s.bs)
  | .nil => by simp [Tr.beside, Tr.put]
  | .node b p v h x y => by
    simp only [Tr.beside, Tr.put]
    split
    · split
      · simp
      · split
        · simp only [Tr.bs, List.cons_append]
          refine List.Perm.cons _ ?_
          refine ((beside_put q s x).append_right _).trans ?_
          rw [List.append_assoc, List.append_assoc]
          exact List.Perm.append_left _ List.perm_append_comm
        · simp only [Tr.bs, List.cons_append]
          refine List.Perm.cons _ ?_
          rw [List.append_assoc]
          exact List.Perm.append_left _ (beside_put q s y)
    · simp
theorem place_in (q : Pn) : ∀ (t : Tr) (A : Nat × Nat), Tr.place q A t = A ∨ (Tr.place q A t).1 ∈ Tr.beside q t
  | .nil, A => .inl rfl
  | .node b p v h x y, A => by
    simp only [Tr.place, Tr.beside]
    split
    · split
      · exact .inl rfl
      · split
        · rcases place_in q x (b, 4) with e | e
          · right; rw [e]; simp
          · right; simp [e]
        · rcases place_in q y (b, 5) with e | e
          · right; rw [e]; simp
          · right; simp [e]
    · exact .inl rfl
theorem look_TM {w : World} {q : Pn} : ∀ {t : Tr}, TM w t → TM w (t.look q)
  | .nil, h => h
  | .node b p v hh x y, h => by
    unfold Tr.look
    split
    · split
      · exact h
      · split
        · exact look_TM h.2.1
        · exact look_TM h.2.2
    · exact h

/-- What lies at a place is the tree that hangs there. -/
theorem place_cell {w : World} {q : Pn} : ∀ {t : Tr} {A : Nat × Nat}, TM w t → w.cell? ⟨A.1, A.2, none⟩ = some t.ptr → w.cell? ⟨(Tr.place q A t).1, (Tr.place q A t).2, none⟩ = some (t.look q).ptr
  | .nil, A, _, h => h
  | .node b p v hh x y, A, ⟨h0, hx, hy⟩, h => by
    simp only [Tr.place, Tr.look]
    split
    · split
      · exact h
      · split
        · exact place_cell hx (h0.cell 4)
        · exact place_cell hy (h0.cell 5)
    · exact h

/-- A store at a prefix's place hangs another tree there. -/
theorem put_TM {w : World} {q : Pn} {s : Tr} : ∀ {t : Tr} {A : Nat × Nat}, TM w t → A.1 ∉ t.bs → t.bs.Nodup → TM w s → (Tr.place q A t).1 ∉ s.bs →
    TM (w.setCell ⟨(Tr.place q A t).1, (Tr.place q A t).2, none⟩ s.ptr) (Tr.put q s t) ∧ ((Tr.place q A t = A ∧ Tr.put q s t = s) ∨ ((Tr.place q A t).1 ∈ t.bs ∧ (Tr.put q s t).ptr = t.ptr))
  | .nil, A, _, _, _, hs, hn => ⟨TM.only (bs := [A.1]) ((Only.refl _ _).setCell (.inl (by simp [Tr.place])) _) hs (fun b hb => by simp [Tr.place] at hn ⊢; intro e; subst e; exact hn hb), .inl ⟨rfl, rfl⟩⟩
  | .node b p v h x y, A, ⟨h0, hx, hy⟩, hA, hnd, hs, hn => by
    have hb : b ∉ x.bs ∧ b ∉ y.bs ∧ x.bs.Nodup ∧ y.bs.Nodup ∧ ∀ c ∈ x.bs, c ∉ y.bs := by
      simp only [Tr.bs, List.cons_append, List.nodup_cons, List.mem_append, not_or, List.nodup_append] at hnd
      refine ⟨hnd.1.1, hnd.1.2, hnd.2.1, hnd.2.2.1, fun c hc hc' => hnd.2.2.2 c hc c hc' rfl⟩
    have top : ∀ B : Nat × Nat, B.1 ∉ s.bs → TM (w.setCell ⟨B.1, B.2, none⟩ s.ptr) s := fun B hB =>
      TM.only (bs := [B.1]) ((Only.refl _ _).setCell (.inl (by simp)) _) hs (fun c hc => by simp; intro e; subst e; exact hB hc)
    unfold Tr.put
    by_cases hh : p.holds q
    · by_cases hl : p.l = q.l
      · simp only [Tr.place, hh, hl, if_true] at hn ⊢
        exact ⟨top A hn, .inl ⟨trivial, trivial⟩⟩
      · by_cases hbit : bitN q.a p.l = 0
        · simp only [Tr.place, hh, hl, hbit, if_true, if_false] at hn ⊢
          obtain ⟨i1, i2⟩ := put_TM (A := (b, 4)) hx hb.1 hb.2.2.1 hs hn
          have hin : (Tr.place q (b, 4) x).1 = b ∨ (Tr.place q (b, 4) x).1 ∈ x.bs := by
            rcases i2 with ⟨e, _⟩ | ⟨e, _⟩
            · left; rw [e]
            · exact .inr e
          have hy' : TM (w.setCell ⟨(Tr.place q (b, 4) x).1, (Tr.place q (b, 4) x).2, none⟩ s.ptr) y :=
            TM.only (bs := [(Tr.place q (b, 4) x).1]) ((Only.refl _ _).setCell (.inl (by simp)) _) hy (fun c hc => by
              simp only [List.mem_singleton]
              intro e; subst e
              rcases hin with e | e
              · rw [e] at hc; exact hb.2.1 hc
              · exact hb.2.2.2.2 _ e hc)
          refine ⟨⟨?_, i1, hy'⟩, .inr ⟨?_, rfl⟩⟩
          · rcases i2 with ⟨e, e2⟩ | ⟨e, e2⟩
            · rw [e, e2]
              exact h0.set_ 4 s.ptr
            · rw [e2]
              exact h0.far (by simp only; intro e'; rw [← e'] at e; exact hb.1 e) _
          · rcases hin with e | e
            · rw [e]; simp [Tr.bs]
            · simp [Tr.bs, e]
        · simp only [Tr.place, hh, hl, hbit, if_true, if_false] at hn ⊢
          obtain ⟨i1, i2⟩ := put_TM (A := (b, 5)) hy hb.2.1 hb.2.2.2.1 hs hn
          have hin : (Tr.place q (b, 5) y).1 = b ∨ (Tr.place q (b, 5) y).1 ∈ y.bs := by
            rcases i2 with ⟨e, _⟩ | ⟨e, _⟩
            · left; rw [e]
            · exact .inr e
          have hx' : TM (w.setCell ⟨(Tr.place q (b, 5) y).1, (Tr.place q (b, 5) y).2, none⟩ s.ptr) x :=
            TM.only (bs := [(Tr.place q (b, 5) y).1]) ((Only.refl _ _).setCell (.inl (by simp)) _) hx (fun c hc => by
              simp only [List.mem_singleton]
              intro e; subst e
              rcases hin with e | e
              · rw [e] at hc; exact hb.1 hc
              · exact hb.2.2.2.2 _ hc e)
          refine ⟨⟨?_, hx', i1⟩, .inr ⟨?_, rfl⟩⟩
          · rcases i2 with ⟨e, e2⟩ | ⟨e, e2⟩
            · rw [e, e2]
              exact h0.set_ 5 s.ptr
            · rw [e2]
              exact h0.far (by simp only; intro e'; rw [← e'] at e; exact hb.2.1 e) _
          · rcases hin with e | e
            · rw [e]; simp [Tr.bs]
            · simp [Tr.bs, e]
    · simp only [Tr.place, hh, if_false] at hn ⊢
      exact ⟨top A hn, .inl ⟨trivial, trivial⟩⟩
end Go.Proofs.YtfaiponmjjbgoaaDoor
