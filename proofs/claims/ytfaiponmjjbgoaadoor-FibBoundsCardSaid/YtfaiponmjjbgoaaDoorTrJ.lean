/- Trees in memory: what lies beside a place, and what a store there, or in the node there, comes to. -/
import Derived.Test.YtfaiponmjjbgoaaDoorTrI
namespace Go.Proofs.YtfaiponmjjbgoaaDoor
open Go.RowKit

/-- The nodes beside a prefix's place lie there. -/
def TMb (w : World) (q : Pn) : Tr → Prop
  | .nil => True
  | .node b p v h x y => if p.holds q then (if p.l = q.l then True else if bitN q.a p.l = 0 then Blk w b 87 #[.int .u32 p.a, .int .i64 p.l, .int .i64 v, .bool h, x.ptr, y.ptr] ∧ TMb w q x ∧ TM w y else Blk w b 87 #[.int .u32 p.a, .int .i64 p.l, .int .i64 v, .bool h, x.ptr, y.ptr] ∧ TM w x ∧ TMb w q y) else True
theorem TMb.of {w : World} {q : Pn} : ∀ {t : Tr}, TM w t → TMb w q t
  | .nil, _ => trivial
  | .node b p v h x y, ⟨h0, hx, hy⟩ => by
    unfold TMb
    split
    · split
      · trivial
      · split
        · exact ⟨h0, TMb.of hx, hy⟩
        · exact ⟨h0, hx, TMb.of hy⟩
    · trivial
theorem TMb.only {bs : List Nat} {w w' : World} {q : Pn} (k : Only bs w w') : ∀ {t : Tr}, TMb w q t → (∀ b ∈ Tr.beside q t, b ∉ bs) → TMb w' q t
  | .nil, _, _ => trivial
  | .node b p v h x y, hm, hb => by
    unfold TMb at hm ⊢
    unfold Tr.beside at hb
    by_cases hh : p.holds q
    · by_cases hl : p.l = q.l
      · simp [hh, hl]
      · by_cases hbit : bitN q.a p.l = 0
        · simp only [hh, hl, hbit, if_true, if_false] at hm hb ⊢
          exact ⟨hm.1.only k (hb b (by simp)), TMb.only k hm.2.1 (fun c hc => hb c (by simp [hc])), hm.2.2.only k (fun c hc => hb c (by simp [hc]))⟩
        · simp only [hh, hl, hbit, if_true, if_false] at hm hb ⊢
          exact ⟨hm.1.only k (hb b (by simp)), hm.2.1.only k (fun c hc => hb c (by simp [hc])), TMb.only k hm.2.2 (fun c hc => hb c (by simp [hc]))⟩
    · simp [hh]

theorem put_ptr {q : Pn} {s : Tr} : ∀ {t : Tr}, s.ptr = (t.look q).ptr → (Tr.put q s t).ptr = t.ptr
  | .nil, h => h
  | .node b p v hh x y, h => by
    unfold Tr.look at h
    unfold Tr.put
    by_cases h1 : p.holds q
    · by_cases h2 : p.l = q.l
      · simp only [h1, h2, if_true] at h ⊢; exact h
      · by_cases h3 : bitN q.a p.l = 0
        · simp only [h1, h2, h3, if_true, if_false]; rfl
        · simp only [h1, h2, h3, if_true, if_false]; rfl
    · simp only [h1, if_false] at h ⊢; exact h
/-- Another tree where the old one's node lies: no pointer turns. -/
theorem put_same {w : World} {q : Pn} {s : Tr} : ∀ {t : Tr}, TMb w q t → TM w s → s.ptr = (t.look q).ptr → TM w (Tr.put q s t)
  | .nil, _, hs, _ => hs
  | .node b p v hh x y, hm, hs, h => by
    unfold TMb at hm
    unfold Tr.look at h
    unfold Tr.put
    by_cases h1 : p.holds q
    · by_cases h2 : p.l = q.l
      · simp only [h1, h2, if_true]; exact hs
      · by_cases h3 : bitN q.a p.l = 0
        · simp only [h1, h2, h3, if_true, if_false] at hm h ⊢
          refine ⟨?_, put_same hm.2.1 hs h, hm.2.2⟩
          rw [put_ptr h]; exact hm.1
        · simp only [h1, h2, h3, if_true, if_false] at hm h ⊢
          refine ⟨?_, hm.2.1, put_same hm.2.2 hs h⟩
          rw [put_ptr h]; exact hm.1
    · simp only [h1, if_false]; exact hs

theorem beside_sub {q : Pn} {t : Tr} {b : Nat} (h : b ∈ Tr.beside q t) : b ∈ t.bs := (beside_look q t).mem_iff.2 (List.mem_append.2 (.inl h))
theorem look_sub {q : Pn} {t : Tr} {b : Nat} (h : b ∈ (t.look q).bs) : b ∈ t.bs := (beside_look q t).mem_iff.2 (List.mem_append.2 (.inr h))
theorem beside_nd {q : Pn} {t : Tr} (h : t.bs.Nodup) : (Tr.beside q t).Nodup ∧ (t.look q).bs.Nodup ∧ ∀ b ∈ Tr.beside q t, b ∉ (t.look q).bs := by
  have h1 := List.nodup_append.1 ((beside_look q t).nodup_iff.1 h)
  exact ⟨h1.1, h1.2.1, fun b hb hc => h1.2.2 b hb b hc rfl⟩

/-- A store at a prefix's place hangs another tree there: what lies beside it is all that is asked. -/
theorem put_TMb {w : World} {q : Pn} {s : Tr} : ∀ {t : Tr} {A : Nat × Nat}, TMb w q t → A.1 ∉ t.bs → t.bs.Nodup → TM w s → (Tr.place q A t).1 ∉ s.bs →
    TM (w.setCell ⟨(Tr.place q A t).1, (Tr.place q A t).2, none⟩ s.ptr) (Tr.put q s t) ∧ ((Tr.place q A t = A ∧ Tr.put q s t = s) ∨ ((Tr.place q A t).1 ∈ Tr.beside q t ∧ (Tr.put q s t).ptr = t.ptr))
  | .nil, A, _, _, _, hs, hn => ⟨TM.only (bs := [A.1]) ((Only.refl _ _).setCell (.inl (by simp [Tr.place])) _) hs (fun b hb => by simp [Tr.place] at hn ⊢; intro e; subst e; exact hn hb), .inl ⟨rfl, rfl⟩⟩
  | .node b p v h x y, A, hm, hA, hnd, hs, hn => by
    have hb : b ∉ x.bs ∧ b ∉ y.bs ∧ x.bs.Nodup ∧ y.bs.Nodup ∧ ∀ c ∈ x.bs, c ∉ y.bs := by
      simp only [Tr.bs, List.cons_append, List.nodup_cons, List.mem_append, not_or, List.nodup_append] at hnd
      refine ⟨hnd.1.1, hnd.1.2, hnd.2.1, hnd.2.2.1, fun c hc hc' => hnd.2.2.2 c hc c hc' rfl⟩
    have top : ∀ B : Nat × Nat, B.1 ∉ s.bs → TM (w.setCell ⟨B.1, B.2, none⟩ s.ptr) s := fun B hB =>
      TM.only (bs := [B.1]) ((Only.refl _ _).setCell (.inl (by simp)) _) hs (fun c hc => by simp; intro e; subst e; exact hB hc)
    unfold Tr.put
    unfold TMb at hm
    by_cases hh : p.holds q
    · by_cases hl : p.l = q.l
      · simp only [Tr.place, hh, hl, if_true] at hn ⊢
        exact ⟨top A hn, .inl ⟨trivial, trivial⟩⟩
      · by_cases hbit : bitN q.a p.l = 0
        · simp only [Tr.place, Tr.beside, hh, hl, hbit, if_true, if_false] at hm hn ⊢
          obtain ⟨h0, hx, hy⟩ := hm
          obtain ⟨i1, i2⟩ := put_TMb (A := (b, 4)) hx hb.1 hb.2.2.1 hs hn
          have hin : (Tr.place q (b, 4) x).1 = b ∨ (Tr.place q (b, 4) x).1 ∈ x.bs := by
            rcases i2 with ⟨e, _⟩ | ⟨e, _⟩
            · left; rw [e]
            · exact .inr (beside_sub e)
          have hy' : TM (w.setCell ⟨(Tr.place q (b, 4) x).1, (Tr.place q (b, 4) x).2, none⟩ s.ptr) y :=
            TM.only (bs := [(Tr.place q (b, 4) x).1]) ((Only.refl _ _).setCell (.inl (by simp)) _) hy (fun c hc => by
              simp only [List.mem_singleton]
              intro e; subst e
              rcases hin with e | e
              · rw [e] at hc; exact hb.2.1 hc
              · exact hb.2.2.2.2 _ e hc)
          refine ⟨⟨?_, i1, hy'⟩, .inr ⟨?_, rfl⟩⟩
          · rcases i2 with ⟨e, e2⟩ | ⟨e, e2⟩
            · rw [e, e2]
              exact h0.set_ 4 s.ptr
            · rw [e2]
              exact h0.far (by simp only; intro e'; rw [← e'] at e; exact hb.1 (beside_sub e)) _
          · rcases i2 with ⟨e, _⟩ | ⟨e, _⟩
            · rw [e]; simp
            · simp [e]
        · simp only [Tr.place, Tr.beside, hh, hl, hbit, if_true, if_false] at hm hn ⊢
          obtain ⟨h0, hx, hy⟩ := hm
          obtain ⟨i1, i2⟩ := put_TMb (A := (b, 5)) hy hb.2.1 hb.2.2.2.1 hs hn
          have hin : (Tr.place q (b, 5) y).1 = b ∨ (Tr.place q (b, 5) y).1 ∈ y.bs := by
            rcases i2 with ⟨e, _⟩ | ⟨e, _⟩
            · left; rw [e]
            · exact .inr (beside_sub e)
          have hx' : TM (w.setCell ⟨(Tr.place q (b, 5) y).1, (Tr.place q (b, 5) y).2, none⟩ s.ptr) x :=
            TM.only (bs := [(Tr.place q (b, 5) y).1]) ((Only.refl _ _).setCell (.inl (by simp)) _) hx (fun c hc => by
              simp only [List.mem_singleton]
              intro e; subst e
              rcases hin with e | e
              · rw [e] at hc; exact hb.1 hc
              · exact hb.2.2.2.2 _ hc e)
          refine ⟨⟨?_, hx', i1⟩, .inr ⟨?_, rfl⟩⟩
          · rcases i2 with ⟨e, e2⟩ | ⟨e, e2⟩
            · rw [e, e2]
              exact h0.set_ 5 s.ptr
            · rw [e2]
              exact h0.far (by simp only; intro e'; rw [← e'] at e; exact hb.2.1 (beside_sub e)) _
          · rcases i2 with ⟨e, _⟩ | ⟨e, _⟩
            · rw [e]; simp
            · simp [e]
    · simp only [Tr.place, hh, if_false] at hn ⊢
      exact ⟨top A hn, .inl ⟨trivial, trivial⟩⟩

theorem TM.heap {w w' : World} (h : w'.heap = w.heap) : ∀ {t : Tr}, TM w t → TM w' t
  | .nil, _ => trivial
  | .node b p v hh x y, ⟨h0, hx, hy⟩ => ⟨by unfold Blk at *; rw [h]; exact h0, TM.heap h hx, TM.heap h hy⟩

/-- A trie in memory. -/
structure TrieM (w : World) (tr : Nat) (t : Tr) (many : Int) : Prop where
  blk : Blk w tr 57 #[t.ptr, .int .i64 many, .bool true]
  tm : TM w t
  wf : t.Wf
  nd : t.bs.Nodup
  out : tr ∉ t.bs
theorem TrieM.only {w w' : World} {tr : Nat} {t : Tr} {many : Int} {bs : List Nat} (h : TrieM w tr t many) (k : Only bs w w') (h1 : tr ∉ bs) (h2 : ∀ b ∈ t.bs, b ∉ bs) : TrieM w' tr t many :=
  ⟨h.blk.only k h1, h.tm.only k h2, h.wf, h.nd, h.out⟩
theorem TrieM.keep {w w' : World} {tr : Nat} {t : Tr} {many : Int} (h : TrieM w tr t many) (k : Kp w w') : TrieM w' tr t many := ⟨h.blk.keep k, h.tm.keep k, h.wf, h.nd, h.out⟩
theorem TrieM.heap {w w' : World} {tr : Nat} {t : Tr} {many : Int} (h : TrieM w tr t many) (k : w'.heap = w.heap) : TrieM w' tr t many := ⟨by have := h.blk; unfold Blk at *; rw [k]; exact this, h.tm.heap k, h.wf, h.nd, h.out⟩

theorem hang_bs {q : Pn} {v : Int} {b1 b2 : Nat} {s : Tr} (hn : s.bs.Nodup) (h1 : b1 ∉ s.bs) (h2 : b2 ∉ s.bs) (h12 : b1 ≠ b2) : (hangT q v b1 b2 s).bs.Nodup ∧ ∀ b ∈ (hangT q v b1 b2 s).bs, b = b1 ∨ b = b2 ∨ b ∈ s.bs := by
  cases s with
  | nil => simp [hangT, Tr.bs]
  | node b p u h x y =>
    simp only [hangT]
    split
    · exact ⟨hn, fun c hc => .inr (.inr hc)⟩
    · generalize hs : Tr.node b p u h x y = s at *
      split
      · split
        · simp only [Tr.bs, List.cons_append, List.nodup_cons, List.append_nil, List.nil_append, List.mem_cons]
          exact ⟨⟨h1, hn⟩, fun c hc => by rcases hc with hc | hc; exact .inl hc; exact .inr (.inr hc)⟩
        · simp only [Tr.bs, List.cons_append, List.nodup_cons, List.append_nil, List.nil_append, List.mem_cons]
          exact ⟨⟨h1, hn⟩, fun c hc => by rcases hc with hc | hc; exact .inl hc; exact .inr (.inr hc)⟩
      · split
        · simp only [Tr.bs, List.cons_append, List.nodup_cons, List.append_nil, List.nil_append, List.mem_cons]
          refine ⟨⟨?_, h1, hn⟩, fun c hc => ?_⟩
          · rintro (e | e); exact h12 e.symm; exact h2 e
          · rcases hc with hc | hc | hc; exact .inr (.inl hc); exact .inl hc; exact .inr (.inr hc)
        · simp only [Tr.bs, List.cons_append, List.nodup_cons, List.append_nil, List.nil_append, List.mem_cons, List.mem_append, List.nodup_append]
          refine ⟨⟨?_, hn, by simp, ?_⟩, fun c hc => ?_⟩
          · rintro (e | e | e)
            · exact h2 e
            · exact h12 e.symm
            · cases e
          · rintro c hc d hd rfl
            simp at hd
            subst hd; exact h1 hc
          · rcases hc with hc | hc | hc | hc
            · exact .inr (.inl hc)
            · exact .inr (.inr hc)
            · exact .inl hc
            · cases hc

/-- A prefix hung in a trie. -/
theorem hang_put {w w' : World} {tr : Nat} {q : Pn} {v : Int} {t : Tr} {many : Int} (h : TrieM w tr t many) (hq : q.ok) (hno : ∀ u, (q, u) ∉ t.rows) (hp : HangPost w (Tr.place q (tr, 0) t).1 (Tr.place q (tr, 0) t).2 q v (t.look q) w') :
    ∃ t', TrieM w' tr t' many ∧ Only (tr :: t.bs) w w' ∧ (∀ b ∈ t'.bs, b ∈ t.bs ∨ w.heap.size ≤ b) ∧ ∀ r : Pn × Int, r ∈ t'.rows ↔ r = (q, v) ∨ r ∈ t.rows := by
  obtain ⟨b1, b2, W, hb1, hb2, h12, hO, hT, e1, e2, e3, e4⟩ := hp
  obtain ⟨n1, n2, n3⟩ := beside_nd (q := q) h.nd
  have lt := h.tm.lt
  have hs := hang_bs (q := q) (v := v) (b1 := b1) (b2 := b2) n2 (fun hc => by have := lt _ (look_sub hc); omega) (fun hc => by have := lt _ (look_sub hc); omega) h12
  have hb : TMb W q t := (TMb.of h.tm).only hO n3
  have hpl : (Tr.place q (tr, 0) t).1 = tr ∨ (Tr.place q (tr, 0) t).1 ∈ Tr.beside q t := by
    rcases place_in q t (tr, 0) with e | e
    · left; rw [e]
    · exact .inr e
  have htl := h.blk.lt
  have hplt : (Tr.place q (tr, 0) t).1 < w.heap.size := by
    rcases hpl with e | e
    · rw [e]; exact htl
    · exact lt _ (beside_sub e)
  have hnp : (Tr.place q (tr, 0) t).1 ∉ (t.look q).bs := by
    rcases hpl with e | e
    · rw [e]; exact fun hc => h.out (look_sub hc)
    · exact n3 _ e
  have hps : (Tr.place q (tr, 0) t).1 ∉ (hangT q v b1 b2 (t.look q)).bs := fun hc => by
    rcases hs.2 _ hc with e | e | e
    · omega
    · omega
    · exact hnp e
  obtain ⟨m1, m2⟩ := put_TMb (A := (tr, 0)) hb h.out h.nd hT hps
  have hB : Blk W tr 57 #[t.ptr, .int .i64 many, .bool true] := h.blk.only hO (fun hc => h.out (look_sub hc))
  have perm := beside_put q (hangT q v b1 b2 (t.look q)) t
  have hsub : ∀ b ∈ (insT q v b1 b2 t).bs, b ∈ t.bs ∨ w.heap.size ≤ b := fun b hb => by
    rcases List.mem_append.1 (perm.mem_iff.1 hb) with hc | hc
    · exact .inl (beside_sub hc)
    · rcases hs.2 _ hc with e | e | e
      · right; omega
      · right; omega
      · exact .inl (look_sub e)
  obtain ⟨iw, ir⟩ := ins_all hq (v := v) (b1 := b1) (b2 := b2) h.wf hno
  refine ⟨insT q v b1 b2 t, ⟨?_, m1.heap e1, iw, ?_, ?_⟩, ?_, hsub, ir⟩
  · have : Blk (W.setCell ⟨(Tr.place q (tr, 0) t).1, (Tr.place q (tr, 0) t).2, none⟩ (hangT q v b1 b2 (t.look q)).ptr) tr 57 #[(insT q v b1 b2 t).ptr, .int .i64 many, .bool true] := by
      rcases m2 with ⟨ea, eb⟩ | ⟨ea, eb⟩
      · have ec : (insT q v b1 b2 t).ptr = (hangT q v b1 b2 (t.look q)).ptr := by unfold insT; rw [eb]
        rw [ec, ea]
        exact hB.set_ 0 _
      · have ec : (insT q v b1 b2 t).ptr = t.ptr := eb
        rw [ec]
        exact hB.far (fun e' => by simp only at e'; rw [← e'] at ea; exact h.out (beside_sub ea)) _
    unfold Blk at *
    rw [e1]; exact this
  · refine perm.nodup_iff.2 (List.nodup_append.2 ⟨n1, hs.1, fun a ha b hb e => ?_⟩)
    subst e
    rcases hs.2 _ hb with e | e | e
    · have := lt _ (beside_sub ha); omega
    · have := lt _ (beside_sub ha); omega
    · exact n3 _ ha e
  · intro hc
    rcases hsub _ hc with e | e
    · exact h.out e
    · omega
  · have hO' : Only (tr :: t.bs) w (W.setCell ⟨(Tr.place q (tr, 0) t).1, (Tr.place q (tr, 0) t).2, none⟩ (hangT q v b1 b2 (t.look q)).ptr) := by
      have hO2 : Only (tr :: t.bs) w W := ⟨hO.os, hO.tape, hO.output, hO.size, fun k hk hn => hO.block k hk (fun hc => hn (List.mem_cons.2 (.inr (look_sub hc))))⟩
      refine hO2.setCell (.inl ?_) _
      rcases hpl with e | e
      · simp [e]
      · exact List.mem_cons.2 (.inr (beside_sub e))
    exact ⟨by rw [e2, hO.os], by rw [e3, hO.tape], by rw [e4, hO.output], by rw [e1]; exact hO'.size, fun k hk hn => by rw [e1]; exact hO'.block k hk hn⟩

/-- A node's value, or whether it has one, turned where it lies. -/
theorem set_put {w w' : World} {tr b : Nat} {q : Pn} {u v : Int} {h : Bool} {x y t : Tr} {many : Int} (H : TrieM w tr t many) (hq : q.ok) (hl : t.look q = .node b q u true x y) (hO : Only [b] w w')
    (hB : Blk w' b 87 #[.int .u32 q.a, .int .i64 q.l, .int .i64 v, .bool h, x.ptr, y.ptr]) :
    TrieM w' tr (setT q v h t) many ∧ Only t.bs w w' ∧ (∀ c ∈ (setT q v h t).bs, c ∈ t.bs) ∧ ∀ r : Pn × Int, r ∈ (setT q v h t).rows ↔ (h = true ∧ r = (q, v)) ∨ (r.1 ≠ q ∧ r ∈ t.rows) := by
  obtain ⟨n1, n2, n3⟩ := beside_nd (q := q) H.nd
  have hbl : b ∈ (t.look q).bs := by rw [hl]; simp [Tr.bs]
  have hm := look_TM (q := q) H.tm
  rw [hl] at hm n2
  have hnd : b ∉ x.bs ∧ b ∉ y.bs := by
    simp only [Tr.bs, List.cons_append, List.nodup_cons, List.mem_append, not_or] at n2
    exact n2.1
  have e : setT q v h t = Tr.put q (.node b q v h x y) t := by simp [setT, hl]
  have hs : TM w' (.node b q v h x y) := ⟨hB, hm.2.1.only hO (fun c hc => by simp; intro e; subst e; exact hnd.1 hc), hm.2.2.only hO (fun c hc => by simp; intro e; subst e; exact hnd.2 hc)⟩
  have hb : TMb w' q t := (TMb.of H.tm).only hO (fun c hc => by simp; intro e; subst e; exact n3 _ hc hbl)
  have hp : (Tr.node b q v h x y).ptr = (t.look q).ptr := by rw [hl]; rfl
  have perm := beside_put q (.node b q v h x y) t
  have hbs : (Tr.node b q v h x y).bs = (t.look q).bs := by rw [hl]; rfl
  rw [hbs] at perm
  have perm2 := perm.trans (beside_look q t).symm
  obtain ⟨sw, sr⟩ := set_all hq (v := v) (h := h) H.wf ((look_mem hq H.wf u).2 ⟨b, x, y, hl⟩)
  refine ⟨⟨?_, ?_, sw, ?_, ?_⟩, ?_, ?_, sr⟩
  · rw [e, put_ptr hp]
    exact H.blk.only hO (by simp; intro e'; subst e'; exact H.out (look_sub hbl))
  · rw [e]; exact put_same hb hs hp
  · rw [e]; exact perm2.nodup_iff.2 H.nd
  · rw [e]; exact fun hc => H.out (perm2.mem_iff.1 hc)
  · exact ⟨hO.os, hO.tape, hO.output, hO.size, fun k hk hn => hO.block k hk (by simp; intro e'; subst e'; exact hn (look_sub hbl))⟩
  · rw [e]; exact fun c hc => perm2.mem_iff.1 hc
end Go.Proofs.YtfaiponmjjbgoaaDoor
