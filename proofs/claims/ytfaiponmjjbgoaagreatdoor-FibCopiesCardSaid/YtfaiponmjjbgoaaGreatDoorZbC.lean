/- Lemmas and contracts for the theorem of this claim: TrL, Round2, Coll, TrT, TrU, TrA, FibLaw, Appl, FbA, FbB, FbC, FbD. -/
import Derived.Test.YtfaiponmjjbgoaaGreatDoorZbB
import Derived.RegionTactic
import Derived.Laws.AppendOwnNone
import Derived.Deep.RegionLaw
set_option linter.unusedSimpArgs false
set_option linter.unusedVariables false
/- Tidying a tree in memory, place by place from the last one on; and a node's kept. -/
namespace Go.Proofs.YtfaiponmjjbgoaaGreatDoor
open Go.RowKit

theorem kept_bs (t : Tr) : (keptT t).bs.Sublist t.bs := by
  cases t with
  | nil => exact List.Sublist.refl _
  | node b p v h x y =>
    cases h
    · cases x with
      | nil => simp only [keptT, Tr.bs, List.cons_append, List.nil_append]; exact List.sublist_cons_self _ _
      | node b1 p1 v1 h1 x1 y1 =>
        cases y with
        | nil => simp only [keptT]; simp only [Tr.bs, List.append_nil]; exact List.sublist_cons_self _ _
        | node b2 p2 v2 h2 x2 y2 => exact List.Sublist.refl _
    · exact List.Sublist.refl _
theorem kept_TM {w : World} {t : Tr} (h : TM w t) : TM w (keptT t) := by
  cases t with
  | nil => exact h
  | node b p v hh x y =>
    cases hh
    · cases x with
      | nil => exact h.2.2
      | node b1 p1 v1 h1 x1 y1 =>
        cases y with
        | nil => exact h.2.1
        | node b2 p2 v2 h2 x2 y2 => exact h
    · exact h
theorem tidy_bs (q : Pn) : ∀ t : Tr, (tidyT q t).bs.Sublist t.bs
  | .nil => List.Sublist.refl _
  | .node b p v h x y => by
    unfold tidyT
    split
    · refine (kept_bs _).trans ?_
      split
      · exact List.Sublist.refl _
      · split
        · simp only [Tr.bs, List.cons_append]; exact ((tidy_bs q x).append_right _).cons_cons _
        · simp only [Tr.bs, List.cons_append]; exact ((List.Sublist.refl _).append (tidy_bs q y)).cons_cons _
    · exact List.Sublist.refl _

/-- The tree whose way is tidied from its k-th place on. -/
def tidyK (q : Pn) : Nat → Tr → Tr
  | 0, t => tidyT q t
  | _ + 1, .nil => .nil
  | k + 1, .node b p v h x y => if p.holds q then (if p.l = q.l then .node b p v h x y else if bitN q.a p.l = 0 then .node b p v h (tidyK q k x) y else .node b p v h x (tidyK q k y)) else .node b p v h x y
theorem tidyK_bs (q : Pn) : ∀ (k : Nat) (t : Tr), (tidyK q k t).bs.Sublist t.bs
  | 0, t => tidy_bs q t
  | _ + 1, .nil => List.Sublist.refl _
  | k + 1, .node b p v h x y => by
    unfold tidyK
    split
    · split
      · exact List.Sublist.refl _
      · split
        · simp only [Tr.bs, List.cons_append]; exact ((tidyK_bs q k x).append_right _).cons_cons _
        · simp only [Tr.bs, List.cons_append]; exact ((List.Sublist.refl _).append (tidyK_bs q k y)).cons_cons _
    · exact List.Sublist.refl _
theorem tidyK_end (q : Pn) : ∀ (k : Nat) (t : Tr) (A : Nat × Nat), (Tr.way q A t).length ≤ k → tidyK q k t = t
  | 0, .nil, A, h => rfl
  | 0, .node b p v hh x y, A, h => by
    by_cases h1 : p.holds q
    · simp [Tr.way, h1] at h
    · simp [tidyK, tidyT, h1]
  | k + 1, .nil, A, h => rfl
  | k + 1, .node b p v hh x y, A, h => by
    unfold tidyK
    by_cases h1 : p.holds q
    · by_cases h2 : p.l = q.l
      · simp [h1, h2]
      · by_cases h3 : bitN q.a p.l = 0
        · simp only [Tr.way, h1, h2, h3, if_true, if_false, List.length_cons] at h ⊢
          rw [tidyK_end q k x (b, 4) (by omega)]
        · simp only [Tr.way, h1, h2, h3, if_true, if_false, List.length_cons] at h ⊢
          rw [tidyK_end q k y (b, 5) (by omega)]
    · simp [h1]

/-- What a step finds at its place, and what its store leaves. -/
structure Step (w : World) (q : Pn) (k : Nat) (t : Tr) (A B : Nat × Nat) (s : Tr) : Prop where
  node : ∃ b p v h x y, s = .node b p v h x y
  cell : ∃ ty cs, Blk w B.1 ty cs ∧ cs[B.2]? = some s.ptr
  tm : TM w s
  out : B.1 ∉ s.bs
  inn : B = A ∨ B.1 ∈ t.bs
  after : TM (w.setCell ⟨B.1, B.2, none⟩ (keptT s).ptr) (tidyK q k t)
  top : (B = A ∧ tidyK q k t = keptT s) ∨ (B.1 ∈ t.bs ∧ (tidyK q k t).ptr = (tidyK q (k + 1) t).ptr)

theorem tidy_step {w : World} {q : Pn} : ∀ {k : Nat} {t : Tr} {A B : Nat × Nat}, TM w (tidyK q (k + 1) t) → (∃ ty cs, Blk w A.1 ty cs ∧ cs[A.2]? = some (tidyK q (k + 1) t).ptr) → A.1 ∉ t.bs → t.bs.Nodup → (Tr.way q A t)[k]? = some B → ∃ s, Step w q k t A B s
  | k, .nil, A, B, _, _, _, _, hB => by simp [Tr.way] at hB
  | 0, .node b p v h x y, A, B, hM, hA, ho, hn, hB => by
    by_cases h1 : p.holds q
    · simp only [Tr.way, h1, if_true, List.getElem?_cons_zero, Option.some.injEq] at hB
      subst hB
      have e : keptT (tidyK q 1 (.node b p v h x y)) = tidyK q 0 (.node b p v h x y) := by
        show _ = tidyT q (.node b p v h x y)
        conv => rhs; unfold tidyT
        conv => lhs; unfold tidyK
        simp only [h1, if_true]
        rfl
      have hsub := (tidyK_bs q 1 (.node b p v h x y)).subset
      refine ⟨tidyK q 1 (.node b p v h x y), ?_, hA, hM, fun hc => ho (hsub hc), .inl rfl, ?_, .inl ⟨rfl, e.symm⟩⟩
      · unfold tidyK
        simp only [h1, if_true]
        split
        · exact ⟨_, _, _, _, _, _, rfl⟩
        · split
          · exact ⟨_, _, _, _, _, _, rfl⟩
          · exact ⟨_, _, _, _, _, _, rfl⟩
      · rw [← e]
        exact (kept_TM hM).only (bs := [A.1]) ((Only.refl _ _).setCell (.inl (by simp)) _) (fun c hc => by simp; intro e'; subst e'; exact ho (hsub ((kept_bs _).subset hc)))
    · simp [Tr.way, h1] at hB
  | k + 1, .node b p v h x y, A, B, hM, hA, ho, hn, hB => by
    have hb : b ∉ x.bs ∧ b ∉ y.bs ∧ x.bs.Nodup ∧ y.bs.Nodup ∧ ∀ c ∈ x.bs, c ∉ y.bs := by
      simp only [Tr.bs, List.cons_append, List.nodup_cons, List.mem_append, not_or, List.nodup_append] at hn
      refine ⟨hn.1.1, hn.1.2, hn.2.1, hn.2.2.1, fun c hc hc' => hn.2.2.2 c hc c hc' rfl⟩
    by_cases h1 : p.holds q
    · by_cases h2 : p.l = q.l
      · simp [Tr.way, h1, h2] at hB
      · by_cases h3 : bitN q.a p.l = 0
        · simp only [Tr.way, h1, h2, h3, if_true, if_false, List.getElem?_cons_succ] at hB
          have e2 : tidyK q (k + 1 + 1) (.node b p v h x y) = .node b p v h (tidyK q (k + 1) x) y := by simp [tidyK, h1, h2, h3]
          have e1 : tidyK q (k + 1) (.node b p v h x y) = .node b p v h (tidyK q k x) y := by simp [tidyK, h1, h2, h3]
          rw [e2] at hM
          obtain ⟨h0, hx, hy⟩ := hM
          obtain ⟨s, S⟩ := tidy_step (A := (b, 4)) hx ⟨_, _, h0, rfl⟩ hb.1 hb.2.2.1 hB
          have hin : B.1 = b ∨ B.1 ∈ x.bs := by
            rcases S.inn with e | e
            · left; rw [e]
            · exact .inr e
          refine ⟨s, S.node, S.cell, S.tm, S.out, .inr ?_, ?_, .inr ⟨?_, by rw [e1, e2]; rfl⟩⟩
          · rcases hin with e | e <;> simp [Tr.bs, e]
          · rw [e1]
            refine ⟨?_, S.after, hy.only (bs := [B.1]) ((Only.refl _ _).setCell (.inl (by simp)) _) (fun c hc => ?_)⟩
            · rcases S.top with ⟨ea, eb⟩ | ⟨ea, eb⟩
              · rw [ea, eb]; exact h0.set_ 4 _
              · rw [eb]; exact h0.far (by simp only; intro e'; rw [← e'] at ea; exact hb.1 ea) _
            · simp only [List.mem_singleton]
              intro e'; subst e'
              rcases hin with e | e
              · rw [e] at hc; exact hb.2.1 hc
              · exact hb.2.2.2.2 _ e hc
          · rcases hin with e | e <;> simp [Tr.bs, e]
        · simp only [Tr.way, h1, h2, h3, if_true, if_false, List.getElem?_cons_succ] at hB
          have e2 : tidyK q (k + 1 + 1) (.node b p v h x y) = .node b p v h x (tidyK q (k + 1) y) := by simp [tidyK, h1, h2, h3]
          have e1 : tidyK q (k + 1) (.node b p v h x y) = .node b p v h x (tidyK q k y) := by simp [tidyK, h1, h2, h3]
          rw [e2] at hM
          obtain ⟨h0, hx, hy⟩ := hM
          obtain ⟨s, S⟩ := tidy_step (A := (b, 5)) hy ⟨_, _, h0, rfl⟩ hb.2.1 hb.2.2.2.1 hB
          have hin : B.1 = b ∨ B.1 ∈ y.bs := by
            rcases S.inn with e | e
            · left; rw [e]
            · exact .inr e
          refine ⟨s, S.node, S.cell, S.tm, S.out, .inr ?_, ?_, .inr ⟨?_, by rw [e1, e2]; rfl⟩⟩
          · rcases hin with e | e <;> simp [Tr.bs, e]
          · rw [e1]
            refine ⟨?_, hx.only (bs := [B.1]) ((Only.refl _ _).setCell (.inl (by simp)) _) (fun c hc => ?_), S.after⟩
            · rcases S.top with ⟨ea, eb⟩ | ⟨ea, eb⟩
              · rw [ea, eb]; exact h0.set_ 5 _
              · rw [eb]; exact h0.far (by simp only; intro e'; rw [← e'] at ea; exact hb.2.1 ea) _
            · simp only [List.mem_singleton]
              intro e'; subst e'
              rcases hin with e | e
              · rw [e] at hc; exact hb.1 hc
              · exact hb.2.2.2.2 _ hc e
          · rcases hin with e | e <;> simp [Tr.bs, e]
    · simp [Tr.way, h1] at hB

theorem kept_ptr {b : Nat} {p : Pn} {v : Int} {h : Bool} {x y : Tr} : (keptT (.node b p v h x y)).ptr = if h then .pointer (some ⟨b, 0, none⟩) else match x, y with
    | .nil, y => y.ptr
    | x, .nil => x.ptr
    | _, _ => .pointer (some ⟨b, 0, none⟩) := by
  cases h <;> cases x <;> cases y <;> rfl

set_option maxRecDepth 100000 in
set_option maxHeartbeats 1000000 in
theorem kept_any (b : Nat) (p : Pn) (v : Int) (h : Bool) (x y : Tr) (w : World) (hB : Blk w b 106 #[.int .u32 p.a, .int .i64 p.l, .int .i64 v, .bool h, x.ptr, y.ptr]) :
    Calls Tryz.prog 112 #[.pointer (some ⟨b, 0, none⟩)] w fun e w' => e = .returned (keptT (.node b p v h x y)).ptr ∧ w = w' := by
  have h1 := ptr_is_nil
  have h2 := ptr_not_nil
  have n3 : w.cell? ⟨b, 3, none⟩ = some (.bool h) := hB.cell 3
  have n4 : w.cell? ⟨b, 4, none⟩ = some x.ptr := hB.cell 4
  have n5 : w.cell? ⟨b, 5, none⟩ = some y.ptr := hB.cell 5
  clear hB
  cases h
  · cases x with
    | nil =>
      have n4' : w.cell? ⟨b, 4, none⟩ = some (.pointer none) := n4
      clear n4
      go_enter Tryz.func112, Tryz.ntmps112
      go_wp2_with fail
      go_ret
      exact ⟨rfl, rfl⟩
    | node b1 p1 v1 g1 x1 y1 =>
      have n4' : w.cell? ⟨b, 4, none⟩ = some (.pointer (some ⟨b1, 0, none⟩)) := n4
      clear n4
      cases y with
      | nil =>
        have n5' : w.cell? ⟨b, 5, none⟩ = some (.pointer none) := n5
        clear n5
        go_enter Tryz.func112, Tryz.ntmps112
        go_wp2_with fail
        go_ret
        exact ⟨rfl, rfl⟩
      | node b2 p2 v2 g2 x2 y2 =>
        have n5' : w.cell? ⟨b, 5, none⟩ = some (.pointer (some ⟨b2, 0, none⟩)) := n5
        clear n5
        go_enter Tryz.func112, Tryz.ntmps112
        go_wp2_with fail
        go_ret
        exact ⟨rfl, rfl⟩
  · go_enter Tryz.func112, Tryz.ntmps112
    go_wp2_with fail
    go_ret
    exact ⟨rfl, rfl⟩
end Go.Proofs.YtfaiponmjjbgoaaGreatDoor

/- Plain regions inside a round of a range over a function: walked as plain ones. No condition. -/
namespace Go.Proofs.YtfaiponmjjbgoaaGreatDoor
open Go.RowKit

theorem wpListIn_of_wpList {l : Nat} {P : Program} {ops : Array Oper} {Q : Exit → Act → World → Prop} (hQ : ¬ LetsOut Q) : ∀ (rest : List Oper) (a : Act) (w : World), rest.all (fun o => match o.op with | .defer _ => false | _ => true) = true →
    wpList P ops Q rest a w → wpListIn (Fence.wide.inRound l) 0 P ops Q rest a w
  | [], _, _, _, h => h
  | o :: rest, a, w, hnd, h => by
    have hnd' := List.all_eq_true.1 hnd
    have hr : rest.all (fun o => match o.op with | .defer _ => false | _ => true) = true := List.all_eq_true.2 (fun x hx => hnd' x (List.mem_cons_of_mem _ hx))
    have ho : ∀ c, o.op ≠ .defer c := fun c hc => by
      have := hnd' o (by simp)
      rw [hc] at this; cases this
    unfold wpList at h
    unfold wpListIn
    split
    · rename_i hw
      rw [if_pos hw] at h
      rcases h with h | h
      · refine ⟨fun _ _ => trivial, ?_⟩
        rw [Oper.semAt_eq _ _ _ ho]
        unfold Oper.wp at h
        generalize (execOp a.eval o).run P w = r at h
        unfold Oper.upon at h
        unfold Oper.uponIn
        split at h
        · exact wpListIn_of_wpList hQ rest _ _ hr h
        · exact wpListIn_of_wpList hQ rest _ _ hr h
        · exact wpListIn_of_wpList hQ rest _ _ hr h
        · refine ⟨(fun h => by cases h), CallsIn.inRound l (callsIn_wide.2 (h.mono fun e w'' hh => ?_))⟩
          cases e with
          | returned v => exact wpListIn_of_wpList hQ rest _ _ hr hh
          | panicked ch => exact hh
          | outgrown => exact hh
        · refine ⟨(fun h => by cases h), fun c cs _ => ?_⟩
          obtain ⟨v, w', r, s⟩ := h c cs
          exact ⟨v, w', wpListIn_of_wpList hQ rest _ _ hr r, stepsIn_wide.2 s⟩
        · exact h
        · exact h.elim
      · exact absurd h.2 hQ
    · rename_i hw
      rw [if_neg hw] at h
      exact ⟨fun _ _ => trivial, wpListIn_of_wpList hQ rest _ _ hr h⟩

/-- A region in a round, walked as a plain one. -/
theorem round_list {r id : Nat} {P : Program} {Q : Exit → Act → World → Prop} {a : Act} {w : World} {l : List Oper} (hnd : l.all (fun o => match o.op with | .defer _ => false | _ => true) = true) (hQ : ¬ LetsOut Q)
    (h : wpList P l.toArray Q l a w) : (Code.region id l.toArray false).wpIn (Fence.wide.inRound r) 0 P Q a w :=
  wpIn_region_lit (wpListIn_of_wpList hQ l a w hnd h)
end Go.Proofs.YtfaiponmjjbgoaaGreatDoor

/- slices.Collect of places, and slices.Backward over them. -/
namespace Go.Proofs.YtfaiponmjjbgoaaGreatDoor
open Go.RowKit
attribute [local go_sem] Oper.semAt_some

def ptE (A : Nat × Nat) : List Value := [.pointer (some ⟨A.1, A.2, none⟩)]
theorem ptE_len (A : Nat × Nat) : (ptE A).length = 1 := rfl
theorem EPt : ElemOf Tryz.prog 181 130 (.pointer none) 1 8 := ⟨Tryz.underlying181, by kernel_rfl, rfl, by decide⟩

theorem Own.newA {α : Type} {w : World} {base e sz n c : Nat} {enc : α → List Value} {A : Option Addr} {xs : List α} (h : Own w base e sz enc (.slice A n c) xs) : ∀ a, A = some a → base ≤ a.block := by
  rintro a rfl
  rcases h.2 with ⟨h2, _⟩ | ⟨g, cap, cur, hv, hg, _⟩
  · cases h2
  · injection hv with h1; injection h1 with h1; rw [h1]; exact hg
theorem Rd.only {α : Type} {w w' : World} {sz : Nat} {enc : α → List Value} {A : Option Addr} {xs : List α} {bs : List Nat} (h : Rd w sz enc A xs) (k : Only bs w w') (hA : ∀ a, A = some a → a.block ∉ bs) : Rd w' sz enc A xs := fun i hi => by
  obtain ⟨b, off, e, hc⟩ := h i hi
  exact ⟨b, off, e, fun j u hu => k.cell (hc j u hu) (show b ∉ bs from hA ⟨b, off, none⟩ e)⟩

def CollI (w : World) (ps : List (Nat × Nat)) (k : Nat) (W : World) : Prop :=
  ∃ v, Blk W w.heap.size 181 #[v] ∧ Own W (w.heap.size + 1 + 1 + 1) 130 1 ptE v (ps.take k) ∧ Kp w W
def CollPost (w : World) (ps : List (Nat × Nat)) (e : Ending) (w' : World) : Prop := ∃ A c, e = .returned (.slice A ps.length c) ∧ Rd w' 1 ptE A ps ∧ Kp w w' ∧ ∀ a, A = some a → w.heap.size ≤ a.block

set_option maxRecDepth 100000 in
set_option maxHeartbeats 1000000 in
theorem appendSeq_any {gf : FuncId} {caps : Array Value} {M : World → Prop} (ps : List (Nat × Nat)) (hn : ps.length ≤ 1000000) (eg : ∀ args w, (callFunc gf args).run Tryz.prog w = .ok (.enter gf args) w)
    (hit : Iter Tryz.prog gf caps ps.length (fun k => #[.pointer (some ⟨(ps.getD k (0, 0)).1, (ps.getD k (0, 0)).2, none⟩)]) M) (w : World) (hM : ∀ W, Kp w W → M W) :
    Calls Tryz.prog 134 #[.slice none 0 0, .func (.func gf) #[] caps] w (CollPost w ps) := by
  have HM := Lib.hid hM; clear hM
  have Hit := Lib.hid hit; clear hit
  have Heg := Lib.hid eg; clear eg
  refine calls_of_wp_marks Tryz.func134 rfl ?_; simp only [Tryz.ntmps134, List.size_toArray, List.length_cons, List.length_nil, Nat.reduceAdd, Nat.reduceSub, Array.replicate_succ, Array.replicate_zero, List.push_toArray, List.append_toArray, List.nil_append, List.cons_append]
  go_wp2_with fail
  refine wp_range (N := ps.length) rfl Heg.out Hit.out (fun _ _ => rfl) (CollI w ps) (fun _ _ _ => False) ?_ (fun _ _ _ _ h => h.elim) (fun _ _ h => HM.out _ (by obtain ⟨v, _, _, k⟩ := h; exact k)) ?_ ?_ ?_ (fun _ _ _ _ _ h => h.elim)
  · rintro k W W' ⟨v, h1, h2, h3⟩ hO
    simp only [World.size_alloc] at hO
    exact ⟨v, h1.only hO (by simp <;> omega), h2.only hO (by simp <;> omega), hO.kp h3 (by simp <;> omega)⟩
  · exact ⟨_, Blk.new w _ _, by rw [List.take_zero]; exact Own.nil _ _ _ _ _, (Kp.refl _).alloc _⟩
  · intro l k W hk _
    have hget0 : ps.getD k (0, 0) = ps[k] := by simp [List.getD, hk]
    rw [hget0]
    clear hget0
    gi_wp2_with fail
    refine ⟨trivial, ?_⟩
    rintro W2 ⟨v, h1, h2, h3⟩ hsz
    simp only [World.size_alloc] at hsz
    have x0 : W2.cell? ⟨w.heap.size, 0, none⟩ = some v := h1.cell 0
    have z0 := h1.frozen 0
    have hget : ps.getD k (0, 0) = ps[k] := by simp [List.getD, hk]
    have hlen : (ps.take k).length = k := by simp; omega
    have Htk := Lib.hid (show ps.take k ++ [ps[k]] = ps.take (k + 1) by simp)
    have Hlen := Lib.hid hlen; clear hlen
    clear hget
    refine wpIn_block ?_
    refine round_list (by kernel_rfl) (no_out_block no_out_round) ?_
    go_wp2_with (at_builtin; go_must (refine wpList_appx EPt rfl _ _ rfl ps[k] rfl h2 h3 (by omega) (by omega) rfl rfl rfl rfl rfl (by rw [Hlen.out]; omega) ?_); intro v' w2 hown' hK' hg; obtain ⟨A2, c2, rfl⟩ := hown'.form1; have B2 := h1.grown hg (h2.ne (by omega)); have cc2 : w2.cell? ⟨w.heap.size, 0, none⟩ = some v := B2.cell 0; have zz := B2.frozen 0)
    have e1 : w2.heap[w.heap.size + 1]? = W2.heap[w.heap.size + 1]? := hg.block _ (by omega) (h2.ne (by omega))
    have e2 : w2.heap[w.heap.size + 1 + 1]? = W2.heap[w.heap.size + 1 + 1]? := hg.block _ (by omega) (h2.ne (by omega))
    refine ⟨⟨?_, ?_⟩, _, B2.set_ 0 _, ?_, hK'.setCell (by simp) _⟩
    · simp only [World.size_alloc]; exact (Below.heap_setCell _ _ _ _ (by simp)).trans e1
    · simp only [World.size_alloc]; exact (Below.heap_setCell _ _ _ _ (by simp <;> omega)).trans e2
    · rw [← Htk.out]; rw [List.length_take] at hown'; exact Own.setBelow (p := ⟨w.heap.size, 0, none⟩) hown' (show w.heap.size < w.heap.size + 1 + 1 + 1 by omega) _
  · rintro W ⟨v, h1, h2, h3⟩ hd
    rw [List.take_length] at h2
    simp only [World.size_alloc] at hd
    have x0 : W.cell? ⟨w.heap.size, 0, none⟩ = some v := h1.cell 0
    obtain ⟨A, c, rfl, hR⟩ := h2.rd (by decide) ptE_len
    go_wp2_with fail
    simp only [World.size_alloc]
    refine takes_one hd (fun W' hO => ?_)
    refine ⟨.slice A ps.length c, ?_, A, c, rfl, fun i hi => ?_, hO.kp h3 (by simp), fun a ha => by have := h2.newA a ha; omega⟩
    · simp [results, Tryz.results134, go_sem]
    · have hR' := (h2.only hO (by simp <;> omega)).rd (by decide) ptE_len
      obtain ⟨A', c', e, hR'⟩ := hR'
      injection e with e1
      subst e1
      exact hR' i hi

set_option maxHeartbeats 400000 in
theorem collect_any {gf : FuncId} {caps : Array Value} {M : World → Prop} (ps : List (Nat × Nat)) (hn : ps.length ≤ 1000000) (eg : ∀ args w, (callFunc gf args).run Tryz.prog w = .ok (.enter gf args) w)
    (hit : Iter Tryz.prog gf caps ps.length (fun k => #[.pointer (some ⟨(ps.getD k (0, 0)).1, (ps.getD k (0, 0)).2, none⟩)]) M) (w : World) (hM : ∀ W, Kp w W → M W) :
    Calls Tryz.prog 110 #[.func (.func gf) #[] caps] w (CollPost w ps) := by
  have HM := Lib.hid hM; clear hM
  have Hit := Lib.hid hit; clear hit
  have Heg := Lib.hid eg; clear eg
  go_enter Tryz.func110, Tryz.ntmps110
  go_wp2_with fail
  refine (appendSeq_any ps hn Heg.out Hit.out w HM.out).mono ?_
  rintro e w' ⟨A, c, rfl, hR, hK, hA⟩
  have HA := Lib.hid hA; clear hA
  go_wp2_with fail
  go_ret
  exact ⟨A, c, rfl, hR, hK, HA.out⟩

set_option maxHeartbeats 400000 in
theorem backward_any (A : Option Addr) (n c : Nat) (w : World) :
    Calls Tryz.prog 111 #[.slice A n c] w fun e w' => e = .returned (.func (.func 135) #[] #[.pointer (some ⟨w.heap.size, 0, none⟩)]) ∧ Blk w' w.heap.size 181 #[.slice A n c] ∧ Kp w w' := by
  have hmf := makeFunc_run
  go_enter Tryz.func111, Tryz.ntmps111
  go_wp2_with fail
  go_ret
  exact ⟨rfl, Blk.new w _ _, (Kp.refl _).alloc _⟩
theorem call_back1 (args : Array Value) (w : World) : (callFunc 135 args).run Tryz.prog w = .ok (.enter 135 args) w := by kernel_rfl

/-- What Backward's iterator reads. -/
structure BackMem (bx : Nat) (A : Option Addr) (c : Nat) (ps : List (Nat × Nat)) (W : World) : Prop where
  bx : Blk W bx 181 #[.slice A ps.length c]
  rd : Rd W 1 ptE A ps

set_option maxRecDepth 100000 in
set_option maxHeartbeats 1000000 in
theorem back1_iter (bx : Nat) (A : Option Addr) (c : Nat) (ps : List (Nat × Nat)) (hn : ps.length ≤ 1000000) :
    Iter Tryz.prog 135 #[.pointer (some ⟨bx, 0, none⟩)] ps.length
      (fun k => #[.int .i64 ((ps.length : Int) - 1 - k), .pointer (some ⟨(ps.getD (ps.length - 1 - k) (0, 0)).1, (ps.getD (ps.length - 1 - k) (0, 0)).2, none⟩)]) (BackMem bx A c ps) := by
  intro l I Z W hI hZ hM hy h0
  have HI := Lib.hid hI; clear hI
  have HZ := Lib.hid hZ; clear hZ
  have HM := Lib.hid hM; clear hM
  have HY := Lib.hid hy; clear hy
  obtain ⟨N, hN⟩ : ∃ N, ps.length = N := ⟨_, rfl⟩
  have HN := Lib.hid hN
  rw [hN] at HY hn ⊢
  clear hN
  have D0 := HM.out 0 W h0
  have c0 : W.cell? ⟨bx, 0, none⟩ = some (.slice A N c) := by have := D0.bx.cell 0; rw [HN.out] at this; exact this
  have H0 := Lib.hid h0; clear h0
  clear D0
  go_enter Tryz.func135, Tryz.ntmps135
  go_wp2_with fail
  go_loopg [3] N (fun g i wr => ∃ k : Nat, k ≤ N ∧ g = N - k ∧ i = .int .i64 ((N : Int) - 1 - k) ∧ Hid (I k wr))
  case atStart => exact ⟨0, Nat.zero_le _, rfl, by simp, H0⟩
  case round =>
    obtain ⟨k, hk, hg, rfl, hi⟩ := hrel
    have D := HM.out k wr hi.out
    have cb : wr.cell? ⟨bx, 0, none⟩ = some (.slice A N c) := by have := D.bx.cell 0; rw [HN.out] at this; exact this
    by_cases hlt : k < N
    · obtain ⟨b, off, hA, hc⟩ := D.rd (N - 1 - k) (by rw [HN.out]; omega)
      subst hA
      have hc0 := hc 0 _ rfl
      have hget : ps.getD (N - 1 - k) (0, 0) = ps[N - 1 - k]'(by rw [HN.out]; omega) := by
        simp only [List.getD]; rw [List.getElem?_eq_getElem (by rw [HN.out]; omega)]; rfl
      rw [← hget] at hc0
      have hge : (0 : Int) ≤ (N : Int) - 1 - k := by omega
      have hl2 : (N : Int) - 1 - k < N := by omega
      have htn : ((N : Int) - 1 - k).toNat = N - 1 - k := by omega
      have cx : wr.cell? ⟨b, off + ((N : Int) - 1 - k).toNat, none⟩ = some (.pointer (some ⟨(ps.getD (N - 1 - k) (0, 0)).1, (ps.getD (N - 1 - k) (0, 0)).2, none⟩)) := by
        rw [htn]; simpa using hc0
      have cx2 : wr.cell? ⟨b, off + (N - 1 - k), none⟩ = some (.pointer (some ⟨(ps.getD (N - 1 - k) (0, 0)).1, (ps.getD (N - 1 - k) (0, 0)).2, none⟩)) := by
        simpa using hc0
      clear hc hc0 D
      have Hget := Lib.hid hget; clear hget
      have Htn := Lib.hid htn; clear htn
      obtain ⟨fn, tmps, asg, bd, hrun, hround⟩ := HY.out k wr hlt hi.out
      simp only [List.getD_eq_getElem?_getD] at hrun hround cx cx2
      have hd1 : decide ((k : Int) ≤ (N : Int) - 1) = true := by simp; omega
      go_upto_region 3 with (fail)
      refine (wpIn_wide (n := 0)).1 ?_
      gi_wp2_with fail
      refine ⟨rfl, hround.mono ?_⟩
      clear hrun hround
      rintro e W' (⟨rfl, hi2⟩ | ⟨rfl, hz⟩)
      · have Hi2 := Lib.hid hi2; clear hi2
        gi_wp2_with fail
        go_wp2_with fail
        go_roundg (N - (k + 1))
        case rel => exact ⟨k + 1, by omega, rfl, by go_num, Hi2⟩
        case measure => omega
      · have Hz := Lib.hid hz; clear hz
        gi_wp2_with fail
        go_wp2_with fail
        refine bodyPost_ret (v := .tuple #[]) (by simp [results, Tryz.results135, go_sem]) rfl ?_
        exact ⟨rfl, .inr ⟨k + 1, by omega, by omega, Hz.out⟩⟩
    · obtain rfl : k = N := by omega
      have hd : decide ((0 : Int) ≤ (k : Int) - 1 - k) = false := by simp; omega
      have hd2 : decide ((k : Int) ≤ (k : Int) - 1) = false := by simp; omega
      go_wp2_with fail
      go_end0
      exact ⟨rfl, .inl hi.out⟩
end Go.Proofs.YtfaiponmjjbgoaaGreatDoor

/- The trie's tidy and Take. -/
namespace Go.Proofs.YtfaiponmjjbgoaaGreatDoor
open Go.RowKit
attribute [local go_sem] Oper.semAt_some

theorem way_len (q : Pn) : ∀ {t : Tr} {A : Nat × Nat} {m : Nat}, t.Wf → (∀ r ∈ t.pfx, m ≤ r.l) → (Tr.way q A t).length ≤ 33 - m
  | .nil, A, m, _, _ => by simp [Tr.way]
  | .node b p v h x y, A, m, ⟨hp, h0, h1, hx, hy⟩, hm => by
    have hpm := hm p (by simp [Tr.pfx])
    have hpl := hp.2.1
    have ix := way_len q (A := (b, 4)) (m := p.l + 1) hx (fun r hr => (h0 r hr).1)
    have iy := way_len q (A := (b, 5)) (m := p.l + 1) hy (fun r hr => (h1 r hr).1)
    unfold Tr.way
    split
    · split
      · simp; omega
      · split
        · simp only [List.length_cons]; omega
        · simp only [List.length_cons]; omega
    · simp

def TidI (w : World) (tr : Nat) (q : Pn) (t : Tr) (many : Int) (N k : Nat) (W : World) : Prop :=
  Only (tr :: t.bs) w W ∧ TM W (tidyK q (N - k) t) ∧ Blk W tr 87 #[(tidyK q (N - k) t).ptr, .int .i64 many, .bool true]

set_option maxRecDepth 100000 in
set_option maxHeartbeats 2000000 in
theorem tidy_any (tr : Nat) (q : Pn) (many : Int) (t : Tr) (w : World) (hG : RelsAt w) (hT : TrieM w tr t many) (hq : q.ok) :
    Calls Tryz.prog 90 #[.pointer (some ⟨tr, 0, none⟩), .agg #[.int .u32 q.a, .int .i64 q.l]] w fun e w' => e = .returned (.tuple #[]) ∧ Turned w w' tr t (tidyT q t) many := by
  have Hq := Lib.hid hq
  have HT := Lib.hid hT
  have HG := Lib.hid hG
  have hwl := way_len q (A := (tr, 0)) (m := 0) hT.wf (fun _ _ => Nat.zero_le _)
  have hlt := Lib.hid (fun b (hb : b ∈ tr :: t.bs) => show b < w.heap.size by
    rcases List.mem_cons.1 hb with rfl | hb
    · exact hT.blk.lt
    · exact hT.tm.lt b hb)
  clear hT hq hG
  obtain ⟨ps, hps⟩ : ∃ ps, Tr.way q (tr, 0) t = ps := ⟨_, rfl⟩
  rw [hps] at hwl
  have Hps := Lib.hid hps; clear hps
  refine calls_of_wp_marks Tryz.func90 rfl ?_; simp only [Tryz.ntmps90, List.size_toArray, List.length_cons, List.length_nil, Nat.reduceAdd, Nat.reduceSub, Array.replicate_succ, Array.replicate_zero, List.push_toArray, List.append_toArray, List.nil_append, List.cons_append]
  go_wp2_with fail
  refine (down_any tr q _).mono ?_
  simp only [World.size_alloc]
  rintro e w1 ⟨rfl, Dx, Dp, hK1⟩
  have kw : Kp w w1 := ((Kp.refl _).alloc _).trans hK1
  have D1 : DownMem (w.heap.size + 1) (w.heap.size + 1 + 1) tr q many t w1 := ⟨Dx, Dp, HT.out.blk.keep kw, HT.out.tm.keep kw, HG.out.keep kw⟩
  have hDk := Lib.hid (fun W (k : Kp w1 W) => show DownMem (w.heap.size + 1) (w.heap.size + 1 + 1) tr q many t W from ⟨D1.tx.keep k, D1.px.keep k, D1.tr.keep k, D1.tm.keep k, D1.rels.keep k⟩)
  have hit := down1_iter (w.heap.size + 1) (w.heap.size + 1 + 1) tr q many t Hq.out HT.out.wf
  rw [Hps.out] at hit
  have Hit := Lib.hid hit; clear hit
  clear hK1 Dx Dp D1
  go_wp2_with fail
  refine (collect_any ps (by omega) call_down1 Hit.out w1 hDk.out).mono ?_
  rintro e w2 ⟨A, c, rfl, hR, hK2, hA⟩
  have HR := Lib.hid hR; clear hR
  have HA := Lib.hid hA; clear hA
  have k2 := kw.trans hK2
  go_wp2_with fail
  refine (backward_any A ps.length c _).mono ?_
  rintro e w3 ⟨rfl, Bx, hK3⟩
  have k3 := k2.trans hK3
  have HR3 := Lib.hid (HR.out.keep hK3)
  have T3 := Lib.hid (HT.out.keep k3)
  have hs1 := kw.size
  have hs2 := hK2.size
  have hs3 := Bx.lt
  have hs0 := k3.size
  go_wp2_with fail
  refine wp_range (N := ps.length) rfl call_back1 (back1_iter w2.heap.size A c ps (by omega)) (fun _ _ => rfl) (TidI w3 tr q t many ps.length) (fun _ _ _ => False) ?_ (fun _ _ _ _ h => h.elim) ?_ ?_ ?_ ?_ (fun _ _ _ _ _ h => h.elim)
  · rintro k W W' ⟨h1, h2, h3⟩ hO
    refine ⟨⟨hO.os.trans h1.os, hO.tape.trans h1.tape, hO.output.trans h1.output, Nat.le_trans h1.size hO.size, fun i hi hn => (hO.block i (Nat.lt_of_lt_of_le hi h1.size) (by simp; omega)).trans (h1.block i hi hn)⟩, h2.only hO (fun b hb => ?_), h3.only hO ?_⟩
    · have := hlt.out b (List.mem_cons.2 (.inr ((tidyK_bs q _ t).subset hb))); simp; omega
    · have := hlt.out tr (by simp); simp; omega
  · rintro k W ⟨h1, _, _⟩
    refine ⟨Bx.only h1 (fun hc => by have := hlt.out _ hc; omega), HR3.out.only h1 (fun a ha hc => by have := hlt.out _ hc; have := HA.out a ha; omega)⟩
  · refine ⟨Only.refl _ _, ?_, ?_⟩
    · rw [Nat.sub_zero, tidyK_end q _ t (tr, 0) (by rw [Hps.out]; exact Nat.le_refl _)]; exact T3.out.tm
    · rw [Nat.sub_zero, tidyK_end q _ t (tr, 0) (by rw [Hps.out]; exact Nat.le_refl _)]; exact T3.out.blk
  · intro l k W hk _
    have hj : ps.length - 1 - k < ps.length := by omega
    obtain ⟨B, hB⟩ : ∃ B, ps[ps.length - 1 - k] = B := ⟨_, rfl⟩
    have hget : ps.getD (ps.length - 1 - k) (0, 0) = B := by simp only [List.getD]; rw [List.getElem?_eq_getElem hj]; exact hB
    have hB? : (Tr.way q (tr, 0) t)[ps.length - 1 - k]? = some B := by rw [Hps.out, List.getElem?_eq_getElem hj, hB]
    rw [hget]
    have HB := Lib.hid hB?; clear hB? hB hget
    gi_wp2_with fail
    refine ⟨trivial, ?_⟩
    rintro W2 ⟨h1, h2, h3⟩ hsz
    have hidx : ps.length - k = ps.length - 1 - k + 1 := by omega
    have hidx2 : ps.length - (k + 1) = ps.length - 1 - k := by omega
    rw [hidx] at h2 h3
    obtain ⟨s, S⟩ := tidy_step (A := (tr, 0)) h2 ⟨_, _, h3, rfl⟩ HT.out.out HT.out.nd HB.out
    have Hidx2 := Lib.hid hidx2; clear hidx hidx2
    obtain ⟨b, p, v, h, x, y, rfl⟩ := S.node
    obtain ⟨ty, cs, hPB, hPC⟩ := S.cell
    have cB : W2.cell? ⟨B.1, B.2, none⟩ = some (.pointer (some ⟨b, 0, none⟩)) := (hPB.cell _).trans hPC
    have zB := hPB.frozen B.2
    have NB := S.tm.1
    have HS := Lib.hid S; clear S
    have Hpc := Lib.hid hPC; clear hPC
    have hBlt := hPB.lt
    have hBin := HS.out.inn
    have hBw : B.1 < w.heap.size := by
      rcases hBin with e | e
      · rw [e]; exact hlt.out tr (by simp)
      · exact hlt.out _ (by simp [e])
    clear hBin
    refine wpIn_block ?_
    refine round_list (by kernel_rfl) (no_out_block no_out_round) ?_
    obtain ⟨kp, hkp⟩ : ∃ a, (keptT (.node b p v h x y)).ptr = .pointer a := by
      rcases keptT (.node b p v h x y) with _ | ⟨b', _, _, _, _, _⟩
      · exact ⟨_, rfl⟩
      · exact ⟨_, rfl⟩
    have Hkp := Lib.hid hkp; clear hkp
    go_wp2_with (go_at_call 112; refine (kept_any b p v h x y _ NB).mono ?_; rintro e w' ⟨rfl, rfl⟩; rw [Hkp.out])
    have hOB : Only (tr :: t.bs) w3 (W2.setCell ⟨B.1, B.2, none⟩ (.pointer kp)) := h1.setCell (.inl (by
      rcases HS.out.inn with e | e
      · simp [e]
      · simp [e])) _
    have haf := HS.out.after
    rw [Hkp.out] at haf
    refine ⟨⟨Below.heap_setCell _ _ _ _ (by simp; omega), Below.heap_setCell _ _ _ _ (by simp; omega)⟩, hOB, by rw [Hidx2.out]; exact haf, ?_⟩
    rw [Hidx2.out]
    rcases HS.out.top with ⟨ea, eb⟩ | ⟨ea, eb⟩
    · rw [eb, Hkp.out, ea]; exact h3.set_ 0 _
    · rw [eb]; exact h3.far (by simp only; intro e'; rw [← e'] at ea; exact HT.out.out ea) _
  · rintro W ⟨h1, h2, h3⟩ hd
    rw [Nat.sub_self] at h2 h3
    have hO3 : Only (tr :: t.bs) w W := (Only.of_kp k3).trans ⟨h1.os, h1.tape, h1.output, h1.size, h1.block⟩
    go_wp2_with fail
    refine takes_one hd (fun W' hO => ⟨.tuple #[], by simp [results, Tryz.results90, go_sem], rfl, ⟨?_, ?_, HT.out.wf |> fun hw => (tidy_wf q hw).1, (tidy_bs q t).nodup HT.out.nd, fun hc => HT.out.out ((tidy_bs q t).subset hc)⟩, ?_, fun b hb => .inl ((tidy_bs q t).subset hb)⟩)
    · exact h3.only hO (by have := hlt.out tr (by simp); simp; omega)
    · exact TM.only hO h2 (fun b hb => by have := hlt.out b (List.mem_cons.2 (.inr ((tidy_bs q t).subset hb))); simp; omega)
    · refine ⟨hO.os.trans hO3.os, hO.tape.trans hO3.tape, hO.output.trans hO3.output, Nat.le_trans hO3.size hO.size, fun i hi hn => (hO.block i (Nat.lt_of_lt_of_le hi hO3.size) (by simp; omega)).trans (hO3.block i hi hn)⟩
end Go.Proofs.YtfaiponmjjbgoaaGreatDoor

/- The trie's Take. -/
namespace Go.Proofs.YtfaiponmjjbgoaaGreatDoor
open Go.RowKit
attribute [local go_sem] Oper.semAt_some

theorem Turned.trans {w w1 w2 : World} {tr : Nat} {t t1 t2 : Tr} {m1 m2 : Int} (h : Turned w w1 tr t t1 m1) (k : Turned w1 w2 tr t1 t2 m2) : Turned w w2 tr t t2 m2 :=
  ⟨k.trie, ⟨k.only.os.trans h.only.os, k.only.tape.trans h.only.tape, k.only.output.trans h.only.output, Nat.le_trans h.only.size k.only.size, fun i hi hn => (k.only.block i (Nat.lt_of_lt_of_le hi h.only.size) (fun hc => by
      rcases List.mem_cons.1 hc with e | hc
      · exact hn (by simp [e])
      · rcases h.sub i hc with e | e
        · exact hn (by simp [e])
        · omega)).trans (h.only.block i hi hn)⟩, fun b hb => by
      rcases k.sub b hb with e | e
      · exact h.sub b e
      · exact .inr (Nat.le_trans h.only.size e)⟩
theorem Turned.keep {w w1 w2 : World} {tr : Nat} {t t2 : Tr} {m2 : Int} (k : Kp w w1) (h : Turned w1 w2 tr t t2 m2) : Turned w w2 tr t t2 m2 :=
  ⟨h.trie, (Only.of_kp k).trans h.only, fun b hb => by
      rcases h.sub b hb with e | e
      · exact .inl e
      · exact .inr (Nat.le_trans k.size e)⟩

theorem TrieM.many_ {w : World} {tr : Nat} {t : Tr} {many : Int} (h : TrieM w tr t many) (m : Int) : TrieM (w.setCell ⟨tr, 1, none⟩ (.int .i64 m)) tr t m :=
  ⟨h.blk.set_ 1 _, h.tm.only ((Only.refl [tr] w).setCell (.inl (by simp)) _) (fun c hc => by simp; intro e; subst e; exact h.out hc), h.wf, h.nd, h.out⟩
theorem RelsAt.only {w w' : World} {bs : List Nat} (h : RelsAt w) (k : Only bs w w') (hn : 0 ∉ bs) : RelsAt w' := ⟨k.cell h.1 hn, k.cell h.2.1 hn, k.cell h.2.2.1 hn, k.cell h.2.2.2 hn⟩

def TakePost (w : World) (tr : Nat) (q : Pn) (u many : Int) (t : Tr) (e : Ending) (w' : World) : Prop :=
  e = .returned (.tuple #[.int .i64 u, .bool true, .int .i64 0]) ∧ ∃ t', Turned w w' tr t t' (many - 1) ∧ ∀ r : Pn × Int, r ∈ t'.rows ↔ r.1 ≠ q ∧ r ∈ t.rows

set_option maxRecDepth 100000 in
set_option maxHeartbeats 2000000 in
theorem take_had (tr : Nat) (q : Pn) (u many : Int) (t : Tr) (b : Nat) (x y : Tr) (w : World) (hG : RelsAt w) (hT : TrieM w tr t many) (hq : q.ok) (hl : t.look q = .node b q u true x y) (hm0 : 0 ≤ many) (hm1 : many ≤ 1000000) (hGn : 0 ∉ tr :: t.bs) :
    Calls Tryz.prog 63 #[.pointer (some ⟨tr, 0, none⟩), .agg #[.int .u32 q.a, .int .i64 q.l]] w (TakePost w tr q u many t) := by
  have Hq := Lib.hid hq
  have Hck := Lib.hid (show checkP q.pi = 0 by simp [checkP, pi_ok hq])
  have HT := Lib.hid hT
  have HG := Lib.hid hG
  have Hl := Lib.hid hl
  have HGn := Lib.hid hGn
  have HT1 := Lib.hid (hT.blk.alloc (.cells #[.int .u32 q.a, .int .i64 q.l] 26))
  have hpn := ptr_ne_nil
  have ht1 := pfx_eq_t
  clear hT hq hG hl hGn
  go_enter Tryz.func63, Tryz.ntmps63
  go_wp2_with fail
  refine wp_scope_fwd 0 rfl ?_
  go_wp2_with fail
  refine (none_any tr _ many _ HT1.out).mono ?_
  rintro e w' ⟨rfl, rfl⟩
  go_wp2_with fail
  refine (check_any q.pi _ Hq.out.1).mono ?_
  rintro e w1 ⟨rfl, hK1⟩
  rw [Hck.out]
  have kw : Kp w w1 := ((Kp.refl _).alloc _).trans hK1
  have P1 : Blk w1 w.heap.size 26 #[.int .u32 q.a, .int .i64 q.l] := (Blk.new w _ _).keep hK1
  clear hK1
  have p0 : w1.cell? ⟨w.heap.size, 0, none⟩ = some (.int .u32 q.a) := P1.cell 0
  have p1 : w1.cell? ⟨w.heap.size, 1, none⟩ = some (.int .i64 q.l) := P1.cell 1
  go_wp2_with fail
  refine (place_any tr q many t _ (HG.out.keep kw) (HT.out.blk.keep kw) (HT.out.tm.keep kw) HT.out.wf Hq.out).mono ?_
  rintro e w2 ⟨rfl, hK2⟩
  have k2 : Kp w w2 := kw.trans hK2
  have P2 := P1.keep hK2
  clear p0 p1
  have p0 : w2.cell? ⟨w.heap.size, 0, none⟩ = some (.int .u32 q.a) := P2.cell 0
  have p1 : w2.cell? ⟨w.heap.size, 1, none⟩ = some (.int .i64 q.l) := P2.cell 1
  have T2 := HT.out.keep k2
  have hc := place_cell (q := q) (A := (tr, 0)) T2.tm (T2.blk.cell 0)
  have hs := look_TM (q := q) T2.tm
  rw [Hl.out] at hc hs
  have hc' : w2.cell? ⟨(Tr.place q (tr, 0) t).1, (Tr.place q (tr, 0) t).2, none⟩ = some (.pointer (some ⟨b, 0, none⟩)) := hc
  obtain ⟨N, _, _⟩ := hs
  have n0 : w2.cell? ⟨b, 0, none⟩ = some (.int .u32 q.a) := N.cell 0
  have n1 : w2.cell? ⟨b, 1, none⟩ = some (.int .i64 q.l) := N.cell 1
  have n2 : w2.cell? ⟨b, 2, none⟩ = some (.int .i64 u) := N.cell 2
  have n3 : w2.cell? ⟨b, 3, none⟩ = some (.bool true) := N.cell 3
  have z2 := N.frozen 2
  have z3 := N.frozen 3
  have m1 : w2.cell? ⟨tr, 1, none⟩ = some (.int .i64 many) := T2.blk.cell 1
  have zm := T2.blk.frozen 1
  have hbl : b ∈ t.bs := look_sub (q := q) (by rw [Hl.out]; simp [Tr.bs])
  have hbt : ¬ b = tr := fun e => HT.out.out (by rw [← e]; exact hbl)
  have hbt' : ¬ tr = b := fun e => hbt e.symm
  have hbw : b < w.heap.size := HT.out.tm.lt b hbl
  have hbw' : ¬ w.heap.size = b := by omega
  have htw : tr < w.heap.size := HT.out.blk.lt
  have htw' : ¬ w.heap.size = tr := by omega
  clear hc hK2
  go_wp2_with fail
  go_quiet (fail)
  go_wp2_with fail
  have hO : Only [b] w (((w2.drewN nq).setCell ⟨b, 2, none⟩ (.int .i64 0)).setCell ⟨b, 3, none⟩ (.bool false)) := ((Only.of_kp (k2.drewN nq)).setCell (.inl (by simp)) _).setCell (.inl (by simp)) _
  obtain ⟨r1, r2, r3, r4⟩ := set_put (v := 0) (h := false) HT.out Hq.out Hl.out hO (((N.drewN nq).set_ 2 _).set_ 3 _)
  have r5 := r1.many_ (many - 1)
  have hO5 : Only (tr :: t.bs) w ((((w2.drewN nq).setCell ⟨b, 2, none⟩ (.int .i64 0)).setCell ⟨b, 3, none⟩ (.bool false)).setCell ⟨tr, 1, none⟩ (.int .i64 (many - 1))) :=
    (⟨r2.os, r2.tape, r2.output, r2.size, fun k hk hn => r2.block k hk (fun h => hn (List.mem_cons.2 (.inr h)))⟩ : Only (tr :: t.bs) w _).setCell (.inl (by simp)) _
  have U5 : Turned w _ tr t (setT q 0 false t) (many - 1) := ⟨r5, hO5, fun c hc => .inl (r3 c hc)⟩
  refine (tidy_any tr q (many - 1) (setT q 0 false t) _ (HG.out.only hO5 HGn.out) r5 Hq.out).mono ?_
  rintro e w6 ⟨rfl, U6⟩
  have U := Lib.hid (U5.trans U6)
  have H4 := Lib.hid r4
  clear r1 r2 r3 r4 r5 hO hO5 U5 U6
  go_wp2_with fail
  refine jump_ret ?_
  refine bodyPost_ret (v := .tuple #[.int .i64 u, .bool true, .int .i64 0]) (by simp [results, Tryz.results63, go_sem]) rfl ⟨rfl, _, U.out, fun r => ?_⟩
  rw [tidy_rows, H4.out]
  simp

set_option maxRecDepth 100000 in
set_option maxHeartbeats 2000000 in
theorem take_not (tr : Nat) (q : Pn) (many : Int) (t : Tr) (w : World) (hG : RelsAt w) (hT : TrieM w tr t many) (hq : q.ok) (hno : ∀ u, (q, u) ∉ t.rows) :
    Calls Tryz.prog 63 #[.pointer (some ⟨tr, 0, none⟩), .agg #[.int .u32 q.a, .int .i64 q.l]] w fun e w' => e = .returned (.tuple #[.int .i64 0, .bool false, .int .i64 0]) ∧ Kp w w' := by
  have Hq := Lib.hid hq
  have Hck := Lib.hid (show checkP q.pi = 0 by simp [checkP, pi_ok hq])
  have HT := Lib.hid hT
  have HG := Lib.hid hG
  have Hno := Lib.hid hno
  have HT1 := Lib.hid (hT.blk.alloc (.cells #[.int .u32 q.a, .int .i64 q.l] 26))
  have hpn := ptr_ne_nil
  have hpe := ptr_eq_nil
  have ht1 := pfx_eq_t
  clear hT hq hG hno
  go_enter Tryz.func63, Tryz.ntmps63
  go_wp2_with fail
  refine wp_scope_fwd 0 rfl ?_
  go_wp2_with fail
  refine (none_any tr _ many _ HT1.out).mono ?_
  rintro e w' ⟨rfl, rfl⟩
  go_wp2_with fail
  refine (check_any q.pi _ Hq.out.1).mono ?_
  rintro e w1 ⟨rfl, hK1⟩
  rw [Hck.out]
  have kw : Kp w w1 := ((Kp.refl _).alloc _).trans hK1
  have P1 : Blk w1 w.heap.size 26 #[.int .u32 q.a, .int .i64 q.l] := (Blk.new w _ _).keep hK1
  clear hK1
  have p0 : w1.cell? ⟨w.heap.size, 0, none⟩ = some (.int .u32 q.a) := P1.cell 0
  have p1 : w1.cell? ⟨w.heap.size, 1, none⟩ = some (.int .i64 q.l) := P1.cell 1
  go_wp2_with fail
  refine (place_any tr q many t _ (HG.out.keep kw) (HT.out.blk.keep kw) (HT.out.tm.keep kw) HT.out.wf Hq.out).mono ?_
  rintro e w2 ⟨rfl, hK2⟩
  have k2 : Kp w w2 := kw.trans hK2
  have P2 := P1.keep hK2
  clear p0 p1
  have p0 : w2.cell? ⟨w.heap.size, 0, none⟩ = some (.int .u32 q.a) := P2.cell 0
  have p1 : w2.cell? ⟨w.heap.size, 1, none⟩ = some (.int .i64 q.l) := P2.cell 1
  have T2 := HT.out.keep k2
  have hc := place_cell (q := q) (A := (tr, 0)) T2.tm (T2.blk.cell 0)
  have hs := look_TM (q := q) T2.tm
  have hx := fun b p v h x y => no_look (b := b) (p := p) (v := v) (h := h) (x := x) (y := y) Hq.out HT.out.wf Hno.out
  have Hx := Lib.hid hx; clear hx
  clear hK2
  obtain ⟨S, hS⟩ : ∃ S, t.look q = S := ⟨_, rfl⟩
  rw [hS] at hc hs
  have HS := Lib.hid hS; clear hS
  cases S with
  | nil =>
    have hc' : w2.cell? ⟨(Tr.place q (tr, 0) t).1, (Tr.place q (tr, 0) t).2, none⟩ = some (.pointer none) := hc
    clear hc hs
    go_wp2_with fail
    go_quiet (fail)
    go_wp2_with fail
    refine jump_ret ?_
    exact bodyPost_ret (v := .tuple #[.int .i64 0, .bool false, .int .i64 0]) (by simp [results, Tryz.results63, go_sem]) rfl ⟨rfl, k2.drewN _⟩
  | node b p u h x y =>
    have hc' : w2.cell? ⟨(Tr.place q (tr, 0) t).1, (Tr.place q (tr, 0) t).2, none⟩ = some (.pointer (some ⟨b, 0, none⟩)) := hc
    obtain ⟨N, _, _⟩ := hs
    have n0 : w2.cell? ⟨b, 0, none⟩ = some (.int .u32 p.a) := N.cell 0
    have n1 : w2.cell? ⟨b, 1, none⟩ = some (.int .i64 p.l) := N.cell 1
    have n3 : w2.cell? ⟨b, 3, none⟩ = some (.bool h) := N.cell 3
    clear hc
    by_cases e : p = q
    · have hf := Hx.out b p u h x y HS.out e
      subst e hf
      go_wp2_with fail
      go_quiet (fail)
      go_wp2_with fail
      refine jump_ret ?_
      exact bodyPost_ret (v := .tuple #[.int .i64 0, .bool false, .int .i64 0]) (by simp [results, Tryz.results63, go_sem]) rfl ⟨rfl, k2.drewN _⟩
    · have hne := fun w => pfx_eq_f w e
      have He := Lib.hid e; clear e
      go_wp2_with fail
      go_quiet (fail)
      go_wp2_with fail
      refine jump_ret ?_
      exact bodyPost_ret (v := .tuple #[.int .i64 0, .bool false, .int .i64 0]) (by simp [results, Tryz.results63, go_sem]) rfl ⟨rfl, k2.drewN _⟩
end Go.Proofs.YtfaiponmjjbgoaaGreatDoor

/- The trie's above and Find; a node's row. -/
namespace Go.Proofs.YtfaiponmjjbgoaaGreatDoor
open Go.RowKit
attribute [local go_sem] Oper.semAt_some

def rowE (r : Pn × Int) : List Value := [.int .u32 r.1.a, .int .i64 r.1.l, .int .i64 r.2]
theorem rowE_len (r : Pn × Int) : (rowE r).length = 3 := rfl
theorem ERow : ElemOf Tryz.prog 126 129 (.agg #[.int .u32 0, .int .i64 0, .int .i64 0]) 3 24 := ⟨Tryz.underlying126, by kernel_rfl, rfl, by decide⟩
theorem call_row (args : Array Value) (w : World) : (callFunc 95 args).run Tryz.prog w = .ok (.enter 95 args) w := by kernel_rfl

set_option maxRecDepth 100000 in
set_option maxHeartbeats 1000000 in
theorem row_any (b : Nat) (p : Pn) (v : Int) (w : World) (h0 : w.cell? ⟨b, 0, none⟩ = some (.int .u32 p.a)) (h1 : w.cell? ⟨b, 1, none⟩ = some (.int .i64 p.l)) (h2 : w.cell? ⟨b, 2, none⟩ = some (.int .i64 v)) :
    Calls Tryz.prog 95 #[.pointer (some ⟨b, 0, none⟩)] w fun e w' => e = .returned (.agg #[.int .u32 p.a, .int .i64 p.l, .int .i64 v]) ∧ Kp w w' := by
  have hb := World.block_lt_of_cell? w _ h0
  obtain ⟨W, hW, kW, B0⟩ : ∃ W, w.alloc (.cells #[.int .u32 0, .int .i64 0, .int .i64 0] 129) = W ∧ Kp w W ∧ Blk W w.heap.size 129 #[.int .u32 0, .int .i64 0, .int .i64 0] := ⟨_, rfl, (Kp.refl _).alloc _, Blk.new w _ _⟩
  go_enter Tryz.func95, Tryz.ntmps95
  go_wp2_with fail
  refine wp_tail 9 (by kernel_rfl) (by kernel_rfl) (fun V hV => ?_)
  have KV : Kp W V := by rw [hV]; exact (Kp.refl _).drew
  have k2 := kW.trans KV
  have B1 := B0.keep KV
  have n0 : V.cell? ⟨b, 0, none⟩ = some (.int .u32 p.a) := k2.cell h0
  have n1 : V.cell? ⟨b, 1, none⟩ = some (.int .i64 p.l) := k2.cell h1
  have n2 : V.cell? ⟨b, 2, none⟩ = some (.int .i64 v) := k2.cell h2
  have r0 : V.cell? ⟨w.heap.size, 0, none⟩ = some (.int .u32 0) := B1.cell 0
  have r1 : V.cell? ⟨w.heap.size, 1, none⟩ = some (.int .i64 0) := B1.cell 1
  have r2 : V.cell? ⟨w.heap.size, 2, none⟩ = some (.int .i64 0) := B1.cell 2
  have z0 := B1.frozen 0
  have z1 := B1.frozen 1
  have z2 := B1.frozen 2
  clear hV hW h0 h1 h2
  simp only [List.take_succ_cons, List.take_zero, List.drop_succ_cons, List.drop_zero]
  repeat still_step
  refine wpStill_nil ?_
  go_wp2_with fail
  have R := ((B1.set_ 0 (.int .u32 p.a)).set_ 1 (.int .i64 p.l)).set_ 2 (.int .i64 v)
  have kz : Kp w (((V.setCell ⟨w.heap.size, 0, none⟩ (.int .u32 p.a)).setCell ⟨w.heap.size, 1, none⟩ (.int .i64 p.l)).setCell ⟨w.heap.size, 2, none⟩ (.int .i64 v)) := ((k2.setCell (Nat.le_refl _) _).setCell (Nat.le_refl _) _).setCell (Nat.le_refl _) _
  generalize ((V.setCell ⟨w.heap.size, 0, none⟩ (.int .u32 p.a)).setCell ⟨w.heap.size, 1, none⟩ (.int .i64 p.l)).setCell ⟨w.heap.size, 2, none⟩ (.int .i64 v) = Z at R kz ⊢
  have c0 : Z.cell? ⟨w.heap.size, 0, none⟩ = some (.int .u32 p.a) := R.cell 0
  have c1 : Z.cell? ⟨w.heap.size, 1, none⟩ = some (.int .i64 p.l) := R.cell 1
  have c2 : Z.cell? ⟨w.heap.size, 2, none⟩ = some (.int .i64 v) := R.cell 2
  exact bodyPost_ret (v := .agg #[.int .u32 p.a, .int .i64 p.l, .int .i64 v]) (by simp [results, Tryz.results95, go_sem, c0, c1, c2]) rfl ⟨rfl, kz⟩

def AbvAt (tx px tr : Nat) (q : Pn) (many : Int) (t : Tr) (k : Nat) (acc : List (Pn × Int)) : Prop :=
  (∃ s a0 a1, DownAt tx px tr q many t k s (a0, a1) ∧ acc ++ aboveT q s = aboveT q t) ∨ (k = (Tr.way q (tr, 0) t).length ∧ acc = aboveT q t)
def AbvI (w w1 : World) (tx px tr : Nat) (q : Pn) (many : Int) (t : Tr) (k : Nat) (W : World) : Prop :=
  Kp w W ∧ DownMem tx px tr q many t W ∧ ∃ acc v, AbvAt tx px tr q many t k acc ∧ Blk W (w.heap.size + 1) 126 #[v] ∧ Own W (w1.heap.size + 1 + 1) 129 3 rowE v acc ∧ acc.length ≤ 33
def AbvPost (w : World) (q : Pn) (t : Tr) (e : Ending) (w' : World) : Prop := ∃ A c, e = .returned (.slice A (aboveT q t).length c) ∧ Rd w' 3 rowE A (aboveT q t) ∧ Kp w w'
theorem above_len (q : Pn) : ∀ {t : Tr} {m : Nat}, t.Wf → (∀ r ∈ t.pfx, m ≤ r.l) → (aboveT q t).length ≤ 33 - m
  | .nil, m, _, _ => by simp [aboveT]
  | .node b p v h x y, m, ⟨hp, h0, h1, hx, hy⟩, hm => by
    have hpm := hm p (by simp [Tr.pfx])
    have hpl := hp.2.1
    have ix := above_len q (m := p.l + 1) hx (fun r hr => (h0 r hr).1)
    have iy := above_len q (m := p.l + 1) hy (fun r hr => (h1 r hr).1)
    have hs : (if h then [(p, v)] else [] : List (Pn × Int)).length ≤ 1 := by split <;> simp
    unfold aboveT
    by_cases h1 : p.holds q
    · by_cases h2 : p.l = q.l
      · simp only [h1, h2, if_true, List.append_nil]; omega
      · by_cases h3 : bitN q.a p.l = 0
        · simp only [h1, h2, h3, if_true, if_false, List.length_append]; omega
        · simp only [h1, h2, h3, if_true, if_false, List.length_append]; omega
    · simp [h1]

theorem wpAny_rest {P : Program} {Q : Exit → Act → World → Prop} {a : Act} {w : World} {fuel : Nat} {L : List Oper} {listed : Array Bool} (k : Nat) (hf : fuel = (L.drop k).length)
    (hB : Region.seqB .any L.toArray (L.drop k).length k listed = true) (h : wpList P L.toArray Q (L.drop k) a w) : wpAny P .any L.toArray Q fuel listed a w := by
  subst hf
  exact wpAny_of_seq (L.drop k) k listed a w (fun j => by simp) hB h
theorem round_any {r id : Nat} {P : Program} {Q : Exit → Act → World → Prop} {a : Act} {w : World} {l : List Oper} (hm : P.follows .mixedOrders = true) (hnd : noDefer l.toArray = true) (hQ : ¬ LetsOut Q)
    (h : ∀ W, W = w.drew → wpAny P .any l.toArray Q l.toArray.size (Array.replicate l.toArray.size false) a W) : (Code.region id l.toArray true).wpIn (Fence.wide.inRound r) 0 P Q a w :=
  wpIn_region_any hm (wpAnyIn_of_wpAny hQ hnd _ _ _ _ (h _ rfl))

set_option maxRecDepth 100000 in
set_option maxHeartbeats 2000000 in
theorem above_any (tr : Nat) (q : Pn) (many : Int) (t : Tr) (w : World) (hG : RelsAt w) (hT : Blk w tr 87 #[t.ptr, .int .i64 many, .bool true]) (hM : TM w t) (ht : t.Wf) (hq : q.ok) :
    Calls Tryz.prog 68 #[.pointer (some ⟨tr, 0, none⟩), .agg #[.int .u32 q.a, .int .i64 q.l]] w (AbvPost w q t) := by
  have hmf := makeFunc_run
  have hal := above_len q (m := 0) ht (fun _ _ => Nat.zero_le _)
  refine calls_of_wp_marks Tryz.func68 rfl ?_; simp only [Tryz.ntmps68, List.size_toArray, List.length_cons, List.length_nil, Nat.reduceAdd, Nat.reduceSub, Array.replicate_succ, Array.replicate_zero, List.push_toArray, List.append_toArray, List.nil_append, List.cons_append]
  go_wp2_with fail
  refine (down_any tr q _).mono ?_
  simp only [World.size_alloc]
  rintro e w1 ⟨rfl, Dx, Dp, hK1⟩
  have kw : Kp w w1 := (((Kp.refl _).alloc _).alloc _).trans hK1
  have A1 : Blk w1 (w.heap.size + 1) 126 #[.slice none 0 0] := (Blk.new1 w _ _ _).keep hK1
  have D1 : DownMem (w.heap.size + 1 + 1) (w.heap.size + 1 + 1 + 1) tr q many t w1 := ⟨Dx, Dp, hT.keep kw, hM.keep kw, hG.keep kw⟩
  have hpos := D1.px.lt
  have Hq := Lib.hid hq
  have Ht := Lib.hid ht
  have HD := Lib.hid D1
  have HT := Lib.hid (show ∀ W, Kp w W → Blk W tr 87 #[t.ptr, .int .i64 many, .bool true] ∧ TM W t ∧ RelsAt W from fun W k => ⟨hT.keep k, hM.keep k, hG.keep k⟩)
  clear hK1 hT hM hG hq ht Dx Dp D1
  go_wp2_with fail
  have hw1 := kw.size
  refine wp_range (N := (Tr.way q (tr, 0) t).length) rfl call_down1 (down1_iter (w.heap.size + 1 + 1) (w.heap.size + 1 + 1 + 1) tr q many t Hq.out Ht.out) (fun _ _ => rfl) (AbvI w w1 (w.heap.size + 1 + 1) (w.heap.size + 1 + 1 + 1) tr q many t) (fun _ _ _ => False) ?_ (fun _ _ _ _ h => h.elim) ?_ ?_ ?_ ?_ (fun _ _ _ _ _ h => h.elim)
  · rintro k W W' ⟨h1, h0, acc, v, d, B, o, hal⟩ hO
    have hO' : ∀ {b}, b < w1.heap.size → b ∉ [w1.heap.size, w1.heap.size + 1] := fun {b} hb => by simp; omega
    refine ⟨hO.kp h1 (by simp; omega), ⟨h0.tx.only hO (hO' (by omega)), h0.px.only hO (hO' (by omega)), ?_, ?_, ?_⟩, acc, v, d, B.only hO (hO' (by omega)), o.only hO (by simp <;> omega), hal⟩
    · exact (HT.out W' (hO.kp h1 (by simp; omega))).1
    · exact (HT.out W' (hO.kp h1 (by simp; omega))).2.1
    · exact (HT.out W' (hO.kp h1 (by simp; omega))).2.2
  · rintro k W ⟨_, h0, _⟩
    exact h0
  · exact ⟨kw, HD.out, [], _, .inl ⟨t, tr, 0, ⟨by simp, fun w d => ⟨d.tm, d.tr.cell 0⟩, Ht.out, Nat.zero_le _⟩, rfl⟩, A1, Own.nil _ _ _ _ _, by simp⟩
  · intro l k W hk _
    gi_wp2_with fail
    refine ⟨trivial, ?_⟩
    rintro W2 ⟨j1, j0, acc, v, (⟨s, a0, a1, d, e⟩ | ⟨hkN, _⟩), B, o, hal2⟩ hsz
    rotate_left
    · omega
    have hw := d.way
    cases s with
    | nil =>
      have := congrArg List.length hw
      simp [Tr.way] at this
      omega
    | node b p u hh x y =>
      have hp : p.holds q := by
        by_cases h : p.holds q
        · exact h
        · have := congrArg List.length hw
          simp [Tr.way, h] at this
          omega
      have hgd : (Tr.way q (tr, 0) t)[k]? = some (a0, a1) := by
        have hw' := hw
        simp only [Tr.way, hp, if_true] at hw'
        have := congrArg (fun l => l[0]?) hw'
        simpa using this.symm
      have hgk : (Tr.way q (tr, 0) t).getD k (0, 0) = (a0, a1) := by simp [List.getD, hgd]
      have hge := (List.getElem?_eq_some_iff.1 hgd).2
      simp only [hge]
      clear hge
      obtain ⟨⟨N2, _, _⟩, cA⟩ := d.mem W2 j0
      have cA' : W2.cell? ⟨a0, a1, none⟩ = some (.pointer (some ⟨b, 0, none⟩)) := cA
      have n0 : W2.cell? ⟨b, 0, none⟩ = some (.int .u32 p.a) := N2.cell 0
      have n1 : W2.cell? ⟨b, 1, none⟩ = some (.int .i64 p.l) := N2.cell 1
      have n2 : W2.cell? ⟨b, 2, none⟩ = some (.int .i64 u) := N2.cell 2
      have n3 : W2.cell? ⟨b, 3, none⟩ = some (.bool hh) := N2.cell 3
      have x0 : W2.cell? ⟨w.heap.size + 1, 0, none⟩ = some v := B.cell 0
      have z0 := B.frozen 0
      have next : Hid (AbvAt (w.heap.size + 1 + 1) (w.heap.size + 1 + 1 + 1) tr q many t (k + 1) (acc ++ (if hh then [(p, u)] else []))) := by
        by_cases hl : p.l = q.l
        · right
          simp only [Tr.way, hp, hl, if_true] at hw
          simp only [aboveT, hp, hl, if_true, List.append_nil] at e
          have := congrArg List.length hw
          simp at this
          exact ⟨by omega, e⟩
        · rcases bit_cases q.a p.l with hb | hb
          · left
            simp only [Tr.way, hp, hl, hb, if_true, if_false] at hw
            simp only [aboveT, hp, hl, hb, if_true, if_false] at e
            refine ⟨x, b, 4, ⟨?_, fun w dd => ?_, d.wf.2.2.2.1, by omega⟩, by rw [← e, List.append_assoc]⟩
            · have := congrArg List.tail hw
              simpa using this
            · obtain ⟨⟨h1, h2, h3⟩, _⟩ := d.mem w dd
              exact ⟨h2, h1.cell 4⟩
          · left
            simp only [Tr.way, hp, hl, hb, if_true, if_false, show ¬ (1 : Nat) = 0 by omega] at hw
            simp only [aboveT, hp, hl, hb, if_true, if_false, show ¬ (1 : Nat) = 0 by omega] at e
            refine ⟨y, b, 5, ⟨?_, fun w dd => ?_, d.wf.2.2.2.2, by omega⟩, by rw [← e, List.append_assoc]⟩
            · have := congrArg List.tail hw
              simpa using this
            · obtain ⟨⟨h1, h2, h3⟩, _⟩ := d.mem w dd
              exact ⟨h3, h1.cell 5⟩
      have hlen : (acc ++ (if hh then [(p, u)] else [])).length ≤ 33 := by
        rcases next with ⟨s', b0, b1, _, e'⟩ | ⟨_, e'⟩
        · have := congrArg List.length e'
          rw [List.length_append] at this
          omega
        · rw [e']; omega
      have Hlen := Lib.hid hlen
      have Ho := Lib.hid o
      clear d e hw hp hgd hgk cA o hlen
      cases hh with
      | false =>
        simp only [Bool.false_eq_true, if_false, List.append_nil] at next Hlen
        gi_wp2_with fail
        exact ⟨⟨rfl, rfl⟩, j1, j0, acc, v, next.out, B, Ho.out, hal2⟩
      | true =>
        gi_wp2_with fail
        simp only [if_true] at next Hlen
        have hfit := Hlen.out
        rw [List.length_append, List.length_singleton] at hfit
        have fin : Hid (∀ (w3 : World) (A3 : Option Addr) (c3 : Nat), Own w3 (w1.heap.size + 1 + 1) 129 3 rowE (.slice A3 (acc.length + 1) c3) (acc ++ [(p, u)]) → Kp w w3 → (∀ b, b < w1.heap.size + 1 + 1 → w3.heap[b]? = W2.heap[b]?) →
            Kept2 w1 W2 (w3.setCell ⟨w.heap.size + 1, 0, none⟩ (.slice A3 (acc.length + 1) c3)) ∧ AbvI w w1 (w.heap.size + 1 + 1) (w.heap.size + 1 + 1 + 1) tr q many t (k + 1) (w3.setCell ⟨w.heap.size + 1, 0, none⟩ (.slice A3 (acc.length + 1) c3))) := by
          intro w3 A3 c3 hown' hK' hE
          have kz : Kp w (w3.setCell ⟨w.heap.size + 1, 0, none⟩ (.slice A3 (acc.length + 1) c3)) := hK'.setCell (by simp) _
          have B3 : Blk w3 (w.heap.size + 1) 126 #[v] := (hE _ (by omega)).trans B
          obtain ⟨t1, t2, t3⟩ := HT.out _ kz
          refine ⟨⟨(Below.heap_setCell _ _ _ _ (by simp; omega)).trans (hE _ (by omega)), (Below.heap_setCell _ _ _ _ (by simp; omega)).trans (hE _ (by omega))⟩, kz, ⟨?_, ?_, t1, t2, t3⟩, _, _, next.out, B3.set_ 0 _, Own.setBelow (p := ⟨w.heap.size + 1, 0, none⟩) hown' (by simp only; omega) _, Hlen.out⟩
          · exact (show Blk w3 _ _ _ from (hE _ (by omega)).trans j0.tx).far (by simp <;> omega) _
          · exact (show Blk w3 _ _ _ from (hE _ (by omega)).trans j0.px).far (by simp <;> omega) _
        clear next Hlen
        refine round_any (by kernel_rfl) (by kernel_rfl) (no_out_block no_out_round) (fun V hV => ?_)
        have KV : Kp W2 V := by rw [hV]; exact (Kp.refl _).drew
        clear hV n3
        have B' := B.keep KV
        have m0 := KV.cell n0
        have m1 := KV.cell n1
        have m2 := KV.cell n2
        have xV := KV.cell x0
        clear n0 n1 n2 x0 z0 N2 cA'
        refine wpAny_take (i := 1) (v := .func (.func 95) #[.pointer (some ⟨b, 0, none⟩)] #[]) rfl (by kernel_rfl) (by kernel_rfl) (by kernel_rfl) (fun _ _ _ h => h) (Or.inl ⟨by rfl, fun w => by go_simp⟩) ?_
        refine wpAny_ready (rs := [0, 2]) (by kernel_rfl) (by simp) ?_
        refine AllReady.cons rfl (fun K hK => ?_) (AllReady.cons rfl (fun K hK => ?_) AllReady.nil)
        · go_simp
          refine hK _ _ ?_
          clear hK K
          refine wpAny_ready (rs := [2]) (by kernel_rfl) (by simp) ?_
          refine AllReady.cons rfl (fun K hK => ?_) AllReady.nil
          go_simp
          refine (row_any b p u _ m0 m1 m2).mono ?_
          rintro e wa ⟨rfl, hKa⟩
          have KW : Kp W2 wa := KV.trans hKa
          have hsW := KW.size
          have BW := B.keep KW
          have xW : wa.cell? ⟨w.heap.size + 1, 0, none⟩ = some v := BW.cell 0
          refine hK _ _ ?_
          clear hK K
          refine wpAny_ready (rs := [3]) (by kernel_rfl) (by simp) ?_
          refine AllReady.cons rfl (fun K hK => ?_) AllReady.nil
          go_simp
          refine hK _ _ ?_
          clear hK K
          refine wpAny_rest 4 rfl (by kernel_rfl) ?_
          simp only [List.drop_succ_cons, List.drop_zero]
          go_wp2_with (at_builtin; go_must (refine wpList_appx ERow rfl _ _ rfl (p, u) rfl (Ho.out.keep KW) (j1.trans KW) (by omega) (by omega) rfl rfl rfl rfl rfl (by omega) ?_); intro v' w3 hown' hK' hg; obtain ⟨A3, c3, rfl⟩ := hown'.form1; have B3 := BW.grown hg (Own.ne (Ho.out.keep KW) (by omega)); have cc3 : w3.cell? ⟨w.heap.size + 1, 0, none⟩ = some v := B3.cell 0; have zz := B3.frozen 0)
          exact fin.out w3 _ _ hown' hK' (fun b' hb' => (hg.block _ (by omega) (Own.ne (Ho.out.keep KW) (by omega))).trans (KW.heap (by omega)))
        · go_simp
          refine (row_any b p u _ m0 m1 m2).mono ?_
          rintro e wa ⟨rfl, hKa⟩
          have KW : Kp W2 wa := KV.trans hKa
          have hsW := KW.size
          have BW := B.keep KW
          have xW : wa.cell? ⟨w.heap.size + 1, 0, none⟩ = some v := BW.cell 0
          refine hK _ _ ?_
          clear hK K
          refine wpAny_ready (rs := [0, 3]) (by kernel_rfl) (by simp) ?_
          refine AllReady.cons rfl (fun K hK => ?_) (AllReady.cons rfl (fun K hK => ?_) AllReady.nil)
          · go_simp
            refine hK _ _ ?_
            clear hK K
            refine wpAny_ready (rs := [3]) (by kernel_rfl) (by simp) ?_
            refine AllReady.cons rfl (fun K hK => ?_) AllReady.nil
            go_simp
            refine hK _ _ ?_
            clear hK K
            refine wpAny_rest 4 rfl (by kernel_rfl) ?_
            simp only [List.drop_succ_cons, List.drop_zero]
            go_wp2_with (at_builtin; go_must (refine wpList_appx ERow rfl _ _ rfl (p, u) rfl (Ho.out.keep KW) (j1.trans KW) (by omega) (by omega) rfl rfl rfl rfl rfl (by omega) ?_); intro v' w3 hown' hK' hg; obtain ⟨A3, c3, rfl⟩ := hown'.form1; have B3 := BW.grown hg (Own.ne (Ho.out.keep KW) (by omega)); have cc3 : w3.cell? ⟨w.heap.size + 1, 0, none⟩ = some v := B3.cell 0; have zz := B3.frozen 0)
            exact fin.out w3 _ _ hown' hK' (fun b' hb' => (hg.block _ (by omega) (Own.ne (Ho.out.keep KW) (by omega))).trans (KW.heap (by omega)))
          · go_simp
            refine hK _ _ ?_
            clear hK K
            have xX : (wa.alloc (.cells #[.int .u32 p.a, .int .i64 p.l, .int .i64 u] 129)).cell? ⟨w.heap.size + 1, 0, none⟩ = some v := ((Kp.refl wa).alloc _).cell xW
            refine wpAny_ready (rs := [0]) (by kernel_rfl) (by simp) ?_
            refine AllReady.cons rfl (fun K hK => ?_) AllReady.nil
            go_simp
            refine hK _ _ ?_
            clear hK K
            refine wpAny_rest 4 rfl (by kernel_rfl) ?_
            simp only [List.drop_succ_cons, List.drop_zero]
            go_wp2_with (at_builtin; go_must (refine wpList_appx ERow rfl _ _ rfl (p, u) rfl (Ho.out.keep KW) (j1.trans KW) (by omega) (by omega) rfl rfl rfl rfl rfl (by omega) ?_); intro v' w3 hown' hK' hg; obtain ⟨A3, c3, rfl⟩ := hown'.form1; have B3 := BW.grown hg (Own.ne (Ho.out.keep KW) (by omega)); have cc3 : w3.cell? ⟨w.heap.size + 1, 0, none⟩ = some v := B3.cell 0; have zz := B3.frozen 0)
            exact fin.out w3 _ _ hown' hK' (fun b' hb' => (hg.block _ (by omega) (Own.ne (Ho.out.keep KW) (by omega))).trans (KW.heap (by omega)))
  · rintro W ⟨h1, h0, acc, v, d, B, o, hal2⟩ hd
    have e : acc = aboveT q t := by
      rcases d with ⟨s, a0, a1, d, e⟩ | ⟨_, e⟩
      · have hnil : aboveT q s = [] := by
          have hw := d.way
          rw [List.drop_length] at hw
          cases s with
          | nil => rfl
          | node b p u hh x y =>
            by_cases h : p.holds q
            · simp [Tr.way, h] at hw
            · simp [aboveT, h]
        rw [hnil, List.append_nil] at e
        exact e
      · exact e
    subst e
    obtain ⟨A, c, rfl, hR⟩ := o.rd (by decide) rowE_len
    have x0 : W.cell? ⟨w.heap.size + 1, 0, none⟩ = some (.slice A (aboveT q t).length c) := B.cell 0
    go_wp2_with fail
    refine takes_one hd (fun W' hO => ?_)
    refine ⟨.slice A (aboveT q t).length c, by simp [results, Tryz.results68, go_sem], A, c, rfl, ?_, hO.kp h1 (by simp; omega)⟩
    exact hR.only hO (fun a ha => by have := o.newA a ha; simp; omega)

/-- What Find answers of the rows above an address. -/
def foundT (l : List (Pn × Int)) : (Pn × Int) × Bool := match l.getLast? with
  | some r => (r, true)
  | none => ((⟨0, 0⟩, 0), false)

theorem row_at {w : World} {A : Option Addr} {l : List (Pn × Int)} (h : Rd w 3 rowE A l) {k : Nat} (hk : k < l.length) :
    ∃ b off : Nat, A = some ⟨b, off, none⟩ ∧ w.cell? ⟨b, off + k * 3, none⟩ = some (.int .u32 l[k].1.a) ∧ w.cell? ⟨b, off + k * 3 + 1, none⟩ = some (.int .i64 l[k].1.l) ∧ w.cell? ⟨b, off + k * 3 + 2, none⟩ = some (.int .i64 l[k].2) := by
  obtain ⟨b, off, e, hc⟩ := h k hk
  exact ⟨b, off, e, hc 0 _ rfl, hc 1 _ rfl, hc 2 _ rfl⟩

set_option maxRecDepth 100000 in
set_option maxHeartbeats 2000000 in
theorem find_any (tr a : Nat) (many : Int) (t : Tr) (w : World) (hG : RelsAt w) (hT : Blk w tr 87 #[t.ptr, .int .i64 many, .bool true]) (hM : TM w t) (ht : t.Wf) (ha : a < 4294967296) :
    Calls Tryz.prog 50 #[.pointer (some ⟨tr, 0, none⟩), .int .u32 a] w fun e w' => e = .returned (.tuple #[.agg #[.int .u32 (foundT (aboveT ⟨a, 32⟩ t)).1.1.a, .int .i64 (foundT (aboveT ⟨a, 32⟩ t)).1.1.l], .int .i64 (foundT (aboveT ⟨a, 32⟩ t)).1.2, .bool (foundT (aboveT ⟨a, 32⟩ t)).2]) ∧ Kp w w' := by
  have hq : (⟨a, 32⟩ : Pn).ok := ⟨ha, Nat.le_refl _, cut_32 a⟩
  have hal := above_len ⟨a, 32⟩ (m := 0) ht (fun _ _ => Nat.zero_le _)
  obtain ⟨W, hW, kW, B0⟩ : ∃ W, w.alloc (.cells #[.int .u32 0, .int .i64 0] 26) = W ∧ Kp w W ∧ Blk W w.heap.size 26 #[.int .u32 0, .int .i64 0] := ⟨_, rfl, (Kp.refl _).alloc _, Blk.new w _ _⟩
  have HT1 := Lib.hid (hT.keep kW)
  have HM1 := Lib.hid (hM.keep kW)
  have HG1 := Lib.hid (hG.keep kW)
  have Ht := Lib.hid ht
  have Hq := Lib.hid hq
  clear hT hM hG ht hq
  obtain ⟨l, hl⟩ : ∃ l, aboveT ⟨a, 32⟩ t = l := ⟨_, rfl⟩
  rw [hl] at hal ⊢
  have HL := Lib.hid hl; clear hl
  go_enter Tryz.func50, Tryz.ntmps50
  go_wp2_with fail
  refine (none_any tr _ many _ HT1.out).mono ?_
  rintro e w' ⟨rfl, rfl⟩
  go_wp2_with fail
  refine (above_any tr ⟨a, 32⟩ many t _ HG1.out HT1.out HM1.out Ht.out Hq.out).mono ?_
  rintro e w1 ⟨A, c, rfl, hR, hK1⟩
  rw [HL.out] at hR ⊢
  have k1 := kW.trans hK1
  have B1 := B0.keep hK1
  have r0 : w1.cell? ⟨w.heap.size, 0, none⟩ = some (.int .u32 0) := B1.cell 0
  have r1 : w1.cell? ⟨w.heap.size, 1, none⟩ = some (.int .i64 0) := B1.cell 1
  have z0 := B1.frozen 0
  have z1 := B1.frozen 1
  have HR := Lib.hid hR; clear hR hW
  rcases List.eq_nil_or_concat l with rfl | ⟨l', r, rfl⟩
  · go_wp2_with fail
    have R := (B1.set_ 0 (.int .u32 0)).set_ 1 (.int .i64 0)
    have kz : Kp w ((w1.setCell ⟨w.heap.size, 0, none⟩ (.int .u32 0)).setCell ⟨w.heap.size, 1, none⟩ (.int .i64 0)) := (k1.setCell (Nat.le_refl _) _).setCell (Nat.le_refl _) _
    generalize (w1.setCell ⟨w.heap.size, 0, none⟩ (.int .u32 0)).setCell ⟨w.heap.size, 1, none⟩ (.int .i64 0) = Z at R kz ⊢
    have c0 : Z.cell? ⟨w.heap.size, 0, none⟩ = some (.int .u32 0) := R.cell 0
    have c1 : Z.cell? ⟨w.heap.size, 1, none⟩ = some (.int .i64 0) := R.cell 1
    exact bodyPost_ret (v := .tuple #[.agg #[.int .u32 0, .int .i64 0], .int .i64 0, .bool false]) (by simp [results, Tryz.results50, go_sem, c0, c1]) rfl ⟨rfl, kz⟩
  · obtain ⟨N, hN⟩ : ∃ N, l'.length = N := ⟨_, rfl⟩
    rw [List.concat_eq_append] at *
    have hlen : (l' ++ [r]).length = N + 1 := by simp [hN]
    obtain ⟨b, off, rfl, c0, c1, c2⟩ := row_at HR.out (k := N) (by omega)
    have hget : (l' ++ [r])[N]'(by omega) = r := by subst hN; simp
    rw [hget] at c0 c1 c2
    have Hf := Lib.hid (show foundT (l' ++ [r]) = (r, true) by simp [foundT])
    rw [hlen] at hal ⊢
    clear hget
    have Hlen := Lib.hid hlen; clear hlen
    have HN := Lib.hid hN; clear hN
    obtain ⟨V, hV, KV, Bl⟩ : ∃ V, w1.alloc (.cells #[.int .u32 r.1.a, .int .i64 r.1.l, .int .i64 r.2] 129) = V ∧ Kp w1 V ∧ Blk V w1.heap.size 129 #[.int .u32 r.1.a, .int .i64 r.1.l, .int .i64 r.2] := ⟨_, rfl, (Kp.refl _).alloc _, Blk.new w1 _ _⟩
    clear r0 r1 z0 z1
    have B2 := B1.keep KV
    have r0 : V.cell? ⟨w.heap.size, 0, none⟩ = some (.int .u32 0) := B2.cell 0
    have r1 : V.cell? ⟨w.heap.size, 1, none⟩ = some (.int .i64 0) := B2.cell 1
    have z0 := B2.frozen 0
    have z1 := B2.frozen 1
    have l0 : V.cell? ⟨w1.heap.size, 0, none⟩ = some (.int .u32 r.1.a) := Bl.cell 0
    have l1 : V.cell? ⟨w1.heap.size, 1, none⟩ = some (.int .i64 r.1.l) := Bl.cell 1
    have l2 : V.cell? ⟨w1.heap.size, 2, none⟩ = some (.int .i64 r.2) := Bl.cell 2
    have hne : ¬ w.heap.size = w1.heap.size := by have := B1.lt; omega
    go_wp2_with fail
    go_region
    go_wp2_with fail
    have R := ((B2.set_ 0 (.int .u32 r.1.a)).set_ 1 (.int .i64 r.1.l)).drew
    have kz : Kp w ((V.setCell ⟨w.heap.size, 0, none⟩ (.int .u32 r.1.a)).setCell ⟨w.heap.size, 1, none⟩ (.int .i64 r.1.l)).drew := (((k1.trans KV).setCell (Nat.le_refl _) _).setCell (Nat.le_refl _) _).drew
    generalize ((V.setCell ⟨w.heap.size, 0, none⟩ (.int .u32 r.1.a)).setCell ⟨w.heap.size, 1, none⟩ (.int .i64 r.1.l)).drew = Z at R kz ⊢
    have d0 : Z.cell? ⟨w.heap.size, 0, none⟩ = some (.int .u32 r.1.a) := R.cell 0
    have d1 : Z.cell? ⟨w.heap.size, 1, none⟩ = some (.int .i64 r.1.l) := R.cell 1
    exact bodyPost_ret (v := .tuple #[.agg #[.int .u32 r.1.a, .int .i64 r.1.l], .int .i64 r.2, .bool true]) (by simp [results, Tryz.results50, go_sem, d0, d1]) rfl ⟨by rw [List.concat_eq_append, Hf.out], kz⟩
end Go.Proofs.YtfaiponmjjbgoaaGreatDoor

/- A table of hops as plain data: a list in order, and a tree of places. No program in sight. -/
namespace Go.Proofs.YtfaiponmjjbgoaaGreatDoor

structure Hp where
  p : Pn
  d : Bool
  f : Int
  x : Int
  m : Int
deriving DecidableEq

def Up (l : List Hp) : Prop := l.Pairwise (fun r s => r.p.lt s.p)
theorem up_ext : ∀ {l m : List Hp}, Up l → Up m → (∀ r, r ∈ l ↔ r ∈ m) → l = m
  | [], [], _, _, _ => rfl
  | [], s :: m, _, _, h => by have := (h s).2 (by simp); cases this
  | r :: l, [], _, _, h => by have := (h r).1 (by simp); cases this
  | r :: l, s :: m, hl, hm, h => by
    have hl' := List.pairwise_cons.1 hl
    have hm' := List.pairwise_cons.1 hm
    have e : r = s := by
      rcases List.mem_cons.1 ((h r).1 (by simp)) with e | h1
      · exact e
      · rcases List.mem_cons.1 ((h s).2 (by simp)) with e | h2
        · exact e.symm
        · exact absurd (lt_trans (hm'.1 r h1) (hl'.1 s h2)) (lt_irrefl _)
    subst e
    rw [up_ext hl'.2 hm'.2 (fun t => ?_)]
    constructor
    · intro ht
      rcases List.mem_cons.1 ((h t).1 (by simp [ht])) with e | h1
      · subst e; exact absurd (hl'.1 t ht) (lt_irrefl _)
      · exact h1
    · intro ht
      rcases List.mem_cons.1 ((h t).2 (by simp [ht])) with e | h1
      · subst e; exact absurd (hm'.1 t ht) (lt_irrefl _)
      · exact h1
theorem up_inj {l : List Hp} (h : Up l) {r s : Hp} (hr : r ∈ l) (hs : s ∈ l) (e : r.p = s.p) : r = s := by
  induction l with
  | nil => cases hr
  | cons a l ih =>
    have h' := List.pairwise_cons.1 h
    rcases List.mem_cons.1 hr with rfl | hr
    · rcases List.mem_cons.1 hs with rfl | hs
      · rfl
      · have := h'.1 s hs; rw [e] at this; exact absurd this (lt_irrefl _)
    · rcases List.mem_cons.1 hs with h1 | hs
      · subst h1
        have := h'.1 r (by assumption); rw [e] at this; exact absurd this (lt_irrefl _)
      · exact ih h'.2 (by assumption) hs

/-- The reference's list without a prefix's hop. -/
def delH (q : Pn) (l : List Hp) : List Hp := l.filter (fun e => !decide (e.p = q))
theorem del_mem {q : Pn} {l : List Hp} {e : Hp} : e ∈ delH q l ↔ e.p ≠ q ∧ e ∈ l := by
  unfold delH; rw [List.mem_filter]; simp [and_comm]
theorem del_up {q : Pn} {l : List Hp} (h : Up l) : Up (delH q l) := List.Pairwise.filter _ h
/-- The reference's list with a hop in its order, in the place of its prefix's. -/
def insH (h : Hp) : List Hp → List Hp
  | [] => [h]
  | e :: l => if e.p.lt h.p then e :: insH h l else h :: delH h.p (e :: l)
theorem ins_mem {h : Hp} : ∀ {l : List Hp}, Up l → ∀ e, e ∈ insH h l ↔ e = h ∨ (e.p ≠ h.p ∧ e ∈ l)
  | [], _, e => by simp [insH]
  | a :: l, hu, e => by
    have hu' := List.pairwise_cons.1 hu
    unfold insH
    split
    · rename_i hlt
      have ha : a.p ≠ h.p := fun e => by rw [e] at hlt; exact lt_irrefl _ hlt
      rw [List.mem_cons, ins_mem hu'.2 e, List.mem_cons]
      constructor
      · rintro (rfl | rfl | h1)
        · exact .inr ⟨ha, .inl rfl⟩
        · exact .inl rfl
        · exact .inr ⟨h1.1, .inr h1.2⟩
      · rintro (rfl | ⟨h1, rfl | h2⟩)
        · exact .inr (.inl rfl)
        · exact .inl rfl
        · exact .inr (.inr ⟨h1, h2⟩)
    · rw [List.mem_cons, del_mem]
theorem ins_up {h : Hp} : ∀ {l : List Hp}, Up l → Up (insH h l)
  | [], _ => List.pairwise_singleton _ _
  | a :: l, hu => by
    have hu' := List.pairwise_cons.1 hu
    unfold insH
    split
    · rename_i hlt
      refine List.pairwise_cons.2 ⟨fun e he => ?_, ins_up hu'.2⟩
      rcases (ins_mem hu'.2 e).1 he with rfl | ⟨_, h2⟩
      · exact hlt
      · exact hu'.1 e h2
    · rename_i hn
      refine List.pairwise_cons.2 ⟨fun e he => ?_, del_up hu⟩
      obtain ⟨h1, h2⟩ := del_mem.1 he
      rcases List.mem_cons.1 h2 with rfl | h2
      · rcases lt_total h.p e.p with h3 | h3 | h3
        · exact h3
        · exact absurd h3.symm h1
        · exact absurd h3 hn
      · rcases lt_total h.p a.p with h3 | h3 | h3
        · exact lt_trans h3 (hu'.1 e h2)
        · rw [h3]; exact hu'.1 e h2
        · exact absurd h3 hn
/-- The reference's loop, step by step. -/
def insStep (h : Hp) (s : List Hp × Bool) (e : Hp) : List Hp × Bool :=
  let a := if s.2 && !decide (e.p.lt h.p) then (s.1 ++ [h], false) else s
  (if e.p = h.p then a.1 else a.1 ++ [e], a.2)
def insEnd (h : Hp) (s : List Hp × Bool) : List Hp := if s.2 then s.1 ++ [h] else s.1
theorem insStep_false {h : Hp} : ∀ (l : List Hp) (o : List Hp), l.foldl (insStep h) (o, false) = (o ++ delH h.p l, false)
  | [], o => by simp [delH]
  | e :: l, o => by
    rw [List.foldl_cons]
    have : insStep h (o, false) e = (if e.p = h.p then o else o ++ [e], false) := by simp [insStep]
    rw [this, insStep_false l]
    by_cases he : e.p = h.p <;> simp [delH, he]
theorem insStep_true {h : Hp} : ∀ (l : List Hp) (o : List Hp), Up l → insEnd h (l.foldl (insStep h) (o, true)) = o ++ insH h l
  | [], o, _ => by simp [insEnd, insH]
  | e :: l, o, hu => by
    rw [List.foldl_cons]
    by_cases hlt : e.p.lt h.p
    · have hne : ¬ e.p = h.p := fun e' => by rw [e'] at hlt; exact lt_irrefl _ hlt
      have : insStep h (o, true) e = (o ++ [e], true) := by simp [insStep, hlt, hne]
      rw [this, insStep_true l _ (List.pairwise_cons.1 hu).2]
      simp [insH, hlt]
    · have : insStep h (o, true) e = (if e.p = h.p then o ++ [h] else o ++ [h] ++ [e], false) := by simp [insStep, hlt]
      rw [this, insStep_false]
      have e1 : insH h (e :: l) = h :: delH h.p (e :: l) := by unfold insH; rw [if_neg hlt]
      rw [e1]
      by_cases he : e.p = h.p <;> simp [insEnd, delH, he]
theorem insStep_gone {h : Hp} (l o : List Hp) : insEnd h (l.foldl (insStep h) (o, false)) = o ++ delH h.p l := by rw [insStep_false]; simp [insEnd]

/-- A tree of places and hops: each prefix of the tree has its hop's place, each hop's prefix is there. -/
structure FI (t : Tr) (H : List Hp) : Prop where
  wf : t.Wf
  rows : ∀ p i, (p, i) ∈ t.rows ↔ ∃ (k : Nat) (h : k < H.length), i = (k : Int) ∧ H[k].p = p
  len : t.rows.length = H.length

theorem rises_inj {l : List (Pn × Int)} (h : Rises l) {r s : Pn × Int} (hr : r ∈ l) (hs : s ∈ l) (e : r.1 = s.1) : r = s := by
  induction l with
  | nil => cases hr
  | cons a l ih =>
    have h' := List.pairwise_cons.1 h
    rcases List.mem_cons.1 hr with rfl | hr
    · rcases List.mem_cons.1 hs with rfl | hs
      · rfl
      · have := h'.1 s hs; rw [e] at this; exact absurd this (lt_irrefl _)
    · rcases List.mem_cons.1 hs with h1 | hs
      · subst h1
        have := h'.1 r (by assumption); rw [e] at this; exact absurd this (lt_irrefl _)
      · exact ih h'.2 (by assumption) hs
theorem FI.inj {t : Tr} {H : List Hp} (h : FI t H) {i j : Nat} (hi : i < H.length) (hj : j < H.length) (e : H[i].p = H[j].p) : i = j := by
  have h1 := (h.rows H[i].p i).2 ⟨i, hi, rfl, rfl⟩
  have h2 := (h.rows H[i].p j).2 ⟨j, hj, rfl, e.symm⟩
  have := rises_inj (rows_rise h.wf) h1 h2 rfl
  injection this with _ h3
  omega

theorem FI.set {t : Tr} {H : List Hp} (h : FI t H) {k : Nat} (hk : k < H.length) {e : Hp} (he : e.p = H[k].p) : FI t (H.set k e) ∧ ∀ x, x ∈ H.set k e ↔ x = e ∨ (x.p ≠ e.p ∧ x ∈ H) := by
  have key : ∀ (i : Nat) (hi : i < (H.set k e).length), (H.set k e)[i].p = (H[i]'(by simpa using hi)).p := fun i hi => by
    rw [List.getElem_set]
    split
    · rename_i h1; subst h1; exact he
    · rfl
  refine ⟨⟨h.wf, fun p i => ?_, by rw [h.len]; simp⟩, fun x => ?_⟩
  · rw [h.rows]
    constructor
    · rintro ⟨j, hj, h1, h2⟩; exact ⟨j, by simpa using hj, h1, by rw [key]; exact h2⟩
    · rintro ⟨j, hj, h1, h2⟩; exact ⟨j, by simpa using hj, h1, by rw [key] at h2; exact h2⟩
  · constructor
    · intro hx
      obtain ⟨i, hi, rfl⟩ := List.getElem_of_mem hx
      have hi' : i < H.length := by simpa using hi
      by_cases h1 : i = k
      · subst h1; left; simp
      · right
        rw [List.getElem_set_ne (fun e => h1 e.symm)]
        refine ⟨fun h2 => h1 (h.inj hi' hk (h2.trans he)), List.getElem_mem _⟩
    · rintro (rfl | ⟨h1, h2⟩)
      · exact List.mem_iff_getElem.2 ⟨k, by simpa using hk, by simp⟩
      · obtain ⟨i, hi, rfl⟩ := List.getElem_of_mem h2
        have hik : ¬ k = i := fun e' => by subst e'; exact h1 he.symm
        exact List.mem_iff_getElem.2 ⟨i, by simpa using hi, by rw [List.getElem_set_ne hik]⟩

theorem rows_count {l m : List (Pn × Int)} {q : Pn} {v : Int} (hl : Rises l) (hm : Rises m) (hq : ∀ u, (q, u) ∉ l) (h : ∀ r, r ∈ m ↔ r = (q, v) ∨ r ∈ l) : m.length = l.length + 1 := by
  have hn : ∀ {l : List (Pn × Int)}, Rises l → l.Nodup := fun {l} h => List.Pairwise.imp (fun {a b} hab e => by rw [e] at hab; exact lt_irrefl _ hab) h
  have p : m.Perm ((q, v) :: l) := (List.perm_ext_iff_of_nodup (hn hm) (List.nodup_cons.2 ⟨hq v, hn hl⟩)).2 (fun r => by rw [h r, List.mem_cons])
  rw [p.length_eq, List.length_cons]

theorem FI.app {t t' : Tr} {H : List Hp} (h : FI t H) {e : Hp} (hn : ∀ u, (e.p, u) ∉ t.rows) (hw : t'.Wf) (hr : ∀ r : Pn × Int, r ∈ t'.rows ↔ r = (e.p, (H.length : Int)) ∨ r ∈ t.rows) : FI t' (H ++ [e]) ∧ ∀ x, x ∈ H ++ [e] ↔ x = e ∨ (x.p ≠ e.p ∧ x ∈ H) := by
  refine ⟨⟨hw, fun p i => ?_, ?_⟩, fun x => ?_⟩
  · rw [hr]
    constructor
    · rintro (h1 | h1)
      · injection h1 with h1 h2
        subst h1
        exact ⟨H.length, by simp, h2, by simp⟩
      · obtain ⟨k, hk, h2, h3⟩ := (h.rows p i).1 h1
        exact ⟨k, by simp; omega, h2, by rw [List.getElem_append_left hk]; exact h3⟩
    · rintro ⟨k, hk, rfl, h3⟩
      by_cases hkl : k < H.length
      · rw [List.getElem_append_left hkl] at h3
        exact .inr ((h.rows p k).2 ⟨k, hkl, rfl, h3⟩)
      · have : k = H.length := by simp at hk; omega
        subst this
        simp at h3
        left; rw [h3]
  · rw [rows_count (rows_rise h.wf) (rows_rise hw) hn hr, h.len]; simp
  · rw [List.mem_append, List.mem_singleton]
    constructor
    · rintro (h1 | h1)
      · right
        obtain ⟨k, hk, rfl⟩ := List.getElem_of_mem h1
        refine ⟨fun e' => hn k ?_, h1⟩
        rw [← e']
        exact (h.rows _ _).2 ⟨k, hk, rfl, rfl⟩
      · exact .inl h1
    · rintro (h1 | h1)
      · exact .inr h1
      · exact .inl h1.2
theorem FI.nil : FI .nil [] := ⟨trivial, fun p i => by simp [Tr.rows], rfl⟩

/-- A prefix is taken away; the last hop comes into its place. -/
theorem FI.del {t t1 t2 : Tr} {H : List Hp} (h : FI t H) {q : Pn} {k : Nat} (hk : k < H.length) (hp : H[k].p = q) (hw1 : t1.Wf) (hr1 : ∀ r : Pn × Int, r ∈ t1.rows ↔ r.1 ≠ q ∧ r ∈ t.rows)
    (hw2 : t2.Wf) (hr2 : ∀ r : Pn × Int, r ∈ t2.rows ↔ if k = H.length - 1 then r ∈ t1.rows else (r = ((H[H.length - 1]'(by omega)).p, (k : Int)) ∨ (r.1 ≠ (H[H.length - 1]'(by omega)).p ∧ r ∈ t1.rows))) :
    FI t2 ((H.set k (H[H.length - 1]'(by omega))).take (H.length - 1)) ∧ ∀ x, x ∈ (H.set k (H[H.length - 1]'(by omega))).take (H.length - 1) ↔ x.p ≠ q ∧ x ∈ H := by
  have hlast : H.length - 1 < H.length := by omega
  have get : ∀ (i : Nat) (hi : i < ((H.set k H[H.length - 1]).take (H.length - 1)).length), ((H.set k H[H.length - 1]).take (H.length - 1))[i] = if i = k then H[H.length - 1] else H[i]'(by simp at hi; omega) := fun i hi => by
    rw [List.getElem_take, List.getElem_set]
    by_cases e : k = i
    · subst e; simp
    · rw [if_neg e, if_neg (fun e' => e e'.symm)]
  have hlen : ((H.set k H[H.length - 1]).take (H.length - 1)).length = H.length - 1 := by simp
  have hmem2 : ∀ p i, (p, i) ∈ t2.rows ↔ ∃ (j : Nat) (hj : j < ((H.set k H[H.length - 1]).take (H.length - 1)).length), i = (j : Int) ∧ (((H.set k H[H.length - 1]).take (H.length - 1))[j]).p = p := by
    intro p i
    rw [hr2]
    by_cases hkl : k = H.length - 1
    · rw [if_pos hkl, hr1, h.rows]
      constructor
      · rintro ⟨h1, j, hj, rfl, rfl⟩
        have hjk : j ≠ k := fun e => by subst e; exact h1 hp
        refine ⟨j, by rw [hlen]; omega, rfl, ?_⟩
        rw [get, if_neg hjk]
      · rintro ⟨j, hj, rfl, h2⟩
        have hj' := hj
        rw [hlen] at hj'
        rw [get, if_neg (by omega)] at h2
        subst h2
        refine ⟨fun e => ?_, j, by omega, rfl, rfl⟩
        have := h.inj (i := j) (j := k) (by omega) hk (by rw [hp]; exact e)
        omega
    · rw [if_neg hkl, hr1, h.rows]
      constructor
      · rintro (h1 | ⟨h1, h2, j, hj, rfl, rfl⟩)
        · injection h1 with h1 h2
          subst h1 h2
          refine ⟨k, by rw [hlen]; omega, rfl, ?_⟩
          rw [get, if_pos rfl]
        · have hjk : j ≠ k := fun e => by subst e; exact h2 hp
          have hjl : j ≠ H.length - 1 := fun e => by subst e; exact h1 rfl
          refine ⟨j, by rw [hlen]; omega, rfl, ?_⟩
          rw [get, if_neg hjk]
      · rintro ⟨j, hj, rfl, h2⟩
        have hj' := hj
        rw [hlen] at hj'
        rw [get] at h2
        by_cases hjk : j = k
        · subst hjk
          rw [if_pos rfl] at h2
          left; rw [h2]
        · rw [if_neg hjk] at h2
          subst h2
          right
          refine ⟨fun e => ?_, fun e => ?_, j, by omega, rfl, rfl⟩
          · have := h.inj (i := j) (j := H.length - 1) (by omega) hlast e; omega
          · have := h.inj (i := j) (j := k) (by omega) hk (by rw [hp]; exact e); omega
  have hxm : ∀ x, x ∈ (H.set k H[H.length - 1]).take (H.length - 1) ↔ x.p ≠ q ∧ x ∈ H := by
    intro x
    constructor
    · intro hx
      obtain ⟨j, hj, rfl⟩ := List.getElem_of_mem hx
      have hj' := hj
      rw [hlen] at hj'
      rw [get]
      by_cases hjk : j = k
      · subst hjk
        rw [if_pos rfl]
        refine ⟨fun e => ?_, List.getElem_mem _⟩
        have := h.inj (i := H.length - 1) (j := j) hlast hk (by rw [hp]; exact e); omega
      · rw [if_neg hjk]
        refine ⟨fun e => ?_, List.getElem_mem _⟩
        have := h.inj (i := j) (j := k) (by omega) hk (by rw [hp]; exact e); omega
    · rintro ⟨h1, h2⟩
      obtain ⟨j, hj, rfl⟩ := List.getElem_of_mem h2
      have hjk : j ≠ k := fun e => by subst e; exact h1 hp
      by_cases hjl : j = H.length - 1
      · subst hjl
        exact List.mem_iff_getElem.2 ⟨k, by rw [hlen]; omega, by rw [get, if_pos rfl]⟩
      · exact List.mem_iff_getElem.2 ⟨j, by rw [hlen]; omega, by rw [get, if_neg hjk]⟩
  refine ⟨⟨hw2, hmem2, ?_⟩, hxm⟩
  -- the count
  have hn : ∀ {l : List (Pn × Int)}, Rises l → l.Nodup := fun {l} h => List.Pairwise.imp (fun {a b} hab e => by rw [e] at hab; exact lt_irrefl _ hab) h
  have c1 : t.rows.length = t1.rows.length + 1 := by
    refine rows_count (q := q) (v := (k : Int)) (rows_rise hw1) (rows_rise h.wf) (fun u hu => ((hr1 _).1 hu).1 rfl) (fun r => ?_)
    rw [hr1]
    constructor
    · intro hr
      by_cases e : r.1 = q
      · left
        exact rises_inj (rows_rise h.wf) hr ((h.rows q k).2 ⟨k, hk, rfl, hp⟩) e
      · exact .inr ⟨e, hr⟩
    · rintro (rfl | hr)
      · exact (h.rows q k).2 ⟨k, hk, rfl, hp⟩
      · exact hr.2
  have c2 : t2.rows.length = t1.rows.length := by
    by_cases hkl : k = H.length - 1
    · have p : t2.rows.Perm t1.rows := (List.perm_ext_iff_of_nodup (hn (rows_rise hw2)) (hn (rows_rise hw1))).2 (fun r => by rw [hr2, if_pos hkl])
      exact p.length_eq
    · have hne : (H[H.length - 1]).p ≠ q := fun e => by
        have := h.inj (i := H.length - 1) (j := k) hlast hk (by rw [hp]; exact e); omega
      have hin : ((H[H.length - 1]).p, ((H.length - 1 : Nat) : Int)) ∈ t1.rows := (hr1 _).2 ⟨hne, (h.rows _ _).2 ⟨H.length - 1, hlast, rfl, rfl⟩⟩
      have hr2' : ∀ r : Pn × Int, r ∈ t2.rows ↔ (r = ((H[H.length - 1]).p, (k : Int)) ∨ (r.1 ≠ (H[H.length - 1]).p ∧ r ∈ t1.rows)) := fun r => by rw [hr2, if_neg hkl]
      have hnd : (t1.rows.filter (fun r => !decide (r.1 = (H[H.length - 1]).p))).Nodup := (hn (rows_rise hw1)).filter _
      have hri : Rises (t1.rows.filter (fun r => !decide (r.1 = (H[H.length - 1]).p))) := List.Pairwise.filter _ (rows_rise hw1)
      have a1 := rows_count (l := t1.rows.filter (fun r => !decide (r.1 = (H[H.length - 1]).p))) (q := (H[H.length - 1]).p) (v := (k : Int)) hri (rows_rise hw2) (fun u hu => by simp at hu) (fun r => by rw [hr2', List.mem_filter]; simp [and_comm])
      have a2 := rows_count (l := t1.rows.filter (fun r => !decide (r.1 = (H[H.length - 1]).p))) (q := (H[H.length - 1]).p) (v := ((H.length - 1 : Nat) : Int)) hri (rows_rise hw1) (fun u hu => by simp at hu) (fun r => by
        rw [List.mem_filter]
        constructor
        · intro hr
          by_cases e : r.1 = (H[H.length - 1]).p
          · exact .inl (rises_inj (rows_rise hw1) hr hin e)
          · exact .inr ⟨hr, by simpa using e⟩
        · rintro (rfl | hr)
          · exact hin
          · exact hr.1)
      omega
  rw [hlen, ← h.len]
  omega
end Go.Proofs.YtfaiponmjjbgoaaGreatDoor

/- append of a whole slice that reads as a list, to a row of the call's own. No condition but the bound on bytes. -/
namespace Go.Proofs.YtfaiponmjjbgoaaGreatDoor
open Go.RowKit

theorem flat_at {α : Type} {sz : Nat} {enc : α → List Value} (hs : 0 < sz) (henc : ∀ x, (enc x).length = sz) : ∀ (ys : List α) (j : Nat) (u : Value), (ys.flatMap enc)[j]? = some u → ∃ (i k : Nat) (h : i < ys.length), j = i * sz + k ∧ (enc (ys[i]'h))[k]? = some u
  | [], j, u, h => by simp at h
  | y :: ys, j, u, h => by
    rw [List.flatMap_cons] at h
    by_cases hj : j < (enc y).length
    · rw [List.getElem?_append_left hj] at h
      exact ⟨0, j, by simp, by omega, h⟩
    · rw [List.getElem?_append_right (by omega), henc] at h
      obtain ⟨i, k, hi, he, hc⟩ := flat_at hs henc ys _ u h
      rw [henc] at hj
      exact ⟨i + 1, k, by simpa using hi, by rw [Nat.add_mul]; omega, by simpa using hc⟩

theorem grown_refl (w : World) (row : Option Nat) : w.grownBy w row := ⟨rfl, rfl, rfl, Nat.le_refl _, fun _ _ _ => rfl⟩

theorem run_append_nil {P : Program} {w : World} (base : Nat) (t ty e : TypeId) (i : TypeInfo) (size c : Nat) (ht : P.underlying t = some (.slice e)) (hi : P.info? e = some i)
    (v : Value) (n : Nat) (xs : List Value) (hown : w.ownsRow base e size v n xs) :
    (Builtin.append_ #[t, t] ty #[v, .slice none 0 c]).run P w = .ok v w := by
  rcases hown.2 with ⟨rfl, rfl⟩ | ⟨g, cap, cur, rfl, _, _, hnc, _⟩
  · simp [Builtin.append_, run_underlying ht, sizeOf, typeInfo, hi, Builtin.lenOf, Builtin.firstCells]
  · simp [Builtin.append_, run_underlying ht, sizeOf, typeInfo, hi, Builtin.lenOf, Builtin.firstCells, hnc, storeCells]

theorem run_appl {α : Type} {enc : α → List Value} {P : Program} {t e : TypeId} {z : Value} {size bytes : Nat} (E : ElemOf P t e z size bytes) (ty : TypeId) (henc : ∀ x, (enc x).length = size) (hone : ∀ x, ∀ u ∈ enc x, u.oneCell' = true)
    {w : World} {base : Nat} {v : Value} {xs ys : List α} {A : Option Addr} {c : Nat} (hown : Own w base e size enc v xs) (hrd : Rd w size enc A ys)
    (hfit : (xs.length + ys.length) * (bytes + 1) ≤ 140737488355328) (hbase : base ≤ w.heap.size) :
    ∃ v' w', (Builtin.append_ #[t, t] ty #[v, .slice A ys.length c]).run P w = .ok v' w' ∧ Own w' base e size enc v' (xs ++ ys) ∧ w.grownBy w' v.ownBlock ∧ (v'.ownBlock = v.ownBlock ∨ v'.ownBlock = some w.heap.size) := by
  obtain ⟨ht, hinfo, hzs, hsz⟩ := E
  obtain ⟨i, hi, hz, hsize, hby⟩ := info_parts hinfo
  have hb2 : (xs.length + ys.length) * (bytes + 1) = (xs.length + ys.length) * bytes + (xs.length + ys.length) := by rw [Nat.mul_add, Nat.mul_one]
  cases A with
  | none =>
    have hy : ys = [] := by
      cases ys with
      | nil => rfl
      | cons y ys => obtain ⟨b, off, hh, _⟩ := hrd 0 (by simp); cases hh
    subst hy
    exact ⟨v, w, run_append_nil base t ty e i size c ht hi v _ _ hown, by simpa using hown, grown_refl _ _, .inl rfl⟩
  | some ad =>
    obtain ⟨v', w', hr, h2, h3, _, h5⟩ := run_append_own_at (P := P) w base t ty e i z size bytes ht hi hz hsize hby hzs hsz v xs.length (xs.flatMap enc) hown ad ys.length c (ys.flatMap enc) (flat_len henc ys) (by
      intro j u hu
      obtain ⟨k, q, hk, rfl, hq⟩ := flat_at hsz henc ys j u hu
      obtain ⟨b, off, he, hc⟩ := hrd k hk
      injection he with he
      subst he
      have hadd : (⟨b, off, none⟩ : Addr).add (k * size + q) = ⟨b, off + k * size + q, none⟩ := by unfold Addr.add; split <;> simp_all [Nat.add_assoc]
      rw [hadd]
      exact hc q u hq) (by
      intro u hu
      obtain ⟨y, _, hy⟩ := List.mem_flatMap.1 hu
      exact hone y u hy) (by simp only [maxLen]; omega) (by omega) hbase
    refine ⟨v', w', hr, ?_, h3, h5⟩
    unfold Own
    rw [List.length_append, List.flatMap_append]
    exact h2

theorem wpList_appl {α : Type} {enc : α → List Value} {P : Program} {t e : TypeId} {z : Value} {size bytes : Nat} (E : ElemOf P t e z size bytes) (henc : ∀ x, (enc x).length = size) (hone : ∀ x, ∀ u ∈ enc x, u.oneCell' = true)
    {w : World} {ops : Array Oper} {rest : List Oper} {o : Oper} {a : Act} {Q : Exit → Act → World → Prop} (hgd : o.guard = none) (s x : Operand) (ho : o.op = .call { callee := .builtin .append, args := #[s, x], argTypes := #[t, t] })
    {base : Nat} {v : Value} {xs ys : List α} {A : Option Addr} {c : Nat} (hs : a.eval s = v) (hx : a.eval x = .slice A ys.length c) (hown : Own w base e size enc v xs) (hrd : Rd w size enc A ys)
    (hfit : (xs.length + ys.length) * (bytes + 1) ≤ 140737488355328) (hbase : base ≤ w.heap.size)
    (h : ∀ v' w', Own w' base e size enc v' (xs ++ ys) → w.grownBy w' v.ownBlock → (v'.ownBlock = v.ownBlock ∨ v'.ownBlock = some w.heap.size) → wpList P ops Q rest (a.put o.dst v') w') : wpList P ops Q (o :: rest) a w := by
  refine wpList_plain hgd fun K hK => ?_
  obtain ⟨v', w', hr, h1, h2, h3⟩ := run_appl E o.type henc hone hown hrd hfit hbase
  unfold Oper.wp
  simp [execOp, ho, resolve, invoke, builtin, hs, hx, Result.andThen]
  rw [hr]
  exact hK _ _ (h v' w' h1 h2 h3)

theorem step_appl {α : Type} {enc : α → List Value} {P : Program} {t e : TypeId} {z : Value} {size bytes : Nat} (E : ElemOf P t e z size bytes) (henc : ∀ x, (enc x).length = size) (hone : ∀ x, ∀ u ∈ enc x, u.oneCell' = true)
    {w : World} {ops : Array Oper} {o : Oper} {a : Act} {K : Act → World → Prop} {Q : Exit → Act → World → Prop} {X : Prop} (hgd : o.guard = none) (s x : Operand) (ho : o.op = .call { callee := .builtin .append, args := #[s, x], argTypes := #[t, t] })
    {base : Nat} {v : Value} {xs ys : List α} {A : Option Addr} {c : Nat} (hs : a.eval s = v) (hx : a.eval x = .slice A ys.length c) (hown : Own w base e size enc v xs) (hrd : Rd w size enc A ys)
    (hfit : (xs.length + ys.length) * (bytes + 1) ≤ 140737488355328) (hbase : base ≤ w.heap.size)
    (h : ∀ v' w', Own w' base e size enc v' (xs ++ ys) → w.grownBy w' v.ownBlock → (v'.ownBlock = v.ownBlock ∨ v'.ownBlock = some w.heap.size) → K (a.put o.dst v') w') :
    if Region.wanted o (yielded ops a.tmps) = true then Oper.wp P o a w K Q else X := by
  have hw : Region.wanted o (yielded ops a.tmps) = true := by simp [Region.wanted, hgd]
  rw [if_pos hw]
  obtain ⟨v', w', hr, h1, h2, h3⟩ := run_appl E o.type henc hone hown hrd hfit hbase
  unfold Oper.wp
  simp [execOp, ho, resolve, invoke, builtin, hs, hx, Result.andThen]
  rw [hr]
  exact h v' w' h1 h2 h3

theorem Own.empty {α : Type} {w : World} {base e sz g : Nat} {enc : α → List Value} (hb : base ≤ g) (hB : Blk w g e #[]) : Own w base e sz enc (.slice (some ⟨g, 0, none⟩) 0 0) [] :=
  ⟨by simp, .inr ⟨g, 0, #[], rfl, hb, hB, Nat.le_refl _, by simp, by simp, by simp⟩⟩

theorem Own.rdAt {α : Type} {w : World} {base e sz n c : Nat} {enc : α → List Value} {A : Option Addr} {xs : List α} (hs : 0 < sz) (henc : ∀ x, (enc x).length = sz) (h : Own w base e sz enc (.slice A n c) xs) : Rd w sz enc A xs := by
  obtain ⟨A', c', hv, hr⟩ := h.rd hs henc
  injection hv with h1 h2 h3
  subst h1
  exact hr

/-- append of a whole slice to an empty one that was just made: at a step of a region that draws its order. -/
theorem step_clone {α : Type} {enc : α → List Value} {P : Program} {t e : TypeId} {z : Value} {size bytes : Nat} (E : ElemOf P t e z size bytes) (henc : ∀ x, (enc x).length = size) (hone : ∀ x, ∀ u ∈ enc x, u.oneCell' = true)
    {w0 w : World} {ops : Array Oper} {o : Oper} {a : Act} {K : Act → World → Prop} {Q : Exit → Act → World → Prop} {X : Prop} (hgd : o.guard = none) (s x : Operand) (ho : o.op = .call { callee := .builtin .append, args := #[s, x], argTypes := #[t, t] })
    {N : Nat} {ys : List α} {A : Option Addr} {c : Nat} (hs : a.eval s = .slice (some ⟨N, 0, none⟩) 0 0) (hx : a.eval x = .slice A ys.length c) (hK : Kp w0 w) (hB : Blk w N e #[]) (hN : w0.heap.size ≤ N) (hrd : Rd w0 size enc A ys)
    (hfit : ys.length * (bytes + 1) ≤ 140737488355328)
    (h : ∀ v' w', Own w' w0.heap.size e size enc v' ys → Kp w0 w' → (∀ g t cs, Blk w g t cs → g ≠ N → Blk w' g t cs) → w0.heap.size ≤ w'.heap.size → K (a.put o.dst v') w') :
    if Region.wanted o (yielded ops a.tmps) = true then Oper.wp P o a w K Q else X := by
  refine step_appl E henc hone hgd s x ho hs hx (Own.empty (enc := enc) hN hB) (hrd.keep hK) (by simpa using hfit) hK.size (fun v' w' h1 h2 h3 => ?_)
  have e1 : w0.heap.size ≤ w'.heap.size := Nat.le_trans hK.size h2.size
  refine h v' w' (by simpa using h1) (hK.grown h2 (fun q hq => ?_)) (fun g t cs hb hne => hb.grown h2 (fun e => ?_)) e1
  · have := (World.ownsRow.lt (Own.empty (enc := enc) (sz := size) hN hB) q hq).1; exact this
  · have hq : (Value.slice (some ⟨N, 0, none⟩) 0 0).ownBlock = some N := rfl
    rw [hq] at e
    injection e with e
    exact hne e
end Go.Proofs.YtfaiponmjjbgoaaGreatDoor

/- A table of hops in memory; fib's none, New, Len, place. -/
namespace Go.Proofs.YtfaiponmjjbgoaaGreatDoor
open Go.RowKit
attribute [local go_sem] Oper.semAt_some

def Hp.enc (h : Hp) : List Value := [.int .u32 h.p.a, .int .i64 h.p.l, .bool h.d, .int .i64 h.f, .int .u32 h.x, .int .i64 h.m]
theorem Hp.len (h : Hp) : h.enc.length = 6 := rfl
theorem Hp.one (h : Hp) : ∀ u ∈ h.enc, u.oneCell' = true := by
  intro u hu
  simp only [Hp.enc, List.mem_cons, List.not_mem_nil, or_false] at hu
  rcases hu with rfl | rfl | rfl | rfl | rfl | rfl <;> rfl
theorem EHop : ElemOf Tryz.prog 33 53 (.agg #[.int .u32 0, .int .i64 0, .bool false, .int .i64 0, .int .u32 0, .int .i64 0]) 6 48 := ⟨Tryz.underlying33, by kernel_rfl, rfl, by decide⟩

def rowB : Option Addr → List Nat
  | some a => [a.block]
  | none => []
/-- The blocks of a table of hops. -/
def Fp (f tr : Nat) (t : Tr) (A : Option Addr) : List Nat := f :: tr :: (t.bs ++ rowB A)

/-- A table of hops in memory, its hops in the order in which they lie. -/
structure FibM (w : World) (f tr : Nat) (t : Tr) (A : Option Addr) (c : Nat) (H : List Hp) : Prop where
  blk : Blk w f 69 #[.pointer (some ⟨tr, 0, none⟩), .slice A H.length c]
  trie : TrieM w tr t H.length
  own : Own w 0 53 6 Hp.enc (.slice A H.length c) H
  fi : FI t H
  ftr : f ≠ tr
  fbs : f ∉ t.bs
  row : ∀ a, A = some a → a.block ≠ f ∧ a.block ≠ tr ∧ a.block ∉ t.bs
  room : H.length ≤ 512
  oks : ∀ h ∈ H, h.p.ok

theorem Own.lt_ {α : Type} {w : World} {base e sz n c : Nat} {enc : α → List Value} {A : Option Addr} {xs : List α} (h : Own w base e sz enc (.slice A n c) xs) : ∀ a, A = some a → a.block < w.heap.size := by
  rintro a rfl
  rcases h.2 with ⟨h2, _⟩ | ⟨g, cap, cur, hv, hg, hh, _⟩
  · cases h2
  · injection hv with h1; injection h1 with h1; rw [h1]; exact (Array.getElem?_eq_some_iff.1 hh).1
theorem Own.only_ {α : Type} {bs : List Nat} {w w' : World} {base e sz n c : Nat} {enc : α → List Value} {A : Option Addr} {xs : List α} (h : Own w base e sz enc (.slice A n c) xs) (k : Only bs w w') (hb : ∀ a, A = some a → a.block ∉ bs) : Own w' base e sz enc (.slice A n c) xs := by
  refine ⟨h.1, ?_⟩
  rcases h.2 with h2 | ⟨g, cap, cur, hv, hg, hh, r⟩
  · exact .inl h2
  · refine .inr ⟨g, cap, cur, hv, hg, ?_, r⟩
    injection hv with h1
    exact (k.block g (Array.getElem?_eq_some_iff.1 hh).1 (hb ⟨g, 0, none⟩ h1)).trans hh

theorem FibM.lt {w : World} {f tr : Nat} {t : Tr} {A : Option Addr} {c : Nat} {H : List Hp} (h : FibM w f tr t A c H) : ∀ b ∈ Fp f tr t A, b < w.heap.size := by
  intro b hb
  simp only [Fp, List.mem_cons, List.mem_append] at hb
  rcases hb with rfl | rfl | hb | hb
  · exact h.blk.lt
  · exact h.trie.blk.lt
  · exact h.trie.tm.lt b hb
  · cases A with
    | none => cases hb
    | some a => simp only [rowB, List.mem_singleton] at hb; rw [hb]; exact h.own.lt_ a rfl
theorem FibM.only {bs : List Nat} {w w' : World} {f tr : Nat} {t : Tr} {A : Option Addr} {c : Nat} {H : List Hp} (h : FibM w f tr t A c H) (k : Only bs w w') (hb : ∀ b ∈ Fp f tr t A, b ∉ bs) : FibM w' f tr t A c H :=
  ⟨h.blk.only k (hb f (by simp [Fp])), h.trie.only k (hb tr (by simp [Fp])) (fun b hbb => hb b (by simp [Fp, hbb])), h.own.only_ k (fun a ha => hb a.block (by subst ha; simp [Fp, rowB])), h.fi, h.ftr, h.fbs, h.row, h.room, h.oks⟩
theorem FibM.keep {w w' : World} {f tr : Nat} {t : Tr} {A : Option Addr} {c : Nat} {H : List Hp} (h : FibM w f tr t A c H) (k : Kp w w') : FibM w' f tr t A c H := h.only (bs := []) (Only.of_kp k) (fun _ _ => by simp)

/-- A table of hops: its blocks, and its hops in the order of their prefixes. -/
def FM (w : World) (f : Nat) (F : List Nat) (L : List Hp) : Prop := ∃ tr t A c H, F = Fp f tr t A ∧ FibM w f tr t A c H ∧ Up L ∧ H.Perm L
theorem FM.only {bs : List Nat} {w w' : World} {f : Nat} {F : List Nat} {L : List Hp} (h : FM w f F L) (k : Only bs w w') (hb : ∀ b ∈ F, b ∉ bs) : FM w' f F L := by
  obtain ⟨tr, t, A, c, H, rfl, m, u, p⟩ := h
  exact ⟨tr, t, A, c, H, rfl, m.only k hb, u, p⟩
theorem FM.keep {w w' : World} {f : Nat} {F : List Nat} {L : List Hp} (h : FM w f F L) (k : Kp w w') : FM w' f F L := h.only (bs := []) (Only.of_kp k) (fun _ _ => by simp)
theorem FM.lt {w : World} {f : Nat} {F : List Nat} {L : List Hp} (h : FM w f F L) : ∀ b ∈ F, b < w.heap.size := by
  obtain ⟨tr, t, A, c, H, rfl, m, _⟩ := h
  exact m.lt
/-- The table has turned: only its own blocks, and new ones. -/
def FT (w w' : World) (f : Nat) (F : List Nat) (L : List Hp) : Prop := ∃ F', FM w' f F' L ∧ Only F w w' ∧ ∀ b ∈ F', b ∈ F ∨ w.heap.size ≤ b

theorem fib_eq_nil (w : World) (b : Nat) : (binOp .eql 31 (.pointer (some ⟨b, 0, none⟩)) (.pointer none)).run Tryz.prog w = .ok (.bool false) w := by kernel_rfl
set_option maxHeartbeats 400000 in
theorem fnone_any (f tr : Nat) (x : Value) (w : World) (hB : Blk w f 69 #[.pointer (some ⟨tr, 0, none⟩), x]) :
    Calls Tryz.prog 26 #[.pointer (some ⟨f, 0, none⟩)] w fun e w' => e = .returned (.bool false) ∧ w = w' := by
  have h1 := fib_eq_nil
  have h2 := trie_eq_nil
  have c0 : w.cell? ⟨f, 0, none⟩ = some (.pointer (some ⟨tr, 0, none⟩)) := hB.cell 0
  go_enter Tryz.func26, Tryz.ntmps26
  go_wp2_with fail
  go_ret
  exact ⟨rfl, rfl⟩

theorem tnew_any (w : World) : Calls Tryz.prog 25 #[] w fun e w' => e = .returned (.pointer (some ⟨w.heap.size, 0, none⟩)) ∧ Blk w' w.heap.size 87 #[.pointer none, .int .i64 0, .bool true] ∧ Kp w w' := by
  go_enter Tryz.func25, Tryz.ntmps25
  go_wp2_with fail
  go_ret
  exact ⟨rfl, Blk.new w _ _, (Kp.refl _).alloc _⟩
def NewPost2 (w : World) (e : Ending) (w' : World) : Prop := ∃ f F, e = .returned (.pointer (some ⟨f, 0, none⟩)) ∧ FM w' f F [] ∧ Kp w w' ∧ ∀ b ∈ F, w.heap.size ≤ b
set_option maxHeartbeats 400000 in
theorem fnew_any (w : World) : Calls Tryz.prog 7 #[] w (NewPost2 w) := by
  go_enter Tryz.func7, Tryz.ntmps7
  go_wp2_with fail
  refine (tnew_any w).mono ?_
  rintro e w1 ⟨rfl, hB, hK⟩
  have hlt := hB.lt
  go_wp2_with fail
  go_ret
  refine ⟨w1.heap.size, Fp w1.heap.size w.heap.size .nil none, rfl, ⟨w.heap.size, .nil, none, 0, [], rfl, ⟨Blk.new w1 _ _, ⟨hB.alloc _, trivial, trivial, by simp [Tr.bs], by simp [Tr.bs]⟩, Own.nil _ _ _ _ _, FI.nil, by omega, by simp [Tr.bs], (fun a h => by cases h), by simp, by simp⟩, List.Pairwise.nil, List.Perm.refl _⟩, hK.alloc _, ?_⟩
  intro b hb
  simp [Fp, Tr.bs, rowB] at hb
  rcases hb with rfl | rfl
  · exact hK.size
  · exact Nat.le_refl _

set_option maxHeartbeats 400000 in
theorem flen_any (f : Nat) (F : List Nat) (L : List Hp) (w : World) (h : FM w f F L) :
    Calls Tryz.prog 19 #[.pointer (some ⟨f, 0, none⟩)] w fun e w' => e = .returned (.int .i64 L.length) ∧ w = w' := by
  obtain ⟨tr, t, A, c, H, rfl, m, u, p⟩ := h
  have hB := m.blk
  rw [p.length_eq] at hB
  have c1 : w.cell? ⟨f, 1, none⟩ = some (.slice A L.length c) := hB.cell 1
  clear m p u
  go_enter Tryz.func19, Tryz.ntmps19
  go_wp2_with fail
  refine (fnone_any f tr _ _ hB).mono ?_
  rintro e w' ⟨rfl, rfl⟩
  go_wp2_with fail
  go_ret
  exact ⟨rfl, rfl⟩

/-- Where a prefix's hop lies. -/
theorem got_at {t : Tr} {H : List Hp} (h : FI t H) {q : Pn} (hq : q.ok) : (∃ (k : Nat) (hk : k < H.length), H[k].p = q ∧ ((t.look q).got q) = ((k : Int), true) ∧ ∃ b x y, t.look q = .node b q (k : Int) true x y) ∨ ((∀ e ∈ H, e.p ≠ q) ∧ ((t.look q).got q) = (0, false) ∧ ∀ u, (q, u) ∉ t.rows) := by
  by_cases hm : ∃ u, (q, u) ∈ t.rows
  · obtain ⟨u, hu⟩ := hm
    obtain ⟨k, hk, rfl, hp⟩ := (h.rows q u).1 hu
    obtain ⟨b, x, y, hl⟩ := (look_mem hq h.wf _).1 hu
    left
    exact ⟨k, hk, hp, by rw [hl]; simp [Tr.got], b, x, y, hl⟩
  · right
    have hno : ∀ u, (q, u) ∉ t.rows := fun u hu => hm ⟨u, hu⟩
    refine ⟨fun e he hp => ?_, ?_, hno⟩
    · obtain ⟨k, hk, rfl⟩ := List.getElem_of_mem he
      exact hno k ((h.rows q k).2 ⟨k, hk, rfl, hp⟩)
    · rcases hl : t.look q with _ | ⟨b, p, v, hh, x, y⟩
      · rfl
      · show (if p = q ∧ hh = true then (v, true) else (0, false)) = _
        rw [if_neg]
        rintro ⟨rfl, rfl⟩
        exact hno v ((look_mem hq h.wf v).2 ⟨b, x, y, hl⟩)

set_option maxRecDepth 100000 in
set_option maxHeartbeats 1000000 in
theorem kplace_any (tr : Nat) (q : Pn) (many : Int) (t : Tr) (w : World) (hG : RelsAt w) (hT : TrieM w tr t many) (hq : q.ok) :
    Calls Tryz.prog 35 #[.agg #[.pointer (some ⟨tr, 0, none⟩)], .agg #[.int .u32 q.a, .int .i64 q.l]] w fun e w' => e = .returned (.tuple #[.int .i64 ((t.look q).got q).1, .bool ((t.look q).got q).2]) ∧ Kp w w' := by
  have HT := Lib.hid hT
  have HG := Lib.hid hG
  have Hq := Lib.hid hq
  clear hT hG hq
  obtain ⟨g, hg⟩ : ∃ g, (t.look q).got q = g := ⟨_, rfl⟩
  rw [hg]
  have Hg := Lib.hid hg; clear hg
  go_enter Tryz.func35, Tryz.ntmps35
  go_wp2_with fail
  have k1 : Kp w ((w.alloc (.cells #[.pointer (some ⟨tr, 0, none⟩)] 67)).alloc (.cells #[.int .u32 q.a, .int .i64 q.l] 26)) := ((Kp.refl _).alloc _).alloc _
  refine (get_any tr q many t _ (HG.out.keep k1) (HT.out.blk.keep k1) (HT.out.tm.keep k1) HT.out.wf Hq.out).mono ?_
  rintro e w1 ⟨rfl, hK⟩
  rw [Hg.out]
  go_wp2_with fail
  go_ret2
  exact ⟨rfl, k1.trans hK⟩
end Go.Proofs.YtfaiponmjjbgoaaGreatDoor

/- Rows of hops in memory: a hop is set, the last one goes. No condition. -/
namespace Go.Proofs.YtfaiponmjjbgoaaGreatDoor
open Go.RowKit

theorem flat_set {α : Type} {sz : Nat} {enc : α → List Value} (henc : ∀ x, (enc x).length = sz) : ∀ (xs : List α) (k : Nat) (y : α), k < xs.length → ∃ P S, P.length = k * sz ∧ (∃ x, xs.flatMap enc = P ++ (enc x ++ S)) ∧ (xs.set k y).flatMap enc = P ++ (enc y ++ S)
  | [], k, y, h => by simp at h
  | x :: xs, 0, y, h => ⟨[], xs.flatMap enc, by simp, ⟨x, by simp⟩, by simp⟩
  | x :: xs, k + 1, y, h => by
    obtain ⟨P, S, h1, ⟨z, h2⟩, h3⟩ := flat_set henc xs k y (by simpa using h)
    refine ⟨enc x ++ P, S, by simp [h1, henc, Nat.add_mul]; omega, ⟨z, by simp [h2]⟩, by simp [h3]⟩
theorem len6 {l : List Value} (h : l.length = 6) : ∃ a b c d e f, l = [a, b, c, d, e, f] := by
  match l, h with
  | [a, b, c, d, e, f], _ => exact ⟨a, b, c, d, e, f, rfl⟩

/-- A hop is stored in a row, cell by cell. -/
def set6 (w : World) (g o : Nat) (y : Hp) : World := (((((w.setCell ⟨g, o, none⟩ (.int .u32 y.p.a)).setCell ⟨g, o + 1, none⟩ (.int .i64 y.p.l)).setCell ⟨g, o + 2, none⟩ (.bool y.d)).setCell ⟨g, o + 3, none⟩ (.int .i64 y.f)).setCell ⟨g, o + 4, none⟩ (.int .u32 y.x)).setCell ⟨g, o + 5, none⟩ (.int .i64 y.m)
theorem Only.set6 {bs : List Nat} {a w : World} (h : Only bs a w) {g : Nat} (hg : g ∈ bs) (o : Nat) (y : Hp) : Only bs a (set6 w g o y) :=
  (((((h.setCell (p := ⟨g, _, none⟩) (.inl hg) _).setCell (p := ⟨g, _, none⟩) (.inl hg) _).setCell (p := ⟨g, _, none⟩) (.inl hg) _).setCell (p := ⟨g, _, none⟩) (.inl hg) _).setCell (p := ⟨g, _, none⟩) (.inl hg) _).setCell (p := ⟨g, _, none⟩) (.inl hg) _
theorem Own.set6 {w : World} {e g n c k : Nat} {H : List Hp} (h : Own w 0 e 6 Hp.enc (.slice (some ⟨g, 0, none⟩) n c) H) (hk : k < H.length) (y : Hp) : Own (set6 w g (k * 6) y) 0 e 6 Hp.enc (.slice (some ⟨g, 0, none⟩) n c) (H.set k y) := by
  obtain ⟨h1, h2⟩ := h
  unfold Own
  rw [List.length_set]
  rcases h2 with ⟨h2, _⟩ | ⟨g', cap, cur, hv, hg, hh, hn, hm, hs, ht⟩
  · cases h2
  injection hv with e1 e2 e3
  injection e1 with e1
  injection e1 with e1
  subst e1 e2 e3
  obtain ⟨P, S, hP, ⟨x, hx⟩, hS⟩ := flat_set Hp.len H k y hk
  have hB : Blk w g e cur := hh
  have hB' := (((((hB.set_ (k * 6) (.int .u32 y.p.a)).set_ (k * 6 + 1) (.int .i64 y.p.l)).set_ (k * 6 + 2) (.bool y.d)).set_ (k * 6 + 3) (.int .i64 y.f)).set_ (k * 6 + 4) (.int .u32 y.x)).set_ (k * 6 + 5) (.int .i64 y.m)
  refine ⟨by rw [flat_len Hp.len]; simp, .inr ⟨g, c, _, rfl, Nat.zero_le _, hB', hn, hm, by simpa using hs, ?_⟩⟩
  obtain ⟨a0, a1, a2, a3, a4, a5, hl⟩ := len6 (Hp.len x)
  obtain ⟨D, hcur⟩ : ∃ D, cur.toList = P ++ ([a0, a1, a2, a3, a4, a5] ++ (S ++ D)) := by
    refine ⟨cur.toList.drop (H.length * 6), ?_⟩
    conv => lhs; rw [← List.take_append_drop (H.length * 6) cur.toList, ht, hx, hl]
    simp
  have hlen : (P ++ (Hp.enc y ++ S)).length = H.length * 6 := by rw [← hS, flat_len Hp.len]; simp
  simp only [Array.toList_setIfInBounds, hcur]
  have e0 : k * 6 = P.length := hP.symm
  rw [hS]
  have : ((((((P ++ ([a0, a1, a2, a3, a4, a5] ++ (S ++ D))).set (k * 6) (.int .u32 y.p.a)).set (k * 6 + 1) (.int .i64 y.p.l)).set (k * 6 + 2) (.bool y.d)).set (k * 6 + 3) (.int .i64 y.f)).set (k * 6 + 4) (.int .u32 y.x)).set (k * 6 + 5) (.int .i64 y.m) = (P ++ (Hp.enc y ++ S)) ++ D := by
    rw [e0]
    simp [List.set_append, Hp.enc]
  rw [this, ← hlen, List.take_left']
  rfl
/-- The row is one shorter. -/
theorem Own.cut {w : World} {e n c : Nat} {A : Option Addr} {H : List Hp} (h : Own w 0 e 6 Hp.enc (.slice A n c) H) {m : Nat} (hm : m < H.length) : Own w 0 e 6 Hp.enc (.slice A m c) (H.take m) := by
  obtain ⟨h1, h2⟩ := h
  unfold Own
  have hl : (H.take m).length = m := by simp; omega
  rw [hl]
  rcases h2 with ⟨h2, h0⟩ | ⟨g', cap, cur, hv, hg, hh, hn, hm', hs, ht⟩
  · omega
  injection hv with e1 e2 e3
  subst e1 e2 e3
  refine ⟨by rw [flat_len Hp.len, hl], .inr ⟨g', c, cur, rfl, Nat.zero_le _, hh, by omega, hm', hs, ?_⟩⟩
  have e1 : cur.toList.take (m * 6) = (cur.toList.take (H.length * 6)).take (m * 6) := by rw [List.take_take]; congr 1; omega
  rw [e1, ht]
  conv => lhs; rw [← List.take_append_drop m H, List.flatMap_append]
  exact List.take_left' (by rw [flat_len Hp.len, hl])

theorem hop_at {w : World} {A : Option Addr} {l : List Hp} (h : Rd w 6 Hp.enc A l) {k : Nat} (hk : k < l.length) :
    ∃ b off : Nat, A = some ⟨b, off, none⟩ ∧ w.cell? ⟨b, off + k * 6, none⟩ = some (.int .u32 l[k].p.a) ∧ w.cell? ⟨b, off + k * 6 + 1, none⟩ = some (.int .i64 l[k].p.l) ∧ w.cell? ⟨b, off + k * 6 + 2, none⟩ = some (.bool l[k].d) ∧ w.cell? ⟨b, off + k * 6 + 3, none⟩ = some (.int .i64 l[k].f) ∧ w.cell? ⟨b, off + k * 6 + 4, none⟩ = some (.int .u32 l[k].x) ∧ w.cell? ⟨b, off + k * 6 + 5, none⟩ = some (.int .i64 l[k].m) := by
  obtain ⟨b, off, e, hc⟩ := h k hk
  exact ⟨b, off, e, hc 0 _ rfl, hc 1 _ rfl, hc 2 _ rfl, hc 3 _ rfl, hc 4 _ rfl, hc 5 _ rfl⟩
/-- A row that holds a hop lies in a block of its own. -/
theorem Own.some_ {w : World} {e n c : Nat} {A : Option Addr} {H : List Hp} (h : Own w 0 e 6 Hp.enc (.slice A n c) H) (hk : 0 < H.length) : ∃ g cur, A = some ⟨g, 0, none⟩ ∧ Blk w g e cur ∧ H.length ≤ c ∧ n = H.length := by
  rcases h.2 with ⟨_, h0⟩ | ⟨g, cap, cur, hv, hg, hh, hn, _⟩
  · omega
  · injection hv with e1 e2 e3
    subst e3
    exact ⟨g, cur, e1, hh, hn, e2⟩
end Go.Proofs.YtfaiponmjjbgoaaGreatDoor

/- fib's put: a hop in the place of its prefix's. -/
namespace Go.Proofs.YtfaiponmjjbgoaaGreatDoor
open Go.RowKit
attribute [local go_sem] Oper.semAt_some

def PutHad (w : World) (A : Option Addr) (k : Nat) (h : Hp) (e : Ending) (w' : World) : Prop := e = .returned (.int .i64 0) ∧ ∃ g, A = some ⟨g, 0, none⟩ ∧ ∃ W, Kp w W ∧ w' = set6 W g (k * 6) h
set_option maxRecDepth 100000 in
set_option maxHeartbeats 2000000 in
theorem fput_had (f tr : Nat) (t : Tr) (A : Option Addr) (c : Nat) (H : List Hp) (h : Hp) (k : Nat) (w : World) (hG : RelsAt w) (m : FibM w f tr t A c H) (hk : k < H.length) (hgot : (t.look h.p).got h.p = ((k : Int), true)) (hq : h.p.ok) :
    Calls Tryz.prog 42 #[.pointer (some ⟨f, 0, none⟩), .agg #[.int .u32 h.p.a, .int .i64 h.p.l, .bool h.d, .int .i64 h.f, .int .u32 h.x, .int .i64 h.m]] w (PutHad w A k h) := by
  have HM := Lib.hid m
  have HG := Lib.hid hG
  have Hq := Lib.hid hq
  have Hg := Lib.hid hgot
  have hlen := m.room
  obtain ⟨W, hW, kW, B0⟩ : ∃ W, w.alloc (.cells #[.int .u32 h.p.a, .int .i64 h.p.l, .bool h.d, .int .i64 h.f, .int .u32 h.x, .int .i64 h.m] 53) = W ∧ Kp w W ∧ Blk W w.heap.size 53 #[.int .u32 h.p.a, .int .i64 h.p.l, .bool h.d, .int .i64 h.f, .int .u32 h.x, .int .i64 h.m] := ⟨_, rfl, (Kp.refl _).alloc _, Blk.new w _ _⟩
  clear m hG hq hgot
  go_enter Tryz.func42, Tryz.ntmps42
  go_wp2_with fail
  have HM1 := Lib.hid (HM.out.keep kW)
  have f0 : W.cell? ⟨f, 0, none⟩ = some (.pointer (some ⟨tr, 0, none⟩)) := HM1.out.blk.cell 0
  have b0 : W.cell? ⟨w.heap.size, 0, none⟩ = some (.int .u32 h.p.a) := B0.cell 0
  have b1 : W.cell? ⟨w.heap.size, 1, none⟩ = some (.int .i64 h.p.l) := B0.cell 1
  go_region_held3 (fun w' => w'.cell? ⟨f, 0, none⟩ = some (.pointer (some ⟨tr, 0, none⟩)) ∧ w'.cell? ⟨w.heap.size, 0, none⟩ = some (.int .u32 h.p.a) ∧ w'.cell? ⟨w.heap.size, 1, none⟩ = some (.int .i64 h.p.l))
    (first | exact ⟨Ka.cell f0, Ka.cell b0, Ka.cell b1⟩ | go_keep)
    (first | (go_at_call 35; refine (kplace_any tr h.p _ t _ (HG.out.keep kW.drew) (HM1.out.trie.keep (Kp.refl W).drew) Hq.out).mono ?_; rintro e wa ⟨rfl, hKa⟩; rw [Hg.out]; have Ka : Kp W wa := (Kp.refl W).drew.trans hKa))
  have k2 := kW.trans Ka
  have B2 := B0.keep Ka
  clear f0 b0 b1 HM1 B0 hKa
  go_wp2_with fail
  refine wp_tail 7 (by kernel_rfl) (by kernel_rfl) (fun V2 hV2 => ?_)
  have k3 : Kp w V2 := by rw [hV2]; exact k2.drew
  have B3 := B2.drew; rw [← hV2] at B3
  have M3 := Lib.hid (HM.out.keep k3)
  clear hV2 k2 B2
  have hown := M3.out.own
  obtain ⟨g, cur, hA, hB, hc, _⟩ := hown.some_ (by omega)
  subst hA
  have f1 : V2.cell? ⟨f, 1, none⟩ = some (.slice (some ⟨g, 0, none⟩) H.length c) := M3.out.blk.cell 1
  have b0 : V2.cell? ⟨w.heap.size, 0, none⟩ = some (.int .u32 h.p.a) := B3.cell 0
  have b1 : V2.cell? ⟨w.heap.size, 1, none⟩ = some (.int .i64 h.p.l) := B3.cell 1
  have b2 : V2.cell? ⟨w.heap.size, 2, none⟩ = some (.bool h.d) := B3.cell 2
  have b3 : V2.cell? ⟨w.heap.size, 3, none⟩ = some (.int .i64 h.f) := B3.cell 3
  have b4 : V2.cell? ⟨w.heap.size, 4, none⟩ = some (.int .u32 h.x) := B3.cell 4
  have b5 : V2.cell? ⟨w.heap.size, 5, none⟩ = some (.int .i64 h.m) := B3.cell 5
  obtain ⟨_, _, he, g0, g1, g2, g3, g4, g5⟩ := hop_at (hown.rdAt (by decide) Hp.len) hk
  injection he with he; injection he with he1 he2
  subst he1 he2
  simp only [Nat.zero_add] at g0 g1 g2 g3 g4 g5
  have z0 := hB.frozen (k * 6)
  have z1 := hB.frozen (k * 6 + 1)
  have z2 := hB.frozen (k * 6 + 2)
  have z3 := hB.frozen (k * 6 + 3)
  have z4 := hB.frozen (k * 6 + 4)
  have z5 := hB.frozen (k * 6 + 5)
  clear hown hB
  simp only [List.take_succ_cons, List.take_zero, List.drop_succ_cons, List.drop_zero]
  repeat still_step
  refine wpStill_nil ?_
  go_wp2_with fail
  go_ret
  exact ⟨rfl, g, rfl, V2, k3, by simp [set6]⟩
end Go.Proofs.YtfaiponmjjbgoaaGreatDoor

/- fib's put: a hop behind the others, or none where the table is full. -/
namespace Go.Proofs.YtfaiponmjjbgoaaGreatDoor
open Go.RowKit
attribute [local go_sem] Oper.semAt_some

theorem Only.of_grown {w w' : World} {A : Option Addr} {n c : Nat} (h : w.grownBy w' (Value.slice A n c).ownBlock) : Only (rowB A) w w' :=
  ⟨h.os, h.tape, h.output, h.size, fun k hk hn => h.block k hk (fun e => by
    cases A with
    | none => cases e
    | some a => injection e with e; exact hn (by simp [rowB, e]))⟩
theorem Only.wide {bs cs : List Nat} {w w' : World} (h : Only bs w w') (hs : ∀ b ∈ bs, b ∈ cs) : Only cs w w' := ⟨h.os, h.tape, h.output, h.size, fun k hk hn => h.block k hk (fun hb => hn (hs k hb))⟩
theorem Only.join {bs cs ds : List Nat} {w w1 w2 : World} (h : Only bs w w1) (k : Only cs w1 w2) (h1 : ∀ b ∈ bs, b ∈ ds) (h2 : ∀ b ∈ cs, b ∈ ds ∨ w.heap.size ≤ b) : Only ds w w2 :=
  ⟨k.os.trans h.os, k.tape.trans h.tape, k.output.trans h.output, Nat.le_trans h.size k.size, fun i hi hn => (k.block i (Nat.lt_of_lt_of_le hi h.size) (fun hb => by
    rcases h2 i hb with e | e
    · exact hn e
    · omega)).trans (h.block i hi (fun hb => hn (h1 i hb)))⟩
def PutFull (w : World) (e : Ending) (w' : World) : Prop := e = .returned (.int .i64 3) ∧ Kp w w'
theorem put_full (tr : Nat) (q : Pn) (v many : Int) (t : Tr) (w : World) (hG : RelsAt w) (hT : TrieM w tr t many) (hq : q.ok) (hno : ∀ u, (q, u) ∉ t.rows) (hm0 : 512 ≤ many) (hm1 : many ≤ 1000000) :
    Calls Tryz.prog 62 #[.pointer (some ⟨tr, 0, none⟩), .agg #[.int .u32 q.a, .int .i64 q.l], .int .i64 v] w fun e w' => e = .returned (.tuple #[.int .i64 0, .bool false, .int .i64 3]) ∧ Kp w w' := by
  refine (put_new tr q v many t w hG hT hq hno (by omega) hm1).mono ?_
  rintro e w' (⟨_, h2, h3⟩ | ⟨h1, _⟩)
  · exact ⟨h2, h3⟩
  · omega
theorem put_ok (tr : Nat) (q : Pn) (v many : Int) (t : Tr) (w : World) (hG : RelsAt w) (hT : TrieM w tr t many) (hq : q.ok) (hno : ∀ u, (q, u) ∉ t.rows) (hm0 : 0 ≤ many) (hm1 : many < 512) :
    Calls Tryz.prog 62 #[.pointer (some ⟨tr, 0, none⟩), .agg #[.int .u32 q.a, .int .i64 q.l], .int .i64 v] w fun e w' => e = .returned (.tuple #[.int .i64 0, .bool false, .int .i64 0]) ∧ NewPost w tr q v many t w' := by
  refine (put_new tr q v many t w hG hT hq hno hm0 (by omega)).mono ?_
  rintro e w' (⟨h1, _⟩ | ⟨_, h2, h3⟩)
  · omega
  · exact ⟨h2, h3⟩
def PutNew (w : World) (f tr : Nat) (t : Tr) (A : Option Addr) (H : List Hp) (h : Hp) (e : Ending) (w' : World) : Prop :=
  e = .returned (.int .i64 0) ∧ ∃ t' A' c', FibM w' f tr t' A' c' (H ++ [h]) ∧ Only (Fp f tr t A) w w' ∧ ∀ b ∈ Fp f tr t' A', b ∈ Fp f tr t A ∨ w.heap.size ≤ b
set_option maxRecDepth 100000 in
set_option maxHeartbeats 2000000 in
theorem fput_full (f tr : Nat) (t : Tr) (A : Option Addr) (c : Nat) (H : List Hp) (h : Hp) (w : World) (hG : RelsAt w) (m : FibM w f tr t A c H) (hfull : 512 ≤ H.length) (hgot : (t.look h.p).got h.p = (0, false)) (hno : ∀ u, (h.p, u) ∉ t.rows) (hq : h.p.ok) :
    Calls Tryz.prog 42 #[.pointer (some ⟨f, 0, none⟩), .agg #[.int .u32 h.p.a, .int .i64 h.p.l, .bool h.d, .int .i64 h.f, .int .u32 h.x, .int .i64 h.m]] w (PutFull w) := by
  have HM := Lib.hid m
  have HG := Lib.hid hG
  have Hq := Lib.hid hq
  have Hg := Lib.hid hgot
  have hlen := m.room
  obtain ⟨W, hW, kW, B0⟩ : ∃ W, w.alloc (.cells #[.int .u32 h.p.a, .int .i64 h.p.l, .bool h.d, .int .i64 h.f, .int .u32 h.x, .int .i64 h.m] 53) = W ∧ Kp w W ∧ Blk W w.heap.size 53 #[.int .u32 h.p.a, .int .i64 h.p.l, .bool h.d, .int .i64 h.f, .int .u32 h.x, .int .i64 h.m] := ⟨_, rfl, (Kp.refl _).alloc _, Blk.new w _ _⟩
  have Hno := Lib.hid hno
  clear m hG hq hgot hno
  go_enter Tryz.func42, Tryz.ntmps42
  go_wp2_with fail
  have HM1 := Lib.hid (HM.out.keep kW)
  have f0 : W.cell? ⟨f, 0, none⟩ = some (.pointer (some ⟨tr, 0, none⟩)) := HM1.out.blk.cell 0
  have b0 : W.cell? ⟨w.heap.size, 0, none⟩ = some (.int .u32 h.p.a) := B0.cell 0
  have b1 : W.cell? ⟨w.heap.size, 1, none⟩ = some (.int .i64 h.p.l) := B0.cell 1
  go_region_held3 (fun w' => w'.cell? ⟨f, 0, none⟩ = some (.pointer (some ⟨tr, 0, none⟩)) ∧ w'.cell? ⟨w.heap.size, 0, none⟩ = some (.int .u32 h.p.a) ∧ w'.cell? ⟨w.heap.size, 1, none⟩ = some (.int .i64 h.p.l))
    (first | exact ⟨Ka.cell f0, Ka.cell b0, Ka.cell b1⟩ | go_keep)
    (first | (go_at_call 35; refine (kplace_any tr h.p _ t _ (HG.out.keep kW.drew) (HM1.out.trie.keep (Kp.refl W).drew) Hq.out).mono ?_; rintro e wa ⟨rfl, hKa⟩; rw [Hg.out]; have Ka : Kp W wa := (Kp.refl W).drew.trans hKa))
  have k2 := kW.trans Ka
  have B2 := B0.keep Ka
  clear f0 b0 b1 HM1 B0 hKa
  have HM2 := Lib.hid (HM.out.keep k2)
  have f0 : wa.cell? ⟨f, 0, none⟩ = some (.pointer (some ⟨tr, 0, none⟩)) := HM2.out.blk.cell 0
  have f1 : wa.cell? ⟨f, 1, none⟩ = some (.slice A H.length c) := HM2.out.blk.cell 1
  have b0 : wa.cell? ⟨w.heap.size, 0, none⟩ = some (.int .u32 h.p.a) := B2.cell 0
  have b1 : wa.cell? ⟨w.heap.size, 1, none⟩ = some (.int .i64 h.p.l) := B2.cell 1
  go_wp2_with fail
  go_region_held3 (fun w' => w'.cell? ⟨f, 0, none⟩ = some (.pointer (some ⟨tr, 0, none⟩)) ∧ w'.cell? ⟨f, 1, none⟩ = some (.slice A H.length c) ∧ w'.cell? ⟨w.heap.size, 0, none⟩ = some (.int .u32 h.p.a) ∧ w'.cell? ⟨w.heap.size, 1, none⟩ = some (.int .i64 h.p.l))
    (first | exact ⟨Kb.cell f0, Kb.cell f1, Kb.cell b0, Kb.cell b1⟩ | go_keep)
    (first | (go_at_call 62; refine (put_full tr h.p _ (H.length : Int) t _ (HG.out.keep k2.drew) (HM2.out.trie.keep (Kp.refl wa).drew) Hq.out Hno.out (by omega) (by omega)).mono ?_; rintro e wb ⟨rfl, hKb⟩; have Kb : Kp wa wb := (Kp.refl wa).drew.trans hKb))
  go_wp2_with fail
  go_ret
  exact ⟨rfl, k2.trans Kb⟩
theorem new_end {w wa wb w4 : World} {f tr : Nat} {t t' : Tr} {A : Option Addr} {c g cap : Nat} {H : List Hp} {h : Hp} {o : Obj} (HM : FibM w f tr t A c H) (k2 : Kp w wa) (hTu : Turned wa.drew wb tr t t' ((H.length : Int) + 1))
    (hrows : ∀ r : Pn × Int, r ∈ t'.rows ↔ r = (h.p, (H.length : Int)) ∨ r ∈ t.rows) (hno : ∀ u, (h.p, u) ∉ t.rows) (hfull : H.length < 512) (hq : h.p.ok) (BF : Blk wb f 69 #[.pointer (some ⟨tr, 0, none⟩), .slice A H.length c])
    (hown4 : Own w4 0 53 6 Hp.enc (.slice (some ⟨g, 0, none⟩) (H.length + 1) cap) (H ++ [h])) (hg : (wb.drew.alloc o).grownBy w4 (Value.slice A H.length c).ownBlock) (hat : (Value.slice A H.length c).ownBlock = some g ∨ g = (wb.drew.alloc o).heap.size)
    (B4 : Blk w4 f 69 #[.pointer (some ⟨tr, 0, none⟩), .slice A H.length c]) : PutNew w f tr t A H h (.returned (.int .i64 0)) (w4.setCell ⟨f, 1, none⟩ (.slice (some ⟨g, 0, none⟩) (H.length + 1) cap)) := by
  have O1 : Only (tr :: t.bs) w wb := (Only.of_kp k2.drew).trans hTu.only
  have O2 : Only (rowB A) wb w4 := ((Only.refl (rowB A) wb).drew.alloc o).trans (Only.of_grown hg)
  have O3 : Only (f :: rowB A) wb (w4.setCell ⟨f, 1, none⟩ (.slice (some ⟨g, 0, none⟩) (H.length + 1) cap)) := (O2.wide (fun b hb => by simp [hb])).setCell (.inl (by simp)) _
  have hsz : (wb.drew.alloc o).heap.size = wb.heap.size + 1 := by simp
  have hkw : w.heap.size ≤ wb.heap.size := O1.size
  have hka : w.heap.size ≤ wa.heap.size := k2.size
  have hsub : ∀ b ∈ t'.bs, b ∈ t.bs ∨ w.heap.size ≤ b := fun b hb => (hTu.sub b hb).imp id (fun e => Nat.le_trans hka e)
  have hf : f < w.heap.size := HM.blk.lt
  have hfb : f ∉ t'.bs := fun hc => by
    rcases hsub f hc with e | e
    · exact HM.fbs e
    · omega
  have hgg : g ≠ f ∧ g ≠ tr ∧ g ∉ t'.bs ∧ (g ∈ rowB A ∨ w.heap.size ≤ g) := by
    rcases hat with e | e
    · cases A with
      | none => cases e
      | some a =>
        injection e with e
        subst e
        obtain ⟨r1, r2, r3⟩ := HM.row a rfl
        have := HM.own.lt_ a rfl
        refine ⟨r1, r2, fun hc => ?_, .inl (by simp [rowB])⟩
        rcases hsub _ hc with e | e
        · exact r3 e
        · omega
    · rw [hsz] at e
      have h1 := BF.lt
      have h2 := hTu.trie.blk.lt
      refine ⟨by omega, by omega, fun hc => ?_, .inr (by omega)⟩
      have := hTu.trie.tm.lt _ hc
      omega
  have hrA : ∀ b ∈ rowB A, b < w.heap.size ∧ b ≠ tr ∧ b ∉ t'.bs := by
    intro b hb
    cases A with
    | none => cases hb
    | some a =>
      simp only [rowB, List.mem_singleton] at hb
      subst hb
      obtain ⟨r1, r2, r3⟩ := HM.row a rfl
      have hl := HM.own.lt_ a rfl
      refine ⟨hl, r2, fun hc => ?_⟩
      rcases hsub _ hc with e | e
      · exact r3 e
      · omega
  refine ⟨rfl, t', some ⟨g, 0, none⟩, cap, ⟨?_, ?_, ?_, (FI.app HM.fi hno hTu.trie.wf hrows).1, HM.ftr, hfb, ?_, by simp; omega, ?_⟩, ?_, ?_⟩
  · have := B4.set_ 1 (.slice (some ⟨g, 0, none⟩) (H.length + 1) cap)
    simpa using this
  · have := hTu.trie.only O3 (fun hc => by
      rcases List.mem_cons.1 hc with e | e
      · exact HM.ftr e.symm
      · exact (hrA _ e).2.1 rfl) (fun b hb hc => by
      rcases List.mem_cons.1 hc with e | e
      · subst e; exact hfb hb
      · exact (hrA _ e).2.2 hb)
    simpa using this
  · have := hown4.only_ ((Only.refl [f] w4).setCell (p := ⟨f, 1, none⟩) (.inl (by simp)) (.slice (some ⟨g, 0, none⟩) (H.length + 1) cap)) (fun a ha => by injection ha with ha; subst ha; simpa using hgg.1)
    simpa using this
  · rintro a ha
    injection ha with ha
    subst ha
    exact ⟨hgg.1, hgg.2.1, hgg.2.2.1⟩
  · intro e he
    rcases List.mem_append.1 he with e1 | e1
    · exact HM.oks e e1
    · simp only [List.mem_singleton] at e1; subst e1; exact hq
  · exact O1.join O3 (fun b hb => by
      rcases List.mem_cons.1 hb with e | e
      · simp [Fp, e]
      · simp [Fp, e]) (fun b hb => by
      rcases List.mem_cons.1 hb with e | e
      · left; simp [Fp, e]
      · left; simp [Fp, e])
  · intro b hb
    simp only [Fp, List.mem_cons, List.mem_append] at hb ⊢
    rcases hb with e | e | e | e
    · exact .inl (.inl e)
    · exact .inl (.inr (.inl e))
    · rcases hsub b e with e | e
      · exact .inl (.inr (.inr (.inl e)))
      · exact .inr e
    · simp only [rowB, List.mem_singleton] at e
      subst e
      rcases hgg.2.2.2 with e | e
      · exact .inl (.inr (.inr (.inr e)))
      · exact .inr e

set_option maxRecDepth 100000 in
set_option maxHeartbeats 2000000 in
theorem fput_new (f tr : Nat) (t : Tr) (A : Option Addr) (c : Nat) (H : List Hp) (h : Hp) (w : World) (hG : RelsAt w) (m : FibM w f tr t A c H) (hfull : H.length < 512) (hgot : (t.look h.p).got h.p = (0, false)) (hno : ∀ u, (h.p, u) ∉ t.rows) (hq : h.p.ok) :
    Calls Tryz.prog 42 #[.pointer (some ⟨f, 0, none⟩), .agg #[.int .u32 h.p.a, .int .i64 h.p.l, .bool h.d, .int .i64 h.f, .int .u32 h.x, .int .i64 h.m]] w (PutNew w f tr t A H h) := by
  have HM := Lib.hid m
  have HG := Lib.hid hG
  have Hq := Lib.hid hq
  have Hg := Lib.hid hgot
  have hlen := m.room
  obtain ⟨W, hW, kW, B0⟩ : ∃ W, w.alloc (.cells #[.int .u32 h.p.a, .int .i64 h.p.l, .bool h.d, .int .i64 h.f, .int .u32 h.x, .int .i64 h.m] 53) = W ∧ Kp w W ∧ Blk W w.heap.size 53 #[.int .u32 h.p.a, .int .i64 h.p.l, .bool h.d, .int .i64 h.f, .int .u32 h.x, .int .i64 h.m] := ⟨_, rfl, (Kp.refl _).alloc _, Blk.new w _ _⟩
  have Hno := Lib.hid hno
  clear m hG hq hgot hno
  go_enter Tryz.func42, Tryz.ntmps42
  go_wp2_with fail
  have HM1 := Lib.hid (HM.out.keep kW)
  have f0 : W.cell? ⟨f, 0, none⟩ = some (.pointer (some ⟨tr, 0, none⟩)) := HM1.out.blk.cell 0
  have b0 : W.cell? ⟨w.heap.size, 0, none⟩ = some (.int .u32 h.p.a) := B0.cell 0
  have b1 : W.cell? ⟨w.heap.size, 1, none⟩ = some (.int .i64 h.p.l) := B0.cell 1
  go_region_held3 (fun w' => w'.cell? ⟨f, 0, none⟩ = some (.pointer (some ⟨tr, 0, none⟩)) ∧ w'.cell? ⟨w.heap.size, 0, none⟩ = some (.int .u32 h.p.a) ∧ w'.cell? ⟨w.heap.size, 1, none⟩ = some (.int .i64 h.p.l))
    (first | exact ⟨Ka.cell f0, Ka.cell b0, Ka.cell b1⟩ | go_keep)
    (first | (go_at_call 35; refine (kplace_any tr h.p _ t _ (HG.out.keep kW.drew) (HM1.out.trie.keep (Kp.refl W).drew) Hq.out).mono ?_; rintro e wa ⟨rfl, hKa⟩; rw [Hg.out]; have Ka : Kp W wa := (Kp.refl W).drew.trans hKa))
  have k2 := kW.trans Ka
  have B2 := B0.keep Ka
  clear f0 b0 b1 HM1 B0 hKa
  have HM2 := Lib.hid (HM.out.keep k2)
  have f0 : wa.cell? ⟨f, 0, none⟩ = some (.pointer (some ⟨tr, 0, none⟩)) := HM2.out.blk.cell 0
  have f1 : wa.cell? ⟨f, 1, none⟩ = some (.slice A H.length c) := HM2.out.blk.cell 1
  have b0 : wa.cell? ⟨w.heap.size, 0, none⟩ = some (.int .u32 h.p.a) := B2.cell 0
  have b1 : wa.cell? ⟨w.heap.size, 1, none⟩ = some (.int .i64 h.p.l) := B2.cell 1
  have hftr : f ∉ tr :: t.bs := by simp; exact ⟨HM.out.ftr, HM.out.fbs⟩
  have hwtr : w.heap.size ∉ tr :: t.bs := fun hc => by
    rcases List.mem_cons.1 hc with e | e
    · have := HM.out.trie.blk.lt; omega
    · have := HM.out.trie.tm.lt _ e; omega
  have Hftr := Lib.hid hftr
  have Hwtr := Lib.hid hwtr
  clear hftr hwtr
  go_wp2_with fail
  go_region_held3 (fun w' => w'.cell? ⟨f, 0, none⟩ = some (.pointer (some ⟨tr, 0, none⟩)) ∧ w'.cell? ⟨f, 1, none⟩ = some (.slice A H.length c) ∧ w'.cell? ⟨w.heap.size, 0, none⟩ = some (.int .u32 h.p.a) ∧ w'.cell? ⟨w.heap.size, 1, none⟩ = some (.int .i64 h.p.l))
    (first | exact ⟨Ob.cell f0 Hftr.out, Ob.cell f1 Hftr.out, Ob.cell b0 Hwtr.out, Ob.cell b1 Hwtr.out⟩ | go_keep)
    (first | (go_at_call 62; refine (put_ok tr h.p _ (H.length : Int) t _ (HG.out.keep k2.drew) (HM2.out.trie.keep (Kp.refl wa).drew) Hq.out Hno.out (by omega) (by omega)).mono ?_; rintro e wb ⟨rfl, hNb⟩; obtain ⟨t', hTu, hrows⟩ := hNb; have Ob : Only (tr :: t.bs) wa wb := (Only.of_kp (Kp.refl wa).drew).trans hTu.only))
  have Hrows := Lib.hid hrows
  have HTu := Lib.hid hTu
  have hA : ∀ a, A = some a → a.block ∉ tr :: t.bs := fun a ha => by have := HM.out.row a ha; simp; exact ⟨this.2.1, this.2.2⟩
  have BF : Blk wb f 69 #[.pointer (some ⟨tr, 0, none⟩), .slice A H.length c] := HM2.out.blk.only Ob Hftr.out
  have BB := B2.only Ob Hwtr.out
  have hown := HM2.out.own.only_ Ob hA
  have HA := Lib.hid hA
  clear hrows hTu f0 f1 b0 b1 hA
  have f1 : wb.cell? ⟨f, 1, none⟩ = some (.slice A H.length c) := BF.cell 1
  have f1' : ∀ o, (wb.alloc o).cell? ⟨f, 1, none⟩ = some (.slice A H.length c) := fun o => (BF.alloc o).cell 1
  have b0 : wb.cell? ⟨w.heap.size, 0, none⟩ = some (.int .u32 h.p.a) := BB.cell 0
  have b1 : wb.cell? ⟨w.heap.size, 1, none⟩ = some (.int .i64 h.p.l) := BB.cell 1
  have b2 : wb.cell? ⟨w.heap.size, 2, none⟩ = some (.bool h.d) := BB.cell 2
  have b3 : wb.cell? ⟨w.heap.size, 3, none⟩ = some (.int .i64 h.f) := BB.cell 3
  have b4 : wb.cell? ⟨w.heap.size, 4, none⟩ = some (.int .u32 h.x) := BB.cell 4
  have b5 : wb.cell? ⟨w.heap.size, 5, none⟩ = some (.int .i64 h.m) := BB.cell 5
  have hne : some f ≠ (Value.slice A H.length c).ownBlock := fun e => by
    cases A with
    | none => cases e
    | some a => injection e with e; exact (HM.out.row a rfl).1 e.symm
  have Hne := Lib.hid hne; clear hne
  go_wp2_with fail
  go_region_law ((refine step_appx EHop (by rfl) _ _ (by rfl) h (by rfl) (hown.drew.alloc _) (Nat.zero_le _) (by rfl) (e' := 53) (heap_alloc_new _ _) (by rfl) (by rfl) (by rfl) (by omega) ?_; intro g cap w4 hown4 hg hat; have B4 := (BF.drew.alloc _).grown hg Hne.out; have z4 := B4.frozen 1; have y4 : w4.cell? ⟨f, 1, none⟩ = some (.slice A H.length c) := B4.cell 1))
  all_goals
    go_wp2_with fail
    go_ret
    exact new_end HM.out k2 HTu.out Hrows.out Hno.out hfull Hq.out BF hown4 hg hat B4
end Go.Proofs.YtfaiponmjjbgoaaGreatDoor
