/- Lemmas and contracts for the theorem of this claim: R12R. -/
import Derived.Test.YtffckpkikdlbpaaGreatDoorZvBb
set_option linter.all false
set_option maxHeartbeats 16000000
namespace Go.Proofs.YtffckpkikdlbpaaGreatDoor
section
open Go.RowKit
structure SZ where
 a : Value
 b : Value
 c : Value
 d : Value
 e : Value
def chV (z : SZ) (L : Nat → Bool) : Value := if L 14 = true then z.e else if L 10 = true then z.d else if L 4 = true then z.c else z.a
def chL (S T : List PI) (p : PI) (L : Nat → Bool) : List PI := if L 14 = true then (S ++ [p]) ++ T else if L 10 = true then S ++ [p] else if L 4 = true then S else []
def SortM (wc : World) (S T : List PI) (p : PI) (z : SZ) (L : Nat → Bool) (W : World) : Prop :=
 Kp wc W ∧ (L 0 = true → Own W wc.heap.size 29 2 PI.enc (chV z L) (chL S T p L)) ∧ (L 9 = true → ∃ g, z.b = .slice (some ⟨g, 0, none⟩) 1 1 ∧ wc.heap.size ≤ g ∧ Blk W g 29 #[.int .u32 (p.a : Int), .int .i64 p.l] ∧ (L 0 = true → (chV z L).ownBlock ≠ some g))
section
variable {wc W : World} {S T : List PI} {p : PI} {z : SZ} {L : Nat → Bool}
theorem SortM.start : SortM wc S T p z (fun _ => false) wc.drew := ⟨(Kp.refl _).drew, (fun h => absurd h (by decide)), (fun h => absurd h (by decide))⟩
theorem SortM.other (h : SortM wc S T p z L W) (i : Nat) (hi : (i == 0 || i == 4 || i == 9 || i == 10 || i == 14) = false) : SortM wc S T p z (fun j => j == i || L j) W := by
 simp only [Bool.or_eq_false_iff, beq_eq_false_iff_ne, ne_eq] at hi
 obtain ⟨⟨⟨⟨h0, h4⟩, h9⟩, h10⟩, h14⟩ := hi
 have e : ∀ j, j ≠ i → (j == i || L j) = L j := fun j hj => by simp [hj]
 unfold SortM chV chL at h ⊢
 simp only [e 0 (Ne.symm h0), e 4 (Ne.symm h4), e 9 (Ne.symm h9), e 10 (Ne.symm h10), e 14 (Ne.symm h14)]
 exact h
theorem SortM.at0 (h : SortM wc S T p z L W) (h4 : L 4 = false) (h10 : L 10 = false) (h14 : L 14 = false) (h9 : L 9 = true → True) : SortM wc S T p { z with a := .slice (some ⟨W.heap.size, 0, none⟩) 0 0 } (fun j => j == 0 || L j) (W.alloc (.cells #[] 29)) := by
 obtain ⟨hk, _, hb⟩ := h
 have e : ∀ j, j ≠ 0 → (j == 0 || L j) = L j := fun j hj => by simp [hj]
 refine ⟨hk.alloc _, fun _ => ?_, fun hL => ?_⟩
 ·unfold chV chL
  simp only [e 4 (by decide), e 10 (by decide), e 14 (by decide), h4, h10, h14]
  exact Own.empty hk.size (Blk.new _ _ _)
 ·obtain ⟨g, e1, hg, hB, _⟩ := hb (by simpa using hL)
  refine ⟨g, e1, hg, hB.alloc _, fun _ => ?_⟩
  unfold chV
  simp only [e 4 (by decide), e 10 (by decide), e 14 (by decide), h4, h10, h14]
  intro he
  have he2 : (some W.heap.size : Option Nat) = some g := he
  have := hB.lt
  injection he2 with he2
  omega
theorem SortM.at9 (h : SortM wc S T p z L W) : SortM wc S T p { z with b := .slice (some ⟨W.heap.size, 0, none⟩) 1 1 } (fun j => j == 9 || L j) (W.alloc (.cells #[.int .u32 (p.a : Int), .int .i64 p.l] 29)) := by
 obtain ⟨hk, ho, _⟩ := h
 have e : ∀ j, j ≠ 9 → (j == 9 || L j) = L j := fun j hj => by simp [hj]
 refine ⟨hk.alloc _, fun hL => ?_, fun _ => ⟨W.heap.size, rfl, hk.size, Blk.new _ _ _, fun hL => ?_⟩⟩
 ·unfold chV chL at ho ⊢
  simp only [e 4 (by decide), e 10 (by decide), e 14 (by decide)]
  exact (ho (by simpa using hL)).alloc _
 ·have h1 := ho (by simpa using hL)
  unfold chV chL at h1
  unfold chV
  simp only [e 4 (by decide), e 10 (by decide), e 14 (by decide)]
  intro he
  have := (World.ownsRow.lt h1 _ he).2
  omega
theorem SortM.v9 (h : SortM wc S T p z L W) (h0 : L 0 = true) (h9 : L 9 = true) : ∃ g, z.b = .slice (some ⟨g, 0, none⟩) 1 1 ∧ Blk W g 29 #[.int .u32 (p.a : Int), .int .i64 p.l] := by
 obtain ⟨g, e, _, hB, _⟩ := h.2.2 h9
 exact ⟨g, e, hB⟩
theorem SortM.nextG {W' : World} (h : SortM wc S T p z L W) {i : Nat} {z' : SZ} (h0 : L 0 = true) (hi0 : i ≠ 9) (hb : z'.b = z.b) (hO : Own W' wc.heap.size 29 2 PI.enc (chV z' (fun j => j == i || L j)) (chL S T p (fun j => j == i || L j))) (hg : W.grownBy W' (chV z L).ownBlock) (hv : (chV z' (fun j => j == i || L j)).ownBlock = (chV z L).ownBlock ∨ (chV z' (fun j => j == i || L j)).ownBlock = some W.heap.size) : SortM wc S T p z' (fun j => j == i || L j) W' := by
 obtain ⟨hk, ho, hb9⟩ := h
 have h1 := ho h0
 refine ⟨hk.grown hg (fun q hq => (World.ownsRow.lt h1 q hq).1), fun _ => hO, fun hL => ?_⟩
 have hL9 : L 9 = true := by
  have : (9 == i || L 9) = true := hL
  have h9 : (9 == i) = false := by simp; omega
  rwa [h9, Bool.false_or] at this
 obtain ⟨g, e1, hge, hB, hne⟩ := hb9 hL9
 refine ⟨g, by rw [hb]; exact e1, hge, hB.grown hg (fun z9 => hne h0 z9.symm), fun _ he => ?_⟩
 rcases hv with hv | hv
 ·rw [hv] at he
  exact hne h0 he
 ·rw [hv] at he
  injection he with he
  have := hB.lt
  omega
theorem SortM.o4 (h : SortM wc S T p z L W) (h0 : L 0 = true) (h4 : L 4 = false) (h10 : L 10 = false) (h14 : L 14 = false) : Own W wc.heap.size 29 2 PI.enc z.a ([] : List PI) := by
 have := h.2.1 h0
 unfold chV chL at this
 simpa [h4, h10, h14] using this
theorem SortM.o10 (h : SortM wc S T p z L W) (h0 : L 0 = true) (h4 : L 4 = true) (h10 : L 10 = false) (h14 : L 14 = false) : Own W wc.heap.size 29 2 PI.enc z.c S := by
 have := h.2.1 h0
 unfold chV chL at this
 simpa [h4, h10, h14] using this
theorem SortM.o14 (h : SortM wc S T p z L W) (h0 : L 0 = true) (h10 : L 10 = true) (h14 : L 14 = false) : Own W wc.heap.size 29 2 PI.enc z.d (S ++ [p]) := by
 have := h.2.1 h0
 unfold chV chL at this
 simpa [h10, h14] using this
theorem SortM.fin (h : SortM wc S T p z L W) (h0 : L 0 = true) (h14 : L 14 = true) : Kp wc W ∧ Own W wc.heap.size 29 2 PI.enc z.e (S ++ p :: T) := by
 have := h.2.1 h0
 unfold chV chL at this
 exact ⟨h.1, by simpa [h14] using this⟩
theorem SortM.at4 {W' : World} {u : Value} (h : SortM wc S T p z L W) (h0 : L 0 = true) (h4 : L 4 = false) (h10 : L 10 = false) (h14 : L 14 = false) (hO : Own W' wc.heap.size 29 2 PI.enc u ([] ++ S)) (hg : W.grownBy W' z.a.ownBlock) (hv : u.ownBlock = z.a.ownBlock ∨ u.ownBlock = some W.heap.size) : SortM wc S T p { z with c := u } (fun j => j == 4 || L j) W' := by
 have e1 : chV z L = z.a := by simp [chV, h4, h10, h14]
 have e2 : chV { z with c := u } (fun j => j == 4 || L j) = u := by simp [chV, h10, h14]
 have e3 : chL S T p (fun j => j == 4 || L j) = S := by simp [chL, h10, h14]
 exact h.nextG h0 (by decide) rfl (by rw [e2, e3]; simpa using hO) (by rw [e1]; exact hg) (by rw [e1, e2]; exact hv)
theorem SortM.at10 {W' : World} {u : Value} (h : SortM wc S T p z L W) (h0 : L 0 = true) (h4 : L 4 = true) (h10 : L 10 = false) (h14 : L 14 = false) (hO : Own W' wc.heap.size 29 2 PI.enc u (S ++ [p])) (hg : W.grownBy W' z.c.ownBlock) (hv : u.ownBlock = z.c.ownBlock ∨ u.ownBlock = some W.heap.size) : SortM wc S T p { z with d := u } (fun j => j == 10 || L j) W' := by
 have e1 : chV z L = z.c := by simp [chV, h4, h10, h14]
 have e2 : chV { z with d := u } (fun j => j == 10 || L j) = u := by simp [chV, h14]
 have e3 : chL S T p (fun j => j == 10 || L j) = S ++ [p] := by simp [chL, h14]
 exact h.nextG h0 (by decide) rfl (by rw [e2, e3]; exact hO) (by rw [e1]; exact hg) (by rw [e1, e2]; exact hv)
theorem SortM.at14 {W' : World} {u : Value} (h : SortM wc S T p z L W) (h0 : L 0 = true) (h10 : L 10 = true) (h14 : L 14 = false) (hO : Own W' wc.heap.size 29 2 PI.enc u ((S ++ [p]) ++ T)) (hg : W.grownBy W' z.d.ownBlock) (hv : u.ownBlock = z.d.ownBlock ∨ u.ownBlock = some W.heap.size) : SortM wc S T p { z with e := u } (fun j => j == 14 || L j) W' := by
 have e1 : chV z L = z.d := by simp [chV, h10, h14]
 have e2 : chV { z with e := u } (fun j => j == 14 || L j) = u := by simp [chV]
 have e3 : chL S T p (fun j => j == 14 || L j) = (S ++ [p]) ++ T := by simp [chL]
 exact h.nextG h0 (by decide) rfl (by rw [e2, e3]; exact hO) (by rw [e1]; exact hg) (by rw [e1, e2]; exact hv)
end
theorem vbe {α : Type} {enc : α → List Value} {P : Program} {t e : TypeId} {z : Value} {size bytes : Nat} (E : ElemOf P t e z size bytes) (henc : ∀ x, (enc x).length = size) (hone : ∀ x, ∀ u ∈ enc x, u.oneCell' = true)
  {w : World} {o : Oper} {a : Act} {K : Act → World → Prop} {Q : Exit → Act → World → Prop} (hgd : o.guard = none) (s x : Operand) (ho : o.op = .call { callee := .builtin .append, args := #[s, x], argTypes := #[t, t] })
  {base : Nat} {v : Value} {xs ys : List α} {A : Option Addr} {c : Nat} (hs : a.eval s = v) (hx : a.eval x = .slice A ys.length c) (hown : Own w base e size enc v xs) (hrd : Rd w size enc A ys)
  (hfit : (xs.length + ys.length) * (bytes + 1) ≤ 140737488355328) (hbase : base ≤ w.heap.size)
  (h : ∀ v' w', Own w' base e size enc v' (xs ++ ys) → w.grownBy w' v.ownBlock → (v'.ownBlock = v.ownBlock ∨ v'.ownBlock = some w.heap.size) → K (a.put o.dst v') w') : Oper.wp P o a w K Q := by
 have h1 := vie (ops := #[]) (Q := Q) (X := True) E henc hone hgd s x ho hs hx hown hrd hfit hbase h
 rwa [if_pos (vak hgd)] at h1
theorem vnm {w : World} {g off : Nat} {l : List PI} (h : Rd w 2 PI.enc (some ⟨g, off, none⟩) l) (k : Nat) : Rd w 2 PI.enc (some ⟨g, off + k * 2, none⟩) (l.drop k) := fun i hi => by
 rw [List.length_drop] at hi
 obtain ⟨b, o, e, hc⟩ := h (k + i) (by omega)
 injection e with e
 injection e with e1 e2 _
 subst e1 e2
 refine ⟨g, off + k * 2, rfl, fun j u hu => ?_⟩
 rw [List.getElem_drop] at hu
 have := hc j u hu
 have e3 : off + k * 2 + i * 2 + j = off + (k + i) * 2 + j := by omega
 rw [e3]
 exact this
theorem vlQ {w : World} {g : Nat} {p : PI} (hB : Blk w g 29 #[.int .u32 (p.a : Int), .int .i64 p.l]) : Rd w 2 PI.enc (some ⟨g, 0, none⟩) [p] := fun i hi => by
 have : i = 0 := by simpa using hi
 subst this
 refine ⟨g, 0, rfl, fun j u hu => ?_⟩
 have e3 : 0 + 0 * 2 + j = j := by omega
 rw [e3, hB.cell]
 have hu2 : [(.int .u32 (p.a : Int) : Value), .int .i64 p.l][j]? = some u := hu
 simpa using hu2
end

end Go.Proofs.YtffckpkikdlbpaaGreatDoor
