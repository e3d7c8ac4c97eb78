/- append of a whole slice that reads as a list, to a row of the call's own. No condition but the bound on bytes. -/
import Derived.Test.YtfaiponmjjbgoaaDoorReg
import Derived.Laws.AppendOwnNone
namespace Go.Proofs.YtfaiponmjjbgoaaDoor
open Go.RowKit

theorem flat_at {α : Type} {sz : Nat} {enc : α → List Value} (hs : 0 < sz) (henc : ∀ x, (enc x).length = sz) : ∀ (ys : List α) (j : Nat) (u : Value), (ys.flatMap enc)[j]? = some u → ∃ (i k : Nat) (h : i < ys.length), j = i * sz + k ∧ (enc (ys[i]'h))[k]? = some u
  | [], j, u, h => by simp at h
  | y :: ys, j, u, h => by
    rw [List.flatMap_cons] at h
    by_cases hj : j < (enc y).length
    · rw [List.getElem?_append_left hj] at h
      exact ⟨0, j, by simp, by omega, h⟩
    · rw [List.getElem?_append_right (by omega), henc] at h
      obtain ⟨i, k, hi, he, hc⟩ := flat_at hs henc ys _ u h
      rw [henc] at hj
      exact ⟨i + 1, k, by simpa using hi, by rw [Nat.add_mul]; omega, by simpa using hc⟩

theorem grown_refl (w : World) (row : Option Nat) : w.grownBy w row := ⟨rfl, rfl, rfl, Nat.le_refl _, fun _ _ _ => rfl⟩

theorem run_append_nil {P : Program} {w : World} (base : Nat) (t ty e : TypeId) (i : TypeInfo) (size c : Nat) (ht : P.underlying t = some (.slice e)) (hi : P.info? e = some i)
    (v : Value) (n : Nat) (xs : List Value) (hown : w.ownsRow base e size v n xs) :
    (Builtin.append_ #[t, t] ty #[v, .slice none 0 c]).run P w = .ok v w := by
  rcases hown.2 with ⟨rfl, rfl⟩ | ⟨g, cap, cur, rfl, _, _, hnc, _⟩
  · simp [Builtin.append_, run_underlying ht, sizeOf, typeInfo, hi, Builtin.lenOf, Builtin.firstCells]
  · simp [Builtin.append_, run_underlying ht, sizeOf, typeInfo, hi, Builtin.lenOf, Builtin.firstCells, hnc, storeCells]

theorem run_appl {α : Type} {enc : α → List Value} {P : Program} {t e : TypeId} {z : Value} {size bytes : Nat} (E : ElemOf P t e z size bytes) (ty : TypeId) (henc : ∀ x, (enc x).length = size) (hone : ∀ x, ∀ u ∈ enc x, u.oneCell' = true)
    {w : World} {base : Nat} {v : Value} {xs ys : List α} {A : Option Addr} {c : Nat} (hown : Own w base e size enc v xs) (hrd : Rd w size enc A ys)
    (hfit : (xs.length + ys.length) * (bytes + 1) ≤ 140737488355328) (hbase : base ≤ w.heap.size) :
    ∃ v' w', (Builtin.append_ #[t, t] ty #[v, .slice A ys.length c]).run P w = .ok v' w' ∧ Own w' base e size enc v' (xs ++ ys) ∧ w.grownBy w' v.ownBlock ∧ (v'.ownBlock = v.ownBlock ∨ v'.ownBlock = some w.heap.size) := by
  obtain ⟨ht, hinfo, hzs, hsz⟩ := E
  obtain ⟨i, hi, hz, hsize, hby⟩ := info_parts hinfo
  have hb2 : (xs.length + ys.length) * (bytes + 1) = (xs.length + ys.length) * bytes + (xs.length + ys.length) := by rw [Nat.mul_add, Nat.mul_one]
  cases A with
  | none =>
    have hy : ys = [] := by
      cases ys with
      | nil => rfl
      | cons y ys => obtain ⟨b, off, hh, _⟩ := hrd 0 (by simp); cases hh
    subst hy
    exact ⟨v, w, run_append_nil base t ty e i size c ht hi v _ _ hown, by simpa using hown, grown_refl _ _, .inl rfl⟩
  | some ad =>
    obtain ⟨v', w', hr, h2, h3, _, h5⟩ := run_append_own_at (P := P) w base t ty e i z size bytes ht hi hz hsize hby hzs hsz v xs.length (xs.flatMap enc) hown ad ys.length c (ys.flatMap enc) (flat_len henc ys) (by
      intro j u hu
      obtain ⟨k, q, hk, rfl, hq⟩ := flat_at hsz henc ys j u hu
      obtain ⟨b, off, he, hc⟩ := hrd k hk
      injection he with he
      subst he
      have hadd : (⟨b, off, none⟩ : Addr).add (k * size + q) = ⟨b, off + k * size + q, none⟩ := by unfold Addr.add; split <;> simp_all [Nat.add_assoc]
      rw [hadd]
      exact hc q u hq) (by
      intro u hu
      obtain ⟨y, _, hy⟩ := List.mem_flatMap.1 hu
      exact hone y u hy) (by simp only [maxLen]; omega) (by omega) hbase
    refine ⟨v', w', hr, ?_, h3, h5⟩
    unfold Own
    rw [List.length_append, List.flatMap_append]
    exact h2

theorem wpList_appl {α : Type} {enc : α → List Value} {P : Program} {t e : TypeId} {z : Value} {size bytes : Nat} (E : ElemOf P t e z size bytes) (henc : ∀ x, (enc x).length = size) (hone : ∀ x, ∀ u ∈ enc x, u.oneCell' = true)
    {w : World} {ops : Array Oper} {rest : List Oper} {o : Oper} {a : Act} {Q : Exit → Act → World → Prop} (hgd : o.guard = none) (s x : Operand) (ho : o.op = .call { callee := .builtin .append, args := #[s, x], argTypes := #[t, t] })
    {base : Nat} {v : Value} {xs ys : List α} {A : Option Addr} {c : Nat} (hs : a.eval s = v) (hx : a.eval x = .slice A ys.length c) (hown : Own w base e size enc v xs) (hrd : Rd w size enc A ys)
    (hfit : (xs.length + ys.length) * (bytes + 1) ≤ 140737488355328) (hbase : base ≤ w.heap.size)
    (h : ∀ v' w', Own w' base e size enc v' (xs ++ ys) → w.grownBy w' v.ownBlock → (v'.ownBlock = v.ownBlock ∨ v'.ownBlock = some w.heap.size) → wpList P ops Q rest (a.put o.dst v') w') : wpList P ops Q (o :: rest) a w := by
  refine wpList_plain hgd fun K hK => ?_
  obtain ⟨v', w', hr, h1, h2, h3⟩ := run_appl E o.type henc hone hown hrd hfit hbase
  unfold Oper.wp
  simp [execOp, ho, resolve, invoke, builtin, hs, hx, Result.andThen]
  rw [hr]
  exact hK _ _ (h v' w' h1 h2 h3)

theorem step_appl {α : Type} {enc : α → List Value} {P : Program} {t e : TypeId} {z : Value} {size bytes : Nat} (E : ElemOf P t e z size bytes) (henc : ∀ x, (enc x).length = size) (hone : ∀ x, ∀ u ∈ enc x, u.oneCell' = true)
    {w : World} {ops : Array Oper} {o : Oper} {a : Act} {K : Act → World → Prop} {Q : Exit → Act → World → Prop} {X : Prop} (hgd : o.guard = none) (s x : Operand) (ho : o.op = .call { callee := .builtin .append, args := #[s, x], argTypes := #[t, t] })
    {base : Nat} {v : Value} {xs ys : List α} {A : Option Addr} {c : Nat} (hs : a.eval s = v) (hx : a.eval x = .slice A ys.length c) (hown : Own w base e size enc v xs) (hrd : Rd w size enc A ys)
    (hfit : (xs.length + ys.length) * (bytes + 1) ≤ 140737488355328) (hbase : base ≤ w.heap.size)
    (h : ∀ v' w', Own w' base e size enc v' (xs ++ ys) → w.grownBy w' v.ownBlock → (v'.ownBlock = v.ownBlock ∨ v'.ownBlock = some w.heap.size) → K (a.put o.dst v') w') :
    if Region.wanted o (yielded ops a.tmps) = true then Oper.wp P o a w K Q else X := by
  have hw : Region.wanted o (yielded ops a.tmps) = true := by simp [Region.wanted, hgd]
  rw [if_pos hw]
  obtain ⟨v', w', hr, h1, h2, h3⟩ := run_appl E o.type henc hone hown hrd hfit hbase
  unfold Oper.wp
  simp [execOp, ho, resolve, invoke, builtin, hs, hx, Result.andThen]
  rw [hr]
  exact h v' w' h1 h2 h3

theorem Own.empty {α : Type} {w : World} {base e sz g : Nat} {enc : α → List Value} (hb : base ≤ g) (hB : Blk w g e #[]) : Own w base e sz enc (.slice (some ⟨g, 0, none⟩) 0 0) [] :=
  ⟨by simp, .inr ⟨g, 0, #[], rfl, hb, hB, Nat.le_refl _, by simp, by simp, by simp⟩⟩

theorem Own.rdAt {α : Type} {w : World} {base e sz n c : Nat} {enc : α → List Value} {A : Option Addr} {xs : List α} (hs : 0 < sz) (henc : ∀ x, (enc x).length = sz) (h : Own w base e sz enc (.slice A n c) xs) : Rd w sz enc A xs := by
  obtain ⟨A', c', hv, hr⟩ := h.rd hs henc
  injection hv with h1 h2 h3
  subst h1
  exact hr

/-- append of a whole slice to an empty one that was just made: at a step of a region that draws its order. -/
theorem step_clone {α : Type} {enc : α → List Value} {P : Program} {t e : TypeId} {z : Value} {size bytes : Nat} (E : ElemOf P t e z size bytes) (henc : ∀ x, (enc x).length = size) (hone : ∀ x, ∀ u ∈ enc x, u.oneCell' = true)
    {w0 w : World} {ops : Array Oper} {o : Oper} {a : Act} {K : Act → World → Prop} {Q : Exit → Act → World → Prop} {X : Prop} (hgd : o.guard = none) (s x : Operand) (ho : o.op = .call { callee := .builtin .append, args := #[s, x], argTypes := #[t, t] })
    {N : Nat} {ys : List α} {A : Option Addr} {c : Nat} (hs : a.eval s = .slice (some ⟨N, 0, none⟩) 0 0) (hx : a.eval x = .slice A ys.length c) (hK : Kp w0 w) (hB : Blk w N e #[]) (hN : w0.heap.size ≤ N) (hrd : Rd w0 size enc A ys)
    (hfit : ys.length * (bytes + 1) ≤ 140737488355328)
    (h : ∀ v' w', Own w' w0.heap.size e size enc v' ys → Kp w0 w' → (∀ g t cs, Blk w g t cs → g ≠ N → Blk w' g t cs) → w0.heap.size ≤ w'.heap.size → K (a.put o.dst v') w') :
    if Region.wanted o (yielded ops a.tmps) = true then Oper.wp P o a w K Q else X := by
  refine step_appl E henc hone hgd s x ho hs hx (Own.empty (enc := enc) hN hB) (hrd.keep hK) (by simpa using hfit) hK.size (fun v' w' h1 h2 h3 => ?_)
  have e1 : w0.heap.size ≤ w'.heap.size := Nat.le_trans hK.size h2.size
  refine h v' w' (by simpa using h1) (hK.grown h2 (fun q hq => ?_)) (fun g t cs hb hne => hb.grown h2 (fun e => ?_)) e1
  · have := (World.ownsRow.lt (Own.empty (enc := enc) (sz := size) hN hB) q hq).1; exact this
  · have hq : (Value.slice (some ⟨N, 0, none⟩) 0 0).ownBlock = some N := rfl
    rw [hq] at e
    injection e with e
    exact hne e
end Go.Proofs.YtfaiponmjjbgoaaDoor
