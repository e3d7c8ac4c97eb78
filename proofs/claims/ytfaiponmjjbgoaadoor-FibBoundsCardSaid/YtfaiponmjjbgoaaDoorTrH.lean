/- For the trie's hang: prefixes unequal, a cell set to what it holds. -/
import Derived.Test.YtfaiponmjjbgoaaDoorTrG
import Derived.Test.YtfaiponmjjbgoaaDoorPfE
namespace Go.Proofs.YtfaiponmjjbgoaaDoor
open Go.RowKit

set_option maxRecDepth 100000 in
theorem pfx_neq (w : World) (a l b k : Int) : (binOp .neq 29 (.agg #[.int .u32 a, .int .i64 l]) (.agg #[.int .u32 b, .int .i64 k])).run Tryd.prog w = .ok (.bool (!(a == b && l == k))) w := by
  rw [run_neq_struct, run_equalIn_agg w 9999 _ _ _ Tryd.underlying29 (by kernel_rfl)]
  simp [Op.eqFields, part, go_sem, Tryd.underlying3, Tryd.underlying27]
  by_cases h1 : a = b <;> by_cases h2 : l = k <;> simp [h1, h2]
theorem pn_beq {p q : Pn} : (((p.a : Int) == (q.a : Int)) && ((p.l : Int) == (q.l : Int))) = decide (p = q) := by
  by_cases h : p = q
  · subst h; simp
  · have : ¬ (p.a = q.a ∧ p.l = q.l) := fun e => h (by cases p; cases q; simp at e ⊢; exact e)
    simp only [h, decide_false]
    cases hh : (((p.a : Int) == (q.a : Int)) && ((p.l : Int) == (q.l : Int))) with
    | false => rfl
    | true =>
      simp at hh
      exact absurd (by omega) this
theorem pfx_ne (w : World) (p q : Pn) : (binOp .neq 29 (.agg #[.int .u32 p.a, .int .i64 p.l]) (.agg #[.int .u32 q.a, .int .i64 q.l])).run Tryd.prog w = .ok (.bool (!decide (p = q))) w := by
  rw [pfx_neq, pn_beq]

/-- A block's cell set to what it holds: nothing changes. -/
theorem arr_set_id {cs : Array Value} {i : Nat} {u : Value} (hu : cs[i]? = some u) : cs.setIfInBounds i u = cs := by
  apply Array.ext_getElem?
  intro k
  rw [Array.getElem?_setIfInBounds]
  by_cases e : i = k
  · subst e
    obtain ⟨h1, h2⟩ := Array.getElem?_eq_some_iff.1 hu
    simp [h1, h2]
  · simp [e]
theorem set_id {w : World} {g : Nat} {t : TypeId} {cs : Array Value} (h : Blk w g t cs) {i : Nat} {u : Value} (hu : cs[i]? = some u) : (w.setCell ⟨g, i, none⟩ u).heap = w.heap := by
  apply Array.ext_getElem?
  intro j
  by_cases e : j = g
  · subst e
    have h2 := h.set_ i u
    rw [arr_set_id hu] at h2
    unfold Blk at h h2
    rw [h, h2]
  · exact Below.heap_setCell _ _ _ _ (by simpa using e)
end Go.Proofs.YtfaiponmjjbgoaaDoor
