/- prefix.Around, and the plain law of prefix.Common's rounds. -/
import Derived.Test.YtfaiponmjjbgoaaDoorPfC
namespace Go.Proofs.YtfaiponmjjbgoaaDoor
open Go.RowKit
attribute [local go_sem] Oper.semAt_some

set_option maxHeartbeats 400000 in
theorem around_any (p : Pn) (w : World) :
    Calls Tryd.prog 60 #[.agg #[.int .u32 p.a, .int .i64 p.l]] w fun e w' => e = .returned (.func (.func 73) #[] #[.pointer (some ⟨w.heap.size, 0, none⟩)]) ∧
      Blk w' w.heap.size 29 #[.int .u32 p.a, .int .i64 p.l] ∧ Kp w w' := by
  have hmf := makeFunc_run
  go_enter Tryd.func60, Tryd.ntmps60
  go_wp2_with fail
  go_ret
  exact ⟨rfl, Blk.new w _ _, (Kp.refl _).alloc _⟩

theorem take_zero {p : Pn} (hp : p.ok) : p.take 0 = ⟨0, 0⟩ := by
  have h1 := hp.1
  unfold Pn.take cut
  rw [Nat.div_eq_of_lt (by simpa using h1)]
  try simp
theorem take_zero_holds {p q : Pn} (hp : p.ok) (hq : q.ok) : (p.take 0).holds q := comLen_holds hp hq 0 (Nat.zero_le _)
theorem take_down {p q : Pn} (hp : p.ok) {k m : Nat} (hk : k ≤ m) (hm : m ≤ p.l) (h : (p.take m).holds q) : (p.take k).holds q := by
  have hm32 : m ≤ 32 := Nat.le_trans hm hp.2.1
  refine ⟨Nat.le_trans hk h.1, ?_⟩
  have e : cut q.a m = cut p.a m := h.2
  show cut q.a k = cut p.a k
  rw [← cut_cut q.a hk hm32, e, cut_cut p.a hk hm32]
/-- Where the rounds break off. -/
theorem com_break {p q : Pn} (hp : p.ok) (hq : q.ok) {k : Nat} (hk : k ≤ p.l) (h1 : (p.take (k - 1)).holds q) (h2 : ¬ (p.take k).holds q) : p.com q = p.take (k - 1) := by
  have a := comLen_max p.l (k - 1) (by omega) h1
  have b : ¬ k ≤ comLen p q p.l := fun h => h2 (take_down hp h (comLen_le p q p.l) (comLen_holds hp hq p.l (Nat.le_refl _)))
  show p.take (comLen p q p.l) = _
  congr 1
  omega
theorem com_whole {p q : Pn} (h1 : (p.take p.l).holds q) : p.com q = p.take p.l := by
  have a := comLen_max p.l p.l (Nat.le_refl _) h1
  have b := comLen_le p q p.l
  show p.take (comLen p q p.l) = _
  congr 1
  omega
end Go.Proofs.YtfaiponmjjbgoaaDoor
