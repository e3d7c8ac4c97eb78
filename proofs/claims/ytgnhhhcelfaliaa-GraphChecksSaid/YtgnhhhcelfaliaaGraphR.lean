/- Layer 18's reference: Set and Same. No condition but the stated bounds. -/
import Derived.Test.YtgnhhhcelfaliaaGraphP
import Derived.Test.YtgnhhhcelfaliaaAppl
namespace Go.Proofs.Ytgnhhhcelfaliaa
open Go.RowKit

theorem ELk : ElemOf Try.prog 22 54 (.agg #[.int .i64 0, .int .i64 0, .bool false]) 3 24 := ⟨Try.underlying22, by kernel_rfl, rfl, by decide⟩
theorem Lk.len (l : Lk) : l.enc.length = 3 := rfl
theorem Lk.one (l : Lk) : ∀ u ∈ l.enc, u.oneCell' = true := by
  intro u hu
  simp only [Lk.enc, List.mem_cons, List.not_mem_nil, or_false] at hu
  rcases hu with rfl | rfl | rfl <;> rfl

def setUp (ls : List Lk) (k : Nat) (up : Bool) : List Lk := ls.set k { ls.getD k ⟨0, 0, false⟩ with Up := up }
theorem setUp_len (ls : List Lk) (k : Nat) (up : Bool) : (setUp ls k up).length = ls.length := by simp [setUp]
theorem setUp_flat (up : Bool) : ∀ (ls : List Lk) (k : Nat), k < ls.length → (ls.flatMap Lk.enc).set (k * 3 + 2) (.bool up) = (setUp ls k up).flatMap Lk.enc
  | [], k, h => by simp at h
  | l :: ls, 0, _ => by simp [setUp, Lk.enc]
  | l :: ls, k + 1, h => by
    have ih := setUp_flat up ls k (by simpa using h)
    have e : setUp (l :: ls) (k + 1) up = l :: setUp ls k up := by simp [setUp]
    rw [e, List.flatMap_cons, List.flatMap_cons, ← ih, List.set_append_right _ _ (by rw [Lk.len]; omega), Lk.len]
    rw [show (k + 1) * 3 + 2 - 3 = k * 3 + 2 by omega]

theorem Own.some {α : Type} {w : World} {base e sz : Nat} {enc : α → List Value} {v : Value} {xs : List α} (h : Own w base e sz enc v xs) (hx : 0 < xs.length) : ∃ g cap, v = .slice (some ⟨g, 0, none⟩) xs.length cap ∧ base ≤ g := by
  rcases h.2 with ⟨_, h0⟩ | ⟨g, cap, cur, rfl, hb, _⟩
  · omega
  · exact ⟨g, cap, rfl, hb⟩

theorem lk_flat : ∀ (ls : List Lk) (k : Nat) (hk : k < ls.length), (ls.flatMap Lk.enc)[k * 3 + 2]? = some (.bool ls[k].Up)
  | [], k, h => by simp at h
  | l :: ls, 0, _ => by simp [Lk.enc]
  | l :: ls, k + 1, h => by
    rw [List.flatMap_cons, List.getElem?_append_right (by rw [Lk.len]; omega), Lk.len, show (k + 1) * 3 + 2 - 3 = k * 3 + 2 by omega, lk_flat ls k (by simpa using h)]
    simp

set_option maxRecDepth 100000 in
set_option maxHeartbeats 1000000 in
theorem rset_any (R : Int) (k : Nat) (up : Bool) (A : Option Addr) (c : Nat) (ls : List Lk) (w : World) (hR : Rd w 3 Lk.enc A ls) (hn : ls.length ≤ 30) (hk : k < ls.length) :
    Calls Try.prog 29 #[.agg #[.int .i64 R, .slice A ls.length c], .int .i64 k, .bool up] w fun e w' => ∃ g cap, e = .returned (.agg #[.int .i64 R, .slice (some ⟨g, 0, none⟩) ls.length cap]) ∧ w.heap.size ≤ g ∧ Rd w' 3 Lk.enc (some ⟨g, 0, none⟩) (setUp ls k up) ∧ Kp w w' := by
  obtain ⟨W0, hW0⟩ : ∃ W0, ((w.alloc (.cells #[.int .i64 R, .slice A ls.length c] 24)).alloc (.cells #[.int .i64 0, .slice none 0 0] 24)).alloc (.cells #[] 54) = W0 := ⟨_, rfl⟩
  have hK0 : Kp w W0 := by rw [← hW0]; exact (((Kp.refl _).alloc _).alloc _).alloc _
  have A0 : Blk W0 w.heap.size 24 #[.int .i64 R, .slice A ls.length c] := by rw [← hW0]; exact ((Blk.new w _ _).alloc _).alloc _
  have A1 : Blk W0 (w.heap.size + 1) 24 #[.int .i64 0, .slice none 0 0] := by rw [← hW0]; exact (Blk.new1 w _ _ _).alloc _
  have hE : Own W0 (w.heap.size + 1 + 1) 54 3 Lk.enc (.slice (some ⟨w.heap.size + 1 + 1, 0, none⟩) 0 0) [] := Own.empty (Nat.le_refl _) (by rw [← hW0]; exact Blk.new2 w _ _ _ _)
  have hs0 : w.heap.size + 1 + 1 ≤ W0.heap.size := by rw [← hW0]; simp
  have a1 : W0.cell? ⟨w.heap.size, 1, none⟩ = some (.slice A ls.length c) := A0.cell 1
  go_enter Try.func29, Try.ntmps29
  go_upto_region 2 with (at_builtin; go_loud (refine wpList_appl ELk Lk.len Lk.one rfl _ _ rfl rfl rfl hE (hR.keep hK0) (by simp; omega) hs0 ?_; intro v' w1 hown hg hat; rw [List.nil_append] at hown; obtain ⟨g, cap, rfl, hgb⟩ := hown.some (by omega); have B0 := A0.grown hg (hE.ne (by omega)); have B1 := A1.grown hg (hE.ne (by omega)); have hK1 : Kp w w1 := hK0.grown hg (fun q hq => by have := (World.ownsRow.lt hE q hq).1; omega); clear hK0 hg hat A0 A1 hE a1; have b1 : w1.cell? ⟨w.heap.size, 1, none⟩ = some (.slice A ls.length c) := B0.cell 1; have z1 := B0.frozen 1))
  have b0 : w1.cell? ⟨w.heap.size, 0, none⟩ = some (.int .i64 R) := B0.cell 0
  have y0 : w1.cell? ⟨w.heap.size + 1, 0, none⟩ = some (.int .i64 0) := B1.cell 0
  have y1 : w1.cell? ⟨w.heap.size + 1, 1, none⟩ = some (.slice none 0 0) := B1.cell 1
  have zy0 := B1.frozen 0
  have zy1 := B1.frozen 1
  have zz := World.ownsRow.frozenAt hown (k * 3 + 2)
  have cc := (World.ownsRow.cellAt hown (k * 3 + 2) (by omega)).trans (lk_flat ls k hk)
  have n1 : ¬ g = w.heap.size := by omega
  have n2 : ¬ w.heap.size = g := by omega
  have n3 : ¬ g = w.heap.size + 1 := by omega
  have n4 : ¬ w.heap.size + 1 = g := by omega
  go_wp2_with fail
  have o1 : Own (w1.setCell ⟨w.heap.size, 1, none⟩ (.slice (some ⟨g, 0, none⟩) ls.length cap)) (w.heap.size + 1 + 1) 54 3 Lk.enc (.slice (some ⟨g, 0, none⟩) ls.length cap) ls := hown.setBelow (by show w.heap.size < _; omega) _
  have o2 := (World.ownsRow.stored o1 (k * 3 + 2) (.bool up)).1
  rw [setUp_flat up ls k hk, ← setUp_len ls k up] at o2
  have o3 := Own.setBelow (enc := Lk.enc) (p := ⟨w.heap.size + 1, 0, none⟩) o2 (by show w.heap.size + 1 < _; omega) (.int .i64 R)
  have o4 := Own.setBelow (enc := Lk.enc) (p := ⟨w.heap.size + 1, 1, none⟩) o3 (by show w.heap.size + 1 < _; omega) (.slice (some ⟨g, 0, none⟩) (setUp ls k up).length cap)
  have r4 := Rd.of_own (by omega) Lk.len o4
  rw [setUp_len] at r4
  refine bodyPost_ret (v := .agg #[.int .i64 R, .slice (some ⟨g, 0, none⟩) ls.length cap]) (by simp [results, Try.results29, go_sem, y0, y1, zy0, zy1]) rfl ⟨g, cap, rfl, by omega, r4, ?_⟩
  exact (((hK1.setCell (by simp) _).setCell (by simp; omega) _).setCell (by simp) _).setCell (by simp) _
end Go.Proofs.Ytgnhhhcelfaliaa
