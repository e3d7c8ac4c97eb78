/- Rows of hops in memory: a hop is set, the last one goes. No condition. -/
import Derived.Test.YtfaiponmjjbgoaaDoorFbA
namespace Go.Proofs.YtfaiponmjjbgoaaDoor
open Go.RowKit

theorem flat_set {α : Type} {sz : Nat} {enc : α → List Value} (henc : ∀ x, (enc x).length = sz) : ∀ (xs : List α) (k : Nat) (y : α), k < xs.length → ∃ P S, P.length = k * sz ∧ (∃ x, xs.flatMap enc = P ++ (enc x ++ S)) ∧ (xs.set k y).flatMap enc = P ++ (enc y ++ S)
  | [], k, y, h => by simp at h
  | x :: xs, 0, y, h => ⟨[], xs.flatMap enc, by simp, ⟨x, by simp⟩, by simp⟩
  | x :: xs, k + 1, y, h => by
    obtain ⟨P, S, h1, ⟨z, h2⟩, h3⟩ := flat_set henc xs k y (by simpa using h)
    refine ⟨enc x ++ P, S, by simp [h1, henc, Nat.add_mul]; omega, ⟨z, by simp [h2]⟩, by simp [h3]⟩
theorem len6 {l : List Value} (h : l.length = 6) : ∃ a b c d e f, l = [a, b, c, d, e, f] := by
  match l, h with
  | [a, b, c, d, e, f], _ => exact ⟨a, b, c, d, e, f, rfl⟩

/-- A hop is stored in a row, cell by cell. -/
def set6 (w : World) (g o : Nat) (y : Hp) : World := (((((w.setCell ⟨g, o, none⟩ (.int .u32 y.p.a)).setCell ⟨g, o + 1, none⟩ (.int .i64 y.p.l)).setCell ⟨g, o + 2, none⟩ (.bool y.d)).setCell ⟨g, o + 3, none⟩ (.int .i64 y.f)).setCell ⟨g, o + 4, none⟩ (.int .u32 y.x)).setCell ⟨g, o + 5, none⟩ (.int .i64 y.m)
theorem Only.set6 {bs : List Nat} {a w : World} (h : Only bs a w) {g : Nat} (hg : g ∈ bs) (o : Nat) (y : Hp) : Only bs a (set6 w g o y) :=
  (((((h.setCell (p := ⟨g, _, none⟩) (.inl hg) _).setCell (p := ⟨g, _, none⟩) (.inl hg) _).setCell (p := ⟨g, _, none⟩) (.inl hg) _).setCell (p := ⟨g, _, none⟩) (.inl hg) _).setCell (p := ⟨g, _, none⟩) (.inl hg) _).setCell (p := ⟨g, _, none⟩) (.inl hg) _
theorem Own.set6 {w : World} {e g n c k : Nat} {H : List Hp} (h : Own w 0 e 6 Hp.enc (.slice (some ⟨g, 0, none⟩) n c) H) (hk : k < H.length) (y : Hp) : Own (set6 w g (k * 6) y) 0 e 6 Hp.enc (.slice (some ⟨g, 0, none⟩) n c) (H.set k y) := by
  obtain ⟨h1, h2⟩ := h
  unfold Own
  rw [List.length_set]
  rcases h2 with ⟨h2, _⟩ | ⟨g', cap, cur, hv, hg, hh, hn, hm, hs, ht⟩
  · cases h2
  injection hv with e1 e2 e3
  injection e1 with e1
  injection e1 with e1
  subst e1 e2 e3
  obtain ⟨P, S, hP, ⟨x, hx⟩, hS⟩ := flat_set Hp.len H k y hk
  have hB : Blk w g e cur := hh
  have hB' := (((((hB.set_ (k * 6) (.int .u32 y.p.a)).set_ (k * 6 + 1) (.int .i64 y.p.l)).set_ (k * 6 + 2) (.bool y.d)).set_ (k * 6 + 3) (.int .i64 y.f)).set_ (k * 6 + 4) (.int .u32 y.x)).set_ (k * 6 + 5) (.int .i64 y.m)
  refine ⟨by rw [flat_len Hp.len]; simp, .inr ⟨g, c, _, rfl, Nat.zero_le _, hB', hn, hm, by simpa using hs, ?_⟩⟩
  obtain ⟨a0, a1, a2, a3, a4, a5, hl⟩ := len6 (Hp.len x)
  obtain ⟨D, hcur⟩ : ∃ D, cur.toList = P ++ ([a0, a1, a2, a3, a4, a5] ++ (S ++ D)) := by
    refine ⟨cur.toList.drop (H.length * 6), ?_⟩
    conv => lhs; rw [← List.take_append_drop (H.length * 6) cur.toList, ht, hx, hl]
    simp
  have hlen : (P ++ (Hp.enc y ++ S)).length = H.length * 6 := by rw [← hS, flat_len Hp.len]; simp
  simp only [Array.toList_setIfInBounds, hcur]
  have e0 : k * 6 = P.length := hP.symm
  rw [hS]
  have : ((((((P ++ ([a0, a1, a2, a3, a4, a5] ++ (S ++ D))).set (k * 6) (.int .u32 y.p.a)).set (k * 6 + 1) (.int .i64 y.p.l)).set (k * 6 + 2) (.bool y.d)).set (k * 6 + 3) (.int .i64 y.f)).set (k * 6 + 4) (.int .u32 y.x)).set (k * 6 + 5) (.int .i64 y.m) = (P ++ (Hp.enc y ++ S)) ++ D := by
    rw [e0]
    simp [List.set_append, Hp.enc]
  rw [this, ← hlen, List.take_left']
  rfl
/-- The row is one shorter. -/
theorem Own.cut {w : World} {e n c : Nat} {A : Option Addr} {H : List Hp} (h : Own w 0 e 6 Hp.enc (.slice A n c) H) {m : Nat} (hm : m < H.length) : Own w 0 e 6 Hp.enc (.slice A m c) (H.take m) := by
  obtain ⟨h1, h2⟩ := h
  unfold Own
  have hl : (H.take m).length = m := by simp; omega
  rw [hl]
  rcases h2 with ⟨h2, h0⟩ | ⟨g', cap, cur, hv, hg, hh, hn, hm', hs, ht⟩
  · omega
  injection hv with e1 e2 e3
  subst e1 e2 e3
  refine ⟨by rw [flat_len Hp.len, hl], .inr ⟨g', c, cur, rfl, Nat.zero_le _, hh, by omega, hm', hs, ?_⟩⟩
  have e1 : cur.toList.take (m * 6) = (cur.toList.take (H.length * 6)).take (m * 6) := by rw [List.take_take]; congr 1; omega
  rw [e1, ht]
  conv => lhs; rw [← List.take_append_drop m H, List.flatMap_append]
  exact List.take_left' (by rw [flat_len Hp.len, hl])

theorem hop_at {w : World} {A : Option Addr} {l : List Hp} (h : Rd w 6 Hp.enc A l) {k : Nat} (hk : k < l.length) :
    ∃ b off : Nat, A = some ⟨b, off, none⟩ ∧ w.cell? ⟨b, off + k * 6, none⟩ = some (.int .u32 l[k].p.a) ∧ w.cell? ⟨b, off + k * 6 + 1, none⟩ = some (.int .i64 l[k].p.l) ∧ w.cell? ⟨b, off + k * 6 + 2, none⟩ = some (.bool l[k].d) ∧ w.cell? ⟨b, off + k * 6 + 3, none⟩ = some (.int .i64 l[k].f) ∧ w.cell? ⟨b, off + k * 6 + 4, none⟩ = some (.int .u32 l[k].x) ∧ w.cell? ⟨b, off + k * 6 + 5, none⟩ = some (.int .i64 l[k].m) := by
  obtain ⟨b, off, e, hc⟩ := h k hk
  exact ⟨b, off, e, hc 0 _ rfl, hc 1 _ rfl, hc 2 _ rfl, hc 3 _ rfl, hc 4 _ rfl, hc 5 _ rfl⟩
/-- A row that holds a hop lies in a block of its own. -/
theorem Own.some_ {w : World} {e n c : Nat} {A : Option Addr} {H : List Hp} (h : Own w 0 e 6 Hp.enc (.slice A n c) H) (hk : 0 < H.length) : ∃ g cur, A = some ⟨g, 0, none⟩ ∧ Blk w g e cur ∧ H.length ≤ c ∧ n = H.length := by
  rcases h.2 with ⟨_, h0⟩ | ⟨g, cap, cur, hv, hg, hh, hn, _⟩
  · omega
  · injection hv with e1 e2 e3
    subst e3
    exact ⟨g, cur, e1, hh, hn, e2⟩
end Go.Proofs.YtfaiponmjjbgoaaDoor
