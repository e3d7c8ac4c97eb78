/- Lemmas and contracts for the theorem of this claim: LxB. -/
import Derived.Test.YtffckpkikdlbpaaGreatDoorZtBv
set_option linter.unusedSimpArgs false
set_option linter.unusedVariables false
namespace Go.Proofs.YtffckpkikdlbpaaGreatDoor
open Go.RowKit
theorem least_pos (j : Nat) : 0 ≤ leastS j := by
  unfold leastS
  split <;> decide
theorem okCf_is (c : Cf) : okCf c = true ↔ (∀ j, j < 7 → withB 0 1000000 (c.t j) = true) ∧ 1 ≤ c.t0 ∧ 1 ≤ c.t2 ∧ 1 ≤ c.t4 ∧ 1 ≤ c.cap ∧ c.cap ≤ 256 ∧ (c.own.length : Int) ≤ c.cap ∧ c.own.length ≤ 16 ∧ freeB c.own = true := by
  constructor
  · intro h
    have ht := okCf_t h
    obtain ⟨h1, h2, h3, h4, _, _⟩ := okCf_cap h
    have hf : freeB c.own = true := by
      unfold okCf at h
      simp only [Bool.and_eq_true] at h
      exact h.2.2
    refine ⟨fun j hj => ?_, (ht 0 (by omega)).1, (ht 2 (by omega)).1, (ht 4 (by omega)).1, h1, h2, h4, by omega, hf⟩
    rw [withB_iff]
    have h5 := ht j hj
    have h6 := least_pos j
    omega
  · rintro ⟨h, h0, h2, h4, c0, c1, c2, c3, hf⟩
    have a0 := withB_iff.1 (h 0 (by omega))
    have a1 := withB_iff.1 (h 1 (by omega))
    have a2 := withB_iff.1 (h 2 (by omega))
    have a3 := withB_iff.1 (h 3 (by omega))
    have a4 := withB_iff.1 (h 4 (by omega))
    have a5 := withB_iff.1 (h 5 (by omega))
    have a6 := withB_iff.1 (h 6 (by omega))
    have s0 : spanB 0 c = true := withB_iff.2 ⟨h0, a0.2⟩
    have s1 : spanB 1 c = true := withB_iff.2 a1
    have s2 : spanB 2 c = true := withB_iff.2 ⟨h2, a2.2⟩
    have s3 : spanB 3 c = true := withB_iff.2 a3
    have s4 : spanB 4 c = true := withB_iff.2 ⟨h4, a4.2⟩
    have s5 : spanB 5 c = true := withB_iff.2 a5
    have s6 : spanB 6 c = true := withB_iff.2 a6
    have sc : withB 1 256 c.cap = true := withB_iff.2 ⟨c0, c1⟩
    have so : decide ((c.own.length : Int) ≤ min 16 c.cap) = true := decide_eq_true (by omega)
    unfold okCf spansB
    rw [s0, s1, s2, s3, s4, s5, s6, sc, so, hf]
    rfl
theorem okCf_not {c : Cf} (h : ¬ ((∀ j, j < 7 → withB 0 1000000 (c.t j) = true) ∧ 1 ≤ c.t0 ∧ 1 ≤ c.t2 ∧ 1 ≤ c.t4 ∧ 1 ≤ c.cap ∧ c.cap ≤ 256 ∧ (c.own.length : Int) ≤ c.cap ∧ c.own.length ≤ 16 ∧ freeB c.own = true)) : okCf c = false := by
  rw [Bool.eq_false_iff]
  exact fun z => h ((okCf_is c).1 z)
theorem sp7_at (c : Cf) (k : Nat) (hk : k < 7) {w : World} {g : Nat} (h : Blk w g 95 #[.int .i64 c.t0, .int .i64 c.t1, .int .i64 c.t2, .int .i64 c.t3, .int .i64 c.t4, .int .i64 c.t5, .int .i64 c.t6]) : w.cell? ⟨g, k, none⟩ = some (.int .i64 (c.t k)) := by
  rcases seven hk with rfl | rfl | rfl | rfl | rfl | rfl | rfl
  · exact h.cell 0
  · exact h.cell 1
  · exact h.cell 2
  · exact h.cell 3
  · exact h.cell 4
  · exact h.cell 5
  · exact h.cell 6
set_option maxRecDepth 100000 in
set_option maxHeartbeats 4000000 in
theorem right08_any (c : Cf) (A : Option Addr) (m : Nat) (w : World) (hS : SlPI w A m c.own) (hw : ∀ k (hk : k < c.own.length), c.own[k].a < 4294967296) (hn : c.own.length ≤ 1000000) :
    Calls Tryz.prog 16 #[cfV c A c.own.length m] w fun e w' => e = .returned (.bool (okCf c)) ∧ Kp w w' := by
  have HS := Lib.hid hS
  have HWF := Lib.hid hw
  obtain ⟨b, hb⟩ : ∃ b, w.heap.size = b := ⟨_, rfl⟩
  obtain ⟨W, hW, kW, B0⟩ : ∃ W, w.alloc (.cells (cfC c A c.own.length m) 24) = W ∧ Kp w W ∧ Blk W b 24 (cfC c A c.own.length m) := ⟨_, rfl, (Kp.refl _).alloc _, by rw [← hb]; exact Blk.new _ _ _⟩
  have HB := Lib.hid B0
  have y0 : W.cell? ⟨b, 0, none⟩ = some (.int .i64 c.t0) := B0.cell 0
  have y1 : W.cell? ⟨b, 1, none⟩ = some (.int .i64 c.t1) := B0.cell 1
  have y2 : W.cell? ⟨b, 2, none⟩ = some (.int .i64 c.t2) := B0.cell 2
  have y3 : W.cell? ⟨b, 3, none⟩ = some (.int .i64 c.t3) := B0.cell 3
  have y4 : W.cell? ⟨b, 4, none⟩ = some (.int .i64 c.t4) := B0.cell 4
  have y5 : W.cell? ⟨b, 5, none⟩ = some (.int .i64 c.t5) := B0.cell 5
  have y6 : W.cell? ⟨b, 6, none⟩ = some (.int .i64 c.t6) := B0.cell 6
  have y7 : W.cell? ⟨b, 7, none⟩ = some (.int .i64 c.cap) := B0.cell 7
  have y8 : W.cell? ⟨b, 8, none⟩ = some (.slice A c.own.length m) := B0.cell 8
  unfold cfC at hW
  clear hS hw B0
  go_enter Tryz.func16, Tryz.ntmps16
  go_wp2_with fail
  clear hW
  refine (rspans_any c A c.own.length m _).mono ?_
  rintro e w1 ⟨rfl, K1⟩
  clear y0 y1 y2 y3 y4 y5 y6 y7 y8
  obtain ⟨g, hg⟩ : ∃ g, w1.heap.size = g := ⟨_, rfl⟩
  obtain ⟨X, hX, kX, BX⟩ : ∃ X, w1.alloc (.cells #[.int .i64 c.t0, .int .i64 c.t1, .int .i64 c.t2, .int .i64 c.t3, .int .i64 c.t4, .int .i64 c.t5, .int .i64 c.t6] 95) = X ∧ Kp w1 X ∧ Blk X g 95 #[.int .i64 c.t0, .int .i64 c.t1, .int .i64 c.t2, .int .i64 c.t3, .int .i64 c.t4, .int .i64 c.t5, .int .i64 c.t6] := ⟨_, rfl, (Kp.refl _).alloc _, by rw [← hg]; exact Blk.new _ _ _⟩
  have KX := kW.trans (K1.trans kX)
  have HBX := Lib.hid (HB.out.keep (K1.trans kX))
  clear K1 kX
  go_wp2_with fail
  try rw [hX]
  try rw [hg]
  clear hX hg
  go_loopw [4] (fun i wr => ∃ k : Nat, k ≤ 7 ∧ i = .int .i64 k ∧ Hid (∀ j, j < k → withB 0 1000000 (c.t j) = true) ∧ Kp X wr) (fun i _ => 7 - (intOf i).toNat)
  case atStart => exact ⟨0, Nat.zero_le _, rfl, Lib.hid (fun j h => absurd h (by omega)), Kp.refl _⟩
  case round =>
    obtain ⟨k, hk, rfl, hF, hK⟩ := hrel
    have K := KX.trans hK
    by_cases hlt : k < 7
    · have hgi : (k : Int) < 7 := by omega
      have hg0 : (0 : Int) ≤ (k : Int) := by omega
      have ck := sp7_at c k hlt (BX.keep hK)
      obtain ⟨x, hx⟩ : ∃ x, c.t k = x := ⟨_, rfl⟩
      rw [hx] at ck
      have HX := Lib.hid hx
      clear hx
      go_wp2_with fail
      refine (span08_any x _).mono ?_
      rintro e w2 ⟨rfl, rfl⟩
      cases hs : withB 0 1000000 x with
      | false =>
        have HN := Lib.hid (okCf_not (c := c) (fun z => by have := z.1 k hlt; rw [HX.out, hs] at this; cases this))
        clear hs
        go_wp2_with fail
        go_ret
        exact ⟨by rw [HN.out] <;> rfl, K⟩
      | true =>
        have HN : Hid (∀ j, j < k + 1 → withB 0 1000000 (c.t j) = true) := Lib.hid (fun j hj => by
          by_cases e : j = k
          · subst e; rw [HX.out]; exact hs
          · exact hF.out j (by omega))
        clear hs
        go_wp2_with fail
        go_roundw
        case rel => exact ⟨k + 1, by omega, by go_num, HN, hK⟩
        case measure => simp [intOf]; omega
    · obtain rfl : k = 7 := by omega
      have B := HBX.out.keep hK
      have y0 : wr.cell? ⟨b, 0, none⟩ = some (.int .i64 c.t0) := B.cell 0
      have y2 : wr.cell? ⟨b, 2, none⟩ = some (.int .i64 c.t2) := B.cell 2
      have y4 : wr.cell? ⟨b, 4, none⟩ = some (.int .i64 c.t4) := B.cell 4
      have y7 : wr.cell? ⟨b, 7, none⟩ = some (.int .i64 c.cap) := B.cell 7
      have y8 : wr.cell? ⟨b, 8, none⟩ = some (.slice A c.own.length m) := B.cell 8
      clear B
      by_cases h1 : 1 ≤ c.t0
      · have d1 : decide (1 ≤ c.t0) = true := decide_eq_true h1
        by_cases h2 : 1 ≤ c.t2
        · have d2 : decide (1 ≤ c.t2) = true := decide_eq_true h2
          by_cases h3 : 1 ≤ c.t4
          · have d3 : decide (1 ≤ c.t4) = true := decide_eq_true h3
            by_cases h4 : 1 ≤ c.cap
            · have d4 : decide (1 ≤ c.cap) = true := decide_eq_true h4
              by_cases h5 : c.cap ≤ 256
              · have d5 : decide (c.cap ≤ 256) = true := decide_eq_true h5
                by_cases h6 : (c.own.length : Int) ≤ c.cap
                · have d6 : decide ((c.own.length : Int) ≤ c.cap) = true := decide_eq_true h6
                  have HN := Lib.hid (show okCf c = (decide (c.own.length ≤ 16) && freeB c.own) by
                    rw [Bool.eq_iff_iff, okCf_is, Bool.and_eq_true, decide_eq_true_eq]
                    exact ⟨fun z => ⟨z.2.2.2.2.2.2.2.1, z.2.2.2.2.2.2.2.2⟩, fun z => ⟨hF.out, h1, h2, h3, h4, h5, h6, z.1, z.2⟩⟩)
                  go_wp2_with fail
                  refine (own08_any c.own A m _ (HS.out.keep K) HWF.out hn).mono ?_
                  rintro e w3 ⟨rfl, K3⟩
                  rw [← HN.out]
                  go_wp2_with fail
                  go_ret
                  exact ⟨rfl, K.trans K3⟩
                · have d6 : decide ((c.own.length : Int) ≤ c.cap) = false := decide_eq_false h6
                  have HN := Lib.hid (okCf_not (c := c) (fun z => h6 z.2.2.2.2.2.2.1))
                  go_wp2_with fail
                  go_ret
                  exact ⟨by rw [HN.out] <;> rfl, K⟩
              · have d5 : decide (c.cap ≤ 256) = false := decide_eq_false h5
                have HN := Lib.hid (okCf_not (c := c) (fun z => h5 z.2.2.2.2.2.1))
                go_wp2_with fail
                go_ret
                exact ⟨by rw [HN.out] <;> rfl, K⟩
            · have d4 : decide (1 ≤ c.cap) = false := decide_eq_false h4
              have HN := Lib.hid (okCf_not (c := c) (fun z => h4 z.2.2.2.2.1))
              go_wp2_with fail
              go_ret
              exact ⟨by rw [HN.out] <;> rfl, K⟩
          · have d3 : decide (1 ≤ c.t4) = false := decide_eq_false h3
            have HN := Lib.hid (okCf_not (c := c) (fun z => h3 z.2.2.2.1))
            go_wp2_with fail
            go_ret
            exact ⟨by rw [HN.out] <;> rfl, K⟩
        · have d2 : decide (1 ≤ c.t2) = false := decide_eq_false h2
          have HN := Lib.hid (okCf_not (c := c) (fun z => h2 z.2.2.1))
          go_wp2_with fail
          go_ret
          exact ⟨by rw [HN.out] <;> rfl, K⟩
      · have d1 : decide (1 ≤ c.t0) = false := decide_eq_false h1
        have HN := Lib.hid (okCf_not (c := c) (fun z => h1 z.2.1))
        go_wp2_with fail
        go_ret
        exact ⟨by rw [HN.out] <;> rfl, K⟩
end Go.Proofs.YtffckpkikdlbpaaGreatDoor
