/- Lemmas and contracts for the theorem of this claim: LxB, RaL. -/
import Derived.Test.YtffckpkikdlbpaaGreatDoorZsBv
set_option linter.unusedSimpArgs false
set_option linter.unusedVariables false
namespace Go.Proofs.YtffckpkikdlbpaaGreatDoor
open Go.RowKit
theorem least_pos (j : Nat) : 0 ≤ leastS j := by
  unfold leastS
  split <;> decide
theorem okCf_is (c : Cf) : okCf c = true ↔ (∀ j, j < 7 → withB 0 1000000 (c.t j) = true) ∧ 1 ≤ c.t0 ∧ 1 ≤ c.t2 ∧ 1 ≤ c.t4 ∧ 1 ≤ c.cap ∧ c.cap ≤ 256 ∧ (c.own.length : Int) ≤ c.cap ∧ c.own.length ≤ 16 ∧ freeB c.own = true := by
  constructor
  · intro h
    have ht := okCf_t h
    obtain ⟨h1, h2, h3, h4, _, _⟩ := okCf_cap h
    have hf : freeB c.own = true := by
      unfold okCf at h
      simp only [Bool.and_eq_true] at h
      exact h.2.2
    refine ⟨fun j hj => ?_, (ht 0 (by omega)).1, (ht 2 (by omega)).1, (ht 4 (by omega)).1, h1, h2, h4, by omega, hf⟩
    rw [withB_iff]
    have h5 := ht j hj
    have h6 := least_pos j
    omega
  · rintro ⟨h, h0, h2, h4, c0, c1, c2, c3, hf⟩
    have a0 := withB_iff.1 (h 0 (by omega))
    have a1 := withB_iff.1 (h 1 (by omega))
    have a2 := withB_iff.1 (h 2 (by omega))
    have a3 := withB_iff.1 (h 3 (by omega))
    have a4 := withB_iff.1 (h 4 (by omega))
    have a5 := withB_iff.1 (h 5 (by omega))
    have a6 := withB_iff.1 (h 6 (by omega))
    have s0 : spanB 0 c = true := withB_iff.2 ⟨h0, a0.2⟩
    have s1 : spanB 1 c = true := withB_iff.2 a1
    have s2 : spanB 2 c = true := withB_iff.2 ⟨h2, a2.2⟩
    have s3 : spanB 3 c = true := withB_iff.2 a3
    have s4 : spanB 4 c = true := withB_iff.2 ⟨h4, a4.2⟩
    have s5 : spanB 5 c = true := withB_iff.2 a5
    have s6 : spanB 6 c = true := withB_iff.2 a6
    have sc : withB 1 256 c.cap = true := withB_iff.2 ⟨c0, c1⟩
    have so : decide ((c.own.length : Int) ≤ min 16 c.cap) = true := decide_eq_true (by omega)
    unfold okCf spansB
    rw [s0, s1, s2, s3, s4, s5, s6, sc, so, hf]
    rfl
theorem okCf_not {c : Cf} (h : ¬ ((∀ j, j < 7 → withB 0 1000000 (c.t j) = true) ∧ 1 ≤ c.t0 ∧ 1 ≤ c.t2 ∧ 1 ≤ c.t4 ∧ 1 ≤ c.cap ∧ c.cap ≤ 256 ∧ (c.own.length : Int) ≤ c.cap ∧ c.own.length ≤ 16 ∧ freeB c.own = true)) : okCf c = false := by
  rw [Bool.eq_false_iff]
  exact fun z => h ((okCf_is c).1 z)
theorem sp7_at (c : Cf) (k : Nat) (hk : k < 7) {w : World} {g : Nat} (h : Blk w g 95 #[.int .i64 c.t0, .int .i64 c.t1, .int .i64 c.t2, .int .i64 c.t3, .int .i64 c.t4, .int .i64 c.t5, .int .i64 c.t6]) : w.cell? ⟨g, k, none⟩ = some (.int .i64 (c.t k)) := by
  rcases seven hk with rfl | rfl | rfl | rfl | rfl | rfl | rfl
  · exact h.cell 0
  · exact h.cell 1
  · exact h.cell 2
  · exact h.cell 3
  · exact h.cell 4
  · exact h.cell 5
  · exact h.cell 6
set_option maxRecDepth 100000 in
set_option maxHeartbeats 4000000 in
theorem right08_any (c : Cf) (A : Option Addr) (m : Nat) (w : World) (hS : SlPI w A m c.own) (hw : ∀ k (hk : k < c.own.length), c.own[k].a < 4294967296) (hn : c.own.length ≤ 1000000) :
    Calls Tryz.prog 16 #[cfV c A c.own.length m] w fun e w' => e = .returned (.bool (okCf c)) ∧ Kp w w' := by
  have HS := Lib.hid hS
  have HWF := Lib.hid hw
  obtain ⟨b, hb⟩ : ∃ b, w.heap.size = b := ⟨_, rfl⟩
  obtain ⟨W, hW, kW, B0⟩ : ∃ W, w.alloc (.cells (cfC c A c.own.length m) 24) = W ∧ Kp w W ∧ Blk W b 24 (cfC c A c.own.length m) := ⟨_, rfl, (Kp.refl _).alloc _, by rw [← hb]; exact Blk.new _ _ _⟩
  have HB := Lib.hid B0
  have y0 : W.cell? ⟨b, 0, none⟩ = some (.int .i64 c.t0) := B0.cell 0
  have y1 : W.cell? ⟨b, 1, none⟩ = some (.int .i64 c.t1) := B0.cell 1
  have y2 : W.cell? ⟨b, 2, none⟩ = some (.int .i64 c.t2) := B0.cell 2
  have y3 : W.cell? ⟨b, 3, none⟩ = some (.int .i64 c.t3) := B0.cell 3
  have y4 : W.cell? ⟨b, 4, none⟩ = some (.int .i64 c.t4) := B0.cell 4
  have y5 : W.cell? ⟨b, 5, none⟩ = some (.int .i64 c.t5) := B0.cell 5
  have y6 : W.cell? ⟨b, 6, none⟩ = some (.int .i64 c.t6) := B0.cell 6
  have y7 : W.cell? ⟨b, 7, none⟩ = some (.int .i64 c.cap) := B0.cell 7
  have y8 : W.cell? ⟨b, 8, none⟩ = some (.slice A c.own.length m) := B0.cell 8
  unfold cfC at hW
  clear hS hw B0
  go_enter Tryz.func16, Tryz.ntmps16
  go_wp2_with fail
  clear hW
  refine (rspans_any c A c.own.length m _).mono ?_
  rintro e w1 ⟨rfl, K1⟩
  clear y0 y1 y2 y3 y4 y5 y6 y7 y8
  obtain ⟨g, hg⟩ : ∃ g, w1.heap.size = g := ⟨_, rfl⟩
  obtain ⟨X, hX, kX, BX⟩ : ∃ X, w1.alloc (.cells #[.int .i64 c.t0, .int .i64 c.t1, .int .i64 c.t2, .int .i64 c.t3, .int .i64 c.t4, .int .i64 c.t5, .int .i64 c.t6] 95) = X ∧ Kp w1 X ∧ Blk X g 95 #[.int .i64 c.t0, .int .i64 c.t1, .int .i64 c.t2, .int .i64 c.t3, .int .i64 c.t4, .int .i64 c.t5, .int .i64 c.t6] := ⟨_, rfl, (Kp.refl _).alloc _, by rw [← hg]; exact Blk.new _ _ _⟩
  have KX := kW.trans (K1.trans kX)
  have HBX := Lib.hid (HB.out.keep (K1.trans kX))
  clear K1 kX
  go_wp2_with fail
  try rw [hX]
  try rw [hg]
  clear hX hg
  go_loopw [4] (fun i wr => ∃ k : Nat, k ≤ 7 ∧ i = .int .i64 k ∧ Hid (∀ j, j < k → withB 0 1000000 (c.t j) = true) ∧ Kp X wr) (fun i _ => 7 - (intOf i).toNat)
  case atStart => exact ⟨0, Nat.zero_le _, rfl, Lib.hid (fun j h => absurd h (by omega)), Kp.refl _⟩
  case round =>
    obtain ⟨k, hk, rfl, hF, hK⟩ := hrel
    have K := KX.trans hK
    by_cases hlt : k < 7
    · have hgi : (k : Int) < 7 := by omega
      have hg0 : (0 : Int) ≤ (k : Int) := by omega
      have ck := sp7_at c k hlt (BX.keep hK)
      obtain ⟨x, hx⟩ : ∃ x, c.t k = x := ⟨_, rfl⟩
      rw [hx] at ck
      have HX := Lib.hid hx
      clear hx
      go_wp2_with fail
      refine (span08_any x _).mono ?_
      rintro e w2 ⟨rfl, rfl⟩
      cases hs : withB 0 1000000 x with
      | false =>
        have HN := Lib.hid (okCf_not (c := c) (fun z => by have := z.1 k hlt; rw [HX.out, hs] at this; cases this))
        clear hs
        go_wp2_with fail
        go_ret
        exact ⟨by rw [HN.out] <;> rfl, K⟩
      | true =>
        have HN : Hid (∀ j, j < k + 1 → withB 0 1000000 (c.t j) = true) := Lib.hid (fun j hj => by
          by_cases e : j = k
          · subst e; rw [HX.out]; exact hs
          · exact hF.out j (by omega))
        clear hs
        go_wp2_with fail
        go_roundw
        case rel => exact ⟨k + 1, by omega, by go_num, HN, hK⟩
        case measure => simp [intOf]; omega
    · obtain rfl : k = 7 := by omega
      have B := HBX.out.keep hK
      have y0 : wr.cell? ⟨b, 0, none⟩ = some (.int .i64 c.t0) := B.cell 0
      have y2 : wr.cell? ⟨b, 2, none⟩ = some (.int .i64 c.t2) := B.cell 2
      have y4 : wr.cell? ⟨b, 4, none⟩ = some (.int .i64 c.t4) := B.cell 4
      have y7 : wr.cell? ⟨b, 7, none⟩ = some (.int .i64 c.cap) := B.cell 7
      have y8 : wr.cell? ⟨b, 8, none⟩ = some (.slice A c.own.length m) := B.cell 8
      clear B
      by_cases h1 : 1 ≤ c.t0
      · have d1 : decide (1 ≤ c.t0) = true := decide_eq_true h1
        by_cases h2 : 1 ≤ c.t2
        · have d2 : decide (1 ≤ c.t2) = true := decide_eq_true h2
          by_cases h3 : 1 ≤ c.t4
          · have d3 : decide (1 ≤ c.t4) = true := decide_eq_true h3
            by_cases h4 : 1 ≤ c.cap
            · have d4 : decide (1 ≤ c.cap) = true := decide_eq_true h4
              by_cases h5 : c.cap ≤ 256
              · have d5 : decide (c.cap ≤ 256) = true := decide_eq_true h5
                by_cases h6 : (c.own.length : Int) ≤ c.cap
                · have d6 : decide ((c.own.length : Int) ≤ c.cap) = true := decide_eq_true h6
                  have HN := Lib.hid (show okCf c = (decide (c.own.length ≤ 16) && freeB c.own) by
                    rw [Bool.eq_iff_iff, okCf_is, Bool.and_eq_true, decide_eq_true_eq]
                    exact ⟨fun z => ⟨z.2.2.2.2.2.2.2.1, z.2.2.2.2.2.2.2.2⟩, fun z => ⟨hF.out, h1, h2, h3, h4, h5, h6, z.1, z.2⟩⟩)
                  go_wp2_with fail
                  refine (own08_any c.own A m _ (HS.out.keep K) HWF.out hn).mono ?_
                  rintro e w3 ⟨rfl, K3⟩
                  rw [← HN.out]
                  go_wp2_with fail
                  go_ret
                  exact ⟨rfl, K.trans K3⟩
                · have d6 : decide ((c.own.length : Int) ≤ c.cap) = false := decide_eq_false h6
                  have HN := Lib.hid (okCf_not (c := c) (fun z => h6 z.2.2.2.2.2.2.1))
                  go_wp2_with fail
                  go_ret
                  exact ⟨by rw [HN.out] <;> rfl, K⟩
              · have d5 : decide (c.cap ≤ 256) = false := decide_eq_false h5
                have HN := Lib.hid (okCf_not (c := c) (fun z => h5 z.2.2.2.2.2.1))
                go_wp2_with fail
                go_ret
                exact ⟨by rw [HN.out] <;> rfl, K⟩
            · have d4 : decide (1 ≤ c.cap) = false := decide_eq_false h4
              have HN := Lib.hid (okCf_not (c := c) (fun z => h4 z.2.2.2.2.1))
              go_wp2_with fail
              go_ret
              exact ⟨by rw [HN.out] <;> rfl, K⟩
          · have d3 : decide (1 ≤ c.t4) = false := decide_eq_false h3
            have HN := Lib.hid (okCf_not (c := c) (fun z => h3 z.2.2.2.1))
            go_wp2_with fail
            go_ret
            exact ⟨by rw [HN.out] <;> rfl, K⟩
        · have d2 : decide (1 ≤ c.t2) = false := decide_eq_false h2
          have HN := Lib.hid (okCf_not (c := c) (fun z => h2 z.2.2.1))
          go_wp2_with fail
          go_ret
          exact ⟨by rw [HN.out] <;> rfl, K⟩
      · have d1 : decide (1 ≤ c.t0) = false := decide_eq_false h1
        have HN := Lib.hid (okCf_not (c := c) (fun z => h1 z.2.1))
        go_wp2_with fail
        go_ret
        exact ⟨by rw [HN.out] <;> rfl, K⟩
end Go.Proofs.YtffckpkikdlbpaaGreatDoor

namespace Go.Proofs.YtffckpkikdlbpaaGreatDoor
open Go.RowKit
theorem hearR_s0 {c : Cf} {r : Rt} {h : Hd} {now : Int} (e : (hearR c r h now).s = 0) : r.s = 0 := by
  have e1 : ¬ (lostR c r now).s = 0 := (by decide : ¬ (3 : Int) = 0)
  have e2 : ¬ (newR c r h now).s = 0 := (by decide : ¬ (2 : Int) = 0)
  unfold hearR at e
  repeat' split at e
  all_goals first | exact e | exact absurd e e1 | exact absurd e e2 | exact absurd e (by decide)
theorem off_len {L : List Rt} (u : UpR L) (p : PI) : (offR p L).length = if (getR p L).isNone then L.length else L.length - 1 := by
  cases e : getR p L with
  | none =>
    have : offR p L = L := List.filter_eq_self.2 (fun x hx => by simpa using getR_none.1 e x hx)
    rw [this]; rfl
  | some x =>
    obtain ⟨h1, rfl⟩ := getR_mem e
    have := (perm_off u h1).length_eq
    rw [List.length_cons] at this
    show _ = L.length - 1
    omega
theorem set_len {L : List Rt} (u : UpR L) (r : Rt) : (setR r L).length = (if r.s = 0 then 0 else 1) + (if (getR r.p L).isNone then L.length else L.length - 1) := by
  have := (setR_perm r L).length_eq
  rw [List.length_append, off_len u] at this
  rw [this]
  congr 1
  split <;> rfl
theorem get_len {L : List Rt} {p : PI} {x : Rt} (e : getR p L = some x) : 1 ≤ L.length := List.length_pos_of_mem (getR_mem e).1
theorem hear_len {T : Tb} (k : TbOk T) (p : PI) (h : Hd) (now : Int) :
    (setR (hearR T.c (wasR p T.l) h now) T.l).length = T.l.length + if (getR p T.l).isNone = true ∧ (hearR T.c (wasR p T.l) h now).s ≠ 0 then 1 else 0 := by
  rw [set_len k.u, hear_p, was_p]
  cases e : getR p T.l with
  | none =>
    simp only [Option.isNone_none, if_true, true_and]
    by_cases hs : (hearR T.c (wasR p T.l) h now).s = 0
    · rw [if_pos hs, if_neg (by simpa using hs)]; omega
    · rw [if_neg hs, if_pos hs]; omega
  | some x =>
    have h1 := get_len e
    have hs : ¬ (hearR T.c (wasR p T.l) h now).s = 0 := fun z => by
      have h2 := hearR_s0 z
      unfold wasR at h2
      rw [e] at h2
      exact (k.r x (getR_mem e).1).2 h2
    rw [if_neg hs]
    simp
    omega
theorem setR_comm {r s : Rt} {L : List Rt} (u : UpR L) (hp : r.p ≠ s.p) : setR s (setR r L) = setR r (setR s L) := by
  refine UpR.eq (setR_up _ (setR_up _ u)) (setR_up _ (setR_up _ u)) (fun x => ?_)
  simp only [mem_setR]
  constructor
  · rintro (⟨rfl, h⟩ | ⟨⟨rfl, h⟩ | ⟨h, h1⟩, h2⟩)
    · exact .inr ⟨.inl ⟨rfl, h⟩, fun z => hp z.symm⟩
    · exact .inl ⟨rfl, h⟩
    · exact .inr ⟨.inr ⟨h, h2⟩, h1⟩
  · rintro (⟨rfl, h⟩ | ⟨⟨rfl, h⟩ | ⟨h, h1⟩, h2⟩)
    · exact .inr ⟨.inl ⟨rfl, h⟩, hp⟩
    · exact .inl ⟨rfl, h⟩
    · exact .inr ⟨.inr ⟨h, h2⟩, h1⟩
theorem was_set {L : List Rt} (u : UpR L) (r : Rt) {p : PI} (hp : p ≠ r.p) : wasR p (setR r L) = wasR p L ∧ getR p (setR r L) = getR p L := by
  have : getR p (setR r L) = getR p L := by rw [getR_set r u, if_neg hp]
  exact ⟨by unfold wasR; rw [this], this⟩
def hearG (T : Tb) (p : PI) (h : Hd) (now : Int) : Tb × Int :=
  if fullB T p (hearR T.c (wasR p T.l) h now) then (⟨T.c, T.l, now, min (T.rf + 1) 2147483647⟩, 200)
  else (⟨T.c, setR (hearR T.c (wasR p T.l) h now) T.l, now, T.rf⟩, 0)
theorem heard_no {T : Tb} {p : PI} {h : Hd} {now : Int} (e : (toldB p && okHd h) = false) : (heardT T p h now).1 = T ∧ (heardT T p h now).2.2 = 2 := by
  unfold heardT
  rw [e]
  exact ⟨rfl, rfl⟩
theorem heard_yes {T : Tb} {p : PI} {h : Hd} {now : Int} (e : (toldB p && okHd h) = true) (t : timely T now = true) : (heardT T p h now).1 = (hearG T p h now).1 ∧ (heardT T p h now).2.2 = (hearG T p h now).2 := by
  unfold heardT hearG
  rw [if_pos e, if_pos t]
  split <;> exact ⟨rfl, rfl⟩
theorem heard_tlate {T : Tb} {p : PI} {h : Hd} {now : Int} (e : (toldB p && okHd h) = true) (t : timely T now = false) : heardT T p h now = (T, zeroR, 170) := by
  unfold heardT
  rw [if_pos e, t]
  rfl
theorem hearG_200 {T : Tb} {p : PI} {h : Hd} {now : Int} : (hearG T p h now).2 = 200 ↔ fullB T p (hearR T.c (wasR p T.l) h now) = true := by
  unfold hearG
  split
  · next e => exact ⟨fun _ => e, fun _ => rfl⟩
  · next e => exact ⟨fun z => absurd z (show ¬ (0 : Int) = 200 by decide), fun z => absurd z e⟩
theorem hearG_0 {T : Tb} {p : PI} {h : Hd} {now : Int} (e : (hearG T p h now).2 ≠ 200) : hearG T p h now = (⟨T.c, setR (hearR T.c (wasR p T.l) h now) T.l, now, T.rf⟩, 0) := by
  have : ¬ fullB T p (hearR T.c (wasR p T.l) h now) = true := fun z => e (hearG_200.2 z)
  unfold hearG
  rw [if_neg this]
theorem fullB_iff {T : Tb} {p : PI} {r : Rt} : fullB T p r = true ↔ (getR p T.l).isNone = true ∧ r.s ≠ 0 ∧ T.c.cap ≤ (T.l.length : Int) := by
  unfold fullB
  simp only [Bool.and_eq_true, decide_eq_true_eq]
theorem heard_le {T : Tb} (k : TbOk T) (p : PI) (h : Hd) (now : Int) : T.l.length ≤ (heardT T p h now).1.l.length := by
  unfold heardT
  repeat' split
  · exact Nat.le_refl _
  · show _ ≤ (setR (hearR T.c (wasR p T.l) h now) T.l).length
    rw [hear_len k]
    omega
  · exact Nat.le_refl _
  · exact Nat.le_refl _
theorem heard_tfull {T : Tb} (k : TbOk T) (p : PI) (h : Hd) (now : Int) (e : (heardT T p h now).2.2 = 200) : (T.l.length : Int) = T.c.cap := by
  have hn := k.n
  unfold heardT at e
  repeat' split at e
  · next e3 =>
    rw [fullB_iff] at e3
    omega
  all_goals first | exact absurd e (show ¬ (0 : Int) = 200 by decide) | exact absurd e (show ¬ (170 : Int) = 200 by decide) | exact absurd e (show ¬ (2 : Int) = 200 by decide)
theorem full_stays {T : Tb} (k : TbOk T) (e : (T.l.length : Int) = T.c.cap) (p : PI) (h : Hd) (now : Int) : ((heardT T p h now).1.l.length : Int) = T.c.cap := by
  have h1 := heard_le k p h now
  have h2 := (heard_ok k p h now).n
  rw [heard_c] at h2
  omega
theorem apart_full {T : Tb} (k : TbOk T) {p q : PI} (hpq : p ≠ q) (one two : Hd) (now : Int) (e : (heardT (heardT T p one now).1 q two now).2.2 = 200) (h : (heardT T q two now).2.2 ≠ 200) :
    ((heardT (heardT T q two now).1 p one now).1.l.length : Int) = T.c.cap := by
  have k1 := heard_ok k p one now
  have k2 := heard_ok k q two now
  have h1 := heard_tfull k1 q two now e
  rw [heard_c] at h1
  have hle := heard_le k2 p one now
  have hn := (heard_ok k2 p one now).n
  rw [heard_c, heard_c] at hn
  by_cases v2n : (toldB q && okHd two) = false
  · rw [(heard_no v2n).2] at e
    exact absurd e (show ¬ (2 : Int) = 200 by decide)
  have v2 : (toldB q && okHd two) = true := by
    cases hv : (toldB q && okHd two) with
    | true => rfl
    | false => exact absurd hv v2n
  have t1 : timely (heardT T p one now).1 now = true := by
    cases z : timely (heardT T p one now).1 now with
    | true => rfl
    | false =>
      rw [heard_tlate v2 z] at e
      exact absurd e (show ¬ (170 : Int) = 200 by decide)
  rw [(heard_yes v2 t1).2, hearG_200, fullB_iff] at e
  by_cases v1n : (toldB p && okHd one) = false
  · rw [(heard_no v1n).1] at h1
    have := full_stays k h1 q two now
    omega
  have v1 : (toldB p && okHd one) = true := by
    cases hv : (toldB p && okHd one) with
    | true => rfl
    | false => exact absurd hv v1n
  cases ht : timely T now with
  | false =>
    have e1 : (heardT T p one now).1 = T := by rw [heard_tlate v1 ht]
    rw [e1] at h1
    have := full_stays k h1 q two now
    omega
  | true =>
    rw [(heard_yes v1 ht).1] at e h1
    rw [(heard_yes v2 ht).2] at h
    rw [(heard_yes v2 ht).1] at hle hn ⊢
    by_cases f1 : (hearG T p one now).2 = 200
    · rw [hearG_200] at f1
      have h3 : (T.l.length : Int) = T.c.cap := by have := (fullB_iff.1 f1).2.2; have := k.n; omega
      have := full_stays k h3 q two now
      rw [(heard_yes v2 ht).1] at this
      omega
    · rw [hearG_0 f1] at e h1
      obtain ⟨w1, w2⟩ := was_set k.u (hearR T.c (wasR p T.l) one now) (p := q) (by rw [hear_p, was_p]; exact fun z => hpq z.symm)
      have e1 : (getR q (setR (hearR T.c (wasR p T.l) one now) T.l)).isNone = true := e.1
      have e2 : (hearR T.c (wasR q (setR (hearR T.c (wasR p T.l) one now) T.l)) two now).s ≠ 0 := e.2.1
      rw [w2] at e1
      rw [w1] at e2
      have h1' : ((setR (hearR T.c (wasR p T.l) one now) T.l).length : Int) = T.c.cap := h1
      rw [hear_len k] at h1'
      rw [hearG_0 h] at hle hn ⊢
      have hle' : (setR (hearR T.c (wasR q T.l) two now) T.l).length ≤ _ := hle
      rw [hear_len k, if_pos ⟨e1, e2⟩] at hle'
      have : ((if (getR p T.l).isNone = true ∧ (hearR T.c (wasR p T.l) one now).s ≠ 0 then 1 else 0 : Nat)) ≤ 1 := by split <;> omega
      omega
theorem apart_same {T : Tb} (k : TbOk T) {p q : PI} (hpq : p ≠ q) (one two : Hd) (now : Int)
    (hf : (heardT T p one now).2.2 ≠ 200) (hg : (heardT (heardT T p one now).1 q two now).2.2 ≠ 200) (hh : (heardT T q two now).2.2 ≠ 200) (hi : (heardT (heardT T q two now).1 p one now).2.2 ≠ 200) :
    (heardT T p one now).2.2 = (heardT (heardT T q two now).1 p one now).2.2 ∧ (heardT (heardT T p one now).1 q two now).2.2 = (heardT T q two now).2.2 ∧ (heardT (heardT T p one now).1 q two now).1 = (heardT (heardT T q two now).1 p one now).1 := by
  by_cases v1n : (toldB p && okHd one) = false
  · have v := fun U => heard_no (T := U) (now := now) v1n
    rw [(v T).1, (v T).2, (v _).1, (v _).2]
    exact ⟨rfl, rfl, rfl⟩
  by_cases v2n : (toldB q && okHd two) = false
  · have v := fun U => heard_no (T := U) (now := now) v2n
    rw [(v T).1, (v T).2, (v _).1, (v _).2]
    exact ⟨rfl, rfl, rfl⟩
  have v1 : (toldB p && okHd one) = true := by
    cases hv : (toldB p && okHd one) with
    | true => rfl
    | false => exact absurd hv v1n
  have v2 : (toldB q && okHd two) = true := by
    cases hv : (toldB q && okHd two) with
    | true => rfl
    | false => exact absurd hv v2n
  cases ht : timely T now with
  | false =>
    have e1 : heardT T p one now = (T, zeroR, 170) := heard_tlate v1 ht
    have e2 : heardT T q two now = (T, zeroR, 170) := heard_tlate v2 ht
    simp [e1, e2]
  | true =>
    have hto : okNow now = true := by
      unfold timely at ht
      rw [Bool.and_eq_true] at ht
      exact ht.1
    have tl : ∀ l rf, timely ⟨T.c, l, now, rf⟩ now = true := fun l rf => by unfold timely; rw [hto]; simp
    rw [(heard_yes v1 ht).2] at hf ⊢
    rw [(heard_yes v1 ht).1] at hg ⊢
    rw [(heard_yes v2 ht).2] at hh ⊢
    rw [(heard_yes v2 ht).1] at hi ⊢
    rw [hearG_0 hf] at hg ⊢
    rw [hearG_0 hh] at hi ⊢
    simp only at hg hi ⊢
    rw [(heard_yes v2 (tl _ _)).2] at hg ⊢
    rw [(heard_yes v1 (tl _ _)).2] at hi ⊢
    rw [(heard_yes v2 (tl _ _)).1, (heard_yes v1 (tl _ _)).1]
    rw [hearG_0 hg, hearG_0 hi]
    refine ⟨rfl, rfl, ?_⟩
    obtain ⟨w1, _⟩ := was_set k.u (hearR T.c (wasR p T.l) one now) (p := q) (by rw [hear_p, was_p]; exact fun z => hpq z.symm)
    obtain ⟨w2, _⟩ := was_set k.u (hearR T.c (wasR q T.l) two now) (p := p) (by rw [hear_p, was_p]; exact hpq)
    simp only [w1, w2]
    rw [setR_comm k.u (by rw [hear_p, hear_p, was_p, was_p]; exact hpq)]
theorem apart_cap {T : Tb} (k : TbOk T) {p q : PI} (hpq : p ≠ q) (one two : Hd) (now : Int)
    (h : (heardT T p one now).2.2 = 200 ∨ (heardT (heardT T p one now).1 q two now).2.2 = 200 ∨ (heardT T q two now).2.2 = 200 ∨ (heardT (heardT T q two now).1 p one now).2.2 = 200) :
    ((heardT (heardT T p one now).1 q two now).1.l.length : Int) = T.c.cap := by
  have k1 := heard_ok k p one now
  have go : (T.l.length : Int) = T.c.cap → ((heardT (heardT T p one now).1 q two now).1.l.length : Int) = T.c.cap := fun e => by
    have h1 := full_stays k e p one now
    have h2 := full_stays k1 (by rw [heard_c]; exact h1) q two now
    rw [heard_c] at h2
    exact h2
  by_cases hf : (heardT T p one now).2.2 = 200
  · exact go (heard_tfull k p one now hf)
  · rcases h with h | h | h | h
    · exact absurd h hf
    · have h1 := heard_tfull k1 q two now h
      have h2 := full_stays k1 h1 q two now
      rw [heard_c] at h2
      exact h2
    · exact go (heard_tfull k q two now h)
    · exact apart_full k (fun z => hpq z.symm) two one now h hf
end Go.Proofs.YtffckpkikdlbpaaGreatDoor
