/- Layer 25: ViewTexts and ViewParses, walked. No condition but the library's variables and what the types hold. -/
import Derived.Test.YtbfimimhgdkpaaaGreatDoorZhH
set_option linter.unusedSimpArgs false
set_option linter.unusedVariables false
/- The reference of package prefix: Parse. No condition but the library's variables and the stated bounds. -/
namespace Go.Proofs.YtbfimimhgdkpaaaGreatDoor
open Go.RowKit

theorem headR_at {l : List UInt8} (h : (headR l 4 0 0).2.2 = true) : (headR l 4 0 0).2.1 ≤ l.length := by
  have one : ∀ (i at_ n : Nat), i < 3 → (headR l (i + 1) at_ n).2.2 = true → ∃ m k, k ≤ l.length ∧ headR l (i + 1) at_ n = headR l i k m := by
    intro i at_ n hi ht
    have step : headR l (i + 1) at_ n = if l.getD at_ 0 = 46 ∧ at_ < l.length then (if (numR 255 0 0 (l.drop (at_ + 1))).2 = 0 then (0, at_ + 1, false) else headR l i (at_ + 1 + (numR 255 0 0 (l.drop (at_ + 1))).2) (256 * n + (numR 255 0 0 (l.drop (at_ + 1))).1)) else (0, at_, false) := by
      rcases i with _ | _ | _ | i
      · rfl
      · rfl
      · rfl
      · omega
    rw [step] at ht ⊢
    split at ht
    · rename_i hd
      rw [if_pos hd]
      split at ht
      · cases ht
      · rename_i h0
        rw [if_neg h0]
        obtain ⟨b1, b2, b3⟩ := numR_at rfl h0
        exact ⟨_, _, b1, rfl⟩
    · cases ht
  have step : headR l 4 0 0 = if (numR 255 0 0 (l.drop 0)).2 = 0 then (0, 0, false) else headR l 3 (0 + (numR 255 0 0 (l.drop 0)).2) (256 * 0 + (numR 255 0 0 (l.drop 0)).1) := rfl
  rw [step] at h ⊢
  split at h
  · cases h
  · rename_i h0
    rw [if_neg h0]
    obtain ⟨m1, k1, hk1, e1⟩ := one 2 _ _ (by omega) h
    rw [e1] at h ⊢
    obtain ⟨m2, k2, hk2, e2⟩ := one 1 _ _ (by omega) h
    rw [e2] at h ⊢
    obtain ⟨m3, k3, hk3, e3⟩ := one 0 _ _ (by omega) h
    rw [e3]
    exact hk3
theorem find_range {Q : Nat → Bool} {n j : Nat} (hj : j < n) (h : ∀ i, i < j → Q i = false) (hq : Q j = true) : (List.range n).find? Q = some j := by
  rw [List.find?_range_eq_some]
  exact ⟨hq, List.mem_range.2 hj, fun i hi => by rw [h i hi]; rfl⟩
theorem find_range_no {Q : Nat → Bool} {n : Nat} (h : ∀ i, i < n → Q i = false) : (List.range n).find? Q = none := by
  rw [List.find?_eq_none]
  intro x hx
  rw [h x (List.mem_range.1 hx)]
  simp
/-- A length that may stand behind an address's text. -/
def lenQ (s : List UInt8) (a at_ n : Nat) : Bool := decide (s.drop at_ = 47 :: Lib.decDigits n) && (PI.mk a (n : Int)).okB
theorem rpxP_eq {s : List UInt8} {a at_ : Nat} (h : headR s 4 0 0 = (a, at_, true)) : rpxP s = ((List.range 33).find? (lenQ s a at_)).map (fun n => ⟨a, (n : Int)⟩) := by
  unfold rpxP
  rw [h]
  show Option.map (fun n : Int => PI.mk a n) ((List.range 33).find? (lenQ s a at_) >>= fun a => pure (a : Int)) = _
  cases (List.range 33).find? (lenQ s a at_) <;> rfl
def RPrefP (s : ByteArray) (w : World) (e : Ending) (w' : World) : Prop :=
  Kp w w' ∧ (∀ p, rpxP s.data.toList = some p → e = .returned (.tuple #[.agg #[.int .u32 p.a, .int .i64 p.l], .int .i64 0])) ∧ (rpxP s.data.toList = none → e = .returned (.tuple #[.agg #[.int .u32 0, .int .i64 0], .int .i64 120]))
theorem slash_sum (k : Nat) (hk : k ≤ 33) : ∃ B t : ByteArray, strB (Lib.itoa (k : Int)) = B ∧ t = strB (47 :: Lib.decDigits k) ∧ (∀ w, (Op.stringOp .add ⟨#[47]⟩ B).run Tryz.prog w = .ok (.string t) w) := by
  obtain ⟨t, f, z, y⟩ := add_fact (x := ⟨#[47]⟩) (y := strB (Lib.itoa (k : Int))) (n := 1) (m := 100) (by decide) (by rw [sz_strB]; exact itoa_short (by omega) (by omega)) (by omega)
  refine ⟨_, t, rfl, ?_, z⟩
  rw [f, Lib.itoa_nonneg, show (⟨#[47]⟩ : ByteArray) = strB [47] from rfl, strB_app]
  rfl
set_option maxRecDepth 100000 in
set_option maxHeartbeats 2000000 in
theorem rpparse_any (s : ByteArray) (hs : s.size ≤ 1000000) (w : World) (L : LibOk w) : Calls Tryz.prog 72 #[.string s] w (RPrefP s w) := by
  have hlen : s.data.toList.length = s.size := by rw [Array.length_toList]; rfl
  obtain ⟨W, hW, kW, BW⟩ : ∃ W, w.alloc (.cells #[.int .u32 0, .int .i64 0] 42) = W ∧ Kp w W ∧ Blk W w.heap.size 42 #[.int .u32 0, .int .i64 0] := ⟨_, rfl, (Kp.refl _).alloc _, Blk.new w _ _⟩
  have hh := rhead_any s (by omega) W
  obtain ⟨a, at_, ok, hH⟩ : ∃ a at_ ok, headR s.data.toList 4 0 0 = (a, at_, ok) := ⟨_, _, _, rfl⟩
  rw [hH] at hh
  simp only at hh
  cases ok with
  | false =>
    have H := Lib.hid (show rpxP s.data.toList = none by unfold rpxP; rw [hH]; rfl)
    clear hH
    go_enter Tryz.func72, Tryz.ntmps72
    go_wp2_with fail
    try rw [hW]
    refine hh.mono ?_
    rintro e w1 ⟨rfl, rfl⟩
    have q0 : w1.cell? ⟨w.heap.size, 0, none⟩ = some (.int .u32 0) := BW.cell 0
    have q1 : w1.cell? ⟨w.heap.size, 1, none⟩ = some (.int .i64 0) := BW.cell 1
    have z0 := BW.frozen 0
    have z1 := BW.frozen 1
    have hlt := BW.lt
    go_wp2_with fail
    obtain ⟨W2, hW2, k2, B2⟩ : ∃ W2, (w1.setCell ⟨w.heap.size, 0, none⟩ (.int .u32 0)).setCell ⟨w.heap.size, 1, none⟩ (.int .i64 0) = W2 ∧ Kp w W2 ∧ Blk W2 w.heap.size 42 #[.int .u32 0, .int .i64 0] := ⟨_, rfl, (kW.setCell (by simp) _).setCell (by simp) _, by simpa using (BW.set_ 0 (.int .u32 0)).set_ 1 (.int .i64 0)⟩
    rw [hW2]
    have y0 : W2.cell? ⟨w.heap.size, 0, none⟩ = some (.int .u32 0) := B2.cell 0
    have y1 : W2.cell? ⟨w.heap.size, 1, none⟩ = some (.int .i64 0) := B2.cell 1
    exact bodyPost_ret (v := .tuple #[.agg #[.int .u32 0, .int .i64 0], .int .i64 120]) (by simp [results, Tryz.results72, go_sem, y0, y1]) rfl ⟨k2, fun p h => (by rw [H.out] at h; cases h), fun _ => rfl⟩
  | true =>
    have hla : a < 4294967296 := by have := headR_lt (l := s.data.toList) (by rw [hH]); rw [hH] at this; exact this
    have hat : at_ ≤ s.size := by have h5 : at_ ≤ s.data.toList.length := (by have := headR_at (l := s.data.toList) (by rw [hH]); rw [hH] at this; exact this); omega
    have H := Lib.hid (rpxP_eq hH)
    have Hlen := Lib.hid hlen
    clear hH hlen
    have R0 : Hid (Kp w W ∧ Blk W w.heap.size 42 #[.int .u32 0, .int .i64 0] ∧ ∀ i, i < 0 → lenQ s.data.toList a at_ i = false) := Lib.hid ⟨kW, BW, fun i h => absurd h (by omega)⟩
    have hext := extract_eq s at_ s.size
    rw [List.take_of_length_le (by rw [List.length_drop, Hlen.out]; exact Nat.le_refl _)] at hext
    have Hext := Lib.hid hext
    have hat0 : (0 : Int) ≤ (at_ : Int) := by omega
    have hat1 : (at_ : Int) ≤ (s.size : Int) := by omega
    clear hext
    go_enter Tryz.func72, Tryz.ntmps72
    go_wp2_with fail
    try rw [hW]
    refine hh.mono ?_
    rintro e w1 ⟨rfl, rfl⟩
    clear hh BW hW kW
    go_wp2_with fail
    go_loopw [7] (fun k wr => ∃ j : Nat, j ≤ 33 ∧ k = .int .i64 j ∧ Hid (Kp w wr ∧ Blk wr w.heap.size 42 #[.int .u32 0, .int .i64 0] ∧ ∀ i, i < j → lenQ s.data.toList a at_ i = false)) (fun k _ => 33 - (intOf k).toNat)
    case atStart => exact ⟨0, by omega, rfl, R0⟩
    case round =>
      obtain ⟨j, hj, rfl, R⟩ := hrel
      obtain ⟨kr, br, hr⟩ := R.out
      have Hr := Lib.hid hr
      clear hr
      by_cases hlt : j < 33
      · have hd : decide ((j : Int) ≤ 32) = true := by rw [decide_eq_true_iff]; omega
        obtain ⟨B, t, hB, ht, z⟩ := slash_sum j (by omega)
        have HB := Lib.hid hB
        have HT := Lib.hid ht
        clear hB ht
        have hltr := br.lt
        obtain ⟨W2, hW2, k2, b2⟩ : ∃ W2, wr.alloc (.cells #[.int .u32 a, .int .i64 j] 42) = W2 ∧ Kp wr W2 ∧ Blk W2 wr.heap.size 42 #[.int .u32 a, .int .i64 j] := ⟨_, rfl, (Kp.refl _).alloc _, Blk.new _ _ _⟩
        have L2 := L.keep (kr.trans k2)
        have c0 : W2.cell? ⟨wr.heap.size, 0, none⟩ = some (.int .u32 a) := b2.cell 0
        have c1 : W2.cell? ⟨wr.heap.size, 1, none⟩ = some (.int .i64 j) := b2.cell 1
        have K0 : Kp W2 W2.drew := (Kp.refl W2).drew
        by_cases hq : s.data.toList.drop at_ = 47 :: Lib.decDigits j
        · have he2 : ((s.extract at_ s.size).toList == t.toList) = true := by rw [Hext.out, HT.out, hq]; simp
          have Hq := Lib.hid hq
          clear hq
          go_wp2_with fail
          try rw [hW2]
          clear hW2
          go_region_held3 (fun w' => w'.cell? ⟨wr.heap.size, 0, none⟩ = some (.int .u32 a) ∧ w'.cell? ⟨wr.heap.size, 1, none⟩ = some (.int .i64 j))
            (first | exact ⟨Kb.cell c0, Kb.cell c1⟩ | exact ⟨Ka.cell c0, Ka.cell c1⟩ | exact ⟨K0.cell c0, K0.cell c1⟩ | go_keep)
            (first
              | (have tk := Ka; go_at_call 113; refine (rright_any ⟨a, j⟩ _ hla).mono ?_; rintro e wb ⟨rfl, hKb⟩; have Kb : Kp W2 wb := Ka.trans hKb; clear tk)
              | (go_at_call 48; refine (itoa_any (j : Int) (by omega) (by omega) _ (L2.keep K0)).mono ?_; rintro e wa ⟨rfl, hKa⟩; rw [HB.out]; have Ka : Kp W2 wa := K0.trans hKa))
          have KW := kr.trans (k2.trans Kb)
          have BW := br.keep (k2.trans Kb)
          have bb := b2.keep Kb
          cases hok : (PI.mk a (j : Int)).okB with
          | true =>
            have hf := find_range (Q := lenQ s.data.toList a at_) (n := 33) hlt Hr.out (by unfold lenQ; rw [hok, decide_eq_true Hq.out]; rfl)
            have Hv := Lib.hid (show rpxP s.data.toList = some ⟨a, (j : Int)⟩ by rw [H.out, hf]; rfl)
            have y0 : wb.cell? ⟨wr.heap.size, 0, none⟩ = some (.int .u32 a) := bb.cell 0
            have y1 : wb.cell? ⟨wr.heap.size, 1, none⟩ = some (.int .i64 j) := bb.cell 1
            have q0 : wb.cell? ⟨w.heap.size, 0, none⟩ = some (.int .u32 0) := BW.cell 0
            have q1 : wb.cell? ⟨w.heap.size, 1, none⟩ = some (.int .i64 0) := BW.cell 1
            have z0 := BW.frozen 0
            have z1 := BW.frozen 1
            clear hf hok z
            go_wp2_with fail
            obtain ⟨W3, hW3, k3, B3⟩ : ∃ W3, (wb.setCell ⟨w.heap.size, 0, none⟩ (.int .u32 a)).setCell ⟨w.heap.size, 1, none⟩ (.int .i64 j) = W3 ∧ Kp w W3 ∧ Blk W3 w.heap.size 42 #[.int .u32 a, .int .i64 j] := ⟨_, rfl, (KW.setCell (by simp) _).setCell (by simp) _, by simpa using (BW.set_ 0 (.int .u32 a)).set_ 1 (.int .i64 j)⟩
            rw [hW3]
            have v0 : W3.cell? ⟨w.heap.size, 0, none⟩ = some (.int .u32 a) := B3.cell 0
            have v1 : W3.cell? ⟨w.heap.size, 1, none⟩ = some (.int .i64 j) := B3.cell 1
            exact bodyPost_ret (v := .tuple #[.agg #[.int .u32 a, .int .i64 j], .int .i64 0]) (by simp [results, Tryz.results72, go_sem, v0, v1]) rfl ⟨k3, fun p h => (by rw [Hv.out, Option.some.injEq] at h; subst h; rfl), fun h => (by rw [Hv.out] at h; cases h)⟩
          | false =>
            have Hn := Lib.hid (show ∀ i, i < j + 1 → lenQ s.data.toList a at_ i = false from fun i hi => by
              rcases Nat.lt_succ_iff_lt_or_eq.1 hi with h | h
              · exact Hr.out i h
              · subst h; unfold lenQ; rw [hok, Bool.and_false])
            clear hok z
            go_wp2_with fail
            go_roundw
            case rel => exact ⟨j + 1, by omega, by go_num, Lib.hid ⟨KW, BW, Hn.out⟩⟩
            case measure => simp [intOf]; omega
        · have he2 : ((s.extract at_ s.size).toList == t.toList) = false := by rw [Hext.out, HT.out, beq_eq_false_iff_ne]; simpa using hq
          have Hn := Lib.hid (show ∀ i, i < j + 1 → lenQ s.data.toList a at_ i = false from fun i hi => by
            rcases Nat.lt_succ_iff_lt_or_eq.1 hi with h | h
            · exact Hr.out i h
            · subst h; unfold lenQ; rw [decide_eq_false hq, Bool.false_and])
          clear hq
          go_wp2_with fail
          try rw [hW2]
          clear hW2
          refine wp_anyW (by kernel_rfl) (fun V hV => ?_)
          have K0 : Kp W2 V := by rw [hV]; exact (Kp.refl _).drew
          clear hV
          refine wpAny_take (i := 0) (v := .string s) rfl (by kernel_rfl) (by kernel_rfl) (by kernel_rfl) (fun _ _ _ h => h) (Or.inl ⟨by rfl, fun w => by go_simp⟩) ?_
          refine wpAny_take (i := 1) (v := .int .i64 (at_ : Int)) rfl (by kernel_rfl) (by kernel_rfl) (by kernel_rfl) (fun _ _ _ h => h) (Or.inl ⟨by rfl, fun w => by go_simp⟩) ?_
          refine wpAny_take (i := 3) (v := .int .i64 (j : Int)) rfl (by kernel_rfl) (by kernel_rfl) (by kernel_rfl) (fun _ _ _ h => h) (Or.inl ⟨by rfl, fun w => by go_simp⟩) ?_
          refine wpAny_take (i := 2) (v := .string (s.extract at_ s.size)) rfl (by kernel_rfl) (by kernel_rfl) (by kernel_rfl) (fun _ _ _ h => h) (Or.inl ⟨by rfl, fun w => by go_simp⟩) ?_
          refine wpAny_ready (rs := [4]) (by kernel_rfl) (by simp) ?_
          refine AllReady.cons rfl (fun K hK => ?_) AllReady.nil
          go_simp
          refine (itoa_any (j : Int) (by omega) (by omega) _ (L2.keep K0)).mono ?_
          rintro e wa ⟨rfl, hKa⟩
          rw [HB.out]
          have Ka : Kp W2 wa := K0.trans hKa
          refine hK _ _ ?_
          clear hK K
          refine wpAny_take (i := 5) (v := .string t) rfl (by kernel_rfl) (by kernel_rfl) (by kernel_rfl) (fun _ _ _ h => h) (Or.inl ⟨by rfl, fun w => by go_simp⟩) ?_
          refine wpAny_take (i := 6) (v := .bool false) rfl (by kernel_rfl) (by kernel_rfl) (by kernel_rfl) (fun _ _ _ h => h) (Or.inl ⟨by rfl, fun w => by go_simp⟩) ?_
          refine wpAny_take (i := 7) (v := .bool false) rfl (by kernel_rfl) (by kernel_rfl) (by kernel_rfl) (fun _ _ _ h => h) (Or.inl ⟨by rfl, fun w => by go_simp⟩) ?_
          refine wpAny_take (i := 8) (v := undef) rfl (by kernel_rfl) (by kernel_rfl) (by kernel_rfl) (fun _ _ _ h => h) (Or.inr ⟨by rfl, rfl⟩) ?_
          refine wpAny_take (i := 9) (v := undef) rfl (by kernel_rfl) (by kernel_rfl) (by kernel_rfl) (fun _ _ _ h => h) (Or.inr ⟨by rfl, rfl⟩) ?_
          refine wpAny_take (i := 10) (v := .bool false) rfl (by kernel_rfl) (by kernel_rfl) (by kernel_rfl) (fun _ _ _ h => h) (Or.inl ⟨by rfl, fun w => by go_simp⟩) ?_
          refine wpAny_rest 11 rfl (by kernel_rfl) ?_
          simp only [List.drop_succ_cons, List.drop_zero]
          have KW := kr.trans (k2.trans Ka)
          have BW := br.keep (k2.trans Ka)
          clear z
          go_wp2_with fail
          go_roundw
          case rel => exact ⟨j + 1, by omega, by go_num, Lib.hid ⟨KW, BW, Hn.out⟩⟩
          case measure => simp [intOf]; omega
      · obtain rfl : j = 33 := by omega
        have Hv := Lib.hid (show rpxP s.data.toList = none by rw [H.out, find_range_no Hr.out]; rfl)
        have q0 : wr.cell? ⟨w.heap.size, 0, none⟩ = some (.int .u32 0) := br.cell 0
        have q1 : wr.cell? ⟨w.heap.size, 1, none⟩ = some (.int .i64 0) := br.cell 1
        have z0 := br.frozen 0
        have z1 := br.frozen 1
        go_wp2_with fail
        obtain ⟨W3, hW3, k3, B3⟩ : ∃ W3, (wr.setCell ⟨w.heap.size, 0, none⟩ (.int .u32 0)).setCell ⟨w.heap.size, 1, none⟩ (.int .i64 0) = W3 ∧ Kp w W3 ∧ Blk W3 w.heap.size 42 #[.int .u32 0, .int .i64 0] := ⟨_, rfl, (kr.setCell (by simp) _).setCell (by simp) _, by simpa using (br.set_ 0 (.int .u32 0)).set_ 1 (.int .i64 0)⟩
        rw [hW3]
        have v0 : W3.cell? ⟨w.heap.size, 0, none⟩ = some (.int .u32 0) := B3.cell 0
        have v1 : W3.cell? ⟨w.heap.size, 1, none⟩ = some (.int .i64 0) := B3.cell 1
        exact bodyPost_ret (v := .tuple #[.agg #[.int .u32 0, .int .i64 0], .int .i64 120]) (by simp [results, Tryz.results72, go_sem, v0, v1]) rfl ⟨k3, fun p h => (by rw [Hv.out] at h; cases h), fun _ => rfl⟩
end Go.Proofs.YtbfimimhgdkpaaaGreatDoor

/- The reference of package view: a text's words. No condition but the text's length. -/
namespace Go.Proofs.YtbfimimhgdkpaaaGreatDoor
open Go.RowKit

structure RPart (w : World) (s : ByteArray) (x : UInt8) (a i : Nat) (v : Value) (wr : World) : Prop where
  kp : Kp w wr
  own : (i ≤ s.size ∧ a ≤ i ∧ (∀ k, a ≤ k → k < i → byteAt s k ≠ x.toNat) ∧ ∃ ws, ws.length ≤ i ∧ Own wr w.heap.size 9 1 strE v ws ∧ parted x s.data.toList = ws ++ parted x (s.data.toList.drop a)) ∨ (i = s.size + 1 ∧ Own wr w.heap.size 9 1 strE v (parted x s.data.toList))
set_option maxRecDepth 100000 in
set_option maxHeartbeats 2000000 in
theorem rparted_any (s : ByteArray) (hs : s.size ≤ 1000000) (x : UInt8) (w : World) : Calls Tryz.prog 53 #[.string s, .int .u8 (x.toNat : Int)] w fun e w' => ∃ v, e = .returned v ∧ Own w' w.heap.size 9 1 strE v (parted x s.data.toList) ∧ Kp w w' := by
  have hlen : s.data.toList.length = s.size := by rw [Array.length_toList]; rfl
  have Hlen := Lib.hid hlen; clear hlen
  go_enter Tryz.func53, Tryz.ntmps53
  go_wp2_with fail
  go_loopw [5, 6, 7] (fun v f i wr => ∃ a n : Nat, f = .int .i64 a ∧ i = .int .i64 n ∧ n ≤ s.size + 1 ∧ Hid (RPart w s x a n v wr)) (fun _ _ i _ => s.size + 1 - (intOf i).toNat)
  case atStart => exact ⟨0, 0, rfl, rfl, by omega, Lib.hid ⟨Kp.refl _, .inl ⟨by omega, by omega, fun k _ h => absurd h (by omega), [], by simp, Own.nil _ _ _ _ _, by simp⟩⟩⟩
  case round =>
    obtain ⟨a, n, rfl, rfl, hn, R⟩ := hrel
    have hK := R.out.kp
    have hsz := hK.size
    rcases R.out.own with ⟨hle, han, hno, ws, hwl, hO, hq⟩ | ⟨hend, hO⟩
    · have HR := R
      by_cases hlt : n < s.size
      · obtain ⟨c, hc, hd⟩ := drop_byte hlt
        have x1 := byte_get hlt hc n rfl
        have hbl : c.toNat = byteAt s n := hc
        have g0 : ((n : Int) == (s.size : Int)) = false := by rw [beq_eq_false_iff_ne]; omega
        have g00 : (n : Int) ≤ (s.size : Int) := by omega
        have g01 : (0 : Int) ≤ (n : Int) := by omega
        have g02 : (n : Int) < (s.size : Int) := by omega
        clear hc hd
        by_cases hcx : c = x
        · have g1 : ((c.toNat : Int) == (x.toNat : Int)) = true := by rw [hcx]; exact beq_self_eq_true _
          have Hseg := Lib.hid (parted_seg han hlt hno (by rw [← hbl, hcx]))
          have Hext := Lib.hid (extract_eq s a n)
          have hnews : ([.string (s.extract a n)] : List Value) = strE ((s.data.toList.drop a).take (n - a)) := by rw [Hext.out]; rfl
          have Hnews := Lib.hid hnews; clear hnews
          have ha0 : (0 : Int) ≤ (a : Int) := by omega
          have ha1 : (a : Int) ≤ (n : Int) := by omega
          have Hq := Lib.hid hq
          clear hno hq hbl hcx
          go_wp2_with (at_builtin; go_must (refine wpList_appx EStr (w0 := bare wr) rfl _ _ rfl ((s.data.toList.drop a).take (n - a)) rfl hO (bare_kp _) (Nat.zero_le _) hsz rfl rfl Hnews.out rfl rfl (by omega) ?_); intro v2 w2 hown2 hK2 hg2; obtain ⟨A2, c2, rfl⟩ := hown2.form1)
          have Hn : Hid (RPart w s x (n + 1) (n + 1) (.slice A2 (ws.length + 1) c2) w2) := Lib.hid ⟨hK.grown hg2 (fun q hq => (World.ownsRow.lt hO q hq).1), .inl ⟨by omega, by omega, fun k h1 h2 => absurd h2 (by omega), _, by simp; omega, hown2, by rw [Hq.out, Hseg.out]; simp⟩⟩
          go_roundw
          case rel => exact ⟨n + 1, n + 1, by go_num, by go_num, by omega, Hn⟩
          case measure => simp [intOf]; omega
        · have g1 : ((c.toNat : Int) == (x.toNat : Int)) = false := by
            rw [beq_eq_false_iff_ne]
            intro h
            exact hcx (UInt8.toNat.inj (by omega))
          have Hn : Hid (RPart w s x a (n + 1) u5 wr) := Lib.hid ⟨hK, .inl ⟨by omega, by omega, fun k h1 h2 => by
            rcases Nat.lt_or_ge k n with h3 | h3
            · exact hno k h1 h3
            · obtain rfl : k = n := by omega
              rw [← hbl]
              exact fun h => hcx (UInt8.toNat.inj h), ws, by omega, hO, hq⟩⟩
          clear hno hq hbl hcx
          go_wp2_with fail
          go_roundw
          case rel => exact ⟨a, n + 1, by go_num, by go_num, by omega, Hn⟩
          case measure => simp [intOf]; omega
      · obtain rfl : n = s.size := by omega
        have g00 : (s.size : Int) ≤ (s.size : Int) := by omega
        have Hlast := Lib.hid (parted_last (s := s) (a := a) (x := x) hno)
        have Hext := Lib.hid (extract_eq s a s.size)
        have hnews : ([.string (s.extract a s.size)] : List Value) = strE (s.data.toList.drop a) := by
          rw [Hext.out, List.take_of_length_le (by rw [List.length_drop, Hlen.out]; exact Nat.le_refl _)]; rfl
        have Hnews := Lib.hid hnews; clear hnews
        have ha0 : (0 : Int) ≤ (a : Int) := by omega
        have ha1 : (a : Int) ≤ (s.size : Int) := by omega
        have Hq := Lib.hid hq
        clear hno hq
        go_wp2_with (at_builtin; go_must (refine wpList_appx EStr (w0 := bare wr) rfl _ _ rfl (s.data.toList.drop a) rfl hO (bare_kp _) (Nat.zero_le _) hsz rfl rfl Hnews.out rfl rfl (by omega) ?_); intro v2 w2 hown2 hK2 hg2; obtain ⟨A2, c2, rfl⟩ := hown2.form1)
        have Hn : Hid (RPart w s x (s.size + 1) (s.size + 1) (.slice A2 (ws.length + 1) c2) w2) := Lib.hid ⟨hK.grown hg2 (fun q hq => (World.ownsRow.lt hO q hq).1), .inr ⟨rfl, by rw [Hq.out, Hlast.out]; exact hown2⟩⟩
        go_roundw
        case rel => exact ⟨s.size + 1, s.size + 1, by go_num, by go_num, by omega, Hn⟩
        case measure => simp [intOf]
    · subst hend
      have g00 : ¬ ((s.size : Int) + 1 ≤ (s.size : Int)) := by omega
      go_wp2_with fail
      go_ret
      exact ⟨_, rfl, hO, hK⟩
end Go.Proofs.YtbfimimhgdkpaaaGreatDoor

/- The reference of layer 25: the route of a line. No condition but the library's variables and the stated bounds. -/
namespace Go.Proofs.YtbfimimhgdkpaaaGreatDoor
open Go.RowKit
/-- What stands while the reference reads a line. -/
structure RfR (w : World) (p1 b o : Nat) (r : Rt) (cw : List (List UInt8)) (wx : World) : Prop where
  kp : Kp w wx
  b0 : Blk wx w.heap.size 45 (rtA rtZ)
  b1 : Blk wx p1 45 (rtA r)
  rd : Rd wx 1 strE (some ⟨b, o, none⟩) cw
  ge : w.heap.size < p1
  ne : b ≠ p1 ∧ b ≠ w.heap.size
theorem RfR.keep {w wx w2 : World} {p1 b o : Nat} {r : Rt} {cw : List (List UInt8)} (R : RfR w p1 b o r cw wx) (K : Kp wx w2) : RfR w p1 b o r cw w2 :=
  ⟨R.kp.trans K, R.b0.keep K, R.b1.keep K, R.rd.keep K, R.ge, R.ne⟩
theorem RfR.put {w wx w2 : World} {p1 b o : Nat} {r r' : Rt} {cw : List (List UInt8)} (R : RfR w p1 b o r cw wx) (hO : Only [p1] wx w2) (hB : Blk w2 p1 45 (rtA r')) : RfR w p1 b o r' cw w2 :=
  ⟨hO.kp R.kp (by have := R.ge; simp; omega), R.b0.only hO (by have := R.ge; simp; omega), hB, R.rd.only hO (fun b' o' e => by injection e with e; injection e with e1 e2; subst e1; exact R.ne.1), R.ge, R.ne⟩
theorem RfR.put1 {w wx : World} {p1 b o : Nat} {r r' : Rt} {cw : List (List UInt8)} (R : RfR w p1 b o r cw wx) (i : Nat) (v : Value) (h : (rtA r).setIfInBounds i v = rtA r') : RfR w p1 b o r' cw (wx.setCell ⟨p1, i, none⟩ v) :=
  R.put ((Only.refl [p1] wx).setCell (p := ⟨p1, i, none⟩) (.inl (by simp)) v) (by rw [← h]; exact R.b1.set_ i v)
theorem RfR.word {w wx : World} {p1 b o : Nat} {r : Rt} {cw : List (List UInt8)} (R : RfR w p1 b o r cw wx) {k : Nat} (hk : k < cw.length) : wx.cell? ⟨b, o + k, none⟩ = some (.string (strB (cw.getD k []))) := by
  obtain ⟨b', o', e', hc⟩ := R.rd k hk
  injection e' with e'
  injection e' with e1 e2
  subst e1; subst e2
  have := hc 0 _ rfl
  rw [List.getD_eq_getElem?_getD, List.getElem?_eq_getElem hk, Option.getD_some]
  simpa using this
theorem RfR.zero {w wx : World} {p1 b o : Nat} {r : Rt} {cw : List (List UInt8)} (R : RfR w p1 b o r cw wx) (t : Rt) : Kp w (rtSet wx w.heap.size t) ∧ Blk (rtSet wx w.heap.size t) w.heap.size 45 (rtA t) :=
  ⟨((Only.refl [w.heap.size] wx).putRt (.inl (by simp)) t).kp R.kp (by simp), R.b0.putRt t⟩
theorem rd_take {w : World} {A : Option Addr} {l : List (List UInt8)} (h : Rd w 1 strE A l) (n : Nat) : Rd w 1 strE A (l.take n) := fun i hi => by
  have hi2 : i < l.length := by rw [List.length_take] at hi; omega
  rw [List.getElem_take]
  exact h i hi2
theorem rad_any (u : List UInt8) (hu : u.length ≤ 200) (w : World) : Calls Tryz.prog 74 #[.string (strB u)] w fun e w' => w' = w ∧ ∃ q z : Int, e = .returned (.tuple #[.int .u32 (((adrR u).getD 0 : Nat) : Int), .int .i64 q, .int .i64 z]) := by
  refine (ref01_parse (strB u) (by rw [sz_strB]; omega) w).mono ?_
  rintro e w' ⟨rfl, hY, hN⟩
  rw [strB_list] at hY hN
  refine ⟨rfl, ?_⟩
  have ha := adr_eq u
  cases h : adr u with
  | none =>
    obtain ⟨q, rfl⟩ := hN h
    refine ⟨q, 110, ?_⟩
    rw [← ha] at h
    rw [show adrR u = none from h]
    rfl
  | some a =>
    obtain ⟨q, rfl⟩ := hY a h
    refine ⟨q, 0, ?_⟩
    rw [← ha] at h
    rw [show adrR u = some a from h]
    rfl
theorem right25_ex (p : PI) (s m t f : Int) (x : Nat) (d : Int) (c : Bool) (xv : Int) (hxv : xv = (x : Int)) (w : World) (ha : p.a < 4294967296) (hx : x < 4294967296) : Calls Tryz.prog 20 #[.agg #[.int .u32 p.a, .int .i64 p.l, .int .i64 s, .int .i64 m, .int .i64 t, .int .i64 f, .int .u32 xv, .int .i64 d, .bool c]] w fun e w' => e = .returned (.bool (lineB ⟨p, s, m, t, f, x, d, c⟩)) ∧ Kp w w' := by
  subst hxv
  exact right25_any ⟨p, s, m, t, f, x, d, c⟩ w ha hx
theorem rtext25_ex (p : PI) (s m t f : Int) (x : Nat) (d : Int) (c : Bool) (xv : Int) (hxv : xv = (x : Int)) (w : World) (L : LibOk w) (ok : RtOk ⟨p, s, m, t, f, x, d, c⟩) (h1 : 1 ≤ s) (h4 : s ≤ 4) : Calls Tryz.prog 24 #[.agg #[.int .u32 p.a, .int .i64 p.l, .int .i64 s, .int .i64 m, .int .i64 t, .int .i64 f, .int .u32 xv, .int .i64 d, .bool c]] w fun e w' => e = .returned (.string (strB (textR ⟨p, s, m, t, f, x, d, c⟩))) ∧ Kp w w' := by
  subst hxv
  exact rtext25_any ⟨p, s, m, t, f, x, d, c⟩ w L ok h1 h4
def RefPv (s : ByteArray) (w : World) (e : Ending) (w' : World) : Prop :=
  Kp w w' ∧ (∀ r, refV s.data.toList = some r → e = .returned (.tuple #[rtV r, .int .i64 0])) ∧ (refV s.data.toList = none → e = .returned (.tuple #[rtV rtZ, .int .i64 250]))
theorem rtok_line {r : Rt} (h : lineB r = true) (ha : r.p.a < 4294967296) (hx : r.x < 4294967296) : RtOk r := by
  obtain ⟨h1, h2, h3⟩ := line_parts h
  obtain ⟨h4, h5⟩ := right_parts h1 (by omega)
  obtain ⟨h6, h7⟩ := okB_range h4
  constructor <;> omega
theorem finV_line {r : Rt} {s : List UInt8} (h : lineB r = true) (ht : textR r = s) : finV r s = some r := by
  unfold lineB at h
  rw [Bool.and_eq_true, decide_eq_true_eq] at h
  unfold finV
  rw [if_pos ⟨h.1, h.2, ht⟩]
theorem finV_not {r : Rt} {s : List UInt8} (h : lineB r = false) : finV r s = none := by
  unfold finV
  rw [if_neg]
  rintro ⟨h1, h2, _⟩
  unfold lineB at h
  rw [h1, decide_eq_true h2] at h
  cases h
theorem finV_text {r : Rt} {s : List UInt8} (h : ¬ textR r = s) : finV r s = none := by
  unfold finV
  rw [if_neg (fun hh => h hh.2.2)]
theorem refW_short {c : Bool} {w : List (List UInt8)} {s : List UInt8} (h : w.length < 3) : refW c w s = none := by unfold refW; rw [if_pos h]
theorem refW_bad {c : Bool} {w : List (List UInt8)} {s : List UInt8} (h : rpxP (w.getD 0 []) = none) : refW c w s = none := by
  unfold refW
  split
  · rfl
  · rw [h]
theorem refW_a {c : Bool} {w : List (List UInt8)} {s : List UInt8} {p : PI} (h : ¬ w.length < 3) (hp : rpxP (w.getD 0 []) = some p) (h3 : sttV (w.getD 1 []) = 3) (h4 : 4 < w.length) :
    refW c w s = if w.length ≠ 10 then none else finV ⟨p, 3, numVw (w.getD 2 []), numVw (w.getD 4 []), numVw (w.getD 6 []), (adrR (w.getD 7 [])).getD 0, numVw (w.getD 9 []), c⟩ s := by
  unfold refW
  rw [if_neg h, hp]
  simp only
  rw [if_pos ⟨h3, h4⟩]
theorem refW_b {c : Bool} {w : List (List UInt8)} {s : List UInt8} {p : PI} (h : ¬ w.length < 3) (hp : rpxP (w.getD 0 []) = some p) (h3 : ¬ (sttV (w.getD 1 []) = 3 ∧ 4 < w.length)) (h1 : 1 < sttV (w.getD 1 [])) :
    refW c w s = if w.length ≠ 8 then none else finV ⟨p, (sttV (w.getD 1 []) : Nat), numVw (w.getD 2 []), 0, numVw (w.getD 4 []), (adrR (w.getD 5 [])).getD 0, numVw (w.getD 7 []), c⟩ s := by
  unfold refW
  rw [if_neg h, hp]
  simp only
  rw [if_neg h3, if_pos h1]
theorem refW_c {c : Bool} {w : List (List UInt8)} {s : List UInt8} {p : PI} (h : ¬ w.length < 3) (hp : rpxP (w.getD 0 []) = some p) (h3 : ¬ (sttV (w.getD 1 []) = 3 ∧ 4 < w.length)) (h1 : ¬ 1 < sttV (w.getD 1 [])) :
    refW c w s = finV ⟨p, (sttV (w.getD 1 []) : Nat), numVw (w.getD 2 []), 0, 0, 0, 0, c⟩ s := by
  unfold refW
  rw [if_neg h, hp]
  simp only
  rw [if_neg h3, if_neg h1]
theorem lastC_short {l : List (List UInt8)} (h : ¬ 3 < l.length) : lastC l = false := by unfold lastC; rw [decide_eq_false h]; rfl
theorem lastC_long {l : List (List UInt8)} (h : 3 < l.length) : lastC l = decide (l.getD (l.length - 1) [] = chS) := by unfold lastC; rw [decide_eq_true h]; rfl
theorem cutC_len {l : List (List UInt8)} : (cutC l).length ≤ l.length := by unfold cutC; split <;> simp <;> omega
set_option maxRecDepth 100000 in
set_option maxHeartbeats 8000000 in
theorem refparse_any (s : ByteArray) (hs : s.size ≤ 200) (w : World) (L : LibOk w) : Calls Tryz.prog 25 #[.string s] w (RefPv s w) := by
  have hlen : s.data.toList.length = s.size := by rw [Array.length_toList]; rfl
  have hle : ∀ u ∈ parted 32 s.data.toList, u.length ≤ 200 := fun u hu => by have := parted_le 32 _ u hu; omega
  have Hle := Lib.hid hle
  have hsi : ¬ (200 : Int) < (s.size : Int) := by omega
  obtain ⟨W, hW, kW, B0⟩ : ∃ W, w.alloc (.cells (rtA rtZ) 45) = W ∧ Kp w W ∧ Blk W w.heap.size 45 (rtA rtZ) := ⟨_, rfl, (Kp.refl w).alloc _, Blk.new w _ _⟩
  simp only [rtA, rtZ] at hW
  rw [show ((0 : Nat) : Int) = 0 from rfl] at hW
  have Hsl := Lib.hid hlen
  clear hlen hle
  go_enter Tryz.func25, Tryz.ntmps25
  go_wp2_with fail
  try rw [hW]
  clear hW
  refine (rparted_any s (by omega) 32 W).mono ?_
  rintro e w1 ⟨v, rfl, hown, K1⟩
  obtain ⟨l, hl⟩ : ∃ l, parted 32 s.data.toList = l := ⟨_, rfl⟩
  have Href := Lib.hid (show refV s.data.toList = refW (lastC l) (cutC l) s.data.toList by unfold refV; rw [hl])
  have hne := parted_ne 32 s.data.toList
  have hl9 := parted_len 32 s.data.toList
  rw [hl] at hown Hle hne hl9
  clear hl
  obtain ⟨A, c, hv⟩ := hown.form
  subst hv
  have hRw := hown.rdAt (by decide) strE_len
  rw [Hsl.out] at hl9
  have hpos : 0 < l.length := List.length_pos_iff.2 hne
  obtain ⟨b, off, rfl, hcw⟩ := hRw 0 hpos
  have hbl : b < w1.heap.size := World.block_lt_of_cell? w1 _ (hcw 0 _ rfl)
  have hbw : W.heap.size ≤ b := hown.newV _ rfl
  have hWs : w.heap.size < W.heap.size := B0.lt
  have hw1 := K1.size
  have kw1 := kW.trans K1
  have B0 := B0.keep K1
  have hcap : l.length ≤ c := by
    rcases hown.2 with ⟨h2, _⟩ | ⟨q, cap, cur, hq, _, hh, hcp, _⟩
    · cases h2
    · injection hq with _ _ hq; subst hq; first | exact hcp | omega
  obtain ⟨p1, hp1⟩ : ∃ p1, w1.heap.size = p1 := ⟨_, rfl⟩
  obtain ⟨W2, hW2, R2⟩ : ∃ W2, w1.alloc (.cells (rtA rtZ) 45) = W2 ∧ Hid (RfR w p1 b off rtZ l W2) :=
    ⟨_, rfl, Lib.hid ⟨kw1.alloc _, B0.alloc _, by rw [← hp1]; exact Blk.new _ _ _, hRw.keep ((Kp.refl _).alloc _), by omega, by omega, by omega⟩⟩
  simp only [rtA, rtZ] at hW2
  rw [show ((0 : Nat) : Int) = 0 from rfl] at hW2
  clear hcw hown hRw hne
  go_upto_region 5 with (fail)
  try rw [hp1]
  try rw [hW2]
  clear hW2 hp1
  go_cut [27] from 16 (fun s27 wx => s27 = .bool (lastC l) ∧ wx = W2)
  case first =>
    by_cases h3 : 3 < l.length
    · have g3 : (3 : Int) < (l.length : Int) := by omega
      have x1 := R2.out.word (k := l.length - 1) (by omega)
      have e1 : ((l.length : Int) - 1).toNat = l.length - 1 := by omega
      have e2 : (0 : Int) ≤ (l.length : Int) - 1 := by omega
      have e3 : (l.length : Int) - 1 < (l.length : Int) := by omega
      have e4 : IntKind.i64.wrap ((l.length : Int) - 1) = (l.length : Int) - 1 := IntWalk.i64_in _ (by omega)
      have hq := lastC_long h3
      obtain ⟨u, hu⟩ : ∃ u, l.getD (l.length - 1) [] = u := ⟨_, rfl⟩
      rw [hu] at hq x1
      clear hu
      by_cases hb : u = chS
      · have hbq : (u == [99, 104, 97, 110, 103, 101, 100]) = true := by rw [beq_iff_eq]; exact hb
        have Hl := Lib.hid (show lastC l = true by rw [hq, decide_eq_true hb])
        clear hq hb
        go_wp2_with fail
        go_meet
        case rel =>
        exact ⟨by rw [Hl.out], rfl⟩
      · have hbq : (u == [99, 104, 97, 110, 103, 101, 100]) = false := by rw [beq_eq_false_iff_ne]; exact hb
        have Hl := Lib.hid (show lastC l = false by rw [hq, decide_eq_false hb])
        clear hq hb
        go_wp2_with fail
        go_meet
        case rel =>
        exact ⟨by rw [Hl.out], rfl⟩
    · have g3 : decide ((3 : Int) < (l.length : Int)) = false := decide_eq_false (by omega)
      have Hl := Lib.hid (lastC_short h3)
      go_wp2_with fail
      go_meet
      case rel =>
      exact ⟨by rw [Hl.out], rfl⟩
  case rest =>
    obtain ⟨rfl, hwc⟩ := hcut
    have hwc := hwc.symm
    subst hwc
    go_upto_if 27 with (fail)
    go_cut [4] from 27 (fun s4 wx => ∃ c', s4 = .slice (some ⟨b, off, none⟩) (cutC l).length c' ∧ (cutC l).length ≤ c' ∧ RfR w p1 b off ⟨⟨0, 0⟩, 0, 0, 0, 0, 0, 0, lastC l⟩ (cutC l) wx)
    case first =>
      cases hb : lastC l with
      | false =>
        have Hl := Lib.hid (show cutC l = l by unfold cutC; rw [hb]; rfl)
        have Hb := Lib.hid hb
        clear hb
        go_wp2_with fail
        go_meet
        case rel =>
        exact ⟨c, by rw [Hl.out], by rw [Hl.out]; exact hcap, by rw [Hl.out, Hb.out]; exact R2.out⟩
      | true =>
        have h3 : 3 < l.length := by
          by_cases h3 : 3 < l.length
          · exact h3
          · rw [lastC_short h3] at hb; cases hb
        have Hl := Lib.hid (show cutC l = l.take (l.length - 1) by unfold cutC; rw [hb]; rfl)
        have Hll := Lib.hid (show (cutC l).length = l.length - 1 by rw [Hl.out]; simp)
        have Hb := Lib.hid hb
        have q8 : W2.cell? ⟨p1, 8, none⟩ = some (.bool false) := R2.out.b1.cell 8
        have z8 := R2.out.b1.frozen 8
        have e1 : ((l.length : Int) - 1).toNat = l.length - 1 := by omega
        have e2 : (0 : Int) ≤ (l.length : Int) - 1 := by omega
        have e3 : (l.length : Int) - 1 ≤ (c : Int) := by omega
        have e4 : IntKind.i64.wrap ((l.length : Int) - 1) = (l.length : Int) - 1 := IntWalk.i64_in _ (by omega)
        have R3 := Lib.hid (R2.out.put ((Only.refl [p1] W2).setCell (p := ⟨p1, 8, none⟩) (.inl (by simp)) (.bool true)) (r' := ⟨⟨0, 0⟩, 0, 0, 0, 0, 0, 0, true⟩) (by simpa [rtA, rtZ] using R2.out.b1.set_ 8 (.bool true)))
        clear hb
        go_wp2_with fail
        go_meet
        case rel =>
        exact ⟨c, by rw [Hll.out], by rw [Hll.out]; omega, by rw [Hb.out]; exact ⟨R3.out.kp, R3.out.b0, R3.out.b1, by rw [Hl.out]; exact rd_take R3.out.rd _, R3.out.ge, R3.out.ne⟩⟩
    case rest =>
      obtain ⟨c', rfl, hc', R⟩ := hcut
      have hcl := cutC_len (l := l)
      have hcin : ∀ k, k < (cutC l).length → ((cutC l).getD k []).length ≤ 200 := by
        intro k hk
        rw [List.getD_eq_getElem?_getD, List.getElem?_eq_getElem hk, Option.getD_some]
        have hm : (cutC l)[k] ∈ cutC l := List.getElem_mem hk
        refine Hle.out _ ?_
        have hsub : ∀ u, u ∈ cutC l → u ∈ l := by
          intro u hu
          unfold cutC at hu
          split at hu
          · exact List.mem_of_mem_take hu
          · exact hu
        exact hsub _ hm
      obtain ⟨cw, hcw⟩ : ∃ cw, cutC l = cw := ⟨_, rfl⟩
      obtain ⟨ch, hch⟩ : ∃ ch, lastC l = ch := ⟨_, rfl⟩
      rw [hcw] at hcl hc' hcin R Href ⊢
      rw [hch] at R Href
      have Hcin := Lib.hid hcin
      have R := Lib.hid R
      have hcw9 : cw.length ≤ 201 := by omega
      clear hcw hch hcin R2 hwc hcl hpos hbl hbw hw1 kw1 B0 hcap Hle
      by_cases h3 : cw.length < 3
      · have g3 : (cw.length : Int) < 3 := by omega
        have Hn := Lib.hid (show refV s.data.toList = none by rw [Href.out, refW_short h3])
        clear h3
        obtain ⟨q0, q1, q2, q3, q4, q5, q6, q7, q8⟩ := rt_cells R.out.b0
        have z0 := R.out.b0.frozen 0
        have z1 := R.out.b0.frozen 1
        have z2 := R.out.b0.frozen 2
        have z3 := R.out.b0.frozen 3
        have z4 := R.out.b0.frozen 4
        have z5 := R.out.b0.frozen 5
        have z6 := R.out.b0.frozen 6
        have z7 := R.out.b0.frozen 7
        have z8 := R.out.b0.frozen 8
        have hZ := Lib.hid (R.out.zero rtZ)
        simp only [rtZ] at q0 q1 q2 q3 q4 q5 q6 q7 q8
        go_wp2_with fail
        obtain ⟨Wz, hWz, kz, bz⟩ : ∃ Wz, rtSet wc w.heap.size rtZ = Wz ∧ Kp w Wz ∧ Blk Wz w.heap.size 45 (rtA rtZ) := ⟨_, rfl, hZ.out.1, hZ.out.2⟩
        simp only [rtSet, rtZ] at hWz
        rw [show ((0 : Nat) : Int) = 0 from rfl] at hWz
        rw [hWz]
        obtain ⟨y0, y1, y2, y3, y4, y5, y6, y7, y8⟩ := rt_cells bz
        clear hZ hWz q0 q1 q2 q3 q4 q5 q6 q7 q8 z0 z1 z2 z3 z4 z5 z6 z7 z8
        exact bodyPost_ret (v := .tuple #[rtV rtZ, .int .i64 250]) (by simp [results, Tryz.results25, go_sem, y0, y1, y2, y3, y4, y5, y6, y7, y8]) rfl ⟨kz, fun a ha => (by rw [Hn.out] at ha; cases ha), fun _ => rfl⟩
      · have g3 : ¬ (cw.length : Int) < 3 := by omega
        obtain ⟨u0, hu0⟩ : ∃ u, cw.getD 0 [] = u := ⟨_, rfl⟩
        have Hu0 := Lib.hid hu0
        have hs0 : u0.length ≤ 200 := by rw [← hu0]; exact Hcin.out 0 (by omega)
        clear hu0
        obtain ⟨u1, hu1⟩ : ∃ u, cw.getD 1 [] = u := ⟨_, rfl⟩
        have Hu1 := Lib.hid hu1
        have hs1 : u1.length ≤ 200 := by rw [← hu1]; exact Hcin.out 1 (by omega)
        clear hu1
        obtain ⟨u2, hu2⟩ : ∃ u, cw.getD 2 [] = u := ⟨_, rfl⟩
        have Hu2 := Lib.hid hu2
        have hs2 : u2.length ≤ 200 := by rw [← hu2]; exact Hcin.out 2 (by omega)
        clear hu2
        have x0 : wc.cell? ⟨b, off + 0, none⟩ = some (.string (strB u0)) := by have := R.out.word (k := 0) (by omega); rw [Hu0.out] at this; exact this
        rw [Nat.add_zero] at x0
        have g0 : (0 : Int) < (cw.length : Int) := by omega
        have g1 : (1 : Int) < (cw.length : Int) := by omega
        have g2 : (2 : Int) < (cw.length : Int) := by omega
        go_wp2_with fail
        refine (rpparse_any (strB u0) (by rw [sz_strB]; omega) _ (L.keep R.out.kp)).mono ?_
        rintro e w3 ⟨K3, hY, hN⟩
        rw [strB_list] at hY hN
        have R3 := Lib.hid (R.out.keep K3)
        clear x0
        cases hp : rpxP u0 with
        | none =>
          obtain rfl := hN hp
          have Hn := Lib.hid (show refV s.data.toList = none by rw [Href.out, refW_bad (by rw [Hu0.out, hp])])
          clear hY hN hp
          go_upto_region 11 with (fail)
          obtain ⟨W4, hW4, R4⟩ : ∃ W4, w3.alloc (.cells #[.int .u32 0, .int .i64 0] 42) = W4 ∧ Hid (RfR w p1 b off ⟨⟨0, 0⟩, 0, 0, 0, 0, 0, 0, ch⟩ cw W4) := ⟨_, rfl, Lib.hid (R3.out.keep ((Kp.refl _).alloc _))⟩
          rw [hW4]
          clear hW4
          obtain ⟨q0, q1, q2, q3, q4, q5, q6, q7, q8⟩ := rt_cells R4.out.b0
          have z0 := R4.out.b0.frozen 0
          have z1 := R4.out.b0.frozen 1
          have z2 := R4.out.b0.frozen 2
          have z3 := R4.out.b0.frozen 3
          have z4 := R4.out.b0.frozen 4
          have z5 := R4.out.b0.frozen 5
          have z6 := R4.out.b0.frozen 6
          have z7 := R4.out.b0.frozen 7
          have z8 := R4.out.b0.frozen 8
          have hZ := Lib.hid (R4.out.zero rtZ)
          simp only [rtZ] at q0 q1 q2 q3 q4 q5 q6 q7 q8
          go_wp2_with fail
          obtain ⟨Wz, hWz, kz, bz⟩ : ∃ Wz, rtSet W4 w.heap.size rtZ = Wz ∧ Kp w Wz ∧ Blk Wz w.heap.size 45 (rtA rtZ) := ⟨_, rfl, hZ.out.1, hZ.out.2⟩
          simp only [rtSet, rtZ] at hWz
          rw [show ((0 : Nat) : Int) = 0 from rfl] at hWz
          rw [hWz]
          obtain ⟨y0, y1, y2, y3, y4, y5, y6, y7, y8⟩ := rt_cells bz
          clear hZ hWz q0 q1 q2 q3 q4 q5 q6 q7 q8 z0 z1 z2 z3 z4 z5 z6 z7 z8
          exact bodyPost_ret (v := .tuple #[rtV rtZ, .int .i64 250]) (by simp [results, Tryz.results25, go_sem, y0, y1, y2, y3, y4, y5, y6, y7, y8]) rfl ⟨kz, fun a ha => (by rw [Hn.out] at ha; cases ha), fun _ => rfl⟩
        | some p =>
          obtain rfl := hY p hp
          have hpa := rpxP_lt hp
          have Hp := Lib.hid (show rpxP (cw.getD 0 []) = some p by rw [Hu0.out, hp])
          clear hY hN hp
          go_upto_region 11 with (fail)
          obtain ⟨W4, hW4, R4, BP⟩ : ∃ W4, w3.alloc (.cells #[.int .u32 (p.a : Int), .int .i64 p.l] 42) = W4 ∧ Hid (RfR w p1 b off ⟨⟨0, 0⟩, 0, 0, 0, 0, 0, 0, ch⟩ cw W4) ∧ Blk W4 w3.heap.size 42 #[.int .u32 (p.a : Int), .int .i64 p.l] := ⟨_, rfl, Lib.hid (R3.out.keep ((Kp.refl _).alloc _)), Blk.new _ _ _⟩
          rw [hW4]
          clear hW4
          have b0 : W4.cell? ⟨w3.heap.size, 0, none⟩ = some (.int .u32 (p.a : Int)) := BP.cell 0
          have b1 : W4.cell? ⟨w3.heap.size, 1, none⟩ = some (.int .i64 p.l) := BP.cell 1
          have q0 : W4.cell? ⟨p1, 0, none⟩ = some (.int .u32 0) := R4.out.b1.cell 0
          have z0 := R4.out.b1.frozen 0
          have q1 : W4.cell? ⟨p1, 1, none⟩ = some (.int .i64 0) := R4.out.b1.cell 1
          have z1 := R4.out.b1.frozen 1
          obtain ⟨W5, hW5, R5⟩ : ∃ W5, (W4.setCell ⟨p1, 0, none⟩ (.int .u32 (p.a : Int))).setCell ⟨p1, 1, none⟩ (.int .i64 p.l) = W5 ∧ Hid (RfR w p1 b off ⟨p, ((stUp 1 u1 : Nat) : Int), 0, 0, 0, 0, 0, ch⟩ cw W5) :=
            ⟨_, rfl, Lib.hid ((R4.out.put1 0 (.int .u32 (p.a : Int)) (r' := ⟨⟨p.a, 0⟩, 0, 0, 0, 0, 0, 0, ch⟩) rfl).put1 1 (.int .i64 p.l) rfl)⟩
          go_wp2_with fail
          try rw [hW5]
          clear hW5 b0 b1 BP q0 q1 z0 z1
          go_loopw [8] (fun k wr => ∃ j : Nat, j ≤ 4 ∧ k = .int .i64 j ∧ Hid (RfR w p1 b off ⟨p, ((stUp (j + 1) u1 : Nat) : Int), 0, 0, 0, 0, 0, ch⟩ cw wr)) (fun k _ => 4 - (intOf k).toNat)
          case atStart => exact ⟨0, by omega, rfl, R5⟩
          case round =>
            obtain ⟨j, hj, rfl, Rj⟩ := hrel
            have x1 : wr.cell? ⟨b, off + 1, none⟩ = some (.string (strB u1)) := by have := Rj.out.word (k := 1) (by omega); rw [Hu1.out] at this; exact this
            by_cases hlt : j < 4
            · have hx : ∀ w, (Instr.index 125 rnamesV (.int .i64 (j : Int))).run Tryz.prog w = .ok (.string (strB (namV (j + 1)))) w := by
                intro w
                have := rname25_idx (j + 1) (by omega) (by omega) w
                rw [show (((j + 1 : Nat) : Int) - 1) = (j : Int) by omega] at this
                exact this
              obtain ⟨N1, hN1⟩ : ∃ N1, namV (j + 1) = N1 := ⟨_, rfl⟩
              rw [hN1] at hx
              have HN1 := Lib.hid hN1
              clear hN1
              have K : Kp wr wr.drew := (Kp.refl wr).drew
              have q2 : wr.cell? ⟨p1, 2, none⟩ = some (.int .i64 ((stUp (j + 1) u1 : Nat) : Int)) := Rj.out.b1.cell 2
              by_cases he : N1 = u1
              · have hbq : (N1 == u1) = true := by rw [beq_iff_eq]; exact he
                have Hn1 := Lib.hid (show stUp (j + 1 + 1) u1 = j + 1 by rw [stUp, if_pos ⟨by omega, by rw [HN1.out]; exact he⟩])
                clear he
                go_upto_region 17 with (fail)
                go_region_held3 (fun w' => w'.cell? ⟨b, off + 1, none⟩ = some (.string (strB u1))) (first | exact K.cell x1 | go_keep) (first | (go_at_call 71; refine (rnames25_any _).mono ?_; rintro e wv ⟨rfl, hKv⟩; have K := K.trans hKv; clear hKv))
                have Rv := Lib.hid (Rj.out.keep K)
                have v2 : wv.cell? ⟨p1, 2, none⟩ = some (.int .i64 ((stUp (j + 1) u1 : Nat) : Int)) := Rv.out.b1.cell 2
                have z2 := Rv.out.b1.frozen 2
                have hjw : IntKind.i64.wrap ((j : Int) + 1) = (j : Int) + 1 := IntWalk.i64_in _ (by omega)
                have R9 := Lib.hid (Rv.out.put1 2 (.int .i64 ((j : Int) + 1)) (r' := ⟨p, (j : Int) + 1, 0, 0, 0, 0, 0, ch⟩) rfl)
                clear hx K q2 x1
                go_wp2_with fail
                go_roundw
                case rel => exact ⟨j + 1, by omega, by go_num, by rw [Hn1.out, Int.natCast_add]; exact R9⟩
                case measure => simp [intOf]; omega
              · have hbq : (N1 == u1) = false := by rw [beq_eq_false_iff_ne]; exact he
                have Hn1 := Lib.hid (show stUp (j + 1 + 1) u1 = stUp (j + 1) u1 by rw [stUp, if_neg (fun hh => he (by rw [← HN1.out]; exact hh.2))])
                clear he
                go_upto_region 17 with (fail)
                go_region_held3 (fun w' => w'.cell? ⟨b, off + 1, none⟩ = some (.string (strB u1))) (first | exact K.cell x1 | go_keep) (first | (go_at_call 71; refine (rnames25_any _).mono ?_; rintro e wv ⟨rfl, hKv⟩; have K := K.trans hKv; clear hKv))
                have Rv := Lib.hid (Rj.out.keep K)
                clear hx K q2 x1
                go_wp2_with fail
                go_roundw
                case rel => exact ⟨j + 1, by omega, by go_num, by rw [Hn1.out]; exact Rv⟩
                case measure => simp [intOf]; omega
            · obtain rfl : j = 4 := by omega
              obtain ⟨st, hst⟩ : ∃ st, stUp (4 + 1) u1 = st := ⟨_, rfl⟩
              have Hst := Lib.hid (show sttV (cw.getD 1 []) = st by rw [Hu1.out, ← stUp_all, ← hst])
              have hst4 : st ≤ 4 := by
                rw [← hst, stUp_all]
                by_cases h0 : sttV u1 = 0
                · omega
                · exact (sttV_sound h0).2.2
              rw [hst] at Rj
              clear hst x1
              have x2 : wr.cell? ⟨b, off + 2, none⟩ = some (.string (strB u2)) := by have := Rj.out.word (k := 2) (by omega); rw [Hu2.out] at this; exact this
              have q3 : wr.cell? ⟨p1, 3, none⟩ = some (.int .i64 0) := Rj.out.b1.cell 3
              have z3 := Rj.out.b1.frozen 3
              go_wp2_with fail
              refine (rnum25_any (strB u2) _).mono ?_
              rintro e wr ⟨rfl, rfl⟩
              rw [strB_list]
              obtain ⟨n2, hn2⟩ : ∃ n, numVw u2 = n := ⟨_, rfl⟩
              rw [hn2]
              have Hn2 := Lib.hid hn2
              clear hn2
              obtain ⟨W8, hW8, R8⟩ : ∃ W', wr.setCell ⟨p1, 3, none⟩ (.int .i64 n2) = W' ∧ Hid (RfR w p1 b off ⟨p, (st : Int), n2, 0, 0, 0, 0, ch⟩ cw W') := ⟨_, rfl, Lib.hid (Rj.out.put1 3 (.int .i64 n2) rfl)⟩
              have q2 : W8.cell? ⟨p1, 2, none⟩ = some (.int .i64 (st : Int)) := R8.out.b1.cell 2
              by_cases e3 : st = 3
              · have b3 : ((st : Int) == 3) = true := by rw [beq_iff_eq]; omega
                have g1s : (1 : Int) < (st : Int) := by omega
                by_cases h4 : 4 < cw.length
                · have g4 : (4 : Int) < (cw.length : Int) := by omega
                  obtain ⟨u4, hu4⟩ : ∃ u, cw.getD 4 [] = u := ⟨_, rfl⟩
                  have Hu4 := Lib.hid hu4
                  have hs4 : u4.length ≤ 200 := by rw [← hu4]; exact Hcin.out 4 (by omega)
                  clear hu4
                  have x4 : W8.cell? ⟨b, off + 4, none⟩ = some (.string (strB u4)) := by have := R8.out.word (k := 4) (by omega); rw [Hu4.out] at this; exact this
                  have q4 : W8.cell? ⟨p1, 4, none⟩ = some (.int .i64 0) := R8.out.b1.cell 4
                  have z4 := R8.out.b1.frozen 4
                  have H3s := Lib.hid e3
                  clear e3 x2
                  go_wp2_with fail
                  try rw [hW8]
                  clear hW8 q3 z3
                  refine (rnum25_any (strB u4) _).mono ?_
                  rintro e W8 ⟨rfl, rfl⟩
                  rw [strB_list]
                  obtain ⟨n4, hn4⟩ : ∃ n, numVw u4 = n := ⟨_, rfl⟩
                  rw [hn4]
                  have Hn4 := Lib.hid hn4
                  clear hn4
                  obtain ⟨W9, hW9, R9⟩ : ∃ W', W8.setCell ⟨p1, 4, none⟩ (.int .i64 n4) = W' ∧ Hid (RfR w p1 b off ⟨p, (st : Int), n2, n4, 0, 0, 0, ch⟩ cw W') := ⟨_, rfl, Lib.hid (R8.out.put1 4 (.int .i64 n4) rfl)⟩
                  have q2 : W9.cell? ⟨p1, 2, none⟩ = some (.int .i64 (st : Int)) := R9.out.b1.cell 2
                  have Hw := Lib.hid (refW_a (c := ch) (s := s.data.toList) (by omega) Hp.out (by rw [Hst.out]; exact H3s.out) h4)
                  by_cases h10 : cw.length = 10
                  · have b10 : ((cw.length : Int) != 10) = false := by rw [bne_eq_false_iff_eq]; omega
                    have b10' : ((cw.length : Int) == 10) = true := by rw [beq_iff_eq]; omega
                    have g6 : (6 : Int) < (cw.length : Int) := by omega
                    have g7 : (7 : Int) < (cw.length : Int) := by omega
                    have g9 : (9 : Int) < (cw.length : Int) := by omega
                    obtain ⟨u6, hu6⟩ : ∃ u, cw.getD 6 [] = u := ⟨_, rfl⟩
                    have Hu6 := Lib.hid hu6
                    have hs6 : u6.length ≤ 200 := by rw [← hu6]; exact Hcin.out 6 (by omega)
                    clear hu6
                    obtain ⟨u7, hu7⟩ : ∃ u, cw.getD 7 [] = u := ⟨_, rfl⟩
                    have Hu7 := Lib.hid hu7
                    have hs7 : u7.length ≤ 200 := by rw [← hu7]; exact Hcin.out 7 (by omega)
                    clear hu7
                    obtain ⟨u9, hu9⟩ : ∃ u, cw.getD 9 [] = u := ⟨_, rfl⟩
                    have Hu9 := Lib.hid hu9
                    have hs9 : u9.length ≤ 200 := by rw [← hu9]; exact Hcin.out 9 (by omega)
                    clear hu9
                    have x6 : W9.cell? ⟨b, off + 6, none⟩ = some (.string (strB u6)) := by have := R9.out.word (k := 6) (by omega); rw [Hu6.out] at this; exact this
                    have q5 : W9.cell? ⟨p1, 5, none⟩ = some (.int .i64 0) := R9.out.b1.cell 5
                    have z5 := R9.out.b1.frozen 5
                    have Hl10 := Lib.hid h10
                    clear h10 x4
                    go_wp2_with fail
                    try rw [hW9]
                    clear hW9 q2 q4 z4
                    refine (rnum25_any (strB u6) _).mono ?_
                    rintro e W9 ⟨rfl, rfl⟩
                    rw [strB_list]
                    obtain ⟨n6, hn6⟩ : ∃ n, numVw u6 = n := ⟨_, rfl⟩
                    rw [hn6]
                    have Hn6 := Lib.hid hn6
                    clear hn6
                    obtain ⟨W10, hW10, R10⟩ : ∃ W', W9.setCell ⟨p1, 5, none⟩ (.int .i64 n6) = W' ∧ Hid (RfR w p1 b off ⟨p, (st : Int), n2, n4, n6, 0, 0, ch⟩ cw W') := ⟨_, rfl, Lib.hid (R9.out.put1 5 (.int .i64 n6) rfl)⟩
                    have x7 : W10.cell? ⟨b, off + 7, none⟩ = some (.string (strB u7)) := by have := R10.out.word (k := 7) (by omega); rw [Hu7.out] at this; exact this
                    have q6 : W10.cell? ⟨p1, 6, none⟩ = some (.int .u32 0) := R10.out.b1.cell 6
                    have z6 := R10.out.b1.frozen 6
                    clear x6
                    go_wp2_with fail
                    clear q5 z5
                    refine (rad_any u7 hs7 _).mono ?_
                    rintro e W10 ⟨rfl, qv, zv, rfl⟩
                    clear hW10
                    obtain ⟨xa, hxa⟩ : ∃ x, (adrR u7).getD 0 = x := ⟨_, rfl⟩
                    have hxl : xa < 4294967296 := by rw [← hxa]; exact adrR_lt _
                    rw [hxa]
                    have Hxa := Lib.hid hxa
                    clear hxa
                    obtain ⟨W11, hW11, R11⟩ : ∃ W', W10.setCell ⟨p1, 6, none⟩ (.int .u32 (xa : Int)) = W' ∧ Hid (RfR w p1 b off ⟨p, (st : Int), n2, n4, n6, xa, 0, ch⟩ cw W') := ⟨_, rfl, Lib.hid (R10.out.put1 6 (.int .u32 (xa : Int)) rfl)⟩
                    have x9 : W11.cell? ⟨b, off + 9, none⟩ = some (.string (strB u9)) := by have := R11.out.word (k := 9) (by omega); rw [Hu9.out] at this; exact this
                    have q7 : W11.cell? ⟨p1, 7, none⟩ = some (.int .i64 0) := R11.out.b1.cell 7
                    have z7 := R11.out.b1.frozen 7
                    clear x7
                    go_wp2_with fail
                    clear q6 z6
                    refine (rnum25_any (strB u9) _).mono ?_
                    rintro e W11 ⟨rfl, rfl⟩
                    rw [strB_list]
                    obtain ⟨n9, hn9⟩ : ∃ n, numVw u9 = n := ⟨_, rfl⟩
                    rw [hn9]
                    have Hn9 := Lib.hid hn9
                    clear hn9
                    clear hW11
                    obtain ⟨W12, hW12, R12⟩ : ∃ W', W11.setCell ⟨p1, 7, none⟩ (.int .i64 n9) = W' ∧ Hid (RfR w p1 b off ⟨p, (st : Int), n2, n4, n6, xa, n9, ch⟩ cw W') := ⟨_, rfl, Lib.hid (R11.out.put1 7 (.int .i64 n9) rfl)⟩
                    clear x9
                    have Hf := Lib.hid (show refV s.data.toList = finV ⟨p, (st : Int), n2, n4, n6, xa, n9, ch⟩ s.data.toList by rw [Href.out, Hw.out, if_neg (by rw [Hl10.out]; decide), Hu2.out, Hu4.out, Hu6.out, Hu7.out, Hu9.out, Hn2.out, Hn4.out, Hn6.out, Hxa.out, Hn9.out, H3s.out]; rfl)
                    have hrx : xa < 4294967296 := hxl
                    have m0 : W12.cell? ⟨p1, 0, none⟩ = some (.int .u32 (p.a : Int)) := R12.out.b1.cell 0
                    have m1 : W12.cell? ⟨p1, 1, none⟩ = some (.int .i64 p.l) := R12.out.b1.cell 1
                    have m2 : W12.cell? ⟨p1, 2, none⟩ = some (.int .i64 (st : Int)) := R12.out.b1.cell 2
                    have m3 : W12.cell? ⟨p1, 3, none⟩ = some (.int .i64 n2) := R12.out.b1.cell 3
                    have m4 : W12.cell? ⟨p1, 4, none⟩ = some (.int .i64 n4) := R12.out.b1.cell 4
                    have m5 : W12.cell? ⟨p1, 5, none⟩ = some (.int .i64 n6) := R12.out.b1.cell 5
                    have m6 : W12.cell? ⟨p1, 6, none⟩ = some (.int .u32 (xa : Int)) := R12.out.b1.cell 6
                    have m7 : W12.cell? ⟨p1, 7, none⟩ = some (.int .i64 n9) := R12.out.b1.cell 7
                    have m8 : W12.cell? ⟨p1, 8, none⟩ = some (.bool ch) := R12.out.b1.cell 8
                    go_wp2_with fail
                    try rw [hW12]
                    clear hW12 q7 z7
                    refine (right25_ex p (st : Int) n2 n4 n6 xa n9 ch (xa : Int) rfl W12 hpa hrx).mono ?_
                    rintro e wa ⟨rfl, Ka⟩
                    have Ra := Lib.hid (R12.out.keep Ka)
                    have Lra := L.keep Ra.out.kp
                    cases hb : lineB (⟨p, (st : Int), n2, n4, n6, xa, n9, ch⟩ : Rt) with
                    | false =>
                      have Hn := Lib.hid (show refV s.data.toList = none by rw [Hf.out, finV_not hb])
                      clear hb m0 m1 m2 m3 m4 m5 m6 m7 m8
                      obtain ⟨q0, q1, q2, q3, q4, q5, q6, q7, q8⟩ := rt_cells Ra.out.b0
                      have z0 := Ra.out.b0.frozen 0
                      have z1 := Ra.out.b0.frozen 1
                      have z2 := Ra.out.b0.frozen 2
                      have z3 := Ra.out.b0.frozen 3
                      have z4 := Ra.out.b0.frozen 4
                      have z5 := Ra.out.b0.frozen 5
                      have z6 := Ra.out.b0.frozen 6
                      have z7 := Ra.out.b0.frozen 7
                      have z8 := Ra.out.b0.frozen 8
                      have hZ := Lib.hid (Ra.out.zero rtZ)
                      simp only [rtZ] at q0 q1 q2 q3 q4 q5 q6 q7 q8
                      go_wp2_with fail
                      obtain ⟨Wz, hWz, kz, bz⟩ : ∃ Wz, rtSet wa w.heap.size rtZ = Wz ∧ Kp w Wz ∧ Blk Wz w.heap.size 45 (rtA rtZ) := ⟨_, rfl, hZ.out.1, hZ.out.2⟩
                      simp only [rtSet, rtZ] at hWz
                      rw [show ((0 : Nat) : Int) = 0 from rfl] at hWz
                      rw [hWz]
                      obtain ⟨y0, y1, y2, y3, y4, y5, y6, y7, y8⟩ := rt_cells bz
                      clear hZ hWz q0 q1 q2 q3 q4 q5 q6 q7 q8 z0 z1 z2 z3 z4 z5 z6 z7 z8
                      exact bodyPost_ret (v := .tuple #[rtV rtZ, .int .i64 250]) (by simp [results, Tryz.results25, go_sem, y0, y1, y2, y3, y4, y5, y6, y7, y8]) rfl ⟨kz, fun a ha => (by rw [Hn.out] at ha; cases ha), fun _ => rfl⟩
                    | true =>
                      have hok := rtok_line hb hpa hrx
                      obtain ⟨_, h1, h4⟩ := line_parts hb
                      have Hb := Lib.hid hb
                      replace m0 := Ka.cell m0
                      replace m1 := Ka.cell m1
                      replace m2 := Ka.cell m2
                      replace m3 := Ka.cell m3
                      replace m4 := Ka.cell m4
                      replace m5 := Ka.cell m5
                      replace m6 := Ka.cell m6
                      replace m7 := Ka.cell m7
                      replace m8 := Ka.cell m8
                      clear hb
                      go_wp2_with fail
                      refine (rtext25_ex p (st : Int) n2 n4 n6 xa n9 ch (xa : Int) rfl wa Lra hok h1 h4).mono ?_
                      rintro e wb ⟨rfl, Kb⟩
                      have Rb := Lib.hid (Ra.out.keep Kb)
                      obtain ⟨T, hT⟩ : ∃ T, strB (textR (⟨p, (st : Int), n2, n4, n6, xa, n9, ch⟩ : Rt)) = T := ⟨_, rfl⟩
                      rw [hT]
                      replace m0 := Kb.cell m0
                      replace m1 := Kb.cell m1
                      replace m2 := Kb.cell m2
                      replace m3 := Kb.cell m3
                      replace m4 := Kb.cell m4
                      replace m5 := Kb.cell m5
                      replace m6 := Kb.cell m6
                      replace m7 := Kb.cell m7
                      replace m8 := Kb.cell m8
                      by_cases ht : textR (⟨p, (st : Int), n2, n4, n6, xa, n9, ch⟩ : Rt) = s.data.toList
                      · have hTs : T = s := by rw [← hT, ht]
                        subst hTs
                        have Hy := Lib.hid (show refV T.data.toList = some (⟨p, (st : Int), n2, n4, n6, xa, n9, ch⟩ : Rt) by rw [Hf.out, finV_line Hb.out ht])
                        obtain ⟨q0, q1, q2, q3, q4, q5, q6, q7, q8⟩ := rt_cells Rb.out.b0
                        have z0 := Rb.out.b0.frozen 0
                        have z1 := Rb.out.b0.frozen 1
                        have z2 := Rb.out.b0.frozen 2
                        have z3 := Rb.out.b0.frozen 3
                        have z4 := Rb.out.b0.frozen 4
                        have z5 := Rb.out.b0.frozen 5
                        have z6 := Rb.out.b0.frozen 6
                        have z7 := Rb.out.b0.frozen 7
                        have z8 := Rb.out.b0.frozen 8
                        have hZ := Lib.hid (Rb.out.zero (⟨p, (st : Int), n2, n4, n6, xa, n9, ch⟩ : Rt))
                        simp only [rtZ] at q0 q1 q2 q3 q4 q5 q6 q7 q8
                        have hne0 : ¬ w.heap.size = p1 := by have := Rb.out.ge; omega
                        clear ht hT
                        go_wp2_with fail
                        obtain ⟨Wz, hWz, kz, bz⟩ : ∃ Wz, rtSet wb w.heap.size (⟨p, (st : Int), n2, n4, n6, xa, n9, ch⟩ : Rt) = Wz ∧ Kp w Wz ∧ Blk Wz w.heap.size 45 (rtA (⟨p, (st : Int), n2, n4, n6, xa, n9, ch⟩ : Rt)) := ⟨_, rfl, hZ.out.1, hZ.out.2⟩
                        simp only [rtSet] at hWz
                        try rw [show ((0 : Nat) : Int) = 0 from rfl] at hWz
                        rw [hWz]
                        have y0 : Wz.cell? ⟨w.heap.size, 0, none⟩ = some (.int .u32 (p.a : Int)) := bz.cell 0
                        have y1 : Wz.cell? ⟨w.heap.size, 1, none⟩ = some (.int .i64 p.l) := bz.cell 1
                        have y2 : Wz.cell? ⟨w.heap.size, 2, none⟩ = some (.int .i64 (st : Int)) := bz.cell 2
                        have y3 : Wz.cell? ⟨w.heap.size, 3, none⟩ = some (.int .i64 n2) := bz.cell 3
                        have y4 : Wz.cell? ⟨w.heap.size, 4, none⟩ = some (.int .i64 n4) := bz.cell 4
                        have y5 : Wz.cell? ⟨w.heap.size, 5, none⟩ = some (.int .i64 n6) := bz.cell 5
                        have y6 : Wz.cell? ⟨w.heap.size, 6, none⟩ = some (.int .u32 (xa : Int)) := bz.cell 6
                        have y7 : Wz.cell? ⟨w.heap.size, 7, none⟩ = some (.int .i64 n9) := bz.cell 7
                        have y8 : Wz.cell? ⟨w.heap.size, 8, none⟩ = some (.bool ch) := bz.cell 8
                        clear hZ hWz q0 q1 q2 q3 q4 q5 q6 q7 q8 z0 z1 z2 z3 z4 z5 z6 z7 z8 m0 m1 m2 m3 m4 m5 m6 m7 m8
                        exact bodyPost_ret (v := .tuple #[rtV (⟨p, (st : Int), n2, n4, n6, xa, n9, ch⟩ : Rt), .int .i64 0]) (by simp [results, Tryz.results25, go_sem, y0, y1, y2, y3, y4, y5, y6, y7, y8]) rfl ⟨kz, fun a ha => (by rw [Hy.out, Option.some.injEq] at ha; subst ha; rfl), fun h => (by rw [Hy.out] at h; cases h)⟩
                      · have hbq : (T.toList == s.toList) = false := by rw [beq_eq_false_iff_ne, ← hT, Lib.toList_data, Lib.toList_data, strB_list]; exact ht
                        have Hn := Lib.hid (show refV s.data.toList = none by rw [Hf.out, finV_text ht])
                        clear ht hT m0 m1 m2 m3 m4 m5 m6 m7 m8
                        obtain ⟨q0, q1, q2, q3, q4, q5, q6, q7, q8⟩ := rt_cells Rb.out.b0
                        have z0 := Rb.out.b0.frozen 0
                        have z1 := Rb.out.b0.frozen 1
                        have z2 := Rb.out.b0.frozen 2
                        have z3 := Rb.out.b0.frozen 3
                        have z4 := Rb.out.b0.frozen 4
                        have z5 := Rb.out.b0.frozen 5
                        have z6 := Rb.out.b0.frozen 6
                        have z7 := Rb.out.b0.frozen 7
                        have z8 := Rb.out.b0.frozen 8
                        have hZ := Lib.hid (Rb.out.zero rtZ)
                        simp only [rtZ] at q0 q1 q2 q3 q4 q5 q6 q7 q8
                        go_wp2_with fail
                        obtain ⟨Wz, hWz, kz, bz⟩ : ∃ Wz, rtSet wb w.heap.size rtZ = Wz ∧ Kp w Wz ∧ Blk Wz w.heap.size 45 (rtA rtZ) := ⟨_, rfl, hZ.out.1, hZ.out.2⟩
                        simp only [rtSet, rtZ] at hWz
                        rw [show ((0 : Nat) : Int) = 0 from rfl] at hWz
                        rw [hWz]
                        obtain ⟨y0, y1, y2, y3, y4, y5, y6, y7, y8⟩ := rt_cells bz
                        clear hZ hWz q0 q1 q2 q3 q4 q5 q6 q7 q8 z0 z1 z2 z3 z4 z5 z6 z7 z8
                        exact bodyPost_ret (v := .tuple #[rtV rtZ, .int .i64 250]) (by simp [results, Tryz.results25, go_sem, y0, y1, y2, y3, y4, y5, y6, y7, y8]) rfl ⟨kz, fun a ha => (by rw [Hn.out] at ha; cases ha), fun _ => rfl⟩
                  · have b10 : ((cw.length : Int) != 10) = true := by rw [bne_iff_ne]; omega
                    have b10' : ((cw.length : Int) == 10) = false := by rw [beq_eq_false_iff_ne]; omega
                    have Hn := Lib.hid (show refV s.data.toList = none by rw [Href.out, Hw.out, if_pos h10])
                    clear h10 x4
                    go_upto_region 26 with (fail)
                    try rw [hW9]
                    clear hW9 q2 q4 z4
                    obtain ⟨q0, q1, q2, q3, q4, q5, q6, q7, q8⟩ := rt_cells R9.out.b0
                    have z0 := R9.out.b0.frozen 0
                    have z1 := R9.out.b0.frozen 1
                    have z2 := R9.out.b0.frozen 2
                    have z3 := R9.out.b0.frozen 3
                    have z4 := R9.out.b0.frozen 4
                    have z5 := R9.out.b0.frozen 5
                    have z6 := R9.out.b0.frozen 6
                    have z7 := R9.out.b0.frozen 7
                    have z8 := R9.out.b0.frozen 8
                    have hZ := Lib.hid (R9.out.zero rtZ)
                    simp only [rtZ] at q0 q1 q2 q3 q4 q5 q6 q7 q8
                    go_wp2_with fail
                    obtain ⟨Wz, hWz, kz, bz⟩ : ∃ Wz, rtSet W9 w.heap.size rtZ = Wz ∧ Kp w Wz ∧ Blk Wz w.heap.size 45 (rtA rtZ) := ⟨_, rfl, hZ.out.1, hZ.out.2⟩
                    simp only [rtSet, rtZ] at hWz
                    rw [show ((0 : Nat) : Int) = 0 from rfl] at hWz
                    rw [hWz]
                    obtain ⟨y0, y1, y2, y3, y4, y5, y6, y7, y8⟩ := rt_cells bz
                    clear hZ hWz q0 q1 q2 q3 q4 q5 q6 q7 q8 z0 z1 z2 z3 z4 z5 z6 z7 z8
                    exact bodyPost_ret (v := .tuple #[rtV rtZ, .int .i64 250]) (by simp [results, Tryz.results25, go_sem, y0, y1, y2, y3, y4, y5, y6, y7, y8]) rfl ⟨kz, fun a ha => (by rw [Hn.out] at ha; cases ha), fun _ => rfl⟩
                · have g4 : decide ((4 : Int) < (cw.length : Int)) = false := decide_eq_false (by omega)
                  have hb3 : ¬ (sttV (cw.getD 1 []) = 3 ∧ 4 < cw.length) := fun hh => h4 hh.2
                  have b8 : ((cw.length : Int) != 8) = true := by rw [bne_iff_ne]; omega
                  have b8' : ((cw.length : Int) == 8) = false := by rw [beq_eq_false_iff_ne]; omega
                  have Hn := Lib.hid (show refV s.data.toList = none by rw [Href.out, refW_b (by omega) Hp.out hb3 (by rw [Hst.out]; omega), if_pos (by omega)])
                  clear e3 x2 hb3
                  go_upto_region 26 with (fail)
                  try rw [hW8]
                  clear hW8 q2 q3 z3
                  obtain ⟨q0, q1, q2, q3, q4, q5, q6, q7, q8⟩ := rt_cells R8.out.b0
                  have z0 := R8.out.b0.frozen 0
                  have z1 := R8.out.b0.frozen 1
                  have z2 := R8.out.b0.frozen 2
                  have z3 := R8.out.b0.frozen 3
                  have z4 := R8.out.b0.frozen 4
                  have z5 := R8.out.b0.frozen 5
                  have z6 := R8.out.b0.frozen 6
                  have z7 := R8.out.b0.frozen 7
                  have z8 := R8.out.b0.frozen 8
                  have hZ := Lib.hid (R8.out.zero rtZ)
                  simp only [rtZ] at q0 q1 q2 q3 q4 q5 q6 q7 q8
                  go_wp2_with fail
                  obtain ⟨Wz, hWz, kz, bz⟩ : ∃ Wz, rtSet W8 w.heap.size rtZ = Wz ∧ Kp w Wz ∧ Blk Wz w.heap.size 45 (rtA rtZ) := ⟨_, rfl, hZ.out.1, hZ.out.2⟩
                  simp only [rtSet, rtZ] at hWz
                  rw [show ((0 : Nat) : Int) = 0 from rfl] at hWz
                  rw [hWz]
                  obtain ⟨y0, y1, y2, y3, y4, y5, y6, y7, y8⟩ := rt_cells bz
                  clear hZ hWz q0 q1 q2 q3 q4 q5 q6 q7 q8 z0 z1 z2 z3 z4 z5 z6 z7 z8
                  exact bodyPost_ret (v := .tuple #[rtV rtZ, .int .i64 250]) (by simp [results, Tryz.results25, go_sem, y0, y1, y2, y3, y4, y5, y6, y7, y8]) rfl ⟨kz, fun a ha => (by rw [Hn.out] at ha; cases ha), fun _ => rfl⟩
              · have b3 : ((st : Int) == 3) = false := by rw [beq_eq_false_iff_ne]; omega
                have Hb3 := Lib.hid (show ¬ (sttV (cw.getD 1 []) = 3 ∧ 4 < cw.length) from fun hh => e3 (by rw [← Hst.out]; exact hh.1))
                by_cases h1 : 1 < st
                · have g1s : (1 : Int) < (st : Int) := by omega
                  have Hw := Lib.hid (refW_b (c := ch) (s := s.data.toList) (by omega) Hp.out Hb3.out (by rw [Hst.out]; exact h1))
                  by_cases h8 : cw.length = 8
                  · have b8 : ((cw.length : Int) != 8) = false := by rw [bne_eq_false_iff_eq]; omega
                    have b8' : ((cw.length : Int) == 8) = true := by rw [beq_iff_eq]; omega
                    have g4 : (4 : Int) < (cw.length : Int) := by omega
                    have g5 : (5 : Int) < (cw.length : Int) := by omega
                    have g7 : (7 : Int) < (cw.length : Int) := by omega
                    obtain ⟨u4, hu4⟩ : ∃ u, cw.getD 4 [] = u := ⟨_, rfl⟩
                    have Hu4 := Lib.hid hu4
                    have hs4 : u4.length ≤ 200 := by rw [← hu4]; exact Hcin.out 4 (by omega)
                    clear hu4
                    obtain ⟨u5, hu5⟩ : ∃ u, cw.getD 5 [] = u := ⟨_, rfl⟩
                    have Hu5 := Lib.hid hu5
                    have hs5 : u5.length ≤ 200 := by rw [← hu5]; exact Hcin.out 5 (by omega)
                    clear hu5
                    obtain ⟨u7, hu7⟩ : ∃ u, cw.getD 7 [] = u := ⟨_, rfl⟩
                    have Hu7 := Lib.hid hu7
                    have hs7 : u7.length ≤ 200 := by rw [← hu7]; exact Hcin.out 7 (by omega)
                    clear hu7
                    have x4 : W8.cell? ⟨b, off + 4, none⟩ = some (.string (strB u4)) := by have := R8.out.word (k := 4) (by omega); rw [Hu4.out] at this; exact this
                    have q5 : W8.cell? ⟨p1, 5, none⟩ = some (.int .i64 0) := R8.out.b1.cell 5
                    have z5 := R8.out.b1.frozen 5
                    have Hl8 := Lib.hid h8
                    clear h8 e3 x2
                    go_wp2_with fail
                    try rw [hW8]
                    clear hW8 q2 q3 z3
                    refine (rnum25_any (strB u4) _).mono ?_
                    rintro e W8 ⟨rfl, rfl⟩
                    rw [strB_list]
                    obtain ⟨n4, hn4⟩ : ∃ n, numVw u4 = n := ⟨_, rfl⟩
                    rw [hn4]
                    have Hn4 := Lib.hid hn4
                    clear hn4
                    obtain ⟨W10, hW10, R10⟩ : ∃ W', W8.setCell ⟨p1, 5, none⟩ (.int .i64 n4) = W' ∧ Hid (RfR w p1 b off ⟨p, (st : Int), n2, 0, n4, 0, 0, ch⟩ cw W') := ⟨_, rfl, Lib.hid (R8.out.put1 5 (.int .i64 n4) rfl)⟩
                    have x5 : W10.cell? ⟨b, off + 5, none⟩ = some (.string (strB u5)) := by have := R10.out.word (k := 5) (by omega); rw [Hu5.out] at this; exact this
                    have q6 : W10.cell? ⟨p1, 6, none⟩ = some (.int .u32 0) := R10.out.b1.cell 6
                    have z6 := R10.out.b1.frozen 6
                    clear x4
                    go_wp2_with fail
                    clear q5 z5
                    refine (rad_any u5 hs5 _).mono ?_
                    rintro e W10 ⟨rfl, qv, zv, rfl⟩
                    clear hW10
                    obtain ⟨xa, hxa⟩ : ∃ x, (adrR u5).getD 0 = x := ⟨_, rfl⟩
                    have hxl : xa < 4294967296 := by rw [← hxa]; exact adrR_lt _
                    rw [hxa]
                    have Hxa := Lib.hid hxa
                    clear hxa
                    obtain ⟨W11, hW11, R11⟩ : ∃ W', W10.setCell ⟨p1, 6, none⟩ (.int .u32 (xa : Int)) = W' ∧ Hid (RfR w p1 b off ⟨p, (st : Int), n2, 0, n4, xa, 0, ch⟩ cw W') := ⟨_, rfl, Lib.hid (R10.out.put1 6 (.int .u32 (xa : Int)) rfl)⟩
                    have x7 : W11.cell? ⟨b, off + 7, none⟩ = some (.string (strB u7)) := by have := R11.out.word (k := 7) (by omega); rw [Hu7.out] at this; exact this
                    have q7 : W11.cell? ⟨p1, 7, none⟩ = some (.int .i64 0) := R11.out.b1.cell 7
                    have z7 := R11.out.b1.frozen 7
                    clear x5
                    go_wp2_with fail
                    clear q6 z6
                    refine (rnum25_any (strB u7) _).mono ?_
                    rintro e W11 ⟨rfl, rfl⟩
                    rw [strB_list]
                    obtain ⟨n7, hn7⟩ : ∃ n, numVw u7 = n := ⟨_, rfl⟩
                    rw [hn7]
                    have Hn7 := Lib.hid hn7
                    clear hn7
                    clear hW11
                    obtain ⟨W12, hW12, R12⟩ : ∃ W', W11.setCell ⟨p1, 7, none⟩ (.int .i64 n7) = W' ∧ Hid (RfR w p1 b off ⟨p, (st : Int), n2, 0, n4, xa, n7, ch⟩ cw W') := ⟨_, rfl, Lib.hid (R11.out.put1 7 (.int .i64 n7) rfl)⟩
                    clear x7
                    have Hf := Lib.hid (show refV s.data.toList = finV ⟨p, (st : Int), n2, 0, n4, xa, n7, ch⟩ s.data.toList by rw [Href.out, Hw.out, if_neg (by rw [Hl8.out]; decide), Hu2.out, Hu4.out, Hu5.out, Hu7.out, Hn2.out, Hn4.out, Hxa.out, Hn7.out, Hst.out])
                    have hrx : xa < 4294967296 := hxl
                    have m0 : W12.cell? ⟨p1, 0, none⟩ = some (.int .u32 (p.a : Int)) := R12.out.b1.cell 0
                    have m1 : W12.cell? ⟨p1, 1, none⟩ = some (.int .i64 p.l) := R12.out.b1.cell 1
                    have m2 : W12.cell? ⟨p1, 2, none⟩ = some (.int .i64 (st : Int)) := R12.out.b1.cell 2
                    have m3 : W12.cell? ⟨p1, 3, none⟩ = some (.int .i64 n2) := R12.out.b1.cell 3
                    have m4 : W12.cell? ⟨p1, 4, none⟩ = some (.int .i64 0) := R12.out.b1.cell 4
                    have m5 : W12.cell? ⟨p1, 5, none⟩ = some (.int .i64 n4) := R12.out.b1.cell 5
                    have m6 : W12.cell? ⟨p1, 6, none⟩ = some (.int .u32 (xa : Int)) := R12.out.b1.cell 6
                    have m7 : W12.cell? ⟨p1, 7, none⟩ = some (.int .i64 n7) := R12.out.b1.cell 7
                    have m8 : W12.cell? ⟨p1, 8, none⟩ = some (.bool ch) := R12.out.b1.cell 8
                    go_wp2_with fail
                    try rw [hW12]
                    clear hW12 q7 z7
                    refine (right25_ex p (st : Int) n2 0 n4 xa n7 ch (xa : Int) rfl W12 hpa hrx).mono ?_
                    rintro e wa ⟨rfl, Ka⟩
                    have Ra := Lib.hid (R12.out.keep Ka)
                    have Lra := L.keep Ra.out.kp
                    cases hb : lineB (⟨p, (st : Int), n2, 0, n4, xa, n7, ch⟩ : Rt) with
                    | false =>
                      have Hn := Lib.hid (show refV s.data.toList = none by rw [Hf.out, finV_not hb])
                      clear hb m0 m1 m2 m3 m4 m5 m6 m7 m8
                      obtain ⟨q0, q1, q2, q3, q4, q5, q6, q7, q8⟩ := rt_cells Ra.out.b0
                      have z0 := Ra.out.b0.frozen 0
                      have z1 := Ra.out.b0.frozen 1
                      have z2 := Ra.out.b0.frozen 2
                      have z3 := Ra.out.b0.frozen 3
                      have z4 := Ra.out.b0.frozen 4
                      have z5 := Ra.out.b0.frozen 5
                      have z6 := Ra.out.b0.frozen 6
                      have z7 := Ra.out.b0.frozen 7
                      have z8 := Ra.out.b0.frozen 8
                      have hZ := Lib.hid (Ra.out.zero rtZ)
                      simp only [rtZ] at q0 q1 q2 q3 q4 q5 q6 q7 q8
                      go_wp2_with fail
                      obtain ⟨Wz, hWz, kz, bz⟩ : ∃ Wz, rtSet wa w.heap.size rtZ = Wz ∧ Kp w Wz ∧ Blk Wz w.heap.size 45 (rtA rtZ) := ⟨_, rfl, hZ.out.1, hZ.out.2⟩
                      simp only [rtSet, rtZ] at hWz
                      rw [show ((0 : Nat) : Int) = 0 from rfl] at hWz
                      rw [hWz]
                      obtain ⟨y0, y1, y2, y3, y4, y5, y6, y7, y8⟩ := rt_cells bz
                      clear hZ hWz q0 q1 q2 q3 q4 q5 q6 q7 q8 z0 z1 z2 z3 z4 z5 z6 z7 z8
                      exact bodyPost_ret (v := .tuple #[rtV rtZ, .int .i64 250]) (by simp [results, Tryz.results25, go_sem, y0, y1, y2, y3, y4, y5, y6, y7, y8]) rfl ⟨kz, fun a ha => (by rw [Hn.out] at ha; cases ha), fun _ => rfl⟩
                    | true =>
                      have hok := rtok_line hb hpa hrx
                      obtain ⟨_, h1, h4⟩ := line_parts hb
                      have Hb := Lib.hid hb
                      replace m0 := Ka.cell m0
                      replace m1 := Ka.cell m1
                      replace m2 := Ka.cell m2
                      replace m3 := Ka.cell m3
                      replace m4 := Ka.cell m4
                      replace m5 := Ka.cell m5
                      replace m6 := Ka.cell m6
                      replace m7 := Ka.cell m7
                      replace m8 := Ka.cell m8
                      clear hb
                      go_wp2_with fail
                      refine (rtext25_ex p (st : Int) n2 0 n4 xa n7 ch (xa : Int) rfl wa Lra hok h1 h4).mono ?_
                      rintro e wb ⟨rfl, Kb⟩
                      have Rb := Lib.hid (Ra.out.keep Kb)
                      obtain ⟨T, hT⟩ : ∃ T, strB (textR (⟨p, (st : Int), n2, 0, n4, xa, n7, ch⟩ : Rt)) = T := ⟨_, rfl⟩
                      rw [hT]
                      replace m0 := Kb.cell m0
                      replace m1 := Kb.cell m1
                      replace m2 := Kb.cell m2
                      replace m3 := Kb.cell m3
                      replace m4 := Kb.cell m4
                      replace m5 := Kb.cell m5
                      replace m6 := Kb.cell m6
                      replace m7 := Kb.cell m7
                      replace m8 := Kb.cell m8
                      by_cases ht : textR (⟨p, (st : Int), n2, 0, n4, xa, n7, ch⟩ : Rt) = s.data.toList
                      · have hTs : T = s := by rw [← hT, ht]
                        subst hTs
                        have Hy := Lib.hid (show refV T.data.toList = some (⟨p, (st : Int), n2, 0, n4, xa, n7, ch⟩ : Rt) by rw [Hf.out, finV_line Hb.out ht])
                        obtain ⟨q0, q1, q2, q3, q4, q5, q6, q7, q8⟩ := rt_cells Rb.out.b0
                        have z0 := Rb.out.b0.frozen 0
                        have z1 := Rb.out.b0.frozen 1
                        have z2 := Rb.out.b0.frozen 2
                        have z3 := Rb.out.b0.frozen 3
                        have z4 := Rb.out.b0.frozen 4
                        have z5 := Rb.out.b0.frozen 5
                        have z6 := Rb.out.b0.frozen 6
                        have z7 := Rb.out.b0.frozen 7
                        have z8 := Rb.out.b0.frozen 8
                        have hZ := Lib.hid (Rb.out.zero (⟨p, (st : Int), n2, 0, n4, xa, n7, ch⟩ : Rt))
                        simp only [rtZ] at q0 q1 q2 q3 q4 q5 q6 q7 q8
                        have hne0 : ¬ w.heap.size = p1 := by have := Rb.out.ge; omega
                        clear ht hT
                        go_wp2_with fail
                        obtain ⟨Wz, hWz, kz, bz⟩ : ∃ Wz, rtSet wb w.heap.size (⟨p, (st : Int), n2, 0, n4, xa, n7, ch⟩ : Rt) = Wz ∧ Kp w Wz ∧ Blk Wz w.heap.size 45 (rtA (⟨p, (st : Int), n2, 0, n4, xa, n7, ch⟩ : Rt)) := ⟨_, rfl, hZ.out.1, hZ.out.2⟩
                        simp only [rtSet] at hWz
                        try rw [show ((0 : Nat) : Int) = 0 from rfl] at hWz
                        rw [hWz]
                        have y0 : Wz.cell? ⟨w.heap.size, 0, none⟩ = some (.int .u32 (p.a : Int)) := bz.cell 0
                        have y1 : Wz.cell? ⟨w.heap.size, 1, none⟩ = some (.int .i64 p.l) := bz.cell 1
                        have y2 : Wz.cell? ⟨w.heap.size, 2, none⟩ = some (.int .i64 (st : Int)) := bz.cell 2
                        have y3 : Wz.cell? ⟨w.heap.size, 3, none⟩ = some (.int .i64 n2) := bz.cell 3
                        have y4 : Wz.cell? ⟨w.heap.size, 4, none⟩ = some (.int .i64 0) := bz.cell 4
                        have y5 : Wz.cell? ⟨w.heap.size, 5, none⟩ = some (.int .i64 n4) := bz.cell 5
                        have y6 : Wz.cell? ⟨w.heap.size, 6, none⟩ = some (.int .u32 (xa : Int)) := bz.cell 6
                        have y7 : Wz.cell? ⟨w.heap.size, 7, none⟩ = some (.int .i64 n7) := bz.cell 7
                        have y8 : Wz.cell? ⟨w.heap.size, 8, none⟩ = some (.bool ch) := bz.cell 8
                        clear hZ hWz q0 q1 q2 q3 q4 q5 q6 q7 q8 z0 z1 z2 z3 z4 z5 z6 z7 z8 m0 m1 m2 m3 m4 m5 m6 m7 m8
                        exact bodyPost_ret (v := .tuple #[rtV (⟨p, (st : Int), n2, 0, n4, xa, n7, ch⟩ : Rt), .int .i64 0]) (by simp [results, Tryz.results25, go_sem, y0, y1, y2, y3, y4, y5, y6, y7, y8]) rfl ⟨kz, fun a ha => (by rw [Hy.out, Option.some.injEq] at ha; subst ha; rfl), fun h => (by rw [Hy.out] at h; cases h)⟩
                      · have hbq : (T.toList == s.toList) = false := by rw [beq_eq_false_iff_ne, ← hT, Lib.toList_data, Lib.toList_data, strB_list]; exact ht
                        have Hn := Lib.hid (show refV s.data.toList = none by rw [Hf.out, finV_text ht])
                        clear ht hT m0 m1 m2 m3 m4 m5 m6 m7 m8
                        obtain ⟨q0, q1, q2, q3, q4, q5, q6, q7, q8⟩ := rt_cells Rb.out.b0
                        have z0 := Rb.out.b0.frozen 0
                        have z1 := Rb.out.b0.frozen 1
                        have z2 := Rb.out.b0.frozen 2
                        have z3 := Rb.out.b0.frozen 3
                        have z4 := Rb.out.b0.frozen 4
                        have z5 := Rb.out.b0.frozen 5
                        have z6 := Rb.out.b0.frozen 6
                        have z7 := Rb.out.b0.frozen 7
                        have z8 := Rb.out.b0.frozen 8
                        have hZ := Lib.hid (Rb.out.zero rtZ)
                        simp only [rtZ] at q0 q1 q2 q3 q4 q5 q6 q7 q8
                        go_wp2_with fail
                        obtain ⟨Wz, hWz, kz, bz⟩ : ∃ Wz, rtSet wb w.heap.size rtZ = Wz ∧ Kp w Wz ∧ Blk Wz w.heap.size 45 (rtA rtZ) := ⟨_, rfl, hZ.out.1, hZ.out.2⟩
                        simp only [rtSet, rtZ] at hWz
                        rw [show ((0 : Nat) : Int) = 0 from rfl] at hWz
                        rw [hWz]
                        obtain ⟨y0, y1, y2, y3, y4, y5, y6, y7, y8⟩ := rt_cells bz
                        clear hZ hWz q0 q1 q2 q3 q4 q5 q6 q7 q8 z0 z1 z2 z3 z4 z5 z6 z7 z8
                        exact bodyPost_ret (v := .tuple #[rtV rtZ, .int .i64 250]) (by simp [results, Tryz.results25, go_sem, y0, y1, y2, y3, y4, y5, y6, y7, y8]) rfl ⟨kz, fun a ha => (by rw [Hn.out] at ha; cases ha), fun _ => rfl⟩
                  · have b8 : ((cw.length : Int) != 8) = true := by rw [bne_iff_ne]; omega
                    have b8' : ((cw.length : Int) == 8) = false := by rw [beq_eq_false_iff_ne]; omega
                    have Hn := Lib.hid (show refV s.data.toList = none by rw [Href.out, Hw.out, if_pos h8])
                    clear h8 e3 x2
                    go_upto_region 26 with (fail)
                    try rw [hW8]
                    clear hW8 q2 q3 z3
                    obtain ⟨q0, q1, q2, q3, q4, q5, q6, q7, q8⟩ := rt_cells R8.out.b0
                    have z0 := R8.out.b0.frozen 0
                    have z1 := R8.out.b0.frozen 1
                    have z2 := R8.out.b0.frozen 2
                    have z3 := R8.out.b0.frozen 3
                    have z4 := R8.out.b0.frozen 4
                    have z5 := R8.out.b0.frozen 5
                    have z6 := R8.out.b0.frozen 6
                    have z7 := R8.out.b0.frozen 7
                    have z8 := R8.out.b0.frozen 8
                    have hZ := Lib.hid (R8.out.zero rtZ)
                    simp only [rtZ] at q0 q1 q2 q3 q4 q5 q6 q7 q8
                    go_wp2_with fail
                    obtain ⟨Wz, hWz, kz, bz⟩ : ∃ Wz, rtSet W8 w.heap.size rtZ = Wz ∧ Kp w Wz ∧ Blk Wz w.heap.size 45 (rtA rtZ) := ⟨_, rfl, hZ.out.1, hZ.out.2⟩
                    simp only [rtSet, rtZ] at hWz
                    rw [show ((0 : Nat) : Int) = 0 from rfl] at hWz
                    rw [hWz]
                    obtain ⟨y0, y1, y2, y3, y4, y5, y6, y7, y8⟩ := rt_cells bz
                    clear hZ hWz q0 q1 q2 q3 q4 q5 q6 q7 q8 z0 z1 z2 z3 z4 z5 z6 z7 z8
                    exact bodyPost_ret (v := .tuple #[rtV rtZ, .int .i64 250]) (by simp [results, Tryz.results25, go_sem, y0, y1, y2, y3, y4, y5, y6, y7, y8]) rfl ⟨kz, fun a ha => (by rw [Hn.out] at ha; cases ha), fun _ => rfl⟩
                · have g1s : ¬ (1 : Int) < (st : Int) := by omega
                  have Hf := Lib.hid (show refV s.data.toList = finV ⟨p, (st : Int), n2, 0, 0, 0, 0, ch⟩ s.data.toList by rw [Href.out, refW_c (by omega) Hp.out Hb3.out (by rw [Hst.out]; exact h1), Hu2.out, Hn2.out, Hst.out])
                  clear e3 x2
                  have hrx : (0 : Nat) < 4294967296 := by decide
                  have m0 : W8.cell? ⟨p1, 0, none⟩ = some (.int .u32 (p.a : Int)) := R8.out.b1.cell 0
                  have m1 : W8.cell? ⟨p1, 1, none⟩ = some (.int .i64 p.l) := R8.out.b1.cell 1
                  have m2 : W8.cell? ⟨p1, 2, none⟩ = some (.int .i64 (st : Int)) := R8.out.b1.cell 2
                  have m3 : W8.cell? ⟨p1, 3, none⟩ = some (.int .i64 n2) := R8.out.b1.cell 3
                  have m4 : W8.cell? ⟨p1, 4, none⟩ = some (.int .i64 0) := R8.out.b1.cell 4
                  have m5 : W8.cell? ⟨p1, 5, none⟩ = some (.int .i64 0) := R8.out.b1.cell 5
                  have m6 : W8.cell? ⟨p1, 6, none⟩ = some (.int .u32 0) := R8.out.b1.cell 6
                  have m7 : W8.cell? ⟨p1, 7, none⟩ = some (.int .i64 0) := R8.out.b1.cell 7
                  have m8 : W8.cell? ⟨p1, 8, none⟩ = some (.bool ch) := R8.out.b1.cell 8
                  go_wp2_with fail
                  try rw [hW8]
                  clear hW8 q2 q3 z3
                  refine (right25_ex p (st : Int) n2 0 0 0 0 ch 0 rfl W8 hpa hrx).mono ?_
                  rintro e wa ⟨rfl, Ka⟩
                  have Ra := Lib.hid (R8.out.keep Ka)
                  have Lra := L.keep Ra.out.kp
                  cases hb : lineB (⟨p, (st : Int), n2, 0, 0, 0, 0, ch⟩ : Rt) with
                  | false =>
                    have Hn := Lib.hid (show refV s.data.toList = none by rw [Hf.out, finV_not hb])
                    clear hb m0 m1 m2 m3 m4 m5 m6 m7 m8
                    obtain ⟨q0, q1, q2, q3, q4, q5, q6, q7, q8⟩ := rt_cells Ra.out.b0
                    have z0 := Ra.out.b0.frozen 0
                    have z1 := Ra.out.b0.frozen 1
                    have z2 := Ra.out.b0.frozen 2
                    have z3 := Ra.out.b0.frozen 3
                    have z4 := Ra.out.b0.frozen 4
                    have z5 := Ra.out.b0.frozen 5
                    have z6 := Ra.out.b0.frozen 6
                    have z7 := Ra.out.b0.frozen 7
                    have z8 := Ra.out.b0.frozen 8
                    have hZ := Lib.hid (Ra.out.zero rtZ)
                    simp only [rtZ] at q0 q1 q2 q3 q4 q5 q6 q7 q8
                    go_wp2_with fail
                    obtain ⟨Wz, hWz, kz, bz⟩ : ∃ Wz, rtSet wa w.heap.size rtZ = Wz ∧ Kp w Wz ∧ Blk Wz w.heap.size 45 (rtA rtZ) := ⟨_, rfl, hZ.out.1, hZ.out.2⟩
                    simp only [rtSet, rtZ] at hWz
                    rw [show ((0 : Nat) : Int) = 0 from rfl] at hWz
                    rw [hWz]
                    obtain ⟨y0, y1, y2, y3, y4, y5, y6, y7, y8⟩ := rt_cells bz
                    clear hZ hWz q0 q1 q2 q3 q4 q5 q6 q7 q8 z0 z1 z2 z3 z4 z5 z6 z7 z8
                    exact bodyPost_ret (v := .tuple #[rtV rtZ, .int .i64 250]) (by simp [results, Tryz.results25, go_sem, y0, y1, y2, y3, y4, y5, y6, y7, y8]) rfl ⟨kz, fun a ha => (by rw [Hn.out] at ha; cases ha), fun _ => rfl⟩
                  | true =>
                    have hok := rtok_line hb hpa hrx
                    obtain ⟨_, h1, h4⟩ := line_parts hb
                    have Hb := Lib.hid hb
                    replace m0 := Ka.cell m0
                    replace m1 := Ka.cell m1
                    replace m2 := Ka.cell m2
                    replace m3 := Ka.cell m3
                    replace m4 := Ka.cell m4
                    replace m5 := Ka.cell m5
                    replace m6 := Ka.cell m6
                    replace m7 := Ka.cell m7
                    replace m8 := Ka.cell m8
                    clear hb
                    go_wp2_with fail
                    refine (rtext25_ex p (st : Int) n2 0 0 0 0 ch 0 rfl wa Lra hok h1 h4).mono ?_
                    rintro e wb ⟨rfl, Kb⟩
                    have Rb := Lib.hid (Ra.out.keep Kb)
                    obtain ⟨T, hT⟩ : ∃ T, strB (textR (⟨p, (st : Int), n2, 0, 0, 0, 0, ch⟩ : Rt)) = T := ⟨_, rfl⟩
                    rw [hT]
                    replace m0 := Kb.cell m0
                    replace m1 := Kb.cell m1
                    replace m2 := Kb.cell m2
                    replace m3 := Kb.cell m3
                    replace m4 := Kb.cell m4
                    replace m5 := Kb.cell m5
                    replace m6 := Kb.cell m6
                    replace m7 := Kb.cell m7
                    replace m8 := Kb.cell m8
                    by_cases ht : textR (⟨p, (st : Int), n2, 0, 0, 0, 0, ch⟩ : Rt) = s.data.toList
                    · have hTs : T = s := by rw [← hT, ht]
                      subst hTs
                      have Hy := Lib.hid (show refV T.data.toList = some (⟨p, (st : Int), n2, 0, 0, 0, 0, ch⟩ : Rt) by rw [Hf.out, finV_line Hb.out ht])
                      obtain ⟨q0, q1, q2, q3, q4, q5, q6, q7, q8⟩ := rt_cells Rb.out.b0
                      have z0 := Rb.out.b0.frozen 0
                      have z1 := Rb.out.b0.frozen 1
                      have z2 := Rb.out.b0.frozen 2
                      have z3 := Rb.out.b0.frozen 3
                      have z4 := Rb.out.b0.frozen 4
                      have z5 := Rb.out.b0.frozen 5
                      have z6 := Rb.out.b0.frozen 6
                      have z7 := Rb.out.b0.frozen 7
                      have z8 := Rb.out.b0.frozen 8
                      have hZ := Lib.hid (Rb.out.zero (⟨p, (st : Int), n2, 0, 0, 0, 0, ch⟩ : Rt))
                      simp only [rtZ] at q0 q1 q2 q3 q4 q5 q6 q7 q8
                      have hne0 : ¬ w.heap.size = p1 := by have := Rb.out.ge; omega
                      clear ht hT
                      go_wp2_with fail
                      obtain ⟨Wz, hWz, kz, bz⟩ : ∃ Wz, rtSet wb w.heap.size (⟨p, (st : Int), n2, 0, 0, 0, 0, ch⟩ : Rt) = Wz ∧ Kp w Wz ∧ Blk Wz w.heap.size 45 (rtA (⟨p, (st : Int), n2, 0, 0, 0, 0, ch⟩ : Rt)) := ⟨_, rfl, hZ.out.1, hZ.out.2⟩
                      simp only [rtSet] at hWz
                      try rw [show ((0 : Nat) : Int) = 0 from rfl] at hWz
                      rw [hWz]
                      have y0 : Wz.cell? ⟨w.heap.size, 0, none⟩ = some (.int .u32 (p.a : Int)) := bz.cell 0
                      have y1 : Wz.cell? ⟨w.heap.size, 1, none⟩ = some (.int .i64 p.l) := bz.cell 1
                      have y2 : Wz.cell? ⟨w.heap.size, 2, none⟩ = some (.int .i64 (st : Int)) := bz.cell 2
                      have y3 : Wz.cell? ⟨w.heap.size, 3, none⟩ = some (.int .i64 n2) := bz.cell 3
                      have y4 : Wz.cell? ⟨w.heap.size, 4, none⟩ = some (.int .i64 0) := bz.cell 4
                      have y5 : Wz.cell? ⟨w.heap.size, 5, none⟩ = some (.int .i64 0) := bz.cell 5
                      have y6 : Wz.cell? ⟨w.heap.size, 6, none⟩ = some (.int .u32 0) := bz.cell 6
                      have y7 : Wz.cell? ⟨w.heap.size, 7, none⟩ = some (.int .i64 0) := bz.cell 7
                      have y8 : Wz.cell? ⟨w.heap.size, 8, none⟩ = some (.bool ch) := bz.cell 8
                      clear hZ hWz q0 q1 q2 q3 q4 q5 q6 q7 q8 z0 z1 z2 z3 z4 z5 z6 z7 z8 m0 m1 m2 m3 m4 m5 m6 m7 m8
                      exact bodyPost_ret (v := .tuple #[rtV (⟨p, (st : Int), n2, 0, 0, 0, 0, ch⟩ : Rt), .int .i64 0]) (by simp [results, Tryz.results25, go_sem, y0, y1, y2, y3, y4, y5, y6, y7, y8]) rfl ⟨kz, fun a ha => (by rw [Hy.out, Option.some.injEq] at ha; subst ha; rfl), fun h => (by rw [Hy.out] at h; cases h)⟩
                    · have hbq : (T.toList == s.toList) = false := by rw [beq_eq_false_iff_ne, ← hT, Lib.toList_data, Lib.toList_data, strB_list]; exact ht
                      have Hn := Lib.hid (show refV s.data.toList = none by rw [Hf.out, finV_text ht])
                      clear ht hT m0 m1 m2 m3 m4 m5 m6 m7 m8
                      obtain ⟨q0, q1, q2, q3, q4, q5, q6, q7, q8⟩ := rt_cells Rb.out.b0
                      have z0 := Rb.out.b0.frozen 0
                      have z1 := Rb.out.b0.frozen 1
                      have z2 := Rb.out.b0.frozen 2
                      have z3 := Rb.out.b0.frozen 3
                      have z4 := Rb.out.b0.frozen 4
                      have z5 := Rb.out.b0.frozen 5
                      have z6 := Rb.out.b0.frozen 6
                      have z7 := Rb.out.b0.frozen 7
                      have z8 := Rb.out.b0.frozen 8
                      have hZ := Lib.hid (Rb.out.zero rtZ)
                      simp only [rtZ] at q0 q1 q2 q3 q4 q5 q6 q7 q8
                      go_wp2_with fail
                      obtain ⟨Wz, hWz, kz, bz⟩ : ∃ Wz, rtSet wb w.heap.size rtZ = Wz ∧ Kp w Wz ∧ Blk Wz w.heap.size 45 (rtA rtZ) := ⟨_, rfl, hZ.out.1, hZ.out.2⟩
                      simp only [rtSet, rtZ] at hWz
                      rw [show ((0 : Nat) : Int) = 0 from rfl] at hWz
                      rw [hWz]
                      obtain ⟨y0, y1, y2, y3, y4, y5, y6, y7, y8⟩ := rt_cells bz
                      clear hZ hWz q0 q1 q2 q3 q4 q5 q6 q7 q8 z0 z1 z2 z3 z4 z5 z6 z7 z8
                      exact bodyPost_ret (v := .tuple #[rtV rtZ, .int .i64 250]) (by simp [results, Tryz.results25, go_sem, y0, y1, y2, y3, y4, y5, y6, y7, y8]) rfl ⟨kz, fun a ha => (by rw [Hn.out] at ha; cases ha), fun _ => rfl⟩
end Go.Proofs.YtbfimimhgdkpaaaGreatDoor

namespace Go.Proofs.YtbfimimhgdkpaaaGreatDoor
open Go.RowKit
theorem route_same (r : Rt) (w : World) : (binOp .eql 45 (.agg #[.int .u32 r.p.a, .int .i64 r.p.l, .int .i64 r.s, .int .i64 r.m, .int .i64 r.l, .int .i64 r.f, .int .u32 r.x, .int .i64 r.d, .bool r.c]) (.agg #[.int .u32 r.p.a, .int .i64 r.p.l, .int .i64 r.s, .int .i64 r.m, .int .i64 r.l, .int .i64 r.f, .int .u32 r.x, .int .i64 r.d, .bool r.c])).run Tryz.prog w = .ok (.bool true) w := by
  rw [route_eql]
  simp
set_option maxRecDepth 100000 in
theorem route_unlike (r : Rt) (w : World) : (binOp .neq 45 (.agg #[.int .u32 r.p.a, .int .i64 r.p.l, .int .i64 r.s, .int .i64 r.m, .int .i64 r.l, .int .i64 r.f, .int .u32 r.x, .int .i64 r.d, .bool r.c]) (.agg #[.int .u32 r.p.a, .int .i64 r.p.l, .int .i64 r.s, .int .i64 r.m, .int .i64 r.l, .int .i64 r.f, .int .u32 r.x, .int .i64 r.d, .bool r.c])).run Tryz.prog w = .ok (.bool false) w := by
  rw [run_neq_struct, run_equalIn_agg w 9999 _ _ _ Tryz.underlying45 (by kernel_rfl)]
  simp [Op.eqFields, part, go_sem, Tryz.underlying3, Tryz.underlying2, Tryz.underlying24, Tryz.underlying4, Tryz.underlying43]
set_option maxRecDepth 100000 in
set_option maxHeartbeats 4000000 in
theorem vtexts_walk (r : Rt) (w : World) (L : LibOk w) (ok : RtOk r) : Calls Tryz.prog 5 #[.agg #[.int .u32 r.p.a, .int .i64 r.p.l, .int .i64 r.s, .int .i64 r.m, .int .i64 r.l, .int .i64 r.f, .int .u32 r.x, .int .i64 r.d, .bool r.c]] w fun en w' => en = .returned (.bool true) ∧ Kp w w' := by
  have HL := Lib.hid L
  obtain ⟨W, hW, kW, BW⟩ : ∃ W, w.alloc (.cells #[.int .u32 r.p.a, .int .i64 r.p.l, .int .i64 r.s, .int .i64 r.m, .int .i64 r.l, .int .i64 r.f, .int .u32 r.x, .int .i64 r.d, .bool r.c] 45) = W ∧ Kp w W ∧ Blk W w.heap.size 45 (rtA r) := ⟨_, rfl, (Kp.refl _).alloc _, Blk.new w _ _⟩
  clear L
  cases hp : lineB r with
  | false =>
    have ht := vtext_no r W ok hp
    have Ht := Lib.hid ht
    have Hp := Lib.hid hp
    clear ht hp
    have v0 : W.cell? ⟨w.heap.size, 0, none⟩ = some (.int .u32 (r.p.a : Int)) := BW.cell 0
    have v1 : W.cell? ⟨w.heap.size, 1, none⟩ = some (.int .i64 r.p.l) := BW.cell 1
    have v2 : W.cell? ⟨w.heap.size, 2, none⟩ = some (.int .i64 r.s) := BW.cell 2
    have v3 : W.cell? ⟨w.heap.size, 3, none⟩ = some (.int .i64 r.m) := BW.cell 3
    have v4 : W.cell? ⟨w.heap.size, 4, none⟩ = some (.int .i64 r.l) := BW.cell 4
    have v5 : W.cell? ⟨w.heap.size, 5, none⟩ = some (.int .i64 r.f) := BW.cell 5
    have v6 : W.cell? ⟨w.heap.size, 6, none⟩ = some (.int .u32 (r.x : Int)) := BW.cell 6
    have v7 : W.cell? ⟨w.heap.size, 7, none⟩ = some (.int .i64 r.d) := BW.cell 7
    have v8 : W.cell? ⟨w.heap.size, 8, none⟩ = some (.bool r.c) := BW.cell 8
    go_enter Tryz.func5, Tryz.ntmps5
    go_wp2_with fail
    try rw [hW]
    clear hW v0 v1 v2 v3 v4 v5 v6 v7 v8
    refine Ht.out.mono ?_
    rintro e w1 ⟨rfl, K1⟩
    have BW := BW.keep K1
    replace kW := kW.trans K1
    have v0 : w1.cell? ⟨w.heap.size, 0, none⟩ = some (.int .u32 (r.p.a : Int)) := BW.cell 0
    have v1 : w1.cell? ⟨w.heap.size, 1, none⟩ = some (.int .i64 r.p.l) := BW.cell 1
    have v2 : w1.cell? ⟨w.heap.size, 2, none⟩ = some (.int .i64 r.s) := BW.cell 2
    have v3 : w1.cell? ⟨w.heap.size, 3, none⟩ = some (.int .i64 r.m) := BW.cell 3
    have v4 : w1.cell? ⟨w.heap.size, 4, none⟩ = some (.int .i64 r.l) := BW.cell 4
    have v5 : w1.cell? ⟨w.heap.size, 5, none⟩ = some (.int .i64 r.f) := BW.cell 5
    have v6 : w1.cell? ⟨w.heap.size, 6, none⟩ = some (.int .u32 (r.x : Int)) := BW.cell 6
    have v7 : w1.cell? ⟨w.heap.size, 7, none⟩ = some (.int .i64 r.d) := BW.cell 7
    have v8 : w1.cell? ⟨w.heap.size, 8, none⟩ = some (.bool r.c) := BW.cell 8
    clear K1 Ht
    go_wp2_with fail
    refine (right25_any r w1 ok.a1 ok.x1).mono ?_
    rintro e w2 ⟨rfl, K2⟩
    rw [Hp.out]
    replace kW := kW.trans K2
    clear K2 v0 v1 v2 v3 v4 v5 v6 v7 v8
    go_wp2_with (first | (go_at_call 21; refine (num25_any _ _).mono ?_; rintro en w' ⟨rfl, rfl⟩) | (go_at_call 22; refine (works25_any _ (HL.out.keep kW)).mono ?_; rintro en w9 ⟨rfl, K9⟩))
    go_ret
    exact ⟨rfl, kW.trans K9⟩
  | true =>
    have ht := vtext_yes r W (HL.out.keep kW) ok hp
    have Ht := Lib.hid ht
    have Hp := Lib.hid hp
    obtain ⟨hrb, h1, h4⟩ := line_parts hp
    have hpw := parseV_whole hrb (by omega) ok.a1 ok.x1
    have hsz := textR_short ok
    obtain ⟨S, hS⟩ : ∃ S, strB (textR r) = S := ⟨_, rfl⟩
    have hSs : S.size ≤ 1000000 := by rw [← hS, sz_strB]; omega
    have HS := Lib.hid hS
    have Hpw := Lib.hid (show parseV S.data.toList = some r by rw [← hS, strB_list]; exact hpw)
    have Hsame := Lib.hid (route_same r)
    clear ht hp hrb hpw hsz hS
    have v0 : W.cell? ⟨w.heap.size, 0, none⟩ = some (.int .u32 (r.p.a : Int)) := BW.cell 0
    have v1 : W.cell? ⟨w.heap.size, 1, none⟩ = some (.int .i64 r.p.l) := BW.cell 1
    have v2 : W.cell? ⟨w.heap.size, 2, none⟩ = some (.int .i64 r.s) := BW.cell 2
    have v3 : W.cell? ⟨w.heap.size, 3, none⟩ = some (.int .i64 r.m) := BW.cell 3
    have v4 : W.cell? ⟨w.heap.size, 4, none⟩ = some (.int .i64 r.l) := BW.cell 4
    have v5 : W.cell? ⟨w.heap.size, 5, none⟩ = some (.int .i64 r.f) := BW.cell 5
    have v6 : W.cell? ⟨w.heap.size, 6, none⟩ = some (.int .u32 (r.x : Int)) := BW.cell 6
    have v7 : W.cell? ⟨w.heap.size, 7, none⟩ = some (.int .i64 r.d) := BW.cell 7
    have v8 : W.cell? ⟨w.heap.size, 8, none⟩ = some (.bool r.c) := BW.cell 8
    go_enter Tryz.func5, Tryz.ntmps5
    go_wp2_with fail
    try rw [hW]
    clear hW v0 v1 v2 v3 v4 v5 v6 v7 v8
    refine Ht.out.mono ?_
    rintro e w1 ⟨rfl, K1⟩
    rw [HS.out]
    have BW := BW.keep K1
    replace kW := kW.trans K1
    have v0 : w1.cell? ⟨w.heap.size, 0, none⟩ = some (.int .u32 (r.p.a : Int)) := BW.cell 0
    have v1 : w1.cell? ⟨w.heap.size, 1, none⟩ = some (.int .i64 r.p.l) := BW.cell 1
    have v2 : w1.cell? ⟨w.heap.size, 2, none⟩ = some (.int .i64 r.s) := BW.cell 2
    have v3 : w1.cell? ⟨w.heap.size, 3, none⟩ = some (.int .i64 r.m) := BW.cell 3
    have v4 : w1.cell? ⟨w.heap.size, 4, none⟩ = some (.int .i64 r.l) := BW.cell 4
    have v5 : w1.cell? ⟨w.heap.size, 5, none⟩ = some (.int .i64 r.f) := BW.cell 5
    have v6 : w1.cell? ⟨w.heap.size, 6, none⟩ = some (.int .u32 (r.x : Int)) := BW.cell 6
    have v7 : w1.cell? ⟨w.heap.size, 7, none⟩ = some (.int .i64 r.d) := BW.cell 7
    have v8 : w1.cell? ⟨w.heap.size, 8, none⟩ = some (.bool r.c) := BW.cell 8
    clear K1 Ht
    go_wp2_with fail
    refine (right25_any r w1 ok.a1 ok.x1).mono ?_
    rintro e w2 ⟨rfl, K2⟩
    rw [Hp.out]
    have BW := BW.keep K2
    replace kW := kW.trans K2
    clear K2 v0 v1 v2 v3 v4 v5 v6 v7 v8
    go_wp2_with fail
    refine (vparse_any S hSs w2 (HL.out.keep kW)).mono ?_
    rintro e w3 ⟨K3, hY, _⟩
    obtain rfl := hY r Hpw.out
    have BW := BW.keep K3
    replace kW := kW.trans K3
    clear K3 hY
    obtain ⟨W4, hW4, K4, B4⟩ : ∃ W4, w3.alloc (.cells #[.int .u32 r.p.a, .int .i64 r.p.l, .int .i64 r.s, .int .i64 r.m, .int .i64 r.l, .int .i64 r.f, .int .u32 r.x, .int .i64 r.d, .bool r.c] 45) = W4 ∧ Kp w3 W4 ∧ Blk W4 w3.heap.size 45 (rtA r) := ⟨_, rfl, (Kp.refl _).alloc _, Blk.new _ _ _⟩
    have BW := BW.keep K4
    replace kW := kW.trans K4
    clear K4
    have v0 : W4.cell? ⟨w.heap.size, 0, none⟩ = some (.int .u32 (r.p.a : Int)) := BW.cell 0
    have v1 : W4.cell? ⟨w.heap.size, 1, none⟩ = some (.int .i64 r.p.l) := BW.cell 1
    have v2 : W4.cell? ⟨w.heap.size, 2, none⟩ = some (.int .i64 r.s) := BW.cell 2
    have v3 : W4.cell? ⟨w.heap.size, 3, none⟩ = some (.int .i64 r.m) := BW.cell 3
    have v4 : W4.cell? ⟨w.heap.size, 4, none⟩ = some (.int .i64 r.l) := BW.cell 4
    have v5 : W4.cell? ⟨w.heap.size, 5, none⟩ = some (.int .i64 r.f) := BW.cell 5
    have v6 : W4.cell? ⟨w.heap.size, 6, none⟩ = some (.int .u32 (r.x : Int)) := BW.cell 6
    have v7 : W4.cell? ⟨w.heap.size, 7, none⟩ = some (.int .i64 r.d) := BW.cell 7
    have v8 : W4.cell? ⟨w.heap.size, 8, none⟩ = some (.bool r.c) := BW.cell 8
    go_wp2_with fail
    try rw [hW4]
    clear hW4 v0 v1 v2 v3 v4 v5 v6 v7 v8
    refine (rtext25_any r W4 (HL.out.keep kW) ok h1 h4).mono ?_
    rintro e w5 ⟨rfl, K5⟩
    rw [HS.out]
    have BW := BW.keep K5
    have B4 := B4.keep K5
    replace kW := kW.trans K5
    clear K5
    have v0 : w5.cell? ⟨w.heap.size, 0, none⟩ = some (.int .u32 (r.p.a : Int)) := BW.cell 0
    have v1 : w5.cell? ⟨w.heap.size, 1, none⟩ = some (.int .i64 r.p.l) := BW.cell 1
    have v2 : w5.cell? ⟨w.heap.size, 2, none⟩ = some (.int .i64 r.s) := BW.cell 2
    have v3 : w5.cell? ⟨w.heap.size, 3, none⟩ = some (.int .i64 r.m) := BW.cell 3
    have v4 : w5.cell? ⟨w.heap.size, 4, none⟩ = some (.int .i64 r.l) := BW.cell 4
    have v5 : w5.cell? ⟨w.heap.size, 5, none⟩ = some (.int .i64 r.f) := BW.cell 5
    have v6 : w5.cell? ⟨w.heap.size, 6, none⟩ = some (.int .u32 (r.x : Int)) := BW.cell 6
    have v7 : w5.cell? ⟨w.heap.size, 7, none⟩ = some (.int .i64 r.d) := BW.cell 7
    have v8 : w5.cell? ⟨w.heap.size, 8, none⟩ = some (.bool r.c) := BW.cell 8
    have u0 : w5.cell? ⟨w3.heap.size, 0, none⟩ = some (.int .u32 (r.p.a : Int)) := B4.cell 0
    have u1 : w5.cell? ⟨w3.heap.size, 1, none⟩ = some (.int .i64 r.p.l) := B4.cell 1
    have u2 : w5.cell? ⟨w3.heap.size, 2, none⟩ = some (.int .i64 r.s) := B4.cell 2
    have u3 : w5.cell? ⟨w3.heap.size, 3, none⟩ = some (.int .i64 r.m) := B4.cell 3
    have u4 : w5.cell? ⟨w3.heap.size, 4, none⟩ = some (.int .i64 r.l) := B4.cell 4
    have u5 : w5.cell? ⟨w3.heap.size, 5, none⟩ = some (.int .i64 r.f) := B4.cell 5
    have u6 : w5.cell? ⟨w3.heap.size, 6, none⟩ = some (.int .u32 (r.x : Int)) := B4.cell 6
    have u7 : w5.cell? ⟨w3.heap.size, 7, none⟩ = some (.int .i64 r.d) := B4.cell 7
    have u8 : w5.cell? ⟨w3.heap.size, 8, none⟩ = some (.bool r.c) := B4.cell 8
    have hsame := Hsame.out
    go_wp2_with (first | (go_at_call 21; refine (num25_any _ _).mono ?_; rintro en w' ⟨rfl, rfl⟩) | (go_at_call 22; refine (works25_any _ (HL.out.keep kW)).mono ?_; rintro en w9 ⟨rfl, K9⟩))
    go_ret
    exact ⟨rfl, kW.trans K9⟩
set_option maxRecDepth 100000 in
set_option maxHeartbeats 4000000 in
theorem vparses_walk (s : ByteArray) (w : World) (L : LibOk w) : Calls Tryz.prog 6 #[.string s] w fun en w' => en = .returned (.bool true) ∧ Kp w w' := by
  have HL := Lib.hid L
  clear L
  by_cases hlong : 200 < s.size
  · have hi : (200 : Int) < (s.size : Int) := by omega
    go_enter Tryz.func6, Tryz.ntmps6
    go_wp2_with fail
    refine (works25_any w HL.out).mono ?_
    rintro en w' ⟨rfl, hK⟩
    go_wp2_with fail
    go_ret
    exact ⟨rfl, hK⟩
  · have hi : ¬ (200 : Int) < (s.size : Int) := by omega
    have hs2 : s.size ≤ 1000000 := by omega
    have hs3 : s.size ≤ 200 := by omega
    cases hp : parseV s.data.toList with
    | none =>
      have Hp := Lib.hid hp
      have Hr := Lib.hid (show refV s.data.toList = none by rw [← parse_same]; exact hp)
      have hne := route_unlike rtZ
      clear hp
      go_enter Tryz.func6, Tryz.ntmps6
      go_wp2_with fail
      refine (vparse_any s hs2 w HL.out).mono ?_
      rintro en w1 ⟨K1, _, hN⟩
      obtain rfl := hN Hp.out
      clear hN
      go_wp2_with fail
      obtain ⟨W2, hW2, k2, B2⟩ : ∃ W2, w1.alloc (.cells (rtA rtZ) 45) = W2 ∧ Kp w1 W2 ∧ Blk W2 w1.heap.size 45 (rtA rtZ) := ⟨_, rfl, (Kp.refl _).alloc _, Blk.new _ _ _⟩
      simp only [rtA] at hW2
      rw [hW2]
      have kW := K1.trans k2
      clear K1 k2 hW2
      refine (refparse_any s hs3 W2 (HL.out.keep kW)).mono ?_
      rintro en w3 ⟨K3, _, hN⟩
      obtain rfl := hN Hr.out
      have B3 := B2.keep K3
      replace kW := kW.trans K3
      have al := fun o => (Kp.refl w3).alloc o
      have hlt3 := B3.lt
      have kN := kW.alloc (.cells (rtA rtZ) 45)
      simp only [rtA] at kN
      clear hN K3 B2 kW
      have v0 : ∀ o, (w3.alloc o).cell? ⟨w1.heap.size, 0, none⟩ = some (.int .u32 (rtZ.p.a : Int)) := fun o => (al o).cell (B3.cell 0)
      have v1 : ∀ o, (w3.alloc o).cell? ⟨w1.heap.size, 1, none⟩ = some (.int .i64 rtZ.p.l) := fun o => (al o).cell (B3.cell 1)
      have v2 : ∀ o, (w3.alloc o).cell? ⟨w1.heap.size, 2, none⟩ = some (.int .i64 rtZ.s) := fun o => (al o).cell (B3.cell 2)
      have v3 : ∀ o, (w3.alloc o).cell? ⟨w1.heap.size, 3, none⟩ = some (.int .i64 rtZ.m) := fun o => (al o).cell (B3.cell 3)
      have v4 : ∀ o, (w3.alloc o).cell? ⟨w1.heap.size, 4, none⟩ = some (.int .i64 rtZ.l) := fun o => (al o).cell (B3.cell 4)
      have v5 : ∀ o, (w3.alloc o).cell? ⟨w1.heap.size, 5, none⟩ = some (.int .i64 rtZ.f) := fun o => (al o).cell (B3.cell 5)
      have v6 : ∀ o, (w3.alloc o).cell? ⟨w1.heap.size, 6, none⟩ = some (.int .u32 (rtZ.x : Int)) := fun o => (al o).cell (B3.cell 6)
      have v7 : ∀ o, (w3.alloc o).cell? ⟨w1.heap.size, 7, none⟩ = some (.int .i64 rtZ.d) := fun o => (al o).cell (B3.cell 7)
      have v8 : ∀ o, (w3.alloc o).cell? ⟨w1.heap.size, 8, none⟩ = some (.bool rtZ.c) := fun o => (al o).cell (B3.cell 8)
      have kW := kN
      clear al
      go_wp2_with (first | (go_at_call 21; refine (num25_any _ _).mono ?_; rintro en w' ⟨rfl, rfl⟩) | (go_at_call 22; refine (works25_any _ (HL.out.keep kW)).mono ?_; rintro en w9 ⟨rfl, K9⟩))
      go_ret
      exact ⟨rfl, kW.trans K9⟩
    | some r =>
      obtain ⟨hrb, h1, ha, hx, htx⟩ := parseV_sound hp
      have hl : lineB r = true := by unfold lineB; rw [hrb, decide_eq_true (by omega)]; rfl
      have ok := rtok_line hl ha hx
      have Hl := Lib.hid hl
      have Hp := Lib.hid hp
      have Hr := Lib.hid (show refV s.data.toList = some r by rw [← parse_same]; exact hp)
      have hts : strB (textR r) = s := by rw [htx]
      have Hts := Lib.hid hts
      have hne := route_unlike r
      clear hp hts htx hrb hl h1
      go_enter Tryz.func6, Tryz.ntmps6
      go_wp2_with fail
      refine (vparse_any s hs2 w HL.out).mono ?_
      rintro en w1 ⟨K1, hY, _⟩
      obtain rfl := hY r Hp.out
      clear hY
      go_wp2_with fail
      obtain ⟨W2, hW2, k2, B2⟩ : ∃ W2, w1.alloc (.cells #[.int .u32 r.p.a, .int .i64 r.p.l, .int .i64 r.s, .int .i64 r.m, .int .i64 r.l, .int .i64 r.f, .int .u32 r.x, .int .i64 r.d, .bool r.c] 45) = W2 ∧ Kp w1 W2 ∧ Blk W2 w1.heap.size 45 (rtA r) := ⟨_, rfl, (Kp.refl _).alloc _, Blk.new _ _ _⟩
      rw [hW2]
      have kW := K1.trans k2
      clear K1 k2 hW2
      refine (refparse_any s hs3 W2 (HL.out.keep kW)).mono ?_
      rintro en w3 ⟨K3, hY, _⟩
      obtain rfl := hY r Hr.out
      have B3 := B2.keep K3
      replace kW := kW.trans K3
      have al := fun o => (Kp.refl w3).alloc o
      have hlt3 := B3.lt
      clear hY K3 B2
      have v0 : ∀ o, (w3.alloc o).cell? ⟨w1.heap.size, 0, none⟩ = some (.int .u32 (r.p.a : Int)) := fun o => (al o).cell (B3.cell 0)
      have v1 : ∀ o, (w3.alloc o).cell? ⟨w1.heap.size, 1, none⟩ = some (.int .i64 r.p.l) := fun o => (al o).cell (B3.cell 1)
      have v2 : ∀ o, (w3.alloc o).cell? ⟨w1.heap.size, 2, none⟩ = some (.int .i64 r.s) := fun o => (al o).cell (B3.cell 2)
      have v3 : ∀ o, (w3.alloc o).cell? ⟨w1.heap.size, 3, none⟩ = some (.int .i64 r.m) := fun o => (al o).cell (B3.cell 3)
      have v4 : ∀ o, (w3.alloc o).cell? ⟨w1.heap.size, 4, none⟩ = some (.int .i64 r.l) := fun o => (al o).cell (B3.cell 4)
      have v5 : ∀ o, (w3.alloc o).cell? ⟨w1.heap.size, 5, none⟩ = some (.int .i64 r.f) := fun o => (al o).cell (B3.cell 5)
      have v6 : ∀ o, (w3.alloc o).cell? ⟨w1.heap.size, 6, none⟩ = some (.int .u32 (r.x : Int)) := fun o => (al o).cell (B3.cell 6)
      have v7 : ∀ o, (w3.alloc o).cell? ⟨w1.heap.size, 7, none⟩ = some (.int .i64 r.d) := fun o => (al o).cell (B3.cell 7)
      have v8 : ∀ o, (w3.alloc o).cell? ⟨w1.heap.size, 8, none⟩ = some (.bool r.c) := fun o => (al o).cell (B3.cell 8)
      clear al
      go_wp2_with (first | (go_at_call 21; refine (num25_any _ _).mono ?_; rintro en w' ⟨rfl, rfl⟩))
      obtain ⟨W4, hW4, k4⟩ : ∃ W4, w3.alloc (.cells #[.int .u32 r.p.a, .int .i64 r.p.l, .int .i64 r.s, .int .i64 r.m, .int .i64 r.l, .int .i64 r.f, .int .u32 r.x, .int .i64 r.d, .bool r.c] 45) = W4 ∧ Kp w3 W4 := ⟨_, rfl, (Kp.refl _).alloc _⟩
      rw [hW4]
      replace kW := kW.trans k4
      clear hW4 k4 v0 v1 v2 v3 v4 v5 v6 v7 v8
      refine (vtext_yes r W4 (HL.out.keep kW) ok Hl.out).mono ?_
      rintro en w5 ⟨rfl, K5⟩
      rw [Hts.out]
      replace kW := kW.trans K5
      clear K5
      go_wp2_with (first | (go_at_call 21; refine (num25_any _ _).mono ?_; rintro en w' ⟨rfl, rfl⟩) | (go_at_call 22; refine (works25_any _ (HL.out.keep kW)).mono ?_; rintro en w9 ⟨rfl, K9⟩))
      go_ret
      exact ⟨rfl, kW.trans K9⟩
end Go.Proofs.YtbfimimhgdkpaaaGreatDoor
