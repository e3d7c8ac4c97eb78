/- Lemmas and contracts for the theorem of this claim: GdA. -/
import Derived.Test.YtffckpkikdlbpaaGreatDoorZsBt
set_option linter.unusedSimpArgs false
set_option linter.unusedVariables false
namespace Go.Proofs.YtffckpkikdlbpaaGreatDoor
open Go.RowKit
theorem half_cast (x : Nat) : ((x : Int) / 2) = ((x / 2 : Nat) : Int) := by omega
theorem rem_cast (x : Nat) : ((x : Int) % 2) = ((x % 2 : Nat) : Int) := by omega
set_option maxRecDepth 100000 in
set_option maxHeartbeats 1000000 in
theorem rbit_any (a i : Nat) (w : World) (ha : a < 4294967296) (hi : i < 32) : Calls Tryz.prog 165 #[.int .u32 a, .int .i64 i] w fun e w' => e = .returned (.int .i64 (bitN a i)) ∧ w = w' := by
  obtain ⟨r, hr⟩ : ∃ r, bitN a i = r := ⟨_, rfl⟩
  rw [hr]
  have Hr := Lib.hid hr; clear hr
  have d1 : decide ((i : Int) < 0) = false := by simp
  have d2 : decide ((31 : Int) < i) = false := by simp; omega
  go_enter Tryz.func165, Tryz.ntmps165
  go_wp2_with fail
  go_loop [5, 6] (fun n k => ∃ m x : Nat, i ≤ m ∧ m ≤ 31 ∧ k = .int .i64 m ∧ n = .int .i64 x ∧ x < 4294967296 ∧ Hid (x = a / 2 ^ (31 - m))) (fun _ k => (intOf k).toNat)
  case atStart => exact ⟨31, a, by omega, by omega, rfl, rfl, ha, Lib.hid (by simp)⟩
  case round =>
    obtain ⟨m, x, him, hm, rfl, rfl, hx, hxe⟩ := hrel
    by_cases hlt : i < m
    · have hd : decide ((i : Int) < m) = true := by simpa using hlt
      go_wp2_with fail
      go_round
      case rel =>
        refine ⟨m - 1, x / 2, by omega, by omega, ?_, by rw [← half_cast], by omega, ?_⟩
        · have e : ((m : Int) - 1) = ((m - 1 : Nat) : Int) := by omega
          rw [e]
        · rw [hxe.out, half_step]; congr 2; omega
      case measure => simp [intOf]; omega
    · obtain rfl : m = i := by omega
      have hd : decide ((m : Int) < m) = false := by simp
      go_wp2_with fail
      go_ret
      refine ⟨?_, rfl⟩
      rw [rem_cast, hxe.out, bit_of hi, Hr.out]
      rfl
set_option maxRecDepth 100000 in
set_option maxHeartbeats 1000000 in
theorem rmask_any (n : Nat) (w : World) (hn : n ≤ 32) : Calls Tryz.prog 127 #[.int .i64 n] w fun e w' => e = .returned (.int .u32 (maskN n)) ∧ w = w' := by
  have HR := Lib.hid (msk_all hn)
  go_enter Tryz.func127, Tryz.ntmps127
  go_wp2_with fail
  go_loop [3, 4] (fun v k => ∃ i : Nat, i ≤ 32 ∧ k = .int .i64 i ∧ v = .int .u32 (mskN n i)) (fun _ k => 32 - (intOf k).toNat)
  case atStart => exact ⟨0, by omega, rfl, by rw [msk_zero]; rfl⟩
  case round =>
    obtain ⟨i, hi, rfl, rfl⟩ := hrel
    by_cases hlt : i < 32
    · have hd : decide ((i : Int) < 32) = true := by simp; omega
      have hb := msk_lt n i
      have hb2 : 2 ^ i ≤ 2 ^ 31 := Nat.pow_le_pow_right (by omega) (by omega)
      have hb3 : mskN n i < 2147483648 := Nat.lt_of_lt_of_le hb (by simpa using hb2)
      clear hb hb2
      obtain ⟨x, hx⟩ : ∃ x, mskN n i = x := ⟨_, rfl⟩
      rw [hx] at hb3 ⊢
      have Hx := Lib.hid hx; clear hx
      by_cases hin : i < n
      · have hd2 : decide ((i : Int) < n) = true := by simpa using hin
        have hd3 : decide (i < n) = true := by simpa using hin
        go_wp2_with fail
        go_round
        case rel => exact ⟨i + 1, by omega, by go_num, by rw [msk_less hin, Hx.out]; simp⟩
        case measure => simp [intOf]; omega
      · have hd2 : decide ((i : Int) < n) = false := by simpa using hin
        have hd3 : decide (i < n) = false := by simpa using hin
        go_wp2_with fail
        go_round
        case rel => exact ⟨i + 1, by omega, by go_num, by rw [msk_more hin, Hx.out]; simp⟩
        case measure => simp [intOf]; omega
    · obtain rfl : i = 32 := by omega
      rw [HR.out]
      go_wp2_with fail
      go_ret
      exact ⟨rfl, rfl⟩
set_option maxRecDepth 100000 in
set_option maxHeartbeats 1000000 in
theorem rright_any (p : PI) (w : World) (ha : p.a < 4294967296) : Calls Tryz.prog 125 #[.agg #[.int .u32 p.a, .int .i64 p.l]] w fun e w' => e = .returned (.bool p.okB) ∧ Kp w w' := by
  obtain ⟨W, hW, kW, B0⟩ : ∃ W, w.alloc (.cells #[.int .u32 p.a, .int .i64 p.l] 29) = W ∧ Kp w W ∧ Blk W w.heap.size 29 #[.int .u32 p.a, .int .i64 p.l] := ⟨_, rfl, (Kp.refl _).alloc _, Blk.new w _ _⟩
  have p0 : W.cell? ⟨w.heap.size, 0, none⟩ = some (.int .u32 p.a) := B0.cell 0
  have p1 : W.cell? ⟨w.heap.size, 1, none⟩ = some (.int .i64 p.l) := B0.cell 1
  obtain ⟨r, hr⟩ : ∃ r, p.okB = r := ⟨_, rfl⟩
  rw [hr]
  have Hr := Lib.hid hr; clear hr
  by_cases h0 : p.l < 0
  · have d0 : decide (p.l < 0) = true := by simpa using h0
    obtain rfl : r = false := by rw [← Hr.out]; simp [PI.okB]; omega
    clear h0 Hr
    go_enter Tryz.func125, Tryz.ntmps125
    go_wp2_with fail
    go_ret
    exact ⟨rfl, kW⟩
  have d0 : decide (p.l < 0) = false := by simpa using h0
  by_cases h1 : 32 < p.l
  · have d1 : decide (32 < p.l) = true := by simpa using h1
    obtain rfl : r = false := by rw [← Hr.out]; simp [PI.okB]; omega
    clear h0 h1 Hr
    go_enter Tryz.func125, Tryz.ntmps125
    go_wp2_with fail
    go_ret
    exact ⟨rfl, kW⟩
  have d1 : decide (32 < p.l) = false := by simpa using h1
  obtain ⟨n, hn⟩ : ∃ n : Nat, p.l = (n : Int) := ⟨p.l.toNat, by omega⟩
  have hn32 : n ≤ 32 := by omega
  have Hok : Hid (r = decide (cut p.a n = p.a)) := by
    rw [← Hr.out]
    have e : p.l.toNat = n := by omega
    unfold PI.okB
    rw [e]
    exact Lib.hid (by congr 1; simp; omega)
  rw [hn] at p1 d0 d1 hW ⊢
  clear h0 h1 hn Hr B0
  go_enter Tryz.func125, Tryz.ntmps125
  go_wp2_with fail
  go_loop [3] (fun k => ∃ i : Nat, n ≤ i ∧ i ≤ 32 ∧ k = .int .i64 i ∧ Hid (∀ j, n ≤ j → j < i → bitN p.a j = 0)) (fun k => 32 - (intOf k).toNat)
  case atStart => exact ⟨n, Nat.le_refl _, hn32, rfl, fun j h1 h2 => absurd h2 (by omega)⟩
  case round =>
    obtain ⟨i, hni, hi, rfl, hall⟩ := hrel
    by_cases hlt : i < 32
    · have hd : decide ((i : Int) < 32) = true := by simp; omega
      have hbl := bit_lt p.a i
      go_wp2_with fail
      refine (rbit_any p.a i _ ha hlt).mono ?_
      rintro e w' ⟨rfl, rfl⟩
      by_cases hb : bitN p.a i = 0
      · rw [hb]
        have Hb := Lib.hid hb; clear hb
        go_wp2_with fail
        go_round
        case rel =>
          refine ⟨i + 1, by omega, by omega, by go_num, fun j h1 h2 => ?_⟩
          rcases Nat.lt_or_ge j i with h3 | h3
          · exact hall.out j h1 h3
          · obtain rfl : j = i := by omega
            exact Hb.out
        case measure => simp [intOf]; omega
      · obtain rfl : r = false := by
          rw [Hok.out]
          simp only [decide_eq_false_iff_not]
          intro hc
          exact hb ((bits_zero hn32).2 hc i hni hlt)
        obtain ⟨x, hx⟩ : ∃ x, bitN p.a i = x := ⟨_, rfl⟩
        rw [hx] at hb hbl ⊢
        obtain rfl : x = 1 := by omega
        clear hb hbl hx
        go_wp2_with fail
        go_ret
        exact ⟨rfl, kW⟩
    · obtain rfl : i = 32 := by omega
      obtain rfl : r = true := by
        rw [Hok.out]
        simp only [decide_eq_true_eq]
        exact (bits_zero hn32).1 (fun j h1 h2 => hall.out j h1 h2)
      go_wp2_with fail
      go_ret
      exact ⟨rfl, kW⟩
def RPartsP (m : Nat) (w : World) (e : Ending) (w' : World) : Prop := ∃ y z u : Int, e = .returned (.agg #[.int .i64 m, .int .i64 y, .int .i64 z, .int .i64 u]) ∧ Kp w w'
set_option maxRecDepth 100000 in
set_option maxHeartbeats 1000000 in
theorem rpartsA_any (a m : Nat) (w : World) (ha : a < 4294967296) (hm : a / 16777216 = m) : Calls Tryz.prog 190 #[.int .u32 a] w (RPartsP m w) := by
  have Hm := Lib.hid hm; clear hm
  go_enter Tryz.func190, Tryz.ntmps190
  go_wp2_with fail
  exact bodyPost_ret (v := .agg #[.int .i64 ((a : Int) / 16777216), .int .i64 ((a : Int) / 65536 % 256), .int .i64 ((a : Int) / 256 % 256), .int .i64 ((a : Int) % 256)]) (by simp [results, Tryz.results190, go_sem]) rfl ⟨_, _, _, by rw [← Hm.out]; rfl, (Kp.refl _).alloc _⟩
set_option maxRecDepth 100000 in
set_option maxHeartbeats 2000000 in
theorem rkind_any (a : Nat) (w : World) (ha : a < 4294967296) : Calls Tryz.prog 166 #[.int .u32 a] w fun e w' => e = .returned (.int .i64 (kindAd a)) ∧ Kp w w' := by
  obtain ⟨r, hr⟩ : ∃ r, kindAd a = r := ⟨_, rfl⟩
  rw [hr]
  obtain ⟨m, hm⟩ : ∃ m, a / 16777216 = m := ⟨_, rfl⟩
  have hm2 : m < 256 := by omega
  unfold kindAd at hr
  rw [hm] at hr
  have Hm := Lib.hid hm; clear hm
  have hall : Hid ((a = 0 ∧ r = 1) ∨ (a ≠ 0 ∧ m = 0 ∧ r = 2) ∨ (a ≠ 0 ∧ m = 127 ∧ r = 3) ∨ (a ≠ 0 ∧ 224 ≤ m ∧ m ≤ 239 ∧ r = 4) ∨ (a ≠ 0 ∧ 240 ≤ m ∧ r = 5) ∨ (a ≠ 0 ∧ m ≠ 0 ∧ m ≠ 127 ∧ m < 224 ∧ r = 6)) := by
    revert hr
    by_cases h0 : a = 0
    · rw [if_pos h0]; intro hr; exact .inl ⟨h0, hr.symm⟩
    rw [if_neg h0]
    by_cases h1 : m = 0
    · rw [if_pos h1]; intro hr; exact .inr (.inl ⟨h0, h1, hr.symm⟩)
    rw [if_neg h1]
    by_cases h2 : m = 127
    · rw [if_pos h2]; intro hr; exact .inr (.inr (.inl ⟨h0, h2, hr.symm⟩))
    rw [if_neg h2]
    by_cases h3 : 224 ≤ m ∧ m ≤ 239
    · rw [if_pos h3]; intro hr; exact .inr (.inr (.inr (.inl ⟨h0, h3.1, h3.2, hr.symm⟩)))
    rw [if_neg h3]
    by_cases h4 : 240 ≤ m
    · rw [if_pos h4]; intro hr; exact .inr (.inr (.inr (.inr (.inl ⟨h0, h4, hr.symm⟩))))
    rw [if_neg h4]
    intro hr
    exact .inr (.inr (.inr (.inr (.inr ⟨h0, h1, h2, by omega, hr.symm⟩))))
  clear hr
  go_enter Tryz.func166, Tryz.ntmps166
  go_wp2_with fail
  refine (rpartsA_any a m w ha Hm.out).mono ?_
  rintro e w1 ⟨y, z, u, rfl, hK⟩
  rcases hall.out with ⟨h0, rfl⟩ | ⟨h0, h1, rfl⟩ | ⟨h0, h1, rfl⟩ | ⟨h0, h1, h2, rfl⟩ | ⟨h0, h1, rfl⟩ | ⟨h0, h1, h2, h3, rfl⟩
  · subst h0
    clear hall
    go_wp2_with fail
    go_ret
    exact ⟨rfl, hK.alloc _⟩
  · have q0 : ((a : Int) == 0) = false := by simpa using h0
    subst h1
    clear hall h0
    go_wp2_with fail
    go_ret
    exact ⟨rfl, hK.alloc _⟩
  · have q0 : ((a : Int) == 0) = false := by simpa using h0
    subst h1
    clear hall h0
    go_wp2_with fail
    go_ret
    exact ⟨rfl, hK.alloc _⟩
  · have q0 : ((a : Int) == 0) = false := by simpa using h0
    have q1 : ((m : Int) == 0) = false := by simp; omega
    have q2 : ((m : Int) == 127) = false := by simp; omega
    have q3 : decide ((224 : Int) ≤ m) = true := by simp; omega
    have q4 : decide ((m : Int) ≤ 239) = true := by simp; omega
    clear hall h0
    go_wp2_with fail
    go_ret
    exact ⟨rfl, hK.alloc _⟩
  · have q0 : ((a : Int) == 0) = false := by simpa using h0
    have q1 : ((m : Int) == 0) = false := by simp; omega
    have q2 : ((m : Int) == 127) = false := by simp; omega
    have q3 : decide ((224 : Int) ≤ m) = true := by simp; omega
    have q4 : decide ((m : Int) ≤ 239) = false := by simp; omega
    have q5 : decide ((240 : Int) ≤ m) = true := by simp; omega
    clear hall h0
    go_wp2_with fail
    go_ret
    exact ⟨rfl, hK.alloc _⟩
  · have q0 : ((a : Int) == 0) = false := by simpa using h0
    have q1 : ((m : Int) == 0) = false := by simp; omega
    have q2 : ((m : Int) == 127) = false := by simp; omega
    have q3 : decide ((224 : Int) ≤ m) = false := by simp; omega
    have q5 : decide ((240 : Int) ≤ m) = false := by simp; omega
    clear hall h0
    go_wp2_with fail
    go_ret
    exact ⟨rfl, hK.alloc _⟩
set_option maxRecDepth 100000 in
set_option maxHeartbeats 2000000 in
theorem rbad_any (a n : Nat) (w : World) (ha : a < 4294967296) (hn : n ≤ 32) : Calls Tryz.prog 126 #[.int .u32 a, .int .u32 (maskN n)] w fun e w' => e = .returned (.bool (badKind a n)) ∧ Kp w w' := by
  obtain ⟨r, hr⟩ : ∃ r, badKind a n = r := ⟨_, rfl⟩
  rw [hr]
  have hk := kindN_range a
  have hmm := mask_ne n hn
  unfold badKind at hr
  have Hk := Lib.hid (rkind_any a w ha)
  obtain ⟨k, hkk⟩ : ∃ k, kindAd a = k := ⟨_, rfl⟩
  rw [hkk] at hr hk Hk
  obtain ⟨mm, hM⟩ : ∃ mm, maskN n = mm := ⟨_, rfl⟩
  rw [hM] at hmm ⊢
  clear hkk hM
  have Hmm := Lib.hid hmm; clear hmm
  have hcase : k = 1 ∨ k = 2 ∨ k = 3 ∨ k = 4 ∨ k = 5 ∨ k = 6 := by omega
  clear hk
  rcases hcase with rfl | rfl | rfl | rfl | rfl | rfl
  · simp only [show ¬ (1 = 6) by omega, if_false, if_true] at hr
    rw [hr] at Hmm
    have hm := Hmm.out
    clear hr
    go_enter Tryz.func126, Tryz.ntmps126
    go_wp2_with fail
    refine Hk.out.mono ?_
    rintro e w1 ⟨rfl, hK⟩
    cases r
    all_goals
      go_wp2_with fail
      go_ret
      exact ⟨rfl, hK⟩
  all_goals
    simp at hr
    subst hr
    go_enter Tryz.func126, Tryz.ntmps126
    go_wp2_with fail
    refine Hk.out.mono ?_
    rintro e w1 ⟨rfl, hK⟩
    go_wp2_with fail
    go_ret
    exact ⟨rfl, hK⟩
set_option maxRecDepth 100000 in
set_option maxHeartbeats 2000000 in
theorem good_any (p : PI) (w : World) (ha : p.a < 4294967296) : Calls Tryz.prog 87 #[.agg #[.int .u32 p.a, .int .i64 p.l]] w fun e w' => e = .returned (.bool (toldB p)) ∧ Kp w w' := by
  obtain ⟨W, hW, kW, B0⟩ : ∃ W, w.alloc (.cells #[.int .u32 p.a, .int .i64 p.l] 29) = W ∧ Kp w W ∧ Blk W w.heap.size 29 #[.int .u32 p.a, .int .i64 p.l] := ⟨_, rfl, (Kp.refl _).alloc _, Blk.new w _ _⟩
  have p0 : W.cell? ⟨w.heap.size, 0, none⟩ = some (.int .u32 p.a) := B0.cell 0
  have p1 : W.cell? ⟨w.heap.size, 1, none⟩ = some (.int .i64 p.l) := B0.cell 1
  cases hok : p.okB with
  | false =>
    have Ht : Hid (toldB p = false) := Lib.hid (by simp [toldB, hok])
    have Hok := Lib.hid hok; clear hok
    go_enter Tryz.func87, Tryz.ntmps87
    go_wp2_with fail
    refine wp_anyW (by kernel_rfl) (fun V hV => ?_)
    have KV : Kp W V := by rw [hV]; exact (Kp.refl _).drew
    clear hV
    have q0 := KV.cell p0
    have q1 := KV.cell p1
    clear p0 p1
    refine wpAny_ready (rs := [0]) (by kernel_rfl) (by simp) ?_
    refine AllReady.cons rfl (fun K hK => ?_) AllReady.nil
    go_simp
    refine hK _ _ ?_
    clear hK K
    refine wpAny_ready (rs := [1]) (by kernel_rfl) (by simp) ?_
    refine AllReady.cons rfl (fun K hK => ?_) AllReady.nil
    go_simp
    refine (rright_any p _ ha).mono ?_
    rintro e wa ⟨rfl, hKa⟩
    rw [Hok.out]
    refine hK _ _ ?_
    clear hK K
    refine wpAny_take (i := 2) (v := .bool false) rfl (by kernel_rfl) (by kernel_rfl) (by kernel_rfl) (fun _ _ _ h => h) (Or.inl ⟨by rfl, fun w => by go_simp⟩) ?_
    refine wpAny_take (i := 3) (v := undef) rfl (by kernel_rfl) (by kernel_rfl) (by kernel_rfl) (fun _ _ _ h => h) (Or.inr ⟨by rfl, rfl⟩) ?_
    refine wpAny_take (i := 4) (v := undef) rfl (by kernel_rfl) (by kernel_rfl) (by kernel_rfl) (fun _ _ _ h => h) (Or.inr ⟨by rfl, rfl⟩) ?_
    refine wpAny_take (i := 5) (v := undef) rfl (by kernel_rfl) (by kernel_rfl) (by kernel_rfl) (fun _ _ _ h => h) (Or.inr ⟨by rfl, rfl⟩) ?_
    refine wpAny_take (i := 6) (v := undef) rfl (by kernel_rfl) (by kernel_rfl) (by kernel_rfl) (fun _ _ _ h => h) (Or.inr ⟨by rfl, rfl⟩) ?_
    refine wpAny_take (i := 7) (v := undef) rfl (by kernel_rfl) (by kernel_rfl) (by kernel_rfl) (fun _ _ _ h => h) (Or.inr ⟨by rfl, rfl⟩) ?_
    refine wpAny_take (i := 8) (v := undef) rfl (by kernel_rfl) (by kernel_rfl) (by kernel_rfl) (fun _ _ _ h => h) (Or.inr ⟨by rfl, rfl⟩) ?_
    refine wpAny_take (i := 9) (v := undef) rfl (by kernel_rfl) (by kernel_rfl) (by kernel_rfl) (fun _ _ _ h => h) (Or.inr ⟨by rfl, rfl⟩) ?_
    refine wpAny_rest 10 rfl (by kernel_rfl) ?_
    simp only [List.drop_succ_cons, List.drop_zero]
    go_wp2_with fail
    go_ret
    exact ⟨by rw [Ht.out]; rfl, (kW.trans KV).trans hKa⟩
  | true =>
    have hq := of_decide_eq_true hok
    obtain ⟨n, hn⟩ : ∃ n : Nat, p.l = (n : Int) := ⟨p.l.toNat, by omega⟩
    have hn32 : n ≤ 32 := by omega
    have Ht : Hid (toldB p = !badKind p.a n) := Lib.hid (by simp [toldB, hok, hn])
    have Hok := Lib.hid hok; clear hok hq
    have HR := Lib.hid (fun w => rright_any p w ha)
    rw [hn] at hW p1 B0 HR ⊢
    clear hn
    go_enter Tryz.func87, Tryz.ntmps87
    go_wp2_with fail
    go_region_held3 (fun w' => w'.cell? ⟨w.heap.size, 0, none⟩ = some (.int .u32 p.a) ∧ w'.cell? ⟨w.heap.size, 1, none⟩ = some (.int .i64 n)) (first | exact ⟨(Ka.trans Kb).cell p0, (Ka.trans Kb).cell p1⟩ | exact ⟨Ka.cell p0, Ka.cell p1⟩ | go_keep) (first | (go_at_call 125; refine (HR.out _).mono ?_; rintro e wa ⟨rfl, hKa⟩; rw [Hok.out]; have Ka : Kp W wa := (Kp.refl W).drew.trans hKa) | (go_at_call 127; refine (rmask_any n _ hn32).mono ?_; rintro e w' ⟨rfl, rfl⟩) | (go_at_call 126; refine (rbad_any p.a n _ ha hn32).mono ?_; rintro e wb ⟨rfl, Kb⟩))
    go_wp2_with fail
    go_ret
    exact ⟨by rw [Ht.out]; rfl, (kW.trans Ka).trans Kb⟩
end Go.Proofs.YtffckpkikdlbpaaGreatDoor
