/- Lemmas and contracts for the theorem of this claim: VRfA, VRfB, VwL, VwM, ScA. -/
import Derived.Test.YtbfimimhgdkpaaaGreatDoorZhB
import Derived.Test.YtbfimimhgdkpaaaGreatDoorProg
import Derived.Laws.StructEq
set_option linter.unusedSimpArgs false
set_option linter.unusedVariables false
/- The references of layers 1, 2, 4, 7 as far as layer 13 needs them: bits, masks, which prefixes may be and may be told, kinds. -/
namespace Go.Proofs.YtbfimimhgdkpaaaGreatDoor
open Go.RowKit

theorem half_cast (x : Nat) : ((x : Int) / 2) = ((x / 2 : Nat) : Int) := by omega
theorem rem_cast (x : Nat) : ((x : Int) % 2) = ((x % 2 : Nat) : Int) := by omega
set_option maxRecDepth 100000 in
set_option maxHeartbeats 1000000 in
theorem rbit_any (a i : Nat) (w : World) (ha : a < 4294967296) (hi : i < 32) : Calls Tryz.prog 168 #[.int .u32 a, .int .i64 i] w fun e w' => e = .returned (.int .i64 (bitN a i)) ∧ w = w' := by
  obtain ⟨r, hr⟩ : ∃ r, bitN a i = r := ⟨_, rfl⟩
  rw [hr]
  have Hr := Lib.hid hr; clear hr
  have d1 : decide ((i : Int) < 0) = false := by simp
  have d2 : decide ((31 : Int) < i) = false := by simp; omega
  go_enter Tryz.func168, Tryz.ntmps168
  go_wp2_with fail
  go_loop [5, 6] (fun n k => ∃ m x : Nat, i ≤ m ∧ m ≤ 31 ∧ k = .int .i64 m ∧ n = .int .i64 x ∧ x < 4294967296 ∧ Hid (x = a / 2 ^ (31 - m))) (fun _ k => (intOf k).toNat)
  case atStart => exact ⟨31, a, by omega, by omega, rfl, rfl, ha, Lib.hid (by simp)⟩
  case round =>
    obtain ⟨m, x, him, hm, rfl, rfl, hx, hxe⟩ := hrel
    by_cases hlt : i < m
    · have hd : decide ((i : Int) < m) = true := by simpa using hlt
      go_wp2_with fail
      go_round
      case rel =>
        refine ⟨m - 1, x / 2, by omega, by omega, ?_, by rw [← half_cast], by omega, ?_⟩
        · have e : ((m : Int) - 1) = ((m - 1 : Nat) : Int) := by omega
          rw [e]
        · rw [hxe.out, half_step]; congr 2; omega
      case measure => simp [intOf]; omega
    · obtain rfl : m = i := by omega
      have hd : decide ((m : Int) < m) = false := by simp
      go_wp2_with fail
      go_ret
      refine ⟨?_, rfl⟩
      rw [rem_cast, hxe.out, bit_of hi, Hr.out]
      rfl

set_option maxRecDepth 100000 in
set_option maxHeartbeats 1000000 in
theorem rmask_any (n : Nat) (w : World) (hn : n ≤ 32) : Calls Tryz.prog 161 #[.int .i64 n] w fun e w' => e = .returned (.int .u32 (maskN n)) ∧ w = w' := by
  have HR := Lib.hid (msk_all hn)
  go_enter Tryz.func161, Tryz.ntmps161
  go_wp2_with fail
  go_loop [3, 4] (fun v k => ∃ i : Nat, i ≤ 32 ∧ k = .int .i64 i ∧ v = .int .u32 (mskN n i)) (fun _ k => 32 - (intOf k).toNat)
  case atStart => exact ⟨0, by omega, rfl, by rw [msk_zero]; rfl⟩
  case round =>
    obtain ⟨i, hi, rfl, rfl⟩ := hrel
    by_cases hlt : i < 32
    · have hd : decide ((i : Int) < 32) = true := by simp; omega
      have hb := msk_lt n i
      have hb2 : 2 ^ i ≤ 2 ^ 31 := Nat.pow_le_pow_right (by omega) (by omega)
      have hb3 : mskN n i < 2147483648 := Nat.lt_of_lt_of_le hb (by simpa using hb2)
      clear hb hb2
      obtain ⟨x, hx⟩ : ∃ x, mskN n i = x := ⟨_, rfl⟩
      rw [hx] at hb3 ⊢
      have Hx := Lib.hid hx; clear hx
      by_cases hin : i < n
      · have hd2 : decide ((i : Int) < n) = true := by simpa using hin
        have hd3 : decide (i < n) = true := by simpa using hin
        go_wp2_with fail
        go_round
        case rel => exact ⟨i + 1, by omega, by go_num, by rw [msk_less hin, Hx.out]; simp⟩
        case measure => simp [intOf]; omega
      · have hd2 : decide ((i : Int) < n) = false := by simpa using hin
        have hd3 : decide (i < n) = false := by simpa using hin
        go_wp2_with fail
        go_round
        case rel => exact ⟨i + 1, by omega, by go_num, by rw [msk_more hin, Hx.out]; simp⟩
        case measure => simp [intOf]; omega
    · obtain rfl : i = 32 := by omega
      rw [HR.out]
      go_wp2_with fail
      go_ret
      exact ⟨rfl, rfl⟩

set_option maxRecDepth 100000 in
set_option maxHeartbeats 1000000 in
theorem rright_any (p : PI) (w : World) (ha : p.a < 4294967296) : Calls Tryz.prog 113 #[.agg #[.int .u32 p.a, .int .i64 p.l]] w fun e w' => e = .returned (.bool p.okB) ∧ Kp w w' := by
  obtain ⟨W, hW, kW, B0⟩ : ∃ W, w.alloc (.cells #[.int .u32 p.a, .int .i64 p.l] 42) = W ∧ Kp w W ∧ Blk W w.heap.size 42 #[.int .u32 p.a, .int .i64 p.l] := ⟨_, rfl, (Kp.refl _).alloc _, Blk.new w _ _⟩
  have p0 : W.cell? ⟨w.heap.size, 0, none⟩ = some (.int .u32 p.a) := B0.cell 0
  have p1 : W.cell? ⟨w.heap.size, 1, none⟩ = some (.int .i64 p.l) := B0.cell 1
  obtain ⟨r, hr⟩ : ∃ r, p.okB = r := ⟨_, rfl⟩
  rw [hr]
  have Hr := Lib.hid hr; clear hr
  by_cases h0 : p.l < 0
  · have d0 : decide (p.l < 0) = true := by simpa using h0
    obtain rfl : r = false := by rw [← Hr.out]; simp [PI.okB]; omega
    clear h0 Hr
    go_enter Tryz.func113, Tryz.ntmps113
    go_wp2_with fail
    go_ret
    exact ⟨rfl, kW⟩
  have d0 : decide (p.l < 0) = false := by simpa using h0
  by_cases h1 : 32 < p.l
  · have d1 : decide (32 < p.l) = true := by simpa using h1
    obtain rfl : r = false := by rw [← Hr.out]; simp [PI.okB]; omega
    clear h0 h1 Hr
    go_enter Tryz.func113, Tryz.ntmps113
    go_wp2_with fail
    go_ret
    exact ⟨rfl, kW⟩
  have d1 : decide (32 < p.l) = false := by simpa using h1
  obtain ⟨n, hn⟩ : ∃ n : Nat, p.l = (n : Int) := ⟨p.l.toNat, by omega⟩
  have hn32 : n ≤ 32 := by omega
  have Hok : Hid (r = decide (cut p.a n = p.a)) := by
    rw [← Hr.out]
    have e : p.l.toNat = n := by omega
    unfold PI.okB
    rw [e]
    exact Lib.hid (by congr 1; simp; omega)
  rw [hn] at p1 d0 d1 hW ⊢
  clear h0 h1 hn Hr B0
  go_enter Tryz.func113, Tryz.ntmps113
  go_wp2_with fail
  go_loop [3] (fun k => ∃ i : Nat, n ≤ i ∧ i ≤ 32 ∧ k = .int .i64 i ∧ Hid (∀ j, n ≤ j → j < i → bitN p.a j = 0)) (fun k => 32 - (intOf k).toNat)
  case atStart => exact ⟨n, Nat.le_refl _, hn32, rfl, fun j h1 h2 => absurd h2 (by omega)⟩
  case round =>
    obtain ⟨i, hni, hi, rfl, hall⟩ := hrel
    by_cases hlt : i < 32
    · have hd : decide ((i : Int) < 32) = true := by simp; omega
      have hbl := bit_lt p.a i
      go_wp2_with fail
      refine (rbit_any p.a i _ ha hlt).mono ?_
      rintro e w' ⟨rfl, rfl⟩
      by_cases hb : bitN p.a i = 0
      · rw [hb]
        have Hb := Lib.hid hb; clear hb
        go_wp2_with fail
        go_round
        case rel =>
          refine ⟨i + 1, by omega, by omega, by go_num, fun j h1 h2 => ?_⟩
          rcases Nat.lt_or_ge j i with h3 | h3
          · exact hall.out j h1 h3
          · obtain rfl : j = i := by omega
            exact Hb.out
        case measure => simp [intOf]; omega
      · obtain rfl : r = false := by
          rw [Hok.out]
          simp only [decide_eq_false_iff_not]
          intro hc
          exact hb ((bits_zero hn32).2 hc i hni hlt)
        obtain ⟨x, hx⟩ : ∃ x, bitN p.a i = x := ⟨_, rfl⟩
        rw [hx] at hb hbl ⊢
        obtain rfl : x = 1 := by omega
        clear hb hbl hx
        go_wp2_with fail
        go_ret
        exact ⟨rfl, kW⟩
    · obtain rfl : i = 32 := by omega
      obtain rfl : r = true := by
        rw [Hok.out]
        simp only [decide_eq_true_eq]
        exact (bits_zero hn32).1 (fun j h1 h2 => hall.out j h1 h2)
      go_wp2_with fail
      go_ret
      exact ⟨rfl, kW⟩

def RPartsP (m : Nat) (w : World) (e : Ending) (w' : World) : Prop := ∃ y z u : Int, e = .returned (.agg #[.int .i64 m, .int .i64 y, .int .i64 z, .int .i64 u]) ∧ Kp w w'
set_option maxRecDepth 100000 in
set_option maxHeartbeats 1000000 in
theorem rpartsA_any (a m : Nat) (w : World) (ha : a < 4294967296) (hm : a / 16777216 = m) : Calls Tryz.prog 96 #[.int .u32 a] w (RPartsP m w) := by
  have Hm := Lib.hid hm; clear hm
  go_enter Tryz.func96, Tryz.ntmps96
  go_wp2_with fail
  exact bodyPost_ret (v := .agg #[.int .i64 ((a : Int) / 16777216), .int .i64 ((a : Int) / 65536 % 256), .int .i64 ((a : Int) / 256 % 256), .int .i64 ((a : Int) % 256)]) (by simp [results, Tryz.results96, go_sem]) rfl ⟨_, _, _, by rw [← Hm.out]; rfl, (Kp.refl _).alloc _⟩

set_option maxRecDepth 100000 in
set_option maxHeartbeats 2000000 in
theorem rkind_any (a : Nat) (w : World) (ha : a < 4294967296) : Calls Tryz.prog 162 #[.int .u32 a] w fun e w' => e = .returned (.int .i64 (kindAd a)) ∧ Kp w w' := by
  obtain ⟨r, hr⟩ : ∃ r, kindAd a = r := ⟨_, rfl⟩
  rw [hr]
  obtain ⟨m, hm⟩ : ∃ m, a / 16777216 = m := ⟨_, rfl⟩
  have hm2 : m < 256 := by omega
  unfold kindAd at hr
  rw [hm] at hr
  have Hm := Lib.hid hm; clear hm
  have hall : Hid ((a = 0 ∧ r = 1) ∨ (a ≠ 0 ∧ m = 0 ∧ r = 2) ∨ (a ≠ 0 ∧ m = 127 ∧ r = 3) ∨ (a ≠ 0 ∧ 224 ≤ m ∧ m ≤ 239 ∧ r = 4) ∨ (a ≠ 0 ∧ 240 ≤ m ∧ r = 5) ∨ (a ≠ 0 ∧ m ≠ 0 ∧ m ≠ 127 ∧ m < 224 ∧ r = 6)) := by
    revert hr
    by_cases h0 : a = 0
    · rw [if_pos h0]; intro hr; exact .inl ⟨h0, hr.symm⟩
    rw [if_neg h0]
    by_cases h1 : m = 0
    · rw [if_pos h1]; intro hr; exact .inr (.inl ⟨h0, h1, hr.symm⟩)
    rw [if_neg h1]
    by_cases h2 : m = 127
    · rw [if_pos h2]; intro hr; exact .inr (.inr (.inl ⟨h0, h2, hr.symm⟩))
    rw [if_neg h2]
    by_cases h3 : 224 ≤ m ∧ m ≤ 239
    · rw [if_pos h3]; intro hr; exact .inr (.inr (.inr (.inl ⟨h0, h3.1, h3.2, hr.symm⟩)))
    rw [if_neg h3]
    by_cases h4 : 240 ≤ m
    · rw [if_pos h4]; intro hr; exact .inr (.inr (.inr (.inr (.inl ⟨h0, h4, hr.symm⟩))))
    rw [if_neg h4]
    intro hr
    exact .inr (.inr (.inr (.inr (.inr ⟨h0, h1, h2, by omega, hr.symm⟩))))
  clear hr
  go_enter Tryz.func162, Tryz.ntmps162
  go_wp2_with fail
  refine (rpartsA_any a m w ha Hm.out).mono ?_
  rintro e w1 ⟨y, z, u, rfl, hK⟩
  rcases hall.out with ⟨h0, rfl⟩ | ⟨h0, h1, rfl⟩ | ⟨h0, h1, rfl⟩ | ⟨h0, h1, h2, rfl⟩ | ⟨h0, h1, rfl⟩ | ⟨h0, h1, h2, h3, rfl⟩
  · subst h0
    clear hall
    go_wp2_with fail
    go_ret
    exact ⟨rfl, hK.alloc _⟩
  · have q0 : ((a : Int) == 0) = false := by simpa using h0
    subst h1
    clear hall h0
    go_wp2_with fail
    go_ret
    exact ⟨rfl, hK.alloc _⟩
  · have q0 : ((a : Int) == 0) = false := by simpa using h0
    subst h1
    clear hall h0
    go_wp2_with fail
    go_ret
    exact ⟨rfl, hK.alloc _⟩
  · have q0 : ((a : Int) == 0) = false := by simpa using h0
    have q1 : ((m : Int) == 0) = false := by simp; omega
    have q2 : ((m : Int) == 127) = false := by simp; omega
    have q3 : decide ((224 : Int) ≤ m) = true := by simp; omega
    have q4 : decide ((m : Int) ≤ 239) = true := by simp; omega
    clear hall h0
    go_wp2_with fail
    go_ret
    exact ⟨rfl, hK.alloc _⟩
  · have q0 : ((a : Int) == 0) = false := by simpa using h0
    have q1 : ((m : Int) == 0) = false := by simp; omega
    have q2 : ((m : Int) == 127) = false := by simp; omega
    have q3 : decide ((224 : Int) ≤ m) = true := by simp; omega
    have q4 : decide ((m : Int) ≤ 239) = false := by simp; omega
    have q5 : decide ((240 : Int) ≤ m) = true := by simp; omega
    clear hall h0
    go_wp2_with fail
    go_ret
    exact ⟨rfl, hK.alloc _⟩
  · have q0 : ((a : Int) == 0) = false := by simpa using h0
    have q1 : ((m : Int) == 0) = false := by simp; omega
    have q2 : ((m : Int) == 127) = false := by simp; omega
    have q3 : decide ((224 : Int) ≤ m) = false := by simp; omega
    have q5 : decide ((240 : Int) ≤ m) = false := by simp; omega
    clear hall h0
    go_wp2_with fail
    go_ret
    exact ⟨rfl, hK.alloc _⟩

set_option maxRecDepth 100000 in
set_option maxHeartbeats 2000000 in
theorem rbad_any (a n : Nat) (w : World) (ha : a < 4294967296) (hn : n ≤ 32) : Calls Tryz.prog 160 #[.int .u32 a, .int .u32 (maskN n)] w fun e w' => e = .returned (.bool (badKind a n)) ∧ Kp w w' := by
  obtain ⟨r, hr⟩ : ∃ r, badKind a n = r := ⟨_, rfl⟩
  rw [hr]
  have hk := kindN_range a
  have hmm := mask_ne n hn
  unfold badKind at hr
  have Hk := Lib.hid (rkind_any a w ha)
  obtain ⟨k, hkk⟩ : ∃ k, kindAd a = k := ⟨_, rfl⟩
  rw [hkk] at hr hk Hk
  obtain ⟨mm, hM⟩ : ∃ mm, maskN n = mm := ⟨_, rfl⟩
  rw [hM] at hmm ⊢
  clear hkk hM
  have Hmm := Lib.hid hmm; clear hmm
  have hcase : k = 1 ∨ k = 2 ∨ k = 3 ∨ k = 4 ∨ k = 5 ∨ k = 6 := by omega
  clear hk
  rcases hcase with rfl | rfl | rfl | rfl | rfl | rfl
  · simp only [show ¬ (1 = 6) by omega, if_false, if_true] at hr
    rw [hr] at Hmm
    have hm := Hmm.out
    clear hr
    go_enter Tryz.func160, Tryz.ntmps160
    go_wp2_with fail
    refine Hk.out.mono ?_
    rintro e w1 ⟨rfl, hK⟩
    cases r
    all_goals
      go_wp2_with fail
      go_ret
      exact ⟨rfl, hK⟩
  all_goals
    simp at hr
    subst hr
    go_enter Tryz.func160, Tryz.ntmps160
    go_wp2_with fail
    refine Hk.out.mono ?_
    rintro e w1 ⟨rfl, hK⟩
    go_wp2_with fail
    go_ret
    exact ⟨rfl, hK⟩

set_option maxRecDepth 100000 in
set_option maxHeartbeats 2000000 in
theorem good_any (p : PI) (w : World) (ha : p.a < 4294967296) : Calls Tryz.prog 104 #[.agg #[.int .u32 p.a, .int .i64 p.l]] w fun e w' => e = .returned (.bool (toldB p)) ∧ Kp w w' := by
  obtain ⟨W, hW, kW, B0⟩ : ∃ W, w.alloc (.cells #[.int .u32 p.a, .int .i64 p.l] 42) = W ∧ Kp w W ∧ Blk W w.heap.size 42 #[.int .u32 p.a, .int .i64 p.l] := ⟨_, rfl, (Kp.refl _).alloc _, Blk.new w _ _⟩
  have p0 : W.cell? ⟨w.heap.size, 0, none⟩ = some (.int .u32 p.a) := B0.cell 0
  have p1 : W.cell? ⟨w.heap.size, 1, none⟩ = some (.int .i64 p.l) := B0.cell 1
  cases hok : p.okB with
  | false =>
    have Ht : Hid (toldB p = false) := Lib.hid (by simp [toldB, hok])
    have Hok := Lib.hid hok; clear hok
    go_enter Tryz.func104, Tryz.ntmps104
    go_wp2_with fail
    refine wp_anyW (by kernel_rfl) (fun V hV => ?_)
    have KV : Kp W V := by rw [hV]; exact (Kp.refl _).drew
    clear hV
    have q0 := KV.cell p0
    have q1 := KV.cell p1
    clear p0 p1
    refine wpAny_ready (rs := [0]) (by kernel_rfl) (by simp) ?_
    refine AllReady.cons rfl (fun K hK => ?_) AllReady.nil
    go_simp
    refine hK _ _ ?_
    clear hK K
    refine wpAny_ready (rs := [1]) (by kernel_rfl) (by simp) ?_
    refine AllReady.cons rfl (fun K hK => ?_) AllReady.nil
    go_simp
    refine (rright_any p _ ha).mono ?_
    rintro e wa ⟨rfl, hKa⟩
    rw [Hok.out]
    refine hK _ _ ?_
    clear hK K
    refine wpAny_take (i := 2) (v := .bool false) rfl (by kernel_rfl) (by kernel_rfl) (by kernel_rfl) (fun _ _ _ h => h) (Or.inl ⟨by rfl, fun w => by go_simp⟩) ?_
    refine wpAny_take (i := 3) (v := undef) rfl (by kernel_rfl) (by kernel_rfl) (by kernel_rfl) (fun _ _ _ h => h) (Or.inr ⟨by rfl, rfl⟩) ?_
    refine wpAny_take (i := 4) (v := undef) rfl (by kernel_rfl) (by kernel_rfl) (by kernel_rfl) (fun _ _ _ h => h) (Or.inr ⟨by rfl, rfl⟩) ?_
    refine wpAny_take (i := 5) (v := undef) rfl (by kernel_rfl) (by kernel_rfl) (by kernel_rfl) (fun _ _ _ h => h) (Or.inr ⟨by rfl, rfl⟩) ?_
    refine wpAny_take (i := 6) (v := undef) rfl (by kernel_rfl) (by kernel_rfl) (by kernel_rfl) (fun _ _ _ h => h) (Or.inr ⟨by rfl, rfl⟩) ?_
    refine wpAny_take (i := 7) (v := undef) rfl (by kernel_rfl) (by kernel_rfl) (by kernel_rfl) (fun _ _ _ h => h) (Or.inr ⟨by rfl, rfl⟩) ?_
    refine wpAny_take (i := 8) (v := undef) rfl (by kernel_rfl) (by kernel_rfl) (by kernel_rfl) (fun _ _ _ h => h) (Or.inr ⟨by rfl, rfl⟩) ?_
    refine wpAny_take (i := 9) (v := undef) rfl (by kernel_rfl) (by kernel_rfl) (by kernel_rfl) (fun _ _ _ h => h) (Or.inr ⟨by rfl, rfl⟩) ?_
    refine wpAny_rest 10 rfl (by kernel_rfl) ?_
    simp only [List.drop_succ_cons, List.drop_zero]
    go_wp2_with fail
    go_ret
    exact ⟨by rw [Ht.out]; rfl, (kW.trans KV).trans hKa⟩
  | true =>
    have hq := of_decide_eq_true hok
    obtain ⟨n, hn⟩ : ∃ n : Nat, p.l = (n : Int) := ⟨p.l.toNat, by omega⟩
    have hn32 : n ≤ 32 := by omega
    have Ht : Hid (toldB p = !badKind p.a n) := Lib.hid (by simp [toldB, hok, hn])
    have Hok := Lib.hid hok; clear hok hq
    have HR := Lib.hid (fun w => rright_any p w ha)
    rw [hn] at hW p1 B0 HR ⊢
    clear hn
    go_enter Tryz.func104, Tryz.ntmps104
    go_wp2_with fail
    go_region_held3 (fun w' => w'.cell? ⟨w.heap.size, 0, none⟩ = some (.int .u32 p.a) ∧ w'.cell? ⟨w.heap.size, 1, none⟩ = some (.int .i64 n)) (first | exact ⟨(Ka.trans Kb).cell p0, (Ka.trans Kb).cell p1⟩ | exact ⟨Ka.cell p0, Ka.cell p1⟩ | go_keep) (first | (go_at_call 113; refine (HR.out _).mono ?_; rintro e wa ⟨rfl, hKa⟩; rw [Hok.out]; have Ka : Kp W wa := (Kp.refl W).drew.trans hKa) | (go_at_call 161; refine (rmask_any n _ hn32).mono ?_; rintro e w' ⟨rfl, rfl⟩) | (go_at_call 160; refine (rbad_any p.a n _ ha hn32).mono ?_; rintro e wb ⟨rfl, Kb⟩))
    go_wp2_with fail
    go_ret
    exact ⟨by rw [Ht.out]; rfl, (kW.trans Ka).trans Kb⟩

theorem rtime_any (d : Int) (w : World) : Calls Tryz.prog 106 #[.int .i64 d] w fun e w' => e = .returned (.bool (withB 0 4611686018427387904 d)) ∧ w = w' := by
  obtain ⟨T, hT⟩ : ∃ T : Int, (4611686018427387904 : Int) = T := ⟨_, rfl⟩
  by_cases h0 : d < 0
  · have e : withB 0 4611686018427387904 d = false := by simp [withB, h0]
    have d0 : decide (0 ≤ d) = false := by simp; omega
    rw [e]
    clear e h0 hT
    go_enter Tryz.func106, Tryz.ntmps106
    go_wp2_with fail
    go_ret
    exact ⟨rfl, rfl⟩
  · have d0 : decide (0 ≤ d) = true := by simp; omega
    have e : withB 0 4611686018427387904 d = decide (d ≤ 4611686018427387904) := by
      simp only [withB]
      rw [decide_eq_false h0]
      by_cases h1 : 4611686018427387904 < d
      · rw [decide_eq_true h1, decide_eq_false (by omega)]; rfl
      · rw [decide_eq_false h1, decide_eq_true (by omega)]; rfl
    rw [e]
    clear e h0 hT
    go_enter Tryz.func106, Tryz.ntmps106
    go_wp2_with fail
    go_ret
    exact ⟨rfl, rfl⟩

set_option maxHeartbeats 1000000 in
theorem rside_any (f : Int) (x : Nat) (w : World) (hx : x < 4294967296) : Calls Tryz.prog 105 #[.int .i64 f, .int .u32 x] w fun e w' => e = .returned (.bool (mayB f x)) ∧ Kp w w' := by
  obtain ⟨r, hr⟩ : ∃ r, mayB f x = r := ⟨_, rfl⟩
  rw [hr]
  have Hk := Lib.hid (rkind_any x w hx)
  unfold mayB withB at hr
  obtain ⟨k, hkk⟩ : ∃ k, kindAd x = k := ⟨_, rfl⟩
  rw [hkk] at hr Hk
  clear hkk
  by_cases h0 : f < 0
  · obtain rfl : r = false := by rw [← hr]; simp [h0]
    have d0 : decide (0 ≤ f) = false := by simp; omega
    clear hr h0
    go_enter Tryz.func105, Tryz.ntmps105
    go_wp2_with fail
    go_ret
    exact ⟨rfl, Kp.refl _⟩
  have d0 : decide (0 ≤ f) = true := by simp; omega
  by_cases h1 : 15 < f
  · obtain rfl : r = false := by rw [← hr]; simp [h1]
    have d1 : decide (f ≤ 15) = false := by simp; omega
    clear hr h0 h1
    go_enter Tryz.func105, Tryz.ntmps105
    go_wp2_with fail
    go_ret
    exact ⟨rfl, Kp.refl _⟩
  have d1 : decide (f ≤ 15) = true := by simp; omega
  have hr' : ((k : Int) == 6) = r := by rw [← hr]; simp [h0, h1]
  have Hr := Lib.hid hr'
  clear hr h0 h1 hr'
  go_enter Tryz.func105, Tryz.ntmps105
  go_wp2_with fail
  refine Hk.out.mono ?_
  rintro e w1 ⟨rfl, hK⟩
  have hr := Hr.out
  go_wp2_with fail
  go_ret
  exact ⟨rfl, hK⟩
end Go.Proofs.YtbfimimhgdkpaaaGreatDoor

/- Hops and routes compared; the reference of layer 11: which routes may be. -/
namespace Go.Proofs.YtbfimimhgdkpaaaGreatDoor
open Go.RowKit

set_option maxRecDepth 100000 in
set_option maxHeartbeats 1000000 in
theorem route_eql (w : World) (a l s m t f x d a' l' s' m' t' f' x' d' : Int) (c c' : Bool) : (binOp .eql 45 (.agg #[.int .u32 a, .int .i64 l, .int .i64 s, .int .i64 m, .int .i64 t, .int .i64 f, .int .u32 x, .int .i64 d, .bool c]) (.agg #[.int .u32 a', .int .i64 l', .int .i64 s', .int .i64 m', .int .i64 t', .int .i64 f', .int .u32 x', .int .i64 d', .bool c'])).run Tryz.prog w = .ok (.bool ((a == a' && l == l') && (s == s') && (m == m') && (t == t') && (f == f') && (x == x') && (d == d') && (c == c'))) w := by
  rw [run_eql_struct, run_equalIn_agg w 9999 _ _ _ Tryz.underlying45 (by kernel_rfl)]
  simp [Op.eqFields, part, go_sem, Tryz.underlying3, Tryz.underlying2, Tryz.underlying24, Tryz.underlying4, Tryz.underlying43]
  repeat' split
  all_goals simp_all

def rightB (r : Rt) : Bool := stateB r && toldB r.p
theorem check_right (r : Rt) : checkR r = if rightB r then 0 else 2 := rfl

set_option maxRecDepth 100000 in
set_option maxHeartbeats 4000000 in
theorem right_no (r : Rt) (w : World) (ha : r.p.a < 4294967296) (hx : r.x < 4294967296) (ht : toldB r.p = false) : Calls Tryz.prog 59 #[.agg #[.int .u32 r.p.a, .int .i64 r.p.l, .int .i64 r.s, .int .i64 r.m, .int .i64 r.l, .int .i64 r.f, .int .u32 r.x, .int .i64 r.d, .bool r.c]] w fun e w' => e = .returned (.bool (rightB r)) ∧ Kp w w' := by
  obtain ⟨W, hW, kW, B0⟩ : ∃ W, w.alloc (.cells #[.int .u32 r.p.a, .int .i64 r.p.l, .int .i64 r.s, .int .i64 r.m, .int .i64 r.l, .int .i64 r.f, .int .u32 r.x, .int .i64 r.d, .bool r.c] 45) = W ∧ Kp w W ∧ Blk W w.heap.size 45 #[.int .u32 r.p.a, .int .i64 r.p.l, .int .i64 r.s, .int .i64 r.m, .int .i64 r.l, .int .i64 r.f, .int .u32 r.x, .int .i64 r.d, .bool r.c] := ⟨_, rfl, (Kp.refl _).alloc _, Blk.new w _ _⟩
  obtain ⟨R, hR⟩ : ∃ R, rightB r = R := ⟨_, rfl⟩
  rw [hR]
  have HR := Lib.hid hR; clear hR
  have p0 : W.cell? ⟨w.heap.size, 0, none⟩ = some (.int .u32 r.p.a) := B0.cell 0
  have p1 : W.cell? ⟨w.heap.size, 1, none⟩ = some (.int .i64 r.p.l) := B0.cell 1
  obtain rfl : R = false := by rw [← HR.out]; simp [rightB, ht]
  have Ht := Lib.hid ht; clear ht
  go_enter Tryz.func59, Tryz.ntmps59
  go_wp2_with fail
  refine (good_any r.p _ ha).mono ?_
  rintro e w1 ⟨rfl, hK⟩
  rw [Ht.out]
  go_wp2_with fail
  go_ret
  exact ⟨rfl, kW.trans hK⟩

set_option maxRecDepth 100000 in
set_option maxHeartbeats 4000000 in
theorem right_0 (r : Rt) (w : World) (ha : r.p.a < 4294967296) (hx : r.x < 4294967296) (ht : toldB r.p = true) (hs : r.s = 0) : Calls Tryz.prog 59 #[.agg #[.int .u32 r.p.a, .int .i64 r.p.l, .int .i64 r.s, .int .i64 r.m, .int .i64 r.l, .int .i64 r.f, .int .u32 r.x, .int .i64 r.d, .bool r.c]] w fun e w' => e = .returned (.bool (rightB r)) ∧ Kp w w' := by
  obtain ⟨W, hW, kW, B0⟩ : ∃ W, w.alloc (.cells #[.int .u32 r.p.a, .int .i64 r.p.l, .int .i64 r.s, .int .i64 r.m, .int .i64 r.l, .int .i64 r.f, .int .u32 r.x, .int .i64 r.d, .bool r.c] 45) = W ∧ Kp w W ∧ Blk W w.heap.size 45 #[.int .u32 r.p.a, .int .i64 r.p.l, .int .i64 r.s, .int .i64 r.m, .int .i64 r.l, .int .i64 r.f, .int .u32 r.x, .int .i64 r.d, .bool r.c] := ⟨_, rfl, (Kp.refl _).alloc _, Blk.new w _ _⟩
  obtain ⟨R, hR⟩ : ∃ R, rightB r = R := ⟨_, rfl⟩
  rw [hR]
  have HR := Lib.hid hR; clear hR
  have p0 : W.cell? ⟨w.heap.size, 0, none⟩ = some (.int .u32 r.p.a) := B0.cell 0
  have p1 : W.cell? ⟨w.heap.size, 1, none⟩ = some (.int .i64 r.p.l) := B0.cell 1
  have Hs := Lib.hid hs
  have Ht := Lib.hid ht
  have HR2 : Hid (stateB r = R) := by rw [← HR.out]; exact Lib.hid (by simp [rightB, ht])
  clear ht hs HR
  go_enter Tryz.func59, Tryz.ntmps59
  go_wp2_with fail
  refine (good_any r.p _ ha).mono ?_
  rintro e w1 ⟨rfl, hK⟩
  rw [Ht.out]
  have k1 := kW.trans hK
  have B1 := B0.keep hK
  clear p0 p1 hW
  have c0 : w1.cell? ⟨w.heap.size, 0, none⟩ = some (.int .u32 r.p.a) := B1.cell 0
  have c1 : w1.cell? ⟨w.heap.size, 1, none⟩ = some (.int .i64 r.p.l) := B1.cell 1
  have c2 : w1.cell? ⟨w.heap.size, 2, none⟩ = some (.int .i64 0) := by have := B1.cell 2; rw [Hs.out] at this; exact this
  have c3 : w1.cell? ⟨w.heap.size, 3, none⟩ = some (.int .i64 r.m) := B1.cell 3
  have c4 : w1.cell? ⟨w.heap.size, 4, none⟩ = some (.int .i64 r.l) := B1.cell 4
  have c5 : w1.cell? ⟨w.heap.size, 5, none⟩ = some (.int .i64 r.f) := B1.cell 5
  have c6 : w1.cell? ⟨w.heap.size, 6, none⟩ = some (.int .u32 r.x) := B1.cell 6
  have c7 : w1.cell? ⟨w.heap.size, 7, none⟩ = some (.int .i64 r.d) := B1.cell 7
  have c8 : w1.cell? ⟨w.heap.size, 8, none⟩ = some (.bool r.c) := B1.cell 8
  go_wp2_with fail
  all_goals
    go_ret
    refine ⟨?_, k1⟩
    have h8 := Hs.out
    rw [← HR2.out]
    simp [stateB, hasB, nowB, *]

set_option maxRecDepth 100000 in
set_option maxHeartbeats 4000000 in
theorem right_1 (r : Rt) (w : World) (ha : r.p.a < 4294967296) (hx : r.x < 4294967296) (ht : toldB r.p = true) (hs : r.s = 1) : Calls Tryz.prog 59 #[.agg #[.int .u32 r.p.a, .int .i64 r.p.l, .int .i64 r.s, .int .i64 r.m, .int .i64 r.l, .int .i64 r.f, .int .u32 r.x, .int .i64 r.d, .bool r.c]] w fun e w' => e = .returned (.bool (rightB r)) ∧ Kp w w' := by
  obtain ⟨W, hW, kW, B0⟩ : ∃ W, w.alloc (.cells #[.int .u32 r.p.a, .int .i64 r.p.l, .int .i64 r.s, .int .i64 r.m, .int .i64 r.l, .int .i64 r.f, .int .u32 r.x, .int .i64 r.d, .bool r.c] 45) = W ∧ Kp w W ∧ Blk W w.heap.size 45 #[.int .u32 r.p.a, .int .i64 r.p.l, .int .i64 r.s, .int .i64 r.m, .int .i64 r.l, .int .i64 r.f, .int .u32 r.x, .int .i64 r.d, .bool r.c] := ⟨_, rfl, (Kp.refl _).alloc _, Blk.new w _ _⟩
  obtain ⟨R, hR⟩ : ∃ R, rightB r = R := ⟨_, rfl⟩
  rw [hR]
  have HR := Lib.hid hR; clear hR
  have p0 : W.cell? ⟨w.heap.size, 0, none⟩ = some (.int .u32 r.p.a) := B0.cell 0
  have p1 : W.cell? ⟨w.heap.size, 1, none⟩ = some (.int .i64 r.p.l) := B0.cell 1
  have Hs := Lib.hid hs
  have Ht := Lib.hid ht
  have HR2 : Hid (stateB r = R) := by rw [← HR.out]; exact Lib.hid (by simp [rightB, ht])
  clear ht hs HR
  go_enter Tryz.func59, Tryz.ntmps59
  go_wp2_with fail
  refine (good_any r.p _ ha).mono ?_
  rintro e w1 ⟨rfl, hK⟩
  rw [Ht.out]
  have k1 := kW.trans hK
  have B1 := B0.keep hK
  clear p0 p1 hW
  have c0 : w1.cell? ⟨w.heap.size, 0, none⟩ = some (.int .u32 r.p.a) := B1.cell 0
  have c1 : w1.cell? ⟨w.heap.size, 1, none⟩ = some (.int .i64 r.p.l) := B1.cell 1
  have c2 : w1.cell? ⟨w.heap.size, 2, none⟩ = some (.int .i64 1) := by have := B1.cell 2; rw [Hs.out] at this; exact this
  have c3 : w1.cell? ⟨w.heap.size, 3, none⟩ = some (.int .i64 r.m) := B1.cell 3
  have c4 : w1.cell? ⟨w.heap.size, 4, none⟩ = some (.int .i64 r.l) := B1.cell 4
  have c5 : w1.cell? ⟨w.heap.size, 5, none⟩ = some (.int .i64 r.f) := B1.cell 5
  have c6 : w1.cell? ⟨w.heap.size, 6, none⟩ = some (.int .u32 r.x) := B1.cell 6
  have c7 : w1.cell? ⟨w.heap.size, 7, none⟩ = some (.int .i64 r.d) := B1.cell 7
  have c8 : w1.cell? ⟨w.heap.size, 8, none⟩ = some (.bool r.c) := B1.cell 8
  go_wp2_with fail
  all_goals
    go_ret
    refine ⟨?_, k1⟩
    have h8 := Hs.out
    rw [← HR2.out]
    simp [stateB, hasB, nowB, *]

set_option maxRecDepth 100000 in
set_option maxHeartbeats 4000000 in
theorem right_z (r : Rt) (w : World) (ha : r.p.a < 4294967296) (hx : r.x < 4294967296) (ht : toldB r.p = true) (hs : r.s ≠ 0 ∧ r.s ≠ 1 ∧ r.s ≠ 2 ∧ r.s ≠ 3 ∧ r.s ≠ 4) : Calls Tryz.prog 59 #[.agg #[.int .u32 r.p.a, .int .i64 r.p.l, .int .i64 r.s, .int .i64 r.m, .int .i64 r.l, .int .i64 r.f, .int .u32 r.x, .int .i64 r.d, .bool r.c]] w fun e w' => e = .returned (.bool (rightB r)) ∧ Kp w w' := by
  obtain ⟨W, hW, kW, B0⟩ : ∃ W, w.alloc (.cells #[.int .u32 r.p.a, .int .i64 r.p.l, .int .i64 r.s, .int .i64 r.m, .int .i64 r.l, .int .i64 r.f, .int .u32 r.x, .int .i64 r.d, .bool r.c] 45) = W ∧ Kp w W ∧ Blk W w.heap.size 45 #[.int .u32 r.p.a, .int .i64 r.p.l, .int .i64 r.s, .int .i64 r.m, .int .i64 r.l, .int .i64 r.f, .int .u32 r.x, .int .i64 r.d, .bool r.c] := ⟨_, rfl, (Kp.refl _).alloc _, Blk.new w _ _⟩
  obtain ⟨R, hR⟩ : ∃ R, rightB r = R := ⟨_, rfl⟩
  rw [hR]
  have HR := Lib.hid hR; clear hR
  have p0 : W.cell? ⟨w.heap.size, 0, none⟩ = some (.int .u32 r.p.a) := B0.cell 0
  have p1 : W.cell? ⟨w.heap.size, 1, none⟩ = some (.int .i64 r.p.l) := B0.cell 1
  have q0 : (r.s == 0) = false := by simpa using hs.1
  have q1 : (r.s == 1) = false := by simpa using hs.2.1
  have q2 : (r.s == 2) = false := by simpa using hs.2.2.1
  have q3 : (r.s == 3) = false := by simpa using hs.2.2.2.1
  have q4 : (r.s == 4) = false := by simpa using hs.2.2.2.2
  have Hs := Lib.hid hs
  have Ht := Lib.hid ht
  have HR2 : Hid (stateB r = R) := by rw [← HR.out]; exact Lib.hid (by simp [rightB, ht])
  clear ht hs HR
  go_enter Tryz.func59, Tryz.ntmps59
  go_wp2_with fail
  refine (good_any r.p _ ha).mono ?_
  rintro e w1 ⟨rfl, hK⟩
  rw [Ht.out]
  have k1 := kW.trans hK
  have B1 := B0.keep hK
  clear p0 p1 hW
  have c0 : w1.cell? ⟨w.heap.size, 0, none⟩ = some (.int .u32 r.p.a) := B1.cell 0
  have c1 : w1.cell? ⟨w.heap.size, 1, none⟩ = some (.int .i64 r.p.l) := B1.cell 1
  have c2 : w1.cell? ⟨w.heap.size, 2, none⟩ = some (.int .i64 r.s) := by have := B1.cell 2; exact this
  have c3 : w1.cell? ⟨w.heap.size, 3, none⟩ = some (.int .i64 r.m) := B1.cell 3
  have c4 : w1.cell? ⟨w.heap.size, 4, none⟩ = some (.int .i64 r.l) := B1.cell 4
  have c5 : w1.cell? ⟨w.heap.size, 5, none⟩ = some (.int .i64 r.f) := B1.cell 5
  have c6 : w1.cell? ⟨w.heap.size, 6, none⟩ = some (.int .u32 r.x) := B1.cell 6
  have c7 : w1.cell? ⟨w.heap.size, 7, none⟩ = some (.int .i64 r.d) := B1.cell 7
  have c8 : w1.cell? ⟨w.heap.size, 8, none⟩ = some (.bool r.c) := B1.cell 8
  obtain rfl : R = false := by rw [← HR2.out]; simp [stateB, Hs.out]
  go_wp2_with fail
  go_ret
  exact ⟨rfl, k1⟩

set_option maxRecDepth 100000 in
set_option maxHeartbeats 4000000 in
theorem right_2 (r : Rt) (w : World) (ha : r.p.a < 4294967296) (hx : r.x < 4294967296) (ht : toldB r.p = true) (hs : r.s = 2) : Calls Tryz.prog 59 #[.agg #[.int .u32 r.p.a, .int .i64 r.p.l, .int .i64 r.s, .int .i64 r.m, .int .i64 r.l, .int .i64 r.f, .int .u32 r.x, .int .i64 r.d, .bool r.c]] w fun e w' => e = .returned (.bool (rightB r)) ∧ Kp w w' := by
  obtain ⟨W, hW, kW, B0⟩ : ∃ W, w.alloc (.cells #[.int .u32 r.p.a, .int .i64 r.p.l, .int .i64 r.s, .int .i64 r.m, .int .i64 r.l, .int .i64 r.f, .int .u32 r.x, .int .i64 r.d, .bool r.c] 45) = W ∧ Kp w W ∧ Blk W w.heap.size 45 #[.int .u32 r.p.a, .int .i64 r.p.l, .int .i64 r.s, .int .i64 r.m, .int .i64 r.l, .int .i64 r.f, .int .u32 r.x, .int .i64 r.d, .bool r.c] := ⟨_, rfl, (Kp.refl _).alloc _, Blk.new w _ _⟩
  obtain ⟨R, hR⟩ : ∃ R, rightB r = R := ⟨_, rfl⟩
  rw [hR]
  have HR := Lib.hid hR; clear hR
  have p0 : W.cell? ⟨w.heap.size, 0, none⟩ = some (.int .u32 r.p.a) := B0.cell 0
  have p1 : W.cell? ⟨w.heap.size, 1, none⟩ = some (.int .i64 r.p.l) := B0.cell 1
  have Hs := Lib.hid hs
  have Ht := Lib.hid ht
  have HR2 : Hid (stateB r = R) := by rw [← HR.out]; exact Lib.hid (by simp [rightB, ht])
  clear ht hs HR
  go_enter Tryz.func59, Tryz.ntmps59
  go_wp2_with fail
  refine (good_any r.p _ ha).mono ?_
  rintro e w1 ⟨rfl, hK⟩
  rw [Ht.out]
  have k1 := kW.trans hK
  have B1 := B0.keep hK
  clear p0 p1 hW
  have c0 : w1.cell? ⟨w.heap.size, 0, none⟩ = some (.int .u32 r.p.a) := B1.cell 0
  have c1 : w1.cell? ⟨w.heap.size, 1, none⟩ = some (.int .i64 r.p.l) := B1.cell 1
  have c2 : w1.cell? ⟨w.heap.size, 2, none⟩ = some (.int .i64 2) := by have := B1.cell 2; rw [Hs.out] at this; exact this
  have c3 : w1.cell? ⟨w.heap.size, 3, none⟩ = some (.int .i64 r.m) := B1.cell 3
  have c4 : w1.cell? ⟨w.heap.size, 4, none⟩ = some (.int .i64 r.l) := B1.cell 4
  have c5 : w1.cell? ⟨w.heap.size, 5, none⟩ = some (.int .i64 r.f) := B1.cell 5
  have c6 : w1.cell? ⟨w.heap.size, 6, none⟩ = some (.int .u32 r.x) := B1.cell 6
  have c7 : w1.cell? ⟨w.heap.size, 7, none⟩ = some (.int .i64 r.d) := B1.cell 7
  have c8 : w1.cell? ⟨w.heap.size, 8, none⟩ = some (.bool r.c) := B1.cell 8
  have HS : Hid (R = ((mayB r.f r.x && withB 0 4611686018427387904 r.d) && (decide (2 ≤ r.m) && decide (r.m ≤ 15) && (r.l == 0)))) := by
    rw [← HR2.out]
    simp only [stateB, Hs.out, hasB, someB, withB]
    refine Lib.hid ?_
    simp only [show ¬ ((2 : Int) = 0) by omega, show ¬ ((2 : Int) = 1) by omega, if_true, if_false]
    cases mayB r.f r.x
    · simp
    · rw [Bool.eq_iff_iff]
      simp only [Bool.and_eq_true, Bool.not_eq_true', decide_eq_false_iff_not, decide_eq_true_eq, beq_iff_eq, true_and, and_true]
      omega
  obtain ⟨sb, hsb⟩ : ∃ sb, mayB r.f r.x = sb := ⟨_, rfl⟩
  have Hsd := Lib.hid (fun w => rside_any r.f r.x w hx)
  rw [hsb] at HS Hsd
  clear hsb
  obtain ⟨tb, htb⟩ : ∃ tb, withB 0 4611686018427387904 r.d = tb := ⟨_, rfl⟩
  have Htd := Lib.hid (fun w => rtime_any r.d w)
  rw [htb] at HS Htd
  clear htb
  obtain ⟨b0, h0⟩ : ∃ b0, decide (2 ≤ r.m) = b0 := ⟨_, rfl⟩
  obtain ⟨b1, h1⟩ : ∃ b1, decide (r.m ≤ 15) = b1 := ⟨_, rfl⟩
  obtain ⟨b2, h2⟩ : ∃ b2, (r.l == 0) = b2 := ⟨_, rfl⟩
  rw [h0, h1, h2] at HS
  go_wp2_with fail
  refine (Hsd.out _).mono ?_
  rintro e w2 ⟨rfl, hK2⟩
  have k2 := k1.trans hK2
  have B2 := B1.keep hK2
  clear c0 c1 c2 c3 c4 c5 c6 c7 c8
  have d3 : w2.cell? ⟨w.heap.size, 3, none⟩ = some (.int .i64 r.m) := B2.cell 3
  have d4 : w2.cell? ⟨w.heap.size, 4, none⟩ = some (.int .i64 r.l) := B2.cell 4
  have d7 : w2.cell? ⟨w.heap.size, 7, none⟩ = some (.int .i64 r.d) := B2.cell 7
  cases sb with
  | false =>
    obtain rfl : R = false := by rw [HS.out]; rfl
    clear h0 h1 h2
    go_wp2_with fail
    go_ret
    exact ⟨rfl, k2⟩
  | true =>
  go_wp2_with fail
  refine (Htd.out _).mono ?_
  rintro e w' ⟨rfl, rfl⟩
  cases tb with
  | false =>
    obtain rfl : R = false := by rw [HS.out]; rfl
    clear h0 h1 h2
    go_wp2_with fail
    go_ret
    exact ⟨rfl, k2⟩
  | true =>
  cases b0 with
  | false =>
    obtain rfl : R = false := by rw [HS.out]; simp
    clear HS h1 h2
    go_wp2_with fail
    go_ret
    exact ⟨rfl, k2⟩
  | true =>
  cases b1 with
  | false =>
    obtain rfl : R = false := by rw [HS.out]; simp
    clear HS h2
    go_wp2_with fail
    go_ret
    exact ⟨rfl, k2⟩
  | true =>
  cases b2 with
  | false =>
    obtain rfl : R = false := by rw [HS.out]; simp
    clear HS
    go_wp2_with fail
    go_ret
    exact ⟨rfl, k2⟩
  | true =>
  obtain rfl : R = true := by rw [HS.out]; rfl
  clear HS
  go_wp2_with fail
  go_ret
  exact ⟨rfl, k2⟩

set_option maxRecDepth 100000 in
set_option maxHeartbeats 4000000 in
theorem right_3 (r : Rt) (w : World) (ha : r.p.a < 4294967296) (hx : r.x < 4294967296) (ht : toldB r.p = true) (hs : r.s = 3) : Calls Tryz.prog 59 #[.agg #[.int .u32 r.p.a, .int .i64 r.p.l, .int .i64 r.s, .int .i64 r.m, .int .i64 r.l, .int .i64 r.f, .int .u32 r.x, .int .i64 r.d, .bool r.c]] w fun e w' => e = .returned (.bool (rightB r)) ∧ Kp w w' := by
  obtain ⟨W, hW, kW, B0⟩ : ∃ W, w.alloc (.cells #[.int .u32 r.p.a, .int .i64 r.p.l, .int .i64 r.s, .int .i64 r.m, .int .i64 r.l, .int .i64 r.f, .int .u32 r.x, .int .i64 r.d, .bool r.c] 45) = W ∧ Kp w W ∧ Blk W w.heap.size 45 #[.int .u32 r.p.a, .int .i64 r.p.l, .int .i64 r.s, .int .i64 r.m, .int .i64 r.l, .int .i64 r.f, .int .u32 r.x, .int .i64 r.d, .bool r.c] := ⟨_, rfl, (Kp.refl _).alloc _, Blk.new w _ _⟩
  obtain ⟨R, hR⟩ : ∃ R, rightB r = R := ⟨_, rfl⟩
  rw [hR]
  have HR := Lib.hid hR; clear hR
  have p0 : W.cell? ⟨w.heap.size, 0, none⟩ = some (.int .u32 r.p.a) := B0.cell 0
  have p1 : W.cell? ⟨w.heap.size, 1, none⟩ = some (.int .i64 r.p.l) := B0.cell 1
  have Hs := Lib.hid hs
  have Ht := Lib.hid ht
  have HR2 : Hid (stateB r = R) := by rw [← HR.out]; exact Lib.hid (by simp [rightB, ht])
  clear ht hs HR
  go_enter Tryz.func59, Tryz.ntmps59
  go_wp2_with fail
  refine (good_any r.p _ ha).mono ?_
  rintro e w1 ⟨rfl, hK⟩
  rw [Ht.out]
  have k1 := kW.trans hK
  have B1 := B0.keep hK
  clear p0 p1 hW
  have c0 : w1.cell? ⟨w.heap.size, 0, none⟩ = some (.int .u32 r.p.a) := B1.cell 0
  have c1 : w1.cell? ⟨w.heap.size, 1, none⟩ = some (.int .i64 r.p.l) := B1.cell 1
  have c2 : w1.cell? ⟨w.heap.size, 2, none⟩ = some (.int .i64 3) := by have := B1.cell 2; rw [Hs.out] at this; exact this
  have c3 : w1.cell? ⟨w.heap.size, 3, none⟩ = some (.int .i64 r.m) := B1.cell 3
  have c4 : w1.cell? ⟨w.heap.size, 4, none⟩ = some (.int .i64 r.l) := B1.cell 4
  have c5 : w1.cell? ⟨w.heap.size, 5, none⟩ = some (.int .i64 r.f) := B1.cell 5
  have c6 : w1.cell? ⟨w.heap.size, 6, none⟩ = some (.int .u32 r.x) := B1.cell 6
  have c7 : w1.cell? ⟨w.heap.size, 7, none⟩ = some (.int .i64 r.d) := B1.cell 7
  have c8 : w1.cell? ⟨w.heap.size, 8, none⟩ = some (.bool r.c) := B1.cell 8
  have HS : Hid (R = ((mayB r.f r.x && withB 0 4611686018427387904 r.d) && ((r.m == 16) && decide (2 ≤ r.l) && decide (r.l ≤ 15)))) := by
    rw [← HR2.out]
    simp only [stateB, Hs.out, hasB, someB, withB]
    refine Lib.hid ?_
    simp only [show ¬ ((3 : Int) = 0) by omega, show ¬ ((3 : Int) = 1) by omega, show ¬ ((3 : Int) = 2) by omega, if_true, if_false]
    cases mayB r.f r.x
    · simp
    · rw [Bool.eq_iff_iff]
      simp only [Bool.and_eq_true, Bool.not_eq_true', decide_eq_false_iff_not, decide_eq_true_eq, beq_iff_eq, true_and, and_true]
      omega
  obtain ⟨sb, hsb⟩ : ∃ sb, mayB r.f r.x = sb := ⟨_, rfl⟩
  have Hsd := Lib.hid (fun w => rside_any r.f r.x w hx)
  rw [hsb] at HS Hsd
  clear hsb
  obtain ⟨tb, htb⟩ : ∃ tb, withB 0 4611686018427387904 r.d = tb := ⟨_, rfl⟩
  have Htd := Lib.hid (fun w => rtime_any r.d w)
  rw [htb] at HS Htd
  clear htb
  obtain ⟨b0, h0⟩ : ∃ b0, (r.m == 16) = b0 := ⟨_, rfl⟩
  obtain ⟨b1, h1⟩ : ∃ b1, decide (2 ≤ r.l) = b1 := ⟨_, rfl⟩
  obtain ⟨b2, h2⟩ : ∃ b2, decide (r.l ≤ 15) = b2 := ⟨_, rfl⟩
  rw [h0, h1, h2] at HS
  go_wp2_with fail
  refine (Hsd.out _).mono ?_
  rintro e w2 ⟨rfl, hK2⟩
  have k2 := k1.trans hK2
  have B2 := B1.keep hK2
  clear c0 c1 c2 c3 c4 c5 c6 c7 c8
  have d3 : w2.cell? ⟨w.heap.size, 3, none⟩ = some (.int .i64 r.m) := B2.cell 3
  have d4 : w2.cell? ⟨w.heap.size, 4, none⟩ = some (.int .i64 r.l) := B2.cell 4
  have d7 : w2.cell? ⟨w.heap.size, 7, none⟩ = some (.int .i64 r.d) := B2.cell 7
  cases sb with
  | false =>
    obtain rfl : R = false := by rw [HS.out]; rfl
    clear h0 h1 h2
    go_wp2_with fail
    go_ret
    exact ⟨rfl, k2⟩
  | true =>
  go_wp2_with fail
  refine (Htd.out _).mono ?_
  rintro e w' ⟨rfl, rfl⟩
  cases tb with
  | false =>
    obtain rfl : R = false := by rw [HS.out]; rfl
    clear h0 h1 h2
    go_wp2_with fail
    go_ret
    exact ⟨rfl, k2⟩
  | true =>
  cases b0 with
  | false =>
    obtain rfl : R = false := by rw [HS.out]; simp
    clear HS h1 h2
    go_wp2_with fail
    go_ret
    exact ⟨rfl, k2⟩
  | true =>
  cases b1 with
  | false =>
    obtain rfl : R = false := by rw [HS.out]; simp
    clear HS h2
    go_wp2_with fail
    go_ret
    exact ⟨rfl, k2⟩
  | true =>
  cases b2 with
  | false =>
    obtain rfl : R = false := by rw [HS.out]; simp
    clear HS
    go_wp2_with fail
    go_ret
    exact ⟨rfl, k2⟩
  | true =>
  obtain rfl : R = true := by rw [HS.out]; rfl
  clear HS
  go_wp2_with fail
  go_ret
  exact ⟨rfl, k2⟩

set_option maxRecDepth 100000 in
set_option maxHeartbeats 4000000 in
theorem right_4 (r : Rt) (w : World) (ha : r.p.a < 4294967296) (hx : r.x < 4294967296) (ht : toldB r.p = true) (hs : r.s = 4) : Calls Tryz.prog 59 #[.agg #[.int .u32 r.p.a, .int .i64 r.p.l, .int .i64 r.s, .int .i64 r.m, .int .i64 r.l, .int .i64 r.f, .int .u32 r.x, .int .i64 r.d, .bool r.c]] w fun e w' => e = .returned (.bool (rightB r)) ∧ Kp w w' := by
  obtain ⟨W, hW, kW, B0⟩ : ∃ W, w.alloc (.cells #[.int .u32 r.p.a, .int .i64 r.p.l, .int .i64 r.s, .int .i64 r.m, .int .i64 r.l, .int .i64 r.f, .int .u32 r.x, .int .i64 r.d, .bool r.c] 45) = W ∧ Kp w W ∧ Blk W w.heap.size 45 #[.int .u32 r.p.a, .int .i64 r.p.l, .int .i64 r.s, .int .i64 r.m, .int .i64 r.l, .int .i64 r.f, .int .u32 r.x, .int .i64 r.d, .bool r.c] := ⟨_, rfl, (Kp.refl _).alloc _, Blk.new w _ _⟩
  obtain ⟨R, hR⟩ : ∃ R, rightB r = R := ⟨_, rfl⟩
  rw [hR]
  have HR := Lib.hid hR; clear hR
  have p0 : W.cell? ⟨w.heap.size, 0, none⟩ = some (.int .u32 r.p.a) := B0.cell 0
  have p1 : W.cell? ⟨w.heap.size, 1, none⟩ = some (.int .i64 r.p.l) := B0.cell 1
  have Hs := Lib.hid hs
  have Ht := Lib.hid ht
  have HR2 : Hid (stateB r = R) := by rw [← HR.out]; exact Lib.hid (by simp [rightB, ht])
  clear ht hs HR
  go_enter Tryz.func59, Tryz.ntmps59
  go_wp2_with fail
  refine (good_any r.p _ ha).mono ?_
  rintro e w1 ⟨rfl, hK⟩
  rw [Ht.out]
  have k1 := kW.trans hK
  have B1 := B0.keep hK
  clear p0 p1 hW
  have c0 : w1.cell? ⟨w.heap.size, 0, none⟩ = some (.int .u32 r.p.a) := B1.cell 0
  have c1 : w1.cell? ⟨w.heap.size, 1, none⟩ = some (.int .i64 r.p.l) := B1.cell 1
  have c2 : w1.cell? ⟨w.heap.size, 2, none⟩ = some (.int .i64 4) := by have := B1.cell 2; rw [Hs.out] at this; exact this
  have c3 : w1.cell? ⟨w.heap.size, 3, none⟩ = some (.int .i64 r.m) := B1.cell 3
  have c4 : w1.cell? ⟨w.heap.size, 4, none⟩ = some (.int .i64 r.l) := B1.cell 4
  have c5 : w1.cell? ⟨w.heap.size, 5, none⟩ = some (.int .i64 r.f) := B1.cell 5
  have c6 : w1.cell? ⟨w.heap.size, 6, none⟩ = some (.int .u32 r.x) := B1.cell 6
  have c7 : w1.cell? ⟨w.heap.size, 7, none⟩ = some (.int .i64 r.d) := B1.cell 7
  have c8 : w1.cell? ⟨w.heap.size, 8, none⟩ = some (.bool r.c) := B1.cell 8
  have HS : Hid (R = ((mayB r.f r.x && withB 0 4611686018427387904 r.d) && ((r.m == 16) && (r.l == 0)))) := by
    rw [← HR2.out]
    simp only [stateB, Hs.out, hasB, someB, withB]
    refine Lib.hid ?_
    simp only [show ¬ ((4 : Int) = 0) by omega, show ¬ ((4 : Int) = 1) by omega, show ¬ ((4 : Int) = 2) by omega, show ¬ ((4 : Int) = 3) by omega, if_true, if_false]
    cases mayB r.f r.x
    · simp
    · rw [Bool.eq_iff_iff]
      simp only [Bool.and_eq_true, Bool.not_eq_true', decide_eq_false_iff_not, decide_eq_true_eq, beq_iff_eq, true_and, and_true]
      omega
  obtain ⟨sb, hsb⟩ : ∃ sb, mayB r.f r.x = sb := ⟨_, rfl⟩
  have Hsd := Lib.hid (fun w => rside_any r.f r.x w hx)
  rw [hsb] at HS Hsd
  clear hsb
  obtain ⟨tb, htb⟩ : ∃ tb, withB 0 4611686018427387904 r.d = tb := ⟨_, rfl⟩
  have Htd := Lib.hid (fun w => rtime_any r.d w)
  rw [htb] at HS Htd
  clear htb
  obtain ⟨b0, h0⟩ : ∃ b0, (r.m == 16) = b0 := ⟨_, rfl⟩
  obtain ⟨b1, h1⟩ : ∃ b1, (r.l == 0) = b1 := ⟨_, rfl⟩
  rw [h0, h1] at HS
  go_wp2_with fail
  refine (Hsd.out _).mono ?_
  rintro e w2 ⟨rfl, hK2⟩
  have k2 := k1.trans hK2
  have B2 := B1.keep hK2
  clear c0 c1 c2 c3 c4 c5 c6 c7 c8
  have d3 : w2.cell? ⟨w.heap.size, 3, none⟩ = some (.int .i64 r.m) := B2.cell 3
  have d4 : w2.cell? ⟨w.heap.size, 4, none⟩ = some (.int .i64 r.l) := B2.cell 4
  have d7 : w2.cell? ⟨w.heap.size, 7, none⟩ = some (.int .i64 r.d) := B2.cell 7
  cases sb with
  | false =>
    obtain rfl : R = false := by rw [HS.out]; rfl
    clear h0 h1
    go_wp2_with fail
    go_ret
    exact ⟨rfl, k2⟩
  | true =>
  go_wp2_with fail
  refine (Htd.out _).mono ?_
  rintro e w' ⟨rfl, rfl⟩
  cases tb with
  | false =>
    obtain rfl : R = false := by rw [HS.out]; rfl
    clear h0 h1
    go_wp2_with fail
    go_ret
    exact ⟨rfl, k2⟩
  | true =>
  cases b0 with
  | false =>
    obtain rfl : R = false := by rw [HS.out]; simp
    clear HS h1
    go_wp2_with fail
    go_ret
    exact ⟨rfl, k2⟩
  | true =>
  cases b1 with
  | false =>
    obtain rfl : R = false := by rw [HS.out]; simp
    clear HS
    go_wp2_with fail
    go_ret
    exact ⟨rfl, k2⟩
  | true =>
  obtain rfl : R = true := by rw [HS.out]; rfl
  clear HS
  go_wp2_with fail
  go_ret
  exact ⟨rfl, k2⟩

theorem right_any (r : Rt) (w : World) (ha : r.p.a < 4294967296) (hx : r.x < 4294967296) : Calls Tryz.prog 59 #[.agg #[.int .u32 r.p.a, .int .i64 r.p.l, .int .i64 r.s, .int .i64 r.m, .int .i64 r.l, .int .i64 r.f, .int .u32 r.x, .int .i64 r.d, .bool r.c]] w fun e w' => e = .returned (.bool (rightB r)) ∧ Kp w w' := by
  cases ht : toldB r.p with
  | false => exact right_no r w ha hx ht
  | true =>
    by_cases h0 : r.s = 0
    · exact right_0 r w ha hx ht h0
    by_cases h1 : r.s = 1
    · exact right_1 r w ha hx ht h1
    by_cases h2 : r.s = 2
    · exact right_2 r w ha hx ht h2
    by_cases h3 : r.s = 3
    · exact right_3 r w ha hx ht h3
    by_cases h4 : r.s = 4
    · exact right_4 r w ha hx ht h4
    exact right_z r w ha hx ht ⟨h0, h1, h2, h3, h4⟩
end Go.Proofs.YtbfimimhgdkpaaaGreatDoor

/- Prefixes' and routes' lines, written and read, by the program and by the reference: no program in sight. -/
namespace Go.Proofs.YtbfimimhgdkpaaaGreatDoor
open Go.Lib

/-- What stands ahead of the first byte b, and behind it, if there is one. -/
def splitB (b : UInt8) : List UInt8 → Option (List UInt8 × List UInt8)
  | [] => none
  | c :: l => if c = b then some ([], l) else (splitB b l).map (fun q => (c :: q.1, q.2))
theorem splitB_at {b : UInt8} {v : List UInt8} : ∀ {u : List UInt8}, (∀ c ∈ u, c ≠ b) → splitB b (u ++ b :: v) = some (u, v)
  | [], _ => by simp [splitB]
  | c :: u, h => by
    have hc : c ≠ b := h c (by simp)
    rw [List.cons_append, splitB, if_neg hc, splitB_at (fun d hd => h d (by simp [hd]))]
    rfl
theorem splitB_no {b : UInt8} : ∀ {u : List UInt8}, (∀ c ∈ u, c ≠ b) → splitB b u = none
  | [], _ => rfl
  | c :: u, h => by
    have hc : c ≠ b := h c (by simp)
    rw [splitB, if_neg hc, splitB_no (fun d hd => h d (by simp [hd]))]
    rfl
theorem splitB_yes {b : UInt8} : ∀ {s u v : List UInt8}, splitB b s = some (u, v) → s = u ++ b :: v
  | [], _, _, h => by simp [splitB] at h
  | c :: l, u, v, h => by
    rw [splitB] at h
    by_cases hc : c = b
    · rw [if_pos hc] at h
      simp at h
      obtain ⟨rfl, rfl⟩ := h
      simp [hc]
    · rw [if_neg hc] at h
      cases hq : splitB b l with
      | none => rw [hq] at h; cases h
      | some q =>
        rw [hq] at h
        simp at h
        obtain ⟨rfl, rfl⟩ := h
        rw [splitB_yes (u := q.1) (v := q.2) hq]
        simp
/-- A prefix's text. -/
def textP (p : PI) : List UInt8 := textA p.a ++ 47 :: itoa p.l
/-- What the program takes of a text for a prefix. -/
def pxP (s : List UInt8) : Option PI :=
  match splitB 47 s with
  | none => none
  | some (h, t) => match adr h with
    | none => none
    | some a => if t ≠ [] ∧ (numR 32 0 0 t).2 = t.length ∧ (PI.mk a (numR 32 0 0 t).1).okB = true then some ⟨a, (numR 32 0 0 t).1⟩ else none
theorem textA_n47 (a : Nat) : ∀ c ∈ textA a, c ≠ 47 := by
  intro c hc e
  subst e
  simp only [textA, List.mem_append, List.mem_cons] at hc
  rcases hc with hc | hc | hc | hc | hc | hc | hc
  all_goals first | cases hc; done | (have := digits_all _ _ hc; simp at this)
theorem okB_range {p : PI} (h : p.okB = true) : 0 ≤ p.l ∧ p.l ≤ 32 := by
  unfold PI.okB at h
  rw [decide_eq_true_iff] at h
  exact ⟨h.1, h.2.1⟩
theorem pxP_sound {s : List UInt8} {p : PI} (h : pxP s = some p) : s = textP p ∧ p.okB = true ∧ p.a < 4294967296 := by
  unfold pxP at h
  split at h
  · cases h
  · rename_i h0 t hs
    split at h
    · cases h
    · rename_i a ha
      split at h
      · rename_i hc
        injection h with h
        subst h
        obtain ⟨hne, hlen, hok⟩ := hc
        obtain ⟨a1, a2⟩ := adr_sound ha
        refine ⟨?_, hok, a1⟩
        obtain ⟨b1, b2, b3⟩ := numR_sound (most := 32) t 0 0 [] (by simp) _ rfl
        rcases b3 with b3 | b3
        · exact absurd (List.length_eq_zero_iff.1 (hlen.symm.trans b3)) hne
        · simp only [List.nil_append, Nat.sub_zero] at b3
          have e : t = decDigits (numR 32 0 0 t).1 := by
            rw [← b3.1, hlen, List.take_length]
          have hs2 := splitB_yes hs
          rw [hs2, textP, a2, itoa_nonneg]
          rw [← e]
      · cases h
theorem pxP_whole {p : PI} (h : p.okB = true) (ha : p.a < 4294967296) : pxP (textP p) = some p := by
  obtain ⟨h0, h32⟩ := okB_range h
  obtain ⟨n, hn⟩ : ∃ n : Nat, p.l = (n : Int) := ⟨p.l.toNat, by omega⟩
  obtain ⟨a, l⟩ := p
  simp only at hn ha h0 h32
  subst hn
  have e := numR_whole (most := 32) (rest := []) (.inl rfl) n (by omega)
  rw [List.append_nil] at e
  unfold pxP textP
  simp only
  rw [itoa_nonneg, splitB_at (textA_n47 a)]
  simp only
  rw [adr_whole ha]
  simp only
  rw [e, if_pos ⟨digits_ne n, rfl, h⟩]

/-- The names of the states. -/
def namV : Nat → List UInt8
  | 1 => [100, 105, 114, 101, 99, 116]
  | 2 => [118, 97, 108, 105, 100]
  | 3 => [104, 111, 108, 100]
  | 4 => [103, 97, 114, 98, 97, 103, 101]
  | _ => []
def ofS : List UInt8 := [111, 102]
def byS : List UInt8 := [98, 121]
def dueS : List UInt8 := [100, 117, 101]
def chS : List UInt8 := [99, 104, 97, 110, 103, 101, 100]
def lostW (r : Rt) : List (List UInt8) := if r.s = 3 then [ofS, itoa r.l] else []
def sideW (r : Rt) : List (List UInt8) := if r.s = 1 then [] else [byS, itoa r.f, textA r.x, dueS, itoa r.d]
def endW (r : Rt) : List (List UInt8) := if r.c = true then [chS] else []
/-- The words of a route's line behind the first one. -/
def moreW (r : Rt) : List (List UInt8) := namV r.s.toNat :: itoa r.m :: (lostW r ++ (sideW r ++ endW r))
/-- A route's line. -/
def textR (r : Rt) : List UInt8 := textP r.p ++ (moreW r).flatMap (fun w => 32 :: w)
/-- The state of a name. -/
def sttV (w : List UInt8) : Nat := if w = namV 1 then 1 else if w = namV 2 then 2 else if w = namV 3 then 3 else if w = namV 4 then 4 else 0
theorem sttV_name : ∀ k, 1 ≤ k → k ≤ 4 → sttV (namV k) = k := by
  intro k h1 h4
  have : k = 1 ∨ k = 2 ∨ k = 3 ∨ k = 4 := by omega
  rcases this with rfl | rfl | rfl | rfl <;> decide
theorem sttV_sound {w : List UInt8} (h : sttV w ≠ 0) : namV (sttV w) = w ∧ 1 ≤ sttV w ∧ sttV w ≤ 4 := by
  unfold sttV at h ⊢
  split
  · rename_i e; exact ⟨e.symm, by omega, by omega⟩
  · split
    · rename_i e; exact ⟨e.symm, by omega, by omega⟩
    · split
      · rename_i e; exact ⟨e.symm, by omega, by omega⟩
      · split
        · rename_i e; exact ⟨e.symm, by omega, by omega⟩
        · rename_i h1 h2 h3 h4
          rw [if_neg h1, if_neg h2, if_neg h3, if_neg h4] at h
          exact absurd rfl h
/-- The reader's steps: a route as far as it was read, the words that are left. -/
def readSt : Rt × List (List UInt8) → Option (Rt × List (List UInt8))
  | (r, w :: v :: ws) => if sttV w = 0 then none else match numP v with
    | none => none
    | some m => some ({ r with s := (sttV w : Int), m := m }, ws)
  | _ => none
def readLo : Rt × List (List UInt8) → Option (Rt × List (List UInt8))
  | (r, ws) => if r.s = 3 then (match ws with
    | a :: b :: ws => if a = ofS then (match numP b with
      | none => none
      | some n => some ({ r with l := n }, ws)) else none
    | _ => none) else some (r, ws)
def readBy : Rt × List (List UInt8) → Option (Rt × List (List UInt8))
  | (r, ws) => if r.s = 1 then some (r, ws) else (match ws with
    | a :: b :: c :: d :: e :: ws => if a = byS then (match numP b with
      | none => none
      | some f => match adr c with
        | none => none
        | some x => if d = dueS then (match numP e with
          | none => none
          | some t => some ({ r with f := f, x := x, d := t }, ws)) else none) else none
    | _ => none)
def readEn : Rt × List (List UInt8) → Option Rt
  | (r, []) => some r
  | (r, [a]) => if a = chS then some { r with c := true } else none
  | _ => none
def rt0 (p : PI) : Rt := ⟨p, 0, 0, 0, 0, 0, 0, false⟩
def readAllV (p : PI) (ws : List (List UInt8)) : Option Rt := (readSt (rt0 p, ws)).bind (fun q => (readLo q).bind (fun q => (readBy q).bind readEn))
/-- What view.Parse takes of a line's words. -/
def parseW : List (List UInt8) → Option Rt
  | [] => none
  | w :: ws => match pxP w with
    | none => none
    | some p => match readAllV p ws with
      | none => none
      | some r => if rightB r = true then some r else none
def parseV (s : List UInt8) : Option Rt := if 11 < (parted 32 s).length then none else parseW (parted 32 s)

theorem readSt_sound {r r' : Rt} {ws ws' : List (List UInt8)} (h : readSt (r, ws) = some (r', ws')) : ∃ k m, 1 ≤ k ∧ k ≤ 4 ∧ r' = { r with s := ((k : Nat) : Int), m := m } ∧ ws = namV k :: itoa m :: ws' := by
  match ws, h with
  | [], h => simp [readSt] at h
  | [_], h => simp [readSt] at h
  | w :: v :: ws, h =>
    rw [readSt] at h
    split at h
    · cases h
    · rename_i h0
      split at h
      · cases h
      · rename_i m hm
        injection h with h
        injection h with h1 h2
        obtain ⟨a, b, c⟩ := sttV_sound h0
        obtain ⟨d, _⟩ := numP_sound hm
        exact ⟨sttV w, m, b, c, h1.symm, by rw [a, d, h2]⟩
theorem readLo_sound {r r' : Rt} {ws ws' : List (List UInt8)} (h : readLo (r, ws) = some (r', ws')) : (r.s = 3 ∧ ∃ n, r' = { r with l := n } ∧ ws = ofS :: itoa n :: ws') ∨ (r.s ≠ 3 ∧ r' = r ∧ ws' = ws) := by
  unfold readLo at h
  simp only at h
  split at h
  · rename_i h3
    left
    refine ⟨h3, ?_⟩
    split at h
    · split at h
      · split at h
        · cases h
        · rename_i a b ws2 ha _ n hn
          injection h with h
          injection h with h1 h2
          obtain ⟨d, _⟩ := numP_sound hn
          exact ⟨n, h1.symm, by rw [ha, d, h2]⟩
      · cases h
    · cases h
  · rename_i h3
    injection h with h
    injection h with h1 h2
    exact .inr ⟨h3, h1.symm, h2.symm⟩
theorem readBy_sound {r r' : Rt} {ws ws' : List (List UInt8)} (h : readBy (r, ws) = some (r', ws')) : (r.s = 1 ∧ r' = r ∧ ws' = ws) ∨ (r.s ≠ 1 ∧ ∃ f x d, r' = { r with f := f, x := x, d := d } ∧ x < 4294967296 ∧ ws = byS :: itoa f :: textA x :: dueS :: itoa d :: ws') := by
  unfold readBy at h
  simp only at h
  split at h
  · rename_i h1
    injection h with h
    injection h with h2 h3
    exact .inl ⟨h1, h2.symm, h3.symm⟩
  · rename_i h1
    right
    refine ⟨h1, ?_⟩
    split at h
    · split at h
      · split at h
        · cases h
        · split at h
          · cases h
          · split at h
            · split at h
              · cases h
              · rename_i a b c d e ws2 ha _ f hf _ x hx hd _ t ht
                injection h with h
                injection h with h2 h3
                obtain ⟨q1, _⟩ := numP_sound hf
                obtain ⟨q2, _⟩ := numP_sound ht
                obtain ⟨q3, q4⟩ := adr_sound hx
                exact ⟨f, x, t, h2.symm, q3, by rw [ha, hd, q1, q2, ← q4, h3]⟩
            · cases h
      · cases h
    · cases h
theorem readEn_sound {r r' : Rt} {ws : List (List UInt8)} (h : readEn (r, ws) = some r') : (ws = [] ∧ r' = r) ∨ (ws = [chS] ∧ r' = { r with c := true }) := by
  match ws, h with
  | [], h => rw [readEn] at h; injection h with h; exact .inl ⟨rfl, h.symm⟩
  | [a], h =>
    rw [readEn] at h
    split at h
    · rename_i ha
      injection h with h
      exact .inr ⟨by rw [ha], h.symm⟩
    · cases h
  | _ :: _ :: _, h => simp [readEn] at h
theorem readAllV_sound {p : PI} {ws : List (List UInt8)} {r : Rt} (h : readAllV p ws = some r) : r.p = p ∧ ws = moreW r ∧ 1 ≤ r.s ∧ r.s ≤ 4 ∧ r.x < 4294967296 := by
  unfold readAllV at h
  cases h1 : readSt (rt0 p, ws) with
  | none => rw [h1] at h; cases h
  | some q1 =>
    obtain ⟨r1, ws1⟩ := q1
    rw [h1, Option.bind_some] at h
    cases h2 : readLo (r1, ws1) with
    | none => rw [h2] at h; cases h
    | some q2 =>
      obtain ⟨r2, ws2⟩ := q2
      rw [h2, Option.bind_some] at h
      cases h3 : readBy (r2, ws2) with
      | none => rw [h3] at h; cases h
      | some q3 =>
        obtain ⟨r3, ws3⟩ := q3
        rw [h3, Option.bind_some] at h
        obtain ⟨k, m, k1, k4, e1, e2⟩ := readSt_sound h1
        have hL := readLo_sound h2
        have hB := readBy_sound h3
        have hE := readEn_sound h
        subst e1
        have hs : (((k : Nat) : Int)).toNat = k := by omega
        rcases hL with ⟨l1, n, l2, l3⟩ | ⟨l1, l2, l3⟩
        · subst l2
          simp only [rt0] at l1
          obtain rfl : k = 3 := by omega
          rcases hB with ⟨b1, b2, b3⟩ | ⟨b1, f, x, d, b2, b3, b4⟩
          · simp only [rt0] at b1; omega
          · subst b2
            rcases hE with ⟨c1, c2⟩ | ⟨c1, c2⟩
            · subst c2
              refine ⟨rfl, ?_, by simp, by simp, b3⟩
              rw [e2, l3, b4, c1]
              rfl
            · subst c2
              refine ⟨rfl, ?_, by simp, by simp, b3⟩
              rw [e2, l3, b4, c1]
              rfl
        · subst l2 l3
          simp only [rt0] at l1
          have l1' : k ≠ 3 := by omega
          rcases hB with ⟨b1, b2, b3⟩ | ⟨b1, f, x, d, b2, b3, b4⟩
          · simp only [rt0] at b1
            obtain rfl : k = 1 := by omega
            subst b2 b3
            rcases hE with ⟨c1, c2⟩ | ⟨c1, c2⟩
            · subst c2
              refine ⟨rfl, ?_, by simp [rt0], by simp [rt0], by simp [rt0]⟩
              rw [e2, c1]
              rfl
            · subst c2
              refine ⟨rfl, ?_, by simp [rt0], by simp [rt0], by simp [rt0]⟩
              rw [e2, c1]
              rfl
          · simp only [rt0] at b1
            have b1' : k ≠ 1 := by omega
            subst b2
            have hk : k = 2 ∨ k = 4 := by omega
            rcases hE with ⟨c1, c2⟩ | ⟨c1, c2⟩
            · subst c2
              refine ⟨rfl, ?_, by simp only; omega, by simp only; omega, b3⟩
              rw [e2, b4, c1]
              rcases hk with rfl | rfl <;> rfl
            · subst c2
              refine ⟨rfl, ?_, by simp only; omega, by simp only; omega, b3⟩
              rw [e2, b4, c1]
              rcases hk with rfl | rfl <;> rfl
theorem parseV_sound {s : List UInt8} {r : Rt} (h : parseV s = some r) : rightB r = true ∧ 1 ≤ r.s ∧ r.p.a < 4294967296 ∧ r.x < 4294967296 ∧ textR r = s := by
  unfold parseV at h
  split at h
  · cases h
  · have hj := parted_join 32 s
    cases hp : parted 32 s with
    | nil => exact absurd hp (parted_ne _ _)
    | cons w ws =>
      rw [hp] at h hj
      rw [parseW] at h
      split at h
      · cases h
      · rename_i p hpx
        split at h
        · cases h
        · rename_i r2 hr
          split at h
          · rename_i hrb
            injection h with h
            subst h
            obtain ⟨a, b, c, d, e⟩ := readAllV_sound hr
            obtain ⟨x1, x2, x3⟩ := pxP_sound hpx
            refine ⟨hrb, c, by rw [a]; exact x3, e, ?_⟩
            rw [textR, a, ← x1, ← b]
            simpa using hj
          · cases h
end Go.Proofs.YtbfimimhgdkpaaaGreatDoor

/- Routes' lines read by the reference as by the program: no program in sight. -/
namespace Go.Proofs.YtbfimimhgdkpaaaGreatDoor
open Go.Lib

theorem right_parts {r : Rt} (h : rightB r = true) (h0 : r.s ≠ 0) : r.p.okB = true ∧
    ((r.s = 1 ∧ r.m = 1 ∧ r.l = 0 ∧ r.f = 0 ∧ r.x = 0 ∧ r.d = 0) ∨ ((r.s = 2 ∧ 2 ≤ r.m ∧ r.m ≤ 15 ∧ r.l = 0 ∨ r.s = 3 ∧ r.m = 16 ∧ 2 ≤ r.l ∧ r.l ≤ 15 ∨ r.s = 4 ∧ r.m = 16 ∧ r.l = 0) ∧ 0 ≤ r.f ∧ r.f ≤ 15 ∧ 0 ≤ r.d ∧ r.d ≤ 4611686018427387904)) := by
  unfold rightB at h
  rw [Bool.and_eq_true] at h
  obtain ⟨hs, ht⟩ := h
  unfold toldB at ht
  rw [Bool.and_eq_true] at ht
  refine ⟨ht.1, ?_⟩
  unfold stateB at hs
  rw [if_neg h0] at hs
  split at hs
  · rename_i h1
    simp only [hasB, nowB, Bool.and_eq_true, beq_iff_eq] at hs
    omega
  · split at hs
    · rename_i h2
      simp only [hasB, someB, mayB, withB, Bool.and_eq_true, Bool.not_eq_true', decide_eq_false_iff_not, beq_iff_eq] at hs
      omega
    · split at hs
      · rename_i h3
        simp only [hasB, someB, mayB, withB, Bool.and_eq_true, Bool.not_eq_true', decide_eq_false_iff_not, beq_iff_eq] at hs
        omega
      · split at hs
        · rename_i h4
          simp only [hasB, someB, mayB, withB, Bool.and_eq_true, Bool.not_eq_true', decide_eq_false_iff_not, beq_iff_eq] at hs
          omega
        · cases hs
theorem readAllV_whole {r : Rt} (h : rightB r = true) (h0 : r.s ≠ 0) (hx : r.x < 4294967296) : readAllV r.p (moreW r) = some r := by
  obtain ⟨_, hc⟩ := right_parts h h0
  clear h
  obtain ⟨p, s, m, l, f, x, d, c⟩ := r
  simp only at hc hx h0
  have nf : ∀ n : Int, -9223372036854775808 ≤ n → n ≤ 9223372036854775807 → numP (itoa n) = some n := fun n a b => numP_itoa a b
  have hen : ∀ r : Rt, readEn (r, if c = true then [chS] else []) = some (if c = true then { r with c := true } else r) := by
    intro r
    cases c
    · rfl
    · rfl
  rcases hc with ⟨rfl, rfl, rfl, rfl, rfl, rfl⟩ | ⟨hs, f0, f1, d0, d1⟩
  · have e1 : readSt (rt0 p, moreW ⟨p, 1, 1, 0, 0, 0, 0, c⟩) = some (⟨p, 1, 1, 0, 0, 0, 0, false⟩, if c = true then [chS] else []) := by
      show readSt (rt0 p, namV 1 :: itoa 1 :: _) = _
      rw [readSt, if_neg (by decide), nf 1 (by decide) (by decide)]
      rfl
    rw [readAllV, e1]
    show (readEn (_, if c = true then [chS] else [])) = _
    rw [hen]
    cases c <;> rfl
  · have nm := nf m (by omega) (by omega)
    have nl := nf l (by omega) (by omega)
    have nff := nf f (by omega) (by omega)
    have nd := nf d (by omega) (by omega)
    have hby : ∀ (k : Nat) (m l : Int), (k : Int) ≠ 1 → readBy (⟨p, k, m, l, 0, 0, 0, false⟩, [byS, itoa f, textA x, dueS, itoa d] ++ (if c = true then [chS] else [])) = some (⟨p, k, m, l, f, x, d, false⟩, if c = true then [chS] else []) := by
      intro k m l hk
      unfold readBy
      simp only [List.cons_append, List.nil_append]
      rw [if_neg hk, if_pos trivial, nff, adr_whole hx]
      simp only
      rw [if_pos trivial, nd]
    rcases hs with ⟨rfl, _, _, rfl⟩ | ⟨rfl, _, _, _⟩ | ⟨rfl, _, rfl⟩
    · have e1 : readSt (rt0 p, moreW ⟨p, 2, m, 0, f, x, d, c⟩) = some (⟨p, 2, m, 0, 0, 0, 0, false⟩, [byS, itoa f, textA x, dueS, itoa d] ++ (if c = true then [chS] else [])) := by
        show readSt (rt0 p, namV 2 :: itoa m :: _) = _
        rw [readSt, if_neg (by decide), nm]
        rfl
      rw [readAllV, e1]
      show ((readBy (⟨p, (2 : Nat), m, 0, 0, 0, 0, false⟩, _)).bind readEn) = _
      rw [hby 2 m 0 (by decide)]
      show readEn _ = _
      rw [hen]
      cases c <;> rfl
    · have e1 : readSt (rt0 p, moreW ⟨p, 3, m, l, f, x, d, c⟩) = some (⟨p, 3, m, 0, 0, 0, 0, false⟩, ofS :: itoa l :: ([byS, itoa f, textA x, dueS, itoa d] ++ (if c = true then [chS] else []))) := by
        show readSt (rt0 p, namV 3 :: itoa m :: _) = _
        rw [readSt, if_neg (by decide), nm]
        rfl
      have e2 : readLo (⟨p, 3, m, 0, 0, 0, 0, false⟩, ofS :: itoa l :: ([byS, itoa f, textA x, dueS, itoa d] ++ (if c = true then [chS] else []))) = some (⟨p, 3, m, l, 0, 0, 0, false⟩, [byS, itoa f, textA x, dueS, itoa d] ++ (if c = true then [chS] else [])) := by
        unfold readLo
        simp only
        rw [if_pos trivial, if_pos trivial, nl]
      rw [readAllV, e1, Option.bind_some, e2, Option.bind_some]
      show ((readBy (⟨p, (3 : Nat), m, l, 0, 0, 0, false⟩, _)).bind readEn) = _
      rw [hby 3 m l (by decide)]
      show readEn _ = _
      rw [hen]
      cases c <;> rfl
    · have e1 : readSt (rt0 p, moreW ⟨p, 4, m, 0, f, x, d, c⟩) = some (⟨p, 4, m, 0, 0, 0, 0, false⟩, [byS, itoa f, textA x, dueS, itoa d] ++ (if c = true then [chS] else [])) := by
        show readSt (rt0 p, namV 4 :: itoa m :: _) = _
        rw [readSt, if_neg (by decide), nm]
        rfl
      rw [readAllV, e1]
      show ((readBy (⟨p, (4 : Nat), m, 0, 0, 0, 0, false⟩, _)).bind readEn) = _
      rw [hby 4 m 0 (by decide)]
      show readEn _ = _
      rw [hen]
      cases c <;> rfl
theorem namV_ne (k : Nat) : ∀ c ∈ namV k, c ≠ 32 := by
  intro c hc
  unfold namV at hc
  split at hc <;> first | (revert c; decide) | (simp at hc)
theorem textP_ne (p : PI) : ∀ c ∈ textP p, c ≠ 32 := by
  intro c hc
  unfold textP at hc
  rw [List.mem_append, List.mem_cons] at hc
  rcases hc with hc | rfl | hc
  · exact textA_ne _ c hc
  · decide
  · exact itoa_ne _ c hc
theorem moreW_ne (r : Rt) : ∀ w ∈ moreW r, ∀ c ∈ w, c ≠ 32 := by
  intro w hw
  unfold moreW lostW sideW endW at hw
  simp only [List.mem_cons, List.mem_append] at hw
  rcases hw with rfl | rfl | hw | hw | hw
  · exact namV_ne _
  · exact itoa_ne _
  · split at hw
    · simp only [List.mem_cons, List.not_mem_nil, or_false] at hw
      rcases hw with rfl | rfl
      · unfold ofS; decide
      · exact itoa_ne _
    · simp at hw
  · split at hw
    · simp at hw
    · simp only [List.mem_cons, List.not_mem_nil, or_false] at hw
      rcases hw with rfl | rfl | rfl | rfl | rfl
      · unfold byS; decide
      · exact itoa_ne _
      · exact textA_ne _
      · unfold dueS; decide
      · exact itoa_ne _
  · split at hw
    · simp only [List.mem_cons, List.not_mem_nil, or_false] at hw
      subst hw
      unfold chS; decide
    · simp at hw
theorem textR_parted (r : Rt) : parted 32 (textR r) = textP r.p :: moreW r := parted_words _ _ (textP_ne _) (moreW_ne r)
theorem moreW_len (r : Rt) : (moreW r).length ≤ 10 := by
  unfold moreW lostW sideW endW
  simp only [List.length_cons, List.length_append]
  split <;> split <;> split <;> simp
theorem parseV_whole {r : Rt} (h : rightB r = true) (h0 : r.s ≠ 0) (ha : r.p.a < 4294967296) (hx : r.x < 4294967296) : parseV (textR r) = some r := by
  have hl := moreW_len r
  unfold parseV
  rw [textR_parted, if_neg (by simp only [List.length_cons]; omega), parseW, pxP_whole (right_parts h h0).1 ha]
  simp only
  rw [readAllV_whole h h0 hx]
  simp only
  rw [if_pos h]

/-- The reference's numbers. -/
def numVw (s : List UInt8) : Int :=
  if s = [] ∨ 19 < s.length ∨ (1 < s.length ∧ s.head? = some 48) then -1 else match decFrom 0 s with
    | none => -1
    | some n => if 4611686018427387904 < n then -1 else (n : Int)
theorem numVw_itoa {n : Int} (h0 : 0 ≤ n) (h1 : n ≤ 4611686018427387904) : numVw (itoa n) = n := by
  obtain ⟨u, rfl⟩ : ∃ u : Nat, n = (u : Int) := ⟨n.toNat, by omega⟩
  rw [itoa_nonneg]
  unfold numVw
  rw [if_neg, digits_val]
  · simp only
    rw [if_neg (by omega)]
  · rintro (h | h | ⟨h, h2⟩)
    · exact digits_ne u h
    · have := digits_len (k := 19) (by decide) u (by omega); omega
    · have := digits_head u h2
      subst this
      rw [dec_one (by decide)] at h
      simp at h
/-- The reference's prefix of a text. -/
def rpxP (s : List UInt8) : Option PI :=
  if (headR s 4 0 0).2.2 = true then ((List.range 33).find? (fun n => decide (s.drop (headR s 4 0 0).2.1 = 47 :: decDigits n) && (PI.mk (headR s 4 0 0).1 (n : Int)).okB)).map (fun n => ⟨(headR s 4 0 0).1, (n : Int)⟩) else none
theorem numR_far2 {most n many : Nat} {l : List UInt8} (h : l.head? = some 47) : numR most n many l = (n, many) := by
  cases l with
  | nil => rfl
  | cons c l =>
    injection h with h
    subst h
    simp only [numR]
    rw [if_neg (by decide)]
theorem numR_whole2 {most : Nat} {rest : List UInt8} (hrest : rest.head? = some 47) : ∀ (p : Nat), p ≤ most → numR most 0 0 (decDigits p ++ rest) = (p, (decDigits p).length) := by
  have key : ∀ (p : Nat) (tl : List UInt8), p ≤ most → numR most 0 0 (decDigits p ++ tl) = numR most p (decDigits p).length tl := by
    intro p
    induction p using Nat.strongRecOn with
    | _ p ih =>
      intro tl hp
      by_cases h : p < 10
      · rw [dec_one h]
        have e : (UInt8.ofNat (48 + p)).toNat = 48 + p := by simp; omega
        simp only [List.cons_append, List.nil_append, numR]
        rw [e, if_pos (by omega), if_neg (by omega), show 10 * 0 + (48 + p - 48) = p by omega]
        rfl
      · have e : (UInt8.ofNat (48 + p % 10)).toNat = 48 + p % 10 := by simp; omega
        rw [decDigits, dif_neg h, List.append_assoc, ih (p / 10) (by omega) _ (by omega)]
        simp only [List.cons_append, List.nil_append, numR]
        rw [e, if_pos (by omega), if_neg (by omega), show 10 * (p / 10) + (48 + p % 10 - 48) = p by omega, List.length_append]
        rfl
  intro p hp
  rw [key p rest hp, numR_far2 hrest]
theorem headR_step2 (l : List UInt8) (i at_ n : Nat) (hi : i < 3) (p : Nat) (hp : p ≤ 255) (rest : List UInt8) (hr : rest.head? = some 47) (hl : l.drop at_ = 46 :: (decDigits p ++ rest)) :
    headR l (i + 1) at_ n = headR l i (at_ + 1 + (decDigits p).length) (256 * n + p) ∧ l.drop (at_ + 1 + (decDigits p).length) = rest := by
  have hlt : at_ < l.length := by
    rcases Nat.lt_or_ge at_ l.length with h | h
    · exact h
    · rw [List.drop_eq_nil_of_le h] at hl; cases hl
  have hc := List.drop_eq_getElem_cons hlt
  rw [hl] at hc
  injection hc with hc1 hc2
  have step : headR l (i + 1) at_ n = if l.getD at_ 0 = 46 ∧ at_ < l.length then (if (numR 255 0 0 (l.drop (at_ + 1))).2 = 0 then (0, at_ + 1, false) else headR l i (at_ + 1 + (numR 255 0 0 (l.drop (at_ + 1))).2) (256 * n + (numR 255 0 0 (l.drop (at_ + 1))).1)) else (0, at_, false) := by
    rcases i with _ | _ | _ | i
    · rfl
    · rfl
    · rfl
    · omega
  have hd0 : (decDigits p).length ≠ 0 := fun e => digits_ne p (List.length_eq_zero_iff.1 e)
  rw [step, if_pos ⟨by rw [List.getD_eq_getElem?_getD, List.getElem?_eq_getElem hlt, ← hc1]; rfl, hlt⟩, ← hc2, numR_whole2 hr p hp, if_neg hd0]
  refine ⟨rfl, ?_⟩
  have e3 : l.drop (at_ + 1 + (decDigits p).length) = (l.drop (at_ + 1)).drop (decDigits p).length := by rw [List.drop_drop]
  rw [e3, ← hc2, List.drop_left']
  rfl
theorem headR_whole {a : Nat} (h : a < 4294967296) (tl : List UInt8) : headR (textA a ++ 47 :: tl) 4 0 0 = (a, (textA a).length, true) := by
  obtain ⟨l, hl⟩ : ∃ l, textA a ++ 47 :: tl = l := ⟨_, rfl⟩
  have el : l = decDigits (a / 16777216) ++ 46 :: (decDigits (a / 65536 % 256) ++ 46 :: (decDigits (a / 256 % 256) ++ 46 :: (decDigits (a % 256) ++ 47 :: tl))) := by
    rw [← hl]; simp [textA]
  rw [hl]
  have hd0 : (decDigits (a / 16777216)).length ≠ 0 := fun e => digits_ne _ (List.length_eq_zero_iff.1 e)
  have step : headR l 4 0 0 = headR l 3 (decDigits (a / 16777216)).length (a / 16777216) := by
    have s : headR l 4 0 0 = if (numR 255 0 0 (l.drop 0)).2 = 0 then (0, 0, false) else headR l 3 (0 + (numR 255 0 0 (l.drop 0)).2) (256 * 0 + (numR 255 0 0 (l.drop 0)).1) := rfl
    rw [s, List.drop_zero]
    rw [show numR 255 0 0 l = _ from by rw [el, numR_whole (.inr rfl) _ (by omega)], if_neg hd0]
    simp
  have d0 : l.drop (decDigits (a / 16777216)).length = 46 :: (decDigits (a / 65536 % 256) ++ 46 :: (decDigits (a / 256 % 256) ++ 46 :: (decDigits (a % 256) ++ 47 :: tl))) := by
    rw [el, List.drop_left']; rfl
  obtain ⟨s1, d1⟩ := headR_step l 2 _ (a / 16777216) (by omega) _ (by omega) _ (.inr rfl) d0
  obtain ⟨s2, d2⟩ := headR_step l 1 _ (256 * (a / 16777216) + a / 65536 % 256) (by omega) _ (by omega) _ (.inr rfl) d1
  obtain ⟨s3, d3⟩ := headR_step2 l 0 _ (256 * (256 * (a / 16777216) + a / 65536 % 256) + a / 256 % 256) (by omega) (a % 256) (by omega) (47 :: tl) rfl d2
  rw [step, s1, s2, s3]
  have hlen : (textA a).length = (decDigits (a / 16777216)).length + 1 + (decDigits (a / 65536 % 256)).length + 1 + (decDigits (a / 256 % 256)).length + 1 + (decDigits (a % 256)).length := by
    simp only [textA, List.length_append, List.length_cons]; omega
  rw [hlen]
  show (256 * (256 * (256 * (a / 16777216) + a / 65536 % 256) + a / 256 % 256) + a % 256, _, true) = _
  rw [show 256 * (256 * (256 * (a / 16777216) + a / 65536 % 256) + a / 256 % 256) + a % 256 = a by omega]
theorem headR_lt {l : List UInt8} (h : (headR l 4 0 0).2.2 = true) : (headR l 4 0 0).1 < 4294967296 := by
  have one : ∀ (i at_ n : Nat), i < 3 → (headR l (i + 1) at_ n).2.2 = true → ∃ p k, p ≤ 255 ∧ headR l (i + 1) at_ n = headR l i k (256 * n + p) := by
    intro i at_ n hi ht
    have step : headR l (i + 1) at_ n = if l.getD at_ 0 = 46 ∧ at_ < l.length then (if (numR 255 0 0 (l.drop (at_ + 1))).2 = 0 then (0, at_ + 1, false) else headR l i (at_ + 1 + (numR 255 0 0 (l.drop (at_ + 1))).2) (256 * n + (numR 255 0 0 (l.drop (at_ + 1))).1)) else (0, at_, false) := by
      rcases i with _ | _ | _ | i
      · rfl
      · rfl
      · rfl
      · omega
    rw [step] at ht ⊢
    split at ht
    · rename_i hd
      rw [if_pos hd]
      split at ht
      · cases ht
      · rename_i h0
        rw [if_neg h0]
        obtain ⟨b1, b2, b3⟩ := numR_at rfl h0
        exact ⟨_, _, b2, rfl⟩
    · cases ht
  have step : headR l 4 0 0 = if (numR 255 0 0 (l.drop 0)).2 = 0 then (0, 0, false) else headR l 3 (0 + (numR 255 0 0 (l.drop 0)).2) (256 * 0 + (numR 255 0 0 (l.drop 0)).1) := rfl
  rw [step] at h ⊢
  split at h
  · cases h
  · rename_i h0
    rw [if_neg h0]
    obtain ⟨b1, b2, b3⟩ := numR_at rfl h0
    obtain ⟨p, k, hp, e⟩ := one 2 _ _ (by omega) h
    rw [e] at h ⊢
    obtain ⟨q, k2, hq, e2⟩ := one 1 _ _ (by omega) h
    rw [e2] at h ⊢
    obtain ⟨t, k3, ht, e3⟩ := one 0 _ _ (by omega) h
    rw [e3]
    show 256 * (256 * (256 * (256 * 0 + (numR 255 0 0 (l.drop 0)).1) + p) + q) + t < 4294967296
    omega
theorem rpxP_lt {s : List UInt8} {p : PI} (h : rpxP s = some p) : p.a < 4294967296 := by
  unfold rpxP at h
  split at h
  · rename_i hh
    have := headR_lt hh
    rw [Option.map_eq_some_iff] at h
    obtain ⟨n, _, rfl⟩ := h
    exact this
  · cases h
theorem rpxP_whole {p : PI} (h : p.okB = true) (ha : p.a < 4294967296) : rpxP (textP p) = some p := by
  obtain ⟨h0, h32⟩ := okB_range h
  obtain ⟨n, hn⟩ : ∃ n : Nat, p.l = (n : Int) := ⟨p.l.toNat, by omega⟩
  obtain ⟨a, l⟩ := p
  simp only at hn ha h0 h32
  subst hn
  unfold rpxP textP
  simp only
  rw [headR_whole ha, if_pos rfl]
  simp only
  rw [List.drop_left', itoa_nonneg]
  · have hf : (List.range 33).find? (fun m => decide (47 :: decDigits n = 47 :: decDigits m) && (PI.mk a (m : Int)).okB) = some n := by
      rw [List.find?_range_eq_some]
      refine ⟨by simp [h], by rw [List.mem_range]; omega, fun j hj => ?_⟩
      have : decDigits n ≠ decDigits j := fun e => by
        have h1 := digits_val n
        rw [e, digits_val] at h1
        injection h1 with h1
        omega
      simp [this]
    rw [hf]
    rfl
  · rfl
/-- The last word says that it has changed. -/
def lastC (w : List (List UInt8)) : Bool := decide (3 < w.length) && decide (w.getD (w.length - 1) [] = chS)
def cutC (w : List (List UInt8)) : List (List UInt8) := if lastC w = true then w.take (w.length - 1) else w
def finV (r : Rt) (s : List UInt8) : Option Rt := if rightB r = true ∧ 0 < r.s ∧ textR r = s then some r else none
/-- The reference's route of a line. -/
def refW (c : Bool) (w : List (List UInt8)) (s : List UInt8) : Option Rt :=
  if w.length < 3 then none else match rpxP (w.getD 0 []) with
    | none => none
    | some p =>
      if sttV (w.getD 1 []) = 3 ∧ 4 < w.length then
        (if w.length ≠ 10 then none else finV ⟨p, 3, numVw (w.getD 2 []), numVw (w.getD 4 []), numVw (w.getD 6 []), (adrR (w.getD 7 [])).getD 0, numVw (w.getD 9 []), c⟩ s)
      else if 1 < sttV (w.getD 1 []) then
        (if w.length ≠ 8 then none else finV ⟨p, (sttV (w.getD 1 []) : Nat), numVw (w.getD 2 []), 0, numVw (w.getD 4 []), (adrR (w.getD 5 [])).getD 0, numVw (w.getD 7 []), c⟩ s)
      else finV ⟨p, (sttV (w.getD 1 []) : Nat), numVw (w.getD 2 []), 0, 0, 0, 0, c⟩ s
def refV (s : List UInt8) : Option Rt := refW (lastC (parted 32 s)) (cutC (parted 32 s)) s
theorem finV_some {r r' : Rt} {s : List UInt8} (h : finV r s = some r') : r = r' ∧ rightB r' = true ∧ 0 < r'.s ∧ textR r' = s := by
  unfold finV at h
  split at h
  · rename_i hc
    injection h with h
    subst h
    exact ⟨rfl, hc⟩
  · cases h
theorem adrR_lt (l : List UInt8) : (adrR l).getD 0 < 4294967296 := by
  cases h : adrR l with
  | none => decide
  | some a => exact (adrR_sound h).1
theorem refV_sound {s : List UInt8} {r : Rt} (h : refV s = some r) : rightB r = true ∧ 0 < r.s ∧ textR r = s ∧ r.p.a < 4294967296 ∧ r.x < 4294967296 := by
  unfold refV refW at h
  split at h
  · cases h
  · split at h
    · cases h
    · rename_i p hp
      have hlt := rpxP_lt hp
      split at h
      · split at h
        · cases h
        · obtain ⟨e, a, b, c⟩ := finV_some h
          subst e
          exact ⟨a, b, c, hlt, adrR_lt _⟩
      · split at h
        · split at h
          · cases h
          · obtain ⟨e, a, b, c⟩ := finV_some h
            subst e
            exact ⟨a, b, c, hlt, adrR_lt _⟩
        · obtain ⟨e, a, b, c⟩ := finV_some h
          subst e
          exact ⟨a, b, c, hlt, by simp only; omega⟩
theorem itoa_last {n : Int} (h : 0 ≤ n) : itoa n ≠ chS := by
  intro e
  obtain ⟨u, rfl⟩ : ∃ u : Nat, n = (u : Int) := ⟨n.toNat, by omega⟩
  rw [itoa_nonneg] at e
  have := digits_all u 99 (by rw [e]; decide)
  revert this
  decide
theorem refV_whole {r : Rt} (h : rightB r = true) (h0 : r.s ≠ 0) (ha : r.p.a < 4294967296) (hx : r.x < 4294967296) : refV (textR r) = some r := by
  have hfin : 0 < r.s → finV r (textR r) = some r := fun h1 => by unfold finV; rw [if_pos ⟨h, h1, rfl⟩]
  obtain ⟨hok, hc⟩ := right_parts h h0
  have hpx := rpxP_whole hok ha
  have hadr := adrR_whole hx
  have nf : ∀ n : Int, 0 ≤ n → n ≤ 4611686018427387904 → numVw (itoa n) = n := fun n a b => numVw_itoa a b
  unfold refV
  rw [textR_parted]
  clear h
  obtain ⟨p, s, m, l, f, x, d, c⟩ := r
  simp only at hc hx h0 hfin hpx hadr hok ha ⊢
  rcases hc with ⟨rfl, rfl, rfl, rfl, rfl, rfl⟩ | ⟨hs, f0, f1, d0, d1⟩
  · have hm : moreW ⟨p, 1, 1, 0, 0, 0, 0, c⟩ = namV 1 :: itoa 1 :: (if c = true then [chS] else []) := by cases c <;> rfl
    have hw : lastC (textP p :: moreW ⟨p, 1, 1, 0, 0, 0, 0, c⟩) = c ∧ cutC (textP p :: moreW ⟨p, 1, 1, 0, 0, 0, 0, c⟩) = [textP p, namV 1, itoa 1] := by
      rw [hm]
      cases c
      · exact ⟨rfl, rfl⟩
      · exact ⟨rfl, rfl⟩
    rw [hw.1, hw.2]
    unfold refW
    simp only [List.getD_cons_zero, List.getD_cons_succ, List.length_cons, List.length_nil]
    rw [if_neg (by decide), hpx]
    simp only
    rw [if_neg (by decide), if_neg (by decide), nf 1 (by decide) (by decide)]
    exact hfin (by decide)
  · have nd := nf d (by omega) (by omega)
    have nff := nf f (by omega) (by omega)
    have nm := nf m (by omega) (by omega)
    have nl := nf l (by omega) (by omega)
    have hld := itoa_last d0
    rcases hs with ⟨rfl, _, _, rfl⟩ | ⟨rfl, _, _, _⟩ | ⟨rfl, _, rfl⟩
    · have hm : moreW ⟨p, 2, m, 0, f, x, d, c⟩ = namV 2 :: itoa m :: byS :: itoa f :: textA x :: dueS :: itoa d :: (if c = true then [chS] else []) := by cases c <;> rfl
      have hw : lastC (textP p :: moreW ⟨p, 2, m, 0, f, x, d, c⟩) = c ∧ cutC (textP p :: moreW ⟨p, 2, m, 0, f, x, d, c⟩) = [textP p, namV 2, itoa m, byS, itoa f, textA x, dueS, itoa d] := by
        rw [hm]
        cases c
        · have : lastC (textP p :: namV 2 :: itoa m :: byS :: itoa f :: textA x :: dueS :: itoa d :: (if false = true then [chS] else [])) = false := by
            unfold lastC
            show (true && decide (itoa d = chS)) = false
            simp [hld]
          refine ⟨this, ?_⟩
          unfold cutC
          rw [this]
          rfl
        · exact ⟨rfl, rfl⟩
      rw [hw.1, hw.2]
      unfold refW
      simp only [List.getD_cons_zero, List.getD_cons_succ, List.length_cons, List.length_nil]
      rw [if_neg (by decide), hpx]
      simp only
      rw [if_neg (by decide), if_pos (by decide), if_neg (by decide), nm, nff, nd, hadr]
      exact hfin (by decide)
    · have hm : moreW ⟨p, 3, m, l, f, x, d, c⟩ = namV 3 :: itoa m :: ofS :: itoa l :: byS :: itoa f :: textA x :: dueS :: itoa d :: (if c = true then [chS] else []) := by cases c <;> rfl
      have hw : lastC (textP p :: moreW ⟨p, 3, m, l, f, x, d, c⟩) = c ∧ cutC (textP p :: moreW ⟨p, 3, m, l, f, x, d, c⟩) = [textP p, namV 3, itoa m, ofS, itoa l, byS, itoa f, textA x, dueS, itoa d] := by
        rw [hm]
        cases c
        · have : lastC (textP p :: namV 3 :: itoa m :: ofS :: itoa l :: byS :: itoa f :: textA x :: dueS :: itoa d :: (if false = true then [chS] else [])) = false := by
            unfold lastC
            show (true && decide (itoa d = chS)) = false
            simp [hld]
          refine ⟨this, ?_⟩
          unfold cutC
          rw [this]
          rfl
        · exact ⟨rfl, rfl⟩
      rw [hw.1, hw.2]
      unfold refW
      simp only [List.getD_cons_zero, List.getD_cons_succ, List.length_cons, List.length_nil]
      rw [if_neg (by decide), hpx]
      simp only
      rw [if_pos (by decide), if_neg (by decide), nm, nl, nff, nd, hadr]
      exact hfin (by decide)
    · have hm : moreW ⟨p, 4, m, 0, f, x, d, c⟩ = namV 4 :: itoa m :: byS :: itoa f :: textA x :: dueS :: itoa d :: (if c = true then [chS] else []) := by cases c <;> rfl
      have hw : lastC (textP p :: moreW ⟨p, 4, m, 0, f, x, d, c⟩) = c ∧ cutC (textP p :: moreW ⟨p, 4, m, 0, f, x, d, c⟩) = [textP p, namV 4, itoa m, byS, itoa f, textA x, dueS, itoa d] := by
        rw [hm]
        cases c
        · have : lastC (textP p :: namV 4 :: itoa m :: byS :: itoa f :: textA x :: dueS :: itoa d :: (if false = true then [chS] else [])) = false := by
            unfold lastC
            show (true && decide (itoa d = chS)) = false
            simp [hld]
          refine ⟨this, ?_⟩
          unfold cutC
          rw [this]
          rfl
        · exact ⟨rfl, rfl⟩
      rw [hw.1, hw.2]
      unfold refW
      simp only [List.getD_cons_zero, List.getD_cons_succ, List.length_cons, List.length_nil]
      rw [if_neg (by decide), hpx]
      simp only
      rw [if_neg (by decide), if_pos (by decide), if_neg (by decide), nm, nff, nd, hadr]
      exact hfin (by decide)
/-- Both read the same. -/
theorem parse_same (s : List UInt8) : parseV s = refV s := by
  cases h : refV s with
  | some r =>
    obtain ⟨a, b, c, d, e⟩ := refV_sound h
    rw [← c]
    exact parseV_whole a (by omega) d e
  | none =>
    cases h2 : parseV s with
    | none => rfl
    | some r =>
      obtain ⟨a, b, c, d, e⟩ := parseV_sound h2
      rw [← e, refV_whole a (by omega) c d] at h
      cases h
end Go.Proofs.YtbfimimhgdkpaaaGreatDoor

/- Package script: need, the parts of a line (put, tell, read of the simple ones). No condition. -/
namespace Go.Proofs.YtbfimimhgdkpaaaGreatDoor
open Go.RowKit

abbrev faultV (e : Int) : Value := .iface 93 (.agg #[.int .i64 e])
abbrev gaveS (e : Int) : Ending := .panicked [{ v := faultV e, recovered := false }]

theorem need_ok (n : Int) (w : World) : Calls Tryz.prog 45 #[.bool true, .int .i64 n] w fun e w' => e = .returned (.tuple #[]) ∧ w' = w := by
  go_enter Tryz.func45, Tryz.ntmps45
  go_wp2
  go_end0
  exact ⟨rfl, rfl⟩
theorem need_no (n : Int) (w : World) : Calls Tryz.prog 45 #[.bool false, .int .i64 n] w fun e w' => e = gaveS n ∧ w' = w := by
  go_enter Tryz.func45, Tryz.ntmps45
  go_wp2
  exact ⟨rfl, rfl, rfl⟩

def evC (e : Ev) (bv : Value) : Array Value := #[.int .i64 e.kind, .int .i64 e.a, .int .i64 e.b, .int .i64 e.c, .int .i64 e.draw, .int .u32 (e.src : Int), bv]
abbrev evV (e : Ev) (bv : Value) : Value := .agg #[.int .i64 e.kind, .int .i64 e.a, .int .i64 e.b, .int .i64 e.c, .int .i64 e.draw, .int .u32 (e.src : Int), bv]

theorem of_a (b : Nat) (o : Nat) (w : World) : Calls Tryz.prog 87 #[.pointer (some ⟨b, 0, none⟩)] w fun e w' => e = .returned (.pointer (some ⟨b, 1, none⟩)) ∧ w' = w := by
  go_enter Tryz.func87, Tryz.ntmps87
  go_wp2
  go_ret
  exact ⟨rfl, rfl⟩
theorem of_b (b : Nat) (o : Nat) (w : World) : Calls Tryz.prog 88 #[.pointer (some ⟨b, 0, none⟩)] w fun e w' => e = .returned (.pointer (some ⟨b, 2, none⟩)) ∧ w' = w := by
  go_enter Tryz.func88, Tryz.ntmps88
  go_wp2
  go_ret
  exact ⟨rfl, rfl⟩
theorem of_d (b : Nat) (o : Nat) (w : World) : Calls Tryz.prog 90 #[.pointer (some ⟨b, 0, none⟩)] w fun e w' => e = .returned (.pointer (some ⟨b, 4, none⟩)) ∧ w' = w := by
  go_enter Tryz.func90, Tryz.ntmps90
  go_wp2
  go_ret
  exact ⟨rfl, rfl⟩

set_option maxRecDepth 100000 in
set_option maxHeartbeats 400000 in
theorem put_turn (g : Nat) (T : TypeId) (cs : Array Value) (h3 : 3 < cs.size) (f : Ev) (fv : Value) (w : World) (B : Blk w g T cs) :
    Calls Tryz.prog 133 #[.pointer (some ⟨g, 0, none⟩), evV f fv] w fun e w' => e = .returned (.tuple #[]) ∧ Blk w' g T (cs.setIfInBounds 3 (.int .i64 f.c)) ∧ Only [g] w w' := by
  have hg := B.lt
  have hne : ¬ g = w.heap.size := by omega
  have hne2 : ¬ w.heap.size = g := by omega
  have c3 : w.cell? ⟨g, 3, none⟩ = some cs[3] := by rw [B.cell 3, Array.getElem?_eq_getElem h3]
  have f3 := B.frozen 3
  go_enter Tryz.func133, Tryz.ntmps133
  go_wp2
  go_end0
  exact ⟨rfl, (B.set_ 3 _).alloc _, ((Only.refl _ _).setCell (.inl (by simp)) _).alloc _⟩

set_option maxRecDepth 100000 in
set_option maxHeartbeats 400000 in
theorem put_src (g : Nat) (T : TypeId) (cs : Array Value) (h3 : 5 < cs.size) (f : Ev) (fv : Value) (w : World) (B : Blk w g T cs) :
    Calls Tryz.prog 136 #[.pointer (some ⟨g, 0, none⟩), evV f fv] w fun e w' => e = .returned (.tuple #[]) ∧ Blk w' g T (cs.setIfInBounds 5 (.int .u32 (f.src : Int))) ∧ Only [g] w w' := by
  have hg := B.lt
  have hne : ¬ g = w.heap.size := by omega
  have hne2 : ¬ w.heap.size = g := by omega
  have c3 : w.cell? ⟨g, 5, none⟩ = some cs[5] := by rw [B.cell 5, Array.getElem?_eq_getElem h3]
  have f3 := B.frozen 5
  go_enter Tryz.func136, Tryz.ntmps136
  go_wp2
  go_end0
  exact ⟨rfl, (B.set_ 5 _).alloc _, ((Only.refl _ _).setCell (.inl (by simp)) _).alloc _⟩

set_option maxRecDepth 100000 in
set_option maxHeartbeats 400000 in
theorem put_data (g : Nat) (T : TypeId) (cs : Array Value) (h3 : 6 < cs.size) (f : Ev) (A : Option Addr) (n c : Nat) (w : World) (B : Blk w g T cs) :
    Calls Tryz.prog 139 #[.pointer (some ⟨g, 0, none⟩), evV f (.slice A n c)] w fun e w' => e = .returned (.tuple #[]) ∧ Blk w' g T (cs.setIfInBounds 6 (.slice A n c)) ∧ Only [g] w w' := by
  have hg := B.lt
  have hne : ¬ g = w.heap.size := by omega
  have hne2 : ¬ w.heap.size = g := by omega
  have c3 : w.cell? ⟨g, 6, none⟩ = some cs[6] := by rw [B.cell 6, Array.getElem?_eq_getElem h3]
  have f3 := B.frozen 6
  go_enter Tryz.func139, Tryz.ntmps139
  go_wp2
  go_end0
  exact ⟨rfl, (B.set_ 6 _).alloc _, ((Only.refl _ _).setCell (.inl (by simp)) _).alloc _⟩

set_option maxRecDepth 100000 in
set_option maxHeartbeats 400000 in
theorem put_a (g b : Nat) (T : TypeId) (cs : Array Value) (h3 : 1 < cs.size) (f : Ev) (fv : Value) (w : World) (B : Blk w g T cs) (hbg : ¬ b = g) (hb : w.cell? ⟨b, 0, none⟩ = some (.func (.func 87) #[] #[])) :
    Calls Tryz.prog 124 #[.pointer (some ⟨g, 0, none⟩), evV f fv, .pointer (some ⟨b, 0, none⟩)] w fun e w' => e = .returned (.tuple #[]) ∧ Blk w' g T (cs.setIfInBounds 1 (.int .i64 f.a)) ∧ Only [g] w w' := by
  have hg := B.lt
  have hblt := World.block_lt_of_cell? w _ hb
  simp only at hblt
  have hne : ¬ g = w.heap.size := by omega
  have hne2 : ¬ w.heap.size = g := by omega
  have hne3 : ¬ b = w.heap.size := by omega
  have c3 : w.cell? ⟨g, 1, none⟩ = some cs[1] := by rw [B.cell 1, Array.getElem?_eq_getElem h3]
  have f3 := B.frozen 1
  have k1 : ∀ (u : Value) (o : Obj), ((w.setCell ⟨g, 1, none⟩ u).alloc o).cell? ⟨b, 0, none⟩ = some (.func (.func 87) #[] #[]) := fun u o => ((Kp.refl _).alloc o).cell ((World.cell?_setCell_other _ _ _ _ (by simp [hbg])).trans hb)
  have k2 : ∀ (u x y z v : Value), ((w.setCell ⟨g, 1, none⟩ u).alloc (.cells #[x, y, z, v, .int .i64 f.draw, .int .u32 (f.src : Int), fv] 27)).cell? ⟨w.heap.size, 1, none⟩ = some y := fun u x y z v => by
    have h := Blk.cell (Blk.new (w.setCell ⟨g, 1, none⟩ u) 27 #[x, y, z, v, .int .i64 f.draw, .int .u32 (f.src : Int), fv]) 1
    have e : (w.setCell ⟨g, 1, none⟩ u).heap.size = w.heap.size := by simp [World.setCell]
    rw [e] at h
    exact h
  go_enter Tryz.func124, Tryz.ntmps124
  go_wp2_with fail
  go_region_held3 (fun w' => w'.cell? ⟨b, 0, none⟩ = some (.func (.func 87) #[] #[]) ∧ w'.cell? ⟨w.heap.size, 1, none⟩ = some (.int .i64 f.a)) (first | go_keep | exact ⟨k1 _ _, k2 _ _ _ _ _⟩) (first | (go_at_call 87; refine (of_a _ 0 _).mono ?_; rintro e w' ⟨rfl, rfl⟩))
  all_goals (try go_wp2_with fail)
  all_goals go_end0
  all_goals exact ⟨rfl, ((B.set_ 1 _).alloc _).drew, (((Only.refl _ _).setCell (.inl (by simp)) _).alloc _).drew⟩

set_option maxRecDepth 100000 in
set_option maxHeartbeats 400000 in
theorem put_b (g b : Nat) (T : TypeId) (cs : Array Value) (h3 : 2 < cs.size) (f : Ev) (fv : Value) (w : World) (B : Blk w g T cs) (hbg : ¬ b = g) (hb : w.cell? ⟨b, 0, none⟩ = some (.func (.func 88) #[] #[])) :
    Calls Tryz.prog 124 #[.pointer (some ⟨g, 0, none⟩), evV f fv, .pointer (some ⟨b, 0, none⟩)] w fun e w' => e = .returned (.tuple #[]) ∧ Blk w' g T (cs.setIfInBounds 2 (.int .i64 f.b)) ∧ Only [g] w w' := by
  have hg := B.lt
  have hblt := World.block_lt_of_cell? w _ hb
  simp only at hblt
  have hne : ¬ g = w.heap.size := by omega
  have hne2 : ¬ w.heap.size = g := by omega
  have hne3 : ¬ b = w.heap.size := by omega
  have c3 : w.cell? ⟨g, 2, none⟩ = some cs[2] := by rw [B.cell 2, Array.getElem?_eq_getElem h3]
  have f3 := B.frozen 2
  have k1 : ∀ (u : Value) (o : Obj), ((w.setCell ⟨g, 2, none⟩ u).alloc o).cell? ⟨b, 0, none⟩ = some (.func (.func 88) #[] #[]) := fun u o => ((Kp.refl _).alloc o).cell ((World.cell?_setCell_other _ _ _ _ (by simp [hbg])).trans hb)
  have k2 : ∀ (u x y z v : Value), ((w.setCell ⟨g, 2, none⟩ u).alloc (.cells #[x, y, z, v, .int .i64 f.draw, .int .u32 (f.src : Int), fv] 27)).cell? ⟨w.heap.size, 2, none⟩ = some z := fun u x y z v => by
    have h := Blk.cell (Blk.new (w.setCell ⟨g, 2, none⟩ u) 27 #[x, y, z, v, .int .i64 f.draw, .int .u32 (f.src : Int), fv]) 2
    have e : (w.setCell ⟨g, 2, none⟩ u).heap.size = w.heap.size := by simp [World.setCell]
    rw [e] at h
    exact h
  go_enter Tryz.func124, Tryz.ntmps124
  go_wp2_with fail
  go_region_held3 (fun w' => w'.cell? ⟨b, 0, none⟩ = some (.func (.func 88) #[] #[]) ∧ w'.cell? ⟨w.heap.size, 2, none⟩ = some (.int .i64 f.b)) (first | go_keep | exact ⟨k1 _ _, k2 _ _ _ _ _⟩) (first | (go_at_call 88; refine (of_b _ 0 _).mono ?_; rintro e w' ⟨rfl, rfl⟩))
  all_goals (try go_wp2_with fail)
  all_goals go_end0
  all_goals exact ⟨rfl, ((B.set_ 2 _).alloc _).drew, (((Only.refl _ _).setCell (.inl (by simp)) _).alloc _).drew⟩

set_option maxRecDepth 100000 in
set_option maxHeartbeats 400000 in
theorem put_d (g b : Nat) (T : TypeId) (cs : Array Value) (h3 : 4 < cs.size) (f : Ev) (fv : Value) (w : World) (B : Blk w g T cs) (hbg : ¬ b = g) (hb : w.cell? ⟨b, 0, none⟩ = some (.func (.func 90) #[] #[])) :
    Calls Tryz.prog 130 #[.pointer (some ⟨g, 0, none⟩), evV f fv, .pointer (some ⟨b, 0, none⟩)] w fun e w' => e = .returned (.tuple #[]) ∧ Blk w' g T (cs.setIfInBounds 4 (.int .i64 f.draw)) ∧ Only [g] w w' := by
  have hg := B.lt
  have hblt := World.block_lt_of_cell? w _ hb
  simp only at hblt
  have hne : ¬ g = w.heap.size := by omega
  have hne2 : ¬ w.heap.size = g := by omega
  have hne3 : ¬ b = w.heap.size := by omega
  have c3 : w.cell? ⟨g, 4, none⟩ = some cs[4] := by rw [B.cell 4, Array.getElem?_eq_getElem h3]
  have f3 := B.frozen 4
  have k1 : ∀ (u : Value) (o : Obj), ((w.setCell ⟨g, 4, none⟩ u).alloc o).cell? ⟨b, 0, none⟩ = some (.func (.func 90) #[] #[]) := fun u o => ((Kp.refl _).alloc o).cell ((World.cell?_setCell_other _ _ _ _ (by simp [hbg])).trans hb)
  have k2 : ∀ (u x y z v : Value), ((w.setCell ⟨g, 4, none⟩ u).alloc (.cells #[x, y, z, v, .int .i64 f.draw, .int .u32 (f.src : Int), fv] 27)).cell? ⟨w.heap.size, 4, none⟩ = some (.int .i64 f.draw) := fun u x y z v => by
    have h := Blk.cell (Blk.new (w.setCell ⟨g, 4, none⟩ u) 27 #[x, y, z, v, .int .i64 f.draw, .int .u32 (f.src : Int), fv]) 4
    have e : (w.setCell ⟨g, 4, none⟩ u).heap.size = w.heap.size := by simp [World.setCell]
    rw [e] at h
    exact h
  go_enter Tryz.func130, Tryz.ntmps130
  go_wp2_with fail
  go_region_held3 (fun w' => w'.cell? ⟨b, 0, none⟩ = some (.func (.func 90) #[] #[]) ∧ w'.cell? ⟨w.heap.size, 4, none⟩ = some (.int .i64 f.draw)) (first | go_keep | exact ⟨k1 _ _, k2 _ _ _ _ _⟩) (first | (go_at_call 90; refine (of_d _ 0 _).mono ?_; rintro e w' ⟨rfl, rfl⟩))
  all_goals (try go_wp2_with fail)
  all_goals go_end0
  all_goals exact ⟨rfl, ((B.set_ 4 _).alloc _).drew, (((Only.refl _ _).setCell (.inl (by simp)) _).alloc _).drew⟩
end Go.Proofs.YtbfimimhgdkpaaaGreatDoor
