/- Lemmas and contracts for the theorem of this claim: GdA, LfA, LfS, RhL, Range3. -/
import Derived.Test.YtffckpkikdlbpaaGreatDoorZvAu
import Derived.LoopN
import Derived.RangeFuncCalls
set_option linter.all false
set_option maxHeartbeats 16000000
namespace Go.Proofs.YtffckpkikdlbpaaGreatDoor
section
open Go.RowKit
theorem viN (x : Nat) : ((x : Int) / 2) = ((x / 2 : Nat) : Int) := by omega
theorem vkV (x : Nat) : ((x : Int) % 2) = ((x % 2 : Nat) : Int) := by omega
set_option maxRecDepth 100000 in
theorem vkW (a i : Nat) (w : World) (ha : a < 4294967296) (hi : i < 32) : Calls Tryz.prog 165 #[.int .u32 a, .int .i64 i] w fun e w' => e = .returned (.int .i64 (bitN a i)) ∧ w = w' := by
 obtain ⟨r, hr⟩ : ∃ r, bitN a i = r := ⟨_, rfl⟩
 rw [hr]
 have Hr := Lib.hid hr; clear hr
 have d1 : decide ((i : Int) < 0) = false := by simp
 have d2 : decide ((31 : Int) < i) = false := by simp; omega
 go_enter Tryz.func165, Tryz.ntmps165
 go_wp2_with fail
 go_loop [5, 6] (fun n k => ∃ m x : Nat, i ≤ m ∧ m ≤ 31 ∧ k = .int .i64 m ∧ n = .int .i64 x ∧ x < 4294967296 ∧ Hid (x = a / 2 ^ (31 - m))) (fun _ k => (intOf k).toNat)
 case atStart => exact ⟨31, a, by omega, by omega, rfl, rfl, ha, Lib.hid (by simp)⟩
 case round =>
  obtain ⟨m, x, him, hm, rfl, rfl, hx, hxe⟩ := hrel
  by_cases hlt : i < m
  ·have hd : decide ((i : Int) < m) = true := by simpa using hlt
   go_wp2_with fail
   go_round
   case rel =>
    refine ⟨m - 1, x / 2, by omega, by omega, ?_, by rw [← viN], by omega, ?_⟩
    ·have e : ((m : Int) - 1) = ((m - 1 : Nat) : Int) := by omega
     rw [e]
    ·rw [hxe.out, viM]; congr 2; omega
   case measure => simp [intOf]; omega
  ·obtain rfl : m = i := by omega
   have hd : decide ((m : Int) < m) = false := by simp
   go_wp2_with fail
   go_ret
   refine ⟨?_, rfl⟩
   rw [vkV, hxe.out, vnA hi, Hr.out]
   rfl
set_option maxRecDepth 100000 in
theorem viO (n : Nat) (w : World) (hn : n ≤ 32) : Calls Tryz.prog 127 #[.int .i64 n] w fun e w' => e = .returned (.int .u32 (maskN n)) ∧ w = w' := by
 have HR := Lib.hid (vmR hn)
 go_enter Tryz.func127, Tryz.ntmps127
 go_wp2_with fail
 go_loop [3, 4] (fun v k => ∃ i : Nat, i ≤ 32 ∧ k = .int .i64 i ∧ v = .int .u32 (mskN n i)) (fun _ k => 32 - (intOf k).toNat)
 case atStart => exact ⟨0, by omega, rfl, by rw [vkS]; rfl⟩
 case round =>
  obtain ⟨i, hi, rfl, rfl⟩ := hrel
  by_cases hlt : i < 32
  ·have hd : decide ((i : Int) < 32) = true := by simp; omega
   have hb := vnz n i
   have hb2 : 2 ^ i ≤ 2 ^ 31 := Nat.pow_le_pow_right (by omega) (by omega)
   have hb3 : mskN n i < 2147483648 := Nat.lt_of_lt_of_le hb (by simpa using hb2)
   clear hb hb2
   obtain ⟨x, hx⟩ : ∃ x, mskN n i = x := ⟨_, rfl⟩
   rw [hx] at hb3 ⊢
   have Hx := Lib.hid hx; clear hx
   by_cases hin : i < n
   ·have hd2 : decide ((i : Int) < n) = true := by simpa using hin
    have hd3 : decide (i < n) = true := by simpa using hin
    go_wp2_with fail
    go_round
    case rel => exact ⟨i + 1, by omega, by go_num, by rw [vkT hin, Hx.out]; simp⟩
    case measure => simp [intOf]; omega
   ·have hd2 : decide ((i : Int) < n) = false := by simpa using hin
    have hd3 : decide (i < n) = false := by simpa using hin
    go_wp2_with fail
    go_round
    case rel => exact ⟨i + 1, by omega, by go_num, by rw [vkU hin, Hx.out]; simp⟩
    case measure => simp [intOf]; omega
  ·obtain rfl : i = 32 := by omega
   rw [HR.out]
   go_wp2_with fail
   go_ret
   exact ⟨rfl, rfl⟩
set_option maxRecDepth 100000 in
theorem vdN (p : PI) (w : World) (ha : p.a < 4294967296) : Calls Tryz.prog 125 #[.agg #[.int .u32 p.a, .int .i64 p.l]] w fun e w' => e = .returned (.bool p.okB) ∧ Kp w w' := by
 obtain ⟨W, hW, kW, B0⟩ := Blk.al1 (w := w) rfl #[.int .u32 p.a, .int .i64 p.l] 29
 obtain ⟨p0, p1⟩ := Blk.p2 B0
 obtain ⟨r, hr⟩ : ∃ r, p.okB = r := ⟨_, rfl⟩
 rw [hr]
 have Hr := Lib.hid hr; clear hr
 by_cases h0 : p.l < 0
 ·have d0 : decide (p.l < 0) = true := by simpa using h0
  obtain rfl : r = false := by rw [← Hr.out]; simp [PI.okB]; omega
  clear h0 Hr
  go_enter Tryz.func125, Tryz.ntmps125
  go_wp2_with fail
  go_ret
  exact ⟨rfl, kW⟩
 have d0 : decide (p.l < 0) = false := by simpa using h0
 by_cases h1 : 32 < p.l
 ·have d1 : decide (32 < p.l) = true := by simpa using h1
  obtain rfl : r = false := by rw [← Hr.out]; simp [PI.okB]; omega
  clear h0 h1 Hr
  go_enter Tryz.func125, Tryz.ntmps125
  go_wp2_with fail
  go_ret
  exact ⟨rfl, kW⟩
 have d1 : decide (32 < p.l) = false := by simpa using h1
 obtain ⟨n, hn⟩ : ∃ n : Nat, p.l = (n : Int) := ⟨p.l.toNat, by omega⟩
 have hn32 : n ≤ 32 := by omega
 have Hok : Hid (r = decide (cut p.a n = p.a)) := by
  rw [← Hr.out]
  have e : p.l.toNat = n := by omega
  unfold PI.okB
  rw [e]
  exact Lib.hid (by congr 1; simp; omega)
 rw [hn] at p1 d0 d1 hW ⊢
 clear h0 h1 hn Hr B0
 go_enter Tryz.func125, Tryz.ntmps125
 go_wp2_with fail
 go_loop [3] (fun k => ∃ i : Nat, n ≤ i ∧ i ≤ 32 ∧ k = .int .i64 i ∧ Hid (∀ j, n ≤ j → j < i → bitN p.a j = 0)) (fun k => 32 - (intOf k).toNat)
 case atStart => exact ⟨n, Nat.le_refl _, hn32, rfl, fun j h1 h2 => absurd h2 (by omega)⟩
 case round =>
  obtain ⟨i, hni, hi, rfl, hall⟩ := hrel
  by_cases hlt : i < 32
  ·have hd : decide ((i : Int) < 32) = true := by simp; omega
   have hbl := vlC p.a i
   go_wp2_with fail
   refine (vkW p.a i _ ha hlt).mono ?_
   rintro e w' ⟨rfl, rfl⟩
   by_cases hb : bitN p.a i = 0
   ·rw [hb]
    have Hb := Lib.hid hb; clear hb
    go_wp2_with fail
    go_round
    case rel =>
     refine ⟨i + 1, by omega, by omega, by go_num, fun j h1 h2 => ?_⟩
     rcases Nat.lt_or_ge j i with h3 | h3
     ·exact hall.out j h1 h3
     ·obtain rfl : j = i := by omega
      exact Hb.out
    case measure => simp [intOf]; omega
   ·obtain rfl : r = false := by
     rw [Hok.out]
     simp only [decide_eq_false_iff_not]
     intro hc
     exact hb ((veC hn32).2 hc i hni hlt)
    obtain ⟨x, hx⟩ : ∃ x, bitN p.a i = x := ⟨_, rfl⟩
    rw [hx] at hb hbl ⊢
    obtain rfl : x = 1 := by omega
    clear hb hbl hx
    go_wp2_with fail
    go_ret
    exact ⟨rfl, kW⟩
  ·obtain rfl : i = 32 := by omega
   obtain rfl : r = true := by
    rw [Hok.out]
    simp only [decide_eq_true_eq]
    exact (veC hn32).1 (fun j h1 h2 => hall.out j h1 h2)
   go_wp2_with fail
   go_ret
   exact ⟨rfl, kW⟩
def RPartsP (m : Nat) (w : World) (e : Ending) (w' : World) : Prop := ∃ y z u : Int, e = .returned (.agg #[.int .i64 m, .int .i64 y, .int .i64 z, .int .i64 u]) ∧ Kp w w'
set_option maxRecDepth 100000 in
theorem vfD (a m : Nat) (w : World) (ha : a < 4294967296) (hm : a / 16777216 = m) : Calls Tryz.prog 190 #[.int .u32 a] w (RPartsP m w) := by
 have Hm := Lib.hid hm; clear hm
 go_enter Tryz.func190, Tryz.ntmps190
 go_wp2_with fail
 exact bodyPost_ret (v := .agg #[.int .i64 ((a : Int) / 16777216), .int .i64 ((a : Int) / 65536 % 256), .int .i64 ((a : Int) / 256 % 256), .int .i64 ((a : Int) % 256)]) (by simp [results, Tryz.results190, go_sem]) rfl ⟨_, _, _, by rw [← Hm.out]; rfl, (Kp.refl _).alloc _⟩
set_option maxRecDepth 100000 in
theorem veT (a : Nat) (w : World) (ha : a < 4294967296) : Calls Tryz.prog 166 #[.int .u32 a] w fun e w' => e = .returned (.int .i64 (kindAd a)) ∧ Kp w w' := by
 obtain ⟨r, hr⟩ : ∃ r, kindAd a = r := ⟨_, rfl⟩
 rw [hr]
 obtain ⟨m, hm⟩ : ∃ m, a / 16777216 = m := ⟨_, rfl⟩
 have hm2 : m < 256 := by omega
 unfold kindAd at hr
 rw [hm] at hr
 have Hm := Lib.hid hm; clear hm
 have hall : Hid ((a = 0 ∧ r = 1) ∨ (a ≠ 0 ∧ m = 0 ∧ r = 2) ∨ (a ≠ 0 ∧ m = 127 ∧ r = 3) ∨ (a ≠ 0 ∧ 224 ≤ m ∧ m ≤ 239 ∧ r = 4) ∨ (a ≠ 0 ∧ 240 ≤ m ∧ r = 5) ∨ (a ≠ 0 ∧ m ≠ 0 ∧ m ≠ 127 ∧ m < 224 ∧ r = 6)) := by
  revert hr
  by_cases h0 : a = 0
  ·rw [if_pos h0]; intro hr; exact .inl ⟨h0, hr.symm⟩
  rw [if_neg h0]
  by_cases h1 : m = 0
  ·rw [if_pos h1]; intro hr; exact .inr (.inl ⟨h0, h1, hr.symm⟩)
  rw [if_neg h1]
  by_cases h2 : m = 127
  ·rw [if_pos h2]; intro hr; exact .inr (.inr (.inl ⟨h0, h2, hr.symm⟩))
  rw [if_neg h2]
  by_cases h3 : 224 ≤ m ∧ m ≤ 239
  ·rw [if_pos h3]; intro hr; exact .inr (.inr (.inr (.inl ⟨h0, h3.1, h3.2, hr.symm⟩)))
  rw [if_neg h3]
  by_cases h4 : 240 ≤ m
  ·rw [if_pos h4]; intro hr; exact .inr (.inr (.inr (.inr (.inl ⟨h0, h4, hr.symm⟩))))
  rw [if_neg h4]
  intro hr
  exact .inr (.inr (.inr (.inr (.inr ⟨h0, h1, h2, by omega, hr.symm⟩))))
 clear hr
 go_enter Tryz.func166, Tryz.ntmps166
 go_wp2_with fail
 refine (vfD a m w ha Hm.out).mono ?_
 rintro e w1 ⟨y, z, u, rfl, hK⟩
 rcases hall.out with ⟨h0, rfl⟩ | ⟨h0, h1, rfl⟩ | ⟨h0, h1, rfl⟩ | ⟨h0, h1, h2, rfl⟩ | ⟨h0, h1, rfl⟩ | ⟨h0, h1, h2, h3, rfl⟩
 ·subst h0
  clear hall
  go_wp2_with fail
  go_ret
  exact ⟨rfl, hK.alloc _⟩
 ·have q0 : ((a : Int) == 0) = false := by simpa using h0
  subst h1
  clear hall h0
  go_wp2_with fail
  go_ret
  exact ⟨rfl, hK.alloc _⟩
 ·have q0 : ((a : Int) == 0) = false := by simpa using h0
  subst h1
  clear hall h0
  go_wp2_with fail
  go_ret
  exact ⟨rfl, hK.alloc _⟩
 ·have q0 : ((a : Int) == 0) = false := by simpa using h0
  have q1 : ((m : Int) == 0) = false := by simp; omega
  have q2 : ((m : Int) == 127) = false := by simp; omega
  have q3 : decide ((224 : Int) ≤ m) = true := by simp; omega
  have q4 : decide ((m : Int) ≤ 239) = true := by simp; omega
  clear hall h0
  go_wp2_with fail
  go_ret
  exact ⟨rfl, hK.alloc _⟩
 ·have q0 : ((a : Int) == 0) = false := by simpa using h0
  have q1 : ((m : Int) == 0) = false := by simp; omega
  have q2 : ((m : Int) == 127) = false := by simp; omega
  have q3 : decide ((224 : Int) ≤ m) = true := by simp; omega
  have q4 : decide ((m : Int) ≤ 239) = false := by simp; omega
  have q5 : decide ((240 : Int) ≤ m) = true := by simp; omega
  clear hall h0
  go_wp2_with fail
  go_ret
  exact ⟨rfl, hK.alloc _⟩
 ·have q0 : ((a : Int) == 0) = false := by simpa using h0
  have q1 : ((m : Int) == 0) = false := by simp; omega
  have q2 : ((m : Int) == 127) = false := by simp; omega
  have q3 : decide ((224 : Int) ≤ m) = false := by simp; omega
  have q5 : decide ((240 : Int) ≤ m) = false := by simp; omega
  clear hall h0
  go_wp2_with fail
  go_ret
  exact ⟨rfl, hK.alloc _⟩
set_option maxRecDepth 100000 in
theorem vkX (a n : Nat) (w : World) (ha : a < 4294967296) (hn : n ≤ 32) : Calls Tryz.prog 126 #[.int .u32 a, .int .u32 (maskN n)] w fun e w' => e = .returned (.bool (badKind a n)) ∧ Kp w w' := by
 obtain ⟨r, hr⟩ : ∃ r, badKind a n = r := ⟨_, rfl⟩
 rw [hr]
 have hk := vcW a
 have hmm := vhS n hn
 unfold badKind at hr
 have Hk := Lib.hid (veT a w ha)
 obtain ⟨k, hkk⟩ : ∃ k, kindAd a = k := ⟨_, rfl⟩
 rw [hkk] at hr hk Hk
 obtain ⟨mm, hM⟩ : ∃ mm, maskN n = mm := ⟨_, rfl⟩
 rw [hM] at hmm ⊢
 clear hkk hM
 have Hmm := Lib.hid hmm; clear hmm
 have hcase : k = 1 ∨ k = 2 ∨ k = 3 ∨ k = 4 ∨ k = 5 ∨ k = 6 := by omega
 clear hk
 rcases hcase with rfl | rfl | rfl | rfl | rfl | rfl
 ·simp only [show ¬ (1 = 6) by omega, if_false, if_true] at hr
  rw [hr] at Hmm
  have hm := Hmm.out
  clear hr
  go_enter Tryz.func126, Tryz.ntmps126
  go_wp2_with fail
  refine Hk.out.mono ?_
  rintro e w1 ⟨rfl, hK⟩
  cases r
  all_goals
   go_wp2_with fail
   go_ret
   exact ⟨rfl, hK⟩
 all_goals
  simp at hr
  subst hr
  go_enter Tryz.func126, Tryz.ntmps126
  go_wp2_with fail
  refine Hk.out.mono ?_
  rintro e w1 ⟨rfl, hK⟩
  go_wp2_with fail
  go_ret
  exact ⟨rfl, hK⟩
set_option maxRecDepth 100000 in
theorem vbi (p : PI) (w : World) (ha : p.a < 4294967296) : Calls Tryz.prog 87 #[.agg #[.int .u32 p.a, .int .i64 p.l]] w fun e w' => e = .returned (.bool (toldB p)) ∧ Kp w w' := by
 obtain ⟨W, hW, kW, B0⟩ := Blk.al1 (w := w) rfl #[.int .u32 p.a, .int .i64 p.l] 29
 obtain ⟨p0, p1⟩ := Blk.p2 B0
 cases hok : p.okB with
 | false =>
  have Ht : Hid (toldB p = false) := Lib.hid (by simp [toldB, hok])
  have Hok := Lib.hid hok; clear hok
  go_enter Tryz.func87, Tryz.ntmps87
  go_wp2_with fail
  refine vmS (by kernel_rfl) (fun V hV => ?_)
  have KV : Kp W V := by rw [hV]; exact (Kp.refl _).drew
  clear hV
  have q0 := KV.cell p0
  have q1 := KV.cell p1
  clear p0 p1
  refine wpAny_ready (rs := [0]) (by kernel_rfl) (by simp) ?_
  refine AllReady.cons rfl (fun K hK => ?_) AllReady.nil
  go_simp
  refine hK _ _ ?_
  clear hK K
  refine wpAny_ready (rs := [1]) (by kernel_rfl) (by simp) ?_
  refine AllReady.cons rfl (fun K hK => ?_) AllReady.nil
  go_simp
  refine (vdN p _ ha).mono ?_
  rintro e wa ⟨rfl, hKa⟩
  rw [Hok.out]
  refine hK _ _ ?_
  clear hK K
  refine wpAny_take (i := 2) (v := .bool false) rfl (by kernel_rfl) (by kernel_rfl) (by kernel_rfl) (fun _ _ _ h => h) (Or.inl ⟨by rfl, fun w => by go_simp⟩) ?_
  refine wpAny_take (i := 3) (v := undef) rfl (by kernel_rfl) (by kernel_rfl) (by kernel_rfl) (fun _ _ _ h => h) (Or.inr ⟨by rfl, rfl⟩) ?_
  refine wpAny_take (i := 4) (v := undef) rfl (by kernel_rfl) (by kernel_rfl) (by kernel_rfl) (fun _ _ _ h => h) (Or.inr ⟨by rfl, rfl⟩) ?_
  refine wpAny_take (i := 5) (v := undef) rfl (by kernel_rfl) (by kernel_rfl) (by kernel_rfl) (fun _ _ _ h => h) (Or.inr ⟨by rfl, rfl⟩) ?_
  refine wpAny_take (i := 6) (v := undef) rfl (by kernel_rfl) (by kernel_rfl) (by kernel_rfl) (fun _ _ _ h => h) (Or.inr ⟨by rfl, rfl⟩) ?_
  refine wpAny_take (i := 7) (v := undef) rfl (by kernel_rfl) (by kernel_rfl) (by kernel_rfl) (fun _ _ _ h => h) (Or.inr ⟨by rfl, rfl⟩) ?_
  refine wpAny_take (i := 8) (v := undef) rfl (by kernel_rfl) (by kernel_rfl) (by kernel_rfl) (fun _ _ _ h => h) (Or.inr ⟨by rfl, rfl⟩) ?_
  refine wpAny_take (i := 9) (v := undef) rfl (by kernel_rfl) (by kernel_rfl) (by kernel_rfl) (fun _ _ _ h => h) (Or.inr ⟨by rfl, rfl⟩) ?_
  refine vdG 10 rfl (by kernel_rfl) ?_
  simp only [List.drop_succ_cons, List.drop_zero]
  go_wp2_with fail
  go_ret
  exact ⟨by rw [Ht.out]; rfl, (kW.trans KV).trans hKa⟩
 | true =>
  have hq := of_decide_eq_true hok
  obtain ⟨n, hn⟩ : ∃ n : Nat, p.l = (n : Int) := ⟨p.l.toNat, by omega⟩
  have hn32 : n ≤ 32 := by omega
  have Ht : Hid (toldB p = !badKind p.a n) := Lib.hid (by simp [toldB, hok, hn])
  have Hok := Lib.hid hok; clear hok hq
  have HR := Lib.hid (fun w => vdN p w ha)
  rw [hn] at hW p1 B0 HR ⊢
  clear hn
  go_enter Tryz.func87, Tryz.ntmps87
  go_wp2_with fail
  go_region_held3 (fun w' => w'.cell? ⟨w.heap.size, 0, none⟩ = some (.int .u32 p.a) ∧ w'.cell? ⟨w.heap.size, 1, none⟩ = some (.int .i64 n)) (first | exact ⟨(Ka.trans Kb).cell p0, (Ka.trans Kb).cell p1⟩ | exact ⟨Ka.cell p0, Ka.cell p1⟩ | go_keep) (first | (go_at_call 125; refine (HR.out _).mono ?_; rintro e wa ⟨rfl, hKa⟩; rw [Hok.out]; have Ka : Kp W wa := (Kp.refl W).drew.trans hKa) | (go_at_call 127; refine (viO n _ hn32).mono ?_; rintro e w' ⟨rfl, rfl⟩) | (go_at_call 126; refine (vkX p.a n _ ha hn32).mono ?_; rintro e wb ⟨rfl, Kb⟩))
  go_wp2_with fail
  go_ret
  exact ⟨by rw [Ht.out]; rfl, (kW.trans Ka).trans Kb⟩
theorem viP (f : Int) (x : Nat) (w : World) (hx : x < 4294967296) : Calls Tryz.prog 128 #[.int .i64 f, .int .u32 x] w fun e w' => e = .returned (.bool (mayB f x)) ∧ Kp w w' := by
 obtain ⟨r, hr⟩ : ∃ r, mayB f x = r := ⟨_, rfl⟩
 rw [hr]
 have Hk := Lib.hid (veT x w hx)
 unfold mayB withB at hr
 obtain ⟨k, hkk⟩ : ∃ k, kindAd x = k := ⟨_, rfl⟩
 rw [hkk] at hr Hk
 clear hkk
 by_cases h0 : f < 0
 ·obtain rfl : r = false := by rw [← hr]; simp [h0]
  have d0 : decide (0 ≤ f) = false := by simp; omega
  clear hr h0
  go_enter Tryz.func128, Tryz.ntmps128
  go_wp2_with fail
  go_ret
  exact ⟨rfl, Kp.refl _⟩
 have d0 : decide (0 ≤ f) = true := by simp; omega
 by_cases h1 : 15 < f
 ·obtain rfl : r = false := by rw [← hr]; simp [h1]
  have d1 : decide (f ≤ 15) = false := by simp; omega
  clear hr h0 h1
  go_enter Tryz.func128, Tryz.ntmps128
  go_wp2_with fail
  go_ret
  exact ⟨rfl, Kp.refl _⟩
 have d1 : decide (f ≤ 15) = true := by simp; omega
 have hr' : ((k : Int) == 6) = r := by rw [← hr]; simp [h0, h1]
 have Hr := Lib.hid hr'
 clear hr h0 h1 hr'
 go_enter Tryz.func128, Tryz.ntmps128
 go_wp2_with fail
 refine Hk.out.mono ?_
 rintro e w1 ⟨rfl, hK⟩
 have hr := Hr.out
 go_wp2_with fail
 go_ret
 exact ⟨rfl, hK⟩
theorem vad {fn : Func} {k g : Nat} {ts : Array Value} {W : World} {R : Rt} (hf : fn.results = #[.cell k 48]) (hk : ts.getD k undef = .pointer (some ⟨g, 0, none⟩)) (B : Blk W g 48 (roC R)) : (results fn ts).run Tryz.prog W = .ok (roV R) W := by
 obtain ⟨u0, u1, u2, u3, u4, u5, u6, u7, u8⟩ := vab B
 rw [Array.getD_eq_getD_getElem?] at hk
 simp [results, hf, hk, go_sem, u0, u1, u2, u3, u4, u5, u6, u7, u8]
set_option maxRecDepth 100000 in
theorem vbW (now : Int) (w : World) : Calls Tryz.prog 129 #[.int .i64 now] w fun e w' => e = .returned (.bool (okNow now)) ∧ w = w' := by
 by_cases h0 : 0 ≤ now
 ·have d0 : decide (0 ≤ now) = true := decide_eq_true h0
  by_cases h1 : now ≤ 4611686018426387904
  ·have d1 : decide (now ≤ 4611686018426387904) = true := decide_eq_true h1
   have H := Lib.hid (show okNow now = true by rw [okNow, vaa]; exact ⟨h0, h1⟩)
   go_enter Tryz.func129, Tryz.ntmps129
   go_wp2_with fail
   go_ret
   exact ⟨by rw [H.out]; rfl, rfl⟩
  ·have d1 : decide (now ≤ 4611686018426387904) = false := decide_eq_false h1
   have H := Lib.hid (show okNow now = false by rw [Bool.eq_false_iff]; intro z; rw [okNow, vaa] at z; exact h1 z.2)
   go_enter Tryz.func129, Tryz.ntmps129
   go_wp2_with fail
   go_ret
   exact ⟨by rw [H.out]; rfl, rfl⟩
 ·have d0 : decide (0 ≤ now) = false := decide_eq_false h0
  have H := Lib.hid (show okNow now = false by rw [Bool.eq_false_iff]; intro z; rw [okNow, vaa] at z; exact h0 z.1)
  go_enter Tryz.func129, Tryz.ntmps129
  go_wp2_with fail
  go_ret
  exact ⟨by rw [H.out]; rfl, rfl⟩
set_option maxRecDepth 100000 in
theorem vby (h : Hd) (w : World) (ha : h.a < 4294967296) : Calls Tryz.prog 88 #[.agg #[.int .i64 h.f, .int .u32 (h.a : Int), .int .i64 h.m]] w fun e w' => e = .returned (.bool (okHd h)) ∧ Kp w w' := by
 obtain ⟨b, hb⟩ : ∃ b, w.heap.size = b := ⟨_, rfl⟩
 obtain ⟨W, hW, kW, B0⟩ := Blk.al1 hb #[.int .i64 h.f, .int .u32 (h.a : Int), .int .i64 h.m] 31
 have p0 := Blk.f B0 rfl
 have HA := Lib.hid ha
 clear ha
 go_enter Tryz.func88, Tryz.ntmps88
 go_wp2_with fail
 clear hW p0
 refine (viP h.f h.a _ HA.out).mono ?_
 rintro e w1 ⟨rfl, K1⟩
 have K := kW.trans K1
 have p2 := Blk.f (B0.keep K1) rfl
 clear B0 K1 kW
 cases hs : mayB h.f h.a with
 | false =>
  have H := Lib.hid (show okHd h = false by unfold okHd; rw [hs]; rfl)
  clear hs
  go_wp2_with fail
  go_ret
  exact ⟨by rw [H.out] <;> rfl, K⟩
 | true =>
  have HS := Lib.hid hs
  clear hs
  by_cases h1 : 1 ≤ h.m
  ·have d1 : decide (1 ≤ h.m) = true := decide_eq_true h1
   by_cases h2 : h.m ≤ 16
   ·have d2 : decide (h.m ≤ 16) = true := decide_eq_true h2
    have H := Lib.hid (show okHd h = true by unfold okHd; rw [HS.out, Bool.true_and, vaa]; exact ⟨h1, h2⟩)
    go_wp2_with fail
    go_ret
    exact ⟨by rw [H.out] <;> rfl, K⟩
   ·have d2 : decide (h.m ≤ 16) = false := decide_eq_false h2
    have H := Lib.hid (show okHd h = false by unfold okHd; rw [HS.out, Bool.true_and, Bool.eq_false_iff]; intro z; rw [vaa] at z; exact h2 z.2)
    go_wp2_with fail
    go_ret
    exact ⟨by rw [H.out] <;> rfl, K⟩
  ·have d1 : decide (1 ≤ h.m) = false := decide_eq_false h1
   have H := Lib.hid (show okHd h = false by unfold okHd; rw [HS.out, Bool.true_and, Bool.eq_false_iff]; intro z; rw [vaa] at z; exact h1 z.1)
   go_wp2_with fail
   go_ret
   exact ⟨by rw [H.out] <;> rfl, K⟩
set_option maxRecDepth 100000 in
theorem vhe (p : PI) (w : World) : Calls Tryz.prog 80 #[pfV p] w fun e w' => e = .returned (roV (ownR p)) ∧ Kp w w' := by
 go_enter Tryz.func80, Tryz.ntmps80
 go_wp2_with fail
 exact bodyPost_ret (vad (g := w.heap.size + 1) (R := ownR p) rfl rfl (Blk.new1 w _ _ _)) rfl ⟨rfl, ((Kp.refl _).alloc _).alloc _⟩
set_option maxRecDepth 100000 in
theorem vae (c : Cf) (A : Option Addr) (n m : Nat) (r : Rt) (h : Hd) (M now : Int) (w : World) (hn0 : 0 ≤ now) (hn1 : now ≤ 4611686018426387904) (ht0 : 0 ≤ c.t2) (ht1 : c.t2 ≤ 1000000) :
  Calls Tryz.prog 130 #[cfV c A n m, roV r, .agg #[.int .i64 h.f, .int .u32 (h.a : Int), .int .i64 h.m], .int .i64 M, .int .i64 now] w fun e w' => e = .returned (roV ⟨r.p, 2, M, 0, h.f, h.a, now + c.t2, true⟩) ∧ Kp w w' := by
 go_enter Tryz.func130, Tryz.ntmps130
 go_wp2_with fail
 exact bodyPost_ret (vad (g := w.heap.size + 1 + 1 + 1) (R := ⟨r.p, 2, M, 0, h.f, h.a, now + c.t2, true⟩) rfl rfl (Blk.new3 w _ _ _ _ _)) rfl ⟨rfl, ((((Kp.refl _).alloc _).alloc _).alloc _).alloc _⟩
set_option maxRecDepth 100000 in
theorem vbX (c : Cf) (A : Option Addr) (n m : Nat) (r : Rt) (now : Int) (w : World) (hn0 : 0 ≤ now) (hn1 : now ≤ 4611686018426387904) (ht0 : 0 ≤ c.t3) (ht1 : c.t3 ≤ 1000000) :
  Calls Tryz.prog 92 #[cfV c A n m, roV r, .int .i64 now] w fun e w' => e = .returned (roV (loseR c r now)) ∧ Kp w w' := by
 by_cases hs : r.s = 2
 ·have e2 : (r.s != 2) = false := by simp [hs]
  have H := Lib.hid (show loseR c r now = lostR c r now by unfold loseR; rw [if_pos hs])
  clear hs
  rw [H.out]
  go_enter Tryz.func92, Tryz.ntmps92
  go_wp2_with fail
  exact bodyPost_ret (vad (g := w.heap.size + 1 + 1) (R := lostR c r now) rfl rfl (Blk.new2 w _ _ _ _)) rfl ⟨rfl, (((Kp.refl _).alloc _).alloc _).alloc _⟩
 ·have e2 : (r.s != 2) = true := by simp [hs]
  have H := Lib.hid (show loseR c r now = r by unfold loseR; rw [if_neg hs])
  clear hs
  rw [H.out]
  go_enter Tryz.func92, Tryz.ntmps92
  go_wp2_with fail
  exact bodyPost_ret (vad (g := w.heap.size + 1 + 1) (R := r) rfl rfl (Blk.new2 w _ _ _ _)) rfl ⟨rfl, (((Kp.refl _).alloc _).alloc _).alloc _⟩
theorem Blk.set9 {W : World} {g : Nat} {v0 v1 v2 v3 v4 v5 v6 v7 v8 : Value} {r : Rt} (B : Blk W g 48 (roC r)) :
  Blk (((((((((W.setCell ⟨g, 0, none⟩ v0).setCell ⟨g, 1, none⟩ v1).setCell ⟨g, 2, none⟩ v2).setCell ⟨g, 3, none⟩ v3).setCell ⟨g, 4, none⟩ v4).setCell ⟨g, 5, none⟩ v5).setCell ⟨g, 6, none⟩ v6).setCell ⟨g, 7, none⟩ v7).setCell ⟨g, 8, none⟩ v8) g 48 #[v0, v1, v2, v3, v4, v5, v6, v7, v8] := by
 have h := ((((((((B.set_ 0 v0).set_ 1 v1).set_ 2 v2).set_ 3 v3).set_ 4 v4).set_ 5 v5).set_ 6 v6).set_ 7 v7).set_ 8 v8
 have e : ((((((((((roC r).setIfInBounds 0 v0).setIfInBounds 1 v1).setIfInBounds 2 v2).setIfInBounds 3 v3).setIfInBounds 4 v4).setIfInBounds 5 v5).setIfInBounds 6 v6).setIfInBounds 7 v7).setIfInBounds 8 v8) = #[v0, v1, v2, v3, v4, v5, v6, v7, v8] := by
  unfold roC
  simp
 rw [e] at h
 exact h
theorem Kp.set9 {w W : World} {g : Nat} {v0 v1 v2 v3 v4 v5 v6 v7 v8 : Value} (k : Kp w W) (h : w.heap.size ≤ g) :
  Kp w (((((((((W.setCell ⟨g, 0, none⟩ v0).setCell ⟨g, 1, none⟩ v1).setCell ⟨g, 2, none⟩ v2).setCell ⟨g, 3, none⟩ v3).setCell ⟨g, 4, none⟩ v4).setCell ⟨g, 5, none⟩ v5).setCell ⟨g, 6, none⟩ v6).setCell ⟨g, 7, none⟩ v7).setCell ⟨g, 8, none⟩ v8) :=
 ((((((((k.setCell h _).setCell h _).setCell h _).setCell h _).setCell h _).setCell h _).setCell h _).setCell h _).setCell h _
structure OwnT (T : Tb) : Prop where
 d : ∀ x ∈ T.l, x.s = 1 ↔ x.p ∈ T.c.own
 a : ∀ p ∈ T.c.own, ∃ x ∈ T.l, x.p = p
theorem OwnT.new (c : Cf) : OwnT (newT c) := by
 obtain ⟨-, h2, -⟩ := vaS c.own [] List.Pairwise.nil
 refine ⟨fun x hx => ?_, fun p hp => ⟨ownR p, (h2 _).2 (.inl ⟨p, hp, rfl⟩), rfl⟩⟩
 rcases (h2 x).1 hx with ⟨p, hp, rfl⟩ | ⟨hx, _⟩
 ·exact ⟨fun _ => hp, fun _ => rfl⟩
 ·simp at hx
theorem OwnT.set {T : Tb} (h : OwnT T) {r : Rt} (hr : r.s = 1 ↔ r.p ∈ T.c.own) (now rf : Int) : OwnT ⟨T.c, setR r T.l, now, rf⟩ := by
 refine ⟨fun x hx => ?_, fun p hp => ?_⟩
 ·rcases vap.1 hx with ⟨rfl, _⟩ | ⟨hx, _⟩
  ·exact hr
  ·exact h.d x hx
 ·obtain ⟨x, hx, e⟩ := h.a p hp
  by_cases e2 : r.p = p
  ·refine ⟨r, vap.2 (.inl ⟨rfl, ?_⟩), e2⟩
   have := hr.2 (by rw [e2]; exact hp)
   omega
  ·exact ⟨x, vap.2 (.inr ⟨hx, fun z => e2 (by rw [← z, e])⟩), e⟩
theorem OwnT.at {T : Tb} (h : OwnT T) (now rf : Int) : OwnT ⟨T.c, T.l, now, rf⟩ := ⟨h.d, h.a⟩
theorem vmT {c : Cf} {r : Rt} {now : Int} (h2 : 2 ≤ r.s) : ¬ (expR c r now).s = 1 := by
 unfold expR
 repeat' split
 ·omega
 ·exact (by decide : ¬ (3 : Int) = 1)
 ·exact (by decide : ¬ (4 : Int) = 1)
 ·exact (by decide : ¬ (0 : Int) = 1)
theorem vgk {T : Tb} (now : Int) : ∀ (k : Nat) (M : List Rt), UpR M → OwnT ⟨T.c, M, now, T.rf⟩ → OwnT ⟨T.c, (expG T.c now k M).1, now, T.rf⟩
 | 0, M, _, hM => hM
 | k + 1, M, u, hM => by
  unfold expG
  split
  ·exact hM
  ·next r e =>
   split
   ·exact hM
   ·obtain ⟨h1, h2, _⟩ := (vaz u).2 r e
    have h3 := hM.d r h1
    refine vgk now k _ (vaT _ u) (hM.set ?_ _ _)
    rw [exp_p]
    exact ⟨fun z => absurd z (vmT h2), fun z => by have := h3.2 z; omega⟩
theorem OwnT.exp {T : Tb} (h : OwnT T) (u : UpR T.l) (now : Int) : OwnT (expT T now).1 := by
 unfold expT
 split
 ·exact vgk now 1000 T.l u (h.at _ _)
 ·exact h
theorem OwnT.seen {T : Tb} (h : OwnT T) : OwnT (seenT T).1 := by
 refine ⟨fun x hx => ?_, fun p hp => ?_⟩
 ·obtain ⟨y, hy, rfl⟩ := List.mem_map.1 hx
  exact h.d y hy
 ·obtain ⟨x, hx, e⟩ := h.a p hp
  exact ⟨seenR x, List.mem_map.2 ⟨x, hx, rfl⟩, e⟩
theorem viQ (T : Tb) (p : PI) (k : Hd) (now : Int) : (heardT T p k now).1.c = T.c := by unfold heardT; (repeat' split) <;> rfl
theorem vlI (T : Tb) (f now : Int) : (lostT T f now).1.c = T.c := by unfold lostT; (repeat' split) <;> rfl
theorem exp_c (T : Tb) (now : Int) : (expT T now).1.c = T.c := by unfold expT; split <;> rfl
theorem vhf {P : Program} {g : Operand} {ps : Array Tmp} {assign body : Code} {Q : Exit → Act → World → Prop} {a : Act} {w : World} {gf : FuncId} {caps : Array Value} {N : Nat} {xs : Nat → Array Value} {M : World → Prop}
  (hg : a.eval g = .func (.func gf) #[] caps) (eg : ∀ args w, (callFunc gf args).run P w = .ok (.enter gf args) w) (hit : Iter P gf caps N xs M) (hps : ∀ k, k < N → (xs k).size = ps.size)
  (I : Nat → World → Prop) (Ix : Code → Nat → World → Prop)
  (hI : ∀ k W W', I k W → Only [w.heap.size, w.heap.size + 1] W W' → I k W') (hIx : ∀ c k W W', Ix c k W → Only [w.heap.size, w.heap.size + 1] W W' → Ix c k W')
  (hM : ∀ k W, I k W → M W) (h0 : I 0 w)
  (hround : ∀ l k W, k < N → I k W → w.heap.size + 1 < W.heap.size → assign.wpIn (Fence.wide.inRound l) 0 P (Exit.then (fun a' W' => Kept2 w W W' ∧ ∃ J : World → Prop, J W' ∧ (∀ V V', J V → Only [w.heap.size, w.heap.size + 1] V V' → J V') ∧ ∀ W2, J W2 → w.heap.size + 1 < W2.heap.size → body.wpIn (Fence.wide.inRound l) 0 P (rndPost w I Ix (k + 1) W2) a' W2) (fun _ _ _ => False))
   { tmps := (ps.zip (xs k)).foldl (fun t (p, v) => t.setIfInBounds p v) a.tmps, defers := [] } W)
  (hdone : ∀ W, I N W → W.heap[w.heap.size]? = some (.deferred (some [])) → Q .normal { a with defers := { target := .collected w.heap.size, args := #[] } :: a.defers } W)
  (hstop : ∀ c k W, 0 < k → k ≤ N → Ix c k W → W.heap[w.heap.size]? = some (.deferred (some [])) → c.wp P Q { a with defers := { target := .collected w.heap.size, args := #[] } :: a.defers } W) :
  (Code.rangeFunc g ps assign body).wp P Q a w := by
 refine (wpIn_wide (n := 0)).1 (wpIn_rangeFunc ?_)
 intro fn hfn
 obtain ⟨rec, hrec⟩ : ∃ rec : LoopState → Option Code → Loop, rec = fun st pe => { state := st, pending := pe, fn, tmps := a.tmps, params := ps, assign, body, defers := w.heap.size } := ⟨_, rfl⟩
 obtain ⟨W1, hW1⟩ : ∃ W1, (w.alloc (.deferred (some []))).alloc (.loop (rec .ready none)) = W1 := ⟨_, rfl⟩
 have hL1 : W1.heap[w.heap.size + 1]? = some (.loop (rec .ready none)) := by
  rw [← hW1]; have := World.alloc_heap_new (w.alloc (.deferred (some []))) (.loop (rec .ready none)); rwa [World.size_alloc] at this
 have hK1 : W1.heap[w.heap.size]? = some (.deferred (some [])) := by
  rw [← hW1]; exact (Below.heap_alloc _ _ _ (by simp)).trans (World.alloc_heap_new w _)
 have hI1 : I 0 W1 := by rw [← hW1]; exact hI 0 _ _ h0 (((Only.refl _ _).alloc _).alloc _)
 refine ⟨w.heap.size + 1, [{ target := .collected w.heap.size, args := #[] }], W1, { target := .fn (.func gf) caps, args := #[.func (.yield (w.heap.size + 1)) #[] #[]] }, W1, gf,
  #[.func (.yield (w.heap.size + 1)) #[] #[]] ++ caps, W1, ?_, ?_, fun _ _ => trivial, ?_, (fun h => by cases h), callsIn_wide.2 ?_⟩
 ·rw [← hW1, hrec]; exact run_enterLoop_outer _ _ _ _ _
 ·simp only [resolve, hg]
  simp [go_sem]
 ·simp [invoke, go_sem, eg]
 ·refine (hit (w.heap.size + 1)
   (fun k W => I k W ∧ W.heap[w.heap.size + 1]? = some (.loop (rec .ready none)) ∧ W.heap[w.heap.size]? = some (.deferred (some [])))
   (fun k W => ∃ c, Ix c k W ∧ W.heap[w.heap.size + 1]? = some (.loop (rec .done (some c))) ∧ W.heap[w.heap.size]? = some (.deferred (some [])))
   W1 ?_ ?_ (fun k W h => hM k W h.1) ?_ ⟨hI1, hL1, hK1⟩).mono ?_
  ·rintro k W W' ⟨h1, h2, h3⟩ hk
   exact ⟨hI k W W' h1 (Only.of_kp hk), (hk.heap (Array.getElem?_eq_some_iff.1 h2).1).trans h2, (hk.heap (Array.getElem?_eq_some_iff.1 h3).1).trans h3⟩
  ·rintro k W W' ⟨c, h1, h2, h3⟩ hk
   exact ⟨c, hIx c k W W' h1 (Only.of_kp hk), (hk.heap (Array.getElem?_eq_some_iff.1 h2).1).trans h2, (hk.heap (Array.getElem?_eq_some_iff.1 h3).1).trans h3⟩
  ·rintro k W hk ⟨hi, hl, hd⟩
   have hlt : w.heap.size + 1 < W.heap.size := (Array.getElem?_eq_some_iff.1 hl).1
   have hy := run_yield (P := P) (args := xs k) hl (by rw [hrec]; exact hps k hk)
   rw [hrec] at hy
   refine ⟨fn, _, assign, body, hy, roundIn_of_wpIn trivial (wpIn_mono (hround _ k W hk hi hlt) ?_)⟩
   rintro e₀ a' W' hq
   rcases e₀ with _ | id | t | _ | ch | _
   rotate_left
   ·exact hq.elim
   ·exact hq.elim
   ·exact hq.elim
   ·exact hq.elim
   ·exact hq.elim
   obtain ⟨hkp, J, hj, hJ, hbody⟩ := hq
   replace hl := hkp.2.trans hl
   replace hd := hkp.1.trans hd
   replace hlt : w.heap.size + 1 < W'.heap.size := (Array.getElem?_eq_some_iff.1 hl).1
   refine ⟨_, run_beginRound hl (by rw [hrec]), ?_⟩
   have hl2 : (W'.putObj (w.heap.size + 1) (.loop { rec .ready none with state := .busy })).heap[w.heap.size + 1]? = some (.loop { rec .ready none with state := .busy }) := World.putObj_heap_same hlt
   have hd2 : (W'.putObj (w.heap.size + 1) (.loop { rec .ready none with state := .busy })).heap[w.heap.size]? = some (.deferred (some [])) := (World.putObj_heap_other (by omega)).trans hd
   have hi2 : J (W'.putObj (w.heap.size + 1) (.loop { rec .ready none with state := .busy })) := hJ _ _ hj ((Only.refl _ _).putObj (by simp) _)
   refine wpIn_mono (hbody _ hi2 (by simpa using hlt)) ?_
   have fin : ∀ (jump : Option Code) (W3 : World), Kept2 w (W'.putObj (w.heap.size + 1) (.loop { rec .ready none with state := .busy })) W3 →
     (Instr.endRound (w.heap.size + 1) jump).run P W3 = .ok (.bool jump.isNone) (W3.putObj (w.heap.size + 1) (.loop (rec (if jump.isNone then .ready else .done) jump))) ∧
     (W3.putObj (w.heap.size + 1) (.loop (rec (if jump.isNone then .ready else .done) jump))).heap[w.heap.size + 1]? = some (.loop (rec (if jump.isNone then .ready else .done) jump)) ∧
     (W3.putObj (w.heap.size + 1) (.loop (rec (if jump.isNone then .ready else .done) jump))).heap[w.heap.size]? = some (.deferred (some [])) := fun jump W3 hk3 => by
    have hl3 := hk3.2.trans hl2
    have hd3 := hk3.1.trans hd2
    have := run_endRound (P := P) jump hl3
    rw [hrec] at this ⊢
    exact ⟨this, World.putObj_heap_same (Array.getElem?_eq_some_iff.1 hl3).1, (World.putObj_heap_other (by omega)).trans hd3⟩
   rintro e a3 W3 hp
   cases e with
   | normal =>
    obtain ⟨hr, hl4, hd4⟩ := fin none W3 hp.1
    exact ⟨_, _, hr, .inl ⟨rfl, hI _ _ _ hp.2 ((Only.refl _ _).putObj (by simp) _), hl4, hd4⟩⟩
   | ret =>
    obtain ⟨hr, hl4, hd4⟩ := fin (some .ret) W3 hp.1
    exact ⟨_, _, hr, .inr ⟨rfl, .ret, hIx _ _ _ _ hp.2 ((Only.refl _ _).putObj (by simp) _), hl4, hd4⟩⟩
   | exit id =>
    obtain ⟨hr, hl4, hd4⟩ := fin (some (.exit id)) W3 hp.1
    exact ⟨_, _, hr, .inr ⟨rfl, .exit id, hIx _ _ _ _ hp.2 ((Only.refl _ _).putObj (by simp) _), hl4, hd4⟩⟩
   | goto t =>
    obtain ⟨hr, hl4, hd4⟩ := fin (some (.goto t)) W3 hp.1
    exact ⟨_, _, hr, .inr ⟨rfl, .goto t, hIx _ _ _ _ hp.2 ((Only.refl _ _).putObj (by simp) _), hl4, hd4⟩⟩
   | panic ch => exact hp.elim
   | outgrown => exact hp.elim
  ·rintro e W3 ⟨rfl, h | ⟨k, hk0, hkN, c, hix, hl, hd⟩⟩
   ·obtain ⟨hi, hl, hd⟩ := h
    have hend := run_endLoop (P := P) hl (by rw [hrec]; simp)
    have hpn : (rec .ready none).pending = none := by rw [hrec]
    rw [hpn] at hend
    refine ⟨none, _, hend, ?_⟩
    exact hdone _ (hI _ _ _ hi ((Only.refl _ _).putObj (by simp) _)) ((World.putObj_heap_other (by omega)).trans hd)
   ·have hend := run_endLoop (P := P) hl (by rw [hrec]; simp)
    have hpn : (rec .done (some c)).pending = some c := by rw [hrec]
    rw [hpn] at hend
    refine ⟨some c, _, hend, ?_⟩
    refine (wpIn_wide (n := 0)).2 (hstop c k _ hk0 hkN (hIx _ _ _ _ hix ((Only.refl _ _).putObj (by simp) _)) ((World.putObj_heap_other (by omega)).trans hd))
theorem vdq {P : Program} {g : Operand} {ps : Array Tmp} {assign body : Code} {id : Nat} {Q : Exit → Act → World → Prop} {a : Act} {w : World} {gf : FuncId} {caps : Array Value} {N : Nat} {xs : Nat → Array Value} {M : World → Prop}
  (hg : a.eval g = .func (.func gf) #[] caps) (eg : ∀ args w, (callFunc gf args).run P w = .ok (.enter gf args) w) (hit : Iter P gf caps N xs M) (hps : ∀ k, k < N → (xs k).size = ps.size)
  (I Z : Nat → World → Prop) (S : World → Prop)
  (hI : ∀ k W W', I k W → Only [w.heap.size, w.heap.size + 1] W W' → I k W') (hZ : ∀ k W W', Z k W → Only [w.heap.size, w.heap.size + 1] W W' → Z k W')
  (hM : ∀ k W, I k W → M W) (h0 : I 0 w)
  (hIS : ∀ W, I N W → S W) (hZS : ∀ k W, 0 < k → k ≤ N → Z k W → S W)
  (hround : ∀ l k W, k < N → I k W → w.heap.size + 1 < W.heap.size → assign.wpIn (Fence.wide.inRound l) 0 P (Exit.then (fun a' W' => Kept2 w W W' ∧ ∃ J : World → Prop, J W' ∧ (∀ V V', J V → Only [w.heap.size, w.heap.size + 1] V V' → J V') ∧ ∀ W2, J W2 → w.heap.size + 1 < W2.heap.size → body.wpIn (Fence.wide.inRound l) 0 P (rndPost w I (fun c k W => c = .exit id ∧ Z k W) (k + 1) W2) a' W2) (fun _ _ _ => False))
   { tmps := (ps.zip (xs k)).foldl (fun t (p, v) => t.setIfInBounds p v) a.tmps, defers := [] } W)
  (rest : ∀ W, S W → W.heap[w.heap.size]? = some (.deferred (some [])) → Q .normal { a with defers := { target := .collected w.heap.size, args := #[] } :: a.defers } W) :
  (Code.rangeFunc g ps assign body).wp P (Exit.inBlock id Q) a w := by
 refine vhf hg eg hit hps I (fun c k W => c = .exit id ∧ Z k W) hI (fun c k W W' h hO => ⟨h.1, hZ k W W' h.2 hO⟩) hM h0 hround (fun W h hd => rest W (hIS W h) hd) ?_
 rintro c k W h1 h2 ⟨rfl, hz⟩ hd
 refine wp_exit ?_
 show (if id = id then Q .normal _ _ else Q (.exit id) _ _)
 rw [if_pos rfl]
 exact rest W (hZS k W h1 h2 hz) hd
end

end Go.Proofs.YtffckpkikdlbpaaGreatDoor
