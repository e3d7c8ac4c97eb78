/- Lemmas and contracts for the theorem of this claim: GdA, LfA, LfS, RhL, SoL, SoA. -/
import Derived.Test.YtffckpkikdlbpaaGreatDoorZuAw
import Derived.Shelf.SlSortCmp.WholeK
set_option linter.all false
set_option maxHeartbeats 16000000
namespace Go.Proofs.YtffckpkikdlbpaaGreatDoor
section
open Go.RowKit
theorem viE (x : Nat) : ((x : Int) / 2) = ((x / 2 : Nat) : Int) := by omega
theorem vkK (x : Nat) : ((x : Int) % 2) = ((x % 2 : Nat) : Int) := by omega
set_option maxRecDepth 100000 in
theorem vkL (a i : Nat) (w : World) (ha : a < 4294967296) (hi : i < 32) : Calls Tryz.prog 165 #[.int .u32 a, .int .i64 i] w fun e w' => e = .returned (.int .i64 (bitN a i)) ∧ w = w' := by
 obtain ⟨r, hr⟩ : ∃ r, bitN a i = r := ⟨_, rfl⟩
 rw [hr]
 have Hr := Lib.hid hr; clear hr
 have d1 : decide ((i : Int) < 0) = false := by simp
 have d2 : decide ((31 : Int) < i) = false := by simp; omega
 go_enter Tryz.func165, Tryz.ntmps165
 go_wp2_with fail
 go_loop [5, 6] (fun n k => ∃ m x : Nat, i ≤ m ∧ m ≤ 31 ∧ k = .int .i64 m ∧ n = .int .i64 x ∧ x < 4294967296 ∧ Hid (x = a / 2 ^ (31 - m))) (fun _ k => (intOf k).toNat)
 case atStart => exact ⟨31, a, by omega, by omega, rfl, rfl, ha, Lib.hid (by simp)⟩
 case round =>
  obtain ⟨m, x, him, hm, rfl, rfl, hx, hxe⟩ := hrel
  by_cases hlt : i < m
  ·have hd : decide ((i : Int) < m) = true := by simpa using hlt
   go_wp2_with fail
   go_round
   case rel =>
    refine ⟨m - 1, x / 2, by omega, by omega, ?_, by rw [← viE], by omega, ?_⟩
    ·have e : ((m : Int) - 1) = ((m - 1 : Nat) : Int) := by omega
     rw [e]
    ·rw [hxe.out, viD]; congr 2; omega
   case measure => simp [intOf]; omega
  ·obtain rfl : m = i := by omega
   have hd : decide ((m : Int) < m) = false := by simp
   go_wp2_with fail
   go_ret
   refine ⟨?_, rfl⟩
   rw [vkK, hxe.out, vnk hi, Hr.out]
   rfl
set_option maxRecDepth 100000 in
theorem viF (n : Nat) (w : World) (hn : n ≤ 32) : Calls Tryz.prog 127 #[.int .i64 n] w fun e w' => e = .returned (.int .u32 (maskN n)) ∧ w = w' := by
 have HR := Lib.hid (vmH hn)
 go_enter Tryz.func127, Tryz.ntmps127
 go_wp2_with fail
 go_loop [3, 4] (fun v k => ∃ i : Nat, i ≤ 32 ∧ k = .int .i64 i ∧ v = .int .u32 (mskN n i)) (fun _ k => 32 - (intOf k).toNat)
 case atStart => exact ⟨0, by omega, rfl, by rw [vkH]; rfl⟩
 case round =>
  obtain ⟨i, hi, rfl, rfl⟩ := hrel
  by_cases hlt : i < 32
  ·have hd : decide ((i : Int) < 32) = true := by simp; omega
   have hb := vnj n i
   have hb2 : 2 ^ i ≤ 2 ^ 31 := Nat.pow_le_pow_right (by omega) (by omega)
   have hb3 : mskN n i < 2147483648 := Nat.lt_of_lt_of_le hb (by simpa using hb2)
   clear hb hb2
   obtain ⟨x, hx⟩ : ∃ x, mskN n i = x := ⟨_, rfl⟩
   rw [hx] at hb3 ⊢
   have Hx := Lib.hid hx; clear hx
   by_cases hin : i < n
   ·have hd2 : decide ((i : Int) < n) = true := by simpa using hin
    have hd3 : decide (i < n) = true := by simpa using hin
    go_wp2_with fail
    go_round
    case rel => exact ⟨i + 1, by omega, by go_num, by rw [vkI hin, Hx.out]; simp⟩
    case measure => simp [intOf]; omega
   ·have hd2 : decide ((i : Int) < n) = false := by simpa using hin
    have hd3 : decide (i < n) = false := by simpa using hin
    go_wp2_with fail
    go_round
    case rel => exact ⟨i + 1, by omega, by go_num, by rw [vkJ hin, Hx.out]; simp⟩
    case measure => simp [intOf]; omega
  ·obtain rfl : i = 32 := by omega
   rw [HR.out]
   go_wp2_with fail
   go_ret
   exact ⟨rfl, rfl⟩
set_option maxRecDepth 100000 in
theorem vdI (p : PI) (w : World) (ha : p.a < 4294967296) : Calls Tryz.prog 125 #[.agg #[.int .u32 p.a, .int .i64 p.l]] w fun e w' => e = .returned (.bool p.okB) ∧ Kp w w' := by
 obtain ⟨W, hW, kW, B0⟩ := Blk.al1 (w := w) rfl #[.int .u32 p.a, .int .i64 p.l] 29
 obtain ⟨p0, p1⟩ := Blk.p2 B0
 obtain ⟨r, hr⟩ : ∃ r, p.okB = r := ⟨_, rfl⟩
 rw [hr]
 have Hr := Lib.hid hr; clear hr
 by_cases h0 : p.l < 0
 ·have d0 : decide (p.l < 0) = true := by simpa using h0
  obtain rfl : r = false := by rw [← Hr.out]; simp [PI.okB]; omega
  clear h0 Hr
  go_enter Tryz.func125, Tryz.ntmps125
  go_wp2_with fail
  go_ret
  exact ⟨rfl, kW⟩
 have d0 : decide (p.l < 0) = false := by simpa using h0
 by_cases h1 : 32 < p.l
 ·have d1 : decide (32 < p.l) = true := by simpa using h1
  obtain rfl : r = false := by rw [← Hr.out]; simp [PI.okB]; omega
  clear h0 h1 Hr
  go_enter Tryz.func125, Tryz.ntmps125
  go_wp2_with fail
  go_ret
  exact ⟨rfl, kW⟩
 have d1 : decide (32 < p.l) = false := by simpa using h1
 obtain ⟨n, hn⟩ : ∃ n : Nat, p.l = (n : Int) := ⟨p.l.toNat, by omega⟩
 have hn32 : n ≤ 32 := by omega
 have Hok : Hid (r = decide (cut p.a n = p.a)) := by
  rw [← Hr.out]
  have e : p.l.toNat = n := by omega
  unfold PI.okB
  rw [e]
  exact Lib.hid (by congr 1; simp; omega)
 rw [hn] at p1 d0 d1 hW ⊢
 clear h0 h1 hn Hr B0
 go_enter Tryz.func125, Tryz.ntmps125
 go_wp2_with fail
 go_loop [3] (fun k => ∃ i : Nat, n ≤ i ∧ i ≤ 32 ∧ k = .int .i64 i ∧ Hid (∀ j, n ≤ j → j < i → bitN p.a j = 0)) (fun k => 32 - (intOf k).toNat)
 case atStart => exact ⟨n, Nat.le_refl _, hn32, rfl, fun j h1 h2 => absurd h2 (by omega)⟩
 case round =>
  obtain ⟨i, hni, hi, rfl, hall⟩ := hrel
  by_cases hlt : i < 32
  ·have hd : decide ((i : Int) < 32) = true := by simp; omega
   have hbl := vln p.a i
   go_wp2_with fail
   refine (vkL p.a i _ ha hlt).mono ?_
   rintro e w' ⟨rfl, rfl⟩
   by_cases hb : bitN p.a i = 0
   ·rw [hb]
    have Hb := Lib.hid hb; clear hb
    go_wp2_with fail
    go_round
    case rel =>
     refine ⟨i + 1, by omega, by omega, by go_num, fun j h1 h2 => ?_⟩
     rcases Nat.lt_or_ge j i with h3 | h3
     ·exact hall.out j h1 h3
     ·obtain rfl : j = i := by omega
      exact Hb.out
    case measure => simp [intOf]; omega
   ·obtain rfl : r = false := by
     rw [Hok.out]
     simp only [decide_eq_false_iff_not]
     intro hc
     exact hb ((vew hn32).2 hc i hni hlt)
    obtain ⟨x, hx⟩ : ∃ x, bitN p.a i = x := ⟨_, rfl⟩
    rw [hx] at hb hbl ⊢
    obtain rfl : x = 1 := by omega
    clear hb hbl hx
    go_wp2_with fail
    go_ret
    exact ⟨rfl, kW⟩
  ·obtain rfl : i = 32 := by omega
   obtain rfl : r = true := by
    rw [Hok.out]
    simp only [decide_eq_true_eq]
    exact (vew hn32).1 (fun j h1 h2 => hall.out j h1 h2)
   go_wp2_with fail
   go_ret
   exact ⟨rfl, kW⟩
def RPartsP (m : Nat) (w : World) (e : Ending) (w' : World) : Prop := ∃ y z u : Int, e = .returned (.agg #[.int .i64 m, .int .i64 y, .int .i64 z, .int .i64 u]) ∧ Kp w w'
set_option maxRecDepth 100000 in
theorem vfz (a m : Nat) (w : World) (ha : a < 4294967296) (hm : a / 16777216 = m) : Calls Tryz.prog 190 #[.int .u32 a] w (RPartsP m w) := by
 have Hm := Lib.hid hm; clear hm
 go_enter Tryz.func190, Tryz.ntmps190
 go_wp2_with fail
 exact bodyPost_ret (v := .agg #[.int .i64 ((a : Int) / 16777216), .int .i64 ((a : Int) / 65536 % 256), .int .i64 ((a : Int) / 256 % 256), .int .i64 ((a : Int) % 256)]) (by simp [results, Tryz.results190, go_sem]) rfl ⟨_, _, _, by rw [← Hm.out]; rfl, (Kp.refl _).alloc _⟩
set_option maxRecDepth 100000 in
theorem veP (a : Nat) (w : World) (ha : a < 4294967296) : Calls Tryz.prog 166 #[.int .u32 a] w fun e w' => e = .returned (.int .i64 (kindAd a)) ∧ Kp w w' := by
 obtain ⟨r, hr⟩ : ∃ r, kindAd a = r := ⟨_, rfl⟩
 rw [hr]
 obtain ⟨m, hm⟩ : ∃ m, a / 16777216 = m := ⟨_, rfl⟩
 have hm2 : m < 256 := by omega
 unfold kindAd at hr
 rw [hm] at hr
 have Hm := Lib.hid hm; clear hm
 have hall : Hid ((a = 0 ∧ r = 1) ∨ (a ≠ 0 ∧ m = 0 ∧ r = 2) ∨ (a ≠ 0 ∧ m = 127 ∧ r = 3) ∨ (a ≠ 0 ∧ 224 ≤ m ∧ m ≤ 239 ∧ r = 4) ∨ (a ≠ 0 ∧ 240 ≤ m ∧ r = 5) ∨ (a ≠ 0 ∧ m ≠ 0 ∧ m ≠ 127 ∧ m < 224 ∧ r = 6)) := by
  revert hr
  by_cases h0 : a = 0
  ·rw [if_pos h0]; intro hr; exact .inl ⟨h0, hr.symm⟩
  rw [if_neg h0]
  by_cases h1 : m = 0
  ·rw [if_pos h1]; intro hr; exact .inr (.inl ⟨h0, h1, hr.symm⟩)
  rw [if_neg h1]
  by_cases h2 : m = 127
  ·rw [if_pos h2]; intro hr; exact .inr (.inr (.inl ⟨h0, h2, hr.symm⟩))
  rw [if_neg h2]
  by_cases h3 : 224 ≤ m ∧ m ≤ 239
  ·rw [if_pos h3]; intro hr; exact .inr (.inr (.inr (.inl ⟨h0, h3.1, h3.2, hr.symm⟩)))
  rw [if_neg h3]
  by_cases h4 : 240 ≤ m
  ·rw [if_pos h4]; intro hr; exact .inr (.inr (.inr (.inr (.inl ⟨h0, h4, hr.symm⟩))))
  rw [if_neg h4]
  intro hr
  exact .inr (.inr (.inr (.inr (.inr ⟨h0, h1, h2, by omega, hr.symm⟩))))
 clear hr
 go_enter Tryz.func166, Tryz.ntmps166
 go_wp2_with fail
 refine (vfz a m w ha Hm.out).mono ?_
 rintro e w1 ⟨y, z, u, rfl, hK⟩
 rcases hall.out with ⟨h0, rfl⟩ | ⟨h0, h1, rfl⟩ | ⟨h0, h1, rfl⟩ | ⟨h0, h1, h2, rfl⟩ | ⟨h0, h1, rfl⟩ | ⟨h0, h1, h2, h3, rfl⟩
 ·subst h0
  clear hall
  go_wp2_with fail
  go_ret
  exact ⟨rfl, hK.alloc _⟩
 ·have q0 : ((a : Int) == 0) = false := by simpa using h0
  subst h1
  clear hall h0
  go_wp2_with fail
  go_ret
  exact ⟨rfl, hK.alloc _⟩
 ·have q0 : ((a : Int) == 0) = false := by simpa using h0
  subst h1
  clear hall h0
  go_wp2_with fail
  go_ret
  exact ⟨rfl, hK.alloc _⟩
 ·have q0 : ((a : Int) == 0) = false := by simpa using h0
  have q1 : ((m : Int) == 0) = false := by simp; omega
  have q2 : ((m : Int) == 127) = false := by simp; omega
  have q3 : decide ((224 : Int) ≤ m) = true := by simp; omega
  have q4 : decide ((m : Int) ≤ 239) = true := by simp; omega
  clear hall h0
  go_wp2_with fail
  go_ret
  exact ⟨rfl, hK.alloc _⟩
 ·have q0 : ((a : Int) == 0) = false := by simpa using h0
  have q1 : ((m : Int) == 0) = false := by simp; omega
  have q2 : ((m : Int) == 127) = false := by simp; omega
  have q3 : decide ((224 : Int) ≤ m) = true := by simp; omega
  have q4 : decide ((m : Int) ≤ 239) = false := by simp; omega
  have q5 : decide ((240 : Int) ≤ m) = true := by simp; omega
  clear hall h0
  go_wp2_with fail
  go_ret
  exact ⟨rfl, hK.alloc _⟩
 ·have q0 : ((a : Int) == 0) = false := by simpa using h0
  have q1 : ((m : Int) == 0) = false := by simp; omega
  have q2 : ((m : Int) == 127) = false := by simp; omega
  have q3 : decide ((224 : Int) ≤ m) = false := by simp; omega
  have q5 : decide ((240 : Int) ≤ m) = false := by simp; omega
  clear hall h0
  go_wp2_with fail
  go_ret
  exact ⟨rfl, hK.alloc _⟩
set_option maxRecDepth 100000 in
theorem vkM (a n : Nat) (w : World) (ha : a < 4294967296) (hn : n ≤ 32) : Calls Tryz.prog 126 #[.int .u32 a, .int .u32 (maskN n)] w fun e w' => e = .returned (.bool (badKind a n)) ∧ Kp w w' := by
 obtain ⟨r, hr⟩ : ∃ r, badKind a n = r := ⟨_, rfl⟩
 rw [hr]
 have hk := vcU a
 have hmm := vhQ n hn
 unfold badKind at hr
 have Hk := Lib.hid (veP a w ha)
 obtain ⟨k, hkk⟩ : ∃ k, kindAd a = k := ⟨_, rfl⟩
 rw [hkk] at hr hk Hk
 obtain ⟨mm, hM⟩ : ∃ mm, maskN n = mm := ⟨_, rfl⟩
 rw [hM] at hmm ⊢
 clear hkk hM
 have Hmm := Lib.hid hmm; clear hmm
 have hcase : k = 1 ∨ k = 2 ∨ k = 3 ∨ k = 4 ∨ k = 5 ∨ k = 6 := by omega
 clear hk
 rcases hcase with rfl | rfl | rfl | rfl | rfl | rfl
 ·simp only [show ¬ (1 = 6) by omega, if_false, if_true] at hr
  rw [hr] at Hmm
  have hm := Hmm.out
  clear hr
  go_enter Tryz.func126, Tryz.ntmps126
  go_wp2_with fail
  refine Hk.out.mono ?_
  rintro e w1 ⟨rfl, hK⟩
  cases r
  all_goals
   go_wp2_with fail
   go_ret
   exact ⟨rfl, hK⟩
 all_goals
  simp at hr
  subst hr
  go_enter Tryz.func126, Tryz.ntmps126
  go_wp2_with fail
  refine Hk.out.mono ?_
  rintro e w1 ⟨rfl, hK⟩
  go_wp2_with fail
  go_ret
  exact ⟨rfl, hK⟩
set_option maxRecDepth 100000 in
theorem vbj (p : PI) (w : World) (ha : p.a < 4294967296) : Calls Tryz.prog 87 #[.agg #[.int .u32 p.a, .int .i64 p.l]] w fun e w' => e = .returned (.bool (toldB p)) ∧ Kp w w' := by
 obtain ⟨W, hW, kW, B0⟩ := Blk.al1 (w := w) rfl #[.int .u32 p.a, .int .i64 p.l] 29
 obtain ⟨p0, p1⟩ := Blk.p2 B0
 cases hok : p.okB with
 | false =>
  have Ht : Hid (toldB p = false) := Lib.hid (by simp [toldB, hok])
  have Hok := Lib.hid hok; clear hok
  go_enter Tryz.func87, Tryz.ntmps87
  go_wp2_with fail
  refine vmI (by kernel_rfl) (fun V hV => ?_)
  have KV : Kp W V := by rw [hV]; exact (Kp.refl _).drew
  clear hV
  have q0 := KV.cell p0
  have q1 := KV.cell p1
  clear p0 p1
  refine wpAny_ready (rs := [0]) (by kernel_rfl) (by simp) ?_
  refine AllReady.cons rfl (fun K hK => ?_) AllReady.nil
  go_simp
  refine hK _ _ ?_
  clear hK K
  refine wpAny_ready (rs := [1]) (by kernel_rfl) (by simp) ?_
  refine AllReady.cons rfl (fun K hK => ?_) AllReady.nil
  go_simp
  refine (vdI p _ ha).mono ?_
  rintro e wa ⟨rfl, hKa⟩
  rw [Hok.out]
  refine hK _ _ ?_
  clear hK K
  refine wpAny_take (i := 2) (v := .bool false) rfl (by kernel_rfl) (by kernel_rfl) (by kernel_rfl) (fun _ _ _ h => h) (Or.inl ⟨by rfl, fun w => by go_simp⟩) ?_
  refine wpAny_take (i := 3) (v := undef) rfl (by kernel_rfl) (by kernel_rfl) (by kernel_rfl) (fun _ _ _ h => h) (Or.inr ⟨by rfl, rfl⟩) ?_
  refine wpAny_take (i := 4) (v := undef) rfl (by kernel_rfl) (by kernel_rfl) (by kernel_rfl) (fun _ _ _ h => h) (Or.inr ⟨by rfl, rfl⟩) ?_
  refine wpAny_take (i := 5) (v := undef) rfl (by kernel_rfl) (by kernel_rfl) (by kernel_rfl) (fun _ _ _ h => h) (Or.inr ⟨by rfl, rfl⟩) ?_
  refine wpAny_take (i := 6) (v := undef) rfl (by kernel_rfl) (by kernel_rfl) (by kernel_rfl) (fun _ _ _ h => h) (Or.inr ⟨by rfl, rfl⟩) ?_
  refine wpAny_take (i := 7) (v := undef) rfl (by kernel_rfl) (by kernel_rfl) (by kernel_rfl) (fun _ _ _ h => h) (Or.inr ⟨by rfl, rfl⟩) ?_
  refine wpAny_take (i := 8) (v := undef) rfl (by kernel_rfl) (by kernel_rfl) (by kernel_rfl) (fun _ _ _ h => h) (Or.inr ⟨by rfl, rfl⟩) ?_
  refine wpAny_take (i := 9) (v := undef) rfl (by kernel_rfl) (by kernel_rfl) (by kernel_rfl) (fun _ _ _ h => h) (Or.inr ⟨by rfl, rfl⟩) ?_
  refine vdB 10 rfl (by kernel_rfl) ?_
  simp only [List.drop_succ_cons, List.drop_zero]
  go_wp2_with fail
  go_ret
  exact ⟨by rw [Ht.out]; rfl, (kW.trans KV).trans hKa⟩
 | true =>
  have hq := of_decide_eq_true hok
  obtain ⟨n, hn⟩ : ∃ n : Nat, p.l = (n : Int) := ⟨p.l.toNat, by omega⟩
  have hn32 : n ≤ 32 := by omega
  have Ht : Hid (toldB p = !badKind p.a n) := Lib.hid (by simp [toldB, hok, hn])
  have Hok := Lib.hid hok; clear hok hq
  have HR := Lib.hid (fun w => vdI p w ha)
  rw [hn] at hW p1 B0 HR ⊢
  clear hn
  go_enter Tryz.func87, Tryz.ntmps87
  go_wp2_with fail
  go_region_held3 (fun w' => w'.cell? ⟨w.heap.size, 0, none⟩ = some (.int .u32 p.a) ∧ w'.cell? ⟨w.heap.size, 1, none⟩ = some (.int .i64 n)) (first | exact ⟨(Ka.trans Kb).cell p0, (Ka.trans Kb).cell p1⟩ | exact ⟨Ka.cell p0, Ka.cell p1⟩ | go_keep) (first | (go_at_call 125; refine (HR.out _).mono ?_; rintro e wa ⟨rfl, hKa⟩; rw [Hok.out]; have Ka : Kp W wa := (Kp.refl W).drew.trans hKa) | (go_at_call 127; refine (viF n _ hn32).mono ?_; rintro e w' ⟨rfl, rfl⟩) | (go_at_call 126; refine (vkM p.a n _ ha hn32).mono ?_; rintro e wb ⟨rfl, Kb⟩))
  go_wp2_with fail
  go_ret
  exact ⟨by rw [Ht.out]; rfl, (kW.trans Ka).trans Kb⟩
theorem viG (f : Int) (x : Nat) (w : World) (hx : x < 4294967296) : Calls Tryz.prog 128 #[.int .i64 f, .int .u32 x] w fun e w' => e = .returned (.bool (mayB f x)) ∧ Kp w w' := by
 obtain ⟨r, hr⟩ : ∃ r, mayB f x = r := ⟨_, rfl⟩
 rw [hr]
 have Hk := Lib.hid (veP x w hx)
 unfold mayB withB at hr
 obtain ⟨k, hkk⟩ : ∃ k, kindAd x = k := ⟨_, rfl⟩
 rw [hkk] at hr Hk
 clear hkk
 by_cases h0 : f < 0
 ·obtain rfl : r = false := by rw [← hr]; simp [h0]
  have d0 : decide (0 ≤ f) = false := by simp; omega
  clear hr h0
  go_enter Tryz.func128, Tryz.ntmps128
  go_wp2_with fail
  go_ret
  exact ⟨rfl, Kp.refl _⟩
 have d0 : decide (0 ≤ f) = true := by simp; omega
 by_cases h1 : 15 < f
 ·obtain rfl : r = false := by rw [← hr]; simp [h1]
  have d1 : decide (f ≤ 15) = false := by simp; omega
  clear hr h0 h1
  go_enter Tryz.func128, Tryz.ntmps128
  go_wp2_with fail
  go_ret
  exact ⟨rfl, Kp.refl _⟩
 have d1 : decide (f ≤ 15) = true := by simp; omega
 have hr' : ((k : Int) == 6) = r := by rw [← hr]; simp [h0, h1]
 have Hr := Lib.hid hr'
 clear hr h0 h1 hr'
 go_enter Tryz.func128, Tryz.ntmps128
 go_wp2_with fail
 refine Hk.out.mono ?_
 rintro e w1 ⟨rfl, hK⟩
 have hr := Hr.out
 go_wp2_with fail
 go_ret
 exact ⟨rfl, hK⟩
end

section
open Go.RowKit
theorem vad {fn : Func} {k g : Nat} {ts : Array Value} {W : World} {R : Rt} (hf : fn.results = #[.cell k 48]) (hk : ts.getD k undef = .pointer (some ⟨g, 0, none⟩)) (B : Blk W g 48 (roC R)) : (results fn ts).run Tryz.prog W = .ok (roV R) W := by
 obtain ⟨u0, u1, u2, u3, u4, u5, u6, u7, u8⟩ := vab B
 rw [Array.getD_eq_getD_getElem?] at hk
 simp [results, hf, hk, go_sem, u0, u1, u2, u3, u4, u5, u6, u7, u8]
set_option maxRecDepth 100000 in
theorem vbY (now : Int) (w : World) : Calls Tryz.prog 129 #[.int .i64 now] w fun e w' => e = .returned (.bool (okNow now)) ∧ w = w' := by
 by_cases h0 : 0 ≤ now
 ·have d0 : decide (0 ≤ now) = true := decide_eq_true h0
  by_cases h1 : now ≤ 4611686018426387904
  ·have d1 : decide (now ≤ 4611686018426387904) = true := decide_eq_true h1
   have H := Lib.hid (show okNow now = true by rw [okNow, vaa]; exact ⟨h0, h1⟩)
   go_enter Tryz.func129, Tryz.ntmps129
   go_wp2_with fail
   go_ret
   exact ⟨by rw [H.out]; rfl, rfl⟩
  ·have d1 : decide (now ≤ 4611686018426387904) = false := decide_eq_false h1
   have H := Lib.hid (show okNow now = false by rw [Bool.eq_false_iff]; intro z; rw [okNow, vaa] at z; exact h1 z.2)
   go_enter Tryz.func129, Tryz.ntmps129
   go_wp2_with fail
   go_ret
   exact ⟨by rw [H.out]; rfl, rfl⟩
 ·have d0 : decide (0 ≤ now) = false := decide_eq_false h0
  have H := Lib.hid (show okNow now = false by rw [Bool.eq_false_iff]; intro z; rw [okNow, vaa] at z; exact h0 z.1)
  go_enter Tryz.func129, Tryz.ntmps129
  go_wp2_with fail
  go_ret
  exact ⟨by rw [H.out]; rfl, rfl⟩
set_option maxRecDepth 100000 in
theorem vbz (h : Hd) (w : World) (ha : h.a < 4294967296) : Calls Tryz.prog 88 #[.agg #[.int .i64 h.f, .int .u32 (h.a : Int), .int .i64 h.m]] w fun e w' => e = .returned (.bool (okHd h)) ∧ Kp w w' := by
 obtain ⟨b, hb⟩ : ∃ b, w.heap.size = b := ⟨_, rfl⟩
 obtain ⟨W, hW, kW, B0⟩ := Blk.al1 hb #[.int .i64 h.f, .int .u32 (h.a : Int), .int .i64 h.m] 31
 have p0 := Blk.f B0 rfl
 have HA := Lib.hid ha
 clear ha
 go_enter Tryz.func88, Tryz.ntmps88
 go_wp2_with fail
 clear hW p0
 refine (viG h.f h.a _ HA.out).mono ?_
 rintro e w1 ⟨rfl, K1⟩
 have K := kW.trans K1
 have p2 := Blk.f (B0.keep K1) rfl
 clear B0 K1 kW
 cases hs : mayB h.f h.a with
 | false =>
  have H := Lib.hid (show okHd h = false by unfold okHd; rw [hs]; rfl)
  clear hs
  go_wp2_with fail
  go_ret
  exact ⟨by rw [H.out] <;> rfl, K⟩
 | true =>
  have HS := Lib.hid hs
  clear hs
  by_cases h1 : 1 ≤ h.m
  ·have d1 : decide (1 ≤ h.m) = true := decide_eq_true h1
   by_cases h2 : h.m ≤ 16
   ·have d2 : decide (h.m ≤ 16) = true := decide_eq_true h2
    have H := Lib.hid (show okHd h = true by unfold okHd; rw [HS.out, Bool.true_and, vaa]; exact ⟨h1, h2⟩)
    go_wp2_with fail
    go_ret
    exact ⟨by rw [H.out] <;> rfl, K⟩
   ·have d2 : decide (h.m ≤ 16) = false := decide_eq_false h2
    have H := Lib.hid (show okHd h = false by unfold okHd; rw [HS.out, Bool.true_and, Bool.eq_false_iff]; intro z; rw [vaa] at z; exact h2 z.2)
    go_wp2_with fail
    go_ret
    exact ⟨by rw [H.out] <;> rfl, K⟩
  ·have d1 : decide (1 ≤ h.m) = false := decide_eq_false h1
   have H := Lib.hid (show okHd h = false by unfold okHd; rw [HS.out, Bool.true_and, Bool.eq_false_iff]; intro z; rw [vaa] at z; exact h1 z.1)
   go_wp2_with fail
   go_ret
   exact ⟨by rw [H.out] <;> rfl, K⟩
set_option maxRecDepth 100000 in
theorem vhc (p : PI) (w : World) : Calls Tryz.prog 80 #[pfV p] w fun e w' => e = .returned (roV (ownR p)) ∧ Kp w w' := by
 go_enter Tryz.func80, Tryz.ntmps80
 go_wp2_with fail
 exact bodyPost_ret (vad (g := w.heap.size + 1) (R := ownR p) rfl rfl (Blk.new1 w _ _ _)) rfl ⟨rfl, ((Kp.refl _).alloc _).alloc _⟩
set_option maxRecDepth 100000 in
theorem vae (c : Cf) (A : Option Addr) (n m : Nat) (r : Rt) (h : Hd) (M now : Int) (w : World) (hn0 : 0 ≤ now) (hn1 : now ≤ 4611686018426387904) (ht0 : 0 ≤ c.t2) (ht1 : c.t2 ≤ 1000000) :
  Calls Tryz.prog 130 #[cfV c A n m, roV r, .agg #[.int .i64 h.f, .int .u32 (h.a : Int), .int .i64 h.m], .int .i64 M, .int .i64 now] w fun e w' => e = .returned (roV ⟨r.p, 2, M, 0, h.f, h.a, now + c.t2, true⟩) ∧ Kp w w' := by
 go_enter Tryz.func130, Tryz.ntmps130
 go_wp2_with fail
 exact bodyPost_ret (vad (g := w.heap.size + 1 + 1 + 1) (R := ⟨r.p, 2, M, 0, h.f, h.a, now + c.t2, true⟩) rfl rfl (Blk.new3 w _ _ _ _ _)) rfl ⟨rfl, ((((Kp.refl _).alloc _).alloc _).alloc _).alloc _⟩
set_option maxRecDepth 100000 in
theorem vbZ (c : Cf) (A : Option Addr) (n m : Nat) (r : Rt) (now : Int) (w : World) (hn0 : 0 ≤ now) (hn1 : now ≤ 4611686018426387904) (ht0 : 0 ≤ c.t3) (ht1 : c.t3 ≤ 1000000) :
  Calls Tryz.prog 92 #[cfV c A n m, roV r, .int .i64 now] w fun e w' => e = .returned (roV (loseR c r now)) ∧ Kp w w' := by
 by_cases hs : r.s = 2
 ·have e2 : (r.s != 2) = false := by simp [hs]
  have H := Lib.hid (show loseR c r now = lostR c r now by unfold loseR; rw [if_pos hs])
  clear hs
  rw [H.out]
  go_enter Tryz.func92, Tryz.ntmps92
  go_wp2_with fail
  exact bodyPost_ret (vad (g := w.heap.size + 1 + 1) (R := lostR c r now) rfl rfl (Blk.new2 w _ _ _ _)) rfl ⟨rfl, (((Kp.refl _).alloc _).alloc _).alloc _⟩
 ·have e2 : (r.s != 2) = true := by simp [hs]
  have H := Lib.hid (show loseR c r now = r by unfold loseR; rw [if_neg hs])
  clear hs
  rw [H.out]
  go_enter Tryz.func92, Tryz.ntmps92
  go_wp2_with fail
  exact bodyPost_ret (vad (g := w.heap.size + 1 + 1) (R := r) rfl rfl (Blk.new2 w _ _ _ _)) rfl ⟨rfl, (((Kp.refl _).alloc _).alloc _).alloc _⟩
end

section
open Go.RowKit
theorem Blk.set9 {W : World} {g : Nat} {v0 v1 v2 v3 v4 v5 v6 v7 v8 : Value} {r : Rt} (B : Blk W g 48 (roC r)) :
  Blk (((((((((W.setCell ⟨g, 0, none⟩ v0).setCell ⟨g, 1, none⟩ v1).setCell ⟨g, 2, none⟩ v2).setCell ⟨g, 3, none⟩ v3).setCell ⟨g, 4, none⟩ v4).setCell ⟨g, 5, none⟩ v5).setCell ⟨g, 6, none⟩ v6).setCell ⟨g, 7, none⟩ v7).setCell ⟨g, 8, none⟩ v8) g 48 #[v0, v1, v2, v3, v4, v5, v6, v7, v8] := by
 have h := ((((((((B.set_ 0 v0).set_ 1 v1).set_ 2 v2).set_ 3 v3).set_ 4 v4).set_ 5 v5).set_ 6 v6).set_ 7 v7).set_ 8 v8
 have e : ((((((((((roC r).setIfInBounds 0 v0).setIfInBounds 1 v1).setIfInBounds 2 v2).setIfInBounds 3 v3).setIfInBounds 4 v4).setIfInBounds 5 v5).setIfInBounds 6 v6).setIfInBounds 7 v7).setIfInBounds 8 v8) = #[v0, v1, v2, v3, v4, v5, v6, v7, v8] := by
  unfold roC
  simp
 rw [e] at h
 exact h
theorem Kp.set9 {w W : World} {g : Nat} {v0 v1 v2 v3 v4 v5 v6 v7 v8 : Value} (k : Kp w W) (h : w.heap.size ≤ g) :
  Kp w (((((((((W.setCell ⟨g, 0, none⟩ v0).setCell ⟨g, 1, none⟩ v1).setCell ⟨g, 2, none⟩ v2).setCell ⟨g, 3, none⟩ v3).setCell ⟨g, 4, none⟩ v4).setCell ⟨g, 5, none⟩ v5).setCell ⟨g, 6, none⟩ v6).setCell ⟨g, 7, none⟩ v7).setCell ⟨g, 8, none⟩ v8) :=
 ((((((((k.setCell h _).setCell h _).setCell h _).setCell h _).setCell h _).setCell h _).setCell h _).setCell h _).setCell h _
end

section
open Go.RowKit
structure OwnT (T : Tb) : Prop where
 d : ∀ x ∈ T.l, x.s = 1 ↔ x.p ∈ T.c.own
 a : ∀ p ∈ T.c.own, ∃ x ∈ T.l, x.p = p
theorem OwnT.new (c : Cf) : OwnT (newT c) := by
 obtain ⟨-, h2, -⟩ := vaT c.own [] List.Pairwise.nil
 refine ⟨fun x hx => ?_, fun p hp => ⟨ownR p, (h2 _).2 (.inl ⟨p, hp, rfl⟩), rfl⟩⟩
 rcases (h2 x).1 hx with ⟨p, hp, rfl⟩ | ⟨hx, _⟩
 ·exact ⟨fun _ => hp, fun _ => rfl⟩
 ·simp at hx
theorem OwnT.set {T : Tb} (h : OwnT T) {r : Rt} (hr : r.s = 1 ↔ r.p ∈ T.c.own) (now rf : Int) : OwnT ⟨T.c, setR r T.l, now, rf⟩ := by
 refine ⟨fun x hx => ?_, fun p hp => ?_⟩
 ·rcases vao.1 hx with ⟨rfl, _⟩ | ⟨hx, _⟩
  ·exact hr
  ·exact h.d x hx
 ·obtain ⟨x, hx, e⟩ := h.a p hp
  by_cases e2 : r.p = p
  ·refine ⟨r, vao.2 (.inl ⟨rfl, ?_⟩), e2⟩
   have := hr.2 (by rw [e2]; exact hp)
   omega
  ·exact ⟨x, vao.2 (.inr ⟨hx, fun z => e2 (by rw [← z, e])⟩), e⟩
theorem OwnT.at {T : Tb} (h : OwnT T) (now rf : Int) : OwnT ⟨T.c, T.l, now, rf⟩ := ⟨h.d, h.a⟩
theorem vmJ {c : Cf} {r : Rt} {now : Int} (h2 : 2 ≤ r.s) : ¬ (expR c r now).s = 1 := by
 unfold expR
 repeat' split
 ·omega
 ·exact (by decide : ¬ (3 : Int) = 1)
 ·exact (by decide : ¬ (4 : Int) = 1)
 ·exact (by decide : ¬ (0 : Int) = 1)
theorem vgh {T : Tb} (now : Int) : ∀ (k : Nat) (M : List Rt), UpR M → OwnT ⟨T.c, M, now, T.rf⟩ → OwnT ⟨T.c, (expG T.c now k M).1, now, T.rf⟩
 | 0, M, _, hM => hM
 | k + 1, M, u, hM => by
  unfold expG
  split
  ·exact hM
  ·next r e =>
   split
   ·exact hM
   ·obtain ⟨h1, h2, _⟩ := (vay u).2 r e
    have h3 := hM.d r h1
    refine vgh now k _ (vaU _ u) (hM.set ?_ _ _)
    rw [exp_p]
    exact ⟨fun z => absurd z (vmJ h2), fun z => by have := h3.2 z; omega⟩
theorem OwnT.exp {T : Tb} (h : OwnT T) (u : UpR T.l) (now : Int) : OwnT (expT T now).1 := by
 unfold expT
 split
 ·exact vgh now 1000 T.l u (h.at _ _)
 ·exact h
theorem OwnT.seen {T : Tb} (h : OwnT T) : OwnT (seenT T).1 := by
 refine ⟨fun x hx => ?_, fun p hp => ?_⟩
 ·obtain ⟨y, hy, rfl⟩ := List.mem_map.1 hx
  exact h.d y hy
 ·obtain ⟨x, hx, e⟩ := h.a p hp
  exact ⟨seenR x, List.mem_map.2 ⟨x, hx, rfl⟩, e⟩
theorem viH (T : Tb) (p : PI) (k : Hd) (now : Int) : (heardT T p k now).1.c = T.c := by unfold heardT; (repeat' split) <;> rfl
theorem vlt (T : Tb) (f now : Int) : (lostT T f now).1.c = T.c := by unfold lostT; (repeat' split) <;> rfl
theorem exp_c (T : Tb) (now : Int) : (expT T now).1.c = T.c := by unfold expT; split <;> rfl
end

section
open Go.RowKit Go.Sort Go.Shelf
instance : Inhabited Rt := ⟨zeroR⟩
def cfR (x y : Rt) : Int := ordI x.p.a x.p.l y.p.a y.p.l
theorem vcS {x y : Rt} : ltOf cfR x y = true ↔ ltP x.p y.p := by
 unfold ltOf cfR
 rw [decide_eq_true_iff]
 exact vfZ
theorem vca {x y : Rt} : ltOf cfR x y = false ↔ ¬ ltP x.p y.p := by
 rw [← vcS]
 exact Bool.not_eq_true _ |>.symm ▸ Iff.rfl
theorem swoR : SWO (ltOf cfR) where
 irrefl x := vca.2 (fun h => vbv h rfl)
 trans x y z h1 h2 := vcS.2 (vdg (vcS.1 h1) (vcS.1 h2))
 ntrans x y z h1 h2 := by
  rw [vca] at *
  unfold ltP at *
  omega
theorem viI {L : List Rt} (u : UpR L) {d d' : Array Rt} (h0 : d.toList.Perm L) (hp : PermIn 0 d.size d d') (hs : SortedIn (ltOf cfR) 0 d.size d') : d'.toList = L := by
 obtain ⟨h1, _, h3⟩ := hp
 have e1 : d'.extract 0 d.size = d' := by rw [← h1]; simp
 have e2 : d.extract 0 d.size = d := by simp
 rw [e1, e2] at h3
 have hP := h3.trans h0
 have hn : (d'.toList.map Rt.p).Nodup := (hP.map Rt.p).nodup_iff.2 u.nodup
 refine UpR.eq_perm ?_ u hP
 unfold UpR
 rw [List.pairwise_iff_getElem]
 intro i j hi hj hij
 have hi' : i < d'.size := by simpa using hi
 have hj' : j < d'.size := by simpa using hj
 have h4 := hs i j (Nat.zero_le _) hij (by omega)
 rw [getElem!_pos d' i hi', getElem!_pos d' j hj', vca] at h4
 rw [Array.getElem_toList, Array.getElem_toList]
 rcases vdf d'[i].p d'[j].p with h | h | h
 ·exact h
 ·exact absurd (by rw [List.getElem_map, List.getElem_map]; simpa using h) (List.pairwise_iff_getElem.1 hn i j (by simpa using hi) (by simpa using hj) hij)
 ·exact absurd h h4
theorem vhd {w w' : World} (k : Kp w w') (h : w.drawn ≤ w'.drawn) : ∃ q os', w' = grow (w.drewN q) os' := by
 refine ⟨w'.drawn - w.drawn, w'.heap.extract w.heap.size w'.heap.size, ?_⟩
 have hs := k.size
 have hh : w'.heap = w.heap ++ w'.heap.extract w.heap.size w'.heap.size := by
  apply Array.ext_getElem?
  intro i
  by_cases hi : i < w.heap.size
  ·rw [Array.getElem?_append_left hi]
   exact k.heap hi
  ·rw [Array.getElem?_append_right (by omega), Array.getElem?_extract]
   by_cases hj : i < w'.heap.size
   ·rw [if_pos (by omega)]
    congr 1
    omega
   ·rw [if_neg (by omega), Array.getElem?_eq_none (by omega)]
 have ht := Below.tape k
 have ho := Below.os k
 have hu := Below.output k
 cases w with | mk h1 t1 d1 o1 u1 => cases w' with | mk h2 t2 d2 o2 u2 =>
 simp only at ht ho hu hh h hs ⊢
 subst ht ho hu
 unfold grow World.drewN
 simp only [World.mk.injEq, and_true, true_and]
 exact ⟨hh, by omega⟩
end

section
open Go.RowKit Go.Sort Go.Shelf
set_option maxRecDepth 100000 in
theorem vhe (a l b k : Int) (w : World) : Calls Tryz.prog 86 #[.agg #[.int .u32 a, .int .i64 l], .agg #[.int .u32 b, .int .i64 k]] w fun e w' => e = .returned (.int .i64 (ordI a l b k)) ∧ Kp w w' ∧ w.drawn ≤ w'.drawn := by
 obtain ⟨W, hW, kW, B0, B1⟩ : ∃ W, (w.alloc (.cells #[.int .u32 a, .int .i64 l] 29)).alloc (.cells #[.int .u32 b, .int .i64 k] 29) = W ∧ (Kp w W ∧ W.drawn = w.drawn) ∧ Blk W w.heap.size 29 #[.int .u32 a, .int .i64 l] ∧ Blk W (w.heap.size + 1) 29 #[.int .u32 b, .int .i64 k] := ⟨_, rfl, ⟨((Kp.refl _).alloc _).alloc _, rfl⟩, (Blk.new w _ _).alloc _, Blk.new1 w _ _ _⟩
 obtain ⟨x, hx⟩ : ∃ x, cmpI a b = x := ⟨_, rfl⟩
 obtain ⟨y, hy⟩ : ∃ y, cmpI l k = y := ⟨_, rfl⟩
 have Hx := Lib.hid hx
 have Hy := Lib.hid hy
 have Hr : Hid (ordI a l b k = if x = 0 then y else x) := by rw [← hx, ← hy]; exact Lib.hid rfl
 clear hx hy
 go_enter Tryz.func86, Tryz.ntmps86
 go_wp2_with fail
 refine vhE 10 (by kernel_rfl) (by kernel_rfl) (fun V hV => ?_)
 have KV : Kp W V := by rw [hV]; exact (Kp.refl _).drew
 have hdr : W.drawn ≤ V.drawn := by rw [hV]; exact Nat.le_succ _
 have HD := Lib.hid (show w.drawn ≤ V.drawn by rw [← kW.2]; exact hdr)
 clear hdr
 obtain ⟨p0, p1⟩ := Blk.v2 (B0.keep KV) (.int .u32 a) (.int .i64 l) rfl
 obtain ⟨q0, q1⟩ := Blk.v2 (B1.keep KV) (.int .u32 b) (.int .i64 k) rfl
 clear hV hW
 simp only [List.take_succ_cons, List.take_zero, List.drop_succ_cons, List.drop_zero]
 still_step
 still_step
 still_step
 still_step
 still_call (by refine (vfT a b _).mono ?_; rintro e w' ⟨rfl, rfl⟩; rw [Hx.out]; exact ⟨rfl, rfl⟩)
 still_step
 still_step
 still_step
 still_step
 still_call (by refine (vfU l k _).mono ?_; rintro e w' ⟨rfl, rfl⟩; rw [Hy.out]; exact ⟨rfl, rfl⟩)
 refine wpStill_nil ?_
 clear p0 p1 q0 q1
 go_wp2_with fail
 refine (vhV x y V.heap.size _ (Blk.new V _ _)).mono ?_
 rintro e w' ⟨rfl, rfl⟩
 rw [← Hr.out]
 go_wp2_with fail
 go_ret
 exact ⟨rfl, (kW.1.trans KV).alloc _, HD.out⟩
set_option maxRecDepth 100000 in
theorem vkN (x y : Rt) (w : World) : Calls Tryz.prog 85 #[roV x, roV y] w fun e w' => e = .returned (.int .i64 (cfR x y)) ∧ Kp w w' ∧ w.drawn ≤ w'.drawn := by
 obtain ⟨W, hW, kW, B0, B1⟩ : ∃ W, (w.alloc (.cells (roC x) 87)).alloc (.cells (roC y) 87) = W ∧ (Kp w W ∧ W.drawn = w.drawn) ∧ Blk W w.heap.size 87 (roC x) ∧ Blk W (w.heap.size + 1) 87 (roC y) := ⟨_, rfl, ⟨((Kp.refl _).alloc _).alloc _, rfl⟩, (Blk.new w _ _).alloc _, Blk.new1 w _ _ _⟩
 obtain ⟨b, hb⟩ : ∃ b, w.heap.size = b := ⟨_, rfl⟩
 rw [hb] at B0 B1
 unfold roC at hW
 have x0 := Blk.f B0 rfl
 have y0 := Blk.f B1 rfl
 have HD := Lib.hid kW
 clear kW B0 B1
 go_enter Tryz.func85, Tryz.ntmps85
 go_wp2_with (first | (go_at_call 86; refine (vhe _ _ _ _ _).mono ?_; rintro e w2 ⟨rfl, k2, d2⟩))
 go_ret
 exact ⟨rfl, HD.out.1.trans k2, by rw [← HD.out.2]; exact d2⟩
end

end Go.Proofs.YtffckpkikdlbpaaGreatDoor
