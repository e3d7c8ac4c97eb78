/- Lemmas and contracts for the theorem of this claim: VGen3, GdA, RpB, RpC. -/
import Derived.Test.YtgopnfacklmkaaaGreatDoorZxAj
import Derived.Test.YtgopnfacklmkaaaGreatDoorZxAk
set_option linter.all false
set_option maxHeartbeats 16000000
namespace Go.Proofs.YtgopnfacklmkaaaGreatDoor
section
def mskN (n i : Nat) : Nat := (2 ^ min i n - 1) * 2 ^ (i - min i n)
theorem viK (n : Nat) : mskN n 0 = 0 := by simp [mskN]
theorem vlL (n i : Nat) : mskN n i < 2 ^ i := by
 unfold mskN
 have h1 : 2 ^ i = 2 ^ min i n * 2 ^ (i - min i n) := by rw [← Nat.pow_add]; congr 1; omega
 have h2 : 0 < 2 ^ min i n := Nat.pow_pos (by decide)
 have h3 : 0 < 2 ^ (i - min i n) := Nat.pow_pos (by decide)
 rw [h1]
 exact Nat.mul_lt_mul_of_pos_right (by omega) h3
theorem viL {n i : Nat} (h : i < n) : mskN n (i + 1) = 2 * mskN n i + 1 := by
 unfold mskN
 have e1 : min (i + 1) n = i + 1 := by omega
 have e2 : min i n = i := by omega
 rw [e1, e2]
 have h2 : 0 < 2 ^ i := Nat.pow_pos (by decide)
 simp only [Nat.sub_self, Nat.pow_zero, Nat.mul_one, Nat.pow_succ]
 omega
theorem viM {n i : Nat} (h : ¬ i < n) : mskN n (i + 1) = 2 * mskN n i := by
 unfold mskN
 have e1 : min (i + 1) n = n := by omega
 have e2 : min i n = n := by omega
 rw [e1, e2, show i + 1 - n = (i - n) + 1 by omega, Nat.pow_succ]
 generalize 2 ^ (i - n) = x
 generalize 2 ^ n - 1 = y
 rw [Nat.mul_comm x 2, Nat.mul_left_comm]
theorem vkR {n : Nat} (h : n ≤ 32) : mskN n 32 = maskN n := by
 unfold mskN maskN
 have e1 : min 32 n = n := by omega
 rw [e1, Nat.sub_mul, ← Nat.pow_add, show n + (32 - n) = 32 by omega]
 simp
theorem vhb (a k : Nat) : a / 2 ^ k / 2 = a / 2 ^ (k + 1) := by rw [Nat.div_div_eq_div_mul, ← Nat.pow_succ]
theorem vlM {a i : Nat} (h : i < 32) : a / 2 ^ (31 - i) % 2 = bitN a i := by unfold bitN; rw [if_pos h]
end

section
open Go.RowKit
theorem vhc (x : Nat) : ((x : Int) / 2) = ((x / 2 : Nat) : Int) := by omega
theorem viN (x : Nat) : ((x : Int) % 2) = ((x % 2 : Nat) : Int) := by omega
set_option maxRecDepth 100000 in
theorem viO (a i : Nat) (w : World) (ha : a < 4294967296) (hi : i < 32) : Calls Tryz.prog 88 #[.int .u32 a, .int .i64 i] w fun e w' => e = .returned (.int .i64 (bitN a i)) ∧ w = w' := by
 obtain ⟨r, hr⟩ : ∃ r, bitN a i = r := ⟨_, rfl⟩
 rw [hr]
 have Hr := Lib.hid hr; clear hr
 have d1 : decide ((i : Int) < 0) = false := by simp
 have d2 : decide ((31 : Int) < i) = false := by simp; omega
 go_enter Tryz.func88, Tryz.ntmps88
 go_wp2_with fail
 go_loop [5, 6] (fun n k => ∃ m x : Nat, i ≤ m ∧ m ≤ 31 ∧ k = .int .i64 m ∧ n = .int .i64 x ∧ x < 4294967296 ∧ Hid (x = a / 2 ^ (31 - m))) (fun _ k => (intOf k).toNat)
 case atStart => exact ⟨31, a, by omega, by omega, rfl, rfl, ha, Lib.hid (by simp)⟩
 case round =>
  obtain ⟨m, x, him, hm, rfl, rfl, hx, hxe⟩ := hrel
  by_cases hlt : i < m
  ·have hd : decide ((i : Int) < m) = true := by simpa using hlt
   go_wp2_with fail
   go_round
   case rel =>
    refine ⟨m - 1, x / 2, by omega, by omega, ?_, by rw [← vhc], by omega, ?_⟩
    ·have e : ((m : Int) - 1) = ((m - 1 : Nat) : Int) := by omega
     rw [e]
    ·rw [hxe.out, vhb]; congr 2; omega
   case measure => simp [intOf]; omega
  ·obtain rfl : m = i := by omega
   have hd : decide ((m : Int) < m) = false := by simp
   go_wp2_with fail
   go_ret
   refine ⟨?_, rfl⟩
   rw [viN, hxe.out, vlM hi, Hr.out]
   rfl
set_option maxRecDepth 100000 in
theorem vcG (n : Nat) (w : World) (hn : n ≤ 32) : Calls Tryz.prog 69 #[.int .i64 n] w fun e w' => e = .returned (.int .u32 (maskN n)) ∧ w = w' := by
 have HR := Lib.hid (vkR hn)
 go_enter Tryz.func69, Tryz.ntmps69
 go_wp2_with fail
 go_loop [3, 4] (fun v k => ∃ i : Nat, i ≤ 32 ∧ k = .int .i64 i ∧ v = .int .u32 (mskN n i)) (fun _ k => 32 - (intOf k).toNat)
 case atStart => exact ⟨0, by omega, rfl, by rw [viK]; rfl⟩
 case round =>
  obtain ⟨i, hi, rfl, rfl⟩ := hrel
  by_cases hlt : i < 32
  ·have hd : decide ((i : Int) < 32) = true := by simp; omega
   have hb := vlL n i
   have hb2 : 2 ^ i ≤ 2 ^ 31 := Nat.pow_le_pow_right (by omega) (by omega)
   have hb3 : mskN n i < 2147483648 := Nat.lt_of_lt_of_le hb (by simpa using hb2)
   clear hb hb2
   obtain ⟨x, hx⟩ : ∃ x, mskN n i = x := ⟨_, rfl⟩
   rw [hx] at hb3 ⊢
   have Hx := Lib.hid hx; clear hx
   by_cases hin : i < n
   ·have hd2 : decide ((i : Int) < n) = true := by simpa using hin
    have hd3 : decide (i < n) = true := by simpa using hin
    go_wp2_with fail
    go_round
    case rel => exact ⟨i + 1, by omega, by go_num, by rw [viL hin, Hx.out]; simp⟩
    case measure => simp [intOf]; omega
   ·have hd2 : decide ((i : Int) < n) = false := by simpa using hin
    have hd3 : decide (i < n) = false := by simpa using hin
    go_wp2_with fail
    go_round
    case rel => exact ⟨i + 1, by omega, by go_num, by rw [viM hin, Hx.out]; simp⟩
    case measure => simp [intOf]; omega
  ·obtain rfl : i = 32 := by omega
   rw [HR.out]
   go_wp2_with fail
   go_ret
   exact ⟨rfl, rfl⟩
set_option maxRecDepth 100000 in
theorem vfR (p : PI) (w : World) (ha : p.a < 4294967296) : Calls Tryz.prog 87 #[.agg #[.int .u32 p.a, .int .i64 p.l]] w fun e w' => e = .returned (.bool p.okB) ∧ Kp w w' := by
 obtain ⟨W, hW, kW, B0⟩ := Blk.al1 (w := w) rfl #[.int .u32 p.a, .int .i64 p.l] 39
 obtain ⟨p0, p1⟩ := Blk.p2 B0
 obtain ⟨r, hr⟩ : ∃ r, p.okB = r := ⟨_, rfl⟩
 rw [hr]
 have Hr := Lib.hid hr; clear hr
 by_cases h0 : p.l < 0
 ·have d0 : decide (p.l < 0) = true := by simpa using h0
  obtain rfl : r = false := by rw [← Hr.out]; simp [PI.okB]; omega
  clear h0 Hr
  go_enter Tryz.func87, Tryz.ntmps87
  go_wp2_with fail
  go_ret
  exact ⟨rfl, kW⟩
 have d0 : decide (p.l < 0) = false := by simpa using h0
 by_cases h1 : 32 < p.l
 ·have d1 : decide (32 < p.l) = true := by simpa using h1
  obtain rfl : r = false := by rw [← Hr.out]; simp [PI.okB]; omega
  clear h0 h1 Hr
  go_enter Tryz.func87, Tryz.ntmps87
  go_wp2_with fail
  go_ret
  exact ⟨rfl, kW⟩
 have d1 : decide (32 < p.l) = false := by simpa using h1
 obtain ⟨n, hn⟩ : ∃ n : Nat, p.l = (n : Int) := ⟨p.l.toNat, by omega⟩
 have hn32 : n ≤ 32 := by omega
 have Hok : Hid (r = decide (cut p.a n = p.a)) := by
  rw [← Hr.out]
  have e : p.l.toNat = n := by omega
  unfold PI.okB
  rw [e]
  exact Lib.hid (by congr 1; simp; omega)
 rw [hn] at p1 d0 d1 hW ⊢
 clear h0 h1 hn Hr B0
 go_enter Tryz.func87, Tryz.ntmps87
 go_wp2_with fail
 go_loop [3] (fun k => ∃ i : Nat, n ≤ i ∧ i ≤ 32 ∧ k = .int .i64 i ∧ Hid (∀ j, n ≤ j → j < i → bitN p.a j = 0)) (fun k => 32 - (intOf k).toNat)
 case atStart => exact ⟨n, Nat.le_refl _, hn32, rfl, fun j h1 h2 => absurd h2 (by omega)⟩
 case round =>
  obtain ⟨i, hni, hi, rfl, hall⟩ := hrel
  by_cases hlt : i < 32
  ·have hd : decide ((i : Int) < 32) = true := by simp; omega
   have hbl := vjO p.a i
   go_wp2_with fail
   refine (viO p.a i _ ha hlt).mono ?_
   rintro e w' ⟨rfl, rfl⟩
   by_cases hb : bitN p.a i = 0
   ·rw [hb]
    have Hb := Lib.hid hb; clear hb
    go_wp2_with fail
    go_round
    case rel =>
     refine ⟨i + 1, by omega, by omega, by go_num, fun j h1 h2 => ?_⟩
     rcases Nat.lt_or_ge j i with h3 | h3
     ·exact hall.out j h1 h3
     ·obtain rfl : j = i := by omega
      exact Hb.out
    case measure => simp [intOf]; omega
   ·obtain rfl : r = false := by
     rw [Hok.out]
     simp only [decide_eq_false_iff_not]
     intro hc
     exact hb ((vdZ hn32).2 hc i hni hlt)
    obtain ⟨x, hx⟩ : ∃ x, bitN p.a i = x := ⟨_, rfl⟩
    rw [hx] at hb hbl ⊢
    obtain rfl : x = 1 := by omega
    clear hb hbl hx
    go_wp2_with fail
    go_ret
    exact ⟨rfl, kW⟩
  ·obtain rfl : i = 32 := by omega
   obtain rfl : r = true := by
    rw [Hok.out]
    simp only [decide_eq_true_eq]
    exact (vdZ hn32).1 (fun j h1 h2 => hall.out j h1 h2)
   go_wp2_with fail
   go_ret
   exact ⟨rfl, kW⟩
def RPartsP (m : Nat) (w : World) (e : Ending) (w' : World) : Prop := ∃ y z u : Int, e = .returned (.agg #[.int .i64 m, .int .i64 y, .int .i64 z, .int .i64 u]) ∧ Kp w w'
set_option maxRecDepth 100000 in
theorem veK (a m : Nat) (w : World) (ha : a < 4294967296) (hm : a / 16777216 = m) : Calls Tryz.prog 295 #[.int .u32 a] w (RPartsP m w) := by
 have Hm := Lib.hid hm; clear hm
 go_enter Tryz.func295, Tryz.ntmps295
 go_wp2_with fail
 exact bodyPost_ret (v := .agg #[.int .i64 ((a : Int) / 16777216), .int .i64 ((a : Int) / 65536 % 256), .int .i64 ((a : Int) / 256 % 256), .int .i64 ((a : Int) % 256)]) (by simp [results, Tryz.results295, go_sem]) rfl ⟨_, _, _, by rw [← Hm.out]; rfl, (Kp.refl _).alloc _⟩
set_option maxRecDepth 100000 in
theorem vhd (a : Nat) (w : World) (ha : a < 4294967296) : Calls Tryz.prog 231 #[.int .u32 a] w fun e w' => e = .returned (.int .i64 (kindAd a)) ∧ Kp w w' := by
 obtain ⟨r, hr⟩ : ∃ r, kindAd a = r := ⟨_, rfl⟩
 rw [hr]
 obtain ⟨m, hm⟩ : ∃ m, a / 16777216 = m := ⟨_, rfl⟩
 have hm2 : m < 256 := by omega
 unfold kindAd at hr
 rw [hm] at hr
 have Hm := Lib.hid hm; clear hm
 have hall : Hid ((a = 0 ∧ r = 1) ∨ (a ≠ 0 ∧ m = 0 ∧ r = 2) ∨ (a ≠ 0 ∧ m = 127 ∧ r = 3) ∨ (a ≠ 0 ∧ 224 ≤ m ∧ m ≤ 239 ∧ r = 4) ∨ (a ≠ 0 ∧ 240 ≤ m ∧ r = 5) ∨ (a ≠ 0 ∧ m ≠ 0 ∧ m ≠ 127 ∧ m < 224 ∧ r = 6)) := by
  revert hr
  by_cases h0 : a = 0
  ·rw [if_pos h0]; intro hr; exact .inl ⟨h0, hr.symm⟩
  rw [if_neg h0]
  by_cases h1 : m = 0
  ·rw [if_pos h1]; intro hr; exact .inr (.inl ⟨h0, h1, hr.symm⟩)
  rw [if_neg h1]
  by_cases h2 : m = 127
  ·rw [if_pos h2]; intro hr; exact .inr (.inr (.inl ⟨h0, h2, hr.symm⟩))
  rw [if_neg h2]
  by_cases h3 : 224 ≤ m ∧ m ≤ 239
  ·rw [if_pos h3]; intro hr; exact .inr (.inr (.inr (.inl ⟨h0, h3.1, h3.2, hr.symm⟩)))
  rw [if_neg h3]
  by_cases h4 : 240 ≤ m
  ·rw [if_pos h4]; intro hr; exact .inr (.inr (.inr (.inr (.inl ⟨h0, h4, hr.symm⟩))))
  rw [if_neg h4]
  intro hr
  exact .inr (.inr (.inr (.inr (.inr ⟨h0, h1, h2, by omega, hr.symm⟩))))
 clear hr
 go_enter Tryz.func231, Tryz.ntmps231
 go_wp2_with fail
 refine (veK a m w ha Hm.out).mono ?_
 rintro e w1 ⟨y, z, u, rfl, hK⟩
 rcases hall.out with ⟨h0, rfl⟩ | ⟨h0, h1, rfl⟩ | ⟨h0, h1, rfl⟩ | ⟨h0, h1, h2, rfl⟩ | ⟨h0, h1, rfl⟩ | ⟨h0, h1, h2, h3, rfl⟩
 ·subst h0
  clear hall
  go_wp2_with fail
  go_ret
  exact ⟨rfl, hK.alloc _⟩
 ·have q0 : ((a : Int) == 0) = false := by simpa using h0
  subst h1
  clear hall h0
  go_wp2_with fail
  go_ret
  exact ⟨rfl, hK.alloc _⟩
 ·have q0 : ((a : Int) == 0) = false := by simpa using h0
  subst h1
  clear hall h0
  go_wp2_with fail
  go_ret
  exact ⟨rfl, hK.alloc _⟩
 ·have q0 : ((a : Int) == 0) = false := by simpa using h0
  have q1 : ((m : Int) == 0) = false := by simp; omega
  have q2 : ((m : Int) == 127) = false := by simp; omega
  have q3 : decide ((224 : Int) ≤ m) = true := by simp; omega
  have q4 : decide ((m : Int) ≤ 239) = true := by simp; omega
  clear hall h0
  go_wp2_with fail
  go_ret
  exact ⟨rfl, hK.alloc _⟩
 ·have q0 : ((a : Int) == 0) = false := by simpa using h0
  have q1 : ((m : Int) == 0) = false := by simp; omega
  have q2 : ((m : Int) == 127) = false := by simp; omega
  have q3 : decide ((224 : Int) ≤ m) = true := by simp; omega
  have q4 : decide ((m : Int) ≤ 239) = false := by simp; omega
  have q5 : decide ((240 : Int) ≤ m) = true := by simp; omega
  clear hall h0
  go_wp2_with fail
  go_ret
  exact ⟨rfl, hK.alloc _⟩
 ·have q0 : ((a : Int) == 0) = false := by simpa using h0
  have q1 : ((m : Int) == 0) = false := by simp; omega
  have q2 : ((m : Int) == 127) = false := by simp; omega
  have q3 : decide ((224 : Int) ≤ m) = false := by simp; omega
  have q5 : decide ((240 : Int) ≤ m) = false := by simp; omega
  clear hall h0
  go_wp2_with fail
  go_ret
  exact ⟨rfl, hK.alloc _⟩
set_option maxRecDepth 100000 in
theorem viP (a n : Nat) (w : World) (ha : a < 4294967296) (hn : n ≤ 32) : Calls Tryz.prog 164 #[.int .u32 a, .int .u32 (maskN n)] w fun e w' => e = .returned (.bool (badKind a n)) ∧ Kp w w' := by
 obtain ⟨r, hr⟩ : ∃ r, badKind a n = r := ⟨_, rfl⟩
 rw [hr]
 have hk := vcy a
 have hmm := vgO n hn
 unfold badKind at hr
 have Hk := Lib.hid (vhd a w ha)
 obtain ⟨k, hkk⟩ : ∃ k, kindAd a = k := ⟨_, rfl⟩
 rw [hkk] at hr hk Hk
 obtain ⟨mm, hM⟩ : ∃ mm, maskN n = mm := ⟨_, rfl⟩
 rw [hM] at hmm ⊢
 clear hkk hM
 have Hmm := Lib.hid hmm; clear hmm
 have hcase : k = 1 ∨ k = 2 ∨ k = 3 ∨ k = 4 ∨ k = 5 ∨ k = 6 := by omega
 clear hk
 rcases hcase with rfl | rfl | rfl | rfl | rfl | rfl
 ·simp only [show ¬ (1 = 6) by omega, if_false, if_true] at hr
  rw [hr] at Hmm
  have hm := Hmm.out
  clear hr
  go_enter Tryz.func164, Tryz.ntmps164
  go_wp2_with fail
  refine Hk.out.mono ?_
  rintro e w1 ⟨rfl, hK⟩
  cases r
  all_goals
   go_wp2_with fail
   go_ret
   exact ⟨rfl, hK⟩
 all_goals
  simp at hr
  subst hr
  go_enter Tryz.func164, Tryz.ntmps164
  go_wp2_with fail
  refine Hk.out.mono ?_
  rintro e w1 ⟨rfl, hK⟩
  go_wp2_with fail
  go_ret
  exact ⟨rfl, hK⟩
def OneM (wc : World) (g : Nat) (e : En) (_ : Unit) (L : Nat → Bool) (W : World) : Prop := (L 8 = false → Kp wc W) ∧ (L 8 = true → ∃ V, Kp wc V ∧ enSet V g e = W)
set_option maxRecDepth 100000 in
theorem vaD (p : PI) (k : Nat) (w : World) (hl : 0 ≤ p.l ∧ p.l ≤ 32) (hk : k < 4294967296) : Calls Tryz.prog 19 #[.agg #[.int .u32 (p.a : Int), .int .i64 p.l], .int .i64 (k : Int)] w fun e w' => e = .returned (enV (oneE p k)) ∧ Kp w w' := by
 obtain ⟨b, hb⟩ : ∃ b, w.heap.size = b := ⟨_, rfl⟩
 obtain ⟨W, hW, kW, B0, B1⟩ := Blk.al2 hb #[.int .u32 (p.a : Int), .int .i64 p.l] 39 zeroEC 66
 unfold zeroEC at hW
 obtain ⟨n, hn⟩ := Int.eq_ofNat_of_zero_le hl.1
 have hn32 : n ≤ 32 := by omega
 have HP := Lib.hid hn
 have HE : Hid (oneE p k = ⟨2, 0, p.a, maskN n, 0, k⟩) := Lib.hid (by unfold oneE; rw [hn]; rfl)
 have hm : IntKind.u32.wrap (k : Int) = (k : Int) := by show (k : Int) % 4294967296 = _; omega
 have HB0 := Lib.hid B0
 have HB1 := Lib.hid B1
 clear hn hl B0 B1
 go_enter Tryz.func19, Tryz.ntmps19
 go_upto_region 1 with (fail)
 clear hW
 refine' vam (OneM W (b + 1) ⟨2, 0, p.a, maskN n, 0, k⟩) [5, 6, 7, 8, 9, 10, 11, 12, 10008] (fun (_ : Unit) => [.pointer (some ⟨b, 0, none⟩), .int .u32 (p.a : Int), .pointer (some ⟨b, 1, none⟩), .int .i64 (n : Int), .int .u32 (maskN n : Int), .int .i64 (k : Int), .int .u32 (k : Int), .agg #[.int .i64 2, .int .i64 0, .int .u32 (p.a : Int), .int .u32 (maskN n : Int), .int .u32 0, .int .u32 (k : Int)], undef]) (List.replicate 9 true) [8] (by kernel_rfl) (by kernel_rfl) (fun _ => rfl) (fun _ => rfl) (fun _ => rfl) () ⟨(fun _ => (Kp.refl _).drew), (fun h => by cases h)⟩ (fun _ _ _ _ q h => ⟨fun d => h.1 ((q 8 (by simp)) ▸ d), fun d => h.2 ((q 8 (by simp)) ▸ d)⟩) ?_ ?_ ?_
 rotate_left
 ·intro z; simp only [List.zip_cons_cons, List.zip_nil_right, wrC, wrN, List.set_cons_zero, List.set_cons_succ, List.set_nil]; rfl
 ·repeat' (first | refine And.intro ?_ ?_ | exact trivial)
  all_goals intro z L a w9 hLi d hcl hM hO K hK
  all_goals try (go_simp; exact hK z _ _ (hO rfl) (fun _ _ => rfl) rfl)
  ·have n8 : L 8 = false := vaa _ hcl (i := 8) (j := 1) rfl rfl hLi
   have u := Blk.f (HB0.out.keep (hM.1 n8)) rfl
   go_simp
   exact hK z _ _ (hO rfl) (fun _ _ => rfl) rfl
  ·have n8 : L 8 = false := vaa _ hcl (i := 8) (j := 3) rfl rfl hLi
   have c1 : w9.cell? ⟨b, 1, none⟩ = some (.int .i64 (n : Int)) := by rw [← HP.out]; exact (HB0.out.keep (hM.1 n8)).cell 1
   go_simp
   exact hK z _ _ (hO rfl) (fun _ _ => rfl) rfl
  ·have n8 : L 8 = false := vaa _ hcl (i := 8) (j := 4) rfl rfl hLi
   go_simp
   refine (vcG n _ hn32).mono ?_
   rintro e9 wb ⟨rfl, rfl⟩
   exact hK z _ _ (hO rfl) (fun _ _ => rfl) rfl
  ·have B9 := HB1.out.keep (hM.1 hLi)
   have y := Blk.f B9 rfl
   have yz := Blk.frozen B9
   obtain ⟨R, hR⟩ : ∃ R, enSet w9 (b + 1) ⟨2, 0, p.a, maskN n, 0, k⟩ = R := ⟨_, rfl⟩
   have hR2 := hR
   simp only [enSet, Int.natCast_zero] at hR
   go_simp
   exact hK z _ _ ⟨(fun h => by cases h), (fun _ => ⟨w9, hM.1 hLi, hR2⟩)⟩ (fun _ _ => rfl) rfl
 intro z L w9 hL hM
 (try simp only [Exit.then])
 obtain ⟨V9, kV, hV⟩ := hM.2 (hL 8 (by decide))
 obtain ⟨R, hR, BR, kR⟩ := Blk.putEn (HB1.out.keep kV) ⟨2, 0, p.a, maskN n, 0, k⟩ (kW.trans kV) (by omega)
 rw [hV] at hR
 subst hR
 have r := Blk.f BR rfl
 go_wp2_with fail
 exact bodyPost_ret (v := .agg #[.int .i64 2, .int .i64 0, .int .u32 (p.a : Int), .int .u32 (maskN n : Int), .int .u32 0, .int .u32 (k : Int)]) (by simp [results, Tryz.results19, go_sem, r]) rfl ⟨by rw [HE.out]; rfl, kR⟩
end

section
open Go.RowKit
structure ChZ where
 ga : Nat
 gb : Nat
 v1 : Value
 v2 : Value
def chW (v0 : Value) (z : ChZ) (p q : Bool) : Value := if q then z.v2 else if p then z.v1 else v0
def chQ (X Y Z : List Nat) (p q : Bool) : List Nat := if q then X ++ Y ++ Z else if p then X ++ Y else X
structure ChM (w : World) (v0 : Value) (X Y Z : List Nat) (z : ChZ) (L : Nat → Bool) (W : World) : Prop where
 kp : Kp w W
 own : Own W w.heap.size 5 1 byN (chW v0 z (L 4) (L 8)) (chQ X Y Z (L 4) (L 8))
 a : L 3 = true → L 4 = false → Blk W z.ga 5 (bysC Y) ∧ (chW v0 z (L 4) (L 8)).ownBlock ≠ some z.ga
 b : L 7 = true → L 8 = false → Blk W z.gb 5 (bysC Z) ∧ (chW v0 z (L 4) (L 8)).ownBlock ≠ some z.gb
section
variable {w W W' : World} {v0 : Value} {X Y Z : List Nat} {z : ChZ} {L L' : Nat → Bool}
theorem ChM.start (k : Kp w W) (h : Own W w.heap.size 5 1 byN v0 X) : ChM w v0 X Y Z z (fun _ => false) W.drew := ⟨k.drew, h.drew, fun h => (by cases h), fun h => (by cases h)⟩
theorem ChM.cong (q : ∀ j ∈ [3, 4, 7, 8], L' j = L j) (h : ChM w v0 X Y Z z L W) : ChM w v0 X Y Z z L' W := by
 have q3 := q 3 (by simp)
 have q4 := q 4 (by simp)
 have q7 := q 7 (by simp)
 have q8 := q 8 (by simp)
 obtain ⟨h1, h2, h3, h4⟩ := h
 rw [← q4, ← q8] at h2 h3 h4
 rw [← q3] at h3
 rw [← q7] at h4
 exact ⟨h1, h2, h3, h4⟩
theorem ChM.at3 (h : ChM w v0 X Y Z z L W) (h8 : L 8 = false) (k : Kp W W') (hB : Blk W' W.heap.size 5 (bysC Y)) : ChM w v0 X Y Z { z with ga := W.heap.size } (fun j => j == 3 || L j) W' := by
 have hne := fun q hq => (World.ownsRow.lt h.own q hq).2
 refine ⟨h.kp.trans k, h.own.keep k, fun _ _ => ⟨hB, fun e => ?_⟩, fun d d8 => ?_⟩
 ·exact absurd (hne _ e) (Nat.lt_irrefl _)
 ·exact ⟨(h.b d d8).1.keep k, (h.b d d8).2⟩
theorem ChM.at7 (h : ChM w v0 X Y Z z L W) (k : Kp W W') (hB : Blk W' W.heap.size 5 (bysC Z)) : ChM w v0 X Y Z { z with gb := W.heap.size } (fun j => j == 7 || L j) W' := by
 have hne := fun q hq => (World.ownsRow.lt h.own q hq).2
 refine ⟨h.kp.trans k, h.own.keep k, fun d d4 => ?_, fun _ _ => ⟨hB, fun e => ?_⟩⟩
 ·exact ⟨(h.a d d4).1.keep k, (h.a d d4).2⟩
 ·exact absurd (hne _ e) (Nat.lt_irrefl _)
theorem ChM.own0 (h : ChM w v0 X Y Z z L W) (h4 : L 4 = false) (h8 : L 8 = false) : Own W w.heap.size 5 1 byN v0 X := by
 have := h.own
 unfold chW chQ at this
 simpa [h4, h8] using this
theorem ChM.own1 (h : ChM w v0 X Y Z z L W) (h4 : L 4 = true) (h8 : L 8 = false) : Own W w.heap.size 5 1 byN z.v1 (X ++ Y) := by
 have := h.own
 unfold chW chQ at this
 simpa [h4, h8] using this
theorem ChM.own2 (h : ChM w v0 X Y Z z L W) (h8 : L 8 = true) : Own W w.heap.size 5 1 byN z.v2 (X ++ Y ++ Z) := by
 have := h.own
 unfold chW chQ at this
 simpa [h8] using this
theorem ChM.at4 {v : Value} (h : ChM w v0 X Y Z z L W) (h4 : L 4 = false) (h8 : L 8 = false) (hO : Own W' w.heap.size 5 1 byN v (X ++ Y)) (hg : W.grownBy W' v0.ownBlock) (hv : v.ownBlock = v0.ownBlock ∨ v.ownBlock = some W.heap.size) : ChM w v0 X Y Z { z with v1 := v } (fun j => j == 4 || L j) W' := by
 have e : chW v0 z (L 4) (L 8) = v0 := by simp [chW, h4, h8]
 have e8 : (8 == 4 || L 8) = false := by simp [h8]
 refine ⟨h.kp.grown hg (fun q hq => (World.ownsRow.lt (h.own0 h4 h8) q hq).1), ?_, fun _ d4 => ?_, fun d d8 => ?_⟩
 ·rw [e8]
  simpa [chW, chQ] using hO
 ·have : (true || L 4) = false := d4
  cases this
 ·obtain ⟨b1, b2⟩ := h.b d h8
  rw [e] at b2
  refine ⟨b1.grown hg (fun q => b2 q.symm), ?_⟩
  rw [e8]
  show v.ownBlock ≠ some z.gb
  intro q
  rcases hv with hv | hv
  ·rw [hv] at q
   exact b2 q
  ·rw [hv] at q
   injection q with q
   have := b1.lt
   omega
theorem ChM.at8 {v : Value} (h : ChM w v0 X Y Z z L W) (h4 : L 4 = true) (h8 : L 8 = false) (hO : Own W' w.heap.size 5 1 byN v (X ++ Y ++ Z)) (hg : W.grownBy W' z.v1.ownBlock) : ChM w v0 X Y Z { z with v2 := v } (fun j => j == 8 || L j) W' := by
 refine ⟨h.kp.grown hg (fun q hq => (World.ownsRow.lt (h.own1 h4 h8) q hq).1), ?_, fun _ d4 => ?_, fun _ d8 => ?_⟩
 ·simpa [chW, chQ] using hO
 ·have : L 4 = false := d4
  rw [h4] at this
  cases this
 ·have : (true || L 8) = false := d8
  cases this
end
structure FtM (w : World) (X Y : List Nat) (z : ChZ) (L : Nat → Bool) (W : World) : Prop where
 kp : Kp w W
 a : L 3 = true → L 8 = false → Blk W z.ga 5 (bysC X) ∧ w.heap.size ≤ z.ga
 b : L 7 = true → L 8 = false → Blk W z.gb 5 (bysC Y)
 o : L 8 = true → Own W w.heap.size 5 1 byN z.v1 (X ++ Y)
theorem vbT {α : Type} {enc : α → List Value} {P : Program} {t e : TypeId} {z : Value} {size bytes : Nat} (E : ElemOf P t e z size bytes) (henc : ∀ x, (enc x).length = size) (hone : ∀ x, ∀ u ∈ enc x, u.oneCell' = true)
  {w : World} {o : Oper} {a f : Act} {K : Act → World → Prop} {Q : Exit → Act → World → Prop} (s x : Operand) (ho : o.op = .call { callee := .builtin .append, args := #[s, x], argTypes := #[t, t] })
  {base : Nat} {v : Value} {xs ys : List α} {A : Option Addr} {c : Nat} (hs : f.eval s = v) (hx : f.eval x = .slice A ys.length c) (hown : Own w base e size enc v xs) (hrd : Rd w size enc A ys)
  (hfit : (xs.length + ys.length) * (bytes + 1) ≤ 140737488355328) (hbase : base ≤ w.heap.size)
  (h : ∀ v' w', Own w' base e size enc v' (xs ++ ys) → w.grownBy w' v.ownBlock → (v'.ownBlock = v.ownBlock ∨ v'.ownBlock = some w.heap.size) → K (a.put o.dst v') w') : o.upon P a K Q ((execOp f.eval o).run P w) := by
 obtain ⟨v', w', hr, h1, h2, h3⟩ := vbA E o.type henc hone hown hrd hfit hbase
 simp [execOp, ho, resolve, invoke, builtin, hs, hx, Result.andThen]
 rw [hr]
 exact h v' w' h1 h2 h3
theorem vdg {α : Type} {enc : α → List Value} {P : Program} {t e : TypeId} {z : Value} {size bytes : Nat} (E : ElemOf P t e z size bytes) (henc : ∀ x, (enc x).length = size) (hone : ∀ x, ∀ u ∈ enc x, u.oneCell' = true)
  {w : World} {o : Oper} {a : Act} {K : Act → World → Prop} {Q : Exit → Act → World → Prop} (hgd : o.guard = none) (s x : Operand) (ho : o.op = .call { callee := .builtin .append, args := #[s, x], argTypes := #[t, t] })
  {base : Nat} {v : Value} {xs ys : List α} {A : Option Addr} {c : Nat} (hs : a.eval s = v) (hx : a.eval x = .slice A ys.length c) (hown : Own w base e size enc v xs) (hrd : Rd w size enc A ys)
  (hfit : (xs.length + ys.length) * (bytes + 1) ≤ 140737488355328) (hbase : base ≤ w.heap.size)
  (h : ∀ v' w', Own w' base e size enc v' (xs ++ ys) → w.grownBy w' v.ownBlock → (v'.ownBlock = v.ownBlock ∨ v'.ownBlock = some w.heap.size) → K (a.put o.dst v') w') : Oper.wp P o a w K Q := by
 have h1 := vgz (ops := #[]) (Q := Q) (X := True) E henc hone hgd s x ho hs hx hown hrd hfit hbase h
 rwa [if_pos (vbO hgd)] at h1
set_option maxRecDepth 100000 in
theorem veL (e : En) (w : World) (hw : e.wf) (ho : okEn e = true) : Calls Tryz.prog 156 #[enV e] w fun r w' => ∃ v, r = .returned v ∧ Own w' w.heap.size 5 1 byN v (bytesE e) ∧ Kp w w' := by
 obtain ⟨b, hb⟩ : ∃ b, w.heap.size = b := ⟨_, rfl⟩
 obtain ⟨W, hWq, kW, B0⟩ := Blk.al1 hb (enC e) 66
 unfold enC at hWq
 have HB0 := Lib.hid B0
 have HkW := Lib.hid kW
 obtain ⟨w1, w2, w3, w4⟩ := hw
 obtain ⟨o1, o2, o3, o4⟩ := (vdt e).1 ho
 obtain ⟨fm, hf⟩ := Int.eq_ofNat_of_zero_le o1
 obtain ⟨t, ht⟩ := Int.eq_ofNat_of_zero_le o3
 have hfb : fm < 65536 := by omega
 have htb : t < 65536 := by omega
 have Hf : Hid (e.f = (fm : Int)) := Lib.hid hf
 have Ht : Hid (e.t = (t : Int)) := Lib.hid ht
 have HBY : Hid (bytesE e = beN fm 2 ++ beN t 2 ++ beN e.a 4 ++ beN e.m 4 ++ beN e.n 4 ++ beN e.k 4) := Lib.hid (by
  have h1 : e.f.toNat = fm := by rw [hf]; rfl
  have h2 : e.t.toNat = t := by rw [ht]; rfl
  unfold bytesE
  rw [h1, h2]
  simp only [List.append_assoc])
 have hwf : IntKind.u32.wrap (fm : Int) = (fm : Int) := by show (fm : Int) % 4294967296 = _; omega
 have hwt : IntKind.u32.wrap (t : Int) = (t : Int) := by show (t : Int) % 4294967296 = _; omega
 clear kW B0 hf ht o1 o2 o3 o4 ho
 go_enter Tryz.func156, Tryz.ntmps156
 go_upto_region 1 with (fail)
 clear hWq
 refine' vam (FtM W (beN fm 2) (beN t 2)) [4, 5, 6, 7, 8, 9, 10, 11, 12, 3] (fun z => [.pointer (some ⟨b, 0, none⟩), .int .i64 e.f, .int .u32 (fm : Int), .slice (some ⟨z.ga, 0, none⟩) 2 2, .pointer (some ⟨b, 1, none⟩), .int .i64 e.t, .int .u32 (t : Int), .slice (some ⟨z.gb, 0, none⟩) 2 2, z.v1, z.v1]) (List.replicate 10 true) [3, 7, 8] (by kernel_rfl) (by kernel_rfl) (fun _ => rfl) (fun _ => rfl) (fun _ => rfl) ⟨0, 0, undef, undef⟩ ⟨(Kp.refl _).drew, fun h => (by cases h), fun h => (by cases h), fun h => (by cases h)⟩ (fun _ _ _ _ q h => by have q3 := q 3 (by simp); have q7 := q 7 (by simp); have q8 := q 8 (by simp); exact ⟨h.kp, fun d d8 => h.a (q3 ▸ d) (q8 ▸ d8), fun d d8 => h.b (q7 ▸ d) (q8 ▸ d8), fun d => h.o (q8 ▸ d)⟩) ?_ ?_ ?_
 rotate_left
 ·intro z; simp only [List.zip_cons_cons, List.zip_nil_right, wrC, wrN, List.set_cons_zero, List.set_cons_succ, List.set_nil]; rfl
 ·repeat' (first | refine And.intro ?_ ?_ | exact trivial)
  all_goals intro z L a w9 hLi d hcl hM hO K hK
  all_goals have u := Blk.f (HB0.out.keep hM.kp) rfl
  all_goals try (go_simp; exact hK z _ _ (hO rfl) (fun _ _ => rfl) rfl)
  ·rw [Hf.out]
   go_simp
   exact hK z _ _ (hO rfl) (fun _ _ => rfl) rfl
  ·have n8 := vaa _ hcl (i := 8) (j := 3) rfl rfl hLi
   go_simp
   refine (vfh fm _ hfb).mono ?_
   rintro e9 wb ⟨rfl, hB, hKc⟩
   exact hK { z with ga := w9.heap.size } _ _ ⟨hM.kp.trans hKc, fun _ _ => ⟨hB, hM.kp.size⟩, fun d d8 => (hM.b d d8).keep hKc, fun d => absurd (n8.symm.trans d) (by decide)⟩ (but1 hLi rfl) rfl
  ·rw [Ht.out]
   go_simp
   exact hK z _ _ (hO rfl) (fun _ _ => rfl) rfl
  ·have n8 := vaa _ hcl (i := 8) (j := 7) rfl rfl hLi
   go_simp
   refine (vfh t _ htb).mono ?_
   rintro e9 wb ⟨rfl, hB, hKc⟩
   exact hK { z with gb := w9.heap.size } _ _ ⟨hM.kp.trans hKc, fun d d8 => ⟨(hM.a d d8).1.keep hKc, (hM.a d d8).2⟩, fun _ _ => hB, fun d => absurd (n8.symm.trans d) (by decide)⟩ (but1 hLi rfl) rfl
  ·have n9 := vaa _ hcl (i := 9) (j := 8) rfl rfl hLi
   obtain ⟨a1, a2⟩ := hM.a (d 3 rfl) hLi
   have b1 := hM.b (d 7 rfl) hLi
   refine vbT EByt vaj vaT (.tmp 7) (.tmp 11) rfl (v := .slice (some ⟨z.ga, 0, none⟩) 2 2) (A := some ⟨z.gb, 0, none⟩) (c := 2) (xs := beN fm 2) (ys := beN t 2) rfl rfl (veH (xs := beN fm 2) a1 a2 vaj (by simp [beN, maxLen]) (veb _)) (vcZ b1 (by simp [beN, maxLen])) (by simp [beN]) hM.kp.size (fun v5 w5 h1 h2 h3 => ?_)
   exact hK { z with v1 := v5 } _ _ ⟨hM.kp.grown h2 (fun q hq => by have : some z.ga = some q := hq; injection this with this; omega), fun _ d8 => absurd (show (true || L 8) = false from d8) (by simp), fun _ d8 => absurd (show (true || L 8) = false from d8) (by simp), fun _ => h1⟩ (but2 hLi n9 rfl) rfl
 intro z L w9 hL hM
 (try simp only [Exit.then])
 obtain ⟨k1, hO1⟩ : Kp W w9 ∧ Own w9 W.heap.size 5 1 byN z.v1 (beN fm 2 ++ beN t 2) := ⟨hM.kp, hM.o (hL 8 (by decide))⟩
 obtain ⟨v1, hv1⟩ : ∃ v1, z.v1 = v1 := ⟨_, rfl⟩
 rw [hv1] at hO1 ⊢
 have HO1 := Lib.hid hO1
 have HK1 := Lib.hid k1
 clear hM hL hO1 k1 hv1 L
 go_upto_region 2 with (fail)
 refine vgC (ChM W v1 (beN fm 2 ++ beN t 2) (beN e.a 4) (beN e.m 4)) [13, 14, 15, 16, 17, 18, 19, 20, 21, 3] (fun z => [v1, .pointer (some ⟨b, 2, none⟩), .int .u32 (e.a : Int), .slice (some ⟨z.ga, 0, none⟩) 4 4, z.v1, .pointer (some ⟨b, 3, none⟩), .int .u32 (e.m : Int), .slice (some ⟨z.gb, 0, none⟩) 4 4, z.v2, z.v2]) [true, true, true, true, true, true, true, true, true, true] (by kernel_rfl) (by kernel_rfl) (by kernel_rfl) (by kernel_rfl) rfl (fun _ => rfl) (by decide) (fun _ => rfl) (fun _ => rfl) ⟨0, 0, undef, undef⟩ (ChM.start HK1.out HO1.out) ?_ ?_ ?_
 ·intro z i L w9 hi hu hLi hM
  have hall : ∀ i, i < 10 → [true, true, true, true, true, true, true, true, true, true].getD i true = true := by decide
  rw [hall i hi] at hu
  cases hu
 ·intro z i o L a w9 ho hw hLi d hcl f hgo u hM K hK
  have hi : i < 10 := by have := (List.getElem?_eq_some_iff.1 ho).1; simpa using this
  have hcs : i = 0 ∨ i = 1 ∨ i = 2 ∨ i = 3 ∨ i = 4 ∨ i = 5 ∨ i = 6 ∨ i = 7 ∨ i = 8 ∨ i = 9 := by omega
  clear hi
  rcases hcs with rfl | rfl | rfl | rfl | rfl | rfl | rfl | rfl | rfl | rfl
  all_goals
   first | simp only [List.getElem?_cons_zero, List.getElem?_cons_succ, Option.some.injEq] at ho | replace ho := Option.some.inj ho
   subst ho
  ·have t3 : a.tmps[3]?.getD undef = v1 := u 9 (by decide) (vaa _ hcl (i := 9) rfl rfl hLi)
   unfold Oper.wp
   simp only [execOp, Act.eval, Array.getD_eq_getD_getElem?]
   go_simp
   exact hK z _ _ ((hM.cong (fun j hj => by have this : (j == 0) = false := (by rw [beq_eq_false_iff_ne]; rintro rfl; simp at hj); rw [this, Bool.false_or]))) (fun _ _ => rfl) rfl
  ·have t1 : a.tmps[1]?.getD undef = .pointer (some ⟨b, 0, none⟩) := hgo 1 (by decide)
   unfold Oper.wp
   simp only [execOp, Act.eval, Array.getD_eq_getD_getElem?]
   go_simp
   exact hK z _ _ ((hM.cong (fun j hj => by have this : (j == 1) = false := (by rw [beq_eq_false_iff_ne]; rintro rfl; simp at hj); rw [this, Bool.false_or]))) (fun _ _ => rfl) rfl
  ·have t14 : a.tmps[14]?.getD undef = .pointer (some ⟨b, 2, none⟩) := f 1 rfl
   have u9 := Blk.f (HB0.out.keep hM.kp) rfl
   unfold Oper.wp
   simp only [execOp, Act.eval, Array.getD_eq_getD_getElem?]
   go_simp
   exact hK z _ _ ((hM.cong (fun j hj => by have this : (j == 2) = false := (by rw [beq_eq_false_iff_ne]; rintro rfl; simp at hj); rw [this, Bool.false_or]))) (fun _ _ => rfl) rfl
  ·have t15 : a.tmps[15]?.getD undef = .int .u32 (e.a : Int) := f 2 rfl
   unfold Oper.wp
   simp only [execOp, Act.eval, Array.getD_eq_getD_getElem?]
   have n4 := vaa _ hcl (i := 4) (j := 3) rfl rfl hLi
   have n8 := vaa _ hcl (i := 8) (j := 4) rfl rfl n4
   go_simp
   refine (vcm e.a _ w1).mono ?_
   rintro e9 wb ⟨rfl, hB, hKc⟩
   exact hK { z with ga := w9.heap.size } _ _ (hM.at3 n8 hKc hB) (but1 hLi rfl) rfl
  ·have t13 : a.tmps[13]?.getD undef = v1 := f 0 rfl
   have t16 : a.tmps[16]?.getD undef = .slice (some ⟨z.ga, 0, none⟩) 4 4 := f 3 rfl
   have n8 := vaa _ hcl (i := 8) (j := 4) rfl rfl hLi
   have a1 := (hM.a (d 3 rfl) hLi).1
   refine vdg EByt vaj vaT rfl (.tmp 13) (.tmp 16) rfl (v := v1) (A := some ⟨z.ga, 0, none⟩) (c := 4) (xs := (beN fm 2 ++ beN t 2)) (ys := (beN e.a 4)) (by simp only [Act.eval, Array.getD_eq_getD_getElem?]; exact t13) (by simp only [Act.eval, Array.getD_eq_getD_getElem?]; exact t16) (hM.own0 hLi n8) (vcZ a1 (by simp [beN, maxLen])) (by simp [beN]) hM.kp.size (fun v5 w5 h1 h2 h3 => ?_)
   exact hK { z with v1 := v5 } _ _ (hM.at4 hLi n8 h1 h2 h3) (but1 hLi rfl) rfl
  ·have t1 : a.tmps[1]?.getD undef = .pointer (some ⟨b, 0, none⟩) := hgo 1 (by decide)
   unfold Oper.wp
   simp only [execOp, Act.eval, Array.getD_eq_getD_getElem?]
   go_simp
   exact hK z _ _ ((hM.cong (fun j hj => by have this : (j == 5) = false := (by rw [beq_eq_false_iff_ne]; rintro rfl; simp at hj); rw [this, Bool.false_or]))) (fun _ _ => rfl) rfl
  ·have t18 : a.tmps[18]?.getD undef = .pointer (some ⟨b, 3, none⟩) := f 5 rfl
   have u9 := Blk.f (HB0.out.keep hM.kp) rfl
   unfold Oper.wp
   simp only [execOp, Act.eval, Array.getD_eq_getD_getElem?]
   go_simp
   exact hK z _ _ ((hM.cong (fun j hj => by have this : (j == 6) = false := (by rw [beq_eq_false_iff_ne]; rintro rfl; simp at hj); rw [this, Bool.false_or]))) (fun _ _ => rfl) rfl
  ·have t19 : a.tmps[19]?.getD undef = .int .u32 (e.m : Int) := f 6 rfl
   unfold Oper.wp
   simp only [execOp, Act.eval, Array.getD_eq_getD_getElem?]
   go_simp
   refine (vcm e.m _ w2).mono ?_
   rintro e9 wb ⟨rfl, hB, hKc⟩
   exact hK { z with gb := w9.heap.size } _ _ (hM.at7 hKc hB) (but1 hLi rfl) rfl
  ·have t17 : a.tmps[17]?.getD undef = z.v1 := f 4 rfl
   have t20 : a.tmps[20]?.getD undef = .slice (some ⟨z.gb, 0, none⟩) 4 4 := f 7 rfl
   have n9 := vaa _ hcl (i := 9) (j := 8) rfl rfl hLi
   have l4 := d 4 rfl
   have b1 := (hM.b (d 7 rfl) hLi).1
   refine vdg EByt vaj vaT rfl (.tmp 17) (.tmp 20) rfl (v := z.v1) (A := some ⟨z.gb, 0, none⟩) (c := 4) (xs := (beN fm 2 ++ beN t 2) ++ (beN e.a 4)) (ys := (beN e.m 4)) (by simp only [Act.eval, Array.getD_eq_getD_getElem?]; exact t17) (by simp only [Act.eval, Array.getD_eq_getD_getElem?]; exact t20) (hM.own1 l4 hLi) (vcZ b1 (by simp [beN, maxLen])) (by simp [beN]) hM.kp.size (fun v5 w5 h1 h2 h3 => ?_)
   exact hK { z with v2 := v5 } _ _ (hM.at8 l4 hLi h1 h2) (but2 hLi n9 rfl) rfl
  ·have t21 : a.tmps[21]?.getD undef = z.v2 := f 8 rfl
   unfold Oper.wp
   simp only [execOp, Act.eval, Array.getD_eq_getD_getElem?]
   go_simp
   exact hK z _ _ ((hM.cong (fun j hj => by have this : (j == 9) = false := (by rw [beq_eq_false_iff_ne]; rintro rfl; simp at hj); rw [this, Bool.false_or]))) (fun _ _ => rfl) rfl
 intro z L w9 hL hM
 (try simp only [Exit.then])
 simp only [wrS, List.zip_cons_cons, List.zip_nil_right, List.foldl_cons, List.foldl_nil, List.setIfInBounds_toArray, List.set_cons_zero, List.set_cons_succ]
 have k2 := hM.kp
 have hO2 := hM.own2 (hL 8 (by decide))
 obtain ⟨v2, hv2⟩ : ∃ v2, z.v2 = v2 := ⟨_, rfl⟩
 rw [hv2] at hO2 ⊢
 have HO2 := Lib.hid hO2
 have HK2 := Lib.hid k2
 clear hM hL hO2 k2 hv2 L
 go_upto_region 3 with (fail)
 refine' vam (ChM W v2 (beN fm 2 ++ beN t 2 ++ beN e.a 4 ++ beN e.m 4) (beN e.n 4) (beN e.k 4)) [22, 23, 24, 25, 26, 27, 28, 29, 30, 2] (fun z => [v2, .pointer (some ⟨b, 4, none⟩), .int .u32 (e.n : Int), .slice (some ⟨z.ga, 0, none⟩) 4 4, z.v1, .pointer (some ⟨b, 5, none⟩), .int .u32 (e.k : Int), .slice (some ⟨z.gb, 0, none⟩) 4 4, z.v2, z.v2]) (List.replicate 10 true) [3, 4, 7, 8] (by kernel_rfl) (by kernel_rfl) (fun _ => rfl) (fun _ => rfl) (fun _ => rfl) ⟨0, 0, undef, undef⟩ (ChM.start HK2.out HO2.out) (fun _ _ _ _ q h => ChM.cong q h) ?_ ?_ ?_
 rotate_left
 ·intro z; simp only [List.zip_cons_cons, List.zip_nil_right, wrC, wrN, List.set_cons_zero, List.set_cons_succ, List.set_nil]; rfl
 ·repeat' (first | refine And.intro ?_ ?_ | exact trivial)
  all_goals intro z L a w9 hLi d hcl hM hO K hK
  all_goals have u := Blk.f (HB0.out.keep hM.kp) rfl
  all_goals try (go_simp; exact hK z _ _ (hO rfl) (fun _ _ => rfl) rfl)
  ·have n4 := vaa _ hcl (i := 4) (j := 3) rfl rfl hLi
   have n8 := vaa _ hcl (i := 8) (j := 4) rfl rfl n4
   go_simp
   refine (vcm e.n _ w3).mono ?_
   rintro e9 wb ⟨rfl, hB, hKc⟩
   exact hK { z with ga := w9.heap.size } _ _ (hM.at3 n8 hKc hB) (but1 hLi rfl) rfl
  ·have n8 := vaa _ hcl (i := 8) (j := 4) rfl rfl hLi
   have a1 := (hM.a (d 3 rfl) hLi).1
   refine vbT EByt vaj vaT (.tmp 22) (.tmp 25) rfl (v := v2) (A := some ⟨z.ga, 0, none⟩) (c := 4) (xs := (beN fm 2 ++ beN t 2 ++ beN e.a 4 ++ beN e.m 4)) (ys := (beN e.n 4)) rfl rfl (hM.own0 hLi n8) (vcZ a1 (by simp [beN, maxLen])) (by simp [beN]) hM.kp.size (fun v5 w5 h1 h2 h3 => ?_)
   exact hK { z with v1 := v5 } _ _ (hM.at4 hLi n8 h1 h2 h3) (but1 hLi rfl) rfl
  ·go_simp
   refine (vcm e.k _ w4).mono ?_
   rintro e9 wb ⟨rfl, hB, hKc⟩
   exact hK { z with gb := w9.heap.size } _ _ (hM.at7 hKc hB) (but1 hLi rfl) rfl
  ·have n9 := vaa _ hcl (i := 9) (j := 8) rfl rfl hLi
   have l4 := d 4 rfl
   have b1 := (hM.b (d 7 rfl) hLi).1
   refine vbT EByt vaj vaT (.tmp 26) (.tmp 29) rfl (v := z.v1) (A := some ⟨z.gb, 0, none⟩) (c := 4) (xs := (beN fm 2 ++ beN t 2 ++ beN e.a 4 ++ beN e.m 4) ++ (beN e.n 4)) (ys := (beN e.k 4)) rfl rfl (hM.own1 l4 hLi) (vcZ b1 (by simp [beN, maxLen])) (by simp [beN]) hM.kp.size (fun v5 w5 h1 h2 h3 => ?_)
   exact hK { z with v2 := v5 } _ _ (hM.at8 l4 hLi h1 h2) (but2 hLi n9 rfl) rfl
 intro z L w9 hL hM
 (try simp only [Exit.then])
 have k3 := hM.kp
 have hO3 := hM.own2 (hL 8 (by decide))
 rw [← HBY.out] at hO3
 have HO3 := Lib.hid (hO3.mono HkW.out.size)
 have HK3 := Lib.hid (HkW.out.trans k3)
 clear hM hL hO3 k3
 go_wp2_with fail
 go_ret
 exact ⟨_, rfl, HO3.out, HK3.out⟩
end

end Go.Proofs.YtgopnfacklmkaaaGreatDoor
