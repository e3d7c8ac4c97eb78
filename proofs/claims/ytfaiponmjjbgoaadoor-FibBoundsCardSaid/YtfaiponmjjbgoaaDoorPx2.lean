/- Prefixes bit by bit, and masks: the plain numbers. No program in sight. -/
import Derived.Test.YtfaiponmjjbgoaaDoorPx
namespace Go.Proofs.YtfaiponmjjbgoaaDoor

theorem cut_zero {a : Nat} (h : a < 4294967296) : cut a 0 = 0 := by
  unfold cut
  rw [Nat.div_eq_of_lt (by simpa using h), Nat.zero_mul]
theorem cut_up (a : Nat) {n m : Nat} (h : n ≤ m) (hm : m ≤ 32) : cut a n ≤ cut a m := by
  rw [← cut_cut a h hm]; exact cut_le _ _
theorem bits_zero {a n : Nat} (hn : n ≤ 32) : (∀ i, n ≤ i → i < 32 → bitN a i = 0) ↔ cut a n = a := by
  constructor
  · intro h
    have key : ∀ k, k ≤ 32 - n → cut a (n + k) = cut a n := by
      intro k
      induction k with
      | zero => intro _; rfl
      | succ k ih =>
        intro hk
        rw [show n + (k + 1) = (n + k) + 1 by omega, cut_succ a (by omega), h (n + k) (by omega) (by omega), ih (by omega)]
        omega
    have := key (32 - n) (Nat.le_refl _)
    rw [show n + (32 - n) = 32 by omega, cut_32] at this
    exact this.symm
  · intro h i hi h32
    have h1 := cut_up a hi (by omega)
    have h2 := cut_le a (i + 1)
    rw [cut_succ a h32] at h2
    have h3 := bit_lt a i
    rw [h] at h1
    have h4 : 0 < 2 ^ (31 - i) := Nat.two_pow_pos _
    rcases Nat.eq_zero_or_pos (bitN a i) with h5 | h5
    · exact h5
    · have : 2 ^ (31 - i) ≤ bitN a i * 2 ^ (31 - i) := Nat.le_mul_of_pos_left _ h5
      omega
theorem bits_same {a b n : Nat} (ha : a < 4294967296) (hb : b < 4294967296) (hn : n ≤ 32) : (∀ i, i < n → bitN a i = bitN b i) ↔ cut a n = cut b n := by
  induction n with
  | zero => simp [cut_zero ha, cut_zero hb]
  | succ n ih =>
    have ih := ih (by omega)
    rw [cut_succ a (by omega), cut_succ b (by omega)]
    constructor
    · intro h
      rw [ih.1 (fun i hi => h i (by omega)), h n (by omega)]
    · intro h
      have h1 : cut a n = cut b n := by
        have e : ∀ c, cut (cut c n + bitN c n * 2 ^ (31 - n)) n = cut c n := fun c => by
          rw [← cut_succ c (by omega), cut_cut c (Nat.le_succ _) (by omega)]
        have := congrArg (fun x => cut x n) h
        simp only [e] at this
        exact this
      intro i hi
      by_cases e : i = n
      · subst e
        rw [h1] at h
        have : bitN a i * 2 ^ (31 - i) = bitN b i * 2 ^ (31 - i) := by omega
        exact Nat.eq_of_mul_eq_mul_right (Nat.two_pow_pos _) this
      · exact ih.2 h1 i (by omega)

/-- The mask of so many bits. -/
def maskN (n : Nat) : Nat := 4294967296 - 2 ^ (32 - n)
theorem pow_le32 (n : Nat) : 2 ^ (32 - n) ≤ 4294967296 := by
  have := Nat.pow_le_pow_right (show 0 < 2 by omega) (show 32 - n ≤ 32 by omega)
  simpa using this
theorem and_mask {a n : Nat} (ha : a < 4294967296) (hn : n ≤ 32) : a &&& maskN n = cut a n := by
  have hm : maskN n = (2 ^ n - 1) * 2 ^ (32 - n) := by
    unfold maskN
    rw [Nat.sub_mul, Nat.one_mul, ← Nat.pow_add, show n + (32 - n) = 32 by omega]
  rw [hm]
  apply Nat.eq_of_testBit_eq
  intro i
  unfold cut
  rw [Nat.testBit_and, Nat.testBit_mul_two_pow, Nat.testBit_mul_two_pow, Nat.testBit_two_pow_sub_one, Nat.testBit_div_two_pow]
  by_cases h : 32 - n ≤ i
  · have e : 32 - n + (i - (32 - n)) = i := by omega
    have e' : i - (32 - n) + (32 - n) = i := by omega
    by_cases h2 : i - (32 - n) < n
    · simp [h, h2, e, e']
    · have h3 : a.testBit i = false := Nat.testBit_lt_two_pow (Nat.lt_of_lt_of_le ha (by
        have := Nat.pow_le_pow_right (show 0 < 2 by omega) (show 32 ≤ i by omega)
        simpa using this))
      simp [h, h2, e, e', h3]
  · simp [h]
theorem andnot_mask {a n : Nat} (ha : a < 4294967296) (hn : n ≤ 32) : a &&& (4294967295 - maskN n) = a - cut a n := by
  have hm : 4294967295 - maskN n = 2 ^ (32 - n) - 1 := by have := pow_le32 n; have := Nat.two_pow_pos (32 - n); unfold maskN; omega
  rw [hm, Nat.and_two_pow_sub_one_eq_mod]
  unfold cut
  have := Nat.div_add_mod a (2 ^ (32 - n))
  rw [Nat.mul_comm] at this
  omega
end Go.Proofs.YtfaiponmjjbgoaaDoor
