/- Prefixes as plain numbers: cutting, holding, bits, order. No program in sight. -/
import Derived.Laws.Entries
namespace Go.Proofs.YtfaiponmjjbgoaaDoor

/-- An address whose bits behind the first n are struck. -/
def cut (a n : Nat) : Nat := a / 2 ^ (32 - n) * 2 ^ (32 - n)
def bitN (a i : Nat) : Nat := if i < 32 then a / 2 ^ (31 - i) % 2 else 0

structure Pn where
  a : Nat
  l : Nat
deriving DecidableEq

def Pn.ok (p : Pn) : Prop := p.a < 4294967296 ∧ p.l ≤ 32 ∧ cut p.a p.l = p.a
def Pn.holds (p q : Pn) : Prop := p.l ≤ q.l ∧ cut q.a p.l = p.a
instance (p q : Pn) : Decidable (p.holds q) := inferInstanceAs (Decidable (_ ∧ _))
/-- What is beneath a prefix, by the bit behind it. -/
def Pn.child (p : Pn) (i : Nat) : Pn := ⟨p.a + i * 2 ^ (31 - p.l), p.l + 1⟩
def Pn.lt (p q : Pn) : Prop := p.a < q.a ∨ (p.a = q.a ∧ p.l < q.l)
instance (p q : Pn) : Decidable (p.lt q) := inferInstanceAs (Decidable (_ ∨ _))

theorem cut_le (a n : Nat) : cut a n ≤ a := Nat.div_mul_le_self _ _
theorem lt_cut (a n : Nat) : a < cut a n + 2 ^ (32 - n) := by
  unfold cut
  have h := Nat.div_add_mod a (2 ^ (32 - n))
  have h2 := Nat.mod_lt a (show 0 < 2 ^ (32 - n) from Nat.two_pow_pos _)
  rw [Nat.mul_comm]; omega
theorem cut_32 (a : Nat) : cut a 32 = a := by simp [cut]
theorem cut_cut (a : Nat) {n m : Nat} (h : n ≤ m) (hm : m ≤ 32) : cut (cut a m) n = cut a n := by
  unfold cut
  obtain ⟨k, rfl⟩ : ∃ k, m = n + k := ⟨m - n, by omega⟩
  have e : 2 ^ (32 - n) = 2 ^ (32 - (n + k)) * 2 ^ k := by rw [← Nat.pow_add]; congr 1; omega
  rw [e]
  generalize hs : 2 ^ (32 - (n + k)) = s
  have hs0 : 0 < s := by rw [← hs]; exact Nat.two_pow_pos _
  rw [← Nat.div_div_eq_div_mul, Nat.mul_div_cancel _ hs0, Nat.div_div_eq_div_mul]
theorem pow_half {n : Nat} (h : n < 32) : 2 ^ (32 - n) = 2 * 2 ^ (31 - n) := by
  rw [show 32 - n = (31 - n) + 1 by omega, Nat.pow_succ]; omega
theorem cut_succ (a : Nat) {n : Nat} (h : n < 32) : cut a (n + 1) = cut a n + bitN a n * 2 ^ (31 - n) := by
  unfold cut bitN
  rw [if_pos h, pow_half h, show 32 - (n + 1) = 31 - n by omega]
  generalize hs : 2 ^ (31 - n) = s
  have e : a / (2 * s) = a / s / 2 := by rw [Nat.mul_comm, Nat.div_div_eq_div_mul]
  rw [e]
  generalize a / s = q
  have := Nat.div_add_mod q 2
  calc q * s = (2 * (q / 2) + q % 2) * s := by rw [this]
    _ = q / 2 * (2 * s) + q % 2 * s := by rw [Nat.add_mul, Nat.mul_comm 2 (q / 2), Nat.mul_assoc]
theorem bit_lt (a i : Nat) : bitN a i < 2 := by unfold bitN; split <;> omega

theorem holds_self {p : Pn} (h : p.ok) : p.holds p := ⟨Nat.le_refl _, h.2.2⟩
theorem holds_trans {p q r : Pn} (h1 : p.holds q) (h2 : q.holds r) (hq : q.l ≤ 32) : p.holds r := by
  refine ⟨Nat.le_trans h1.1 h2.1, ?_⟩
  rw [← cut_cut r.a h1.1 hq, h2.2, h1.2]
theorem holds_both {p q r : Pn} (h1 : p.holds r) (h2 : q.holds r) (h : p.l ≤ q.l) (hq : q.l ≤ 32) : p.holds q := by
  refine ⟨h, ?_⟩
  rw [← h2.2, cut_cut r.a h hq, h1.2]
theorem holds_eq {p q : Pn} (h : p.holds q) (hl : p.l = q.l) (hq : q.ok) : p = q := by
  have := h.2
  rw [hl, hq.2.2] at this
  cases p; cases q; simp at this hl ⊢; exact ⟨this.symm, hl⟩
theorem child_holds {p q : Pn} (h : p.holds q) (hl : p.l < q.l) (hq : q.l ≤ 32) : (p.child (bitN q.a p.l)).holds q := by
  refine ⟨hl, ?_⟩
  show cut q.a (p.l + 1) = p.a + bitN q.a p.l * 2 ^ (31 - p.l)
  rw [cut_succ q.a (by omega), h.2]
theorem holds_child {p : Pn} {i : Nat} (hi : i < 2) (hp : p.ok) (hl : p.l < 32) : p.holds (p.child i) := by
  refine ⟨Nat.le_succ _, ?_⟩
  show cut (p.a + i * 2 ^ (31 - p.l)) p.l = p.a
  have hc := hp.2.2
  unfold cut at hc ⊢
  rw [pow_half hl] at hc ⊢
  generalize 2 ^ (31 - p.l) = s at *
  by_cases hs : s = 0
  · subst hs; simp at hc ⊢; omega
  · have e : (p.a + i * s) / (2 * s) = p.a / (2 * s) := by
      have hd : p.a = p.a / (2 * s) * (2 * s) := hc.symm
      generalize p.a / (2 * s) = q at hd
      rw [hd]
      have h1 : i * s < 2 * s := Nat.mul_lt_mul_of_pos_right hi (by omega)
      rw [Nat.add_comm, Nat.add_mul_div_right _ _ (by omega), Nat.div_eq_of_lt h1, Nat.zero_add]
    rw [e, hc]
theorem child_strict {p q : Pn} {i : Nat} (hi : i < 2) (hp : p.ok) (h : (p.child i).holds q) (hq : q.l ≤ 32) : p.holds q ∧ p.l < q.l ∧ bitN q.a p.l = i := by
  have hl : p.l < q.l := h.1
  have h1 : p.holds q := holds_trans (holds_child hi hp (by omega)) h (show p.l + 1 ≤ 32 by omega)
  refine ⟨h1, hl, ?_⟩
  have e : cut q.a (p.l + 1) = p.a + i * 2 ^ (31 - p.l) := h.2
  rw [cut_succ q.a (by omega), h1.2] at e
  have : bitN q.a p.l * 2 ^ (31 - p.l) = i * 2 ^ (31 - p.l) := by omega
  exact Nat.eq_of_mul_eq_mul_right (Nat.two_pow_pos _) this
theorem child_ok {p : Pn} {i : Nat} (hi : i < 2) (hp : p.ok) (hl : p.l < 32) : (p.child i).ok := by
  have hb := lt_cut p.a p.l
  obtain ⟨h1, h2, h3⟩ := hp
  have h4 : p.a + i * 2 ^ (31 - p.l) < 4294967296 ∧ cut (p.a + i * 2 ^ (31 - p.l)) (p.l + 1) = p.a + i * 2 ^ (31 - p.l) := by
    unfold cut at h3 ⊢
    rw [pow_half hl] at h3
    rw [show 32 - (p.l + 1) = 31 - p.l by omega]
    have hpow : 4294967296 = 2 ^ (31 - p.l) * 2 ^ (p.l + 1) := by rw [← Nat.pow_add, show 31 - p.l + (p.l + 1) = 32 by omega]
    have hs0 : 0 < 2 ^ (31 - p.l) := Nat.two_pow_pos _
    have he : ∃ t, 2 ^ (p.l + 1) = 2 * t := ⟨2 ^ p.l, by rw [Nat.pow_succ]; omega⟩
    obtain ⟨t, ht⟩ := he
    rw [ht] at hpow
    generalize 2 ^ (31 - p.l) = s at *
    generalize hq : p.a / (2 * s) = q at *
    rw [← h3] at h1 ⊢
    have e1 : q * (2 * s) + i * s = (2 * q + i) * s := by rw [Nat.add_mul, Nat.mul_comm 2 q, Nat.mul_assoc]
    rw [e1, Nat.mul_div_cancel _ hs0]
    refine ⟨?_, rfl⟩
    have h5 : q * (2 * s) < s * (2 * t) := by omega
    have h6 : q < t := by
      apply Nat.lt_of_mul_lt_mul_left (a := 2 * s)
      rw [Nat.mul_comm (2 * s) q]
      calc q * (2 * s) < s * (2 * t) := h5
        _ = 2 * s * t := by rw [Nat.mul_comm 2 t, ← Nat.mul_assoc, Nat.mul_comm (s * t) 2, Nat.mul_assoc]
    rw [hpow, Nat.mul_comm]
    exact Nat.mul_lt_mul_of_pos_left (by omega) hs0
  exact ⟨h4.1, by show p.l + 1 ≤ 32; omega, h4.2⟩

theorem lt_of_within {p q : Pn} (h : p.holds q) (hl : p.l < q.l) : p.lt q := by
  have := cut_le q.a p.l
  rw [h.2] at this
  unfold Pn.lt
  omega
theorem lt_sides {p q r : Pn} (h0 : (p.child 0).holds q) (h1 : (p.child 1).holds r) (hl : p.l < 32) : q.lt r := by
  have e0 : cut q.a (p.l + 1) = p.a + 0 * 2 ^ (31 - p.l) := h0.2
  have e1 : cut r.a (p.l + 1) = p.a + 1 * 2 ^ (31 - p.l) := h1.2
  have h2 := lt_cut q.a (p.l + 1)
  have h3 := cut_le r.a (p.l + 1)
  rw [show 32 - (p.l + 1) = 31 - p.l by omega] at h2
  left
  omega
theorem lt_trans {p q r : Pn} (h1 : p.lt q) (h2 : q.lt r) : p.lt r := by unfold Pn.lt at *; omega
theorem lt_irrefl (p : Pn) : ¬ p.lt p := by unfold Pn.lt; omega
theorem lt_total (p q : Pn) : p.lt q ∨ p = q ∨ q.lt p := by
  unfold Pn.lt
  by_cases h : p.a = q.a
  · by_cases h2 : p.l = q.l
    · right; left; cases p; cases q; simp at h h2; simp [h, h2]
    · omega
  · omega

theorem child_inj {p : Pn} {i j : Nat} {q : Pn} (hi : i < 2) (hj : j < 2) (hp : p.ok) (h1 : (p.child i).holds q) (h2 : (p.child j).holds q) (hq : q.l ≤ 32) : i = j := by
  rw [← (child_strict hi hp h1 hq).2.2, ← (child_strict hj hp h2 hq).2.2]
/-- What holds both, and no longer one does. -/
def Pn.take (p : Pn) (n : Nat) : Pn := ⟨cut p.a n, n⟩
theorem take_holds (p : Pn) {n : Nat} (hn : n ≤ p.l) : (p.take n).holds p := ⟨hn, rfl⟩
theorem take_ok {p : Pn} (hp : p.ok) {n : Nat} (hn : n ≤ p.l) : (p.take n).ok := ⟨Nat.lt_of_le_of_lt (cut_le _ _) hp.1, Nat.le_trans hn hp.2.1, cut_cut p.a (Nat.le_refl _) (Nat.le_trans hn hp.2.1)⟩
theorem holds_take {c p : Pn} (h : c.holds p) : c = p.take c.l := by
  cases c with
  | mk a l => have := h.2; simp at this; simp [Pn.take, this]

/-- The longest that holds two prefixes. -/
def comLen (p q : Pn) : Nat → Nat
  | 0 => 0
  | n + 1 => if (p.take (n + 1)).holds q then n + 1 else comLen p q n
def Pn.com (p q : Pn) : Pn := p.take (comLen p q p.l)
theorem comLen_le (p q : Pn) : ∀ n, comLen p q n ≤ n
  | 0 => Nat.le_refl _
  | n + 1 => by
    have := comLen_le p q n
    unfold comLen; split <;> omega
theorem comLen_holds {p q : Pn} (hp : p.ok) (hq : q.ok) : ∀ n, n ≤ p.l → (p.take (comLen p q n)).holds q
  | 0, _ => by
    refine ⟨Nat.zero_le _, ?_⟩
    show cut q.a 0 = cut p.a 0
    have h1 := hp.1
    have h2 := hq.1
    unfold cut
    rw [Nat.div_eq_of_lt (by simpa using h2), Nat.div_eq_of_lt (by simpa using h1)]
  | n + 1, hn => by
    unfold comLen
    split
    · assumption
    · exact comLen_holds hp hq n (by omega)
theorem comLen_max {p q : Pn} : ∀ n k, k ≤ n → (p.take k).holds q → k ≤ comLen p q n
  | 0, k, hk, _ => by omega
  | n + 1, k, hk, h => by
    unfold comLen
    split
    · exact hk
    · rename_i hn
      by_cases e : k = n + 1
      · subst e; exact absurd h hn
      · exact comLen_max n k (by omega) h
theorem com_left {p q : Pn} : (p.com q).holds p := take_holds p (comLen_le p q p.l)
theorem com_right {p q : Pn} (hp : p.ok) (hq : q.ok) : (p.com q).holds q := comLen_holds hp hq p.l (Nat.le_refl _)
theorem com_ok {p q : Pn} (hp : p.ok) : (p.com q).ok := take_ok hp (comLen_le p q p.l)
theorem com_max {p q c : Pn} (h1 : c.holds p) (h2 : c.holds q) : c.l ≤ (p.com q).l := by
  show c.l ≤ comLen p q p.l
  exact comLen_max p.l c.l h1.1 (by rw [← holds_take h1]; exact h2)
/-- Behind what two prefixes have in common their bits differ. -/
theorem com_bits {p q : Pn} (hp : p.ok) (hq : q.ok) (h1 : (p.com q).l < p.l) (h2 : (p.com q).l < q.l) : bitN p.a (p.com q).l ≠ bitN q.a (p.com q).l := by
  intro e
  have c1 := child_holds (com_left (p := p) (q := q)) h1 hp.2.1
  have c2 := child_holds (com_right hp hq) h2 hq.2.1
  rw [e] at c1
  have := com_max c1 c2
  have e2 : ((p.com q).child (bitN q.a (p.com q).l)).l = (p.com q).l + 1 := rfl
  omega
end Go.Proofs.YtfaiponmjjbgoaaDoor
