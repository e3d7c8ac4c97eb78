/- Lemmas and contracts for the theorem of this claim: NumL, AddrL, WordL, ScrL, Base, Rec, Px, Px2, VPfA, VPfB, Range. -/
import Derived.Lib.ItoaNum
import Derived.Lib.ItoaMem
import Derived.Lib.Atoi
import Derived.Lib.OthersKept
import Derived.Lib.Join
import Derived.Lib.Bytealg
import Derived.Lib.ParseIntBTie
import Derived.WalkKit
import Derived.Handy
import Derived.WalkLawsBesides
import Derived.WalkSpells
import Derived.Lib.Hide
import Derived.Deep.QuietTactic
import Derived.BigQuiet
import Derived.Laws.EntriesVeiled
import Derived.Laws.Entries
import Derived.Test.YtbfimimhgdkpaaaGreatDoorRows
import Derived.Deep.RegionHeld3
import Derived.RangeFuncOwn
import Derived.RangeFuncLeaves
set_option linter.unusedSimpArgs false
set_option linter.unusedVariables false
/- Decimal numerals, read and written: no program in sight. -/
namespace Go.Proofs.YtbfimimhgdkpaaaGreatDoor
open Go.Lib

theorem head_app {l : List UInt8} (h : l ≠ []) (r : List UInt8) : (l ++ r).head? = l.head? := by cases l with | nil => exact absurd rfl h | cons a l => rfl
theorem decFrom_app (b : UInt8) : ∀ (l : List UInt8) (acc : Nat), decFrom acc (l ++ [b]) = (decFrom acc l).bind (fun n => (digitVal b).map (fun d => n * 10 + d))
  | [], acc => by
    simp only [List.nil_append, decFrom]
    cases digitVal b <;> simp
  | c :: l, acc => by
    simp only [List.cons_append, decFrom]
    cases h : digitVal c with
    | none => simp
    | some d => simp only; exact decFrom_app b l _
theorem digitVal_of {d : Nat} (h : d < 10) : digitVal (UInt8.ofNat (48 + d)) = some d := by
  unfold digitVal
  have e : (UInt8.ofNat (48 + d)).toNat = 48 + d := by simp; omega
  rw [e, if_pos (by omega)]
  congr 1
  omega
theorem digitVal_eq {b : UInt8} {d : Nat} (h : digitVal b = some d) : d < 10 ∧ b = UInt8.ofNat (48 + d) := by
  unfold digitVal at h
  split at h
  · rename_i hh
    injection h with h
    refine ⟨by omega, ?_⟩
    apply UInt8.toNat.inj
    simp
    omega
  · cases h
theorem digits_val (u : Nat) : decFrom 0 (decDigits u) = some u := by
  induction u using Nat.strongRecOn with
  | _ u ih =>
    by_cases h : u < 10
    · rw [decDigits, dif_pos h]
      simp only [decFrom, digitVal_of h]
      simp
    · rw [decDigits, dif_neg h, decFrom_app, ih (u / 10) (by omega), Option.bind_some, digitVal_of (by omega)]
      simp
      omega
theorem digits_ne (u : Nat) : decDigits u ≠ [] := by
  rw [decDigits]
  split <;> simp
/-- No numeral but 0 begins with 0. -/
theorem digits_head (u : Nat) : (decDigits u).head? = some 48 → u = 0 := by
  induction u using Nat.strongRecOn with
  | _ u ih =>
    intro hh
    by_cases h : u < 10
    · rw [decDigits, dif_pos h] at hh
      simp only [List.head?_cons, Option.some.injEq] at hh
      have := congrArg UInt8.toNat hh
      simp at this
      omega
    · rw [decDigits, dif_neg h, head_app (digits_ne _)] at hh
      have := ih (u / 10) (by omega) hh
      omega
/-- A numeral without a 0 ahead is the one that is written. -/
theorem digits_canon : ∀ (m : Nat) (l : List UInt8) (n : Nat), l.length = m → decFrom 0 l = some n → l ≠ [] → (l.length = 1 ∨ l.head? ≠ some 48) → l = decDigits n := by
  intro m
  induction m with
  | zero => intro l n hl _ hne _; exact absurd (List.length_eq_zero_iff.1 hl) hne
  | succ m ih =>
    intro l n hl hd hne hc
    rcases List.eq_nil_or_concat l with e | ⟨l', b, e⟩
    · exact absurd e hne
    · rw [List.concat_eq_append] at e
      subst e
      rw [decFrom_app] at hd
      cases h1 : decFrom 0 l' with
      | none => rw [h1] at hd; simp at hd
      | some n' =>
        cases h2 : digitVal b with
        | none => rw [h1, h2] at hd; simp at hd
        | some d =>
          rw [h1, h2] at hd
          simp at hd
          obtain ⟨hd10, hb⟩ := digitVal_eq h2
          by_cases hl' : l' = []
          · subst hl'
            simp only [decFrom, Option.some.injEq] at h1
            subst h1
            have : n = d := by omega
            subst this
            rw [decDigits, dif_pos hd10, hb]
            rfl
          · have hlen : l'.length = m := by simpa using hl
            have hpos : 0 < l'.length := List.length_pos_iff.2 hl'
            have hhead : l'.head? ≠ some 48 := by
              rcases hc with hc | hc
              · simp at hc; exact absurd hc hl'
              · rwa [head_app hl'] at hc
            have hi := ih l' n' hlen h1 hl' (.inr hhead)
            have hn' : n' ≠ 0 := fun e => by
              subst e
              rw [hi] at hhead
              exact hhead (by rw [decDigits, dif_pos (by omega)]; rfl)
            rw [decDigits, dif_neg (by omega)]
            have e1 : n / 10 = n' := by omega
            have e2 : n % 10 = d := by omega
            rw [e1, e2, ← hi, ← hb]

theorem digits_len {k : Nat} (hk : 0 < k) : ∀ u, u < 10 ^ k → (decDigits u).length ≤ k := by
  induction k with
  | zero => omega
  | succ k ih =>
    intro u hu
    by_cases h : u < 10
    · rw [decDigits, dif_pos h]; simp
    · have hk0 : 0 < k := by
        rcases Nat.eq_zero_or_pos k with e | e
        · subst e; simp at hu; omega
        · exact e
      rw [decDigits, dif_neg h, List.length_append, List.length_singleton]
      have : u / 10 < 10 ^ k := by rw [Nat.div_lt_iff_lt_mul (by omega)]; rw [Nat.pow_succ] at hu; exact hu
      have := ih hk0 (u / 10) this
      omega

/-- The reference's reading of a number, perhaps below 0. -/
def minS : List UInt8 := 45 :: [57, 50, 50, 51, 51, 55, 50, 48, 51, 54, 56, 53, 52, 55, 55, 53, 56, 48, 56]
def belowB (s : List UInt8) : Bool := decide (1 < s.length) && (s.head? == some 45)
def bareS (s : List UInt8) : List UInt8 := if belowB s then s.tail else s
def badS (s : List UInt8) : Bool := (bareS s).isEmpty || decide (19 < (bareS s).length) || (decide (1 < (bareS s).length) && ((bareS s).head? == some 48)) || (belowB s && (bareS s == [48]))
def refInt (s : List UInt8) : Option Int :=
  if s = minS then some (-9223372036854775808)
  else if badS s then none
  else match decFrom 0 (bareS s) with
    | none => none
    | some n => if 9223372036854775807 < n then none else some (if belowB s then -(n : Int) else n)
theorem min_itoa : minS = itoa (-9223372036854775808) := by
  have h := digits_canon 19 [57, 50, 50, 51, 51, 55, 50, 48, 51, 54, 56, 53, 52, 55, 55, 53, 56, 48, 56] 9223372036854775808 rfl (by decide +kernel) (by simp) (.inr (by simp))
  have e := itoa_neg 9223372036854775808 (by omega)
  rw [← h] at e
  exact e.symm
theorem refInt_sound {s : List UInt8} {n : Int} (h : refInt s = some n) : s = itoa n ∧ -9223372036854775808 ≤ n ∧ n ≤ 9223372036854775807 := by
  unfold refInt at h
  split at h
  · rename_i e
    injection h with h
    subst h
    exact ⟨e.trans min_itoa, by omega, by omega⟩
  · split at h
    · cases h
    · rename_i hb
      simp only [badS, Bool.or_eq_true, not_or, Bool.and_eq_true, not_and, decide_eq_true_eq, beq_iff_eq, List.isEmpty_iff] at hb
      obtain ⟨⟨⟨h1, h2⟩, h3⟩, h4⟩ := hb
      cases hd : decFrom 0 (bareS s) with
      | none => rw [hd] at h; cases h
      | some m =>
        rw [hd] at h
        simp only at h
        split at h
        · cases h
        · rename_i hm
          injection h with h
          have hl : 0 < (bareS s).length := List.length_pos_iff.2 h1
          have hc := digits_canon _ (bareS s) m rfl hd h1 (by
            rcases Nat.lt_or_ge 1 (bareS s).length with e | e
            · exact .inr (fun e' => h3 e e')
            · exact .inl (by omega))
          cases hbl : belowB s with
          | false =>
            rw [hbl] at h
            simp only [Bool.false_eq_true, if_false] at h
            subst h
            have e : bareS s = s := by simp [bareS, hbl]
            rw [e] at hc
            exact ⟨by rw [itoa_nonneg]; exact hc, by omega, by omega⟩
          | true =>
            rw [hbl] at h
            simp only [if_true] at h
            subst h
            have e : bareS s = s.tail := by simp [bareS, hbl]
            have hne : m ≠ 0 := fun e0 => by
              subst e0
              exact h4 hbl (by rw [hc, decDigits, dif_pos (by omega)]; rfl)
            simp only [belowB, Bool.and_eq_true, decide_eq_true_eq, beq_iff_eq] at hbl
            have hs : s = 45 :: s.tail := by
              cases s with
              | nil => simp at hbl
              | cons a t => simp at hbl; simp [hbl.2]
            rw [e] at hc
            exact ⟨by rw [itoa_neg m (by omega), ← hc]; exact hs, by omega, by omega⟩
theorem digits_all (u : Nat) : ∀ b ∈ decDigits u, 48 ≤ b.toNat ∧ b.toNat ≤ 57 := by
  induction u using Nat.strongRecOn with
  | _ u ih =>
    intro b hb
    by_cases h : u < 10
    · rw [decDigits, dif_pos h] at hb
      simp at hb
      rw [hb]; simp; omega
    · rw [decDigits, dif_neg h, List.mem_append] at hb
      rcases hb with hb | hb
      · exact ih (u / 10) (by omega) b hb
      · simp at hb; rw [hb]; simp; omega
theorem digits_no45 (u : Nat) : (decDigits u).head? ≠ some 45 := by
  intro h
  have hm : (45 : UInt8) ∈ decDigits u := List.mem_of_mem_head? h
  have := digits_all u 45 hm
  simp at this
theorem refInt_whole {n : Int} (h0 : -9223372036854775808 ≤ n) (h1 : n ≤ 9223372036854775807) : refInt (itoa n) = some n := by
  unfold refInt
  by_cases hm : n = -9223372036854775808
  · rw [if_pos (by rw [hm]; exact min_itoa.symm), hm]
  · have hne : ¬ itoa n = minS := fun e => by
      rw [min_itoa] at e
      have a := congrArg (fun l => decFrom 0 l.tail) e
      rcases Int.lt_or_le n 0 with hn | hn
      · obtain ⟨u, hu⟩ : ∃ u : Nat, n = -(u : Int) := ⟨n.natAbs, by omega⟩
        have e2 := itoa_neg 9223372036854775808 (by omega)
        rw [hu, itoa_neg u (by omega), show (-9223372036854775808 : Int) = -((9223372036854775808 : Nat) : Int) by omega, e2] at a
        simp only [List.tail_cons, digits_val, Option.some.injEq] at a
        omega
      · obtain ⟨u, hu⟩ : ∃ u : Nat, n = (u : Int) := ⟨n.toNat, by omega⟩
        have e2 := itoa_neg 9223372036854775808 (by omega)
        rw [hu, itoa_nonneg, show (-9223372036854775808 : Int) = -((9223372036854775808 : Nat) : Int) by omega, e2] at e
        exact digits_no45 u (by rw [e]; rfl)
    rw [if_neg hne]
    rcases Int.lt_or_le n 0 with hn | hn
    · obtain ⟨u, hu⟩ : ∃ u : Nat, n = -(u : Int) := ⟨n.natAbs, by omega⟩
      have hlen : (decDigits u).length ≤ 19 := digits_len (by omega) u (by omega)
      have hpos : 0 < (decDigits u).length := List.length_pos_iff.2 (digits_ne u)
      rw [hu, itoa_neg u (by omega)]
      have hb : belowB (45 :: decDigits u) = true := by simp [belowB]; omega
      have hr : bareS (45 :: decDigits u) = decDigits u := by simp [bareS, hb]
      have hz : badS (45 :: decDigits u) = false := by
        unfold badS
        rw [hr, hb]
        have a1 : (decDigits u).isEmpty = false := by cases hd : decDigits u with | nil => exact absurd hd (digits_ne u) | cons a t => rfl
        have a2 : ¬ (decDigits u).head? = some 48 := fun e => by have := digits_head u e; omega
        have a3 : ¬ decDigits u = [48] := fun e => a2 (by rw [e]; rfl)
        simp [a1, a2, a3]; omega
      rw [hz, hr, digits_val, hb]
      simp
      omega
    · obtain ⟨u, hu⟩ : ∃ u : Nat, n = (u : Int) := ⟨n.toNat, by omega⟩
      have hlen : (decDigits u).length ≤ 19 := digits_len (by omega) u (by omega)
      rw [hu, itoa_nonneg]
      have hb : belowB (decDigits u) = false := by
        unfold belowB
        have := digits_no45 u
        simp [this]
      have hr : bareS (decDigits u) = decDigits u := by simp [bareS, hb]
      have hz : badS (decDigits u) = false := by
        unfold badS
        rw [hr, hb]
        have a1 : (decDigits u).isEmpty = false := by cases hd : decDigits u with | nil => exact absurd hd (digits_ne u) | cons a t => rfl
        have a2 : 1 < (decDigits u).length → ¬ (decDigits u).head? = some 48 := fun h e => by
          have := digits_head u e
          subst this
          rw [decDigits, dif_pos (by omega)] at h
          simp at h
        by_cases hl : 1 < (decDigits u).length
        · simp [a1, a2 hl]; omega
        · simp [a1, hl]; omega
      rw [hz, hr, digits_val, hb]
      simp
      omega
end Go.Proofs.YtbfimimhgdkpaaaGreatDoor

/- An address's text, written and read, by the program's reader and by the reference's: no program in sight. -/
namespace Go.Proofs.YtbfimimhgdkpaaaGreatDoor
open Go.Lib

def textA (a : Nat) : List UInt8 := decDigits (a / 16777216) ++ 46 :: (decDigits (a / 65536 % 256) ++ 46 :: (decDigits (a / 256 % 256) ++ 46 :: decDigits (a % 256)))
/-- The program's reader: the parts, the one that is read, how many of its digits were read. -/
structure AS where
  ps : List Nat
  k : Nat
  d : Nat
def stepA (s : AS) (c : Nat) : Option AS :=
  if c = 46 ∧ 0 < s.d ∧ s.k < 3 then some ⟨s.ps, s.k + 1, 0⟩
  else if (48 ≤ c ∧ c ≤ 57) ∧ (s.d = 0 ∨ s.ps.getD s.k 0 ≠ 0) then
    (if 255 < s.ps.getD s.k 0 * 10 + (c - 48) then none else some ⟨s.ps.set s.k (s.ps.getD s.k 0 * 10 + (c - 48)), s.k, s.d + 1⟩)
  else none
def runA (s : AS) : List UInt8 → Option AS
  | [] => some s
  | c :: l => (stepA s c.toNat).bind (fun s' => runA s' l)
def st0 : AS := ⟨[0, 0, 0, 0], 0, 0⟩
def joinA (ps : List Nat) : Nat := ((ps.getD 0 0 * 256 + ps.getD 1 0) * 256 + ps.getD 2 0) * 256 + ps.getD 3 0
def adr (l : List UInt8) : Option Nat := (runA st0 l).bind (fun s => if s.k < 3 ∨ s.d = 0 then none else some (joinA s.ps))

theorem runA_app (s : AS) (l m : List UInt8) : runA s (l ++ m) = (runA s l).bind (fun s' => runA s' m) := by
  induction l generalizing s with
  | nil => rfl
  | cons c l ih =>
    simp only [List.cons_append, runA]
    cases stepA s c.toNat with
    | none => rfl
    | some s' => exact ih s'
def txtA (s : AS) : List UInt8 := (s.ps.take s.k).flatMap (fun p => decDigits p ++ [46]) ++ (if s.d = 0 then [] else decDigits (s.ps.getD s.k 0))
structure AInv (s : AS) : Prop where
  len : s.ps.length = 4
  k : s.k ≤ 3
  le : ∀ p ∈ s.ps, p ≤ 255
  nul : s.d = 0 → s.ps.getD s.k 0 = 0
  far : ∀ j, s.k < j → s.ps.getD j 0 = 0
theorem AInv.zero : AInv st0 := ⟨rfl, by decide, by decide, fun _ => rfl, fun j hj => by
  rcases j with _ | _ | _ | _ | j <;> rfl⟩
theorem dec_app {n e : Nat} (hn : n ≠ 0) (he : e < 10) : decDigits (n * 10 + e) = decDigits n ++ [UInt8.ofNat (48 + e)] := by
  rw [decDigits, dif_neg (by omega), show (n * 10 + e) / 10 = n by omega, show (n * 10 + e) % 10 = e by omega]
theorem dec_one {e : Nat} (he : e < 10) : decDigits e = [UInt8.ofNat (48 + e)] := by rw [decDigits, dif_pos he]
theorem byte_of {c : UInt8} {n : Nat} (h : c.toNat = n) : c = UInt8.ofNat n := by rw [← h]; simp
theorem stepA_inv {s s' : AS} {c : UInt8} (h : AInv s) (he : stepA s c.toNat = some s') : AInv s' ∧ txtA s' = txtA s ++ [c] := by
  unfold stepA at he
  split at he
  · rename_i hc
    obtain ⟨h1, h2, h3⟩ := hc
    injection he with he
    subst he
    have hk : s.k < s.ps.length := by rw [h.len]; omega
    refine ⟨⟨h.len, by simp only; omega, h.le, fun _ => h.far _ (by simp only; omega), fun j hj => h.far j (by simp only at hj; omega)⟩, ?_⟩
    simp only [txtA]
    rw [if_neg (by omega : ¬ s.d = 0), List.take_add_one, List.getElem?_eq_getElem hk]
    simp only [Option.toList_some, List.flatMap_append, List.flatMap_cons, List.flatMap_nil, List.append_nil, if_true, List.append_assoc]
    rw [List.getD_eq_getElem?_getD, List.getElem?_eq_getElem hk, Option.getD_some, byte_of h1]
    rfl
  · split at he
    · rename_i hd
      obtain ⟨⟨h1, h2⟩, h3⟩ := hd
      split at he
      · cases he
      · rename_i hle
        injection he with he
        subst he
        have hk : s.k < s.ps.length := by rw [h.len]; have := h.k; omega
        refine ⟨⟨by simp [h.len], h.k, fun p hp => ?_, fun e => by simp at e, fun j hj => ?_⟩, ?_⟩
        · rcases List.mem_or_eq_of_mem_set hp with hp | hp
          · exact h.le p hp
          · omega
        · simp only at hj ⊢
          rw [List.getD_eq_getElem?_getD, List.getElem?_set_ne (by omega), ← List.getD_eq_getElem?_getD]
          exact h.far j hj
        · simp only [txtA]
          rw [List.take_set_of_le (Nat.le_refl _), List.append_assoc]
          congr 1
          rw [if_neg (by omega : ¬ s.d + 1 = 0), List.getD_eq_getElem?_getD, List.getElem?_set_self hk, Option.getD_some]
          have hc : c = UInt8.ofNat (48 + (c.toNat - 48)) := by rw [show 48 + (c.toNat - 48) = c.toNat by omega]; simp
          by_cases h0 : s.d = 0
          · rw [if_pos h0, h.nul h0, Nat.zero_mul, Nat.zero_add, dec_one (by omega), ← hc]; rfl
          · rw [if_neg h0, dec_app (h3.resolve_left h0) (by omega), ← hc]
    · cases he
theorem runA_inv : ∀ (l : List UInt8) {s s' : AS}, AInv s → runA s l = some s' → AInv s' ∧ txtA s' = txtA s ++ l
  | [], s, s', h, he => by
    simp only [runA, Option.some.injEq] at he
    subst he
    exact ⟨h, by simp⟩
  | c :: l, s, s', h, he => by
    simp only [runA] at he
    cases hs : stepA s c.toNat with
    | none => rw [hs] at he; cases he
    | some s1 =>
      rw [hs, Option.bind_some] at he
      obtain ⟨i1, e1⟩ := stepA_inv h hs
      obtain ⟨i2, e2⟩ := runA_inv l i1 he
      exact ⟨i2, by rw [e2, e1, List.append_assoc]; rfl⟩
theorem joinA_lt {ps : List Nat} (h : ∀ p ∈ ps, p ≤ 255) (hl : ps.length = 4) : joinA ps < 4294967296 := by
  match ps, hl with
  | [a, b, c, d], _ =>
    have := h a (by simp); have := h b (by simp); have := h c (by simp); have := h d (by simp)
    simp only [joinA, List.getD_cons_zero, List.getD_cons_succ]
    omega
theorem text_join {a b c d : Nat} (ha : a ≤ 255) (hb : b ≤ 255) (hc : c ≤ 255) (hd : d ≤ 255) : textA (joinA [a, b, c, d]) = decDigits a ++ 46 :: (decDigits b ++ 46 :: (decDigits c ++ 46 :: decDigits d)) := by
  simp only [joinA, textA, List.getD_cons_zero, List.getD_cons_succ]
  rw [show (((a * 256 + b) * 256 + c) * 256 + d) / 16777216 = a by omega, show (((a * 256 + b) * 256 + c) * 256 + d) / 65536 % 256 = b by omega, show (((a * 256 + b) * 256 + c) * 256 + d) / 256 % 256 = c by omega, show (((a * 256 + b) * 256 + c) * 256 + d) % 256 = d by omega]
theorem adr_sound {l : List UInt8} {a : Nat} (h : adr l = some a) : a < 4294967296 ∧ l = textA a := by
  unfold adr at h
  cases hr : runA st0 l with
  | none => rw [hr] at h; cases h
  | some s =>
    rw [hr, Option.bind_some] at h
    obtain ⟨i, e⟩ := runA_inv l AInv.zero hr
    split at h
    · cases h
    · rename_i hk
      injection h with h
      subst h
      refine ⟨joinA_lt i.le i.len, ?_⟩
      have hk3 : s.k = 3 := by have := i.k; omega
      have hd : ¬ s.d = 0 := by omega
      obtain ⟨ps, k, d⟩ := s
      simp only at hk3 hd
      subst hk3
      have e0 : txtA st0 = [] := rfl
      rw [e0, List.nil_append] at e
      have hl := i.len
      simp only at hl
      match ps, hl with
      | [p, q, r, t], _ =>
        have hle := i.le
        simp only [txtA, if_neg hd] at e
        rw [← e, text_join (hle p (by simp)) (hle q (by simp)) (hle r (by simp)) (hle t (by simp))]
        simp
theorem runA_dec {ps : List Nat} {k : Nat} (hk : k < ps.length) (h0 : ps.getD k 0 = 0) : ∀ (p : Nat), p ≤ 255 → ∃ d, 0 < d ∧ runA ⟨ps, k, 0⟩ (decDigits p) = some ⟨ps.set k p, k, d⟩ := by
  intro p
  induction p using Nat.strongRecOn with
  | _ p ih =>
    intro hp
    by_cases h : p < 10
    · refine ⟨1, by omega, ?_⟩
      rw [dec_one h]
      simp only [runA, stepA]
      have e : (UInt8.ofNat (48 + p)).toNat = 48 + p := by simp; omega
      rw [e, if_neg (by omega), if_pos ⟨by omega, by simp⟩, h0, if_neg (by omega), Option.bind_some, show 0 * 10 + (48 + p - 48) = p by omega]
    · obtain ⟨d, hd, hr⟩ := ih (p / 10) (by omega) (by omega)
      refine ⟨d + 1, by omega, ?_⟩
      rw [decDigits, dif_neg h, runA_app, hr, Option.bind_some]
      simp only [runA, stepA]
      have e : (UInt8.ofNat (48 + p % 10)).toNat = 48 + p % 10 := by simp; omega
      have e2 : (ps.set k (p / 10)).getD k 0 = p / 10 := by rw [List.getD_eq_getElem?_getD, List.getElem?_set_self hk, Option.getD_some]
      rw [e, e2, if_neg (by omega), if_pos ⟨by omega, .inr (by omega)⟩, if_neg (by omega), Option.bind_some, List.set_set, show p / 10 * 10 + (48 + p % 10 - 48) = p by omega]
theorem runA_dot {ps : List Nat} {k d : Nat} (hd : 0 < d) (hk : k < 3) (l : List UInt8) : runA ⟨ps, k, d⟩ (46 :: l) = runA ⟨ps, k + 1, 0⟩ l := by
  have e : (46 : UInt8).toNat = 46 := rfl
  simp only [runA, stepA]
  rw [e, if_pos ⟨rfl, hd, hk⟩, Option.bind_some]
theorem adr_whole {a : Nat} (h : a < 4294967296) : adr (textA a) = some a := by
  unfold adr textA
  obtain ⟨d0, p0, e0⟩ := runA_dec (ps := [0, 0, 0, 0]) (k := 0) (by simp) rfl (a / 16777216) (by omega)
  obtain ⟨d1, p1, e1⟩ := runA_dec (ps := [a / 16777216, 0, 0, 0]) (k := 1) (by simp) rfl (a / 65536 % 256) (by omega)
  obtain ⟨d2, p2, e2⟩ := runA_dec (ps := [a / 16777216, a / 65536 % 256, 0, 0]) (k := 2) (by simp) rfl (a / 256 % 256) (by omega)
  obtain ⟨d3, p3, e3⟩ := runA_dec (ps := [a / 16777216, a / 65536 % 256, a / 256 % 256, 0]) (k := 3) (by simp) rfl (a % 256) (by omega)
  have s0 : st0 = ⟨[0, 0, 0, 0], 0, 0⟩ := rfl
  simp only [List.set_cons_zero, List.set_cons_succ] at e0 e1 e2 e3
  rw [s0, runA_app, e0, Option.bind_some, runA_dot p0 (by omega), runA_app, e1, Option.bind_some, runA_dot p1 (by omega), runA_app, e2, Option.bind_some, runA_dot p2 (by omega), e3, Option.bind_some]
  rw [if_neg (by simp only; omega)]
  simp only [joinA, List.getD_cons_zero, List.getD_cons_succ, Option.some.injEq]
  omega

/-- The reference's number, with which a list begins: it, how many digits it has. -/
def numR (most : Nat) : Nat → Nat → List UInt8 → Nat × Nat
  | n, many, [] => (n, many)
  | n, many, c :: l =>
    if 48 ≤ c.toNat ∧ c.toNat ≤ 57 then
      (if (0 < many ∧ n = 0) ∨ most < 10 * n + (c.toNat - 48) then (n, many) else numR most (10 * n + (c.toNat - 48)) (many + 1) l)
    else (n, many)
/-- The reference's head: i parts have been read, they are n. -/
def headR (l : List UInt8) : Nat → Nat → Nat → Nat × Nat × Bool
  | 0, at_, n => (n, at_, true)
  | 4, at_, n =>
    let r := numR 255 0 0 (l.drop at_)
    if r.2 = 0 then (0, at_, false) else headR l 3 (at_ + r.2) (256 * n + r.1)
  | i + 1, at_, n =>
    if l.getD at_ 0 = 46 ∧ at_ < l.length then
      (let r := numR 255 0 0 (l.drop (at_ + 1))
       if r.2 = 0 then (0, at_ + 1, false) else headR l i (at_ + 1 + r.2) (256 * n + r.1))
    else (0, at_, false)
def adrR (l : List UInt8) : Option Nat := if (headR l 4 0 0).2.2 = true ∧ (headR l 4 0 0).2.1 = l.length then some (headR l 4 0 0).1 else none

theorem numR_sound {most : Nat} : ∀ (l : List UInt8) (n many : Nat) (pre : List UInt8), (if many = 0 then pre = [] ∧ n = 0 else pre = decDigits n ∧ pre.length = many ∧ n ≤ most) →
    ∀ r, numR most n many l = r → many ≤ r.2 ∧ r.2 - many ≤ l.length ∧ (r.2 = 0 ∨ (pre ++ l.take (r.2 - many) = decDigits r.1 ∧ r.1 ≤ most))
  | [], n, many, pre, h, r, hr => by
    simp only [numR] at hr
    subst hr
    refine ⟨Nat.le_refl _, by simp, ?_⟩
    by_cases hm : many = 0
    · exact .inl hm
    · rw [if_neg hm] at h
      exact .inr ⟨by simp [h.1], h.2.2⟩
  | c :: l, n, many, pre, h, r, hr => by
    have stop : (n, many) = r → many ≤ r.2 ∧ r.2 - many ≤ (c :: l).length ∧ (r.2 = 0 ∨ (pre ++ (c :: l).take (r.2 - many) = decDigits r.1 ∧ r.1 ≤ most)) := by
      intro e
      subst e
      refine ⟨Nat.le_refl _, by simp, ?_⟩
      by_cases hm : many = 0
      · exact .inl hm
      · rw [if_neg hm] at h
        exact .inr ⟨by simp [h.1], h.2.2⟩
    simp only [numR] at hr
    split at hr
    · rename_i hc
      split at hr
      · exact stop hr
      · rename_i hn
        have hcc : c = UInt8.ofNat (48 + (c.toNat - 48)) := by rw [show 48 + (c.toNat - 48) = c.toNat by omega]; simp
        have hpre : pre ++ [c] = decDigits (10 * n + (c.toNat - 48)) ∧ (pre ++ [c]).length = many + 1 := by
          by_cases hm : many = 0
          · rw [if_pos hm] at h
            obtain ⟨rfl, rfl⟩ := h
            rw [Nat.mul_zero, Nat.zero_add, dec_one (by omega), ← hcc, hm]
            exact ⟨rfl, rfl⟩
          · rw [if_neg hm] at h
            have hn0 : n ≠ 0 := fun e => hn (.inl ⟨by omega, e⟩)
            rw [Nat.mul_comm, dec_app hn0 (by omega), ← hcc, h.1]
            exact ⟨rfl, by rw [List.length_append, ← h.1, h.2.1]; rfl⟩
        have := numR_sound l (10 * n + (c.toNat - 48)) (many + 1) (pre ++ [c]) (by rw [if_neg (by omega)]; exact ⟨hpre.1, hpre.2, by omega⟩) r hr
        obtain ⟨a1, a2, a3⟩ := this
        refine ⟨by omega, by simp; omega, .inr ?_⟩
        rcases a3 with a3 | a3
        · omega
        · refine ⟨?_, a3.2⟩
          have e : r.2 - many = (r.2 - (many + 1)) + 1 := by omega
          rw [e, List.take_succ_cons, ← a3.1, List.append_assoc]
          rfl
    · exact stop hr
theorem numR_far {most n many : Nat} {l : List UInt8} (h : l = [] ∨ l.head? = some 46) : numR most n many l = (n, many) := by
  cases l with
  | nil => rfl
  | cons c l =>
    rcases h with h | h
    · cases h
    · injection h with h
      subst h
      simp only [numR]
      rw [if_neg (by decide)]
theorem numR_whole {most : Nat} {rest : List UInt8} (hrest : rest = [] ∨ rest.head? = some 46) : ∀ (p : Nat), p ≤ most → numR most 0 0 (decDigits p ++ rest) = (p, (decDigits p).length) := by
  have key : ∀ (p : Nat) (tl : List UInt8), p ≤ most → numR most 0 0 (decDigits p ++ tl) = numR most p (decDigits p).length tl := by
    intro p
    induction p using Nat.strongRecOn with
    | _ p ih =>
      intro tl hp
      by_cases h : p < 10
      · rw [dec_one h]
        have e : (UInt8.ofNat (48 + p)).toNat = 48 + p := by simp; omega
        simp only [List.cons_append, List.nil_append, numR]
        rw [e, if_pos (by omega), if_neg (by omega), show 10 * 0 + (48 + p - 48) = p by omega]
        rfl
      · have e : (UInt8.ofNat (48 + p % 10)).toNat = 48 + p % 10 := by simp; omega
        rw [decDigits, dif_neg h, List.append_assoc, ih (p / 10) (by omega) _ (by omega)]
        simp only [List.cons_append, List.nil_append, numR]
        rw [e, if_pos (by omega), if_neg (by omega), show 10 * (p / 10) + (48 + p % 10 - 48) = p by omega, List.length_append]
        rfl
  intro p hp
  rw [key p rest hp, numR_far hrest]
theorem numR_at {l : List UInt8} {at_ : Nat} {r : Nat × Nat} (h : numR 255 0 0 (l.drop at_) = r) (h0 : ¬ r.2 = 0) : at_ + r.2 ≤ l.length ∧ r.1 ≤ 255 ∧ (l.drop at_).take r.2 = decDigits r.1 := by
  obtain ⟨a1, a2, a3⟩ := numR_sound (l.drop at_) 0 0 [] (by simp) r h
  rcases a3 with a3 | a3
  · exact absurd a3 h0
  · simp only [List.nil_append, Nat.sub_zero] at a3 a2
    rw [List.length_drop] at a2
    refine ⟨?_, a3.2, a3.1⟩
    have : 0 < r.2 := by omega
    omega
theorem adrR_sound {l : List UInt8} {a : Nat} (h : adrR l = some a) : a < 4294967296 ∧ l = textA a := by
  unfold adrR at h
  split at h
  · rename_i hh
    obtain ⟨hok, hend⟩ := hh
    injection h with h
    subst h
    have one : ∀ (i at_ n : Nat), i < 3 → ∀ v, headR l (i + 1) at_ n = v → v.2.2 = true → ∃ p k, p ≤ 255 ∧ l.drop at_ = 46 :: (decDigits p ++ l.drop (at_ + 1 + k)) ∧ at_ + 1 + k ≤ l.length ∧ v = headR l i (at_ + 1 + k) (256 * n + p) := by
      intro i at_ n hi v hv ht
      have step : headR l (i + 1) at_ n = if l.getD at_ 0 = 46 ∧ at_ < l.length then (if (numR 255 0 0 (l.drop (at_ + 1))).2 = 0 then (0, at_ + 1, false) else headR l i (at_ + 1 + (numR 255 0 0 (l.drop (at_ + 1))).2) (256 * n + (numR 255 0 0 (l.drop (at_ + 1))).1)) else (0, at_, false) := by
        rcases i with _ | _ | _ | i
        · rfl
        · rfl
        · rfl
        · omega
      rw [step] at hv
      split at hv
      · rename_i hd
        split at hv
        · subst hv; cases ht
        · rename_i h0
          obtain ⟨b1, b2, b3⟩ := numR_at rfl h0
          refine ⟨_, _, b2, ?_, b1, hv.symm⟩
          have e : l.drop at_ = l[at_]'hd.2 :: l.drop (at_ + 1) := by rw [List.drop_eq_getElem_cons hd.2]
          have e2 : l[at_]'hd.2 = 46 := by
            have := hd.1
            rw [List.getD_eq_getElem?_getD, List.getElem?_eq_getElem hd.2] at this
            exact this
          have e3 : l.drop (at_ + 1 + (numR 255 0 0 (l.drop (at_ + 1))).2) = (l.drop (at_ + 1)).drop (numR 255 0 0 (l.drop (at_ + 1))).2 := by rw [List.drop_drop]
          rw [e, e2, ← b3, e3, List.take_append_drop]
      · subst hv; cases ht
    have first : ∀ v, headR l 4 0 0 = v → v.2.2 = true → ∃ p k, p ≤ 255 ∧ l = decDigits p ++ l.drop k ∧ k ≤ l.length ∧ v = headR l 3 k p := by
      intro v hv ht
      have step : headR l 4 0 0 = if (numR 255 0 0 (l.drop 0)).2 = 0 then (0, 0, false) else headR l 3 (0 + (numR 255 0 0 (l.drop 0)).2) (256 * 0 + (numR 255 0 0 (l.drop 0)).1) := rfl
      rw [step] at hv
      split at hv
      · subst hv; cases ht
      · rename_i h0
        obtain ⟨b1, b2, b3⟩ := numR_at rfl h0
        rw [Nat.zero_add] at hv b1
        rw [Nat.mul_zero, Nat.zero_add] at hv
        refine ⟨_, _, b2, ?_, b1, hv.symm⟩
        rw [List.drop_zero] at b3 ⊢
        rw [← b3, List.take_append_drop]
    obtain ⟨p, k1, hp, e1, l1, v1⟩ := first _ rfl hok
    rw [v1] at hok hend
    obtain ⟨q, k2, hq, e2, l2, v2⟩ := one 2 _ _ (by omega) _ rfl hok
    rw [v2] at hok hend
    obtain ⟨r, k3, hr, e3, l3, v3⟩ := one 1 _ _ (by omega) _ rfl hok
    rw [v3] at hok hend
    obtain ⟨t, k4, ht, e4, l4, v4⟩ := one 0 _ _ (by omega) _ rfl hok
    rw [v4] at hend
    have e5 : headR l 4 0 0 = (256 * (256 * (256 * p + q) + r) + t, k1 + 1 + k2 + 1 + k3 + 1 + k4, true) := by
      rw [v1, v2, v3, v4]; rfl
    have hend' : k1 + 1 + k2 + 1 + k3 + 1 + k4 = l.length := hend
    rw [e5]
    have ej : 256 * (256 * (256 * p + q) + r) + t = joinA [p, q, r, t] := by simp only [joinA, List.getD_cons_zero, List.getD_cons_succ]; omega
    rw [ej]
    refine ⟨by simp only [joinA, List.getD_cons_zero, List.getD_cons_succ]; omega, ?_⟩
    rw [text_join hp hq hr ht]
    have e6 : l.drop (k1 + 1 + k2 + 1 + k3 + 1 + k4) = [] := by rw [hend']; simp
    rw [e6, List.append_nil] at e4
    rw [← e4, ← e3, ← e2, ← e1]
  · cases h
theorem headR_step (l : List UInt8) (i at_ n : Nat) (hi : i < 3) (p : Nat) (hp : p ≤ 255) (rest : List UInt8) (hr : rest = [] ∨ rest.head? = some 46) (hl : l.drop at_ = 46 :: (decDigits p ++ rest)) :
    headR l (i + 1) at_ n = headR l i (at_ + 1 + (decDigits p).length) (256 * n + p) ∧ l.drop (at_ + 1 + (decDigits p).length) = rest := by
  have hlt : at_ < l.length := by
    rcases Nat.lt_or_ge at_ l.length with h | h
    · exact h
    · rw [List.drop_eq_nil_of_le h] at hl; cases hl
  have hc := List.drop_eq_getElem_cons hlt
  rw [hl] at hc
  injection hc with hc1 hc2
  have step : headR l (i + 1) at_ n = if l.getD at_ 0 = 46 ∧ at_ < l.length then (if (numR 255 0 0 (l.drop (at_ + 1))).2 = 0 then (0, at_ + 1, false) else headR l i (at_ + 1 + (numR 255 0 0 (l.drop (at_ + 1))).2) (256 * n + (numR 255 0 0 (l.drop (at_ + 1))).1)) else (0, at_, false) := by
    rcases i with _ | _ | _ | i
    · rfl
    · rfl
    · rfl
    · omega
  have hd0 : (decDigits p).length ≠ 0 := fun e => digits_ne p (List.length_eq_zero_iff.1 e)
  rw [step, if_pos ⟨by rw [List.getD_eq_getElem?_getD, List.getElem?_eq_getElem hlt, ← hc1]; rfl, hlt⟩, ← hc2, numR_whole hr p hp, if_neg hd0]
  refine ⟨rfl, ?_⟩
  have e3 : l.drop (at_ + 1 + (decDigits p).length) = (l.drop (at_ + 1)).drop (decDigits p).length := by rw [List.drop_drop]
  rw [e3, ← hc2, List.drop_left']
  rfl
theorem adrR_whole {a : Nat} (h : a < 4294967296) : adrR (textA a) = some a := by
  have hd0 : (decDigits (a / 16777216)).length ≠ 0 := fun e => digits_ne _ (List.length_eq_zero_iff.1 e)
  have step : headR (textA a) 4 0 0 = headR (textA a) 3 (decDigits (a / 16777216)).length (a / 16777216) := by
    have s : headR (textA a) 4 0 0 = if (numR 255 0 0 ((textA a).drop 0)).2 = 0 then (0, 0, false) else headR (textA a) 3 (0 + (numR 255 0 0 ((textA a).drop 0)).2) (256 * 0 + (numR 255 0 0 ((textA a).drop 0)).1) := rfl
    rw [s, List.drop_zero]
    have e : textA a = decDigits (a / 16777216) ++ 46 :: (decDigits (a / 65536 % 256) ++ 46 :: (decDigits (a / 256 % 256) ++ 46 :: decDigits (a % 256))) := rfl
    rw [show numR 255 0 0 (textA a) = _ from by rw [e, numR_whole (.inr rfl) _ (by omega)], if_neg hd0]
    simp
  have d0 : (textA a).drop (decDigits (a / 16777216)).length = 46 :: (decDigits (a / 65536 % 256) ++ 46 :: (decDigits (a / 256 % 256) ++ 46 :: decDigits (a % 256))) := by
    unfold textA; rw [List.drop_left']; rfl
  obtain ⟨s1, d1⟩ := headR_step (textA a) 2 _ (a / 16777216) (by omega) _ (by omega) _ (.inr rfl) d0
  obtain ⟨s2, d2⟩ := headR_step (textA a) 1 _ (256 * (a / 16777216) + a / 65536 % 256) (by omega) _ (by omega) _ (.inr rfl) d1
  obtain ⟨s3, d3⟩ := headR_step (textA a) 0 _ (256 * (256 * (a / 16777216) + a / 65536 % 256) + a / 256 % 256) (by omega) (a % 256) (by omega) [] (.inl rfl) (by rw [d2, List.append_nil])
  have e : headR (textA a) 4 0 0 = (256 * (256 * (256 * (a / 16777216) + a / 65536 % 256) + a / 256 % 256) + a % 256, (textA a).length, true) := by
    rw [step, s1, s2, s3]
    have hlen : (textA a).length = (decDigits (a / 16777216)).length + 1 + (decDigits (a / 65536 % 256)).length + 1 + (decDigits (a / 256 % 256)).length + 1 + (decDigits (a % 256)).length := by
      simp only [textA, List.length_append, List.length_cons]; omega
    rw [hlen]; rfl
  unfold adrR
  rw [e, if_pos ⟨rfl, rfl⟩]
  simp only [Option.some.injEq]
  omega
/-- Both read the same. -/
theorem adr_eq (l : List UInt8) : adrR l = adr l := by
  cases h : adr l with
  | some a =>
    obtain ⟨ha, e⟩ := adr_sound h
    rw [e]; exact adrR_whole ha
  | none =>
    cases h2 : adrR l with
    | none => rfl
    | some a =>
      obtain ⟨ha, e⟩ := adrR_sound h2
      rw [e, adr_whole ha] at h
      cases h
end Go.Proofs.YtbfimimhgdkpaaaGreatDoor

/- Words between bytes of a kind, and the runes of a string beside its bytes: no program in sight. -/
namespace Go.Proofs.YtbfimimhgdkpaaaGreatDoor
open Go.Lib

/-- What stands between bytes of a kind. -/
def parted (b : UInt8) : List UInt8 → List (List UInt8)
  | [] => [[]]
  | c :: l => if c = b then [] :: parted b l else (c :: (parted b l).headD []) :: (parted b l).tail
theorem parted_ne (b : UInt8) (l : List UInt8) : parted b l ≠ [] := by cases l with | nil => simp [parted] | cons c l => unfold parted; split <;> simp
theorem parted_one {b : UInt8} : ∀ {u : List UInt8}, (∀ c ∈ u, c ≠ b) → parted b u = [u]
  | [], _ => rfl
  | c :: u, h => by
    rw [parted, if_neg (h c (by simp)), parted_one (fun d hd => h d (by simp [hd]))]
    rfl
theorem parted_at {b : UInt8} {v : List UInt8} : ∀ {u : List UInt8}, (∀ c ∈ u, c ≠ b) → parted b (u ++ b :: v) = u :: parted b v
  | [], _ => by simp [parted]
  | c :: u, h => by
    rw [List.cons_append, parted, if_neg (h c (by simp)), parted_at (fun d hd => h d (by simp [hd]))]
    rfl
theorem parted_len (b : UInt8) : ∀ l : List UInt8, (parted b l).length ≤ l.length + 1
  | [] => by simp [parted]
  | c :: l => by
    have := parted_len b l
    unfold parted
    split
    · simp; omega
    · simp; omega
theorem parted_sub (b : UInt8) : ∀ (l : List UInt8), ∀ x ∈ parted b l, x.length ≤ l.length
  | [], x, h => by simp [parted] at h; subst h; simp
  | c :: l, x, h => by
    unfold parted at h
    split at h
    · simp at h
      rcases h with rfl | h
      · simp
      · have := parted_sub b l x h; simp; omega
    · simp at h
      rcases h with rfl | h
      · cases hp : parted b l with
        | nil => simp
        | cons y r =>
          have := parted_sub b l y (by rw [hp]; simp)
          simp; exact this
      · have := parted_sub b l x (List.mem_of_mem_tail h); simp; omega

/-- The byte of a string at a place. -/
def byteAt (s : ByteArray) (i : Nat) : Nat := (s.data.toList.getD i 0).toNat
theorem get_byte (s : ByteArray) (i : Nat) (h : i < s.size) : s.get! i = s.data.toList.getD i 0 := by
  have h' : i < s.data.size := h
  show s.data[i]! = _
  rw [List.getD_eq_getElem?_getD, Array.getElem?_toList, getElem!_def]
  rw [Array.getElem?_eq_getElem h']
  rfl
theorem get_at (s : ByteArray) (i : Nat) (h : i < s.size) : s[i]'h = s.data.toList.getD i 0 := by
  have h' : i < s.data.size := h
  show s.data[i] = _
  rw [List.getD_eq_getElem?_getD, Array.getElem?_toList, Array.getElem?_eq_getElem h']
  rfl
/-- A rune of a string that begins with a byte from 128 on: it is no ASCII, nor is one of its bytes. -/
theorem rune_far (s : ByteArray) (i : Nat) (hi : i < s.size) (h : 128 ≤ byteAt s i) :
    128 ≤ (Utf8.decode s i).1 ∧ 1 ≤ (Utf8.decode s i).2 ∧ i + (Utf8.decode s i).2 ≤ s.size ∧ ∀ k, k < (Utf8.decode s i).2 → 128 ≤ byteAt s (i + k) := by
  have h0 : (s.get! (i + 0)).toNat = byteAt s i := by rw [Nat.add_zero, get_byte s i hi]; rfl
  have one : 128 ≤ Utf8.runeError ∧ 1 ≤ 1 ∧ i + 1 ≤ s.size ∧ ∀ k, k < 1 → 128 ≤ byteAt s (i + k) :=
    ⟨by decide, Nat.le_refl _, hi, fun k hk => by obtain rfl : k = 0 := by omega
                                                  exact h⟩
  have cont : ∀ k, (decide (i + k < s.size) && (s.get! (i + k)).toNat / 64 == 2) = true → i + k < s.size ∧ 128 ≤ byteAt s (i + k) := by
    intro k hk
    simp only [Bool.and_eq_true, decide_eq_true_eq, beq_iff_eq] at hk
    refine ⟨hk.1, ?_⟩
    have := hk.2
    rw [get_byte s _ hk.1] at this
    unfold byteAt
    omega
  unfold Utf8.decode
  simp only [h0]
  rw [if_neg (by omega)]
  split
  · rename_i hc
    rw [Bool.and_eq_true] at hc
    obtain ⟨c1, c1'⟩ := cont 1 hc.2
    split
    · rename_i hg
      exact ⟨hg, by omega, by omega, fun k hk => by
        have : k = 0 ∨ k = 1 := by omega
        rcases this with rfl | rfl
        · exact h
        · exact c1'⟩
    · exact one
  · split
    · rename_i hc
      rw [Bool.and_eq_true, Bool.and_eq_true] at hc
      obtain ⟨c1, c1'⟩ := cont 1 hc.1.2
      obtain ⟨c2, c2'⟩ := cont 2 hc.2
      split
      · rename_i hg
        simp only [ge_iff_le, Bool.and_eq_true, decide_eq_true_eq] at hg
        exact ⟨by omega, by omega, by omega, fun k hk => by
          have : k = 0 ∨ k = 1 ∨ k = 2 := by omega
          rcases this with rfl | rfl | rfl
          · exact h
          · exact c1'
          · exact c2'⟩
      · exact one
    · split
      · rename_i hc
        rw [Bool.and_eq_true, Bool.and_eq_true, Bool.and_eq_true] at hc
        obtain ⟨c1, c1'⟩ := cont 1 hc.1.1.2
        obtain ⟨c2, c2'⟩ := cont 2 hc.1.2
        obtain ⟨c3, c3'⟩ := cont 3 hc.2
        split
        · rename_i hg
          simp only [ge_iff_le, Bool.and_eq_true, decide_eq_true_eq] at hg
          exact ⟨by omega, by omega, by omega, fun k hk => by
            have : k = 0 ∨ k = 1 ∨ k = 2 ∨ k = 3 := by omega
            rcases this with rfl | rfl | rfl | rfl
            · exact h
            · exact c1'
            · exact c2'
            · exact c3'⟩
        · exact one
      · exact one
theorem rune_near (s : ByteArray) (i : Nat) (hi : i < s.size) (h : byteAt s i < 128) : Utf8.decode s i = (byteAt s i, 1) := by
  rw [decode_ascii s i hi (by rw [get_at s i hi]; exact h), get_at s i hi]
  rfl
/-- A rune of a string: its bytes lie in it; and it is some ASCII byte just if it is that byte. -/
theorem rune_any (s : ByteArray) (i : Nat) (hi : i < s.size) :
    1 ≤ (Utf8.decode s i).2 ∧ i + (Utf8.decode s i).2 ≤ s.size ∧ ((byteAt s i < 128 ∧ Utf8.decode s i = (byteAt s i, 1)) ∨ (128 ≤ (Utf8.decode s i).1 ∧ ∀ k, k < (Utf8.decode s i).2 → 128 ≤ byteAt s (i + k))) := by
  rcases Nat.lt_or_ge (byteAt s i) 128 with h | h
  · have e := rune_near s i hi h
    exact ⟨by rw [e]; exact Nat.le_refl 1, by rw [e]; exact hi, .inl ⟨h, e⟩⟩
  · obtain ⟨a, b, c, d⟩ := rune_far s i hi h
    exact ⟨b, c, .inr ⟨a, d⟩⟩
end Go.Proofs.YtbfimimhgdkpaaaGreatDoor

/- Events and their lines, written and read, by the program and by the reference: no program in sight. -/
namespace Go.Proofs.YtbfimimhgdkpaaaGreatDoor
open Go.Lib

theorem decFrom_ge : ∀ (l : List UInt8) (acc v : Nat), decFrom acc l = some v → acc ≤ v
  | [], acc, v, h => by simp only [decFrom, Option.some.injEq] at h; omega
  | c :: l, acc, v, h => by
    simp only [decFrom] at h
    cases hd : digitVal c with
    | none => rw [hd] at h; cases h
    | some d =>
      rw [hd] at h
      have := decFrom_ge l _ v h
      omega
theorem parse10_of : ∀ (l : List UInt8) (acc v : Nat), decFrom acc l = some v → v < 18446744073709551616 → parseUint10 acc l = .ok v
  | [], acc, v, h, _ => by simp only [decFrom, Option.some.injEq] at h; subst h; rfl
  | c :: l, acc, v, h, hv => by
    simp only [decFrom] at h
    cases hd : digitVal c with
    | none => rw [hd] at h; cases h
    | some d =>
      rw [hd] at h
      have hge := decFrom_ge l _ v h
      have hc : 48 ≤ c.toNat ∧ c.toNat ≤ 57 ∧ d = c.toNat - 48 := Go.Lib.digitVal_eq hd
      simp only [parseUint10]
      rw [if_pos ⟨hc.1, hc.2.1⟩, if_neg (by omega), if_neg (by omega), ← hc.2.2]
      exact parse10_of l _ v h hv
/-- What the program takes of a word for a number. -/
def numP (s : List UInt8) : Option Int := match parseIntB 64 s with | .ok n => if itoa n = s then some n else none | _ => none
theorem parse_itoa {n : Int} (h0 : -9223372036854775808 ≤ n) (h1 : n ≤ 9223372036854775807) : parseIntB 64 (itoa n) = .ok n := by
  rw [parseIntB_64]
  rcases Int.lt_or_le n 0 with hn | hn
  · obtain ⟨u, hu⟩ : ∃ u : Nat, n = -(u : Int) := ⟨n.natAbs, by omega⟩
    subst hu
    rw [itoa_neg u (by omega)]
    simp only [atoiAll]
    have e : (45 : UInt8).toNat = 45 := rfl
    rw [e, if_pos (.inr rfl), parseMag, if_neg (digits_ne u), parse10_of _ _ u (digits_val u) (by omega)]
    simp only
    rw [if_neg (by simp), if_neg (by omega), if_pos trivial]
  · obtain ⟨u, hu⟩ : ∃ u : Nat, n = (u : Int) := ⟨n.toNat, by omega⟩
    subst hu
    rw [itoa_nonneg]
    cases hd : decDigits u with
    | nil => exact absurd hd (digits_ne u)
    | cons c l =>
      have hc := digits_all u c (by rw [hd]; simp)
      simp only [atoiAll]
      rw [if_neg (by omega), ← hd, parseMag, if_neg (digits_ne u), parse10_of _ _ u (digits_val u) (by omega)]
      simp only
      rw [if_neg (by omega), if_neg (by omega), if_neg (by omega)]
theorem numP_eq (s : List UInt8) : numP s = refInt s := by
  unfold numP
  cases h : refInt s with
  | some n =>
    obtain ⟨e, h0, h1⟩ := refInt_sound h
    rw [e, parse_itoa h0 h1]
    simp
  | none =>
    cases hp : parseIntB 64 s with
    | ok n =>
      obtain ⟨b0, b1⟩ := parseIntB_bounds hp
      by_cases e : itoa n = s
      · have := refInt_whole (n := n) (by simpa using b0) (by have := b1; simp at this; omega)
        rw [e, h] at this
        cases this
      · simp [e]
    | range => rfl
    | _ => rfl

/-! ### bytes as two digits each -/
def hexS : List UInt8 := [48, 49, 50, 51, 52, 53, 54, 55, 56, 57, 97, 98, 99, 100, 101, 102]
def hexOf (n : Nat) : UInt8 := hexS.getD n 0
def hexV (c : UInt8) : Option Nat := if 48 ≤ c.toNat ∧ c.toNat ≤ 57 then some (c.toNat - 48) else if 97 ≤ c.toNat ∧ c.toNat ≤ 102 then some (c.toNat - 87) else none
def hexT (l : List UInt8) : List UInt8 := l.flatMap (fun b => [hexOf (b.toNat / 16), hexOf (b.toNat % 16)])
def hexW (l : List UInt8) : List UInt8 := if l = [] then [45] else hexT l
def hexR : List UInt8 → Option (List UInt8)
  | [] => some []
  | [_] => none
  | a :: b :: l => match hexV a, hexV b with | some x, some y => (hexR l).map (fun r => UInt8.ofNat (16 * x + y) :: r) | _, _ => none
def dataW (w : List UInt8) : Option (List UInt8) := if w = [45] then some [] else if w = [] ∨ w.length % 2 ≠ 0 ∨ 1200 < w.length then none else hexR w
theorem hexV_of : ∀ n, n < 16 → hexV (hexOf n) = some n := by decide
theorem hexV_lt {c : UInt8} {n : Nat} (h : hexV c = some n) : n < 16 ∧ hexOf n = c := by
  unfold hexV at h
  have key : ∀ k : Fin 256, (∀ n, (if 48 ≤ k.val ∧ k.val ≤ 57 then some (k.val - 48) else if 97 ≤ k.val ∧ k.val ≤ 102 then some (k.val - 87) else none) = some n → n < 16 ∧ hexOf n = UInt8.ofNat k.val) := by
    intro k n hk
    split at hk
    · rename_i hh
      injection hk with hk
      subst hk
      refine ⟨by omega, ?_⟩
      have : k.val = 48 ∨ k.val = 49 ∨ k.val = 50 ∨ k.val = 51 ∨ k.val = 52 ∨ k.val = 53 ∨ k.val = 54 ∨ k.val = 55 ∨ k.val = 56 ∨ k.val = 57 := by omega
      rcases this with e | e | e | e | e | e | e | e | e | e <;> rw [e] <;> decide
    · split at hk
      · rename_i hh
        injection hk with hk
        subst hk
        refine ⟨by omega, ?_⟩
        have : k.val = 97 ∨ k.val = 98 ∨ k.val = 99 ∨ k.val = 100 ∨ k.val = 101 ∨ k.val = 102 := by omega
        rcases this with e | e | e | e | e | e <;> rw [e] <;> decide
      · cases hk
  have hlt : c.toNat < 256 := c.toNat_lt
  have := key ⟨c.toNat, hlt⟩ n h
  simpa using this
theorem hexT_len (l : List UInt8) : (hexT l).length = 2 * l.length := by
  induction l with
  | nil => rfl
  | cons b l ih => unfold hexT at ih ⊢; simp only [List.flatMap_cons, List.length_append, ih, List.length_cons, List.length_nil]; omega
theorem hexR_text : ∀ l : List UInt8, hexR (hexT l) = some l
  | [] => rfl
  | b :: l => by
    have hb : b.toNat < 256 := b.toNat_lt
    have e : hexT (b :: l) = hexOf (b.toNat / 16) :: hexOf (b.toNat % 16) :: hexT l := by simp [hexT]
    rw [e, hexR, hexV_of _ (by omega), hexV_of _ (by omega), hexR_text l]
    simp only [Option.map_some, Option.some.injEq, List.cons.injEq, and_true]
    rw [show 16 * (b.toNat / 16) + b.toNat % 16 = b.toNat by omega]
    simp
theorem hexR_sound : ∀ (m : Nat) (w l : List UInt8), w.length ≤ m → hexR w = some l → hexT l = w
  | _, [], l, _, h => by simp only [hexR, Option.some.injEq] at h; subst h; rfl
  | _, [_], l, _, h => by cases h
  | 0, _ :: _ :: _, _, hm, _ => by simp at hm
  | m + 1, a :: b :: w, l, hm, h => by
    simp only [hexR] at h
    cases ha : hexV a with
    | none => rw [ha] at h; cases h
    | some x =>
      cases hb : hexV b with
      | none => rw [ha, hb] at h; cases h
      | some y =>
        rw [ha, hb] at h
        simp only at h
        cases hr : hexR w with
        | none => rw [hr] at h; cases h
        | some r =>
          rw [hr, Option.map_some, Option.some.injEq] at h
          subst h
          obtain ⟨x1, x2⟩ := hexV_lt ha
          obtain ⟨y1, y2⟩ := hexV_lt hb
          have ih := hexR_sound m w r (by simp at hm; omega) hr
          have e : (UInt8.ofNat (16 * x + y)).toNat = 16 * x + y := by simp; omega
          have : hexT (UInt8.ofNat (16 * x + y) :: r) = hexOf ((UInt8.ofNat (16 * x + y)).toNat / 16) :: hexOf ((UInt8.ofNat (16 * x + y)).toNat % 16) :: hexT r := by simp [hexT]
          rw [this, ih, e, show (16 * x + y) / 16 = x by omega, show (16 * x + y) % 16 = y by omega, x2, y2]
theorem hexOf_ne {n : Nat} (h : n < 16) : hexOf n ≠ 45 ∧ hexOf n ≠ 32 := by
  have : ∀ n, n < 16 → hexOf n ≠ 45 ∧ hexOf n ≠ 32 := by decide
  exact this n h
theorem data_text {l : List UInt8} (h : l.length ≤ 600) : dataW (hexW l) = some l := by
  unfold hexW dataW
  by_cases h0 : l = []
  · rw [if_pos h0, if_pos rfl, h0]
  · rw [if_neg h0]
    have hl := hexT_len l
    have hp : 0 < l.length := List.length_pos_iff.2 h0
    rw [if_neg (fun e => by rw [e] at hl; simp at hl; omega), if_neg (by
      rintro (e | e | e)
      · rw [e] at hl; simp at hl; omega
      · omega
      · omega), hexR_text]
theorem data_sound {w l : List UInt8} (h : dataW w = some l) : hexW l = w ∧ l.length ≤ 600 := by
  unfold dataW at h
  split at h
  · rename_i e
    injection h with h
    subst h
    exact ⟨by rw [e]; rfl, by simp⟩
  · split at h
    · cases h
    · rename_i hn hb
      have e := hexR_sound _ w l (Nat.le_refl _) h
      have hl := hexT_len l
      rw [e] at hl
      simp only [not_or, Nat.not_lt] at hb
      refine ⟨?_, by omega⟩
      have h0 : l ≠ [] := fun e0 => by
        subst e0
        rw [← e] at hb
        exact hb.1 rfl
      rw [hexW, if_neg h0, e]
/-- What the reference takes of a word for bytes, and whether it is none. -/
def bytesR (w : List UInt8) : Option (List UInt8) := if w = [45] then some [] else if w = [] ∨ w.length % 2 = 1 then none else hexR w
theorem bytesR_eq (w : List UInt8) : (bytesR w).bind (fun b => if b.length ≤ 600 then some b else none) = dataW w := by
  unfold bytesR dataW
  by_cases h1 : w = [45]
  · rw [if_pos h1, if_pos h1]; rfl
  · rw [if_neg h1, if_neg h1]
    by_cases h2 : w = [] ∨ w.length % 2 = 1
    · rw [if_pos h2, if_pos (by rcases h2 with h | h; exact .inl h; exact .inr (.inl (by omega)))]; rfl
    · rw [if_neg h2]
      simp only [not_or] at h2
      cases hr : hexR w with
      | none => split <;> rfl
      | some l =>
        have hl := hexT_len l
        rw [hexR_sound _ w l (Nat.le_refl _) hr] at hl
        simp only [Option.bind_some]
        by_cases h3 : l.length ≤ 600
        · rw [if_pos h3, if_neg (by
            rintro (e | e | e)
            · exact h2.1 e
            · omega
            · omega)]
        · rw [if_neg h3, if_pos (.inr (.inr (by omega)))]

/-! ### events -/
structure Ev where
  kind : Int
  a : Int
  b : Int
  c : Int
  draw : Int
  src : Nat
  bytes : List UInt8
deriving DecidableEq
inductive Pt where | a | b | c | d | s | x
deriving DecidableEq
def ev0 (k : Int) : Ev := ⟨k, 0, 0, 0, 0, 0, []⟩
def nameOf : Nat → List UInt8
  | 1 => [116, 105, 99, 107]
  | 2 => [109, 97, 105, 108]
  | 3 => [116, 119, 105, 99, 101]
  | 4 => [108, 111, 115, 101]
  | 5 => [99, 117, 116]
  | 6 => [102, 97, 99, 101]
  | 7 => [115, 116, 97, 114, 116]
  | 8 => [98, 121, 116, 101, 115]
  | _ => []
def partsOf : Nat → List Pt
  | 1 => [.d]
  | 2 => [.a, .d]
  | 3 => [.a, .d]
  | 4 => [.a]
  | 5 => [.a, .c]
  | 6 => [.a, .b, .c, .d]
  | 7 => [.a, .d]
  | 8 => [.a, .b, .s, .x, .d]
  | _ => []
def putE (p : Pt) (t f : Ev) : Ev := match p with
  | .a => { t with a := f.a } | .b => { t with b := f.b } | .c => { t with c := f.c } | .d => { t with draw := f.draw } | .s => { t with src := f.src } | .x => { t with bytes := f.bytes }
def upS : List UInt8 := [117, 112]
def downS : List UInt8 := [100, 111, 119, 110]
def tellE (p : Pt) (e : Ev) : List UInt8 := match p with
  | .a => itoa e.a | .b => itoa e.b | .c => if e.c.tmod 2 ≠ 0 then upS else downS | .d => itoa e.draw | .s => textA e.src | .x => hexW e.bytes
def readE (p : Pt) (w : List UInt8) (e : Ev) : Option Ev := match p with
  | .a => (numP w).map (fun n => { e with a := n }) | .b => (numP w).map (fun n => { e with b := n })
  | .c => if w = upS then some { e with c := 1 } else if w = downS then some e else none
  | .d => (numP w).map (fun n => { e with draw := n }) | .s => (adr w).map (fun n => { e with src := n }) | .x => (dataW w).map (fun l => { e with bytes := e.bytes ++ l })
def kindN (e : Ev) : Nat := e.kind.toNat
def plainP (e : Ev) : Bool := decide (1 ≤ e.kind ∧ e.kind ≤ 8) && (decide ((partsOf e.kind.toNat).foldl (fun t p => putE p t e) (ev0 e.kind) = e) && (decide (e.c = 0 ∨ e.c = 1) && decide (e.bytes.length ≤ 600)))
def textE (e : Ev) : List UInt8 := nameOf e.kind.toNat ++ (partsOf e.kind.toNat).flatMap (fun p => 32 :: tellE p e)
def readAll : List Pt → List (List UInt8) → Ev → Option Ev
  | [], _, e => some e
  | p :: ps, ws, e => (readE p (ws.headD []) e).bind (fun e' => readAll ps ws.tail e')
/-- The kind of a name, among the first ones. -/
def kindUp : Nat → List UInt8 → Nat
  | 0, _ => 0
  | n + 1, s => if 0 < n ∧ nameOf n = s then n else kindUp n s
def kindB (s : List UInt8) : Nat := kindUp 9 s
def parseK (k : Nat) (ws : List (List UInt8)) : Option Ev :=
  if k = 0 then none else if ws.length = (partsOf k).length then readAll (partsOf k) ws (ev0 k) else none
def parseE (s : List UInt8) : Option Ev := parseK (kindB ((parted 32 s).headD [])) (parted 32 s).tail
theorem kindB_name : ∀ k, 1 ≤ k → k ≤ 8 → kindB (nameOf k) = k := by
  intro k h1 h2
  have : k = 1 ∨ k = 2 ∨ k = 3 ∨ k = 4 ∨ k = 5 ∨ k = 6 ∨ k = 7 ∨ k = 8 := by omega
  rcases this with rfl | rfl | rfl | rfl | rfl | rfl | rfl | rfl <;> decide
theorem kindUp_name : ∀ n s, kindUp n s ≠ 0 → nameOf (kindUp n s) = s ∧ kindUp n s < n
  | 0, s, h => absurd rfl h
  | n + 1, s, h => by
    unfold kindUp at h ⊢
    split
    · rename_i hh; exact ⟨hh.2, by omega⟩
    · rename_i hh
      rw [if_neg hh] at h
      obtain ⟨a, b⟩ := kindUp_name n s h
      exact ⟨a, by omega⟩
/-- The numbers of an event are what their types hold. -/
structure EvOk (e : Ev) : Prop where
  a0 : -9223372036854775808 ≤ e.a
  a1 : e.a ≤ 9223372036854775807
  b0 : -9223372036854775808 ≤ e.b
  b1 : e.b ≤ 9223372036854775807
  d0 : -9223372036854775808 ≤ e.draw
  d1 : e.draw ≤ 9223372036854775807
  s1 : e.src < 4294967296

theorem parted_words {b : UInt8} : ∀ (ws : List (List UInt8)) (h : List UInt8), (∀ c ∈ h, c ≠ b) → (∀ w ∈ ws, ∀ c ∈ w, c ≠ b) → parted b (h ++ ws.flatMap (fun w => b :: w)) = h :: ws
  | [], h, hh, _ => by rw [List.flatMap_nil, List.append_nil]; exact parted_one hh
  | w :: ws, h, hh, hw => by
    rw [List.flatMap_cons, List.cons_append, parted_at hh, parted_words ws w (hw w (by simp)) (fun v hv => hw v (by simp [hv]))]
theorem parted_join (b : UInt8) : ∀ s : List UInt8, (parted b s).headD [] ++ (parted b s).tail.flatMap (fun w => b :: w) = s
  | [] => by simp [parted]
  | c :: s => by
    have ih := parted_join b s
    unfold parted
    split
    · rename_i h
      subst h
      cases hp : parted c s with
      | nil => exact absurd hp (parted_ne _ _)
      | cons x r => rw [hp] at ih; simp at ih ⊢; exact ih
    · simpa using ih
theorem itoa_ne (n : Int) : ∀ c ∈ itoa n, c ≠ 32 := by
  intro c hc e
  subst e
  unfold itoa at hc
  split at hc
  · rw [List.mem_cons] at hc
    rcases hc with hc | hc
    · cases hc
    · have := digits_all _ _ hc; simp at this
  · have := digits_all _ _ hc; simp at this
theorem textA_ne (a : Nat) : ∀ c ∈ textA a, c ≠ 32 := by
  intro c hc e
  subst e
  simp only [textA, List.mem_append, List.mem_cons] at hc
  rcases hc with hc | hc | hc | hc | hc | hc | hc
  all_goals first | cases hc; done | (have := digits_all _ _ hc; simp at this)
theorem hexW_ne (l : List UInt8) : ∀ c ∈ hexW l, c ≠ 32 := by
  intro c hc
  unfold hexW at hc
  split at hc
  · simp at hc; subst hc; decide
  · simp only [hexT, List.mem_flatMap, List.mem_cons, List.not_mem_nil, or_false] at hc
    obtain ⟨b, _, hc⟩ := hc
    have hb : b.toNat < 256 := b.toNat_lt
    rcases hc with hc | hc
    · rw [hc]; exact (hexOf_ne (by omega)).2
    · rw [hc]; exact (hexOf_ne (by omega)).2
theorem tellE_ne (p : Pt) (e : Ev) : ∀ c ∈ tellE p e, c ≠ 32 := by
  cases p with
  | a => exact itoa_ne _
  | b => exact itoa_ne _
  | d => exact itoa_ne _
  | s => exact textA_ne _
  | x => exact hexW_ne _
  | c =>
    intro c hc
    simp only [tellE] at hc
    split at hc
    · revert c; decide
    · revert c; decide
theorem nameOf_ne (k : Nat) : ∀ c ∈ nameOf k, c ≠ 32 := by
  intro c hc
  unfold nameOf at hc
  split at hc <;> first | (revert c; decide) | (simp at hc)
theorem textE_parted (e : Ev) : parted 32 (textE e) = nameOf e.kind.toNat :: (partsOf e.kind.toNat).map (fun p => tellE p e) := by
  unfold textE
  have e1 : (partsOf e.kind.toNat).flatMap (fun p => 32 :: tellE p e) = ((partsOf e.kind.toNat).map (fun p => tellE p e)).flatMap (fun w => 32 :: w) := by
    rw [List.flatMap_map]
  rw [e1]
  refine parted_words _ _ (nameOf_ne _) ?_
  intro w hw
  obtain ⟨p, _, rfl⟩ := List.mem_map.1 hw
  exact tellE_ne p e
theorem numP_itoa {n : Int} (h0 : -9223372036854775808 ≤ n) (h1 : n ≤ 9223372036854775807) : numP (itoa n) = some n := by rw [numP_eq]; exact refInt_whole h0 h1
theorem numP_sound {w : List UInt8} {n : Int} (h : numP w = some n) : itoa n = w ∧ -9223372036854775808 ≤ n ∧ n ≤ 9223372036854775807 := by
  rw [numP_eq] at h
  obtain ⟨a, b, c⟩ := refInt_sound h
  exact ⟨a.symm, b, c⟩
/-- A plain event's kind, and what it has. -/
theorem plain_cases {e : Ev} (h : plainP e = true) : ((e.kind = 1 ∨ e.kind = 2 ∨ e.kind = 3 ∨ e.kind = 4) ∨ (e.kind = 5 ∨ e.kind = 6 ∨ e.kind = 7 ∨ e.kind = 8)) ∧ (partsOf e.kind.toNat).foldl (fun t p => putE p t e) (ev0 e.kind) = e ∧ (e.c = 0 ∨ e.c = 1) ∧ e.bytes.length ≤ 600 := by
  simp only [plainP, Bool.and_eq_true, decide_eq_true_eq] at h
  exact ⟨by omega, h.2.1, h.2.2.1, h.2.2.2⟩
theorem parse_text {e : Ev} (h : plainP e = true) (ok : EvOk e) : parseE (textE e) = some e := by
  obtain ⟨hk, hf, hc, hb⟩ := plain_cases h
  obtain ⟨k, a, b, c, d, s, l⟩ := e
  obtain ⟨a0, a1, b0, b1, d0, d1, s1⟩ := ok
  simp only at hk hf hc hb a0 a1 b0 b1 d0 d1 s1
  have hk18 : 1 ≤ k.toNat ∧ k.toNat ≤ 8 := by omega
  have hkk : ((k.toNat : Nat) : Int) = k := by omega
  unfold parseE
  rw [textE_parted, List.headD_cons, List.tail_cons]
  simp only
  rw [kindB_name _ hk18.1 hk18.2]
  unfold parseK
  rw [if_neg (by omega), if_pos (by simp), hkk]
  have na := numP_itoa a0 a1
  have nb := numP_itoa b0 b1
  have nd := numP_itoa d0 d1
  have ns := adr_whole s1
  have nl := data_text hb
  clear h hkk hk18
  rcases hk with (rfl | rfl | rfl | rfl) | (rfl | rfl | rfl | rfl)
  all_goals
    simp only [partsOf, Int.toNat_one, Int.reduceToNat, List.foldl_cons, List.foldl_nil, putE, ev0, Ev.mk.injEq, true_and, and_true] at hf
    simp only [partsOf, Int.toNat_one, Int.reduceToNat, List.map_cons, List.map_nil, readAll, List.headD_cons, List.tail_cons]
    simp only [tellE]
    rcases hc with rfl | rfl
    all_goals
      simp [readE, na, nb, nd, ns, nl, ev0, upS, downS]
      try simp only [hf, and_self]
      try simp [← hf.1, ← hf.2.1]
      try simp [← hf.1, ← hf.2.1, ← hf.2.2.1, ← hf.2.2.2.1]
      try (simp at hf; done)
theorem readAll_sound {k : Nat} (h1 : 1 ≤ k) (h8 : k ≤ 8) {ws : List (List UInt8)} {e : Ev} (hl : ws.length = (partsOf k).length) (h : readAll (partsOf k) ws (ev0 k) = some e) :
    e.kind = k ∧ EvOk e ∧ plainP e = true ∧ (partsOf k).map (fun p => tellE p e) = ws := by
  have hn : ∀ (w : List UInt8), numP w = none ∨ ∃ n, numP w = some n ∧ itoa n = w ∧ -9223372036854775808 ≤ n ∧ n ≤ 9223372036854775807 := by
    intro w
    cases hw : numP w with
    | none => exact .inl rfl
    | some n => exact .inr ⟨n, rfl, numP_sound hw⟩
  have ha : ∀ (w : List UInt8), adr w = none ∨ ∃ n, adr w = some n ∧ textA n = w ∧ n < 4294967296 := by
    intro w
    cases hw : adr w with
    | none => exact .inl rfl
    | some n => obtain ⟨x, y⟩ := adr_sound hw; exact .inr ⟨n, rfl, y.symm, x⟩
  have hx : ∀ (w : List UInt8), dataW w = none ∨ ∃ l, dataW w = some l ∧ hexW l = w ∧ l.length ≤ 600 := by
    intro w
    cases hw : dataW w with
    | none => exact .inl rfl
    | some l => exact .inr ⟨l, rfl, data_sound hw⟩
  have hc : ∀ (w : List UInt8) (e0 : Ev), e0.c = 0 → readE .c w e0 = none ∨ ∃ c, readE .c w e0 = some { e0 with c := c } ∧ (c = 0 ∨ c = 1) ∧ (if c.tmod 2 ≠ 0 then upS else downS) = w := by
    intro w e0 h0
    simp only [readE]
    by_cases hu : w = upS
    · rw [if_pos hu]; exact .inr ⟨1, rfl, .inr rfl, by rw [hu]; decide⟩
    · rw [if_neg hu]
      by_cases hd : w = downS
      · rw [if_pos hd]; exact .inr ⟨0, by rw [← h0], .inl rfl, by rw [hd]; decide⟩
      · rw [if_neg hd]; exact .inl rfl
  have : k = 1 ∨ k = 2 ∨ k = 3 ∨ k = 4 ∨ k = 5 ∨ k = 6 ∨ k = 7 ∨ k = 8 := by omega
  rcases this with rfl | rfl | rfl | rfl | rfl | rfl | rfl | rfl
  · match ws, hl with
    | [w1], _ =>
      rcases hn w1 with h1 | ⟨n1, h1, t1, l1, u1⟩
      · simp [partsOf, readAll, readE, h1] at h
      · simp [partsOf, readAll, readE, h1, ev0] at h
        subst h
        exact ⟨rfl, ⟨by simp [ev0], by simp [ev0], by simp [ev0], by simp [ev0], l1, u1, by simp [ev0]⟩, by simp [plainP, partsOf, putE, ev0], by simp [partsOf, tellE, t1]⟩
  · match ws, hl with
    | [w1, w2], _ =>
      rcases hn w1 with h1 | ⟨n1, h1, t1, l1, u1⟩
      · simp [partsOf, readAll, readE, h1] at h
      · rcases hn w2 with h2 | ⟨n2, h2, t2, l2, u2⟩
        · simp [partsOf, readAll, readE, h1, h2] at h
        · simp [partsOf, readAll, readE, h1, h2, ev0] at h
          subst h
          exact ⟨rfl, ⟨l1, u1, by simp [ev0], by simp [ev0], l2, u2, by simp [ev0]⟩, by simp [plainP, partsOf, putE, ev0], by simp [partsOf, tellE, t1, t2]⟩
  · match ws, hl with
    | [w1, w2], _ =>
      rcases hn w1 with h1 | ⟨n1, h1, t1, l1, u1⟩
      · simp [partsOf, readAll, readE, h1] at h
      · rcases hn w2 with h2 | ⟨n2, h2, t2, l2, u2⟩
        · simp [partsOf, readAll, readE, h1, h2] at h
        · simp [partsOf, readAll, readE, h1, h2, ev0] at h
          subst h
          exact ⟨rfl, ⟨l1, u1, by simp [ev0], by simp [ev0], l2, u2, by simp [ev0]⟩, by simp [plainP, partsOf, putE, ev0], by simp [partsOf, tellE, t1, t2]⟩
  · match ws, hl with
    | [w1], _ =>
      rcases hn w1 with h1 | ⟨n1, h1, t1, l1, u1⟩
      · simp [partsOf, readAll, readE, h1] at h
      · simp [partsOf, readAll, readE, h1, ev0] at h
        subst h
        exact ⟨rfl, ⟨l1, u1, by simp [ev0], by simp [ev0], by simp [ev0], by simp [ev0], by simp [ev0]⟩, by simp [plainP, partsOf, putE, ev0], by simp [partsOf, tellE, t1]⟩
  · match ws, hl with
    | [w1, w2], _ =>
      rcases hn w1 with h1 | ⟨n1, h1, t1, l1, u1⟩
      · simp [partsOf, readAll, readE, h1] at h
      · rcases hc w2 { ev0 5 with a := n1 } rfl with h2 | ⟨c2, h2, k2, t2⟩
        · have hh := h
          simp only [partsOf, readAll, List.headD_cons, List.tail_cons] at hh
          rw [show readE .a w1 (ev0 ((5 : Nat) : Int)) = some { ev0 5 with a := n1 } by simp [readE, h1], Option.bind_some, h2] at hh
          cases hh
        · simp only [partsOf, readAll, List.headD_cons, List.tail_cons] at h
          rw [show readE .a w1 (ev0 ((5 : Nat) : Int)) = some { ev0 5 with a := n1 } by simp [readE, h1], Option.bind_some, h2, Option.bind_some, Option.some.injEq] at h
          subst h
          exact ⟨rfl, ⟨l1, u1, by simp [ev0], by simp [ev0], by simp [ev0], by simp [ev0], by simp [ev0]⟩, by simp [plainP, partsOf, putE, ev0, k2], by simp only [partsOf, List.map_cons, List.map_nil, tellE]; rw [t1, t2]⟩
  · match ws, hl with
    | [w1, w2, w3, w4], _ =>
      rcases hn w1 with h1 | ⟨n1, h1, t1, l1, u1⟩
      · simp [partsOf, readAll, readE, h1] at h
      · rcases hn w2 with h2 | ⟨n2, h2, t2, l2, u2⟩
        · simp [partsOf, readAll, readE, h1, h2] at h
        · have e1 : readE .a w1 (ev0 ((6 : Nat) : Int)) = some { ev0 6 with a := n1 } := by simp [readE, h1]
          have e2 : readE .b w2 { ev0 6 with a := n1 } = some { ev0 6 with a := n1, b := n2 } := by simp [readE, h2]
          simp only [partsOf, readAll, List.headD_cons, List.tail_cons] at h
          rw [e1, Option.bind_some, e2, Option.bind_some] at h
          rcases hc w3 { ev0 6 with a := n1, b := n2 } rfl with h3 | ⟨c3, h3, k3, t3⟩
          · rw [h3] at h; cases h
          · rw [h3, Option.bind_some] at h
            rcases hn w4 with h4 | ⟨n4, h4, t4, l4, u4⟩
            · simp [readE, h4] at h
            · simp [readE, h4] at h
              subst h
              exact ⟨rfl, ⟨l1, u1, l2, u2, l4, u4, by simp [ev0]⟩, by simp [plainP, partsOf, putE, ev0, k3], by simp only [partsOf, List.map_cons, List.map_nil, tellE]; rw [t1, t2, t3, t4]⟩
  · match ws, hl with
    | [w1, w2], _ =>
      rcases hn w1 with h1 | ⟨n1, h1, t1, l1, u1⟩
      · simp [partsOf, readAll, readE, h1] at h
      · rcases hn w2 with h2 | ⟨n2, h2, t2, l2, u2⟩
        · simp [partsOf, readAll, readE, h1, h2] at h
        · simp [partsOf, readAll, readE, h1, h2, ev0] at h
          subst h
          exact ⟨rfl, ⟨l1, u1, by simp [ev0], by simp [ev0], l2, u2, by simp [ev0]⟩, by simp [plainP, partsOf, putE, ev0], by simp [partsOf, tellE, t1, t2]⟩
  · match ws, hl with
    | [w1, w2, w3, w4, w5], _ =>
      rcases hn w1 with h1 | ⟨n1, h1, t1, l1, u1⟩
      · simp [partsOf, readAll, readE, h1] at h
      · rcases hn w2 with h2 | ⟨n2, h2, t2, l2, u2⟩
        · simp [partsOf, readAll, readE, h1, h2] at h
        · rcases ha w3 with h3 | ⟨n3, h3, t3, u3⟩
          · simp [partsOf, readAll, readE, h1, h2, h3] at h
          · rcases hx w4 with h4 | ⟨n4, h4, t4, u4⟩
            · simp [partsOf, readAll, readE, h1, h2, h3, h4] at h
            · rcases hn w5 with h5 | ⟨n5, h5, t5, l5, u5⟩
              · simp [partsOf, readAll, readE, h1, h2, h3, h4, h5] at h
              · simp [partsOf, readAll, readE, h1, h2, h3, h4, h5, ev0] at h
                subst h
                exact ⟨rfl, ⟨l1, u1, l2, u2, l5, u5, u3⟩, by simp [plainP, partsOf, putE, ev0, u4], by simp [partsOf, tellE, t1, t2, t3, t4, t5]⟩
/-- What is read is a plain event, whose line it is. -/
theorem parse_sound {s : List UInt8} {e : Ev} (h : parseE s = some e) : plainP e = true ∧ EvOk e ∧ textE e = s := by
  unfold parseE parseK at h
  split at h
  · cases h
  · rename_i hk
    split at h
    · rename_i hl
      obtain ⟨hn, h9⟩ := kindUp_name 9 _ hk
      obtain ⟨ek, ok, hp, ht⟩ := readAll_sound (by unfold kindB at *; omega) (by unfold kindB; omega) hl h
      refine ⟨hp, ok, ?_⟩
      have hk2 : e.kind.toNat = kindB ((parted 32 s).headD []) := by omega
      unfold textE
      rw [hk2, ← List.flatMap_map (fun p => tellE p e) (fun w => 32 :: w), ht]
      have : nameOf (kindB ((parted 32 s).headD [])) = (parted 32 s).headD [] := hn
      rw [this]
      exact parted_join 32 s
    · cases h
end Go.Proofs.YtbfimimhgdkpaaaGreatDoor

/- Words that all texts of this claim share: worlds that only grew, slices that read as lists. No condition. -/
namespace Go.Proofs.YtbfimimhgdkpaaaGreatDoor
open Go.RowKit

/-- What was there stands as it stood. -/
def Kp (w w' : World) : Prop := Below w.heap.size w w'

theorem Kp.refl (w : World) : Kp w w := Below.refl _ _
theorem Kp.trans {a b c : World} (h : Kp a b) (k : Kp b c) : Kp a c := Below.trans h (Below.mono k h.size)
theorem Kp.size {a b : World} (h : Kp a b) : a.heap.size ≤ b.heap.size := Below.size h
theorem Kp.cell {w w' : World} (h : Kp w w') {p : Addr} {v : Value} (hc : w.cell? p = some v) : w'.cell? p = some v :=
  (Below.cell h (World.block_lt_of_cell? w p hc)).trans hc
theorem Kp.frozen {w w' : World} (h : Kp w w') {p : Addr} {v : Value} (hc : w.cell? p = some v) : w'.frozen? p = w.frozen? p :=
  Below.frozen h (World.block_lt_of_cell? w p hc)
theorem Kp.heap {w w' : World} (h : Kp w w') {k : Nat} (hk : k < w.heap.size) : w'.heap[k]? = w.heap[k]? := Below.block h k hk
theorem Kp.alloc {a w : World} (h : Kp a w) (o : Obj) : Kp a (w.alloc o) := Below.alloc h h.size o
theorem Kp.drew {a w : World} (h : Kp a w) : Kp a w.drew := Below.drew h
theorem Kp.drewN {a w : World} (h : Kp a w) (n : Nat) : Kp a (w.drewN n) := by
  have hh : Below a.heap.size a w := h
  exact ⟨hh.os, hh.tape, hh.output, hh.size, hh.block⟩
theorem Kp.setCell {a w : World} (h : Kp a w) {p : Addr} (hp : a.heap.size ≤ p.block) (u : Value) : Kp a (w.setCell p u) := Below.setCell h hp u
theorem Kp.grown {a w w' : World} {row : Option Nat} (h : Kp a w) (hg : w.grownBy w' row) (hr : ∀ k, row = some k → a.heap.size ≤ k) : Kp a w' := Below.grown h hg h.size hr

/-- The cells of a slice's elements: element i of xs lies, as its cells, at the slice's i-th place. -/
def Rd {α : Type} (w : World) (sz : Nat) (enc : α → List Value) (A : Option Addr) (xs : List α) : Prop :=
  ∀ (i : Nat) (h : i < xs.length), ∃ b off : Nat, A = some ⟨b, off, none⟩ ∧ ∀ (j : Nat) (u : Value), (enc (xs[i]'h))[j]? = some u → w.cell? ⟨b, off + i * sz + j, none⟩ = some u

section
variable {α : Type} {w w' : World} {sz : Nat} {enc : α → List Value} {A : Option Addr} {xs : List α}
theorem Rd.keep (h : Rd w sz enc A xs) (k : Kp w w') : Rd w' sz enc A xs := fun i hi => by
  obtain ⟨b, off, e, hc⟩ := h i hi
  exact ⟨b, off, e, fun j u hu => k.cell (hc j u hu)⟩
theorem Rd.nil (w : World) (sz : Nat) (enc : α → List Value) (A : Option Addr) : Rd w sz enc A [] := fun i hi => absurd hi (by simp)
end

/-- A slice type's element: its number, its zero, its cells, its bytes. -/
def ElemOf (P : Program) (t e : TypeId) (z : Value) (size bytes : Nat) : Prop :=
  P.underlying t = some (.slice e) ∧ (P.info? e).map (fun i => (i.zero, i.size, i.bytes)) = some (some z, size, bytes) ∧ z.cells.size = size ∧ 0 < size

theorem own_grown {w w1 : World} {o : Obj} {row : Option Nat} (hg : (w.alloc o).grownBy w1 row) : w.grownBy w1 row :=
  ⟨hg.os, hg.tape, hg.output, Nat.le_trans (by simp) hg.size, fun k hk hne => (hg.block k (by simp; omega) hne).trans (Below.heap_alloc w o k hk)⟩

/-- append of one element, which lies in a block just made, to a row of the call's own. -/
theorem wpList_app1 {P : Program} {t e e' : TypeId} {z : Value} {size bytes : Nat} (E : ElemOf P t e z size bytes) {w0 W : World} {ops : Array Oper} {rest : List Oper} {o : Oper} {a : Act} {Q : Exit → Act → World → Prop}
    (hgd : o.guard = none) (s x : Operand) (ho : o.op = .call { callee := .builtin .append, args := #[s, x], argTypes := #[t, t] })
    {base n : Nat} {v : Value} {xs news : List Value} (hs : a.eval s = v) (hown : W.ownsRow base e size v n xs) (hK : Kp w0 W) (hb : w0.heap.size ≤ base) (hbase : base ≤ W.heap.size)
    {N : Nat} (hx : a.eval x = .slice (some ⟨N, 0, none⟩) 1 1) (hN : N = W.heap.size) (hl : news.length = size) (h1 : news.all (fun u => u.oneCell') = true) (hfit : (n + 1) * (bytes + 1) ≤ 140737488355328)
    (h : ∀ v' w', w'.ownsRow base e size v' (n + 1) (xs ++ news) → Kp w0 w' → W.grownBy w' v.ownBlock → wpList P ops Q rest (a.put o.dst v') w') : wpList P ops Q (o :: rest) a (W.alloc (.cells news.toArray e')) := by
  obtain ⟨ht, hinfo, hzs, hsz⟩ := E
  obtain ⟨i, hi, hz, hsize, hby⟩ := info_parts hinfo
  subst hN
  have hb2 : (n + 1) * (bytes + 1) = (n + 1) * bytes + (n + 1) := by rw [Nat.mul_add, Nat.mul_one]
  refine wpList_append_own _ hgd s x t ho base e i z size bytes ht hi hz hsize hby hzs hsz v n xs hs (hown.alloc _) ⟨W.heap.size, 0, none⟩ 1 1 news hx (by omega) ?_ (by simpa using h1) (by simp only [maxLen]; omega) (by omega) (by simp; omega) ?_
  · intro j u hu
    have hadd : (⟨W.heap.size, 0, none⟩ : Addr).add j = ⟨W.heap.size, j, none⟩ := by unfold Addr.add; split <;> simp_all
    rw [hadd, World.cell?_alloc_at _ _ _ _ rfl]
    simpa using hu
  · intro v' w' ho' hg _
    exact h v' w' ho' (hK.grown (own_grown hg) (fun k hk => Nat.le_trans hb (hown.lt k hk).1)) (own_grown hg)

theorem flat_len {α : Type} {sz : Nat} {enc : α → List Value} (henc : ∀ x, (enc x).length = sz) (xs : List α) : (xs.flatMap enc).length = xs.length * sz := by
  induction xs with
  | nil => simp
  | cons y ys ih => simp only [List.flatMap_cons, List.length_append, List.length_cons, ih, henc, Nat.add_mul]; omega

theorem Rd.of_own {α : Type} {w : World} {base e sz : Nat} {enc : α → List Value} {A : Option Addr} {n c : Nat} {xs : List α} (hs : 0 < sz) (henc : ∀ x, (enc x).length = sz)
    (h : w.ownsRow base e sz (.slice A n c) n (xs.flatMap enc)) : Rd w sz enc A xs := by
  intro i hi
  have hlen : (xs.flatMap enc).length = xs.length * sz := flat_len henc xs
  have hget : ∀ (xs : List α) (i : Nat) (hi : i < xs.length) (j : Nat) (u : Value), (enc (xs[i]'hi))[j]? = some u → (xs.flatMap enc)[i * sz + j]? = some u := by
    intro xs
    induction xs with
    | nil => intro i hi; simp at hi
    | cons y ys ih =>
      intro i hi j u hu
      rw [List.flatMap_cons]
      cases i with
      | zero =>
        simp only [List.getElem_cons_zero] at hu
        have hj : j < (enc y).length := (List.getElem?_eq_some_iff.1 hu).1
        rw [Nat.zero_mul, Nat.zero_add, List.getElem?_append_left hj]
        exact hu
      | succ i =>
        simp only [List.getElem_cons_succ] at hu
        rw [List.getElem?_append_right (by rw [henc, Nat.add_mul]; omega), henc]
        have e : (i + 1) * sz + j - sz = i * sz + j := by rw [Nat.add_mul]; omega
        rw [e]
        exact ih i (by simpa using hi) j u hu
  rcases h.2 with ⟨hv, h0⟩ | ⟨g, cap, cur, hv, _⟩
  · have h1 := h.1
    subst h0
    rw [hlen] at h1
    rcases Nat.eq_zero_or_pos xs.length with hx | hx
    · omega
    · have := Nat.mul_pos hx hs; omega
  · have hA : A = some ⟨g, 0, none⟩ := by injection hv
    subst hA
    refine ⟨g, 0, rfl, fun j u hu => ?_⟩
    have := h.cells (g := g) rfl (i * sz + j) u (hget xs i hi j u hu)
    have hadd : (⟨g, 0, none⟩ : Addr).add (i * sz + j) = ⟨g, 0 + i * sz + j, none⟩ := by unfold Addr.add; split <;> simp_all
    rw [hadd] at this
    exact this

/-- A row of the call's own that reads as a list. -/
def Own {α : Type} (w : World) (base e sz : Nat) (enc : α → List Value) (v : Value) (xs : List α) : Prop := w.ownsRow base e sz v xs.length (xs.flatMap enc)

section
variable {α : Type} {w w' : World} {base e sz : Nat} {enc : α → List Value} {v : Value} {xs : List α}
theorem Own.nil (w : World) (base e sz : Nat) (enc : α → List Value) : Own w base e sz enc (.slice none 0 0) [] := World.ownsRow_nil _ _ _ _
theorem Own.alloc (h : Own w base e sz enc v xs) (o : Obj) : Own (w.alloc o) base e sz enc v xs := World.ownsRow.alloc h o
theorem Own.drew (h : Own w base e sz enc v xs) : Own w.drew base e sz enc v xs := h
theorem Own.drewN (h : Own w base e sz enc v xs) (n : Nat) : Own (w.drewN n) base e sz enc v xs := h
theorem Own.mono {base' : Nat} (h : Own w base e sz enc v xs) (hb : base' ≤ base) : Own w base' e sz enc v xs := by
  refine ⟨h.1, ?_⟩
  rcases h.2 with h2 | ⟨g, cap, cur, hv, hg, r⟩
  · exact .inl h2
  · exact .inr ⟨g, cap, cur, hv, Nat.le_trans hb hg, r⟩
theorem Own.keep (h : Own w base e sz enc v xs) (k : Kp w w') : Own w' base e sz enc v xs := by
  refine ⟨h.1, ?_⟩
  rcases h.2 with h2 | ⟨g, cap, cur, hv, hg, hh, r⟩
  · exact .inl h2
  · exact .inr ⟨g, cap, cur, hv, hg, (k.heap (Array.getElem?_eq_some_iff.1 hh).1).trans hh, r⟩
theorem Own.form (h : Own w base e sz enc v xs) : ∃ A c, v = .slice A xs.length c := by
  rcases h.2 with ⟨rfl, h0⟩ | ⟨g, cap, cur, rfl, _⟩
  · exact ⟨none, 0, by rw [h0]⟩
  · exact ⟨_, _, rfl⟩
theorem Own.rd (hs : 0 < sz) (henc : ∀ x, (enc x).length = sz) (h : Own w base e sz enc v xs) : ∃ A c, v = .slice A xs.length c ∧ Rd w sz enc A xs := by
  obtain ⟨A, c, rfl⟩ := h.form
  exact ⟨A, c, rfl, Rd.of_own hs henc h⟩
end

/-- append of one element, which lies in a block just made, to a row of the call's own. -/
theorem wpList_appx {α : Type} {enc : α → List Value} {P : Program} {t e e' : TypeId} {z : Value} {size bytes : Nat} (E : ElemOf P t e z size bytes) {w0 W : World} {ops : Array Oper} {rest : List Oper} {o : Oper} {a : Act} {Q : Exit → Act → World → Prop}
    (hgd : o.guard = none) (s x : Operand) (ho : o.op = .call { callee := .builtin .append, args := #[s, x], argTypes := #[t, t] })
    {base : Nat} {v : Value} {xs : List α} {news : List Value} (y : α) (hs : a.eval s = v) (hown : Own W base e size enc v xs) (hK : Kp w0 W) (hb : w0.heap.size ≤ base) (hbase : base ≤ W.heap.size)
    {N : Nat} (hx : a.eval x = .slice (some ⟨N, 0, none⟩) 1 1) (hN : N = W.heap.size) (hnews : news = enc y) (hl : news.length = size) (h1 : news.all (fun u => u.oneCell') = true) (hfit : (xs.length + 1) * (bytes + 1) ≤ 140737488355328)
    (h : ∀ v' w', Own w' base e size enc v' (xs ++ [y]) → Kp w0 w' → W.grownBy w' v.ownBlock → wpList P ops Q rest (a.put o.dst v') w') : wpList P ops Q (o :: rest) a (W.alloc (.cells news.toArray e')) := by
  refine wpList_app1 E hgd s x ho hs hown hK hb hbase hx hN hl h1 hfit (fun v' w' ho' hk hg => h v' w' ?_ hk hg)
  unfold Own
  rw [List.length_append, List.flatMap_append, List.length_singleton, List.flatMap_cons, List.flatMap_nil, List.append_nil, ← hnews]
  exact ho'

def intE (x : Int) : List Value := [.int .i64 x]
theorem intE_len (x : Int) : (intE x).length = 1 := rfl
theorem int_at {w : World} {A : Option Addr} {xs : List Int} (h : Rd w 1 intE A xs) {k : Nat} (hk : k < xs.length) :
    ∃ b off : Nat, A = some ⟨b, off, none⟩ ∧ w.cell? ⟨b, off + k, none⟩ = some (.int .i64 xs[k]) := by
  obtain ⟨b, off, e, hc⟩ := h k hk
  exact ⟨b, off, e, by simpa using hc 0 _ rfl⟩

/-- A scope with one label, to which the run jumps forward or not at all. -/
theorem wp_scope_fwd {P : Program} {a : Act} {w : World} {Q : Exit → Act → World → Prop} {c rest : Code} (l : Nat) (hf : findLabel c l = some rest)
    (first : c.wp P (Exit.jump l (fun a w => rest.wp P (Exit.noGoto Q) a w) Q) a w) : (Code.scope c).wp P Q a w := by
  refine wp_scope_jumps l (fun a w => rest.wp P (Exit.noGoto Q) a w) (fun _ _ => 0) hf first (fun a w h => Code.wp_mono (fun e a w q => ?_) h)
  cases e <;> first | exact q | exact q.elim
theorem jump_ret {l : Nat} {J : Act → World → Prop} {Q : Exit → Act → World → Prop} {a : Act} {w : World} (h : Q .ret a w) : Exit.jump l J Q .ret a w := h
theorem jump_goto {l : Nat} {J : Act → World → Prop} {Q : Exit → Act → World → Prop} {a : Act} {w : World} (h : J a w) : Exit.jump l J Q (.goto l) a w := ⟨rfl, h⟩
theorem noGoto_ret {Q : Exit → Act → World → Prop} {a : Act} {w : World} (h : Q .ret a w) : Exit.noGoto Q .ret a w := h
end Go.Proofs.YtbfimimhgdkpaaaGreatDoor

/- A deferred closure that recovers first: its call as a plain walk behind the recover. No condition. -/
namespace Go.Proofs.YtbfimimhgdkpaaaGreatDoor
open Go.RowKit

/-- What recover hands back in a frame's mode, and the mode behind it. -/
def recM : FrameMode → Value × FrameMode
  | .panicking ({ v, recovered := false, goexit := false } :: older) => (v, .panicking ({ v, recovered := true } :: older))
  | m => (.nilIface, m)

theorem recoverD_recM (c : Frame) (cs : List Frame) : recoverD (c :: cs) = some ((recM c.mode).1, { c with mode := (recM c.mode).2 } :: cs) ∨ (recoverD (c :: cs) = none ∧ recM c.mode = (.nilIface, c.mode)) := by
  cases hm : c.mode with
  | run => right; simp [recoverD, recM, hm]
  | returning => right; simp [recoverD, recM, hm]
  | panicking chain =>
    rcases chain with _ | ⟨⟨v, r, g⟩, older⟩
    · right; simp [recoverD, recM, hm]
    · cases r <;> cases g <;> simp [recoverD, recM, hm]

theorem bodyPostS_of {P : Program} {fn : Func} {c₀ : Frame} {cs : List Frame} {R : Ending → FrameMode → World → Prop} {u' : FrameMode} {e : Exit} {a : Act} {w : World}
    (h : bodyPost P fn (fun e w => R e u' w) e a w) : bodyPostS P fn c₀ cs R e a ({ c₀ with mode := u' } :: cs) w := by
  cases e with
  | normal => obtain ⟨hd, v, hr, hR⟩ := h; exact ⟨hd, u', rfl, v, hr, hR⟩
  | ret => obtain ⟨hd, v, hr, hR⟩ := h; exact ⟨hd, u', rfl, v, hr, hR⟩
  | panic chain => obtain ⟨hd, hR⟩ := h; exact ⟨hd, u', rfl, hR⟩
  | outgrown => exact ⟨u', h⟩
  | exit id => exact h.elim
  | goto l => exact h.elim

theorem wpS_region_rec {P : Program} {Q : Exit → Act → List Frame → World → Prop} {a : Act} {c : Frame} {cs : List Frame} {w : World} {id : Nat} {o : Oper} {rest : List Oper}
    (hg : o.guard = none) (hop : o.op = .call { callee := .builtin .recover, args := #[], argTypes := #[] })
    (h : wpList P (o :: rest).toArray (fun e a w => Q e a ({ c with mode := (recM c.mode).2 } :: cs) w) rest (a.put o.dst (recM c.mode).1) w) : (Code.region id (o :: rest).toArray false).wpS P Q a (c :: cs) w := by
  intro b k hb _
  have ho : ((o :: rest).toArray)[0]? = some o := by simp
  have hw : Region.wanted o (yielded (o :: rest).toArray a.tmps) = true := by simp [Region.wanted, hg]
  have hr : (execOp a.eval o).run P w = .ok .recover w := by simp [execOp, hop, resolve, invoke, builtin]
  have hl : wpOps P (o :: rest).toArray (fun e a w => Q e a ({ c with mode := (recM c.mode).2 } :: cs) w) (List.range' 1 rest.length) = wpList P (o :: rest).toArray (fun e a w => Q e a ({ c with mode := (recM c.mode).2 } :: cs) w) rest :=
    wpOps_eq_wpList rest 1 (fun j => by simp [Nat.add_comm 1 j])
  rw [← hl] at h
  obtain ⟨e, a', w', hq, harr⟩ := wp_ops _ _ _ h b k ({ c with mode := (recM c.mode).2 } :: cs)
  refine ⟨e, a', _, w', hq, .of_steps (.head step_region (.one ?_)) harr⟩
  have hrange : List.range ((o :: rest).toArray).size = 0 :: List.range' 1 rest.length := by
    rw [List.range_eq_range']; simp [List.range'_succ]
  rw [hrange]
  have hg' := stepG_op (P := P) (b := b) (k := k) (cs := c :: cs) (w := w) (rest := List.range' 1 rest.length) ho hw
  have hfin : ∀ v, (b.at a (.inRegion (o :: rest).toArray (0 :: List.range' 1 rest.length) :: k)).finish v = b.at (a.put o.dst v) (.inRegion (o :: rest).toArray (List.range' 1 rest.length) :: k) := by
    intro v; rw [Frame.finish_at, ho]; rfl
  have hk : (b.at a (.inRegion (o :: rest).toArray (0 :: List.range' 1 rest.length) :: k)).kind = .deferred := hb
  have htr := tryRecover_deferred hk (c :: cs)
  refine step_lone_go ?_
  rcases recoverD_recM c cs with hrec | ⟨hrec, hm⟩
  · rw [hg', ← hfin]
    simp only [Frame.at] at htr ⊢
    simp [stepG.apply, hr, htr, hrec]
  · have hc : ({ c with mode := (recM c.mode).2 } : Frame) = c := by rw [hm]
    rw [hc, hm, hg', ← hfin]
    simp only [Frame.at] at htr ⊢
    simp [stepG.apply, hr, htr, hrec]

theorem callsD_rec {P : Program} {f : FuncId} {fn : Func} {id : Nat} {o : Oper} {rest : List Oper} {y : Code} {args : Array Value} {u : FrameMode} {w : World} {R : Ending → FrameMode → World → Prop}
    (v : Value) (u' : FrameMode) (hm : recM u = (v, u'))
    (hf : P.funcs[f]? = some fn) (hb : fn.body = some (Code.seq (.region id (o :: rest).toArray false) y)) (hg : o.guard = none) (hop : o.op = .call { callee := .builtin .recover, args := #[], argTypes := #[] })
    (h : wpList P (o :: rest).toArray (Exit.then (y.wp P (bodyPost P fn (fun e w => R e u' w))) (bodyPost P fn (fun e w => R e u' w))) rest
      (Act.put { tmps := args ++ Array.replicate (fn.ntmps - args.size) undef, defers := [] } o.dst v) w) : CallsD P f args u w R := by
  refine callsD_of_wpS hf hb fun c₀ cs hu => ?_
  apply wpS_seq
  refine wpS_region_rec hg hop ?_
  subst hu
  rw [hm]
  have key : ∀ (l : List Oper) (a : Act) (w : World), wpList P (o :: rest).toArray (Exit.then (y.wp P (bodyPost P fn (fun e w => R e u' w))) (bodyPost P fn (fun e w => R e u' w))) l a w →
      wpList P (o :: rest).toArray (fun e a w => Exit.thenS (y.wpS P (bodyPostS P fn c₀ cs R)) (bodyPostS P fn c₀ cs R) e a ({ c₀ with mode := u' } :: cs) w) l a w := by
    intro l
    have hQ : ∀ e a w, (Exit.then (y.wp P (bodyPost P fn (fun e w => R e u' w))) (bodyPost P fn (fun e w => R e u' w))) e a w → Exit.thenS (y.wpS P (bodyPostS P fn c₀ cs R)) (bodyPostS P fn c₀ cs R) e a ({ c₀ with mode := u' } :: cs) w := by
      intro e a w hq
      cases e with
      | normal => exact wpS_of_wp (Code.wp_mono (fun e a w q => bodyPostS_of q) hq)
      | ret => exact bodyPostS_of (P := P) (fn := fn) (c₀ := c₀) (cs := cs) (R := R) (u' := u') (e := .ret) (a := a) (w := w) hq
      | panic ch => exact bodyPostS_of (P := P) (fn := fn) (c₀ := c₀) (cs := cs) (R := R) (u' := u') (e := .panic ch) (a := a) (w := w) hq
      | outgrown => exact bodyPostS_of (P := P) (fn := fn) (c₀ := c₀) (cs := cs) (R := R) (u' := u') (e := .outgrown) (a := a) (w := w) hq
      | exit id => exact bodyPostS_of (P := P) (fn := fn) (c₀ := c₀) (cs := cs) (R := R) (u' := u') (e := .exit id) (a := a) (w := w) hq
      | goto l => exact bodyPostS_of (P := P) (fn := fn) (c₀ := c₀) (cs := cs) (R := R) (u' := u') (e := .goto l) (a := a) (w := w) hq
    induction l with
    | nil => intro a w hh; exact hQ _ _ _ hh
    | cons o' l ih =>
      intro a w hh
      unfold wpList at hh ⊢
      split
      · rename_i hwn
        rw [if_pos hwn] at hh
        rcases hh with hh | ⟨ha, a₀, w₀, hq⟩
        · left
          unfold Oper.wp Oper.upon at hh ⊢
          split at hh
          · exact ih _ _ hh
          · exact ih _ _ hh
          · exact ih _ _ hh
          · refine hh.mono fun e w'' hr => ?_
            cases e with
            | returned v => exact ih _ _ hr
            | panicked ch => exact hQ _ _ _ hr
            | outgrown => obtain ⟨a₀, w₀, hq⟩ := hr; exact ⟨a₀, w₀, hQ _ _ _ hq⟩
          · exact hh.mono fun v w'' hr => ih _ _ hr
          · exact hQ _ _ _ hh
          · exact hh.elim
        · exact .inr ⟨ha, a₀, w₀, hQ _ _ _ hq⟩
      · rename_i hwn
        rw [if_neg hwn] at hh
        exact ih _ _ hh
  exact key _ _ _ h

/-- Only these blocks may have turned, and new ones have come. -/
structure Only (bs : List Nat) (w w' : World) : Prop where
  os : w'.os = w.os
  tape : w'.tape = w.tape
  output : w'.output = w.output
  size : w.heap.size ≤ w'.heap.size
  block : ∀ k, k < w.heap.size → k ∉ bs → w'.heap[k]? = w.heap[k]?

section
variable {bs : List Nat} {a w w' : World}
theorem Only.refl (bs : List Nat) (w : World) : Only bs w w := ⟨rfl, rfl, rfl, Nat.le_refl _, fun _ _ _ => rfl⟩
theorem Only.trans {b c : World} (h : Only bs a b) (k : Only bs b c) : Only bs a c :=
  ⟨k.os.trans h.os, k.tape.trans h.tape, k.output.trans h.output, Nat.le_trans h.size k.size, fun i hi hn => (k.block i (Nat.lt_of_lt_of_le hi h.size) hn).trans (h.block i hi hn)⟩
theorem Only.drew (h : Only bs a w) : Only bs a w.drew := ⟨h.os, h.tape, h.output, h.size, h.block⟩
theorem Only.drewN (h : Only bs a w) (n : Nat) : Only bs a (w.drewN n) := ⟨h.os, h.tape, h.output, h.size, h.block⟩
theorem Only.alloc (h : Only bs a w) (o : Obj) : Only bs a (w.alloc o) :=
  ⟨h.os, h.tape, h.output, Nat.le_trans h.size (by simp), fun k hk hn => (Below.heap_alloc w o k (Nat.lt_of_lt_of_le hk h.size)).trans (h.block k hk hn)⟩
theorem Only.setCell (h : Only bs a w) {p : Addr} (hp : p.block ∈ bs ∨ a.heap.size ≤ p.block) (u : Value) : Only bs a (w.setCell p u) :=
  ⟨h.os, h.tape, h.output, by simpa [World.setCell] using h.size, fun k hk hn => (Below.heap_setCell w p u k (by
    rintro rfl
    rcases hp with hp | hp
    · exact hn hp
    · omega)).trans (h.block k hk hn)⟩
theorem Only.of_kp (h : Kp w w') : Only bs w w' := ⟨Below.os h, Below.tape h, Below.output h, Below.size h, fun k hk _ => Below.block h k hk⟩
theorem Only.kp (h : Only bs w w') (hk : Kp a w) (hb : ∀ b ∈ bs, a.heap.size ≤ b) : Kp a w' :=
  Below.trans hk ⟨h.os, h.tape, h.output, h.size, fun k hk' => h.block k (Nat.lt_of_lt_of_le hk' hk.size) (fun hm => by have := hb k hm; omega)⟩
theorem Only.cell (h : Only bs w w') {p : Addr} {v : Value} (hc : w.cell? p = some v) (hp : p.block ∉ bs) : w'.cell? p = some v :=
  (World.cell?_of_block (w := w) (h.block p.block (World.block_lt_of_cell? w p hc) hp)).trans hc
theorem Only.heap (h : Only bs w w') {k : Nat} (hk : k < w.heap.size) (hn : k ∉ bs) : w'.heap[k]? = w.heap[k]? := h.block k hk hn
end

/-- A block that is known whole, none of it frozen. -/
def Blk (w : World) (g : Nat) (t : TypeId) (cs : Array Value) : Prop := w.heap[g]? = some (.cells cs t (0, 0))
section
variable {w w' : World} {g : Nat} {t : TypeId} {cs : Array Value}
theorem Blk.lt (h : Blk w g t cs) : g < w.heap.size := (Array.getElem?_eq_some_iff.1 h).1
theorem Blk.cell (h : Blk w g t cs) (i : Nat) : w.cell? ⟨g, i, none⟩ = cs[i]? := cell_of_row w g i cs t (0, 0) h
theorem Blk.frozen (h : Blk w g t cs) (i : Nat) : w.frozen? ⟨g, i, none⟩ = false := by
  unfold Blk at h; simp [World.frozen?, h]
theorem Blk.new (w : World) (t : TypeId) (cs : Array Value) : Blk (w.alloc (.cells cs t)) w.heap.size t cs := heap_alloc_new w _
theorem Blk.new1 (w : World) (o : Obj) (t : TypeId) (cs : Array Value) : Blk ((w.alloc o).alloc (.cells cs t)) (w.heap.size + 1) t cs := by simpa using Blk.new (w.alloc o) t cs
theorem Blk.new2 (w : World) (o o' : Obj) (t : TypeId) (cs : Array Value) : Blk (((w.alloc o).alloc o').alloc (.cells cs t)) (w.heap.size + 1 + 1) t cs := by simpa using Blk.new ((w.alloc o).alloc o') t cs
theorem Blk.new3 (w : World) (o o' o'' : Obj) (t : TypeId) (cs : Array Value) : Blk ((((w.alloc o).alloc o').alloc o'').alloc (.cells cs t)) (w.heap.size + 1 + 1 + 1) t cs := by simpa using Blk.new (((w.alloc o).alloc o').alloc o'') t cs
theorem Blk.drewN (h : Blk w g t cs) (n : Nat) : Blk (w.drewN n) g t cs := h
theorem Blk.drew (h : Blk w g t cs) : Blk w.drew g t cs := h
theorem Blk.alloc (h : Blk w g t cs) (o : Obj) : Blk (w.alloc o) g t cs := (Below.heap_alloc w o g h.lt).trans h
theorem Blk.keep (h : Blk w g t cs) (k : Kp w w') : Blk w' g t cs := (k.heap h.lt).trans h
theorem Blk.only {bs : List Nat} (h : Blk w g t cs) (k : Only bs w w') (hn : g ∉ bs) : Blk w' g t cs := (k.block g h.lt hn).trans h
theorem Blk.set_ (h : Blk w g t cs) (i : Nat) (u : Value) : Blk (w.setCell ⟨g, i, none⟩ u) g t (cs.setIfInBounds i u) := by
  unfold Blk at h ⊢
  simp [World.setCell, Array.getElem?_modify, h]
theorem Blk.far (h : Blk w g t cs) {p : Addr} (hp : g ≠ p.block) (u : Value) : Blk (w.setCell p u) g t cs := (Below.heap_setCell w p u g hp).trans h
theorem Kp.of_eq (h : w = w') : Kp w w' := h ▸ Kp.refl w
end

theorem Own.setBelow {α : Type} {w : World} {base e sz : Nat} {enc : α → List Value} {v : Value} {xs : List α} (h : Own w base e sz enc v xs) {p : Addr} (hp : p.block < base) (u : Value) : Own (w.setCell p u) base e sz enc v xs :=
  ownsRow_setCell_below h hp u
theorem Own.only {α : Type} {bs : List Nat} {w w' : World} {base e sz : Nat} {enc : α → List Value} {v : Value} {xs : List α} (h : Own w base e sz enc v xs) (k : Only bs w w') (hb : ∀ b ∈ bs, b < base) : Own w' base e sz enc v xs := by
  refine ⟨h.1, ?_⟩
  rcases h.2 with h2 | ⟨g, cap, cur, hv, hg, hh, r⟩
  · exact .inl h2
  · exact .inr ⟨g, cap, cur, hv, hg, (k.block g (Array.getElem?_eq_some_iff.1 hh).1 (fun hm => by have := hb g hm; omega)).trans hh, r⟩

theorem setCell_twice (w : World) (p : Addr) (a b : Value) : (w.setCell p a).setCell p b = w.setCell p b := by
  unfold World.setCell
  congr 1
  simp only
  apply Array.ext
  · simp
  · intro i h1 h2
    simp only [Array.size_modify] at h1 h2
    rw [Array.getElem_modify, Array.getElem_modify, Array.getElem_modify]
    split
    · cases hc : w.heap[i] with
      | cells c e f =>
        obtain ⟨lo, hi⟩ := f
        cases hs : p.spot <;> simp
      | _ => rfl
    · rfl

theorem Only.grown {bs : List Nat} {a w w' : World} {row : Option Nat} (h : Only bs a w) (hg : w.grownBy w' row) (hr : ∀ k, row = some k → a.heap.size ≤ k) : Only bs a w' :=
  ⟨hg.os.trans h.os, hg.tape.trans h.tape, hg.output.trans h.output, Nat.le_trans h.size hg.size, fun k hk hn =>
    (hg.block k (Nat.lt_of_lt_of_le hk h.size) (fun e => by have := hr k e.symm; omega)).trans (h.block k hk hn)⟩
theorem Blk.grown {w w' : World} {g : Nat} {t : TypeId} {cs : Array Value} {row : Option Nat} (h : Blk w g t cs) (hg : w.grownBy w' row) (hn : some g ≠ row) : Blk w' g t cs := (hg.block g h.lt hn).trans h
theorem Own.ne {α : Type} {w : World} {base e sz : Nat} {enc : α → List Value} {v : Value} {xs : List α} (h : Own w base e sz enc v xs) {g : Nat} (hg : g < base) : some g ≠ v.ownBlock := fun e => by
  have := (World.ownsRow.lt h g e.symm).1; omega
theorem Own.form1 {α : Type} {w : World} {base e sz : Nat} {enc : α → List Value} {v : Value} {xs : List α} {y : α} (h : Own w base e sz enc v (xs ++ [y])) : ∃ A c, v = .slice A (xs.length + 1) c := by
  obtain ⟨A, c, hv⟩ := h.form
  exact ⟨A, c, by rw [hv, List.length_append, List.length_singleton]⟩
theorem Rd.of_blk {α : Type} {w : World} {g sz : Nat} {t : TypeId} {cs : Array Value} {enc : α → List Value} {xs : List α} (hb : Blk w g t cs) (hs : 0 < sz) (henc : ∀ x, (enc x).length = sz) (hm : xs.length ≤ maxLen) (hl : cs.toList = xs.flatMap enc) : Rd w sz enc (some ⟨g, 0, none⟩) xs := by
  have hlen := flat_len henc xs
  refine Rd.of_own (base := 0) (e := t) (n := xs.length) (c := xs.length) hs henc ⟨hlen, .inr ⟨g, xs.length, cs, rfl, Nat.zero_le _, hb, Nat.le_refl _, hm, ?_, ?_⟩⟩
  · rw [← hlen, ← hl, Array.length_toList]
  · rw [← hlen, ← hl, List.take_length]
end Go.Proofs.YtbfimimhgdkpaaaGreatDoor

/- Prefixes as plain numbers: cutting, holding, bits, order. No program in sight. -/
namespace Go.Proofs.YtbfimimhgdkpaaaGreatDoor

/-- An address whose bits behind the first n are struck. -/
def cut (a n : Nat) : Nat := a / 2 ^ (32 - n) * 2 ^ (32 - n)
def bitN (a i : Nat) : Nat := if i < 32 then a / 2 ^ (31 - i) % 2 else 0

structure Pn where
  a : Nat
  l : Nat
deriving DecidableEq

def Pn.ok (p : Pn) : Prop := p.a < 4294967296 ∧ p.l ≤ 32 ∧ cut p.a p.l = p.a
def Pn.holds (p q : Pn) : Prop := p.l ≤ q.l ∧ cut q.a p.l = p.a
instance (p q : Pn) : Decidable (p.holds q) := inferInstanceAs (Decidable (_ ∧ _))
/-- What is beneath a prefix, by the bit behind it. -/
def Pn.child (p : Pn) (i : Nat) : Pn := ⟨p.a + i * 2 ^ (31 - p.l), p.l + 1⟩
def Pn.lt (p q : Pn) : Prop := p.a < q.a ∨ (p.a = q.a ∧ p.l < q.l)
instance (p q : Pn) : Decidable (p.lt q) := inferInstanceAs (Decidable (_ ∨ _))

theorem cut_le (a n : Nat) : cut a n ≤ a := Nat.div_mul_le_self _ _
theorem lt_cut (a n : Nat) : a < cut a n + 2 ^ (32 - n) := by
  unfold cut
  have h := Nat.div_add_mod a (2 ^ (32 - n))
  have h2 := Nat.mod_lt a (show 0 < 2 ^ (32 - n) from Nat.two_pow_pos _)
  rw [Nat.mul_comm]; omega
theorem cut_32 (a : Nat) : cut a 32 = a := by simp [cut]
theorem cut_cut (a : Nat) {n m : Nat} (h : n ≤ m) (hm : m ≤ 32) : cut (cut a m) n = cut a n := by
  unfold cut
  obtain ⟨k, rfl⟩ : ∃ k, m = n + k := ⟨m - n, by omega⟩
  have e : 2 ^ (32 - n) = 2 ^ (32 - (n + k)) * 2 ^ k := by rw [← Nat.pow_add]; congr 1; omega
  rw [e]
  generalize hs : 2 ^ (32 - (n + k)) = s
  have hs0 : 0 < s := by rw [← hs]; exact Nat.two_pow_pos _
  rw [← Nat.div_div_eq_div_mul, Nat.mul_div_cancel _ hs0, Nat.div_div_eq_div_mul]
theorem pow_half {n : Nat} (h : n < 32) : 2 ^ (32 - n) = 2 * 2 ^ (31 - n) := by
  rw [show 32 - n = (31 - n) + 1 by omega, Nat.pow_succ]; omega
theorem cut_succ (a : Nat) {n : Nat} (h : n < 32) : cut a (n + 1) = cut a n + bitN a n * 2 ^ (31 - n) := by
  unfold cut bitN
  rw [if_pos h, pow_half h, show 32 - (n + 1) = 31 - n by omega]
  generalize hs : 2 ^ (31 - n) = s
  have e : a / (2 * s) = a / s / 2 := by rw [Nat.mul_comm, Nat.div_div_eq_div_mul]
  rw [e]
  generalize a / s = q
  have := Nat.div_add_mod q 2
  calc q * s = (2 * (q / 2) + q % 2) * s := by rw [this]
    _ = q / 2 * (2 * s) + q % 2 * s := by rw [Nat.add_mul, Nat.mul_comm 2 (q / 2), Nat.mul_assoc]
theorem bit_lt (a i : Nat) : bitN a i < 2 := by unfold bitN; split <;> omega

theorem holds_self {p : Pn} (h : p.ok) : p.holds p := ⟨Nat.le_refl _, h.2.2⟩
theorem holds_trans {p q r : Pn} (h1 : p.holds q) (h2 : q.holds r) (hq : q.l ≤ 32) : p.holds r := by
  refine ⟨Nat.le_trans h1.1 h2.1, ?_⟩
  rw [← cut_cut r.a h1.1 hq, h2.2, h1.2]
theorem holds_both {p q r : Pn} (h1 : p.holds r) (h2 : q.holds r) (h : p.l ≤ q.l) (hq : q.l ≤ 32) : p.holds q := by
  refine ⟨h, ?_⟩
  rw [← h2.2, cut_cut r.a h hq, h1.2]
theorem holds_eq {p q : Pn} (h : p.holds q) (hl : p.l = q.l) (hq : q.ok) : p = q := by
  have := h.2
  rw [hl, hq.2.2] at this
  cases p; cases q; simp at this hl ⊢; exact ⟨this.symm, hl⟩
theorem child_holds {p q : Pn} (h : p.holds q) (hl : p.l < q.l) (hq : q.l ≤ 32) : (p.child (bitN q.a p.l)).holds q := by
  refine ⟨hl, ?_⟩
  show cut q.a (p.l + 1) = p.a + bitN q.a p.l * 2 ^ (31 - p.l)
  rw [cut_succ q.a (by omega), h.2]
theorem holds_child {p : Pn} {i : Nat} (hi : i < 2) (hp : p.ok) (hl : p.l < 32) : p.holds (p.child i) := by
  refine ⟨Nat.le_succ _, ?_⟩
  show cut (p.a + i * 2 ^ (31 - p.l)) p.l = p.a
  have hc := hp.2.2
  unfold cut at hc ⊢
  rw [pow_half hl] at hc ⊢
  generalize 2 ^ (31 - p.l) = s at *
  by_cases hs : s = 0
  · subst hs; simp at hc ⊢; omega
  · have e : (p.a + i * s) / (2 * s) = p.a / (2 * s) := by
      have hd : p.a = p.a / (2 * s) * (2 * s) := hc.symm
      generalize p.a / (2 * s) = q at hd
      rw [hd]
      have h1 : i * s < 2 * s := Nat.mul_lt_mul_of_pos_right hi (by omega)
      rw [Nat.add_comm, Nat.add_mul_div_right _ _ (by omega), Nat.div_eq_of_lt h1, Nat.zero_add]
    rw [e, hc]
theorem child_strict {p q : Pn} {i : Nat} (hi : i < 2) (hp : p.ok) (h : (p.child i).holds q) (hq : q.l ≤ 32) : p.holds q ∧ p.l < q.l ∧ bitN q.a p.l = i := by
  have hl : p.l < q.l := h.1
  have h1 : p.holds q := holds_trans (holds_child hi hp (by omega)) h (show p.l + 1 ≤ 32 by omega)
  refine ⟨h1, hl, ?_⟩
  have e : cut q.a (p.l + 1) = p.a + i * 2 ^ (31 - p.l) := h.2
  rw [cut_succ q.a (by omega), h1.2] at e
  have : bitN q.a p.l * 2 ^ (31 - p.l) = i * 2 ^ (31 - p.l) := by omega
  exact Nat.eq_of_mul_eq_mul_right (Nat.two_pow_pos _) this
theorem child_ok {p : Pn} {i : Nat} (hi : i < 2) (hp : p.ok) (hl : p.l < 32) : (p.child i).ok := by
  have hb := lt_cut p.a p.l
  obtain ⟨h1, h2, h3⟩ := hp
  have h4 : p.a + i * 2 ^ (31 - p.l) < 4294967296 ∧ cut (p.a + i * 2 ^ (31 - p.l)) (p.l + 1) = p.a + i * 2 ^ (31 - p.l) := by
    unfold cut at h3 ⊢
    rw [pow_half hl] at h3
    rw [show 32 - (p.l + 1) = 31 - p.l by omega]
    have hpow : 4294967296 = 2 ^ (31 - p.l) * 2 ^ (p.l + 1) := by rw [← Nat.pow_add, show 31 - p.l + (p.l + 1) = 32 by omega]
    have hs0 : 0 < 2 ^ (31 - p.l) := Nat.two_pow_pos _
    have he : ∃ t, 2 ^ (p.l + 1) = 2 * t := ⟨2 ^ p.l, by rw [Nat.pow_succ]; omega⟩
    obtain ⟨t, ht⟩ := he
    rw [ht] at hpow
    generalize 2 ^ (31 - p.l) = s at *
    generalize hq : p.a / (2 * s) = q at *
    rw [← h3] at h1 ⊢
    have e1 : q * (2 * s) + i * s = (2 * q + i) * s := by rw [Nat.add_mul, Nat.mul_comm 2 q, Nat.mul_assoc]
    rw [e1, Nat.mul_div_cancel _ hs0]
    refine ⟨?_, rfl⟩
    have h5 : q * (2 * s) < s * (2 * t) := by omega
    have h6 : q < t := by
      apply Nat.lt_of_mul_lt_mul_left (a := 2 * s)
      rw [Nat.mul_comm (2 * s) q]
      calc q * (2 * s) < s * (2 * t) := h5
        _ = 2 * s * t := by rw [Nat.mul_comm 2 t, ← Nat.mul_assoc, Nat.mul_comm (s * t) 2, Nat.mul_assoc]
    rw [hpow, Nat.mul_comm]
    exact Nat.mul_lt_mul_of_pos_left (by omega) hs0
  exact ⟨h4.1, by show p.l + 1 ≤ 32; omega, h4.2⟩

theorem lt_of_within {p q : Pn} (h : p.holds q) (hl : p.l < q.l) : p.lt q := by
  have := cut_le q.a p.l
  rw [h.2] at this
  unfold Pn.lt
  omega
theorem lt_sides {p q r : Pn} (h0 : (p.child 0).holds q) (h1 : (p.child 1).holds r) (hl : p.l < 32) : q.lt r := by
  have e0 : cut q.a (p.l + 1) = p.a + 0 * 2 ^ (31 - p.l) := h0.2
  have e1 : cut r.a (p.l + 1) = p.a + 1 * 2 ^ (31 - p.l) := h1.2
  have h2 := lt_cut q.a (p.l + 1)
  have h3 := cut_le r.a (p.l + 1)
  rw [show 32 - (p.l + 1) = 31 - p.l by omega] at h2
  left
  omega
theorem lt_trans {p q r : Pn} (h1 : p.lt q) (h2 : q.lt r) : p.lt r := by unfold Pn.lt at *; omega
theorem lt_irrefl (p : Pn) : ¬ p.lt p := by unfold Pn.lt; omega
theorem lt_total (p q : Pn) : p.lt q ∨ p = q ∨ q.lt p := by
  unfold Pn.lt
  by_cases h : p.a = q.a
  · by_cases h2 : p.l = q.l
    · right; left; cases p; cases q; simp at h h2; simp [h, h2]
    · omega
  · omega

theorem child_inj {p : Pn} {i j : Nat} {q : Pn} (hi : i < 2) (hj : j < 2) (hp : p.ok) (h1 : (p.child i).holds q) (h2 : (p.child j).holds q) (hq : q.l ≤ 32) : i = j := by
  rw [← (child_strict hi hp h1 hq).2.2, ← (child_strict hj hp h2 hq).2.2]
/-- What holds both, and no longer one does. -/
def Pn.take (p : Pn) (n : Nat) : Pn := ⟨cut p.a n, n⟩
theorem take_holds (p : Pn) {n : Nat} (hn : n ≤ p.l) : (p.take n).holds p := ⟨hn, rfl⟩
theorem take_ok {p : Pn} (hp : p.ok) {n : Nat} (hn : n ≤ p.l) : (p.take n).ok := ⟨Nat.lt_of_le_of_lt (cut_le _ _) hp.1, Nat.le_trans hn hp.2.1, cut_cut p.a (Nat.le_refl _) (Nat.le_trans hn hp.2.1)⟩
theorem holds_take {c p : Pn} (h : c.holds p) : c = p.take c.l := by
  cases c with
  | mk a l => have := h.2; simp at this; simp [Pn.take, this]

/-- The longest that holds two prefixes. -/
def comLen (p q : Pn) : Nat → Nat
  | 0 => 0
  | n + 1 => if (p.take (n + 1)).holds q then n + 1 else comLen p q n
def Pn.com (p q : Pn) : Pn := p.take (comLen p q p.l)
theorem comLen_le (p q : Pn) : ∀ n, comLen p q n ≤ n
  | 0 => Nat.le_refl _
  | n + 1 => by
    have := comLen_le p q n
    unfold comLen; split <;> omega
theorem comLen_holds {p q : Pn} (hp : p.ok) (hq : q.ok) : ∀ n, n ≤ p.l → (p.take (comLen p q n)).holds q
  | 0, _ => by
    refine ⟨Nat.zero_le _, ?_⟩
    show cut q.a 0 = cut p.a 0
    have h1 := hp.1
    have h2 := hq.1
    unfold cut
    rw [Nat.div_eq_of_lt (by simpa using h2), Nat.div_eq_of_lt (by simpa using h1)]
  | n + 1, hn => by
    unfold comLen
    split
    · assumption
    · exact comLen_holds hp hq n (by omega)
theorem comLen_max {p q : Pn} : ∀ n k, k ≤ n → (p.take k).holds q → k ≤ comLen p q n
  | 0, k, hk, _ => by omega
  | n + 1, k, hk, h => by
    unfold comLen
    split
    · exact hk
    · rename_i hn
      by_cases e : k = n + 1
      · subst e; exact absurd h hn
      · exact comLen_max n k (by omega) h
theorem com_left {p q : Pn} : (p.com q).holds p := take_holds p (comLen_le p q p.l)
theorem com_right {p q : Pn} (hp : p.ok) (hq : q.ok) : (p.com q).holds q := comLen_holds hp hq p.l (Nat.le_refl _)
theorem com_ok {p q : Pn} (hp : p.ok) : (p.com q).ok := take_ok hp (comLen_le p q p.l)
theorem com_max {p q c : Pn} (h1 : c.holds p) (h2 : c.holds q) : c.l ≤ (p.com q).l := by
  show c.l ≤ comLen p q p.l
  exact comLen_max p.l c.l h1.1 (by rw [← holds_take h1]; exact h2)
/-- Behind what two prefixes have in common their bits differ. -/
theorem com_bits {p q : Pn} (hp : p.ok) (hq : q.ok) (h1 : (p.com q).l < p.l) (h2 : (p.com q).l < q.l) : bitN p.a (p.com q).l ≠ bitN q.a (p.com q).l := by
  intro e
  have c1 := child_holds (com_left (p := p) (q := q)) h1 hp.2.1
  have c2 := child_holds (com_right hp hq) h2 hq.2.1
  rw [e] at c1
  have := com_max c1 c2
  have e2 : ((p.com q).child (bitN q.a (p.com q).l)).l = (p.com q).l + 1 := rfl
  omega
end Go.Proofs.YtbfimimhgdkpaaaGreatDoor

/- Prefixes bit by bit, and masks: the plain numbers. No program in sight. -/
namespace Go.Proofs.YtbfimimhgdkpaaaGreatDoor

theorem cut_zero {a : Nat} (h : a < 4294967296) : cut a 0 = 0 := by
  unfold cut
  rw [Nat.div_eq_of_lt (by simpa using h), Nat.zero_mul]
theorem cut_up (a : Nat) {n m : Nat} (h : n ≤ m) (hm : m ≤ 32) : cut a n ≤ cut a m := by
  rw [← cut_cut a h hm]; exact cut_le _ _
theorem bits_zero {a n : Nat} (hn : n ≤ 32) : (∀ i, n ≤ i → i < 32 → bitN a i = 0) ↔ cut a n = a := by
  constructor
  · intro h
    have key : ∀ k, k ≤ 32 - n → cut a (n + k) = cut a n := by
      intro k
      induction k with
      | zero => intro _; rfl
      | succ k ih =>
        intro hk
        rw [show n + (k + 1) = (n + k) + 1 by omega, cut_succ a (by omega), h (n + k) (by omega) (by omega), ih (by omega)]
        omega
    have := key (32 - n) (Nat.le_refl _)
    rw [show n + (32 - n) = 32 by omega, cut_32] at this
    exact this.symm
  · intro h i hi h32
    have h1 := cut_up a hi (by omega)
    have h2 := cut_le a (i + 1)
    rw [cut_succ a h32] at h2
    have h3 := bit_lt a i
    rw [h] at h1
    have h4 : 0 < 2 ^ (31 - i) := Nat.two_pow_pos _
    rcases Nat.eq_zero_or_pos (bitN a i) with h5 | h5
    · exact h5
    · have : 2 ^ (31 - i) ≤ bitN a i * 2 ^ (31 - i) := Nat.le_mul_of_pos_left _ h5
      omega
theorem bits_same {a b n : Nat} (ha : a < 4294967296) (hb : b < 4294967296) (hn : n ≤ 32) : (∀ i, i < n → bitN a i = bitN b i) ↔ cut a n = cut b n := by
  induction n with
  | zero => simp [cut_zero ha, cut_zero hb]
  | succ n ih =>
    have ih := ih (by omega)
    rw [cut_succ a (by omega), cut_succ b (by omega)]
    constructor
    · intro h
      rw [ih.1 (fun i hi => h i (by omega)), h n (by omega)]
    · intro h
      have h1 : cut a n = cut b n := by
        have e : ∀ c, cut (cut c n + bitN c n * 2 ^ (31 - n)) n = cut c n := fun c => by
          rw [← cut_succ c (by omega), cut_cut c (Nat.le_succ _) (by omega)]
        have := congrArg (fun x => cut x n) h
        simp only [e] at this
        exact this
      intro i hi
      by_cases e : i = n
      · subst e
        rw [h1] at h
        have : bitN a i * 2 ^ (31 - i) = bitN b i * 2 ^ (31 - i) := by omega
        exact Nat.eq_of_mul_eq_mul_right (Nat.two_pow_pos _) this
      · exact ih.2 h1 i (by omega)

/-- The mask of so many bits. -/
def maskN (n : Nat) : Nat := 4294967296 - 2 ^ (32 - n)
theorem pow_le32 (n : Nat) : 2 ^ (32 - n) ≤ 4294967296 := by
  have := Nat.pow_le_pow_right (show 0 < 2 by omega) (show 32 - n ≤ 32 by omega)
  simpa using this
theorem and_mask {a n : Nat} (ha : a < 4294967296) (hn : n ≤ 32) : a &&& maskN n = cut a n := by
  have hm : maskN n = (2 ^ n - 1) * 2 ^ (32 - n) := by
    unfold maskN
    rw [Nat.sub_mul, Nat.one_mul, ← Nat.pow_add, show n + (32 - n) = 32 by omega]
  rw [hm]
  apply Nat.eq_of_testBit_eq
  intro i
  unfold cut
  rw [Nat.testBit_and, Nat.testBit_mul_two_pow, Nat.testBit_mul_two_pow, Nat.testBit_two_pow_sub_one, Nat.testBit_div_two_pow]
  by_cases h : 32 - n ≤ i
  · have e : 32 - n + (i - (32 - n)) = i := by omega
    have e' : i - (32 - n) + (32 - n) = i := by omega
    by_cases h2 : i - (32 - n) < n
    · simp [h, h2, e, e']
    · have h3 : a.testBit i = false := Nat.testBit_lt_two_pow (Nat.lt_of_lt_of_le ha (by
        have := Nat.pow_le_pow_right (show 0 < 2 by omega) (show 32 ≤ i by omega)
        simpa using this))
      simp [h, h2, e, e', h3]
  · simp [h]
theorem andnot_mask {a n : Nat} (ha : a < 4294967296) (hn : n ≤ 32) : a &&& (4294967295 - maskN n) = a - cut a n := by
  have hm : 4294967295 - maskN n = 2 ^ (32 - n) - 1 := by have := pow_le32 n; have := Nat.two_pow_pos (32 - n); unfold maskN; omega
  rw [hm, Nat.and_two_pow_sub_one_eq_mod]
  unfold cut
  have := Nat.div_add_mod a (2 ^ (32 - n))
  rw [Nat.mul_comm] at this
  omega
end Go.Proofs.YtbfimimhgdkpaaaGreatDoor

/- Layer 2's functions over plain numbers: mask, holds, mayBe, Check, Stands, Bit; and the trie's isOrWithin. Condition: the table of relations reads as it is laid. -/
namespace Go.Proofs.YtbfimimhgdkpaaaGreatDoor
open Go.RowKit

theorem mask_eq {n : Nat} (h : n ≤ 32) : (4294967295 : Int) * 2 ^ (32 - n) % 4294967296 = (maskN n : Int) := by
  have h1 := pow_le32 n
  have h2 : 0 < 2 ^ (32 - n) := Nat.two_pow_pos _
  unfold maskN
  generalize hs : 2 ^ (32 - n) = s at *
  have hc : ((2 : Int) ^ (32 - n)) = (s : Int) := by rw [← hs]; simp
  rw [hc]
  omega
theorem and_u32 (a b : Nat) (ha : a < 4294967296) (hb : b < 4294967296) : bits .and .u32 (a : Int) (b : Int) = ((a &&& b : Nat) : Int) := by
  have hx : a &&& b < 2 ^ 32 := Nat.and_lt_two_pow _ (by omega)
  have h1 : (BitVec.ofInt 32 (a : Int)).toNat = a := by
    rw [BitVec.ofInt_natCast, BitVec.toNat_ofNat]; exact Nat.mod_eq_of_lt (by omega)
  have h2 : (BitVec.ofInt 32 (b : Int)).toNat = b := by
    rw [BitVec.ofInt_natCast, BitVec.toNat_ofNat]; exact Nat.mod_eq_of_lt (by omega)
  show IntKind.u32.wrap ((BitVec.ofInt 32 (a : Int) &&& BitVec.ofInt 32 (b : Int)).toNat : Int) = _
  rw [BitVec.toNat_and, h1, h2]
  show ((a &&& b : Nat) : Int) % 4294967296 = _
  omega
theorem andnot_u32 (a b : Nat) (ha : a < 4294967296) (hb : b < 4294967296) : bits .andNot .u32 (a : Int) (b : Int) = ((a &&& (4294967295 - b) : Nat) : Int) := by
  have hx : a &&& (4294967295 - b) < 2 ^ 32 := Nat.and_lt_two_pow _ (by omega)
  have h1 : (BitVec.ofInt 32 (a : Int)).toNat = a := by
    rw [BitVec.ofInt_natCast, BitVec.toNat_ofNat]; exact Nat.mod_eq_of_lt (by omega)
  have h2 : (BitVec.ofInt 32 (b : Int)).toNat = b := by
    rw [BitVec.ofInt_natCast, BitVec.toNat_ofNat]; exact Nat.mod_eq_of_lt (by omega)
  show IntKind.u32.wrap ((BitVec.ofInt 32 (a : Int) &&& ~~~ BitVec.ofInt 32 (b : Int)).toNat : Int) = _
  rw [BitVec.toNat_and, BitVec.toNat_not, h1, h2]
  show ((a &&& (2 ^ 32 - 1 - b) : Nat) : Int) % 4294967296 = _
  rw [show (2 ^ 32 - 1 - b) = 4294967295 - b by omega]
  omega
theorem maskN_lt (n : Nat) : maskN n < 4294967296 := by have := Nat.two_pow_pos (32 - n); unfold maskN; omega

set_option maxHeartbeats 400000 in
theorem mask_any (n : Nat) (w : World) (h1 : n ≤ 32) :
    Calls Tryz.prog 158 #[.int .i64 n] w fun e w' => e = .returned (.int .u32 (maskN n)) ∧ w = w' := by
  have H := Lib.hid (mask_eq h1)
  go_enter Tryz.func158, Tryz.ntmps158
  go_wp2
  go_ret
  exact ⟨by rw [← H.out]; rfl, rfl⟩

/-- 1, if one holds the other. -/
def holdsI (p q : Pn) : Nat := if p.holds q then 1 else 0

end Go.Proofs.YtbfimimhgdkpaaaGreatDoor

/- Layer 2: mayBe, Check, Stands; the trie's isOrWithin. Condition: the table of relations reads as it is laid. -/
namespace Go.Proofs.YtbfimimhgdkpaaaGreatDoor
open Go.RowKit

/-- A prefix that came in: an address, and whatever length. -/
structure PI where
  a : Nat
  l : Int
def PI.enc (p : PI) : List Value := [.int .u32 p.a, .int .i64 p.l]
def PI.okB (p : PI) : Bool := decide (0 ≤ p.l ∧ p.l ≤ 32 ∧ cut p.a p.l.toNat = p.a)
theorem PI.len (p : PI) : p.enc.length = 2 := rfl
def PI.pn (p : PI) : Pn := ⟨p.a, p.l.toNat⟩
def Pn.pi (p : Pn) : PI := ⟨p.a, p.l⟩
theorem pn_ok {p : PI} (h : p.okB = true) (ha : p.a < 4294967296) : p.pn.ok ∧ p.l = (p.pn.l : Int) := by
  have := of_decide_eq_true h
  exact ⟨⟨ha, by simp [PI.pn]; omega, this.2.2⟩, by simp [PI.pn]; omega⟩
theorem pi_ok {p : Pn} (h : p.ok) : p.pi.okB = true := by
  have h1 := h.2.1
  exact decide_eq_true (show 0 ≤ (p.l : Int) ∧ (p.l : Int) ≤ 32 ∧ cut p.a (p.l : Int).toNat = p.a from ⟨by omega, by omega, by rw [Int.toNat_natCast]; exact h.2.2⟩)

theorem pi_at {w : World} {A : Option Addr} {ps : List PI} (h : Rd w 2 PI.enc A ps) {k : Nat} (hk : k < ps.length) :
    ∃ b off : Nat, A = some ⟨b, off, none⟩ ∧ w.cell? ⟨b, off + k * 2, none⟩ = some (.int .u32 ps[k].a) ∧ w.cell? ⟨b, off + k * 2 + 1, none⟩ = some (.int .i64 ps[k].l) := by
  obtain ⟨b, off, e, hc⟩ := h k hk
  exact ⟨b, off, e, hc 0 _ rfl, hc 1 _ rfl⟩

theorem notmask_zero {a n : Nat} (ha : a < 4294967296) (hn : n ≤ 32) : (bits .andNot .u32 (a : Int) (maskN n : Int) != 0) = !decide (cut a n = a) := by
  rw [andnot_u32 a _ ha (maskN_lt n), andnot_mask ha hn]
  have := cut_le a n
  by_cases h : cut a n = a
  · simp [h]
  · simp [h]; omega

set_option maxRecDepth 100000 in
set_option maxHeartbeats 1000000 in
theorem mayBe_any (A : Option Addr) (c : Nat) (ps : List PI) (w : World) (hR : Rd w 2 PI.enc A ps) (hn : ps.length ≤ 1000000) (ha : ∀ k (hk : k < ps.length), ps[k].a < 4294967296) :
    Calls Tryz.prog 101 #[.slice A ps.length c] w fun e w' => e = .returned (.bool (ps.all PI.okB)) ∧ Kp w w' := by
  have Ha := Lib.hid ha; clear ha
  go_enter Tryz.func101, Tryz.ntmps101
  go_wp2_with fail
  go_loopw [7] (fun i wr => ∃ k : Nat, k ≤ ps.length ∧ i = .int .i64 k ∧ Hid (∀ j (hj : j < ps.length), j < k → ps[j].okB = true) ∧ Kp w wr) (fun i _ => ps.length - (intOf i).toNat)
  case atStart => exact ⟨0, Nat.zero_le _, rfl, fun _ _ h => absurd h (by omega), Kp.refl _⟩
  case round =>
    obtain ⟨k, hk, rfl, hall, hK⟩ := hrel
    by_cases hlt : k < ps.length
    · obtain ⟨b, off, rfl, c0, c1⟩ := pi_at (hR.keep hK) hlt
      have hak := Ha.out k hlt
      have hno : ps[k].okB = false → ps.all PI.okB = false := fun h => by rw [List.all_eq_false]; exact ⟨ps[k], List.getElem_mem hlt, by simp [h]⟩
      have Hno := Lib.hid hno; clear hno
      obtain ⟨W, hW, kW, B0⟩ : ∃ W, wr.alloc (.cells #[.int .u32 ps[k].a, .int .i64 ps[k].l] 42) = W ∧ Kp w W ∧ Blk W wr.heap.size 42 #[.int .u32 ps[k].a, .int .i64 ps[k].l] := ⟨_, rfl, hK.alloc _, Blk.new wr _ _⟩
      have p0 : W.cell? ⟨wr.heap.size, 0, none⟩ = some (.int .u32 ps[k].a) := B0.cell 0
      have p1 : W.cell? ⟨wr.heap.size, 1, none⟩ = some (.int .i64 ps[k].l) := B0.cell 1
      by_cases h0 : ps[k].l < 0
      · have H := Lib.hid (Hno.out (by simp [PI.okB]; omega))
        have d0 : decide (ps[k].l < 0) = true := by simpa using h0
        clear h0
        go_wp2_with fail
        go_quiet (fail)
        go_wp2_with fail
        go_ret
        exact ⟨by rw [H.out]; rfl, kW.drewN _⟩
      · have d0 : decide (ps[k].l < 0) = false := by simpa using h0
        by_cases h1 : 32 < ps[k].l
        · have H := Lib.hid (Hno.out (by simp [PI.okB]; omega))
          have d1 : decide (32 < ps[k].l) = true := by simpa using h1
          clear h0 h1
          go_wp2_with fail
          go_quiet (fail)
          go_wp2_with fail
          go_ret
          exact ⟨by rw [H.out]; rfl, kW.drewN _⟩
        · have d1 : decide (32 < ps[k].l) = false := by simpa using h1
          obtain ⟨n, hnl⟩ := Int.eq_ofNat_of_zero_le (show 0 ≤ ps[k].l by omega)
          have hn32 : n ≤ 32 := by omega
          have hz := notmask_zero hak hn32
          have Hl := Lib.hid hnl
          rw [hnl] at c1 p1 d0 d1 hW
          clear h0 h1 hnl
          by_cases hc : cut ps[k].a n = ps[k].a
          · have hok := Lib.hid (show ps[k].okB = true by simp only [PI.okB, Hl.out, Int.toNat_natCast, decide_eq_true_eq]; exact ⟨by omega, by omega, hc⟩)
            rw [show (!decide (cut ps[k].a n = ps[k].a)) = false by simp [hc]] at hz
            clear hc
            go_wp2_with fail
            go_region_held3 (fun w' => w'.cell? ⟨wr.heap.size, 0, none⟩ = some (.int .u32 ps[k].a) ∧ w'.cell? ⟨wr.heap.size, 1, none⟩ = some (.int .i64 n)) (go_keep)
              (first | (go_at_call 158; refine (mask_any _ _ hn32).mono ?_; rintro e w' ⟨rfl, rfl⟩))
            go_wp2_with fail
            go_roundw
            case rel =>
              refine ⟨k + 1, by omega, by go_num, fun j hj hjk => ?_, kW.drew⟩
              by_cases hj' : j < k
              · exact hall.out j hj hj'
              · obtain rfl : j = k := by omega
                exact hok.out
            case measure => simp [intOf]; omega
          · have H := Lib.hid (Hno.out (by simp only [PI.okB, Hl.out, Int.toNat_natCast, decide_eq_false_iff_not]; rintro ⟨_, _, h⟩; exact hc h))
            rw [show (!decide (cut ps[k].a n = ps[k].a)) = true by simp [hc]] at hz
            clear hc
            go_wp2_with fail
            go_region_held3 (fun w' => w'.cell? ⟨wr.heap.size, 0, none⟩ = some (.int .u32 ps[k].a) ∧ w'.cell? ⟨wr.heap.size, 1, none⟩ = some (.int .i64 n)) (go_keep)
              (first | (go_at_call 158; refine (mask_any _ _ hn32).mono ?_; rintro e w' ⟨rfl, rfl⟩))
            go_wp2_with fail
            go_ret
            exact ⟨by rw [H.out]; rfl, kW.drew⟩
    · obtain rfl : k = ps.length := by omega
      have H := Lib.hid (show ps.all PI.okB = true by
        rw [List.all_eq_true]; intro x hx
        obtain ⟨j, hj, rfl⟩ := List.getElem_of_mem hx
        exact hall.out j hj hj)
      clear hall
      go_wp2_with fail
      go_ret
      exact ⟨by rw [H.out]; rfl, hK⟩

def checkP (p : PI) : Int := if p.okB then 0 else 2

set_option maxRecDepth 100000 in
set_option maxHeartbeats 1000000 in
theorem check_any (p : PI) (w : World) (ha : p.a < 4294967296) :
    Calls Tryz.prog 184 #[.agg #[.int .u32 p.a, .int .i64 p.l]] w fun e w' => e = .returned (.int .i64 (checkP p)) ∧ Kp w w' := by
  have hrd : Rd ((w.alloc (.cells #[.int .u32 p.a, .int .i64 p.l] 42)).alloc (.cells #[.int .u32 p.a, .int .i64 p.l] 42)) 2 PI.enc (some ⟨w.heap.size + 1, 0, none⟩) [p] := Rd.of_blk (Blk.new1 w _ _ _) (by omega) PI.len (by unfold maxLen; simp) rfl
  have Hrd := Lib.hid hrd; clear hrd
  go_enter Tryz.func184, Tryz.ntmps184
  go_wp2_with fail
  refine wp_scope_fwd 0 rfl ?_
  go_wp2_with fail
  refine (mayBe_any _ 1 [p] _ Hrd.out (by simp) (fun k hk => by simp at hk; subst hk; exact ha)).mono ?_
  rintro e w1 ⟨rfl, hK1⟩
  have hk1 : Kp w w1 := (((Kp.refl _).alloc _).alloc _).trans hK1
  rw [show [p].all PI.okB = p.okB by simp]
  cases hok : p.okB with
  | true =>
    have H := Lib.hid (show checkP p = 0 by simp [checkP, hok]); clear hok
    go_wp2_with fail
    refine jump_ret ?_
    go_ret
    exact ⟨by rw [H.out]; rfl, hk1⟩
  | false =>
    have H := Lib.hid (show checkP p = 2 by simp [checkP, hok]); clear hok
    go_wp2_with fail
    go_step3
    refine ⟨rfl, ?_⟩
    go_wp2_with fail
    refine noGoto_ret ?_
    go_ret
    exact ⟨by rw [H.out]; rfl, hk1⟩

def relI (p q : Pn) : Int := if p.holds q then (if q.holds p then 1 else 3) else (if q.holds p then 2 else 4)

theorem relI_cases (p n : Pn) : (n.holds p → (relI p n == 1) = true ∨ ((relI p n == 1) = false ∧ (relI p n == 2) = true)) ∧ (¬ n.holds p → (relI p n == 1) = false ∧ (relI p n == 2) = false) := by
  unfold relI
  by_cases a : p.holds n <;> by_cases b : n.holds p <;> simp [a, b]

end Go.Proofs.YtbfimimhgdkpaaaGreatDoor

/- Ranges over functions, in plain walks: an iterator's contract, the statement, a function's end behind it. No condition. -/
namespace Go.Proofs.YtbfimimhgdkpaaaGreatDoor
open Go.RowKit

/-- An iterator that hands over the rows xs 0 .. xs (N - 1), till its yield says no. M: what it reads. -/
def Iter (P : Program) (gf : FuncId) (caps : Array Value) (N : Nat) (xs : Nat → Array Value) (M : World → Prop) : Prop :=
  ∀ (l : Nat) (I Z : Nat → World → Prop) (W : World),
    (∀ k W W', I k W → Kp W W' → I k W') → (∀ k W W', Z k W → Kp W W' → Z k W') → (∀ k W, I k W → M W) →
    (∀ k W, k < N → I k W → ∃ fn tmps assign body, (Instr.yield l (xs k)).run P W = .ok (.round l fn tmps assign body) W ∧
      RoundIn Fence.wide 0 P l fn tmps assign body W (fun e W' => (e = .returned (.bool true) ∧ I (k + 1) W') ∨ (e = .returned (.bool false) ∧ Z (k + 1) W'))) →
    I 0 W → Calls P gf (#[.func (.yield l) #[] #[]] ++ caps) W (fun e W' => e = .returned (.tuple #[]) ∧ (I N W' ∨ ∃ k, 0 < k ∧ k ≤ N ∧ Z k W'))

def Kept2 (w W W' : World) : Prop := W'.heap[w.heap.size]? = W.heap[w.heap.size]? ∧ W'.heap[w.heap.size + 1]? = W.heap[w.heap.size + 1]?

/-- How a round's body may be left. -/
def rndPost (w : World) (I : Nat → World → Prop) (Ix : Code → Nat → World → Prop) (k : Nat) (W : World) : Exit → Act → World → Prop
  | .normal, _, W' => Kept2 w W W' ∧ I k W'
  | .ret, _, W' => Kept2 w W W' ∧ Ix .ret k W'
  | .exit id, _, W' => Kept2 w W W' ∧ Ix (.exit id) k W'
  | .goto t, _, W' => Kept2 w W W' ∧ Ix (.goto t) k W'
  | .panic _, _, _ => False
  | .outgrown, _, _ => False

theorem Only.putObj {bs : List Nat} {a w : World} (h : Only bs a w) {r : Nat} (hr : r ∈ bs) (o : Obj) : Only bs a (w.putObj r o) :=
  ⟨h.os, h.tape, h.output, by simpa using h.size, fun k hk hn => (World.putObj_heap_other (fun e => hn (by rw [e]; exact hr))).trans (h.block k hk hn)⟩

theorem wp_range {P : Program} {g : Operand} {ps : Array Tmp} {assign body : Code} {Q : Exit → Act → World → Prop} {a : Act} {w : World} {gf : FuncId} {caps : Array Value} {N : Nat} {xs : Nat → Array Value} {M : World → Prop}
    (hg : a.eval g = .func (.func gf) #[] caps) (eg : ∀ args w, (callFunc gf args).run P w = .ok (.enter gf args) w) (hit : Iter P gf caps N xs M) (hps : ∀ k, k < N → (xs k).size = ps.size)
    (I : Nat → World → Prop) (Ix : Code → Nat → World → Prop)
    (hI : ∀ k W W', I k W → Only [w.heap.size, w.heap.size + 1] W W' → I k W') (hIx : ∀ c k W W', Ix c k W → Only [w.heap.size, w.heap.size + 1] W W' → Ix c k W')
    (hM : ∀ k W, I k W → M W) (h0 : I 0 w)
    (hround : ∀ l k W, k < N → I k W → assign.wpIn (Fence.wide.inRound l) 0 P (Exit.then (fun a' W' => W = W' ∧ ∀ W2, I k W2 → w.heap.size + 1 < W2.heap.size → body.wpIn (Fence.wide.inRound l) 0 P (rndPost w I Ix (k + 1) W2) a' W2) (fun _ _ _ => False))
      { tmps := (ps.zip (xs k)).foldl (fun t (p, v) => t.setIfInBounds p v) a.tmps, defers := [] } W)
    (hdone : ∀ W, I N W → W.heap[w.heap.size]? = some (.deferred (some [])) → Q .normal { a with defers := { target := .collected w.heap.size, args := #[] } :: a.defers } W)
    (hstop : ∀ c k W, 0 < k → k ≤ N → Ix c k W → W.heap[w.heap.size]? = some (.deferred (some [])) → c.wp P Q { a with defers := { target := .collected w.heap.size, args := #[] } :: a.defers } W) :
    (Code.rangeFunc g ps assign body).wp P Q a w := by
  refine (wpIn_wide (n := 0)).1 (wpIn_rangeFunc ?_)
  intro fn hfn
  obtain ⟨rec, hrec⟩ : ∃ rec : LoopState → Option Code → Loop, rec = fun st pe => { state := st, pending := pe, fn, tmps := a.tmps, params := ps, assign, body, defers := w.heap.size } := ⟨_, rfl⟩
  obtain ⟨W1, hW1⟩ : ∃ W1, (w.alloc (.deferred (some []))).alloc (.loop (rec .ready none)) = W1 := ⟨_, rfl⟩
  have hL1 : W1.heap[w.heap.size + 1]? = some (.loop (rec .ready none)) := by
    rw [← hW1]; have := World.alloc_heap_new (w.alloc (.deferred (some []))) (.loop (rec .ready none)); rwa [World.size_alloc] at this
  have hK1 : W1.heap[w.heap.size]? = some (.deferred (some [])) := by
    rw [← hW1]; exact (Below.heap_alloc _ _ _ (by simp)).trans (World.alloc_heap_new w _)
  have hI1 : I 0 W1 := by rw [← hW1]; exact hI 0 _ _ h0 (((Only.refl _ _).alloc _).alloc _)
  refine ⟨w.heap.size + 1, [{ target := .collected w.heap.size, args := #[] }], W1, { target := .fn (.func gf) caps, args := #[.func (.yield (w.heap.size + 1)) #[] #[]] }, W1, gf,
    #[.func (.yield (w.heap.size + 1)) #[] #[]] ++ caps, W1, ?_, ?_, fun _ _ => trivial, ?_, (fun h => by cases h), callsIn_wide.2 ?_⟩
  · rw [← hW1, hrec]; exact run_enterLoop_outer _ _ _ _ _
  · simp only [resolve, hg]
    simp [go_sem]
  · simp [invoke, go_sem, eg]
  · refine (hit (w.heap.size + 1)
      (fun k W => I k W ∧ W.heap[w.heap.size + 1]? = some (.loop (rec .ready none)) ∧ W.heap[w.heap.size]? = some (.deferred (some [])))
      (fun k W => ∃ c, Ix c k W ∧ W.heap[w.heap.size + 1]? = some (.loop (rec .done (some c))) ∧ W.heap[w.heap.size]? = some (.deferred (some [])))
      W1 ?_ ?_ (fun k W h => hM k W h.1) ?_ ⟨hI1, hL1, hK1⟩).mono ?_
    · rintro k W W' ⟨h1, h2, h3⟩ hk
      exact ⟨hI k W W' h1 (Only.of_kp hk), (hk.heap (Array.getElem?_eq_some_iff.1 h2).1).trans h2, (hk.heap (Array.getElem?_eq_some_iff.1 h3).1).trans h3⟩
    · rintro k W W' ⟨c, h1, h2, h3⟩ hk
      exact ⟨c, hIx c k W W' h1 (Only.of_kp hk), (hk.heap (Array.getElem?_eq_some_iff.1 h2).1).trans h2, (hk.heap (Array.getElem?_eq_some_iff.1 h3).1).trans h3⟩
    · rintro k W hk ⟨hi, hl, hd⟩
      have hlt : w.heap.size + 1 < W.heap.size := (Array.getElem?_eq_some_iff.1 hl).1
      have hy := run_yield (P := P) (args := xs k) hl (by rw [hrec]; exact hps k hk)
      rw [hrec] at hy
      refine ⟨fn, _, assign, body, hy, roundIn_of_wpIn trivial (wpIn_mono (hround _ k W hk hi) ?_)⟩
      rintro e₀ a' W' hq
      rcases e₀ with _ | id | t | _ | ch | _
      rotate_left
      · exact hq.elim
      · exact hq.elim
      · exact hq.elim
      · exact hq.elim
      · exact hq.elim
      obtain ⟨rfl, hbody⟩ := hq
      refine ⟨_, run_beginRound hl (by rw [hrec]), ?_⟩
      have hl2 : (W.putObj (w.heap.size + 1) (.loop { rec .ready none with state := .busy })).heap[w.heap.size + 1]? = some (.loop { rec .ready none with state := .busy }) := World.putObj_heap_same hlt
      have hd2 : (W.putObj (w.heap.size + 1) (.loop { rec .ready none with state := .busy })).heap[w.heap.size]? = some (.deferred (some [])) := (World.putObj_heap_other (by omega)).trans hd
      have hi2 : I k (W.putObj (w.heap.size + 1) (.loop { rec .ready none with state := .busy })) := hI k _ _ hi ((Only.refl _ _).putObj (by simp) _)
      refine wpIn_mono (hbody _ hi2 (by simpa using hlt)) ?_
      have fin : ∀ (jump : Option Code) (W3 : World), Kept2 w (W.putObj (w.heap.size + 1) (.loop { rec .ready none with state := .busy })) W3 →
          (Instr.endRound (w.heap.size + 1) jump).run P W3 = .ok (.bool jump.isNone) (W3.putObj (w.heap.size + 1) (.loop (rec (if jump.isNone then .ready else .done) jump))) ∧
          (W3.putObj (w.heap.size + 1) (.loop (rec (if jump.isNone then .ready else .done) jump))).heap[w.heap.size + 1]? = some (.loop (rec (if jump.isNone then .ready else .done) jump)) ∧
          (W3.putObj (w.heap.size + 1) (.loop (rec (if jump.isNone then .ready else .done) jump))).heap[w.heap.size]? = some (.deferred (some [])) := fun jump W3 hk3 => by
        have hl3 := hk3.2.trans hl2
        have hd3 := hk3.1.trans hd2
        have := run_endRound (P := P) jump hl3
        rw [hrec] at this ⊢
        exact ⟨this, World.putObj_heap_same (Array.getElem?_eq_some_iff.1 hl3).1, (World.putObj_heap_other (by omega)).trans hd3⟩
      rintro e a3 W3 hp
      cases e with
      | normal =>
        obtain ⟨hr, hl4, hd4⟩ := fin none W3 hp.1
        exact ⟨_, _, hr, .inl ⟨rfl, hI _ _ _ hp.2 ((Only.refl _ _).putObj (by simp) _), hl4, hd4⟩⟩
      | ret =>
        obtain ⟨hr, hl4, hd4⟩ := fin (some .ret) W3 hp.1
        exact ⟨_, _, hr, .inr ⟨rfl, .ret, hIx _ _ _ _ hp.2 ((Only.refl _ _).putObj (by simp) _), hl4, hd4⟩⟩
      | exit id =>
        obtain ⟨hr, hl4, hd4⟩ := fin (some (.exit id)) W3 hp.1
        exact ⟨_, _, hr, .inr ⟨rfl, .exit id, hIx _ _ _ _ hp.2 ((Only.refl _ _).putObj (by simp) _), hl4, hd4⟩⟩
      | goto t =>
        obtain ⟨hr, hl4, hd4⟩ := fin (some (.goto t)) W3 hp.1
        exact ⟨_, _, hr, .inr ⟨rfl, .goto t, hIx _ _ _ _ hp.2 ((Only.refl _ _).putObj (by simp) _), hl4, hd4⟩⟩
      | panic ch => exact hp.elim
      | outgrown => exact hp.elim
    · rintro e W3 ⟨rfl, h | ⟨k, hk0, hkN, c, hix, hl, hd⟩⟩
      · obtain ⟨hi, hl, hd⟩ := h
        have hend := run_endLoop (P := P) hl (by rw [hrec]; simp)
        have hpn : (rec .ready none).pending = none := by rw [hrec]
        rw [hpn] at hend
        refine ⟨none, _, hend, ?_⟩
        exact hdone _ (hI _ _ _ hi ((Only.refl _ _).putObj (by simp) _)) ((World.putObj_heap_other (by omega)).trans hd)
      · have hend := run_endLoop (P := P) hl (by rw [hrec]; simp)
        have hpn : (rec .done (some c)).pending = some c := by rw [hrec]
        rw [hpn] at hend
        refine ⟨some c, _, hend, ?_⟩
        refine (wpIn_wide (n := 0)).2 (hstop c k _ hk0 hkN (hIx _ _ _ _ hix ((Only.refl _ _).putObj (by simp) _)) ((World.putObj_heap_other (by omega)).trans hd))

/-- The marks of loops over functions are taken off, one by one. -/
def Takes : List Deferred → World → (World → Prop) → Prop
  | [], w, K => K w
  | d :: ds, w, K => ∃ r, d.target = .collected r ∧ w.heap[r]? = some (.deferred (some [])) ∧ Takes ds (w.putObj r (.deferred none)) K

theorem takes_steps {P : Program} {K : World → Prop} : ∀ (ds : List Deferred) (fr : Frame) (cs : List Frame) (w : World), fr.mode = .returning → fr.defers = ds → Takes ds w K →
    ∃ w', K w' ∧ Steps P (lone fr cs w) (lone { fr with defers := [] } cs w')
  | [], fr, cs, w, _, hd, h => ⟨w, h, by
      have : ({ fr with defers := [] } : Frame) = fr := by cases fr; simp_all
      rw [this]; exact Steps.refl P _⟩
  | d :: ds, fr, cs, w, hm, hd, ⟨r, ht, hr, h⟩ => by
    obtain ⟨w', hK, hs⟩ := takes_steps ds { fr with defers := [] ++ ds } cs _ hm rfl h
    exact ⟨w', hK, Steps.head (step_collected (by rw [hm]; simp) hd ht (run_takeDeferred hr)) hs⟩

/-- A body's end, with marks among what is deferred. -/
def bodyPostM (P : Program) (fn : Func) (R : Ending → World → Prop) : Exit → Act → World → Prop
  | .normal, a, w | .ret, a, w => Takes a.defers w (fun w' => ∃ v, (results fn a.tmps).run P w' = .ok v w' ∧ R (.returned v) w')
  | .outgrown, _, w => R .outgrown w
  | _, _, _ => False

theorem calls_of_wp_marks {P : Program} {f : FuncId} {fn : Func} {c : Code} {args : Array Value} {w : World} {R : Ending → World → Prop}
    (hf : P.funcs[f]? = some fn) (hb : fn.body = some c)
    (h : c.wp P (bodyPostM P fn R) { tmps := args ++ Array.replicate (fn.ntmps - args.size) undef, defers := [] } w) : Calls P f args w R := by
  intro cs
  let b : Frame := { (default : Frame) with fn := f, kind := .normal }
  have henter : Frame.enter P f args .normal = b.at { tmps := args ++ Array.replicate (fn.ntmps - args.size) undef, defers := [] } [.code c] := by
    simp [Frame.enter, Frame.at, hf, hb, b]
  obtain ⟨e, a', w', hq, harr⟩ := h b [] cs
  rw [← henter] at harr
  cases e with
  | normal =>
    obtain ⟨w2, ⟨v, hr, hR⟩, hs⟩ := takes_steps (P := P) a'.defers { b.at a' [] with mode := .returning } cs w' rfl rfl hq
    exact ⟨.returned v, w2, _, hR, Steps.trans harr (.head step_end hs), rfl, rfl, rfl, rfl, fn, hf, hr⟩
  | ret =>
    obtain ⟨todo, hs0⟩ := harr
    obtain ⟨w2, ⟨v, hr, hR⟩, hs⟩ := takes_steps (P := P) a'.defers { b.at a' todo with mode := .returning } cs w' rfl rfl hq
    exact ⟨.returned v, w2, _, hR, Steps.trans hs0 hs, rfl, rfl, rfl, rfl, fn, hf, hr⟩
  | panic chain => exact hq.elim
  | exit id => exact hq.elim
  | goto l => exact hq.elim
  | outgrown => exact ⟨.outgrown, w', b, hq, harr.resolve_left (by simp [b]), rfl, trivial⟩
theorem noGoto_normal {Q : Exit → Act → World → Prop} {a : Act} {w : World} (h : Q .normal a w) : Exit.noGoto Q .normal a w := h
end Go.Proofs.YtbfimimhgdkpaaaGreatDoor
