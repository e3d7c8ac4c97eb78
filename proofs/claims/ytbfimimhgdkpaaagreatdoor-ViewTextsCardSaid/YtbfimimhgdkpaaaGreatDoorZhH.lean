/- Lemmas and contracts for the theorem of this claim: VwH, VwI, VwJ, VwQ, VwN, VwK, VwS. -/
import Derived.Test.YtbfimimhgdkpaaaGreatDoorZhG
import Derived.BigRegion
set_option linter.unusedSimpArgs false
set_option linter.unusedVariables false
/- Package prefix: what a text's reader takes. No condition but the stated bounds. -/
namespace Go.Proofs.YtbfimimhgdkpaaaGreatDoor
open Go.RowKit

/-- The cells of a prefix as far as it was read. -/
def partialC (a n : Nat) (sl : Bool) (m : Nat) : Array Value := #[.int .u32 (a : Int), .int .i64 (n : Int), .bool sl, .int .i64 (m : Int)]
set_option maxRecDepth 100000 in
set_option maxHeartbeats 2000000 in
theorem ptake_pass (g a n m : Nat) (s : ByteArray) (at_ : Int) (c : Nat) (hc : c ≠ 47) (hc2 : c < 2147483648) (w : World) (B : Blk w g 180 (partialC a n false m)) :
    Calls Tryz.prog 107 #[.pointer (some ⟨g, 0, none⟩), .string s, .int .i64 at_, .int .i32 c] w fun e w' => e = .returned (.bool true) ∧ w = w' := by
  have c2 : w.cell? ⟨g, 2, none⟩ = some (.bool false) := B.cell 2
  have hn : ((c : Int) != 47) = true := by rw [bne_iff_ne]; omega
  clear B hc
  go_enter Tryz.func107, Tryz.ntmps107
  go_wp2_with fail
  go_ret
  exact ⟨rfl, rfl⟩
set_option maxRecDepth 100000 in
set_option maxHeartbeats 2000000 in
theorem ptake_slash (g a n m : Nat) (s : ByteArray) (hs : s.size ≤ 1000000) (q : Nat) (hq : q ≤ s.size) (w : World) (B : Blk w g 180 (partialC a n false m)) :
    Calls Tryz.prog 107 #[.pointer (some ⟨g, 0, none⟩), .string s, .int .i64 (q : Int), .int .i32 47] w fun e w' => Only [g] w w' ∧ (∀ a', adr (s.data.toList.take q) = some a' → e = .returned (.bool true) ∧ Blk w' g 180 (partialC a' n true m)) ∧ (adr (s.data.toList.take q) = none → e = .returned (.bool false)) := by
  have c0 : w.cell? ⟨g, 0, none⟩ = some (.int .u32 (a : Int)) := B.cell 0
  have c2 : w.cell? ⟨g, 2, none⟩ = some (.bool false) := B.cell 2
  have hx := extract_eq s 0 q
  rw [List.drop_zero, Nat.sub_zero] at hx
  have Hx := Lib.hid hx
  have hq0 : (0 : Int) ≤ (q : Int) := by omega
  have hq1 : (q : Int) ≤ (s.size : Int) := by omega
  have hsz : (s.extract 0 q).size ≤ 1000000 := by simp; omega
  have HB := Lib.hid B
  clear hx B
  go_enter Tryz.func107, Tryz.ntmps107
  go_wp2_with fail
  refine (addr_parse (s.extract 0 q) hsz w).mono ?_
  rintro e w1 ⟨K1, h1, h2⟩
  rw [Hx.out, strB_list] at h1 h2
  have B1 := HB.out.keep K1
  have d0 : w1.cell? ⟨g, 0, none⟩ = some (.int .u32 (a : Int)) := B1.cell 0
  have d2 : w1.cell? ⟨g, 2, none⟩ = some (.bool false) := B1.cell 2
  have z0 := B1.frozen 0
  have z2 := B1.frozen 2
  have O1 : Only [g] w w1 := Only.of_kp K1
  cases ha : adr (s.data.toList.take q) with
  | some a' =>
    obtain ⟨pz, rfl⟩ := h1 a' ha
    have HB2 := Lib.hid (show Blk ((w1.setCell ⟨g, 0, none⟩ (.int .u32 (a' : Int))).setCell ⟨g, 2, none⟩ (.bool true)) g 180 (partialC a' n true m) by simpa [partialC] using (B1.set_ 0 (.int .u32 (a' : Int))).set_ 2 (.bool true))
    have HO := Lib.hid ((O1.setCell (p := ⟨g, 0, none⟩) (.inl (by simp)) (.int .u32 (a' : Int))).setCell (p := ⟨g, 2, none⟩) (.inl (by simp)) (.bool true))
    have HA := Lib.hid ha
    clear h1 h2 B1 K1 c0 c2 ha
    go_wp2_with fail
    go_ret
    exact ⟨HO.out, fun x hx => (by rw [HA.out] at hx; injection hx with hx; subst hx; exact ⟨rfl, HB2.out⟩), fun h => (by rw [HA.out] at h; cases h)⟩
  | none =>
    obtain ⟨pz, rfl⟩ := h2 ha
    have HO := Lib.hid ((O1.setCell (p := ⟨g, 0, none⟩) (.inl (by simp)) (.int .u32 0)).setCell (p := ⟨g, 2, none⟩) (.inl (by simp)) (.bool true))
    have HA := Lib.hid ha
    clear h1 h2 B1 K1 c0 c2 ha
    go_wp2_with fail
    go_ret
    exact ⟨HO.out, fun x hx => (by rw [HA.out] at hx; cases hx), fun h => rfl⟩
set_option maxRecDepth 100000 in
set_option maxHeartbeats 2000000 in
theorem ptake_bad (g a n m : Nat) (s : ByteArray) (at_ : Int) (c : Nat) (hc : ¬ (48 ≤ c ∧ c ≤ 57) ∨ (0 < m ∧ n = 0)) (hc2 : c < 2147483648) (w : World) (B : Blk w g 180 (partialC a n true m)) :
    Calls Tryz.prog 107 #[.pointer (some ⟨g, 0, none⟩), .string s, .int .i64 at_, .int .i32 c] w fun e w' => e = .returned (.bool false) ∧ w = w' := by
  have c2 : w.cell? ⟨g, 2, none⟩ = some (.bool true) := B.cell 2
  have c1 : w.cell? ⟨g, 1, none⟩ = some (.int .i64 (n : Int)) := B.cell 1
  have c3 : w.cell? ⟨g, 3, none⟩ = some (.int .i64 (m : Int)) := B.cell 3
  clear B
  by_cases h1 : c < 48
  · have h2 : (c : Int) < 48 := by omega
    clear hc
    go_enter Tryz.func107, Tryz.ntmps107
    go_wp2_with fail
    go_ret
    exact ⟨rfl, rfl⟩
  by_cases h2 : 57 < c
  · have h3 : ¬ (c : Int) < 48 := by omega
    have h4 : (57 : Int) < (c : Int) := by omega
    clear hc
    go_enter Tryz.func107, Tryz.ntmps107
    go_wp2_with fail
    go_ret
    exact ⟨rfl, rfl⟩
  · have h3 : ¬ (c : Int) < 48 := by omega
    have h4 : ¬ (57 : Int) < (c : Int) := by omega
    have h5 : (0 : Int) < (m : Int) := by omega
    have h6 : n = 0 := by omega
    subst h6
    clear hc
    go_enter Tryz.func107, Tryz.ntmps107
    go_wp2_with fail
    go_ret
    exact ⟨rfl, rfl⟩
set_option maxRecDepth 100000 in
set_option maxHeartbeats 2000000 in
theorem ptake_digit (g a n m : Nat) (hn : n ≤ 32) (hm : m ≤ 1000000) (s : ByteArray) (at_ : Int) (c d : Nat) (hd : c = 48 + d) (hd9 : d ≤ 9) (h0 : ¬ (0 < m ∧ n = 0)) (w : World) (B : Blk w g 180 (partialC a n true m)) :
    Calls Tryz.prog 107 #[.pointer (some ⟨g, 0, none⟩), .string s, .int .i64 at_, .int .i32 c] w fun e w' => e = .returned (.bool (decide (10 * n + d ≤ 32))) ∧ Blk w' g 180 (partialC a (10 * n + d) true (m + 1)) ∧ Only [g] w w' := by
  have c2 : w.cell? ⟨g, 2, none⟩ = some (.bool true) := B.cell 2
  have c1 : w.cell? ⟨g, 1, none⟩ = some (.int .i64 (n : Int)) := B.cell 1
  have c3 : w.cell? ⟨g, 3, none⟩ = some (.int .i64 (m : Int)) := B.cell 3
  have z1 := B.frozen 1
  have z3 := B.frozen 3
  subst hd
  have h3 : ¬ ((48 + d : Nat) : Int) < 48 := by omega
  have h4 : ¬ (57 : Int) < ((48 + d : Nat) : Int) := by omega
  have h5 : (0 : Int) < (m : Int) → ¬ (n : Int) = 0 := by omega
  have HB := Lib.hid B
  obtain ⟨N, hN⟩ : ∃ N, 10 * n + d = N := ⟨_, rfl⟩
  rw [hN]
  clear B
  go_enter Tryz.func107, Tryz.ntmps107
  by_cases h6 : (0 : Int) < (m : Int)
  · have h7 : ((n : Int) == 0) = false := by rw [beq_eq_false_iff_ne]; exact h5 h6
    clear h5 h0
    go_wp2_with fail
    go_region
    obtain ⟨W3, hW3, B3, O3⟩ : ∃ W3, ((w.setCell ⟨g, 1, none⟩ (.int .i64 ((n : Int) * 10 + (48 + (d : Int) - 48)))).setCell ⟨g, 3, none⟩ (.int .i64 ((m : Int) + 1))).drew = W3 ∧ Blk W3 g 180 (partialC a N true (m + 1)) ∧ Only [g] w W3 :=
      ⟨_, rfl, by
        have h := (HB.out.set_ 1 (.int .i64 ((n : Int) * 10 + (48 + (d : Int) - 48)))).set_ 3 (.int .i64 ((m : Int) + 1))
        have e : (n : Int) * 10 + (48 + (d : Int) - 48) = (N : Int) := by omega
        rw [e] at h ⊢
        exact (show Blk _ g 180 (partialC a N true (m + 1)) by simpa [partialC] using h).drew, (((Only.refl [g] w).setCell (p := ⟨g, 1, none⟩) (.inl (by simp)) _).setCell (p := ⟨g, 3, none⟩) (.inl (by simp)) _).drew⟩
    rw [hW3]
    have d1 : W3.cell? ⟨g, 1, none⟩ = some (.int .i64 (N : Int)) := B3.cell 1
    have HB3 := Lib.hid B3
    have HO3 := Lib.hid O3
    clear hW3 c1 c2 c3 z1 z3 B3 O3
    by_cases h32 : N ≤ 32
    · have h33 : (N : Int) ≤ 32 := by omega
      have H3 := Lib.hid h32
      clear h32
      go_wp2_with fail
      go_ret
      exact ⟨by rw [decide_eq_true H3.out]; rfl, HB3.out, HO3.out⟩
    · have h33 : ¬ (N : Int) ≤ 32 := by omega
      have H3 := Lib.hid h32
      clear h32
      go_wp2_with fail
      go_ret
      exact ⟨by rw [decide_eq_false H3.out]; rfl, HB3.out, HO3.out⟩
  · clear h5 h0
    go_wp2_with fail
    go_region
    obtain ⟨W3, hW3, B3, O3⟩ : ∃ W3, ((w.setCell ⟨g, 1, none⟩ (.int .i64 ((n : Int) * 10 + (48 + (d : Int) - 48)))).setCell ⟨g, 3, none⟩ (.int .i64 ((m : Int) + 1))).drew = W3 ∧ Blk W3 g 180 (partialC a N true (m + 1)) ∧ Only [g] w W3 :=
      ⟨_, rfl, by
        have h := (HB.out.set_ 1 (.int .i64 ((n : Int) * 10 + (48 + (d : Int) - 48)))).set_ 3 (.int .i64 ((m : Int) + 1))
        have e : (n : Int) * 10 + (48 + (d : Int) - 48) = (N : Int) := by omega
        rw [e] at h ⊢
        exact (show Blk _ g 180 (partialC a N true (m + 1)) by simpa [partialC] using h).drew, (((Only.refl [g] w).setCell (p := ⟨g, 1, none⟩) (.inl (by simp)) _).setCell (p := ⟨g, 3, none⟩) (.inl (by simp)) _).drew⟩
    rw [hW3]
    have d1 : W3.cell? ⟨g, 1, none⟩ = some (.int .i64 (N : Int)) := B3.cell 1
    have HB3 := Lib.hid B3
    have HO3 := Lib.hid O3
    clear hW3 c1 c2 c3 z1 z3 B3 O3
    by_cases h32 : N ≤ 32
    · have h33 : (N : Int) ≤ 32 := by omega
      have H3 := Lib.hid h32
      clear h32
      go_wp2_with fail
      go_ret
      exact ⟨by rw [decide_eq_true H3.out]; rfl, HB3.out, HO3.out⟩
    · have h33 : ¬ (N : Int) ≤ 32 := by omega
      have H3 := Lib.hid h32
      clear h32
      go_wp2_with fail
      go_ret
      exact ⟨by rw [decide_eq_false H3.out]; rfl, HB3.out, HO3.out⟩
end Go.Proofs.YtbfimimhgdkpaaaGreatDoor

/- Package prefix: Parse. No condition but the stated bounds. -/
namespace Go.Proofs.YtbfimimhgdkpaaaGreatDoor
open Go.RowKit

theorem numR32_step {l r : List UInt8} {c : UInt8} {n m : Nat} (e : l = c :: r) (h : 48 ≤ c.toNat ∧ c.toNat ≤ 57) (hg : ¬ ((0 < m ∧ n = 0) ∨ 32 < 10 * n + (c.toNat - 48))) : numR 32 n m l = numR 32 (10 * n + (c.toNat - 48)) (m + 1) r := by
  subst e; simp only [numR]; rw [if_pos h, if_neg hg]
theorem numR32_stop {l r : List UInt8} {c : UInt8} {n m : Nat} (e : l = c :: r) (h : ¬ (48 ≤ c.toNat ∧ c.toNat ≤ 57) ∨ ((0 < m ∧ n = 0) ∨ 32 < 10 * n + (c.toNat - 48))) : numR 32 n m l = (n, m) := by
  subst e; simp only [numR]
  by_cases hc : 48 ≤ c.toNat ∧ c.toNat ≤ 57
  · rw [if_pos hc, if_pos (h.resolve_left (by simp [hc]))]
  · rw [if_neg hc]
theorem split_slash {s : ByteArray} {q : Nat} (hq : q < s.size) (h : ∀ i, i < q → byteAt s i ≠ 47) (hx : byteAt s q = 47) : splitB 47 s.data.toList = some (s.data.toList.take q, s.data.toList.drop (q + 1)) := by
  obtain ⟨c, hc, hd⟩ := drop_byte hq
  have hcx : c = 47 := UInt8.toNat.inj (by rw [hc, hx]; rfl)
  have e : s.data.toList = s.data.toList.take q ++ 47 :: s.data.toList.drop (q + 1) := by
    rw [← hcx, ← hd, List.take_append_drop]
  have h2 := seg_ne (s := s) (a := 0) (b := q) (x := 47) (fun i _ hi => h i hi)
  rw [List.drop_zero, Nat.sub_zero] at h2
  have h3 := splitB_at (v := s.data.toList.drop (q + 1)) h2
  rw [← e] at h3
  exact h3
theorem px_none {s : ByteArray} (h : ∀ i, i < s.size → byteAt s i ≠ 47) : pxP s.data.toList = none := by
  have h2 := seg_ne (s := s) (a := 0) (b := s.size) (x := 47) (fun i _ hi => h i hi)
  rw [List.drop_zero, Nat.sub_zero, List.take_of_length_le (by rw [Array.length_toList]; exact Nat.le_refl _)] at h2
  unfold pxP
  rw [splitB_no h2]
/-- Where the slash stands, and what stands ahead of it. -/
structure SlashAt (s : ByteArray) (q a : Nat) : Prop where
  lt : q < s.size
  no : ∀ i, i < q → byteAt s i ≠ 47
  at_ : byteAt s q = 47
  ad : adr (s.data.toList.take q) = some a
theorem px_bad {s : ByteArray} {q : Nat} (hq : q < s.size) (h : ∀ i, i < q → byteAt s i ≠ 47) (hx : byteAt s q = 47) (ha : adr (s.data.toList.take q) = none) : pxP s.data.toList = none := by
  unfold pxP
  rw [split_slash hq h hx]
  simp only
  rw [ha]
theorem px_stop {s : ByteArray} {q a n m : Nat} (h : SlashAt s q a) (hr : numR 32 0 0 (s.data.toList.drop (q + 1)) = (n, m)) (hm : q + 1 + m < s.size) : pxP s.data.toList = none := by
  have hl : s.data.toList.length = s.size := by rw [Array.length_toList]; rfl
  unfold pxP
  rw [split_slash h.lt h.no h.at_]
  simp only
  rw [h.ad]
  simp only
  rw [if_neg]
  rintro ⟨_, h2, _⟩
  rw [hr, List.length_drop, hl] at h2
  simp only at h2
  omega
theorem px_end {s : ByteArray} {q a n m : Nat} (h : SlashAt s q a) (hr : numR 32 0 0 (s.data.toList.drop (q + 1)) = (n, m)) (hm : q + 1 + m = s.size) : pxP s.data.toList = if m = 0 then none else if (PI.mk a (n : Int)).okB = true then some ⟨a, (n : Int)⟩ else none := by
  have hl : s.data.toList.length = s.size := by rw [Array.length_toList]; rfl
  unfold pxP
  rw [split_slash h.lt h.no h.at_]
  simp only
  rw [h.ad]
  simp only
  rw [hr]
  have hlen : (s.data.toList.drop (q + 1)).length = m := by rw [List.length_drop, hl]; omega
  by_cases h0 : m = 0
  · rw [if_pos h0, if_neg]
    rintro ⟨h1, _⟩
    exact h1 (List.length_eq_zero_iff.1 (by rw [hlen, h0]))
  · rw [if_neg h0]
    have h1 : s.data.toList.drop (q + 1) ≠ [] := fun e => h0 (by rw [← hlen, e]; rfl)
    by_cases hk : (PI.mk a (n : Int)).okB = true
    · rw [if_pos hk, if_pos ⟨h1, hlen.symm, hk⟩]
    · rw [if_neg hk, if_neg (fun h => hk h.2.2)]
/-- What Parse tells. -/
def PrefP (s : ByteArray) (w : World) (e : Ending) (w' : World) : Prop :=
  Kp w w' ∧ (∀ p, pxP s.data.toList = some p → e = .returned (.tuple #[.agg #[.int .u32 p.a, .int .i64 p.l], .int .i64 0])) ∧ (pxP s.data.toList = none → e = .returned (.tuple #[.agg #[.int .u32 0, .int .i64 0], .int .i64 120]))
/-- What stands while a text is read. -/
structure PxR (w : World) (s : ByteArray) (pos a n : Nat) (sl : Bool) (m : Nat) (wr : World) : Prop where
  le : pos ≤ s.size
  it : wr.heap[w.heap.size + 1 + 1]? = some (.stringIter s pos)
  b0 : Blk wr w.heap.size 42 #[.int .u32 0, .int .i64 0]
  b1 : Blk wr (w.heap.size + 1) 180 (partialC a n sl m)
  kp : Kp w wr
  st : (sl = false ∧ a = 0 ∧ n = 0 ∧ m = 0 ∧ ∀ i, i < pos → byteAt s i ≠ 47) ∨ (sl = true ∧ n ≤ 32 ∧ ∃ q, SlashAt s q a ∧ pos = q + 1 + m ∧ numR 32 0 0 (s.data.toList.drop (q + 1)) = numR 32 n m (s.data.toList.drop pos))

set_option maxRecDepth 100000 in
set_option maxHeartbeats 4000000 in
theorem pparse_any (s : ByteArray) (hs : s.size ≤ 1000000) (w : World) : Calls Tryz.prog 63 #[.string s] w (PrefP s w) := by
  have R0 : PxR w s 0 0 0 false 0 (((w.alloc (.cells #[.int .u32 0, .int .i64 0] 42)).alloc (.cells #[.int .u32 0, .int .i64 0, .bool false, .int .i64 0] 180)).iter s 0) := by
    refine ⟨by omega, ?_, ?_, ?_, ?_, .inl ⟨rfl, rfl, rfl, rfl, fun i hi => absurd hi (by omega)⟩⟩
    · have h5 := World.iter_heap ((w.alloc (.cells #[.int .u32 0, .int .i64 0] 42)).alloc (.cells #[.int .u32 0, .int .i64 0, .bool false, .int .i64 0] 180)) s 0
      simpa using h5
    · exact ((Blk.new w _ _).alloc _).alloc _
    · exact (Blk.new1 w _ _ _).alloc _
    · exact (((Kp.refl w).alloc _).alloc _).alloc _
  have HR := Lib.hid R0; clear R0
  have hss : s.data.toList.length = s.size := by rw [Array.length_toList]; rfl
  go_enter Tryz.func63, Tryz.ntmps63
  go_wp2_with fail
  refine wp_scope_fwd 0 rfl ?_
  go_wp2_with fail
  go_loopw [5, 6] (fun _ _ wr => ∃ pos a n sl m, Hid (PxR w s pos a n sl m wr)) (fun _ _ wr => s.size - wr.iterPos (w.heap.size + 1 + 1))
  case atStart => exact ⟨0, 0, 0, false, 0, HR⟩
  case round =>
    obtain ⟨pos, a, n, sl, m, R⟩ := hrel
    have hk := R.out.it
    have hle := R.out.le
    have hmu : wr.iterPos (w.heap.size + 1 + 1) = pos := by simp [World.iterPos, hk]
    by_cases hp : pos < s.size
    · have hnext : ∀ ty, (Instr.next (.pointer (some ⟨w.heap.size + 1 + 1, 0, none⟩)) true ty).run Tryz.prog wr = _ := fun ty => Lib.run_next_any_at wr (w.heap.size + 1 + 1) s pos ty hk hp
      have hc := decode_lt s pos
      have hrn := Lib.hid (rune_any s pos hp)
      have h47 := Lib.hid (rune_is s pos hp 47 (by decide))
      obtain ⟨c, mm, hcm⟩ : ∃ c mm, Utf8.decode s pos = (c, mm) := ⟨_, _, rfl⟩
      rw [hcm] at hnext hrn h47 hc
      simp only at hnext hrn h47 hc
      clear hcm
      have hB0 := (R.out.b0).iterAt (k := w.heap.size + 1 + 1) (by omega) s (pos + mm)
      have hB1 := (R.out.b1).iterAt (k := w.heap.size + 1 + 1) (by omega) s (pos + mm)
      have hK1 : Kp w (wr.iterAt (w.heap.size + 1 + 1) s (pos + mm)) := Lib.below_iterAt R.out.kp (by omega) s (pos + mm)
      have hk1 := Lib.iterAt_heap wr (w.heap.size + 1 + 1) s pos (pos + mm) hk
      generalize wr.iterAt (w.heap.size + 1 + 1) s (pos + mm) = W1 at hnext hB0 hB1 hK1 hk1
      have Hst := Lib.hid R.out.st
      have HB0 := Lib.hid hB0
      have HB1 := Lib.hid hB1
      have HK1 := Lib.hid hK1
      have Hk1 := Lib.hid hk1
      clear hk hB0 hB1 hK1 hk1
      rcases Hst.out with ⟨rfl, rfl, rfl, rfl, hno⟩ | ⟨rfl, hn32, q, hsl, hpq, hnr⟩
      · have Hno := Lib.hid hno
        clear hno
        by_cases h7 : c = 47
        · subst h7
          obtain ⟨m1, m2, hm⟩ := h47.out
          have hm1 : mm = 1 ∧ byteAt s pos = 47 := by
            rcases hm with ⟨e, hb⟩ | ⟨e, _⟩
            · injection e with e1 e2
              exact ⟨e2, hb⟩
            · exact absurd rfl e
          obtain ⟨rfl, hb47⟩ := hm1
          have Hb47 := Lib.hid hb47
          clear hm hb47 m1 m2
          go_wp2_with fail
          refine (ptake_slash (w.heap.size + 1) 0 0 0 s hs pos hle W1 HB1.out).mono ?_
          rintro e w2 ⟨O2, h1, h2⟩
          cases ha : adr (s.data.toList.take pos) with
          | some a' =>
            obtain ⟨rfl, B2⟩ := h1 a' ha
            have Hn : Hid (PxR w s (pos + 1) a' 0 true 0 w2) := Lib.hid ⟨by omega, iter_only Hk1.out O2 (by simp), HB0.out.only O2 (by simp), B2, O2.kp HK1.out (by simp), .inr ⟨rfl, by omega, pos, ⟨hp, Hno.out, Hb47.out, ha⟩, by omega, rfl⟩⟩
            have hmu2 : w2.iterPos (w.heap.size + 1 + 1) = pos + 1 := by simp [World.iterPos, Hn.out.it]
            clear h1 h2 B2 O2 ha
            go_wp2_with fail
            go_roundw
            case rel => exact ⟨pos + 1, a', 0, true, 0, Hn⟩
            case measure => rw [hmu, hmu2]; omega
          | none =>
            obtain rfl := h2 ha
            have Hq := Lib.hid (px_bad hp Hno.out Hb47.out ha)
            have B2 := HB0.out.only O2 (by simp)
            have K2 : Kp w w2 := O2.kp HK1.out (by simp)
            clear h1 h2 O2 ha
            have E := (B2.set_ 0 (.int .u32 0)).set_ 1 (.int .i64 0)
            have f0 : ((w2.setCell ⟨w.heap.size, 0, none⟩ (.int .u32 0)).setCell ⟨w.heap.size, 1, none⟩ (.int .i64 0)).cell? ⟨w.heap.size, 0, none⟩ = some (.int .u32 0) := by simpa using E.cell 0
            have f1 : ((w2.setCell ⟨w.heap.size, 0, none⟩ (.int .u32 0)).setCell ⟨w.heap.size, 1, none⟩ (.int .i64 0)).cell? ⟨w.heap.size, 1, none⟩ = some (.int .i64 0) := by simpa using E.cell 1
            have HK3 := Lib.hid ((K2.setCell (p := ⟨w.heap.size, 0, none⟩) (by simp) (.int .u32 0)).setCell (p := ⟨w.heap.size, 1, none⟩) (by simp) (.int .i64 0))
            have y0 : w2.cell? ⟨w.heap.size, 0, none⟩ = some (.int .u32 0) := B2.cell 0
            have y1 : w2.cell? ⟨w.heap.size, 1, none⟩ = some (.int .i64 0) := B2.cell 1
            have g0 := B2.frozen 0
            have g1 := B2.frozen 1
            have Hf0 := Lib.hid f0
            have Hf1 := Lib.hid f1
            clear E B2 K2 f0 f1
            go_wp2_with fail
            go_step3
            refine ⟨rfl, ?_⟩
            go_wp2_with fail
            refine noGoto_ret ?_
            refine bodyPost_ret (v := .tuple #[.agg #[.int .u32 0, .int .i64 0], .int .i64 120]) (by simp [results, Tryz.results63, go_sem, Hf0.out, Hf1.out]) rfl ⟨HK3.out, fun p hp => (by rw [Hq.out] at hp; cases hp), fun _ => rfl⟩
        · have hn47 : ∀ i, i < pos + mm → byteAt s i ≠ 47 := by
            obtain ⟨m1, m2, hm⟩ := h47.out
            intro i hi
            rcases Nat.lt_or_ge i pos with h | h
            · exact Hno.out i h
            · rcases hm with ⟨e, hb⟩ | ⟨_, hb⟩
              · injection e with e1 e2
                exact absurd e1 h7
              · have := hb (i - pos) (by omega)
                rw [show pos + (i - pos) = i by omega] at this
                exact this
          have hmm := h47.out.1
          have hmm2 := h47.out.2.1
          have Hn : Hid (PxR w s (pos + mm) 0 0 false 0 W1) := Lib.hid ⟨by omega, Hk1.out, HB0.out, HB1.out, HK1.out, .inl ⟨rfl, rfl, rfl, rfl, hn47⟩⟩
          have hmu2 : W1.iterPos (w.heap.size + 1 + 1) = pos + mm := by simp [World.iterPos, Hn.out.it]
          have H7 := Lib.hid h7
          clear hn47 h7
          go_wp2_with fail
          refine (ptake_pass (w.heap.size + 1) 0 0 0 s pos c H7.out (by omega) W1 HB1.out).mono ?_
          rintro e w2 ⟨rfl, rfl⟩
          go_wp2_with fail
          go_roundw
          case rel => exact ⟨pos + mm, 0, 0, false, 0, Hn⟩
          case measure => rw [hmu, hmu2]; omega
      · have Hsl := Lib.hid hsl
        have Hnr := Lib.hid hnr
        obtain ⟨ub, hub, hdr⟩ := drop_byte hp
        have Hdr := Lib.hid hdr
        have hm6 : m ≤ 1000000 := by omega
        have Hpq := Lib.hid hpq
        clear hsl hnr hdr hpq
        by_cases hbad : ¬ (48 ≤ c ∧ c ≤ 57) ∨ (0 < m ∧ n = 0)
        · have Hq : Hid (pxP s.data.toList = none) := Lib.hid (by
            obtain ⟨m1, m2, hm⟩ := hrn.out
            refine px_stop Hsl.out (n := n) (m := m) ?_ (by have := Hpq.out; omega)
            rw [Hnr.out]
            refine numR32_stop Hdr.out ?_
            rw [hub]
            rcases hm with hm | hm
            · have : c = byteAt s pos := by have := hm.2; injection this
              rw [← this]
              rcases hbad with hb | hb
              · exact .inl hb
              · exact .inr (.inl hb)
            · have := hm.2 0 (by omega)
              rw [Nat.add_zero] at this
              exact .inl (by omega))
          have Hbad := Lib.hid hbad
          have B2 := HB0.out
          have K2 := HK1.out
          clear hbad
          go_wp2_with fail
          refine (ptake_bad (w.heap.size + 1) a n m s pos c Hbad.out (by omega) W1 HB1.out).mono ?_
          rintro e w2 ⟨rfl, rfl⟩
          have E := (B2.set_ 0 (.int .u32 0)).set_ 1 (.int .i64 0)
          have f0 : ((W1.setCell ⟨w.heap.size, 0, none⟩ (.int .u32 0)).setCell ⟨w.heap.size, 1, none⟩ (.int .i64 0)).cell? ⟨w.heap.size, 0, none⟩ = some (.int .u32 0) := by simpa using E.cell 0
          have f1 : ((W1.setCell ⟨w.heap.size, 0, none⟩ (.int .u32 0)).setCell ⟨w.heap.size, 1, none⟩ (.int .i64 0)).cell? ⟨w.heap.size, 1, none⟩ = some (.int .i64 0) := by simpa using E.cell 1
          have HK3 := Lib.hid ((K2.setCell (p := ⟨w.heap.size, 0, none⟩) (by simp) (.int .u32 0)).setCell (p := ⟨w.heap.size, 1, none⟩) (by simp) (.int .i64 0))
          have y0 : W1.cell? ⟨w.heap.size, 0, none⟩ = some (.int .u32 0) := B2.cell 0
          have y1 : W1.cell? ⟨w.heap.size, 1, none⟩ = some (.int .i64 0) := B2.cell 1
          have g0 := B2.frozen 0
          have g1 := B2.frozen 1
          have Hf0 := Lib.hid f0
          have Hf1 := Lib.hid f1
          clear E B2 K2 f0 f1
          go_wp2_with fail
          go_step3
          refine ⟨rfl, ?_⟩
          go_wp2_with fail
          refine noGoto_ret ?_
          refine bodyPost_ret (v := .tuple #[.agg #[.int .u32 0, .int .i64 0], .int .i64 120]) (by simp [results, Tryz.results63, go_sem, Hf0.out, Hf1.out]) rfl ⟨HK3.out, fun p hp => (by rw [Hq.out] at hp; cases hp), fun _ => rfl⟩
        · have hb2 : (48 ≤ c ∧ c ≤ 57) ∧ ¬ (0 < m ∧ n = 0) := by
            refine ⟨Classical.byContradiction fun h => hbad (.inl h), fun h => hbad (.inr h)⟩
          obtain ⟨hcd, h0⟩ := hb2
          obtain ⟨d, hd⟩ : ∃ d, c = 48 + d := ⟨c - 48, by omega⟩
          have hd9 : d ≤ 9 := by omega
          have hone : mm = 1 ∧ byteAt s pos = c := by
            obtain ⟨m1, m2, hm⟩ := hrn.out
            rcases hm with hm | hm
            · have := hm.2
              injection this with e1 e2
              exact ⟨e2, e1.symm⟩
            · have := hm.1
              omega
          obtain ⟨rfl, hbc⟩ := hone
          have hubc : ub.toNat = 48 + d := by rw [hub, hbc, hd]
          have Hd := Lib.hid hd
          have H0 := Lib.hid h0
          clear hbad h0 hub hbc hd
          go_wp2_with fail
          refine (ptake_digit (w.heap.size + 1) a n m hn32 hm6 s pos c d Hd.out hd9 H0.out W1 HB1.out).mono ?_
          rintro e w2 ⟨rfl, B3, O3⟩
          have B2 := HB0.out.only O3 (by simp)
          have K2 : Kp w w2 := O3.kp HK1.out (by simp)
          by_cases h32 : 10 * n + d ≤ 32
          · have hst : numR 32 n m (s.data.toList.drop pos) = numR 32 (10 * n + d) (m + 1) (s.data.toList.drop (pos + 1)) := by
              have := numR32_step Hdr.out (n := n) (m := m) (by rw [hubc]; omega) (by rw [hubc]; have := H0.out; omega)
              rw [this, hubc]
              congr 1
              omega
            have Hn : Hid (PxR w s (pos + 1) a (10 * n + d) true (m + 1) w2) := Lib.hid ⟨by omega, iter_only Hk1.out O3 (by simp), B2, B3, K2, .inr ⟨rfl, h32, q, Hsl.out, by have := Hpq.out; omega, by rw [Hnr.out, hst]⟩⟩
            have hmu2 : w2.iterPos (w.heap.size + 1 + 1) = pos + 1 := by simp [World.iterPos, Hn.out.it]
            rw [decide_eq_true h32]
            clear hst B3 O3 B2 K2
            go_wp2_with fail
            go_roundw
            case rel => exact ⟨pos + 1, a, _, true, _, Hn⟩
            case measure => rw [hmu, hmu2]; omega
          · have Hq := Lib.hid (show pxP s.data.toList = none from px_stop Hsl.out (n := n) (m := m) (by
              rw [Hnr.out]
              exact numR32_stop Hdr.out (.inr (.inr (by rw [hubc]; omega)))) (by have := Hpq.out; omega))
            rw [decide_eq_false h32]
            clear h32 B3 O3
            have E := (B2.set_ 0 (.int .u32 0)).set_ 1 (.int .i64 0)
            have f0 : ((w2.setCell ⟨w.heap.size, 0, none⟩ (.int .u32 0)).setCell ⟨w.heap.size, 1, none⟩ (.int .i64 0)).cell? ⟨w.heap.size, 0, none⟩ = some (.int .u32 0) := by simpa using E.cell 0
            have f1 : ((w2.setCell ⟨w.heap.size, 0, none⟩ (.int .u32 0)).setCell ⟨w.heap.size, 1, none⟩ (.int .i64 0)).cell? ⟨w.heap.size, 1, none⟩ = some (.int .i64 0) := by simpa using E.cell 1
            have HK3 := Lib.hid ((K2.setCell (p := ⟨w.heap.size, 0, none⟩) (by simp) (.int .u32 0)).setCell (p := ⟨w.heap.size, 1, none⟩) (by simp) (.int .i64 0))
            have y0 : w2.cell? ⟨w.heap.size, 0, none⟩ = some (.int .u32 0) := B2.cell 0
            have y1 : w2.cell? ⟨w.heap.size, 1, none⟩ = some (.int .i64 0) := B2.cell 1
            have g0 := B2.frozen 0
            have g1 := B2.frozen 1
            have Hf0 := Lib.hid f0
            have Hf1 := Lib.hid f1
            clear E B2 K2 f0 f1
            go_wp2_with fail
            go_step3
            refine ⟨rfl, ?_⟩
            go_wp2_with fail
            refine noGoto_ret ?_
            refine bodyPost_ret (v := .tuple #[.agg #[.int .u32 0, .int .i64 0], .int .i64 120]) (by simp [results, Tryz.results63, go_sem, Hf0.out, Hf1.out]) rfl ⟨HK3.out, fun p hp => (by rw [Hq.out] at hp; cases hp), fun _ => rfl⟩
    · have hnext : ∀ ty, (Instr.next (.pointer (some ⟨w.heap.size + 1 + 1, 0, none⟩)) true ty).run Tryz.prog wr = _ := fun ty => Lib.run_next_end_at wr (w.heap.size + 1 + 1) s pos ty hk hp
      have hps : pos = s.size := by omega
      have B2 := R.out.b0
      have B1 := R.out.b1
      have K2 := R.out.kp
      have c3 : wr.cell? ⟨w.heap.size + 1, 3, none⟩ = some (.int .i64 (m : Int)) := B1.cell 3
      have c0 : wr.cell? ⟨w.heap.size + 1, 0, none⟩ = some (.int .u32 (a : Int)) := B1.cell 0
      have c1 : wr.cell? ⟨w.heap.size + 1, 1, none⟩ = some (.int .i64 (n : Int)) := B1.cell 1
      have hq : pxP s.data.toList = if m = 0 then none else if (PI.mk a (n : Int)).okB = true then some ⟨a, (n : Int)⟩ else none := by
        rcases R.out.st with ⟨_, _, _, hm0, hno⟩ | ⟨_, _, q, hsl, hpq, hnr⟩
        · rw [px_none (by rw [← hps]; exact hno), if_pos hm0]
        · refine px_end hsl ?_ (by omega)
          rw [hnr, List.drop_eq_nil_of_le (by rw [hss]; omega)]
          rfl
      have hrng : a < 4294967296 := by
        rcases R.out.st with ⟨_, h, _⟩ | ⟨_, _, q, hsl, _⟩
        · omega
        · exact (adr_sound hsl.ad).1
      clear hk
      by_cases h0 : m = 0
      · have Hq := Lib.hid (show pxP s.data.toList = none by rw [hq, if_pos h0])
        subst h0
        clear hq c0 c1
        have E := (B2.set_ 0 (.int .u32 0)).set_ 1 (.int .i64 0)
        have f0 : ((wr.setCell ⟨w.heap.size, 0, none⟩ (.int .u32 0)).setCell ⟨w.heap.size, 1, none⟩ (.int .i64 0)).cell? ⟨w.heap.size, 0, none⟩ = some (.int .u32 0) := by simpa using E.cell 0
        have f1 : ((wr.setCell ⟨w.heap.size, 0, none⟩ (.int .u32 0)).setCell ⟨w.heap.size, 1, none⟩ (.int .i64 0)).cell? ⟨w.heap.size, 1, none⟩ = some (.int .i64 0) := by simpa using E.cell 1
        have HK3 := Lib.hid ((K2.setCell (p := ⟨w.heap.size, 0, none⟩) (by simp) (.int .u32 0)).setCell (p := ⟨w.heap.size, 1, none⟩) (by simp) (.int .i64 0))
        have y0 : wr.cell? ⟨w.heap.size, 0, none⟩ = some (.int .u32 0) := B2.cell 0
        have y1 : wr.cell? ⟨w.heap.size, 1, none⟩ = some (.int .i64 0) := B2.cell 1
        have g0 := B2.frozen 0
        have g1 := B2.frozen 1
        have Hf0 := Lib.hid f0
        have Hf1 := Lib.hid f1
        clear E B2 K2 f0 f1
        go_wp2_with fail
        go_step3
        refine ⟨rfl, ?_⟩
        go_wp2_with fail
        refine noGoto_ret ?_
        refine bodyPost_ret (v := .tuple #[.agg #[.int .u32 0, .int .i64 0], .int .i64 120]) (by simp [results, Tryz.results63, go_sem, Hf0.out, Hf1.out]) rfl ⟨HK3.out, fun p hp => (by rw [Hq.out] at hp; cases hp), fun _ => rfl⟩
      · have hm0 : ((m : Int) == 0) = false := by rw [beq_eq_false_iff_ne]; omega
        have hrd : Rd (wr.alloc (.cells #[.int .u32 (a : Int), .int .i64 (n : Int)] 42)) 2 PI.enc (some ⟨wr.heap.size, 0, none⟩) [⟨a, (n : Int)⟩] := Rd.of_blk (Blk.new wr _ _) (by omega) PI.len (by unfold maxLen; simp) rfl
        have HBA := Lib.hid (B2.alloc (.cells #[.int .u32 (a : Int), .int .i64 (n : Int)] 42))
        have HBP := Lib.hid (B1.alloc (.cells #[.int .u32 (a : Int), .int .i64 (n : Int)] 42))
        have HKA := Lib.hid (K2.alloc (.cells #[.int .u32 (a : Int), .int .i64 (n : Int)] 42))
        have Hrd := Lib.hid hrd
        have HQ := Lib.hid hq
        have H0 := Lib.hid h0
        clear hrd hq h0 B2 B1 K2
        go_wp2_with fail
        refine (mayBe_any _ 1 [⟨a, (n : Int)⟩] _ Hrd.out (by simp) (fun k hk => by simp at hk; subst hk; exact hrng)).mono ?_
        rintro e w2 ⟨rfl, hK2⟩
        rw [show [(PI.mk a (n : Int))].all PI.okB = (PI.mk a (n : Int)).okB by simp]
        have B2 := HBA.out.keep hK2
        have B1 := HBP.out.keep hK2
        have K2 := HKA.out.trans hK2
        have d0 : w2.cell? ⟨w.heap.size + 1, 0, none⟩ = some (.int .u32 (a : Int)) := B1.cell 0
        have d1 : w2.cell? ⟨w.heap.size + 1, 1, none⟩ = some (.int .i64 (n : Int)) := B1.cell 1
        clear c0 c1 c3 hK2
        cases hok : (PI.mk a (n : Int)).okB with
        | false =>
          have Hq := Lib.hid (show pxP s.data.toList = none by rw [HQ.out, if_neg H0.out, if_neg (by rw [hok]; simp)])
          clear d0 d1 hok
          have E := (B2.set_ 0 (.int .u32 0)).set_ 1 (.int .i64 0)
          have f0 : ((w2.setCell ⟨w.heap.size, 0, none⟩ (.int .u32 0)).setCell ⟨w.heap.size, 1, none⟩ (.int .i64 0)).cell? ⟨w.heap.size, 0, none⟩ = some (.int .u32 0) := by simpa using E.cell 0
          have f1 : ((w2.setCell ⟨w.heap.size, 0, none⟩ (.int .u32 0)).setCell ⟨w.heap.size, 1, none⟩ (.int .i64 0)).cell? ⟨w.heap.size, 1, none⟩ = some (.int .i64 0) := by simpa using E.cell 1
          have HK3 := Lib.hid ((K2.setCell (p := ⟨w.heap.size, 0, none⟩) (by simp) (.int .u32 0)).setCell (p := ⟨w.heap.size, 1, none⟩) (by simp) (.int .i64 0))
          have y0 : w2.cell? ⟨w.heap.size, 0, none⟩ = some (.int .u32 0) := B2.cell 0
          have y1 : w2.cell? ⟨w.heap.size, 1, none⟩ = some (.int .i64 0) := B2.cell 1
          have g0 := B2.frozen 0
          have g1 := B2.frozen 1
          have Hf0 := Lib.hid f0
          have Hf1 := Lib.hid f1
          clear E B2 K2 f0 f1
          go_wp2_with fail
          go_step3
          refine ⟨rfl, ?_⟩
          go_wp2_with fail
          refine noGoto_ret ?_
          refine bodyPost_ret (v := .tuple #[.agg #[.int .u32 0, .int .i64 0], .int .i64 120]) (by simp [results, Tryz.results63, go_sem, Hf0.out, Hf1.out]) rfl ⟨HK3.out, fun p hp => (by rw [Hq.out] at hp; cases hp), fun _ => rfl⟩
        | true =>
          have Hq := Lib.hid (show pxP s.data.toList = some ⟨a, (n : Int)⟩ by rw [HQ.out, if_neg H0.out, if_pos hok])
          have E := (B2.set_ 0 (.int .u32 (a : Int))).set_ 1 (.int .i64 (n : Int))
          have f0 : ((w2.setCell ⟨w.heap.size, 0, none⟩ (.int .u32 (a : Int))).setCell ⟨w.heap.size, 1, none⟩ (.int .i64 (n : Int))).cell? ⟨w.heap.size, 0, none⟩ = some (.int .u32 (a : Int)) := by simpa using E.cell 0
          have f1 : ((w2.setCell ⟨w.heap.size, 0, none⟩ (.int .u32 (a : Int))).setCell ⟨w.heap.size, 1, none⟩ (.int .i64 (n : Int))).cell? ⟨w.heap.size, 1, none⟩ = some (.int .i64 (n : Int)) := by simpa using E.cell 1
          have HK3 := Lib.hid ((K2.setCell (p := ⟨w.heap.size, 0, none⟩) (by simp) (.int .u32 (a : Int))).setCell (p := ⟨w.heap.size, 1, none⟩) (by simp) (.int .i64 (n : Int)))
          have y0 : w2.cell? ⟨w.heap.size, 0, none⟩ = some (.int .u32 0) := B2.cell 0
          have y1 : w2.cell? ⟨w.heap.size, 1, none⟩ = some (.int .i64 0) := B2.cell 1
          have g0 := B2.frozen 0
          have g1 := B2.frozen 1
          have hlt := B2.lt
          have Hf0 := Lib.hid f0
          have Hf1 := Lib.hid f1
          clear E B2 K2 hok f0 f1
          go_wp2_with fail
          refine jump_ret ?_
          refine bodyPost_ret (v := .tuple #[.agg #[.int .u32 (a : Int), .int .i64 (n : Int)], .int .i64 0]) (by simp [results, Tryz.results63, go_sem, Hf0.out, Hf1.out]) rfl ⟨HK3.out, fun p hp => (by rw [Hq.out] at hp; injection hp with hp; subst hp; rfl), fun h => (by rw [Hq.out] at h; cases h)⟩
end Go.Proofs.YtbfimimhgdkpaaaGreatDoor

/- Package view: what Parse does at a fault; a route in memory. No condition. -/
namespace Go.Proofs.YtbfimimhgdkpaaaGreatDoor
open Go.RowKit

/-- A route's cells. -/
def rtA (r : Rt) : Array Value := #[.int .u32 (r.p.a : Int), .int .i64 r.p.l, .int .i64 r.s, .int .i64 r.m, .int .i64 r.l, .int .i64 r.f, .int .u32 (r.x : Int), .int .i64 r.d, .bool r.c]
/-- A route as a value. -/
abbrev rtV (r : Rt) : Value := .agg #[.int .u32 (r.p.a : Int), .int .i64 r.p.l, .int .i64 r.s, .int .i64 r.m, .int .i64 r.l, .int .i64 r.f, .int .u32 (r.x : Int), .int .i64 r.d, .bool r.c]
def rtZ : Rt := ⟨⟨0, 0⟩, 0, 0, 0, 0, 0, 0, false⟩
/-- A route is stored, cell by cell. -/
def rtSet (w : World) (g : Nat) (r : Rt) : World := ((((((((w.setCell ⟨g, 0, none⟩ (.int .u32 (r.p.a : Int))).setCell ⟨g, 1, none⟩ (.int .i64 r.p.l)).setCell ⟨g, 2, none⟩ (.int .i64 r.s)).setCell ⟨g, 3, none⟩ (.int .i64 r.m)).setCell ⟨g, 4, none⟩ (.int .i64 r.l)).setCell ⟨g, 5, none⟩ (.int .i64 r.f)).setCell ⟨g, 6, none⟩ (.int .u32 (r.x : Int))).setCell ⟨g, 7, none⟩ (.int .i64 r.d)).setCell ⟨g, 8, none⟩ (.bool r.c)
theorem Blk.putRt {w : World} {g : Nat} {T : TypeId} {r0 : Rt} (h : Blk w g T (rtA r0)) (r : Rt) : Blk (rtSet w g r) g T (rtA r) := by
  have H := (((((((((h.set_ 0 (.int .u32 (r.p.a : Int))).set_ 1 (.int .i64 r.p.l)).set_ 2 (.int .i64 r.s)).set_ 3 (.int .i64 r.m)).set_ 4 (.int .i64 r.l)).set_ 5 (.int .i64 r.f)).set_ 6 (.int .u32 (r.x : Int))).set_ 7 (.int .i64 r.d)).set_ 8 (.bool r.c))
  simp only [rtA, List.setIfInBounds_toArray, List.set_cons_zero, List.set_cons_succ] at H
  exact H
theorem Blk.putRt_far {w : World} {g p : Nat} {T : TypeId} {cs : Array Value} (h : Blk w g T cs) (hg : g ≠ p) (r : Rt) : Blk (rtSet w p r) g T cs :=
  (((((((((h.far (p := ⟨p, 0, none⟩) hg (.int .u32 (r.p.a : Int))).far (p := ⟨p, 1, none⟩) hg (.int .i64 r.p.l)).far (p := ⟨p, 2, none⟩) hg (.int .i64 r.s)).far (p := ⟨p, 3, none⟩) hg (.int .i64 r.m)).far (p := ⟨p, 4, none⟩) hg (.int .i64 r.l)).far (p := ⟨p, 5, none⟩) hg (.int .i64 r.f)).far (p := ⟨p, 6, none⟩) hg (.int .u32 (r.x : Int))).far (p := ⟨p, 7, none⟩) hg (.int .i64 r.d)).far (p := ⟨p, 8, none⟩) hg (.bool r.c))
theorem Only.putRt {bs : List Nat} {a w : World} (h : Only bs a w) {g : Nat} (hg : g ∈ bs ∨ a.heap.size ≤ g) (r : Rt) : Only bs a (rtSet w g r) :=
  (((((((((h.setCell (p := ⟨g, 0, none⟩) hg (.int .u32 (r.p.a : Int))).setCell (p := ⟨g, 1, none⟩) hg (.int .i64 r.p.l)).setCell (p := ⟨g, 2, none⟩) hg (.int .i64 r.s)).setCell (p := ⟨g, 3, none⟩) hg (.int .i64 r.m)).setCell (p := ⟨g, 4, none⟩) hg (.int .i64 r.l)).setCell (p := ⟨g, 5, none⟩) hg (.int .i64 r.f)).setCell (p := ⟨g, 6, none⟩) hg (.int .u32 (r.x : Int))).setCell (p := ⟨g, 7, none⟩) hg (.int .i64 r.d)).setCell (p := ⟨g, 8, none⟩) hg (.bool r.c))
theorem vta_yes (e : Int) (w : World) : (Instr.typeAssert (faultVw e) 20 115 true).run Tryz.prog w = .ok (.tuple #[.agg #[.int .i64 e], .bool true]) w := by kernel_rfl
theorem vta_nil (w : World) : (Instr.typeAssert .nilIface 20 115 true).run Tryz.prog w = .ok (.tuple #[.agg #[.int .i64 0], .bool false]) w := by kernel_rfl
def upV (e : Int) : FrameMode := .panicking [{ v := faultVw e, recovered := false }]
def caughtV (e : Int) : FrameMode := .panicking [{ v := faultVw e, recovered := true }]
theorem recM_upV (e : Int) : recM (upV e) = (faultVw e, caughtV e) := rfl
set_option maxRecDepth 100000 in
set_option maxHeartbeats 2000000 in
theorem catch_view (p0 p1 : Nat) (y : Value) (t0 : Rt) (e : Int) (w : World) (h0 : Blk w p0 45 (rtA t0)) (h1 : Blk w p1 29 #[y]) (n01 : ¬ p0 = p1) :
    CallsD Tryz.prog 61 #[.pointer (some ⟨p0, 0, none⟩), .pointer (some ⟨p1, 0, none⟩)] (upV e) w fun en u' w' =>
      en = .returned (.tuple #[]) ∧ u' = caughtV e ∧ Blk w' p0 45 (rtA rtZ) ∧ Blk w' p1 29 #[.int .i64 e] ∧ Only [p0, p1] w w' := by
  have c0 : w.cell? ⟨p0, 0, none⟩ = some (.int .u32 (t0.p.a : Int)) := h0.cell 0
  have c1 : w.cell? ⟨p0, 1, none⟩ = some (.int .i64 t0.p.l) := h0.cell 1
  have c2 : w.cell? ⟨p0, 2, none⟩ = some (.int .i64 t0.s) := h0.cell 2
  have c3 : w.cell? ⟨p0, 3, none⟩ = some (.int .i64 t0.m) := h0.cell 3
  have c4 : w.cell? ⟨p0, 4, none⟩ = some (.int .i64 t0.l) := h0.cell 4
  have c5 : w.cell? ⟨p0, 5, none⟩ = some (.int .i64 t0.f) := h0.cell 5
  have c6 : w.cell? ⟨p0, 6, none⟩ = some (.int .u32 (t0.x : Int)) := h0.cell 6
  have c7 : w.cell? ⟨p0, 7, none⟩ = some (.int .i64 t0.d) := h0.cell 7
  have c8 : w.cell? ⟨p0, 8, none⟩ = some (.bool t0.c) := h0.cell 8
  have d0 : w.cell? ⟨p1, 0, none⟩ = some y := h1.cell 0
  have z0 := h0.frozen 0
  have z1 := h0.frozen 1
  have z2 := h0.frozen 2
  have z3 := h0.frozen 3
  have z4 := h0.frozen 4
  have z5 := h0.frozen 5
  have z6 := h0.frozen 6
  have z7 := h0.frozen 7
  have z8 := h0.frozen 8
  have zd := h1.frozen 0
  have n10 : ¬ p1 = p0 := fun h => n01 h.symm
  have hlt0 := h0.lt
  have hlt1 := h1.lt
  have m0 : ¬ p0 = w.heap.size := by omega
  have m1 : ¬ p1 = w.heap.size := by omega
  have hty := vta_yes
  refine callsD_rec _ _ (recM_upV e) Tryz.func61 rfl rfl rfl ?_
  simp only [Tryz.ntmps61, Act.put, List.size_toArray, List.length_cons, List.length_nil, Nat.reduceAdd, Nat.reduceSub, Array.replicate_succ, Array.replicate_zero, List.push_toArray, List.append_toArray, List.nil_append, List.cons_append]
  go_wp2_with fail
  go_region
  all_goals (try go_wp2_with fail)
  all_goals go_end0
  all_goals refine ⟨rfl, trivial, ?_⟩
  · have hW := ((h0.putRt rtZ).far (p := ⟨p1, 0, none⟩) n01 (.int .i64 e))
    have hV := ((h1.putRt_far n10 rtZ).set_ 0 (.int .i64 e))
    have hO := ((Only.refl [p0, p1] w).putRt (.inl (by simp)) rtZ (g := p0)).setCell (p := ⟨p1, 0, none⟩) (.inl (by simp)) (.int .i64 e)
    exact ⟨(hW.alloc _).drew, (hV.alloc _).drew, (hO.alloc _).drew⟩
set_option maxRecDepth 100000 in
set_option maxHeartbeats 400000 in
theorem idle_view (p0 p1 : Value) (w : World) :
    CallsD Tryz.prog 61 #[p0, p1] .returning w fun en u' w' => en = .returned (.tuple #[]) ∧ u' = .returning ∧ Kp w w' := by
  have hty := vta_nil
  refine callsD_rec _ _ recM_ret Tryz.func61 rfl rfl rfl ?_
  simp only [Tryz.ntmps61, Act.put, List.size_toArray, List.length_cons, List.length_nil, Nat.reduceAdd, Nat.reduceSub, Array.replicate_succ, Array.replicate_zero, List.push_toArray, List.append_toArray, List.nil_append, List.cons_append]
  go_wp2_with fail
  go_end0
  exact ⟨rfl, trivial, (Kp.refl w).alloc _⟩
end Go.Proofs.YtbfimimhgdkpaaaGreatDoor

/- The reference of layer 25: a route's line. No condition but the library's variables and what the types hold. -/
namespace Go.Proofs.YtbfimimhgdkpaaaGreatDoor
open Go.RowKit
attribute [local go_sem] Oper.semAt_some
/-- What the types hold of a route. -/
structure RtOk (r : Rt) : Prop where
  a1 : r.p.a < 4294967296
  l0 : -9223372036854775808 ≤ r.p.l
  l1 : r.p.l ≤ 9223372036854775807
  s0 : -9223372036854775808 ≤ r.s
  s1 : r.s ≤ 9223372036854775807
  m0 : -9223372036854775808 ≤ r.m
  m1 : r.m ≤ 9223372036854775807
  t0 : -9223372036854775808 ≤ r.l
  t1 : r.l ≤ 9223372036854775807
  f0 : -9223372036854775808 ≤ r.f
  f1 : r.f ≤ 9223372036854775807
  x1 : r.x < 4294967296
  d0 : -9223372036854775808 ≤ r.d
  d1 : r.d ≤ 9223372036854775807
theorem namV_short (k : Nat) : (namV k).length ≤ 7 := by
  rcases k with _ | _ | _ | _ | _ | k
  all_goals first | decide | (simp [namV])
theorem line_parts {r : Rt} (h : lineB r = true) : rightB r = true ∧ 1 ≤ r.s ∧ r.s ≤ 4 := by
  unfold lineB at h
  rw [Bool.and_eq_true, decide_eq_true_eq] at h
  obtain ⟨h1, h2⟩ := h
  refine ⟨h1, by omega, ?_⟩
  obtain ⟨_, h3⟩ := right_parts h1 (by omega)
  omega
set_option maxRecDepth 100000 in
set_option maxHeartbeats 4000000 in
theorem rtext25_any (r : Rt) (w : World) (L : LibOk w) (ok : RtOk r) (h1 : 1 ≤ r.s) (h4 : r.s ≤ 4) :
    Calls Tryz.prog 24 #[.agg #[.int .u32 r.p.a, .int .i64 r.p.l, .int .i64 r.s, .int .i64 r.m, .int .i64 r.l, .int .i64 r.f, .int .u32 r.x, .int .i64 r.d, .bool r.c]] w fun e w' => e = .returned (.string (strB (textR r))) ∧ Kp w w' := by
  obtain ⟨W, hW, kW, BW⟩ : ∃ W, w.alloc (.cells #[.int .u32 r.p.a, .int .i64 r.p.l, .int .i64 r.s, .int .i64 r.m, .int .i64 r.l, .int .i64 r.f, .int .u32 r.x, .int .i64 r.d, .bool r.c] 45) = W ∧ Kp w W ∧ Blk W w.heap.size 45 (rtA r) := ⟨_, rfl, (Kp.refl _).alloc _, Blk.new w _ _⟩
  have LW := L.keep kW
  have Hl := Lib.hid ok
  obtain ⟨SP, eP⟩ : ∃ S, strB (textP r.p) = S := ⟨_, rfl⟩
  obtain ⟨SN, eN⟩ : ∃ S, strB (namV r.s.toNat) = S := ⟨_, rfl⟩
  obtain ⟨SM, eM⟩ : ∃ S, strB (Lib.itoa r.m) = S := ⟨_, rfl⟩
  obtain ⟨SL, eL⟩ : ∃ S, strB (Lib.itoa r.l) = S := ⟨_, rfl⟩
  obtain ⟨SF, eF⟩ : ∃ S, strB (Lib.itoa r.f) = S := ⟨_, rfl⟩
  obtain ⟨SX, eX⟩ : ∃ S, strB (textA r.x) = S := ⟨_, rfl⟩
  obtain ⟨SD, eD⟩ : ∃ S, strB (Lib.itoa r.d) = S := ⟨_, rfl⟩
  have zP : SP.size ≤ 201 := by rw [← eP, sz_strB]; exact textP_short ok.a1 ok.l0 ok.l1
  have zN : SN.size ≤ 7 := by rw [← eN, sz_strB]; exact namV_short _
  have zM : SM.size ≤ 100 := by rw [← eM, sz_strB]; exact itoa_short ok.m0 ok.m1
  have zL : SL.size ≤ 100 := by rw [← eL, sz_strB]; exact itoa_short ok.t0 ok.t1
  have zF : SF.size ≤ 100 := by rw [← eF, sz_strB]; exact itoa_short ok.f0 ok.f1
  have zX : SX.size ≤ 100 := by rw [← eX, sz_strB]; exact textA_short ok.x1
  have zD : SD.size ≤ 100 := by rw [← eD, sz_strB]; exact itoa_short ok.d0 ok.d1
  have hx : ∀ w, (Instr.index 125 rnamesV (.int .i64 (r.s - 1))).run Tryz.prog w = .ok (.string SN) w := by
    intro w
    have := rname25_idx r.s.toNat (by omega) (by omega) w
    rw [show ((r.s.toNat : Nat) : Int) = r.s by omega, eN] at this
    exact this
  have hs1 : IntKind.i64.wrap (r.s - 1) = r.s - 1 := IntWalk.i64_in _ (by omega)
  obtain ⟨t1, f1, q1, y1⟩ := add_fact zP (show (⟨#[32]⟩ : ByteArray).size ≤ 1 by decide) (by omega)
  obtain ⟨t2, f2, q2, y2⟩ := add_fact y1 zN (by omega)
  obtain ⟨t3, f3, q3, y3⟩ := add_fact y2 (show (⟨#[32]⟩ : ByteArray).size ≤ 1 by decide) (by omega)
  obtain ⟨t4, f4, q4, y4⟩ := add_fact y3 zM (by omega)
  have F4 : Hid (t4 = strB (textP r.p ++ 32 :: namV r.s.toNat ++ 32 :: Lib.itoa r.m)) := by
    refine Lib.hid ?_
    rw [f4, f3, f2, f1, ← eP, ← eN, ← eM, show (⟨#[32]⟩ : ByteArray) = strB [32] from rfl]
    simp only [strB_app]
    simp
  have EP := Lib.hid eP; have EN := Lib.hid eN; have EM := Lib.hid eM; have EL := Lib.hid eL; have EF := Lib.hid eF; have EX := Lib.hid eX; have ED := Lib.hid eD
  have Y4 := Lib.hid y4
  have ZL := Lib.hid zL; have ZF := Lib.hid zF; have ZX := Lib.hid zX; have ZD := Lib.hid zD
  clear eP eN eM eL eF eX eD f1 f2 f3 f4 y1 y2 y3 y4 zP zN zM zL zF zX zD
  have H1 := Lib.hid h1
  have H4 := Lib.hid h4
  clear h1 h4
  have K : Kp W W.drew := (Kp.refl W).drew
  have c0 : W.cell? ⟨w.heap.size, 0, none⟩ = some (.int .u32 (r.p.a : Int)) := BW.cell 0
  have c1 : W.cell? ⟨w.heap.size, 1, none⟩ = some (.int .i64 r.p.l) := BW.cell 1
  have c2 : W.cell? ⟨w.heap.size, 2, none⟩ = some (.int .i64 r.s) := BW.cell 2
  have c3 : W.cell? ⟨w.heap.size, 3, none⟩ = some (.int .i64 r.m) := BW.cell 3
  go_enter Tryz.func24, Tryz.ntmps24
  go_wp2_with fail
  try rw [hW]
  clear hW
  go_upto_region 2 with (fail)
  go_cut [4] from 7 (fun s4 wx => s4 = .string t4 ∧ Kp W wx)
  case first =>
    go_region_held3 (fun w' => w'.cell? ⟨w.heap.size, 0, none⟩ = some (.int .u32 (r.p.a : Int)) ∧ w'.cell? ⟨w.heap.size, 1, none⟩ = some (.int .i64 r.p.l) ∧ w'.cell? ⟨w.heap.size, 3, none⟩ = some (.int .i64 r.m))
      (first | exact ⟨K.cell c0, K.cell c1, K.cell c3⟩ | exact K.cell c0 | go_keep)
      (first
        | (go_at_call 70; refine (rptext_any r.p _ (LW.keep K) ok.a1 ok.l0 ok.l1).mono ?_; rintro e wv ⟨rfl, hKv⟩; rw [EP.out]; have K := K.trans hKv; clear hKv)
        | (go_at_call 71; refine (rnames25_any _).mono ?_; rintro e wv ⟨rfl, hKv⟩; have K := K.trans hKv; clear hKv)
        | (go_at_call 48; refine (itoa_any r.m ok.m0 ok.m1 _ (LW.keep K)).mono ?_; rintro e wv ⟨rfl, hKv⟩; rw [EM.out]; have K := K.trans hKv; clear hKv))
    all_goals
      go_wp2_with fail
      go_meet
      case rel =>
      exact ⟨rfl, K⟩
  case rest =>
    obtain ⟨rfl, K1⟩ := hcut
    have LC := LW.keep K1
    have KC := kW.trans K1
    have BC := BW.keep K1
    clear K c0 c1 c2 c3 hx hs1 q1 q2 q3 q4 LW
    have c2 : wc.cell? ⟨w.heap.size, 2, none⟩ = some (.int .i64 r.s) := BC.cell 2
    have c3 : wc.cell? ⟨w.heap.size, 3, none⟩ = some (.int .i64 r.m) := BC.cell 3
    have c4 : wc.cell? ⟨w.heap.size, 4, none⟩ = some (.int .i64 r.l) := BC.cell 4
    have c5 : wc.cell? ⟨w.heap.size, 5, none⟩ = some (.int .i64 r.f) := BC.cell 5
    have c6 : wc.cell? ⟨w.heap.size, 6, none⟩ = some (.int .u32 (r.x : Int)) := BC.cell 6
    have c7 : wc.cell? ⟨w.heap.size, 7, none⟩ = some (.int .i64 r.d) := BC.cell 7
    have c8 : wc.cell? ⟨w.heap.size, 8, none⟩ = some (.bool r.c) := BC.cell 8
    by_cases h3 : r.s = 3
    · have b3 : (r.s == 3) = true := by rw [beq_iff_eq]; exact h3
      have g1 : (1 : Int) < r.s := by omega
      obtain ⟨t5, f5, q5, y5⟩ := add_fact Y4.out (show (⟨#[32, 111, 102, 32]⟩ : ByteArray).size ≤ 4 by decide) (by omega)
      obtain ⟨t6, f6, q6, y6⟩ := add_fact y5 ZL.out (by omega)
      have FL : Hid (t6 = strB (textP r.p ++ 32 :: namV r.s.toNat ++ 32 :: Lib.itoa r.m ++ ([32, 111, 102, 32] ++ Lib.itoa r.l))) := by
        refine Lib.hid ?_
        rw [f6, f5, F4.out, ← EL.out, show (⟨#[32, 111, 102, 32]⟩ : ByteArray) = strB [32, 111, 102, 32] from rfl]
        simp only [strB_app]
        simp
      have YL := Lib.hid y6
      have Hs := Lib.hid h3
      have hne1 : ¬ r.s = 1 := by omega
      have Hne1 := Lib.hid hne1
      clear f5 f6 y5 y6 h3 hne1
      go_wp2_with fail
      refine (itoa_any r.l ok.t0 ok.t1 _ LC).mono ?_
      rintro e wl ⟨rfl, KL⟩
      rw [EL.out]
      have Lwl := LC.keep KL
      have KD := KC.trans KL
      replace c2 := KL.cell c2
      replace c4 := KL.cell c4
      replace c5 := KL.cell c5
      replace c6 := KL.cell c6
      replace c7 := KL.cell c7
      replace c8 := KL.cell c8
      obtain ⟨o1, e1, p1, y1⟩ := add_fact YL.out (show (⟨#[32, 98, 121, 32]⟩ : ByteArray).size ≤ 4 by decide) (by omega)
      obtain ⟨o2, e2, p2, y2⟩ := add_fact y1 ZF.out (by omega)
      obtain ⟨o3, e3, p3, y3⟩ := add_fact y2 (show (⟨#[32]⟩ : ByteArray).size ≤ 1 by decide) (by omega)
      obtain ⟨o4, e4, p4, y4⟩ := add_fact y3 ZX.out (by omega)
      obtain ⟨o5, e5, p5, y5⟩ := add_fact y4 (show (⟨#[32, 100, 117, 101, 32]⟩ : ByteArray).size ≤ 5 by decide) (by omega)
      obtain ⟨o6, e6, p6, y6⟩ := add_fact y5 ZD.out (by omega)
      have F6 : Hid (o6 = strB (textP r.p ++ 32 :: namV r.s.toNat ++ 32 :: Lib.itoa r.m ++ ([32, 111, 102, 32] ++ Lib.itoa r.l) ++ ([32, 98, 121, 32] ++ Lib.itoa r.f ++ 32 :: textA r.x ++ [32, 100, 117, 101, 32] ++ Lib.itoa r.d))) := by
        refine Lib.hid ?_
        rw [e6, e5, e4, e3, e2, e1, FL.out, ← EF.out, ← EX.out, ← ED.out, show (⟨#[32, 98, 121, 32]⟩ : ByteArray) = strB [32, 98, 121, 32] from rfl, show (⟨#[32]⟩ : ByteArray) = strB [32] from rfl, show (⟨#[32, 100, 117, 101, 32]⟩ : ByteArray) = strB [32, 100, 117, 101, 32] from rfl]
        simp only [strB_app]
        simp
      have Y6 := Lib.hid y6
      clear e1 e2 e3 e4 e5 e6 y1 y2 y3 y4 y5 y6
      have K : Kp wl wl.drew := (Kp.refl wl).drew
      go_wp2_with fail
      go_upto_region 6 with (fail)
      go_cut [4] from 31 (fun s4 wx => s4 = .string o6 ∧ Kp wl wx)
      case first =>
        go_region_held3 (fun w' => w'.cell? ⟨w.heap.size, 4, none⟩ = some (.int .i64 r.l) ∧ w'.cell? ⟨w.heap.size, 5, none⟩ = some (.int .i64 r.f) ∧ w'.cell? ⟨w.heap.size, 6, none⟩ = some (.int .u32 (r.x : Int)) ∧ w'.cell? ⟨w.heap.size, 7, none⟩ = some (.int .i64 r.d))
          (first | exact ⟨K.cell c4, K.cell c5, K.cell c6, K.cell c7⟩ | exact K.cell c4 | go_keep)
          (first
            | (go_at_call 48; refine (itoa_any r.f ok.f0 ok.f1 _ (Lwl.keep K)).mono ?_; rintro e wv ⟨rfl, hKv⟩; rw [EF.out]; have K := K.trans hKv; clear hKv)
            | (go_at_call 50; refine (ref01_text r.x ok.x1 _ (Lwl.keep K)).mono ?_; rintro e wv ⟨rfl, hKv⟩; rw [EX.out]; have K := K.trans hKv; clear hKv)
            | (go_at_call 49; refine (format_any r.d ok.d0 ok.d1 _ (Lwl.keep K)).mono ?_; rintro e wv ⟨rfl, hKv⟩; rw [ED.out]; have K := K.trans hKv; clear hKv))
        all_goals
          go_wp2_with fail
          go_meet
          case rel =>
          exact ⟨rfl, K⟩
      case rest =>
        obtain ⟨rfl, K6⟩ := hcut
        have KE := (KD).trans K6
        have c8 : wc.cell? ⟨w.heap.size, 8, none⟩ = some (.bool r.c) := K6.cell c8
        clear p1 p2 p3 p4 p5 p6
        cases hc : r.c with
        | true =>
          obtain ⟨v1, g1, p1, _⟩ := add_fact Y6.out (show (⟨#[32, 99, 104, 97, 110, 103, 101, 100]⟩ : ByteArray).size ≤ 8 by decide) (by omega)
          have Hf : Hid (v1 = strB (textR r)) := by
            refine Lib.hid ?_
            rw [g1, F6.out, show (⟨#[32, 99, 104, 97, 110, 103, 101, 100]⟩ : ByteArray) = strB [32, 99, 104, 97, 110, 103, 101, 100] from rfl, strB_app]
            simp [textR, moreW, lostW, sideW, endW, hc, Hs.out, Hne1.out, ofS, byS, dueS, chS]
          clear g1
          rw [hc] at c8
          clear hc
          go_wp2_with fail
          go_ret
          exact ⟨by rw [Hf.out]; rfl, KE⟩
        | false =>
          have Hf : Hid (o6 = strB (textR r)) := by
            refine Lib.hid ?_
            rw [F6.out]
            simp [textR, moreW, lostW, sideW, endW, hc, Hs.out, Hne1.out, ofS, byS, dueS, chS]
          rw [hc] at c8
          clear hc
          go_wp2_with fail
          go_ret
          exact ⟨by rw [Hf.out]; rfl, KE⟩
    · have b3 : (r.s == 3) = false := by rw [beq_eq_false_iff_ne]; exact h3
      have H3 := Lib.hid h3
      by_cases h1 : r.s = 1
      · have g1 : ¬ (1 : Int) < r.s := by omega
        have Hs := Lib.hid h1
        clear h1 h3
        cases hc : r.c with
        | true =>
          obtain ⟨v1, g1, p1, _⟩ := add_fact Y4.out (show (⟨#[32, 99, 104, 97, 110, 103, 101, 100]⟩ : ByteArray).size ≤ 8 by decide) (by omega)
          have Hf : Hid (v1 = strB (textR r)) := by
            refine Lib.hid ?_
            rw [g1, F4.out, show (⟨#[32, 99, 104, 97, 110, 103, 101, 100]⟩ : ByteArray) = strB [32, 99, 104, 97, 110, 103, 101, 100] from rfl, strB_app]
            simp [textR, moreW, lostW, sideW, endW, hc, H3.out, Hs.out, ofS, byS, dueS, chS]
          clear g1
          rw [hc] at c8
          clear hc
          go_wp2_with fail
          go_ret
          exact ⟨by rw [Hf.out]; rfl, KC⟩
        | false =>
          have Hf : Hid (t4 = strB (textR r)) := by
            refine Lib.hid ?_
            rw [F4.out]
            simp [textR, moreW, lostW, sideW, endW, hc, H3.out, Hs.out, ofS, byS, dueS, chS]
          rw [hc] at c8
          clear hc
          go_wp2_with fail
          go_ret
          exact ⟨by rw [Hf.out]; rfl, KC⟩
      · have g1 : (1 : Int) < r.s := by have := H1.out; omega
        have Hne1 := Lib.hid h1
        have Lwc := LC
        clear h1 h3
        obtain ⟨o1, e1, p1, y1⟩ := add_fact Y4.out (show (⟨#[32, 98, 121, 32]⟩ : ByteArray).size ≤ 4 by decide) (by omega)
        obtain ⟨o2, e2, p2, y2⟩ := add_fact y1 ZF.out (by omega)
        obtain ⟨o3, e3, p3, y3⟩ := add_fact y2 (show (⟨#[32]⟩ : ByteArray).size ≤ 1 by decide) (by omega)
        obtain ⟨o4, e4, p4, y4⟩ := add_fact y3 ZX.out (by omega)
        obtain ⟨o5, e5, p5, y5⟩ := add_fact y4 (show (⟨#[32, 100, 117, 101, 32]⟩ : ByteArray).size ≤ 5 by decide) (by omega)
        obtain ⟨o6, e6, p6, y6⟩ := add_fact y5 ZD.out (by omega)
        have F6 : Hid (o6 = strB (textP r.p ++ 32 :: namV r.s.toNat ++ 32 :: Lib.itoa r.m ++ ([32, 98, 121, 32] ++ Lib.itoa r.f ++ 32 :: textA r.x ++ [32, 100, 117, 101, 32] ++ Lib.itoa r.d))) := by
          refine Lib.hid ?_
          rw [e6, e5, e4, e3, e2, e1, F4.out, ← EF.out, ← EX.out, ← ED.out, show (⟨#[32, 98, 121, 32]⟩ : ByteArray) = strB [32, 98, 121, 32] from rfl, show (⟨#[32]⟩ : ByteArray) = strB [32] from rfl, show (⟨#[32, 100, 117, 101, 32]⟩ : ByteArray) = strB [32, 100, 117, 101, 32] from rfl]
          simp only [strB_app]
          simp
        have Y6 := Lib.hid y6
        clear e1 e2 e3 e4 e5 e6 y1 y2 y3 y4 y5 y6
        have K : Kp wc wc.drew := (Kp.refl wc).drew
        go_wp2_with fail
        go_upto_region 6 with (fail)
        go_cut [4] from 31 (fun s4 wx => s4 = .string o6 ∧ Kp wc wx)
        case first =>
          go_region_held3 (fun w' => w'.cell? ⟨w.heap.size, 4, none⟩ = some (.int .i64 r.l) ∧ w'.cell? ⟨w.heap.size, 5, none⟩ = some (.int .i64 r.f) ∧ w'.cell? ⟨w.heap.size, 6, none⟩ = some (.int .u32 (r.x : Int)) ∧ w'.cell? ⟨w.heap.size, 7, none⟩ = some (.int .i64 r.d))
            (first | exact ⟨K.cell c4, K.cell c5, K.cell c6, K.cell c7⟩ | exact K.cell c4 | go_keep)
            (first
              | (go_at_call 48; refine (itoa_any r.f ok.f0 ok.f1 _ (Lwc.keep K)).mono ?_; rintro e wv ⟨rfl, hKv⟩; rw [EF.out]; have K := K.trans hKv; clear hKv)
              | (go_at_call 50; refine (ref01_text r.x ok.x1 _ (Lwc.keep K)).mono ?_; rintro e wv ⟨rfl, hKv⟩; rw [EX.out]; have K := K.trans hKv; clear hKv)
              | (go_at_call 49; refine (format_any r.d ok.d0 ok.d1 _ (Lwc.keep K)).mono ?_; rintro e wv ⟨rfl, hKv⟩; rw [ED.out]; have K := K.trans hKv; clear hKv))
          all_goals
            go_wp2_with fail
            go_meet
            case rel =>
            exact ⟨rfl, K⟩
        case rest =>
          obtain ⟨rfl, K6⟩ := hcut
          have KE := (KC).trans K6
          have c8 : wc.cell? ⟨w.heap.size, 8, none⟩ = some (.bool r.c) := K6.cell c8
          clear p1 p2 p3 p4 p5 p6
          cases hc : r.c with
          | true =>
            obtain ⟨v1, g1, p1, _⟩ := add_fact Y6.out (show (⟨#[32, 99, 104, 97, 110, 103, 101, 100]⟩ : ByteArray).size ≤ 8 by decide) (by omega)
            have Hf : Hid (v1 = strB (textR r)) := by
              refine Lib.hid ?_
              rw [g1, F6.out, show (⟨#[32, 99, 104, 97, 110, 103, 101, 100]⟩ : ByteArray) = strB [32, 99, 104, 97, 110, 103, 101, 100] from rfl, strB_app]
              simp [textR, moreW, lostW, sideW, endW, hc, H3.out, Hne1.out, ofS, byS, dueS, chS]
            clear g1
            rw [hc] at c8
            clear hc
            go_wp2_with fail
            go_ret
            exact ⟨by rw [Hf.out]; rfl, KE⟩
          | false =>
            have Hf : Hid (o6 = strB (textR r)) := by
              refine Lib.hid ?_
              rw [F6.out]
              simp [textR, moreW, lostW, sideW, endW, hc, H3.out, Hne1.out, ofS, byS, dueS, chS]
            rw [hc] at c8
            clear hc
            go_wp2_with fail
            go_ret
            exact ⟨by rw [Hf.out]; rfl, KE⟩
end Go.Proofs.YtbfimimhgdkpaaaGreatDoor

/- Package view: Text. No condition but the library's variables and what the types hold. -/
namespace Go.Proofs.YtbfimimhgdkpaaaGreatDoor
open Go.RowKit
attribute [local go_sem] Oper.semAt_some
theorem strE_one (l : List UInt8) : ∀ u ∈ strE l, u.oneCell' = true := by intro u hu; simp [strE] at hu; subst hu; rfl
theorem Own.lit {w : World} {B g : Nat} {ws : List (List UInt8)} (hb : B ≤ g) (hB : Blk w g 9 (ws.map (fun l => Value.string (strB l))).toArray) (hl : ws.length ≤ 1000) : Own w B 9 1 strE (.slice (some ⟨g, 0, none⟩) ws.length ws.length) ws := by
  have hf : ws.flatMap strE = ws.map (fun l => Value.string (strB l)) := by
    rw [List.map_eq_flatMap]; rfl
  refine ⟨by rw [hf]; simp, .inr ⟨g, ws.length, _, rfl, hb, hB, Nat.le_refl _, by simp only [maxLen]; omega, by simp, ?_⟩⟩
  rw [hf, Nat.mul_one]
  exact List.take_of_length_le (by simp)
theorem joinV_any {w : World} {B : Nat} {A : Option Addr} {c : Nat} {ws : List (List UInt8)} (h : Own w B 9 1 strE (.slice A ws.length c) ws) (hp : ws ≠ []) (hl : (Lib.join ws [32]).length ≤ 1000000) (h6 : ws.length ≤ 11) :
    Calls Tryz.prog 40 #[.slice A ws.length c, .string ⟨#[32]⟩] w fun e w' => e = .returned (.string (strB (Lib.join ws [32]))) ∧ Kp w w' := by
  have hR := h.rdAt (by decide) strE_len
  have hpos : 0 < ws.length := List.length_pos_iff.2 hp
  obtain ⟨b, off, rfl, hc⟩ := hR 0 hpos
  have hlt : b < w.heap.size := World.block_lt_of_cell? w _ (hc 0 _ rfl)
  have hm : (ws.map strB).map (·.data.toList) = ws := by
    rw [List.map_map]
    have : ((fun x : ByteArray => x.data.toList) ∘ strB) = id := by funext l; exact strB_list l
    rw [this, List.map_id]
  have hcap : ws.length ≤ c := by
    rcases h.2 with ⟨h2, _⟩ | ⟨q, cap, cur, hq, _, hh, hcp, _⟩
    · cases h2
    · injection hq with _ _ hq; subst hq; first | exact hcp | omega
  have key := Tryz.strings_Join b off c (ws.map strB) ⟨#[32]⟩ w (by
    intro j s hs
    rw [List.getElem?_map] at hs
    cases hj : ws[j]? with
    | none => rw [hj] at hs; cases hs
    | some l =>
      rw [hj] at hs
      injection hs with hs
      subst hs
      obtain ⟨hj1, hj2⟩ := List.getElem?_eq_some_iff.1 hj
      obtain ⟨b', off', e', hcc⟩ := hR j hj1
      injection e' with e'
      injection e' with e1 e2
      subst e1; subst e2
      have := hcc 0 _ rfl
      rw [hj2] at this
      simpa using this) hlt (by simp; omega) (by simpa using hcap) (by rw [hm]; show (Lib.join ws [32]).length ≤ _; omega)
  rw [hm, List.length_map] at key
  refine key.mono ?_
  rintro e w' ⟨rfl, hb⟩
  exact ⟨rfl, hb⟩
theorem join_text (r : Rt) : Lib.join (textP r.p :: moreW r) [32] = textR r := by
  rw [Lib.join_cons, Lib.joinTail, textR, List.flatMap_def]
  rfl
theorem textR_short {r : Rt} (ok : RtOk r) : (textR r).length ≤ 10000 := by
  have hP := textP_short ok.a1 ok.l0 ok.l1
  have hM := itoa_short ok.m0 ok.m1
  have hL := itoa_short ok.t0 ok.t1
  have hF := itoa_short ok.f0 ok.f1
  have hX := textA_short ok.x1
  have hD := itoa_short ok.d0 ok.d1
  have hN := namV_short r.s.toNat
  unfold textR moreW lostW sideW endW
  split <;> split <;> split <;> simp [ofS, byS, dueS, chS] <;> omega
/-- The words that stand at the head of a line. -/
def headW (r : Rt) : List (List UInt8) := [textP r.p, namV r.s.toNat, Lib.itoa r.m]
/-- Words in memory, in a row of one's own. -/
structure LsV (W wx : World) (v : Value) (ws : List (List UInt8)) : Prop where
  kp : Kp W wx
  own : Own wx W.heap.size 9 1 strE v ws
set_option maxRecDepth 100000 in
set_option maxHeartbeats 1000000 in
theorem vtext_no (r : Rt) (w : World) (ok : RtOk r) (hn : lineB r = false) :
    Calls Tryz.prog 19 #[.agg #[.int .u32 r.p.a, .int .i64 r.p.l, .int .i64 r.s, .int .i64 r.m, .int .i64 r.l, .int .i64 r.f, .int .u32 r.x, .int .i64 r.d, .bool r.c]] w fun e w' => e = .returned (.tuple #[.string ⟨#[]⟩, .int .i64 2]) ∧ Kp w w' := by
  obtain ⟨W, hW, kW, BW⟩ : ∃ W, w.alloc (.cells #[.int .u32 r.p.a, .int .i64 r.p.l, .int .i64 r.s, .int .i64 r.m, .int .i64 r.l, .int .i64 r.f, .int .u32 r.x, .int .i64 r.d, .bool r.c] 45) = W ∧ Kp w W ∧ Blk W w.heap.size 45 (rtA r) := ⟨_, rfl, (Kp.refl _).alloc _, Blk.new w _ _⟩
  by_cases hrb : rightB r = true
  case neg =>
    have hck : checkR r = 2 := if_neg hrb
    have v0 : W.cell? ⟨w.heap.size, 0, none⟩ = some (.int .u32 (r.p.a : Int)) := BW.cell 0
    have v1 : W.cell? ⟨w.heap.size, 1, none⟩ = some (.int .i64 r.p.l) := BW.cell 1
    have v2 : W.cell? ⟨w.heap.size, 2, none⟩ = some (.int .i64 r.s) := BW.cell 2
    have v3 : W.cell? ⟨w.heap.size, 3, none⟩ = some (.int .i64 r.m) := BW.cell 3
    have v4 : W.cell? ⟨w.heap.size, 4, none⟩ = some (.int .i64 r.l) := BW.cell 4
    have v5 : W.cell? ⟨w.heap.size, 5, none⟩ = some (.int .i64 r.f) := BW.cell 5
    have v6 : W.cell? ⟨w.heap.size, 6, none⟩ = some (.int .u32 (r.x : Int)) := BW.cell 6
    have v7 : W.cell? ⟨w.heap.size, 7, none⟩ = some (.int .i64 r.d) := BW.cell 7
    have v8 : W.cell? ⟨w.heap.size, 8, none⟩ = some (.bool r.c) := BW.cell 8
    clear hrb hn
    go_enter Tryz.func19, Tryz.ntmps19
    go_wp2_with fail
    try rw [hW]
    refine (checkR_any r _ ok.a1 ok.x1).mono ?_
    rintro e w1 ⟨rfl, K1⟩
    rw [hck]
    clear hck v0 v1 v2 v3 v4 v5 v6 v7 v8
    go_wp2_with fail
    go_ret2
    exact ⟨rfl, kW.trans K1⟩
  case pos =>
    have hck : checkR r = 0 := if_pos hrb
    have hs : r.s = 0 := by
      by_cases h0 : r.s = 0
      · exact h0
      · obtain ⟨_, h3⟩ := right_parts hrb h0
        unfold lineB at hn
        rw [hrb, Bool.true_and, decide_eq_false_iff_not] at hn
        omega
    have v0 : W.cell? ⟨w.heap.size, 0, none⟩ = some (.int .u32 (r.p.a : Int)) := BW.cell 0
    have v1 : W.cell? ⟨w.heap.size, 1, none⟩ = some (.int .i64 r.p.l) := BW.cell 1
    have v2 : W.cell? ⟨w.heap.size, 2, none⟩ = some (.int .i64 r.s) := BW.cell 2
    have v3 : W.cell? ⟨w.heap.size, 3, none⟩ = some (.int .i64 r.m) := BW.cell 3
    have v4 : W.cell? ⟨w.heap.size, 4, none⟩ = some (.int .i64 r.l) := BW.cell 4
    have v5 : W.cell? ⟨w.heap.size, 5, none⟩ = some (.int .i64 r.f) := BW.cell 5
    have v6 : W.cell? ⟨w.heap.size, 6, none⟩ = some (.int .u32 (r.x : Int)) := BW.cell 6
    have v7 : W.cell? ⟨w.heap.size, 7, none⟩ = some (.int .i64 r.d) := BW.cell 7
    have v8 : W.cell? ⟨w.heap.size, 8, none⟩ = some (.bool r.c) := BW.cell 8
    have Hs := Lib.hid hs
    clear hrb hn hs
    go_enter Tryz.func19, Tryz.ntmps19
    go_wp2_with fail
    try rw [hW]
    refine (checkR_any r _ ok.a1 ok.x1).mono ?_
    rintro e w1 ⟨rfl, K1⟩
    rw [hck]
    have c2 : w1.cell? ⟨w.heap.size, 2, none⟩ = some (.int .i64 r.s) := (BW.keep K1).cell 2
    rw [Hs.out] at c2
    clear hck v0 v1 v2 v3 v4 v5 v6 v7 v8
    go_wp2_with fail
    go_ret2
    exact ⟨rfl, kW.trans K1⟩
set_option maxRecDepth 100000 in
set_option maxHeartbeats 4000000 in
theorem vtext_yes (r : Rt) (w : World) (L : LibOk w) (ok : RtOk r) (hy : lineB r = true) :
    Calls Tryz.prog 19 #[.agg #[.int .u32 r.p.a, .int .i64 r.p.l, .int .i64 r.s, .int .i64 r.m, .int .i64 r.l, .int .i64 r.f, .int .u32 r.x, .int .i64 r.d, .bool r.c]] w fun e w' => e = .returned (.tuple #[.string (strB (textR r)), .int .i64 0]) ∧ Kp w w' := by
  obtain ⟨W, hW, kW, BW⟩ : ∃ W, w.alloc (.cells #[.int .u32 r.p.a, .int .i64 r.p.l, .int .i64 r.s, .int .i64 r.m, .int .i64 r.l, .int .i64 r.f, .int .u32 r.x, .int .i64 r.d, .bool r.c] 45) = W ∧ Kp w W ∧ Blk W w.heap.size 45 (rtA r) := ⟨_, rfl, (Kp.refl _).alloc _, Blk.new w _ _⟩
  have LW := L.keep kW
  obtain ⟨hrb, h1, h4⟩ := line_parts hy
  have hck : checkR r = 0 := if_pos hrb
  have hokp := (right_parts hrb (by omega)).1
  have Hokp := Lib.hid hokp
  have hs0 : (r.s == 0) = false := by rw [beq_eq_false_iff_ne]; omega
  have Hck := Lib.hid hck
  have Hj := Lib.hid (join_text r)
  have Hsh := Lib.hid (textR_short ok)
  have Hlen := Lib.hid (moreW_len r)
  have hx : ∀ w, (Instr.index 111 vnamesV (.int .i64 r.s)).run Tryz.prog w = .ok (.string (strB (namV r.s.toNat))) w := by
    intro w
    have := vname_idx r.s.toNat (by omega) w
    rw [show ((r.s.toNat : Nat) : Int) = r.s by omega] at this
    exact this
  have Hx := Lib.hid hx
  have v0 : W.cell? ⟨w.heap.size, 0, none⟩ = some (.int .u32 (r.p.a : Int)) := BW.cell 0
  have v1 : W.cell? ⟨w.heap.size, 1, none⟩ = some (.int .i64 r.p.l) := BW.cell 1
  have v2 : W.cell? ⟨w.heap.size, 2, none⟩ = some (.int .i64 r.s) := BW.cell 2
  have v3 : W.cell? ⟨w.heap.size, 3, none⟩ = some (.int .i64 r.m) := BW.cell 3
  have v4 : W.cell? ⟨w.heap.size, 4, none⟩ = some (.int .i64 r.l) := BW.cell 4
  have v5 : W.cell? ⟨w.heap.size, 5, none⟩ = some (.int .i64 r.f) := BW.cell 5
  have v6 : W.cell? ⟨w.heap.size, 6, none⟩ = some (.int .u32 (r.x : Int)) := BW.cell 6
  have v7 : W.cell? ⟨w.heap.size, 7, none⟩ = some (.int .i64 r.d) := BW.cell 7
  have v8 : W.cell? ⟨w.heap.size, 8, none⟩ = some (.bool r.c) := BW.cell 8
  clear hrb hck hokp hy hx
  go_enter Tryz.func19, Tryz.ntmps19
  go_wp2_with fail
  try rw [hW]
  refine (checkR_any r _ ok.a1 ok.x1).mono ?_
  rintro e w1 ⟨rfl, K1⟩
  rw [Hck.out]
  clear hW v0 v1 v2 v3 v4 v5 v6 v7 v8
  have c0 : w1.cell? ⟨w.heap.size, 0, none⟩ = some (.int .u32 (r.p.a : Int)) := (BW.keep K1).cell 0
  have c1 : w1.cell? ⟨w.heap.size, 1, none⟩ = some (.int .i64 r.p.l) := (BW.keep K1).cell 1
  have c2 : w1.cell? ⟨w.heap.size, 2, none⟩ = some (.int .i64 r.s) := (BW.keep K1).cell 2
  go_wp2_with fail
  refine (ptext_any r.p _ (LW.keep K1) ok.a1 ok.l0 ok.l1).mono ?_
  rintro e w2 ⟨rfl, K2⟩
  rw [if_pos Hokp.out]
  have K3 := K1.trans K2
  obtain ⟨t1, hT1⟩ : ∃ t, strB (textP r.p) = t := ⟨_, rfl⟩
  rw [hT1]
  have HT1 := Lib.hid hT1
  clear hT1
  have hx := Hx.out
  clear c0 c1 c2 K1 K2
  have K : Kp W w2.drew := K3.drew
  have c2 : W.cell? ⟨w.heap.size, 2, none⟩ = some (.int .i64 r.s) := BW.cell 2
  have c3 : W.cell? ⟨w.heap.size, 3, none⟩ = some (.int .i64 r.m) := BW.cell 3
  go_upto_region 6 with (fail)
  go_cut [6] from 23 (fun s6 wx => LsV W wx s6 (headW r))
  case first =>
    go_region_held3 (fun w' => w'.cell? ⟨w.heap.size, 2, none⟩ = some (.int .i64 r.s) ∧ w'.cell? ⟨w.heap.size, 3, none⟩ = some (.int .i64 r.m))
      (first | exact ⟨(K).cell c2, (K).cell c3⟩ | exact ⟨(K.alloc _).cell c2, (K.alloc _).cell c3⟩ | go_keep)
      (first
        | (go_at_call 57; refine (vnames_any _).mono ?_; rintro e wv ⟨rfl, hKv⟩; have K := K.trans hKv; clear hKv)
        | (go_at_call 48; refine (itoa_any r.m ok.m0 ok.m1 _ (LW.keep K)).mono ?_; rintro e wv ⟨rfl, hKv⟩; have K := K.trans hKv; clear hKv))
    all_goals
      go_wp2_with fail
      go_meet
      case rel =>
      exact ⟨K.alloc _, Own.lit (ws := headW r) K.size (by simp only [headW, List.map_cons, List.map_nil]; rw [HT1.out]; exact Blk.new _ _ _) (by simp [headW])⟩
  case rest =>
    have HC := Lib.hid hcut
    have BC := BW.keep hcut.kp
    have LC := LW.keep hcut.kp
    have hO := hcut.own
    clear K hx hcut
    have c2 : wc.cell? ⟨w.heap.size, 2, none⟩ = some (.int .i64 r.s) := BC.cell 2
    have c4 : wc.cell? ⟨w.heap.size, 4, none⟩ = some (.int .i64 r.l) := BC.cell 4
    have c5 : wc.cell? ⟨w.heap.size, 5, none⟩ = some (.int .i64 r.f) := BC.cell 5
    have c6 : wc.cell? ⟨w.heap.size, 6, none⟩ = some (.int .u32 (r.x : Int)) := BC.cell 6
    have c7 : wc.cell? ⟨w.heap.size, 7, none⟩ = some (.int .i64 r.d) := BC.cell 7
    have c8 : wc.cell? ⟨w.heap.size, 8, none⟩ = some (.bool r.c) := BC.cell 8
    by_cases h3 : r.s = 3
    · have b3 : (r.s == 3) = true := by rw [beq_iff_eq]; exact h3
      have b1 : (r.s != 1) = true := by rw [bne_iff_ne]; omega
      have b1' : (r.s == 1) = false := by rw [beq_eq_false_iff_ne]; omega
      have Hs := Lib.hid h3
      have hne1 : ¬ r.s = 1 := by omega
      have Hne1 := Lib.hid hne1
      clear h3 hne1
      go_wp2_with fail
      refine (itoa_any r.l ok.t0 ok.t1 _ LC).mono ?_
      rintro e wl ⟨rfl, KL⟩
      have Lwl := LC.keep KL
      replace c2 := KL.cell c2
      replace c4 := KL.cell c4
      replace c5 := KL.cell c5
      replace c6 := KL.cell c6
      replace c7 := KL.cell c7
      replace c8 := KL.cell c8
      have hO2 := hO.keep KL
      have hsz := HC.out.kp.size
      have hsl := KL.size
      have HKL := Lib.hid (HC.out.kp.trans KL)
      clear hO
      go_upto_region 9 with (at_builtin; go_must (refine wpList_appl EStr strE_len strE_one rfl _ _ rfl (ys := [ofS, Lib.itoa r.l]) rfl rfl (hO2.alloc _) (Rd.of_blk (Blk.new _ 9 _) (by decide) strE_len (by simp [maxLen]) (by rfl)) (by simp [headW]) (by simp; omega) ?_); intro v7 w7 hown7 hg7 hat7; have K7 : Kp W w7 := (HKL.out.alloc _).grown hg7 (fun q hq => (World.ownsRow.lt hO2 q hq).1); have HC7 : Hid (LsV W w7 v7 (headW r ++ [ofS, Lib.itoa r.l])) := Lib.hid ⟨K7, hown7⟩)
      have B7 := BW.keep K7
      have L7 := LW.keep K7
      clear c2 c4 c5 c6 c7 c8 hown7 hg7 hat7 hO2
      have c2 : w7.cell? ⟨w.heap.size, 2, none⟩ = some (.int .i64 r.s) := B7.cell 2
      have c4 : w7.cell? ⟨w.heap.size, 4, none⟩ = some (.int .i64 r.l) := B7.cell 4
      have c5 : w7.cell? ⟨w.heap.size, 5, none⟩ = some (.int .i64 r.f) := B7.cell 5
      have c6 : w7.cell? ⟨w.heap.size, 6, none⟩ = some (.int .u32 (r.x : Int)) := B7.cell 6
      have c7 : w7.cell? ⟨w.heap.size, 7, none⟩ = some (.int .i64 r.d) := B7.cell 7
      have c8 : w7.cell? ⟨w.heap.size, 8, none⟩ = some (.bool r.c) := B7.cell 8
      have K : Kp w7 w7.drew := (Kp.refl w7).drew
      have hO := HC7.out.own
      have hl : ((headW r ++ [ofS, Lib.itoa r.l])).length ≤ 100 := by simp [headW]
      go_wp2_with fail
      go_upto_region 10 with (fail)
      go_cut [6] from 44 (fun s6 wx => LsV W wx s6 ((headW r ++ [ofS, Lib.itoa r.l]) ++ [byS, Lib.itoa r.f, textA r.x, dueS, Lib.itoa r.d]))
      case first =>
        have hsz := HC7.out.kp.size
        have v4 : W.cell? ⟨w.heap.size, 4, none⟩ = some (.int .i64 r.l) := BW.cell 4
        have v5 : W.cell? ⟨w.heap.size, 5, none⟩ = some (.int .i64 r.f) := BW.cell 5
        have v6 : W.cell? ⟨w.heap.size, 6, none⟩ = some (.int .u32 (r.x : Int)) := BW.cell 6
        have v7 : W.cell? ⟨w.heap.size, 7, none⟩ = some (.int .i64 r.d) := BW.cell 7
        go_region_held3 (fun w' => w'.cell? ⟨w.heap.size, 4, none⟩ = some (.int .i64 r.l) ∧ w'.cell? ⟨w.heap.size, 5, none⟩ = some (.int .i64 r.f) ∧ w'.cell? ⟨w.heap.size, 6, none⟩ = some (.int .u32 (r.x : Int)) ∧ w'.cell? ⟨w.heap.size, 7, none⟩ = some (.int .i64 r.d))
          (first | exact ⟨K9.cell v4, K9.cell v5, K9.cell v6, K9.cell v7⟩ | exact ⟨(K).cell c4, (K).cell c5, (K).cell c6, (K).cell c7⟩ | exact ⟨(K.alloc _).cell c4, (K.alloc _).cell c5, (K.alloc _).cell c6, (K.alloc _).cell c7⟩ | go_keep)
          (first
            | (go_at_call 48; refine (itoa_any r.f ok.f0 ok.f1 _ (L7.keep K)).mono ?_; rintro e wv ⟨rfl, hKv⟩; have K := K.trans hKv; clear hKv)
            | (go_at_call 58; refine (addr_text r.x ok.x1 _ (L7.keep K)).mono ?_; rintro e wv ⟨rfl, hKv⟩; have K := K.trans hKv; clear hKv)
            | (go_at_call 49; refine (format_any r.d ok.d0 ok.d1 _ (L7.keep K)).mono ?_; rintro e wv ⟨rfl, hKv⟩; have K := K.trans hKv; clear hKv)
            | (refine step_appl EStr strE_len strE_one (by rfl) (.tmp 44) (.tmp 54) (by rfl) (ys := [byS, Lib.itoa r.f, textA r.x, dueS, Lib.itoa r.d]) (by rfl) (by rfl) ((hO.keep K).alloc _) (Rd.of_blk (Blk.new _ 9 _) (by decide) strE_len (by simp [maxLen]) (by rfl)) (by simp [headW]) (by have := K.size; simp; omega) ?_; intro v9 w9 hown9 hg9 hat9; have K9 : Kp W w9 := ((HC7.out.kp.trans K).alloc _).grown hg9 (fun q hq => (World.ownsRow.lt (hO.keep K) q hq).1)))
        all_goals
          go_wp2_with fail
          go_meet
          case rel =>
          exact ⟨K9, hown9⟩
      case rest =>
        have HD := Lib.hid hcut
        have c8 : wc.cell? ⟨w.heap.size, 8, none⟩ = some (.bool r.c) := (BW.keep hcut.kp).cell 8
        clear hcut hO hl K
        cases hc : r.c with
        | true =>
          have Hw := Lib.hid (show ((headW r ++ [ofS, Lib.itoa r.l]) ++ [byS, Lib.itoa r.f, textA r.x, dueS, Lib.itoa r.d]) ++ [chS] = textP r.p :: moreW r by simp [headW, moreW, lostW, sideW, endW, hc, Hs.out, Hne1.out])
          rw [hc] at c8
          have hO := HD.out.own
          have hl : (((headW r ++ [ofS, Lib.itoa r.l]) ++ [byS, Lib.itoa r.f, textA r.x, dueS, Lib.itoa r.d])).length ≤ 100 := by simp [headW]
          clear hc
          go_wp2_with (first | (at_builtin; go_must (refine wpList_appl EStr strE_len strE_one rfl _ _ rfl (ys := [chS]) rfl rfl (hO.alloc _) (Rd.of_blk (Blk.new _ 9 _) (by decide) strE_len (by simp [maxLen]) (by rfl)) (by simp [headW]) (by have := HD.out.kp.size; simp; omega) ?_); intro v7 w7 hown7 hg7 hat7; rw [Hw.out] at hown7; have K7 := (HD.out.kp.alloc _).grown hg7 (fun q hq => (World.ownsRow.lt hO q hq).1); obtain ⟨A7, c7, rfl⟩ := hown7.form; clear hg7 hat7 hO))
          refine (joinV_any hown7 (by simp) (by rw [Hj.out]; have := Hsh.out; omega) (by have := Hlen.out; simp; omega)).mono ?_
          rintro e w8 ⟨rfl, K8⟩
          rw [Hj.out]
          go_wp2_with fail
          go_ret2
          exact ⟨rfl, kW.trans (K7.trans K8)⟩
        | false =>
          have Hw := Lib.hid (show ((headW r ++ [ofS, Lib.itoa r.l]) ++ [byS, Lib.itoa r.f, textA r.x, dueS, Lib.itoa r.d]) = textP r.p :: moreW r by simp [headW, moreW, lostW, sideW, endW, hc, Hs.out, Hne1.out])
          rw [hc] at c8
          have hO := HD.out.own
          rw [Hw.out] at hO
          have K7 := HD.out.kp
          obtain ⟨A7, c7, hv7⟩ := hO.form
          subst hv7
          clear hc
          go_wp2_with fail
          refine (joinV_any hO (by simp) (by rw [Hj.out]; have := Hsh.out; omega) (by have := Hlen.out; simp; omega)).mono ?_
          rintro e w8 ⟨rfl, K8⟩
          rw [Hj.out]
          go_wp2_with fail
          go_ret2
          exact ⟨rfl, kW.trans (K7.trans K8)⟩
    · have b3 : (r.s == 3) = false := by rw [beq_eq_false_iff_ne]; exact h3
      have H3 := Lib.hid h3
      by_cases h1' : r.s = 1
      · have b1 : (r.s != 1) = false := by rw [h1']; rfl
        have b1' : (r.s == 1) = true := by rw [beq_iff_eq]; exact h1'
        have Hs := Lib.hid h1'
        clear h1' h3 hO
        cases hc : r.c with
        | true =>
          have Hw := Lib.hid (show (headW r) ++ [chS] = textP r.p :: moreW r by simp [headW, moreW, lostW, sideW, endW, hc, H3.out, Hs.out])
          rw [hc] at c8
          have hO := HC.out.own
          have hl : ((headW r)).length ≤ 100 := by simp [headW]
          clear hc
          go_wp2_with (first | (at_builtin; go_must (refine wpList_appl EStr strE_len strE_one rfl _ _ rfl (ys := [chS]) rfl rfl (hO.alloc _) (Rd.of_blk (Blk.new _ 9 _) (by decide) strE_len (by simp [maxLen]) (by rfl)) (by simp [headW]) (by have := HC.out.kp.size; simp; omega) ?_); intro v7 w7 hown7 hg7 hat7; rw [Hw.out] at hown7; have K7 := (HC.out.kp.alloc _).grown hg7 (fun q hq => (World.ownsRow.lt hO q hq).1); obtain ⟨A7, c7, rfl⟩ := hown7.form; clear hg7 hat7 hO))
          refine (joinV_any hown7 (by simp) (by rw [Hj.out]; have := Hsh.out; omega) (by have := Hlen.out; simp; omega)).mono ?_
          rintro e w8 ⟨rfl, K8⟩
          rw [Hj.out]
          go_wp2_with fail
          go_ret2
          exact ⟨rfl, kW.trans (K7.trans K8)⟩
        | false =>
          have Hw := Lib.hid (show (headW r) = textP r.p :: moreW r by simp [headW, moreW, lostW, sideW, endW, hc, H3.out, Hs.out])
          rw [hc] at c8
          have hO := HC.out.own
          rw [Hw.out] at hO
          have K7 := HC.out.kp
          obtain ⟨A7, c7, hv7⟩ := hO.form
          subst hv7
          clear hc
          go_wp2_with fail
          refine (joinV_any hO (by simp) (by rw [Hj.out]; have := Hsh.out; omega) (by have := Hlen.out; simp; omega)).mono ?_
          rintro e w8 ⟨rfl, K8⟩
          rw [Hj.out]
          go_wp2_with fail
          go_ret2
          exact ⟨rfl, kW.trans (K7.trans K8)⟩
      · have b1 : (r.s != 1) = true := by rw [bne_iff_ne]; exact h1'
        have b1' : (r.s == 1) = false := by rw [beq_eq_false_iff_ne]; exact h1'
        have Hne1 := Lib.hid h1'
        clear h1' h3 hO
        have K : Kp wc wc.drew := (Kp.refl wc).drew
        have hO := HC.out.own
        have hl : ((headW r)).length ≤ 100 := by simp [headW]
        go_wp2_with fail
        go_upto_region 10 with (fail)
        go_cut [6] from 44 (fun s6 wx => LsV W wx s6 ((headW r) ++ [byS, Lib.itoa r.f, textA r.x, dueS, Lib.itoa r.d]))
        case first =>
          have hsz := HC.out.kp.size
          have v4 : W.cell? ⟨w.heap.size, 4, none⟩ = some (.int .i64 r.l) := BW.cell 4
          have v5 : W.cell? ⟨w.heap.size, 5, none⟩ = some (.int .i64 r.f) := BW.cell 5
          have v6 : W.cell? ⟨w.heap.size, 6, none⟩ = some (.int .u32 (r.x : Int)) := BW.cell 6
          have v7 : W.cell? ⟨w.heap.size, 7, none⟩ = some (.int .i64 r.d) := BW.cell 7
          go_region_held3 (fun w' => w'.cell? ⟨w.heap.size, 4, none⟩ = some (.int .i64 r.l) ∧ w'.cell? ⟨w.heap.size, 5, none⟩ = some (.int .i64 r.f) ∧ w'.cell? ⟨w.heap.size, 6, none⟩ = some (.int .u32 (r.x : Int)) ∧ w'.cell? ⟨w.heap.size, 7, none⟩ = some (.int .i64 r.d))
            (first | exact ⟨K9.cell v4, K9.cell v5, K9.cell v6, K9.cell v7⟩ | exact ⟨(K).cell c4, (K).cell c5, (K).cell c6, (K).cell c7⟩ | exact ⟨(K.alloc _).cell c4, (K.alloc _).cell c5, (K.alloc _).cell c6, (K.alloc _).cell c7⟩ | go_keep)
            (first
              | (go_at_call 48; refine (itoa_any r.f ok.f0 ok.f1 _ (LC.keep K)).mono ?_; rintro e wv ⟨rfl, hKv⟩; have K := K.trans hKv; clear hKv)
              | (go_at_call 58; refine (addr_text r.x ok.x1 _ (LC.keep K)).mono ?_; rintro e wv ⟨rfl, hKv⟩; have K := K.trans hKv; clear hKv)
              | (go_at_call 49; refine (format_any r.d ok.d0 ok.d1 _ (LC.keep K)).mono ?_; rintro e wv ⟨rfl, hKv⟩; have K := K.trans hKv; clear hKv)
              | (refine step_appl EStr strE_len strE_one (by rfl) (.tmp 44) (.tmp 54) (by rfl) (ys := [byS, Lib.itoa r.f, textA r.x, dueS, Lib.itoa r.d]) (by rfl) (by rfl) ((hO.keep K).alloc _) (Rd.of_blk (Blk.new _ 9 _) (by decide) strE_len (by simp [maxLen]) (by rfl)) (by simp [headW]) (by have := K.size; simp; omega) ?_; intro v9 w9 hown9 hg9 hat9; have K9 : Kp W w9 := ((HC.out.kp.trans K).alloc _).grown hg9 (fun q hq => (World.ownsRow.lt (hO.keep K) q hq).1)))
          all_goals
            go_wp2_with fail
            go_meet
            case rel =>
            exact ⟨K9, hown9⟩
        case rest =>
          have HD := Lib.hid hcut
          have c8 : wc.cell? ⟨w.heap.size, 8, none⟩ = some (.bool r.c) := (BW.keep hcut.kp).cell 8
          clear hcut hO hl K
          cases hc : r.c with
          | true =>
            have Hw := Lib.hid (show ((headW r) ++ [byS, Lib.itoa r.f, textA r.x, dueS, Lib.itoa r.d]) ++ [chS] = textP r.p :: moreW r by simp [headW, moreW, lostW, sideW, endW, hc, H3.out, Hne1.out])
            rw [hc] at c8
            have hO := HD.out.own
            have hl : (((headW r) ++ [byS, Lib.itoa r.f, textA r.x, dueS, Lib.itoa r.d])).length ≤ 100 := by simp [headW]
            clear hc
            go_wp2_with (first | (at_builtin; go_must (refine wpList_appl EStr strE_len strE_one rfl _ _ rfl (ys := [chS]) rfl rfl (hO.alloc _) (Rd.of_blk (Blk.new _ 9 _) (by decide) strE_len (by simp [maxLen]) (by rfl)) (by simp [headW]) (by have := HD.out.kp.size; simp; omega) ?_); intro v7 w7 hown7 hg7 hat7; rw [Hw.out] at hown7; have K7 := (HD.out.kp.alloc _).grown hg7 (fun q hq => (World.ownsRow.lt hO q hq).1); obtain ⟨A7, c7, rfl⟩ := hown7.form; clear hg7 hat7 hO))
            refine (joinV_any hown7 (by simp) (by rw [Hj.out]; have := Hsh.out; omega) (by have := Hlen.out; simp; omega)).mono ?_
            rintro e w8 ⟨rfl, K8⟩
            rw [Hj.out]
            go_wp2_with fail
            go_ret2
            exact ⟨rfl, kW.trans (K7.trans K8)⟩
          | false =>
            have Hw := Lib.hid (show ((headW r) ++ [byS, Lib.itoa r.f, textA r.x, dueS, Lib.itoa r.d]) = textP r.p :: moreW r by simp [headW, moreW, lostW, sideW, endW, hc, H3.out, Hne1.out])
            rw [hc] at c8
            have hO := HD.out.own
            rw [Hw.out] at hO
            have K7 := HD.out.kp
            obtain ⟨A7, c7, hv7⟩ := hO.form
            subst hv7
            clear hc
            go_wp2_with fail
            refine (joinV_any hO (by simp) (by rw [Hj.out]; have := Hsh.out; omega) (by have := Hlen.out; simp; omega)).mono ?_
            rintro e w8 ⟨rfl, K8⟩
            rw [Hj.out]
            go_wp2_with fail
            go_ret2
            exact ⟨rfl, kW.trans (K7.trans K8)⟩
theorem vtext_any (r : Rt) (w : World) (L : LibOk w) (ok : RtOk r) :
    Calls Tryz.prog 19 #[.agg #[.int .u32 r.p.a, .int .i64 r.p.l, .int .i64 r.s, .int .i64 r.m, .int .i64 r.l, .int .i64 r.f, .int .u32 r.x, .int .i64 r.d, .bool r.c]] w fun e w' => e = .returned (if lineB r = true then .tuple #[.string (strB (textR r)), .int .i64 0] else .tuple #[.string ⟨#[]⟩, .int .i64 2]) ∧ Kp w w' := by
  cases hp : lineB r with
  | false => simpa using vtext_no r w ok hp
  | true => simpa using vtext_yes r w L ok hp
end Go.Proofs.YtbfimimhgdkpaaaGreatDoor

/- Package view: Parse. No condition but the library's variables and the stated bounds. -/
namespace Go.Proofs.YtbfimimhgdkpaaaGreatDoor
open Go.RowKit

/-- What stands while a route's line is read, but the reader: the boxes of what is returned. -/
structure PvR (w : World) (g : Nat) (y : Value) (wr : World) : Prop where
  kp : Kp w wr
  p0 : Blk wr w.heap.size 45 (rtA rtZ)
  p1 : Blk wr (w.heap.size + 1) 29 #[y]
  ge : w.heap.size + 1 < g
theorem PvR.only {w wr w2 : World} {g : Nat} {y : Value} (R : PvR w g y wr) (hO : Only [g] wr w2) : PvR w g y w2 :=
  ⟨hO.kp R.kp (by have := R.ge; simp; omega), R.p0.only hO (by have := R.ge; simp; omega), R.p1.only hO (by have := R.ge; simp; omega), R.ge⟩
theorem PvR.keep {w wr w2 : World} {g : Nat} {y : Value} (R : PvR w g y wr) (K : Kp wr w2) : PvR w g y w2 := ⟨R.kp.trans K, R.p0.keep K, R.p1.keep K, R.ge⟩
theorem PvR.put {w wr : World} {g : Nat} {y : Value} (R : PvR w g y wr) (e : Int) : PvR w g (.int .i64 e) (wr.setCell ⟨w.heap.size + 1, 0, none⟩ (.int .i64 e)) :=
  ⟨R.kp.setCell (by simp) _, R.p0.far (by simp) _, by simpa using R.p1.set_ 0 (.int .i64 e), R.ge⟩
theorem RdV.apart {w w' : World} {g q : Nat} {A : Option Addr} {c : Nat} {ws : List (List UInt8)} {r : Rt} {k : Nat} (h : RdV w g A c ws r k) (hO : Only [q] w w') (hg : g ≠ q) (hA : ∀ b o, A = some ⟨b, o, none⟩ → b ≠ q) : RdV w' g A c ws r k :=
  ⟨h.bk.only hO (by simpa using hg), h.rd.only hO hA, h.ne, h.le, h.sh⟩
theorem Own.newV {α : Type} {w : World} {base e sz n c : Nat} {enc : α → List Value} {A : Option Addr} {xs : List α} (h : Own w base e sz enc (.slice A n c) xs) : ∀ a, A = some a → base ≤ a.block := by
  rintro a rfl
  rcases h.2 with ⟨h2, _⟩ | ⟨g, cap, cur, hv, hg, _⟩
  · cases h2
  · injection hv with h1; injection h1 with h1; rw [h1]; exact hg
theorem rt_cells {w : World} {g : Nat} {T : TypeId} {r : Rt} (C : Blk w g T (rtA r)) : w.cell? ⟨g, 0, none⟩ = some (.int .u32 (r.p.a : Int)) ∧ w.cell? ⟨g, 1, none⟩ = some (.int .i64 r.p.l) ∧ w.cell? ⟨g, 2, none⟩ = some (.int .i64 r.s) ∧ w.cell? ⟨g, 3, none⟩ = some (.int .i64 r.m) ∧ w.cell? ⟨g, 4, none⟩ = some (.int .i64 r.l) ∧ w.cell? ⟨g, 5, none⟩ = some (.int .i64 r.f) ∧ w.cell? ⟨g, 6, none⟩ = some (.int .u32 (r.x : Int)) ∧ w.cell? ⟨g, 7, none⟩ = some (.int .i64 r.d) ∧ w.cell? ⟨g, 8, none⟩ = some (.bool r.c) :=
  ⟨C.cell 0, C.cell 1, C.cell 2, C.cell 3, C.cell 4, C.cell 5, C.cell 6, C.cell 7, C.cell 8⟩
def finW (r : Rt) : Option Rt := if rightB r = true then some r else none
theorem parseV_more {s h : List UInt8} {t : List (List UInt8)} {p : PI} (hs : ¬ 11 < (parted 32 s).length) (hp : parted 32 s = h :: t) (hx : pxP h = some p) :
    parseV s = (readSt (rt0 p, t)).bind fun q => (readLo q).bind fun q => (readBy q).bind fun q => (readEn q).bind finW := by
  unfold parseV
  rw [if_neg hs, hp, parseW, hx]
  unfold readAllV
  simp only
  cases readSt (rt0 p, t) with
  | none => rfl
  | some q =>
    simp only [Option.bind_some]
    cases readLo q with
    | none => rfl
    | some q =>
      simp only [Option.bind_some]
      cases readBy q with
      | none => rfl
      | some q =>
        simp only [Option.bind_some]
        cases readEn q with
        | none => rfl
        | some q => rfl
theorem parseV_bad {s h : List UInt8} {t : List (List UInt8)} (hp : parted 32 s = h :: t) (hx : pxP h = none) : parseV s = none := by
  unfold parseV
  split
  · rfl
  · rw [hp, parseW, hx]
theorem parseV_many {s : List UInt8} (h : ¬ (parted 32 s).length ≤ 11) : parseV s = none := by
  unfold parseV
  rw [if_pos (by omega)]
theorem endQ_some {r r' : Rt} {ws rest : List (List UInt8)} (h : endQ r ws = some (r', rest)) : readEn (r, ws) = some r' ∧ rest = [] := by
  unfold endQ at h
  cases hq : readEn (r, ws) with
  | none => rw [hq] at h; cases h
  | some x => rw [hq] at h; simp at h; exact ⟨by rw [h.1], h.2⟩
theorem endQ_none {r : Rt} {ws : List (List UInt8)} (h : endQ r ws = none) : readEn (r, ws) = none := by
  unfold endQ at h
  cases hq : readEn (r, ws) with
  | none => rfl
  | some x => rw [hq] at h; cases h
theorem read_bounds {p : PI} {ws t1 t2 t3 : List (List UInt8)} {r1 r2 r3 r4 : Rt} (hp : p.a < 4294967296) (h1 : readSt (rt0 p, ws) = some (r1, t1)) (h2 : readLo (r1, t1) = some (r2, t2)) (h3 : readBy (r2, t2) = some (r3, t3)) (h4 : readEn (r3, t3) = some r4) : r4.p.a < 4294967296 ∧ r4.x < 4294967296 := by
  have h : readAllV p ws = some r4 := by
    unfold readAllV
    rw [h1, Option.bind_some, h2, Option.bind_some, h3, Option.bind_some, h4]
  obtain ⟨a, _, _, _, b⟩ := readAllV_sound h
  exact ⟨by rw [a]; exact hp, b⟩
def ParseVw (s : ByteArray) (w : World) (e : Ending) (w' : World) : Prop :=
  Kp w w' ∧ (∀ r, parseV s.data.toList = some r → e = .returned (.tuple #[rtV r, .int .i64 0])) ∧ (parseV s.data.toList = none → e = .returned (.tuple #[rtV rtZ, .int .i64 250]))
set_option maxRecDepth 100000 in
set_option maxHeartbeats 8000000 in
theorem vparse_any (s : ByteArray) (hs : s.size ≤ 1000000) (w : World) (L : LibOk w) : Calls Tryz.prog 23 #[.string s] w (ParseVw s w) := by
  have hlen : s.data.toList.length = s.size := by rw [Array.length_toList]; rfl
  have b0 := (Blk.new w 45 (rtA rtZ)).alloc (.cells #[.int .i64 0] 29)
  have b1 := Blk.new1 w (.cells (rtA rtZ) 45) 29 #[.int .i64 0]
  have k1 : Kp w ((w.alloc (.cells (rtA rtZ) 45)).alloc (.cells #[.int .i64 0] 29)) := ((Kp.refl w).alloc _).alloc _
  go_enter_defers Tryz.func23, Tryz.ntmps23
  go_wp2_with fail
  obtain ⟨W, hW, kW, B0, B1⟩ : ∃ W, (w.alloc (.cells (rtA rtZ) 45)).alloc (.cells #[.int .i64 0] 29) = W ∧ Kp w W ∧ Blk W w.heap.size 45 (rtA rtZ) ∧ Blk W (w.heap.size + 1) 29 #[.int .i64 0] := ⟨_, rfl, k1, b0, b1⟩
  simp only [rtA, rtZ] at hW
  rw [show ((0 : Nat) : Int) = 0 from rfl] at hW
  rw [hW]
  have hW2 : w.heap.size + 1 < W.heap.size := B1.lt
  clear hW b0 b1 k1
  refine (vwords_any s hs W).mono ?_
  rintro e w1 ⟨hY, hN, hK1⟩
  have B0 := B0.keep hK1
  have B1 := B1.keep hK1
  have kw1 := kW.trans hK1
  have hWs := hK1.size
  by_cases h6 : (parted 32 s.data.toList).length ≤ 11
  case neg =>
    obtain rfl := hN h6
    have Hn := Lib.hid (parseV_many h6)
    clear hY hN h6
    refine leaves_cons (f := 61) (args := #[.pointer (some ⟨w.heap.size, 0, none⟩), .pointer (some ⟨w.heap.size + 1, 0, none⟩)]) (by simp) (by simp [go_sem]) ?_
    refine (catch_view _ _ _ _ 250 w1 (B0) (B1) (by omega)).mono ?_
    rintro e u' wz ⟨rfl, rfl, C0, C1, hOz⟩
    obtain ⟨q0, q1, q2, q3, q4, q5, q6, q7, q8⟩ := rt_cells C0
    have q9 : wz.cell? ⟨w.heap.size + 1, 0, none⟩ = some (.int .i64 250) := C1.cell 0
    show Leaves _ _ _ _ [] .returning _
    exact ⟨.tuple #[rtV rtZ, .int .i64 250], by simp [results, Tryz.results23, go_sem, q0, q1, q2, q3, q4, q5, q6, q7, q8, q9], hOz.kp (kw1) (by simp), fun a ha => (by rw [Hn.out] at ha; cases ha), fun _ => rfl⟩
  case pos =>
    obtain ⟨v, rfl, hown⟩ := hY h6
    clear hY hN
    obtain ⟨hd, ws, hp⟩ : ∃ hd ws, parted 32 s.data.toList = hd :: ws := by
      cases hp : parted 32 s.data.toList with
      | nil => exact absurd hp (parted_ne _ _)
      | cons a b => exact ⟨a, b, rfl⟩
    have hle : ∀ u ∈ hd :: ws, u.length ≤ 1000000 := by
      intro u hu
      rw [← hp] at hu
      have := parted_le 32 _ u hu
      omega
    have Hle := Lib.hid hle
    have Hbad := Lib.hid (fun (hx : pxP hd = none) => parseV_bad hp hx)
    have Hmore := Lib.hid (fun p (hx : pxP hd = some p) => parseV_more (by omega) hp hx)
    rw [hp] at hown h6
    clear hp hle
    obtain ⟨A, c, hv⟩ := hown.form
    subst hv
    have hRw := hown.rdAt (by decide) strE_len
    have hlt : ∀ b o, A = some ⟨b, o, none⟩ → b < w1.heap.size := by
      rintro b o rfl
      obtain ⟨b', o', e', hcw⟩ := hRw 0 (by simp)
      injection e' with e'
      injection e' with e1 e2
      subst e1
      exact World.block_lt_of_cell? w1 _ (hcw 0 _ rfl)
    have hAn : ∀ b o, A = some ⟨b, o, none⟩ → b ≠ w.heap.size + 1 := fun b o e => by have := hown.newV _ e; simp only at this; omega
    have HAn := Lib.hid hAn
    clear hAn
    have BG := Blk.new w1 119 (rdC (rt0 ⟨0, 0⟩) (.slice A (hd :: ws).length c) ((0 : Nat) : Int))
    have KG : Kp w1 (w1.alloc (.cells (rdC (rt0 ⟨0, 0⟩) (.slice A (hd :: ws).length c) ((0 : Nat) : Int)) 119)) := (Kp.refl w1).alloc _
    have RG := Lib.hid (show RdV (w1.alloc (.cells (rdC (rt0 ⟨0, 0⟩) (.slice A (hd :: ws).length c) ((0 : Nat) : Int)) 119)) w1.heap.size A c (hd :: ws) (rt0 ⟨0, 0⟩) 0 from ⟨BG, hRw.keep KG, fun b o e => by have := hlt b o e; omega, by omega, h6⟩)
    have PG := Lib.hid (show PvR w w1.heap.size (.int .i64 0) (w1.alloc (.cells (rdC (rt0 ⟨0, 0⟩) (.slice A (hd :: ws).length c) ((0 : Nat) : Int)) 119)) from ⟨kw1.trans KG, B0.keep KG, B1.keep KG, B1.lt⟩)
    clear hRw hown hlt BG KG B0 B1
    go_wp2_with fail
    have hhd : (strB hd).size ≤ 1000000 := by rw [sz_strB]; exact Hle.out hd (by simp)
    have hgw : w.heap.size ≤ w1.heap.size := kw1.size
    obtain ⟨g, hg⟩ : ∃ g, w1.heap.size = g := ⟨_, rfl⟩
    obtain ⟨W1, hW1, RG, PG⟩ : ∃ W1, w1.alloc (.cells (rdC (rt0 ⟨0, 0⟩) (.slice A (hd :: ws).length c) ((0 : Nat) : Int)) 119) = W1 ∧ Hid (RdV W1 w1.heap.size A c (hd :: ws) (rt0 ⟨0, 0⟩) 0) ∧ Hid (PvR w w1.heap.size (.int .i64 0) W1) := ⟨_, rfl, RG, PG⟩
    simp only [rdC, rt0, List.length_cons] at hW1
    rw [show ((0 : Nat) : Int) = 0 from rfl] at hW1
    rw [hW1]
    rw [hg] at RG PG hgw ⊢
    clear hW1 hg
    refine (next_yes _ RG.out rfl).mono ?_
    rintro e w2 ⟨rfl, R2, O2⟩
    have HR2 := Lib.hid R2
    have P2 := Lib.hid (PG.out.only O2)
    clear R2 O2 RG PG
    go_wp2_with fail
    refine (pparse_any (strB hd) hhd _).mono ?_
    rintro e w3 ⟨K3, hY, hN⟩
    rw [strB_list] at hY hN
    have HR3 := Lib.hid (HR2.out.keep K3)
    have P3 := Lib.hid (P2.out.keep K3)
    clear K3 HR2 P2
    have q1 : w3.cell? ⟨w.heap.size + 1, 0, none⟩ = some (.int .i64 0) := P3.out.p1.cell 0
    have z1 := P3.out.p1.frozen 0
    have hp1 := P3.out.p1.lt
    have n1 : ¬ w.heap.size + 1 = w3.heap.size := by omega
    have n1' : ¬ w3.heap.size = w.heap.size + 1 := by omega
    cases hx : pxP hd with
    | none =>
      obtain rfl := hN hx
      have Hn := Lib.hid (Hbad.out hx)
      have P4 := Lib.hid ((P3.out.put 120).keep ((Kp.refl _).alloc (.cells #[.int .u32 0, .int .i64 0] 42)))
      clear hY hN hx
      go_wp2_with (first | (go_at_call 65; refine (vneed_no _ _).mono ?_; rintro e w' ⟨rfl, rfl⟩))
      refine leaves_cons (f := 61) (args := #[.pointer (some ⟨w.heap.size, 0, none⟩), .pointer (some ⟨w.heap.size + 1, 0, none⟩)]) (by simp) (by simp [go_sem]) ?_
      refine (catch_view _ _ _ _ 250 _ (P4.out.p0) (P4.out.p1) (by omega)).mono ?_
      rintro e u' wz ⟨rfl, rfl, C0, C1, hOz⟩
      obtain ⟨q0, q1, q2, q3, q4, q5, q6, q7, q8⟩ := rt_cells C0
      have q9 : wz.cell? ⟨w.heap.size + 1, 0, none⟩ = some (.int .i64 250) := C1.cell 0
      show Leaves _ _ _ _ [] .returning _
      exact ⟨.tuple #[rtV rtZ, .int .i64 250], by simp [results, Tryz.results23, go_sem, q0, q1, q2, q3, q4, q5, q6, q7, q8, q9], hOz.kp (P4.out.kp) (by simp), fun a ha => (by rw [Hn.out] at ha; cases ha), fun _ => rfl⟩
    | some p =>
      obtain rfl := hY p hx
      have Hm := Lib.hid (Hmore.out p hx)
      have Hpx := Lib.hid (pxP_sound hx).2.2
      clear hY hN hx
      go_wp2_with fail
      obtain ⟨W4, hW4, P4, R4, BP⟩ : ∃ W4, (w3.setCell ⟨w.heap.size + 1, 0, none⟩ (.int .i64 0)).alloc (.cells #[.int .u32 (p.a : Int), .int .i64 p.l] 42) = W4 ∧ Hid (PvR w g (.int .i64 0) W4) ∧ Hid (RdV W4 g A c (hd :: ws) (rt0 ⟨0, 0⟩) (0 + 1)) ∧ Blk W4 w3.heap.size 42 #[.int .u32 (p.a : Int), .int .i64 p.l] :=
        ⟨_, rfl, Lib.hid ((P3.out.put 0).keep ((Kp.refl _).alloc _)), Lib.hid (HR3.out.apart (((Only.refl [w.heap.size + 1] w3).setCell (p := ⟨w.heap.size + 1, 0, none⟩) (.inl (by simp)) (.int .i64 0)).alloc _) (by have := P3.out.ge; omega) HAn.out), by simpa using Blk.new (w3.setCell ⟨w.heap.size + 1, 0, none⟩ (.int .i64 0)) 42 #[.int .u32 (p.a : Int), .int .i64 p.l]⟩
      rw [hW4]
      clear hW4 q1 z1 n1 n1'
      refine (vneed_ok _ _).mono ?_
      rintro e W4 ⟨rfl, rfl⟩
      have b0 : W4.cell? ⟨w3.heap.size, 0, none⟩ = some (.int .u32 (p.a : Int)) := BP.cell 0
      have b1 : W4.cell? ⟨w3.heap.size, 1, none⟩ = some (.int .i64 p.l) := BP.cell 1
      have g0 : W4.cell? ⟨g, 0, none⟩ = some (.int .u32 0) := R4.out.bk.cell 0
      have g1 : W4.cell? ⟨g, 1, none⟩ = some (.int .i64 0) := R4.out.bk.cell 1
      have z0 := R4.out.bk.frozen 0
      have z1 := R4.out.bk.frozen 1
      have hO5 := ((Only.refl [g] W4).setCell (p := ⟨g, 0, none⟩) (.inl (by simp)) (.int .u32 (p.a : Int))).setCell (p := ⟨g, 1, none⟩) (.inl (by simp)) (.int .i64 p.l)
      obtain ⟨W5, hW5, P5, R5⟩ : ∃ W5, (W4.setCell ⟨g, 0, none⟩ (.int .u32 (p.a : Int))).setCell ⟨g, 1, none⟩ (.int .i64 p.l) = W5 ∧ Hid (PvR w g (.int .i64 0) W5) ∧ Hid (RdV W5 g A c (hd :: ws) (rt0 p) (0 + 1)) :=
        ⟨_, rfl, Lib.hid (P4.out.only hO5), Lib.hid (R4.out.only hO5 (by simpa [rdC, rt0] using (R4.out.bk.set_ 0 (.int .u32 (p.a : Int))).set_ 1 (.int .i64 p.l)) (by simp))⟩
      clear hO5
      go_wp2_with fail
      obtain ⟨f, hf⟩ : ∃ f, W5.heap.size = f := ⟨_, rfl⟩
      obtain ⟨W6, hW6, P6, R6, BF, hgf⟩ : ∃ W6, W5.alloc (.cells #[.func (.func 66) #[.pointer (some ⟨g, 0, none⟩)] #[], .func (.func 67) #[.pointer (some ⟨g, 0, none⟩)] #[], .func (.func 68) #[.pointer (some ⟨g, 0, none⟩)] #[], .func (.func 69) #[.pointer (some ⟨g, 0, none⟩)] #[]] 1) = W6 ∧ Hid (PvR w g (.int .i64 0) W6) ∧ Hid (RdV W6 g A c (hd :: ws) (rt0 p) (0 + 1)) ∧ Blk W6 f 1 #[.func (.func 66) #[.pointer (some ⟨g, 0, none⟩)] #[], .func (.func 67) #[.pointer (some ⟨g, 0, none⟩)] #[], .func (.func 68) #[.pointer (some ⟨g, 0, none⟩)] #[], .func (.func 69) #[.pointer (some ⟨g, 0, none⟩)] #[]] ∧ f ∉ [g] :=
        ⟨_, rfl, Lib.hid (P5.out.keep ((Kp.refl _).alloc _)), Lib.hid (R5.out.keep ((Kp.refl _).alloc _)), by rw [← hf]; exact Blk.new _ _ _, by have := R5.out.bk.lt; simp; omega⟩
      rw [hW6]
      rw [hf]
      clear hW6 hf P5 R5 P4 R4 hW5
      have Hgf := Lib.hid hgf
      clear hgf b0 b1 g0 g1 z0 z1 BP hp1 HR3 P3
      have b0 : W6.cell? ⟨f, 0, none⟩ = some (.func (.func 66) #[.pointer (some ⟨g, 0, none⟩)] #[]) := BF.cell 0
      refine wp_loop_rounds 5 ?_
      rw [rounds_succ]
      go_wp2_with fail
      refine (stateV_any _ L P6.out.kp hgw R6.out rfl Hle.out).mono ?_
      rintro e W7 hS
      have hS : StepV g A c (hd :: ws) (readSt (rt0 p, ws)) W6 e W7 := hS
      cases hq : readSt (rt0 p, ws) with
      | none =>
        obtain ⟨rfl, O7⟩ := hS.2 hq
        have Hn := Lib.hid (show parseV s.data.toList = none by rw [Hm.out, hq]; rfl)
        have P7 := Lib.hid (P6.out.only O7)
        clear hS hq O7 BF b0
        refine leaves_cons (f := 61) (args := #[.pointer (some ⟨w.heap.size, 0, none⟩), .pointer (some ⟨w.heap.size + 1, 0, none⟩)]) (by simp) (by simp [go_sem]) ?_
        refine (catch_view _ _ _ _ 250 _ (P7.out.p0) (P7.out.p1) (by omega)).mono ?_
        rintro e u' wz ⟨rfl, rfl, C0, C1, hOz⟩
        obtain ⟨q0, q1, q2, q3, q4, q5, q6, q7, q8⟩ := rt_cells C0
        have q9 : wz.cell? ⟨w.heap.size + 1, 0, none⟩ = some (.int .i64 250) := C1.cell 0
        show Leaves _ _ _ _ [] .returning _
        exact ⟨.tuple #[rtV rtZ, .int .i64 250], by simp [results, Tryz.results23, go_sem, q0, q1, q2, q3, q4, q5, q6, q7, q8, q9], hOz.kp (P7.out.kp) (by simp), fun a ha => (by rw [Hn.out] at ha; cases ha), fun _ => rfl⟩
      | some q =>
        obtain ⟨r1, t1⟩ := q
        obtain ⟨rfl, O7, k1, hd1, R7⟩ := hS.1 r1 t1 hq
        have Hq1 := Lib.hid hq
        have Hm1 := Lib.hid (show parseV s.data.toList = (readLo (r1, t1)).bind fun q => (readBy q).bind fun q => (readEn q).bind finW by rw [Hm.out, hq]; rfl)
        have P7 := Lib.hid (P6.out.only O7)
        have R7 := Lib.hid R7
        have BF := BF.only O7 Hgf.out
        clear hS hq O7 b0
        have b1 : W7.cell? ⟨f, 1, none⟩ = some (.func (.func 67) #[.pointer (some ⟨g, 0, none⟩)] #[]) := BF.cell 1
        go_wp2_with fail
        rw [rounds_succ]
        go_wp2_with fail
        refine (lost_any _ L P7.out.kp hgw R7.out Hle.out).mono ?_
        rintro e W8 hS
        rw [hd1] at hS
        cases hq : readLo (r1, t1) with
        | none =>
          obtain ⟨rfl, O8⟩ := hS.2 hq
          have Hn := Lib.hid (show parseV s.data.toList = none by rw [Hm1.out, hq]; rfl)
          have P8 := Lib.hid (P7.out.only O8)
          clear hS hq O8 BF b1
          refine leaves_cons (f := 61) (args := #[.pointer (some ⟨w.heap.size, 0, none⟩), .pointer (some ⟨w.heap.size + 1, 0, none⟩)]) (by simp) (by simp [go_sem]) ?_
          refine (catch_view _ _ _ _ 250 _ (P8.out.p0) (P8.out.p1) (by omega)).mono ?_
          rintro e u' wz ⟨rfl, rfl, C0, C1, hOz⟩
          obtain ⟨q0, q1, q2, q3, q4, q5, q6, q7, q8⟩ := rt_cells C0
          have q9 : wz.cell? ⟨w.heap.size + 1, 0, none⟩ = some (.int .i64 250) := C1.cell 0
          show Leaves _ _ _ _ [] .returning _
          exact ⟨.tuple #[rtV rtZ, .int .i64 250], by simp [results, Tryz.results23, go_sem, q0, q1, q2, q3, q4, q5, q6, q7, q8, q9], hOz.kp (P8.out.kp) (by simp), fun a ha => (by rw [Hn.out] at ha; cases ha), fun _ => rfl⟩
        | some q =>
          obtain ⟨r2, t2⟩ := q
          obtain ⟨rfl, O8, k2, hd2, R8⟩ := hS.1 r2 t2 hq
          have Hq2 := Lib.hid hq
          have Hm2 := Lib.hid (show parseV s.data.toList = (readBy (r2, t2)).bind fun q => (readEn q).bind finW by rw [Hm1.out, hq]; rfl)
          have P8 := Lib.hid (P7.out.only O8)
          have R8 := Lib.hid R8
          have BF := BF.only O8 Hgf.out
          clear hS hq O8 b1
          have b2 : W8.cell? ⟨f, 2, none⟩ = some (.func (.func 68) #[.pointer (some ⟨g, 0, none⟩)] #[]) := BF.cell 2
          go_wp2_with fail
          rw [rounds_succ]
          go_wp2_with fail
          refine (byV_any _ L P8.out.kp hgw R8.out Hle.out).mono ?_
          rintro e W9 hS
          rw [hd2] at hS
          cases hq : readBy (r2, t2) with
          | none =>
            obtain ⟨rfl, O9⟩ := hS.2 hq
            have Hn := Lib.hid (show parseV s.data.toList = none by rw [Hm2.out, hq]; rfl)
            have P9 := Lib.hid (P8.out.only O9)
            clear hS hq O9 BF b2
            refine leaves_cons (f := 61) (args := #[.pointer (some ⟨w.heap.size, 0, none⟩), .pointer (some ⟨w.heap.size + 1, 0, none⟩)]) (by simp) (by simp [go_sem]) ?_
            refine (catch_view _ _ _ _ 250 _ (P9.out.p0) (P9.out.p1) (by omega)).mono ?_
            rintro e u' wz ⟨rfl, rfl, C0, C1, hOz⟩
            obtain ⟨q0, q1, q2, q3, q4, q5, q6, q7, q8⟩ := rt_cells C0
            have q9 : wz.cell? ⟨w.heap.size + 1, 0, none⟩ = some (.int .i64 250) := C1.cell 0
            show Leaves _ _ _ _ [] .returning _
            exact ⟨.tuple #[rtV rtZ, .int .i64 250], by simp [results, Tryz.results23, go_sem, q0, q1, q2, q3, q4, q5, q6, q7, q8, q9], hOz.kp (P9.out.kp) (by simp), fun a ha => (by rw [Hn.out] at ha; cases ha), fun _ => rfl⟩
          | some q =>
            obtain ⟨r3, t3⟩ := q
            obtain ⟨rfl, O9, k3, hd3, R9⟩ := hS.1 r3 t3 hq
            have Hq3 := Lib.hid hq
            have Hm3 := Lib.hid (show parseV s.data.toList = (readEn (r3, t3)).bind finW by rw [Hm2.out, hq]; rfl)
            have P9 := Lib.hid (P8.out.only O9)
            have R9 := Lib.hid R9
            have BF := BF.only O9 Hgf.out
            clear hS hq O9 b2
            have b3 : W9.cell? ⟨f, 3, none⟩ = some (.func (.func 69) #[.pointer (some ⟨g, 0, none⟩)] #[]) := BF.cell 3
            go_wp2_with fail
            rw [rounds_succ]
            go_wp2_with fail
            refine (endV_any _ R9.out).mono ?_
            rintro e W10 hS
            rw [hd3] at hS
            cases hq : endQ r3 t3 with
            | none =>
              obtain ⟨rfl, O10⟩ := hS.2 hq
              have Hn := Lib.hid (show parseV s.data.toList = none by rw [Hm3.out, endQ_none hq]; rfl)
              have P10 := Lib.hid (P9.out.only O10)
              clear hS hq O10 BF b3
              refine leaves_cons (f := 61) (args := #[.pointer (some ⟨w.heap.size, 0, none⟩), .pointer (some ⟨w.heap.size + 1, 0, none⟩)]) (by simp) (by simp [go_sem]) ?_
              refine (catch_view _ _ _ _ 250 _ (P10.out.p0) (P10.out.p1) (by omega)).mono ?_
              rintro e u' wz ⟨rfl, rfl, C0, C1, hOz⟩
              obtain ⟨q0, q1, q2, q3, q4, q5, q6, q7, q8⟩ := rt_cells C0
              have q9 : wz.cell? ⟨w.heap.size + 1, 0, none⟩ = some (.int .i64 250) := C1.cell 0
              show Leaves _ _ _ _ [] .returning _
              exact ⟨.tuple #[rtV rtZ, .int .i64 250], by simp [results, Tryz.results23, go_sem, q0, q1, q2, q3, q4, q5, q6, q7, q8, q9], hOz.kp (P10.out.kp) (by simp), fun a ha => (by rw [Hn.out] at ha; cases ha), fun _ => rfl⟩
            | some q =>
              obtain ⟨r4, t4⟩ := q
              obtain ⟨rfl, O10, k4, hd4, R10⟩ := hS.1 r4 t4 hq
              have Hm4 := Lib.hid (show parseV s.data.toList = finW r4 by rw [Hm3.out, (endQ_some hq).1]; rfl)
              have Hbd := Lib.hid (show True ∧ True ∧ r4.p.a < 4294967296 ∧ r4.x < 4294967296 from ⟨trivial, trivial, read_bounds Hpx.out Hq1.out Hq2.out Hq3.out (endQ_some hq).1⟩)
              have P10 := Lib.hid (P9.out.only O10)
              have R10 := Lib.hid R10
              have BF := BF.only O10 Hgf.out
              clear hS hq O10 b3
              go_wp2_with fail
              rw [rounds_succ]
              have BG := R10.out.bk
              have g0 : W10.cell? ⟨g, 0, none⟩ = some (.int .u32 (r4.p.a : Int)) := BG.cell 0
              have g1 : W10.cell? ⟨g, 1, none⟩ = some (.int .i64 r4.p.l) := BG.cell 1
              have g2 : W10.cell? ⟨g, 2, none⟩ = some (.int .i64 r4.s) := BG.cell 2
              have g3 : W10.cell? ⟨g, 3, none⟩ = some (.int .i64 r4.m) := BG.cell 3
              have g4 : W10.cell? ⟨g, 4, none⟩ = some (.int .i64 r4.l) := BG.cell 4
              have g5 : W10.cell? ⟨g, 5, none⟩ = some (.int .i64 r4.f) := BG.cell 5
              have g6 : W10.cell? ⟨g, 6, none⟩ = some (.int .u32 (r4.x : Int)) := BG.cell 6
              have g7 : W10.cell? ⟨g, 7, none⟩ = some (.int .i64 r4.d) := BG.cell 7
              have g8 : W10.cell? ⟨g, 8, none⟩ = some (.bool r4.c) := BG.cell 8
              clear BG BF
              go_wp2_with fail
              obtain ⟨_, _, hpa, hxa⟩ : True ∧ True ∧ r4.p.a < 4294967296 ∧ r4.x < 4294967296 := Hbd.out
              by_cases hrb : rightB r4 = true
              case neg =>
                have hck : checkR r4 = 2 := if_neg hrb
                have Hn := Lib.hid (show parseV s.data.toList = none by rw [Hm4.out, finW, if_neg hrb])
                refine (checkR_any r4 _ hpa hxa).mono ?_
                rintro e W11 ⟨rfl, K11⟩
                rw [hck]
                have P11 := Lib.hid (P10.out.keep K11)
                clear hrb hck
                go_wp2_with (first | (go_at_call 65; refine (vneed_no _ _).mono ?_; rintro e w' ⟨rfl, rfl⟩))
                refine leaves_cons (f := 61) (args := #[.pointer (some ⟨w.heap.size, 0, none⟩), .pointer (some ⟨w.heap.size + 1, 0, none⟩)]) (by simp) (by simp [go_sem]) ?_
                refine (catch_view _ _ _ _ 250 _ (P11.out.p0) (P11.out.p1) (by omega)).mono ?_
                rintro e u' wz ⟨rfl, rfl, C0, C1, hOz⟩
                obtain ⟨q0, q1, q2, q3, q4, q5, q6, q7, q8⟩ := rt_cells C0
                have q9 : wz.cell? ⟨w.heap.size + 1, 0, none⟩ = some (.int .i64 250) := C1.cell 0
                show Leaves _ _ _ _ [] .returning _
                exact ⟨.tuple #[rtV rtZ, .int .i64 250], by simp [results, Tryz.results23, go_sem, q0, q1, q2, q3, q4, q5, q6, q7, q8, q9], hOz.kp (P11.out.kp) (by simp), fun a ha => (by rw [Hn.out] at ha; cases ha), fun _ => rfl⟩
              case pos =>
                have hck : checkR r4 = 0 := if_pos hrb
                have Hy := Lib.hid (show parseV s.data.toList = some r4 by rw [Hm4.out, finW, if_pos hrb])
                refine (checkR_any r4 _ hpa hxa).mono ?_
                rintro e W11 ⟨rfl, K11⟩
                rw [hck]
                have P11 := Lib.hid (P10.out.keep K11)
                replace g0 := K11.cell g0
                replace g1 := K11.cell g1
                replace g2 := K11.cell g2
                replace g3 := K11.cell g3
                replace g4 := K11.cell g4
                replace g5 := K11.cell g5
                replace g6 := K11.cell g6
                replace g7 := K11.cell g7
                replace g8 := K11.cell g8
                obtain ⟨e0, e1, e2, e3, e4, e5, e6, e7, e8⟩ := rt_cells P11.out.p0
                have e9 : W11.cell? ⟨w.heap.size + 1, 0, none⟩ = some (.int .i64 0) := P11.out.p1.cell 0
                have z0 := P11.out.p0.frozen 0
                have z1 := P11.out.p0.frozen 1
                have z2 := P11.out.p0.frozen 2
                have z3 := P11.out.p0.frozen 3
                have z4 := P11.out.p0.frozen 4
                have z5 := P11.out.p0.frozen 5
                have z6 := P11.out.p0.frozen 6
                have z7 := P11.out.p0.frozen 7
                have z8 := P11.out.p0.frozen 8
                have z9 := P11.out.p1.frozen 0
                have hge := P11.out.ge
                have ng0 : ¬ w.heap.size = g := by omega
                have ng1 : ¬ w.heap.size + 1 = g := by omega
                clear hrb hck
                go_wp2_with (first | (go_at_call 65; refine (vneed_ok _ _).mono ?_; rintro e W11 ⟨rfl, rfl⟩))
                refine leaves_cons (f := 61) (args := #[.pointer (some ⟨w.heap.size, 0, none⟩), .pointer (some ⟨w.heap.size + 1, 0, none⟩)]) (by simp) (by simp [go_sem]) ?_
                refine (idle_view _ _ _).mono ?_
                rintro e u' wz ⟨rfl, rfl, hKz⟩
                have C0 := P11.out.p0
                have C1 := P11.out.p1
                have D0 := ((C0.putRt r4).far (p := ⟨w.heap.size + 1, 0, none⟩) (by simp) (.int .i64 0)).keep hKz
                have D1 := ((C1.putRt_far (p := w.heap.size) (by omega) r4).set_ 0 (.int .i64 0)).keep hKz
                have hO1 := (Only.refl [w.heap.size] W11).putRt (g := w.heap.size) (.inl (by simp)) r4
                have hO2 := (Only.refl [w.heap.size + 1] (rtSet W11 w.heap.size r4)).setCell (p := ⟨w.heap.size + 1, 0, none⟩) (.inl (by simp)) (.int .i64 0)
                have kz := (hO2.kp (hO1.kp P11.out.kp (by simp)) (by simp)).trans hKz
                obtain ⟨y0, y1, y2, y3, y4, y5, y6, y7, y8⟩ := rt_cells D0
                have y9 : wz.cell? ⟨w.heap.size + 1, 0, none⟩ = some (.int .i64 0) := D1.cell 0
                show Leaves _ _ _ _ [] .returning _
                exact ⟨.tuple #[rtV r4, .int .i64 0], by simp [results, Tryz.results23, go_sem, y0, y1, y2, y3, y4, y5, y6, y7, y8, y9], kz, fun a ha => (by rw [Hy.out, Option.some.injEq] at ha; subst ha; rfl), fun h => (by rw [Hy.out] at h; cases h)⟩
end Go.Proofs.YtbfimimhgdkpaaaGreatDoor

/- Layer 25: num, net, works. No condition but the library's variables. -/
namespace Go.Proofs.YtbfimimhgdkpaaaGreatDoor
open Go.RowKit

theorem num25_any (n : Int) (w : World) : Calls Tryz.prog 21 #[.int .i64 n] w fun e w' => e = .returned (.int .i64 n) ∧ w = w' := by
  go_enter Tryz.func21, Tryz.ntmps21
  go_wp2_with fail
  go_ret
  exact ⟨rfl, rfl⟩
theorem net25_1 (w : World) : Calls Tryz.prog 60 #[.int .u32 1] w fun e w' => e = .returned (.agg #[.int .u32 167837696, .int .i64 16]) ∧ Kp w w' := by
  go_enter Tryz.func60, Tryz.ntmps60
  go_wp2_with fail
  exact bodyPost_ret (v := .agg #[.int .u32 167837696, .int .i64 16]) (by simp [results, Tryz.results60, go_sem]) rfl ⟨rfl, (Kp.refl w).alloc _⟩
theorem net25_5 (w : World) : Calls Tryz.prog 60 #[.int .u32 5] w fun e w' => e = .returned (.agg #[.int .u32 168099840, .int .i64 16]) ∧ Kp w w' := by
  go_enter Tryz.func60, Tryz.ntmps60
  go_wp2_with fail
  exact bodyPost_ret (v := .agg #[.int .u32 168099840, .int .i64 16]) (by simp [results, Tryz.results60, go_sem]) rfl ⟨rfl, (Kp.refl w).alloc _⟩
theorem line25_1 : lineB ⟨⟨167837696, 16⟩, 1, 1, 0, 0, 0, 0, true⟩ = true := by decide +kernel
theorem text25_1 : textR ⟨⟨167837696, 16⟩, 1, 1, 0, 0, 0, 0, true⟩ = [49, 48, 46, 49, 46, 48, 46, 48, 47, 49, 54, 32, 100, 105, 114, 101, 99, 116, 32, 49, 32, 99, 104, 97, 110, 103, 101, 100] := by decide +kernel
theorem wtext25_1 (w : World) (L : LibOk w) : Calls Tryz.prog 19 #[.agg #[.int .u32 167837696, .int .i64 16, .int .i64 1, .int .i64 1, .int .i64 0, .int .i64 0, .int .u32 0, .int .i64 0, .bool true]] w fun en w' => en = .returned (.tuple #[.string ⟨#[49, 48, 46, 49, 46, 48, 46, 48, 47, 49, 54, 32, 100, 105, 114, 101, 99, 116, 32, 49, 32, 99, 104, 97, 110, 103, 101, 100]⟩, .int .i64 0]) ∧ Kp w w' := by
  have h := vtext_any ⟨⟨167837696, 16⟩, 1, 1, 0, 0, 0, 0, true⟩ w L (by constructor <;> decide)
  rw [if_pos line25_1, text25_1] at h
  exact h
theorem line25_2 : lineB ⟨⟨168099840, 16⟩, 2, 3, 0, 0, 167772418, 16, false⟩ = true := by decide +kernel
theorem text25_2 : textR ⟨⟨168099840, 16⟩, 2, 3, 0, 0, 167772418, 16, false⟩ = [49, 48, 46, 53, 46, 48, 46, 48, 47, 49, 54, 32, 118, 97, 108, 105, 100, 32, 51, 32, 98, 121, 32, 48, 32, 49, 48, 46, 48, 46, 49, 46, 50, 32, 100, 117, 101, 32, 49, 54] := by decide +kernel
theorem wtext25_2 (w : World) (L : LibOk w) : Calls Tryz.prog 19 #[.agg #[.int .u32 168099840, .int .i64 16, .int .i64 2, .int .i64 3, .int .i64 0, .int .i64 0, .int .u32 167772418, .int .i64 16, .bool false]] w fun en w' => en = .returned (.tuple #[.string ⟨#[49, 48, 46, 53, 46, 48, 46, 48, 47, 49, 54, 32, 118, 97, 108, 105, 100, 32, 51, 32, 98, 121, 32, 48, 32, 49, 48, 46, 48, 46, 49, 46, 50, 32, 100, 117, 101, 32, 49, 54]⟩, .int .i64 0]) ∧ Kp w w' := by
  have h := vtext_any ⟨⟨168099840, 16⟩, 2, 3, 0, 0, 167772418, 16, false⟩ w L (by constructor <;> decide)
  rw [if_pos line25_2, text25_2] at h
  exact h
theorem line25_3 : lineB ⟨⟨168099840, 16⟩, 3, 16, 3, 0, 167772418, 17, false⟩ = true := by decide +kernel
theorem text25_3 : textR ⟨⟨168099840, 16⟩, 3, 16, 3, 0, 167772418, 17, false⟩ = [49, 48, 46, 53, 46, 48, 46, 48, 47, 49, 54, 32, 104, 111, 108, 100, 32, 49, 54, 32, 111, 102, 32, 51, 32, 98, 121, 32, 48, 32, 49, 48, 46, 48, 46, 49, 46, 50, 32, 100, 117, 101, 32, 49, 55] := by decide +kernel
theorem wtext25_3 (w : World) (L : LibOk w) : Calls Tryz.prog 19 #[.agg #[.int .u32 168099840, .int .i64 16, .int .i64 3, .int .i64 16, .int .i64 3, .int .i64 0, .int .u32 167772418, .int .i64 17, .bool false]] w fun en w' => en = .returned (.tuple #[.string ⟨#[49, 48, 46, 53, 46, 48, 46, 48, 47, 49, 54, 32, 104, 111, 108, 100, 32, 49, 54, 32, 111, 102, 32, 51, 32, 98, 121, 32, 48, 32, 49, 48, 46, 48, 46, 49, 46, 50, 32, 100, 117, 101, 32, 49, 55]⟩, .int .i64 0]) ∧ Kp w w' := by
  have h := vtext_any ⟨⟨168099840, 16⟩, 3, 16, 3, 0, 167772418, 17, false⟩ w L (by constructor <;> decide)
  rw [if_pos line25_3, text25_3] at h
  exact h
theorem parse25_1 : parseV [49, 48, 46, 53, 46, 48, 46, 48, 47, 49, 54, 32, 118, 97, 108, 105, 100, 32, 48, 51, 32, 98, 121, 32, 48, 32, 49, 48, 46, 48, 46, 49, 46, 50, 32, 100, 117, 101, 32, 49, 54] = none := by decide +kernel
theorem wparse25_1 (w : World) (L : LibOk w) : Calls Tryz.prog 23 #[.string ⟨#[49, 48, 46, 53, 46, 48, 46, 48, 47, 49, 54, 32, 118, 97, 108, 105, 100, 32, 48, 51, 32, 98, 121, 32, 48, 32, 49, 48, 46, 48, 46, 49, 46, 50, 32, 100, 117, 101, 32, 49, 54]⟩] w fun en w' => en = .returned (.tuple #[.agg #[.int .u32 0, .int .i64 0, .int .i64 0, .int .i64 0, .int .i64 0, .int .i64 0, .int .u32 0, .int .i64 0, .bool false], .int .i64 250]) ∧ Kp w w' := by
  refine (vparse_any ⟨#[49, 48, 46, 53, 46, 48, 46, 48, 47, 49, 54, 32, 118, 97, 108, 105, 100, 32, 48, 51, 32, 98, 121, 32, 48, 32, 49, 48, 46, 48, 46, 49, 46, 50, 32, 100, 117, 101, 32, 49, 54]⟩ (by decide) w L).mono ?_
  rintro en w' ⟨hK, _, hN⟩
  exact ⟨hN parse25_1, hK⟩
theorem parse25_2 : parseV [49, 48, 46, 53, 46, 48, 46, 48, 47, 49, 54, 32, 110, 111, 110, 101, 32, 48] = none := by decide +kernel
theorem wparse25_2 (w : World) (L : LibOk w) : Calls Tryz.prog 23 #[.string ⟨#[49, 48, 46, 53, 46, 48, 46, 48, 47, 49, 54, 32, 110, 111, 110, 101, 32, 48]⟩] w fun en w' => en = .returned (.tuple #[.agg #[.int .u32 0, .int .i64 0, .int .i64 0, .int .i64 0, .int .i64 0, .int .i64 0, .int .u32 0, .int .i64 0, .bool false], .int .i64 250]) ∧ Kp w w' := by
  refine (vparse_any ⟨#[49, 48, 46, 53, 46, 48, 46, 48, 47, 49, 54, 32, 110, 111, 110, 101, 32, 48]⟩ (by decide) w L).mono ?_
  rintro en w' ⟨hK, _, hN⟩
  exact ⟨hN parse25_2, hK⟩
set_option maxRecDepth 100000 in
set_option maxHeartbeats 4000000 in
theorem works25_any (w : World) (L : LibOk w) : Calls Tryz.prog 22 #[] w fun e w' => e = .returned (.bool true) ∧ Kp w w' := by
  have HL := Lib.hid L; clear L
  go_enter Tryz.func22, Tryz.ntmps22
  go_wp2_with fail
  refine (net25_1 _).mono ?_
  rintro e w1 ⟨rfl, K1⟩
  have k1 := K1
  clear K1
  go_wp2_with fail
  refine (wtext25_1 _ (HL.out.keep k1)).mono ?_
  rintro e v1 ⟨rfl, J1⟩
  have j1 := k1.trans J1
  clear J1 k1
  go_wp2_with fail
  refine (net25_5 _).mono ?_
  rintro e w2 ⟨rfl, K2⟩
  have k2 := j1.trans K2
  clear K2 j1
  go_wp2_with fail
  refine (wtext25_2 _ (HL.out.keep k2)).mono ?_
  rintro e v2 ⟨rfl, J2⟩
  have j2 := k2.trans J2
  clear J2 k2
  go_wp2_with fail
  refine (net25_5 _).mono ?_
  rintro e w3 ⟨rfl, K3⟩
  have k3 := j2.trans K3
  clear K3 j2
  go_wp2_with fail
  refine (wtext25_3 _ (HL.out.keep k3)).mono ?_
  rintro e v3 ⟨rfl, J3⟩
  have j3 := k3.trans J3
  clear J3 k3
  go_wp2_with fail
  refine (wparse25_1 _ (HL.out.keep j3)).mono ?_
  rintro e w4 ⟨rfl, K4⟩
  replace K4 := j3.trans K4
  clear j3
  go_wp2_with fail
  obtain ⟨W5, hW5, k5⟩ : ∃ W5, w4.alloc (.cells #[.int .u32 0, .int .i64 0, .int .i64 0, .int .i64 0, .int .i64 0, .int .i64 0, .int .u32 0, .int .i64 0, .bool false] 45) = W5 ∧ Kp w W5 := ⟨_, rfl, K4.alloc _⟩
  rw [hW5]
  clear hW5 K4
  refine (wparse25_2 _ (HL.out.keep k5)).mono ?_
  rintro e w6 ⟨rfl, K6⟩
  replace K6 := k5.trans K6
  clear k5
  have K7 : Kp w (w6.alloc (.cells #[.int .u32 0, .int .i64 0, .int .i64 0, .int .i64 0, .int .i64 0, .int .i64 0, .int .u32 0, .int .i64 0, .bool false] 45)) := K6.alloc _
  go_wp2_with (first | (go_at_call 21; refine (num25_any _ _).mono ?_; rintro e w' ⟨rfl, rfl⟩))
  go_ret
  exact ⟨rfl, K7⟩
end Go.Proofs.YtbfimimhgdkpaaaGreatDoor
