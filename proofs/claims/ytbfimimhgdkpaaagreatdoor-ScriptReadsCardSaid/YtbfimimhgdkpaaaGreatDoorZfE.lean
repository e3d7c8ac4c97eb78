/- Lemmas and contracts for the theorem of this claim: ScS, ScV, ScT, ScU, ScY. -/
import Derived.Test.YtbfimimhgdkpaaaGreatDoorZfD
import Derived.Deep.QuietTactic
import Derived.BigQuiet
import Derived.Deep.RegionWith
set_option linter.unusedSimpArgs false
set_option linter.unusedVariables false
/- The reference of package script: which parts a line has, digits. No condition. -/
namespace Go.Proofs.YtbfimimhgdkpaaaGreatDoor
open Go.RowKit

def ptC : Pt → UInt8 | .a => 97 | .b => 98 | .c => 99 | .d => 100 | .s => 115 | .x => 120
theorem ptC_inj {p q : Pt} (h : ptC p = ptC q) : p = q := by revert h; cases p <;> cases q <;> decide
def partsW (k : Nat) : List UInt8 := (partsOf k).map ptC
abbrev rpartsV : Value := .agg #[.string ⟨#[]⟩, .string ⟨#[100]⟩, .string ⟨#[97, 100]⟩, .string ⟨#[97, 100]⟩, .string ⟨#[97]⟩, .string ⟨#[97, 99]⟩, .string ⟨#[97, 98, 99, 100]⟩, .string ⟨#[97, 100]⟩, .string ⟨#[97, 98, 115, 120, 100]⟩]
set_option maxRecDepth 100000 in
set_option maxHeartbeats 400000 in
theorem rparts_any (w : World) : Calls Tryz.prog 47 #[] w fun e w' => e = .returned rpartsV ∧ Kp w w' := by
  go_enter Tryz.func47, Tryz.ntmps47
  go_wp2_with fail
  exact bodyPost_ret (v := rpartsV) (by simp [results, Tryz.results47, go_sem]) rfl ⟨rfl, (Kp.refl _).alloc _⟩
set_option maxRecDepth 100000 in
set_option maxHeartbeats 400000 in
theorem rheads_any (w : World) : Calls Tryz.prog 46 #[] w fun e w' => e = .returned namesV ∧ Kp w w' := by
  go_enter Tryz.func46, Tryz.ntmps46
  go_wp2_with fail
  exact bodyPost_ret (v := namesV) (by simp [results, Tryz.results46, go_sem]) rfl ⟨rfl, (Kp.refl _).alloc _⟩
theorem part_idx (k : Nat) (hk : k ≤ 8) (w : World) : (Instr.index 81 rpartsV (.int .i64 (k : Int))).run Tryz.prog w = .ok (.string (strB (partsW k))) w := by
  have : k = 0 ∨ k = 1 ∨ k = 2 ∨ k = 3 ∨ k = 4 ∨ k = 5 ∨ k = 6 ∨ k = 7 ∨ k = 8 := by omega
  rcases this with rfl | rfl | rfl | rfl | rfl | rfl | rfl | rfl | rfl
  · have : (Instr.index 81 rpartsV (.int .i64 0)).run Tryz.prog w = .ok (.string ⟨#[]⟩) w := by kernel_rfl
    exact this
  · have : (Instr.index 81 rpartsV (.int .i64 1)).run Tryz.prog w = .ok (.string ⟨#[100]⟩) w := by kernel_rfl
    exact this
  · have : (Instr.index 81 rpartsV (.int .i64 2)).run Tryz.prog w = .ok (.string ⟨#[97, 100]⟩) w := by kernel_rfl
    exact this
  · have : (Instr.index 81 rpartsV (.int .i64 3)).run Tryz.prog w = .ok (.string ⟨#[97, 100]⟩) w := by kernel_rfl
    exact this
  · have : (Instr.index 81 rpartsV (.int .i64 4)).run Tryz.prog w = .ok (.string ⟨#[97]⟩) w := by kernel_rfl
    exact this
  · have : (Instr.index 81 rpartsV (.int .i64 5)).run Tryz.prog w = .ok (.string ⟨#[97, 99]⟩) w := by kernel_rfl
    exact this
  · have : (Instr.index 81 rpartsV (.int .i64 6)).run Tryz.prog w = .ok (.string ⟨#[97, 98, 99, 100]⟩) w := by kernel_rfl
    exact this
  · have : (Instr.index 81 rpartsV (.int .i64 7)).run Tryz.prog w = .ok (.string ⟨#[97, 100]⟩) w := by kernel_rfl
    exact this
  · have : (Instr.index 81 rpartsV (.int .i64 8)).run Tryz.prog w = .ok (.string ⟨#[97, 98, 115, 120, 100]⟩) w := by kernel_rfl
    exact this
theorem partsW_len (k : Nat) : (strB (partsW k)).size = (partsOf k).length := by show (partsW k).toArray.size = _; simp [partsW]
theorem partsW_get {k j : Nat} (hj : j < (partsOf k).length) {p : Pt} (hp : (partsOf k)[j] = p) (n : Nat) (hn : n = j) (h : n < (strB (partsW k)).size) : (strB (partsW k))[n]'h = ptC p := by
  subst hn
  show (partsW k).toArray[n]'(by simpa [partsW] using hj) = ptC p
  simp [partsW, hp]

set_option maxRecDepth 100000 in
set_option maxHeartbeats 1000000 in
theorem has_any (p : Pt) (k : Nat) (hk : k ≤ 8) (w : World) : Calls Tryz.prog 41 #[.int .i64 (k : Int), .int .u8 ((ptC p).toNat : Int)] w fun e w' => e = .returned (.bool (decide (p ∈ partsOf k))) ∧ Kp w w' := by
  have hx : ∀ w, (Instr.index 81 rpartsV (.int .i64 (k : Int))).run Tryz.prog w = .ok (.string (strB (partsW k))) w := fun w => part_idx k hk w
  have h5 := parts_len hk
  have hl := partsW_len k
  go_enter Tryz.func41, Tryz.ntmps41
  go_wp2_with (first | (go_at_call 47; refine (rparts_any _).mono ?_; rintro e w1 ⟨rfl, hK1⟩))
  go_loopw [6] (fun i wr => ∃ j : Nat, j ≤ (partsOf k).length ∧ i = .int .i64 j ∧ Hid (∀ i (h : i < j) (h2 : i < (partsOf k).length), (partsOf k)[i] ≠ p) ∧ wr = w1) (fun i _ => (partsOf k).length - (intOf i).toNat)
  case atStart => exact ⟨0, by omega, rfl, Lib.hid (fun i h => absurd h (by omega)), rfl⟩
  case round =>
    obtain ⟨j, hj, rfl, hH, rfl⟩ := hrel
    by_cases hlt : j < (partsOf k).length
    · obtain ⟨q, hq⟩ : ∃ q, (partsOf k)[j] = q := ⟨_, rfl⟩
      have x1 := partsW_get hlt hq j rfl
      have i0 : (0 : Int) ≤ (j : Int) := by omega
      have i1 : (j : Int) < ((strB (partsW k)).size : Int) := by omega
      by_cases he : q = p
      · have Hm := Lib.hid (show decide (p ∈ partsOf k) = true by rw [decide_eq_true_iff, ← he, ← hq]; exact List.getElem_mem hlt)
        have hb : (((ptC q).toNat : Int) == ((ptC p).toNat : Int)) = true := by rw [he]; exact beq_self_eq_true _
        clear he hq
        go_wp2_with fail
        go_ret
        exact ⟨by rw [Hm.out]; rfl, hK1⟩
      · have hb : (((ptC q).toNat : Int) == ((ptC p).toNat : Int)) = false := by
          rw [beq_eq_false_iff_ne]
          intro h
          exact he (ptC_inj (UInt8.toNat.inj (by omega)))
        have Hn := Lib.hid (show ∀ i (h : i < j + 1) (h2 : i < (partsOf k).length), (partsOf k)[i] ≠ p from fun i h h2 => by
          rcases Nat.lt_or_ge i j with h3 | h3
          · exact hH.out i h3 h2
          · obtain rfl : i = j := by omega
            rw [hq]; exact he)
        clear he hq
        go_wp2_with fail
        go_roundw
        case rel => exact ⟨j + 1, by omega, by go_num, Hn, by first | rfl | trivial⟩
        case measure => simp [intOf]; omega
    · obtain rfl : j = (partsOf k).length := by omega
      have Hm := Lib.hid (show decide (p ∈ partsOf k) = false by
        rw [decide_eq_false_iff_not]
        intro h
        obtain ⟨i, hi, e⟩ := List.getElem_of_mem h
        exact hH.out i hi hi e)
      go_wp2_with fail
      go_ret
      exact ⟨by rw [Hm.out]; rfl, hK1⟩

def digV (c : UInt8) : Int := match hexV c with | some x => (x : Int) | none => -1
set_option maxRecDepth 100000 in
set_option maxHeartbeats 1000000 in
theorem digit_any (c : UInt8) (w : World) : Calls Tryz.prog 147 #[.int .u8 (c.toNat : Int)] w fun e w' => e = .returned (.int .i64 (digV c)) ∧ w = w' := by
  go_enter Tryz.func147, Tryz.ntmps147
  go_wp2_with fail
  go_loopw [3] (fun i wr => ∃ j : Nat, j ≤ 16 ∧ i = .int .i64 j ∧ Hid (∀ i, i < j → hexOf i ≠ c) ∧ w = wr) (fun i _ => 16 - (intOf i).toNat)
  case atStart => exact ⟨0, by omega, rfl, Lib.hid (fun i h => absurd h (by omega)), rfl⟩
  case round =>
    obtain ⟨j, hj, rfl, hH, rfl⟩ := hrel
    by_cases hlt : j < 16
    · have x1 := hex_get j hlt j rfl
      have i0 : (0 : Int) ≤ (j : Int) := by omega
      by_cases he : hexOf j = c
      · have Hm := Lib.hid (show digV c = (j : Int) by rw [← he]; unfold digV; rw [hexV_of j hlt])
        have hb : (((hexOf j).toNat : Int) == (c.toNat : Int)) = true := by rw [he]; exact beq_self_eq_true _
        clear he
        go_wp2_with fail
        go_ret
        exact ⟨by rw [Hm.out]; rfl, rfl⟩
      · have hb : (((hexOf j).toNat : Int) == (c.toNat : Int)) = false := by
          rw [beq_eq_false_iff_ne]
          intro h
          exact he (UInt8.toNat.inj (by omega))
        have Hn := Lib.hid (show ∀ i, i < j + 1 → hexOf i ≠ c from fun i h => by
          rcases Nat.lt_or_ge i j with h3 | h3
          · exact hH.out i h3
          · obtain rfl : i = j := by omega
            exact he)
        clear he
        go_wp2_with fail
        go_roundw
        case rel => exact ⟨j + 1, by omega, by go_num, Hn, by first | rfl | trivial⟩
        case measure => simp [intOf]; omega
    · obtain rfl : j = 16 := by omega
      have Hm := Lib.hid (show digV c = -1 by
        unfold digV
        cases h : hexV c with
        | none => rfl
        | some x => obtain ⟨a, b⟩ := hexV_lt h; exact absurd b (hH.out x a))
      go_wp2_with fail
      go_ret
      exact ⟨by rw [Hm.out]; rfl, rfl⟩
end Go.Proofs.YtbfimimhgdkpaaaGreatDoor

/- The reference of package view: a text's words. No condition but the text's length. -/
namespace Go.Proofs.YtbfimimhgdkpaaaGreatDoor
open Go.RowKit

structure RPart (w : World) (s : ByteArray) (x : UInt8) (a i : Nat) (v : Value) (wr : World) : Prop where
  kp : Kp w wr
  own : (i ≤ s.size ∧ a ≤ i ∧ (∀ k, a ≤ k → k < i → byteAt s k ≠ x.toNat) ∧ ∃ ws, ws.length ≤ i ∧ Own wr w.heap.size 9 1 strE v ws ∧ parted x s.data.toList = ws ++ parted x (s.data.toList.drop a)) ∨ (i = s.size + 1 ∧ Own wr w.heap.size 9 1 strE v (parted x s.data.toList))
set_option maxRecDepth 100000 in
set_option maxHeartbeats 2000000 in
theorem rparted_any (s : ByteArray) (hs : s.size ≤ 1000000) (x : UInt8) (w : World) : Calls Tryz.prog 53 #[.string s, .int .u8 (x.toNat : Int)] w fun e w' => ∃ v, e = .returned v ∧ Own w' w.heap.size 9 1 strE v (parted x s.data.toList) ∧ Kp w w' := by
  have hlen : s.data.toList.length = s.size := by rw [Array.length_toList]; rfl
  have Hlen := Lib.hid hlen; clear hlen
  go_enter Tryz.func53, Tryz.ntmps53
  go_wp2_with fail
  go_loopw [5, 6, 7] (fun v f i wr => ∃ a n : Nat, f = .int .i64 a ∧ i = .int .i64 n ∧ n ≤ s.size + 1 ∧ Hid (RPart w s x a n v wr)) (fun _ _ i _ => s.size + 1 - (intOf i).toNat)
  case atStart => exact ⟨0, 0, rfl, rfl, by omega, Lib.hid ⟨Kp.refl _, .inl ⟨by omega, by omega, fun k _ h => absurd h (by omega), [], by simp, Own.nil _ _ _ _ _, by simp⟩⟩⟩
  case round =>
    obtain ⟨a, n, rfl, rfl, hn, R⟩ := hrel
    have hK := R.out.kp
    have hsz := hK.size
    rcases R.out.own with ⟨hle, han, hno, ws, hwl, hO, hq⟩ | ⟨hend, hO⟩
    · have HR := R
      by_cases hlt : n < s.size
      · obtain ⟨c, hc, hd⟩ := drop_byte hlt
        have x1 := byte_get hlt hc n rfl
        have hbl : c.toNat = byteAt s n := hc
        have g0 : ((n : Int) == (s.size : Int)) = false := by rw [beq_eq_false_iff_ne]; omega
        have g00 : (n : Int) ≤ (s.size : Int) := by omega
        have g01 : (0 : Int) ≤ (n : Int) := by omega
        have g02 : (n : Int) < (s.size : Int) := by omega
        clear hc hd
        by_cases hcx : c = x
        · have g1 : ((c.toNat : Int) == (x.toNat : Int)) = true := by rw [hcx]; exact beq_self_eq_true _
          have Hseg := Lib.hid (parted_seg han hlt hno (by rw [← hbl, hcx]))
          have Hext := Lib.hid (extract_eq s a n)
          have hnews : ([.string (s.extract a n)] : List Value) = strE ((s.data.toList.drop a).take (n - a)) := by rw [Hext.out]; rfl
          have Hnews := Lib.hid hnews; clear hnews
          have ha0 : (0 : Int) ≤ (a : Int) := by omega
          have ha1 : (a : Int) ≤ (n : Int) := by omega
          have Hq := Lib.hid hq
          clear hno hq hbl hcx
          go_wp2_with (at_builtin; go_must (refine wpList_appx EStr (w0 := bare wr) rfl _ _ rfl ((s.data.toList.drop a).take (n - a)) rfl hO (bare_kp _) (Nat.zero_le _) hsz rfl rfl Hnews.out rfl rfl (by omega) ?_); intro v2 w2 hown2 hK2 hg2; obtain ⟨A2, c2, rfl⟩ := hown2.form1)
          have Hn : Hid (RPart w s x (n + 1) (n + 1) (.slice A2 (ws.length + 1) c2) w2) := Lib.hid ⟨hK.grown hg2 (fun q hq => (World.ownsRow.lt hO q hq).1), .inl ⟨by omega, by omega, fun k h1 h2 => absurd h2 (by omega), _, by simp; omega, hown2, by rw [Hq.out, Hseg.out]; simp⟩⟩
          go_roundw
          case rel => exact ⟨n + 1, n + 1, by go_num, by go_num, by omega, Hn⟩
          case measure => simp [intOf]; omega
        · have g1 : ((c.toNat : Int) == (x.toNat : Int)) = false := by
            rw [beq_eq_false_iff_ne]
            intro h
            exact hcx (UInt8.toNat.inj (by omega))
          have Hn : Hid (RPart w s x a (n + 1) u5 wr) := Lib.hid ⟨hK, .inl ⟨by omega, by omega, fun k h1 h2 => by
            rcases Nat.lt_or_ge k n with h3 | h3
            · exact hno k h1 h3
            · obtain rfl : k = n := by omega
              rw [← hbl]
              exact fun h => hcx (UInt8.toNat.inj h), ws, by omega, hO, hq⟩⟩
          clear hno hq hbl hcx
          go_wp2_with fail
          go_roundw
          case rel => exact ⟨a, n + 1, by go_num, by go_num, by omega, Hn⟩
          case measure => simp [intOf]; omega
      · obtain rfl : n = s.size := by omega
        have g00 : (s.size : Int) ≤ (s.size : Int) := by omega
        have Hlast := Lib.hid (parted_last (s := s) (a := a) (x := x) hno)
        have Hext := Lib.hid (extract_eq s a s.size)
        have hnews : ([.string (s.extract a s.size)] : List Value) = strE (s.data.toList.drop a) := by
          rw [Hext.out, List.take_of_length_le (by rw [List.length_drop, Hlen.out]; exact Nat.le_refl _)]; rfl
        have Hnews := Lib.hid hnews; clear hnews
        have ha0 : (0 : Int) ≤ (a : Int) := by omega
        have ha1 : (a : Int) ≤ (s.size : Int) := by omega
        have Hq := Lib.hid hq
        clear hno hq
        go_wp2_with (at_builtin; go_must (refine wpList_appx EStr (w0 := bare wr) rfl _ _ rfl (s.data.toList.drop a) rfl hO (bare_kp _) (Nat.zero_le _) hsz rfl rfl Hnews.out rfl rfl (by omega) ?_); intro v2 w2 hown2 hK2 hg2; obtain ⟨A2, c2, rfl⟩ := hown2.form1)
        have Hn : Hid (RPart w s x (s.size + 1) (s.size + 1) (.slice A2 (ws.length + 1) c2) w2) := Lib.hid ⟨hK.grown hg2 (fun q hq => (World.ownsRow.lt hO q hq).1), .inr ⟨rfl, by rw [Hq.out, Hlast.out]; exact hown2⟩⟩
        go_roundw
        case rel => exact ⟨s.size + 1, s.size + 1, by go_num, by go_num, by omega, Hn⟩
        case measure => simp [intOf]
    · subst hend
      have g00 : ¬ ((s.size : Int) + 1 ≤ (s.size : Int)) := by omega
      go_wp2_with fail
      go_ret
      exact ⟨_, rfl, hO, hK⟩
end Go.Proofs.YtbfimimhgdkpaaaGreatDoor

/- The reference of package script: bytes in digits. No condition but the stated bounds. -/
namespace Go.Proofs.YtbfimimhgdkpaaaGreatDoor
open Go.RowKit

theorem hex_slice {k : Nat} (hk : k < 16) : (⟨#[48, 49, 50, 51, 52, 53, 54, 55, 56, 57, 97, 98, 99, 100, 101, 102]⟩ : ByteArray).extract k (k + 1) = strB [hexOf k] := by
  have : ∀ k, k < 16 → (⟨#[48, 49, 50, 51, 52, 53, 54, 55, 56, 57, 97, 98, 99, 100, 101, 102]⟩ : ByteArray).extract k (k + 1) = strB [hexOf k] := by decide
  exact this k hk
set_option maxRecDepth 100000 in
set_option maxHeartbeats 2000000 in
theorem rhex_any (l : List UInt8) (A : Option Addr) (c : Nat) (w : World) (hR : Rd w 1 byteE A l) (hl : l.length ≤ 1000000) :
    Calls Tryz.prog 51 #[.slice A l.length c] w fun e w' => e = .returned (.string (strB (hexW l))) ∧ Kp w w' := by
  by_cases h0 : l = []
  · have H := Lib.hid (show strB (hexW l) = ⟨#[45]⟩ by simp only [hexW]; rw [if_pos h0])
    have hlen : l.length = 0 := by rw [h0]; rfl
    have hb : ((l.length : Int) == 0) = true := by rw [beq_iff_eq]; omega
    clear h0
    go_enter Tryz.func51, Tryz.ntmps51
    go_wp2_with fail
    go_ret
    exact ⟨by rw [H.out]; rfl, Kp.refl _⟩
  · have H := Lib.hid (show hexW l = hexT l by simp only [hexW]; rw [if_neg h0])
    have hp : 0 < l.length := List.length_pos_iff.2 h0
    have hb : ((l.length : Int) == 0) = false := by rw [beq_eq_false_iff_ne]; omega
    clear h0
    go_enter Tryz.func51, Tryz.ntmps51
    go_wp2_with fail
    go_loopw [3, 4] (fun v i wr => ∃ k : Nat, k ≤ l.length ∧ i = .int .i64 k ∧ v = .string (strB (hexT (l.take k))) ∧ Kp w wr) (fun _ i _ => l.length - (intOf i).toNat)
    case atStart => exact ⟨0, by omega, rfl, rfl, Kp.refl _⟩
    case round =>
      obtain ⟨k, hk, rfl, rfl, hK⟩ := hrel
      by_cases hlt : k < l.length
      · obtain ⟨b, off, rfl, c0⟩ := byte_at (hR.keep hK) hlt
        obtain ⟨x, hx⟩ : ∃ x, l[k] = x := ⟨_, rfl⟩
        rw [hx] at c0
        have Hx := Lib.hid hx; clear hx
        have hx256 := x.toNat_lt
        replace c0 : wr.cell? ⟨b, off + k, none⟩ = some (.int .u8 (x.toNat : Int)) := c0
        obtain ⟨y, hy⟩ : ∃ y : Nat, x.toNat = y := ⟨_, rfl⟩
        have Hs := Lib.hid (show strB (hexT (l.take (k + 1))) = strB (hexT (l.take k)) ++ strB [hexOf (y / 16)] ++ strB [hexOf (y % 16)] by
          rw [List.take_add_one, List.getElem?_eq_getElem hlt, Hx.out, ← hy, strB_app, strB_app]; simp [hexT])
        rw [hy] at c0 hx256
        have e1 := hex_slice (k := y / 16) (by omega)
        have e2 := hex_slice (k := y % 16) (by omega)
        have i0 : (0 : Int) ≤ (k : Int) := by omega
        have i1 : (k : Int) < (l.length : Int) := by omega
        have j0 : (0 : Int) ≤ (y : Int) / 16 := by omega
        have j1 : (y : Int) / 16 ≤ (y : Int) / 16 + 1 := by omega
        have j2 : (y : Int) / 16 + 1 ≤ 16 := by omega
        have j3 : (0 : Int) ≤ (y : Int) % 16 := by omega
        have j4 : (y : Int) % 16 ≤ (y : Int) % 16 + 1 := by omega
        have j5 : (y : Int) % 16 + 1 ≤ 16 := by omega
        have u0 : IntKind.u8.wrap ((y : Int) / 16) = (y : Int) / 16 := IntWalk.u8_in _ (by omega)
        have u3 : IntKind.u8.wrap ((y : Int) % 16) = (y : Int) % 16 := IntWalk.u8_in _ (by omega)
        have u1 : IntKind.u8.wrap ((y : Int) / 16 + 1) = (y : Int) / 16 + 1 := IntWalk.u8_in _ (by omega)
        have u2 : IntKind.u8.wrap ((y : Int) % 16 + 1) = (y : Int) % 16 + 1 := IntWalk.u8_in _ (by omega)
        have n1 : ((y : Int) / 16).toNat = y / 16 := by omega
        have n2 : ((y : Int) / 16 + 1).toNat = y / 16 + 1 := by omega
        have n3 : ((y : Int) % 16).toNat = y % 16 := by omega
        have n4 : ((y : Int) % 16 + 1).toNat = y % 16 + 1 := by omega
        have hh : (hexT (l.take k)).length ≤ 2000000 := by rw [hexT_len, List.length_take]; omega
        have m1 : ¬ 9223372036854775807 < (hexT (l.take k)).length + 1 := by omega
        have m2 : ¬ 9223372036854775807 < (hexT (l.take k)).length + 1 + 1 := by omega
        clear hy
        go_wp2_with fail
        go_quiet (fail)
        go_wp2_with fail
        go_roundw
        case rel => exact ⟨k + 1, by omega, by go_num, by rw [Hs.out], hK.drewN _⟩
        case measure => simp [intOf]; omega
      · obtain rfl : k = l.length := by omega
        have H2 := Lib.hid (show strB (hexT (l.take l.length)) = strB (hexW l) by rw [List.take_length, H.out])
        go_wp2_with fail
        go_ret
        exact ⟨by rw [← H2.out]; try rfl, hK⟩

/-- What the reference takes of a word for bytes: the slice and whether there is one. -/
def RBytesP (s : ByteArray) (w : World) (e : Ending) (w' : World) : Prop :=
  (∀ l, bytesR s.data.toList = some l → ∃ v, e = .returned (.tuple #[v, .bool true]) ∧ Own w' w.heap.size 5 1 byteE v l) ∧ (bytesR s.data.toList = none → e = .returned (.tuple #[.slice none 0 0, .bool false])) ∧ Kp w w'
theorem digV_some {c : UInt8} {x : Nat} (h : hexV c = some x) : digV c = x := by unfold digV; rw [h]
theorem digV_none {c : UInt8} (h : hexV c = none) : digV c = -1 := by unfold digV; rw [h]
theorem dig_yes {c : UInt8} {x : Nat} (h : hexV c = some x) (w : World) : Calls Tryz.prog 147 #[.int .u8 (c.toNat : Int)] w fun e w' => e = .returned (.int .i64 (x : Int)) ∧ w = w' := by
  have := digit_any c w
  rw [digV_some h] at this
  exact this
theorem dig_nay {c : UInt8} (h : hexV c = none) (w : World) : Calls Tryz.prog 147 #[.int .u8 (c.toNat : Int)] w fun e w' => e = .returned (.int .i64 (-1)) ∧ w = w' := by
  have := digit_any c w
  rw [digV_none h] at this
  exact this
set_option maxRecDepth 100000 in
set_option maxHeartbeats 6000000 in
theorem rbytes_any (s : ByteArray) (hs : s.size ≤ 1000000) (w : World) : Calls Tryz.prog 98 #[.string s] w (RBytesP s w) := by
  have hlen : s.data.toList.length = s.size := by rw [Array.length_toList]; rfl
  by_cases hd : s.data.toList = [45]
  · have H := Lib.hid (show bytesR s.data.toList = some [] by unfold bytesR; rw [if_pos hd])
    have hsd : s = ⟨#[45]⟩ := by rw [← strB_of s, hd]
    subst hsd
    clear hd
    go_enter Tryz.func98, Tryz.ntmps98
    go_wp2_with fail
    go_ret2
    exact ⟨fun l hl => (by rw [H.out, Option.some.injEq] at hl; subst hl; exact ⟨_, rfl, Own.nil _ _ _ _ _⟩), fun h => (by rw [H.out] at h; cases h), Kp.refl _⟩
  · have hb : (s.toList == [45]) = false := by rw [Lib.toList_data]; simpa using hd
    by_cases h0 : s.size = 0
    · have H := Lib.hid (show bytesR s.data.toList = none by unfold bytesR; rw [if_neg hd, if_pos (.inl (List.length_eq_zero_iff.1 (by omega)))])
      have hz : ((s.size : Int) == 0) = true := by rw [beq_iff_eq]; omega
      clear hd hlen
      go_enter Tryz.func98, Tryz.ntmps98
      go_wp2_with fail
      go_ret2
      exact ⟨fun l hl => (by rw [H.out] at hl; cases hl), fun h => rfl, Kp.refl _⟩
    · have hz : ((s.size : Int) == 0) = false := by rw [beq_eq_false_iff_ne]; omega
      by_cases h1 : s.size % 2 = 1
      · have H := Lib.hid (show bytesR s.data.toList = none by unfold bytesR; rw [if_neg hd, if_pos (.inr (by omega))])
        have hz1 : ((s.size : Int) % 2 == 1) = true := by rw [beq_iff_eq]; omega
        clear hd hlen h1 h0
        go_enter Tryz.func98, Tryz.ntmps98
        go_wp2_with fail
        go_ret2
        exact ⟨fun l hl => (by rw [H.out] at hl; cases hl), fun h => rfl, Kp.refl _⟩
      · have H := Lib.hid (show bytesR s.data.toList = hexR s.data.toList by
          unfold bytesR
          rw [if_neg hd, if_neg]
          rintro (h | h)
          · rw [h] at hlen; simp at hlen; omega
          · omega)
        have hz1 : ((s.size : Int) % 2 == 1) = false := by rw [beq_eq_false_iff_ne]; omega
        have Hodd := Lib.hid h1
        have Hlen := Lib.hid hlen
        clear hd hlen h1
        go_enter Tryz.func98, Tryz.ntmps98
        go_wp2_with fail
        go_loopw [4, 5] (fun v i wr => ∃ (k : Nat) (acc : List UInt8), 2 * k ≤ s.size ∧ i = .int .i64 (2 * k : Nat) ∧ acc.length = k ∧ Hid (hexR s.data.toList = (hexR (s.data.toList.drop (2 * k))).map (fun r => acc ++ r)) ∧ Own wr w.heap.size 5 1 byteE v acc ∧ Kp w wr) (fun _ i _ => s.size - (intOf i).toNat)
        case atStart => exact ⟨0, [], by omega, rfl, rfl, Lib.hid (by simp), Own.nil _ _ _ _ _, Kp.refl _⟩
        case round =>
          obtain ⟨k, acc, hk, rfl, hacc, hH, hO, hOn⟩ := hrel
          have hsz := hOn.size
          by_cases hlt : 2 * k < s.size
          · have hlt2 : 2 * k + 1 < s.size := by have := Hodd.out; omega
            obtain ⟨a, ha, hda⟩ := drop_byte hlt
            obtain ⟨b, hb0, hdb⟩ := drop_byte hlt2
            have x1 := byte_get hlt ha (2 * (k : Int)).toNat (by omega)
            have x2 := byte_get hlt2 hb0 (2 * (k : Int) + 1).toNat (by omega)
            have i0 : (0 : Int) ≤ 2 * (k : Int) + 1 := by omega
            have i7 : IntKind.i64.wrap (2 * (k : Int) + 1) = 2 * (k : Int) + 1 := IntWalk.i64_in _ (by omega)
            have i1 : (0 : Int) ≤ 2 * (k : Int) := by omega
            have i2 : 2 * (k : Int) < (s.size : Int) := by omega
            have i3 : 2 * (k : Int) + 1 < (s.size : Int) := by omega
            have Hdrop := Lib.hid (show s.data.toList.drop (2 * k) = a :: b :: s.data.toList.drop (2 * (k + 1)) by rw [hda, hdb]; rfl)
            clear ha hda hb0 hdb
            cases hva : hexV a with
            | none =>
              have Hn := Lib.hid (show bytesR s.data.toList = none by rw [H.out, hH.out, Hdrop.out, hexR_bad (.inl hva)]; rfl)
              cases hvb : hexV b with
              | none =>
                go_wp2_with fail
                go_region_held3 (fun _ => True) (trivial) (first | (go_at_call_of 147 (Value.int .u8 (a.toNat : Int)); refine (dig_nay hva _).mono ?_; rintro e w' ⟨rfl, rfl⟩) | (go_at_call_of 147 (Value.int .u8 (b.toNat : Int)); refine (dig_nay hvb _).mono ?_; rintro e w' ⟨rfl, rfl⟩))
                all_goals go_wp2_with fail
                all_goals go_ret2
                all_goals exact ⟨fun l hl => (by rw [Hn.out] at hl; cases hl), fun _ => rfl, hOn.drew⟩
              | some y =>
                go_wp2_with fail
                go_region_held3 (fun _ => True) (trivial) (first | (go_at_call_of 147 (Value.int .u8 (a.toNat : Int)); refine (dig_nay hva _).mono ?_; rintro e w' ⟨rfl, rfl⟩) | (go_at_call_of 147 (Value.int .u8 (b.toNat : Int)); refine (dig_yes hvb _).mono ?_; rintro e w' ⟨rfl, rfl⟩))
                all_goals go_wp2_with fail
                all_goals go_ret2
                all_goals exact ⟨fun l hl => (by rw [Hn.out] at hl; cases hl), fun _ => rfl, hOn.drew⟩
            | some x =>
              have hx16 := (hexV_lt hva).1
              have hx0 : decide ((x : Int) < 0) = false := decide_eq_false (by omega)
              cases hvb : hexV b with
              | none =>
                have Hn := Lib.hid (show bytesR s.data.toList = none by rw [H.out, hH.out, Hdrop.out, hexR_bad (.inr hvb)]; rfl)
                go_wp2_with fail
                go_region_held3 (fun _ => True) (trivial) (first | (go_at_call_of 147 (Value.int .u8 (a.toNat : Int)); refine (dig_yes hva _).mono ?_; rintro e w' ⟨rfl, rfl⟩) | (go_at_call_of 147 (Value.int .u8 (b.toNat : Int)); refine (dig_nay hvb _).mono ?_; rintro e w' ⟨rfl, rfl⟩))
                all_goals go_wp2_with fail
                all_goals go_ret2
                all_goals exact ⟨fun l hl => (by rw [Hn.out] at hl; cases hl), fun _ => rfl, hOn.drew⟩
              | some y =>
                have hy16 := (hexV_lt hvb).1
                have hy0 : decide ((y : Int) < 0) = false := decide_eq_false (by omega)
                have Hn := Lib.hid (show hexR s.data.toList = (hexR (s.data.toList.drop (2 * (k + 1)))).map (fun r => (acc ++ [UInt8.ofNat (16 * x + y)]) ++ r) by
                  rw [hH.out, Hdrop.out, hexR_two hva hvb, Option.map_map]
                  congr 1
                  funext r
                  simp)
                have q3 : IntKind.u8.wrap (16 * (x : Int) + (y : Int)) = 16 * (x : Int) + (y : Int) := IntWalk.u8_in _ (by omega)
                have q4 : ([.int .u8 (16 * (x : Int) + (y : Int))] : List Value) = byteE (UInt8.ofNat (16 * x + y)) := by simp [byteE]; omega
                have Q4 := Lib.hid q4; clear q4
                go_wp2_with fail
                go_region_held3 (fun _ => True) (trivial) (first | (go_at_call_of 147 (Value.int .u8 (a.toNat : Int)); refine (dig_yes hva _).mono ?_; rintro e w' ⟨rfl, rfl⟩) | (go_at_call_of 147 (Value.int .u8 (b.toNat : Int)); refine (dig_yes hvb _).mono ?_; rintro e w' ⟨rfl, rfl⟩))
                all_goals go_wp2_with (at_builtin; go_must (refine wpList_appx EByte (w0 := bare wr.drew) rfl _ _ rfl (UInt8.ofNat (16 * x + y)) rfl hO.drew (bare_kp _) (Nat.zero_le _) hOn.size rfl rfl Q4.out rfl rfl (by rw [hacc]; omega) ?_); intro v2 w2 hown2 hK2 hg2; obtain ⟨A2, c2, rfl⟩ := hown2.form1)
                all_goals go_roundw
                all_goals first
                  | (case measure => simp [intOf]; omega)
                  | skip
                all_goals
                  exact ⟨k + 1, acc ++ [UInt8.ofNat (16 * x + y)], by omega, by go_num, by simp [hacc], Hn, by first | exact hown2 | (rw [← hacc]; exact hown2), (hOn.drew).grown hg2 (fun q hq => (World.ownsRow.lt hO q hq).1)⟩
          · have Hn := Lib.hid (show bytesR s.data.toList = some acc by
              rw [H.out, hH.out, List.drop_eq_nil_of_le (by rw [Hlen.out]; omega)]
              simp [hexR])
            have hk3 : ¬ 2 * (k : Int) < (s.size : Int) := by omega
            clear hlt
            go_wp2_with fail
            go_ret2
            exact ⟨fun l hl => (by rw [Hn.out, Option.some.injEq] at hl; subst hl; exact ⟨_, rfl, hO⟩), fun h => (by rw [Hn.out] at h; cases h), hOn⟩
end Go.Proofs.YtbfimimhgdkpaaaGreatDoor

/- The reference of package script: numbers. No condition but the text's length. -/
namespace Go.Proofs.YtbfimimhgdkpaaaGreatDoor
open Go.RowKit

def rintV (s : List UInt8) : Value := match refInt s with | some n => .tuple #[.int .i64 n, .bool true] | none => .tuple #[.int .i64 0, .bool false]
theorem emp_no {l : List UInt8} (h : 0 < l.length) : l.isEmpty = false := by cases l with | nil => simp at h | cons a l => rfl
theorem decFrom_step {c : UInt8} {l : List UInt8} {acc d : Nat} (h : c.toNat = 48 + d) (hd : d < 10) : Lib.decFrom acc (c :: l) = Lib.decFrom (acc * 10 + d) l := by
  have : Go.Lib.digitVal c = some d := by
    unfold Go.Lib.digitVal
    rw [if_pos (by omega)]
    congr 1
    omega
  simp only [Lib.decFrom, this]
theorem decFrom_bad {c : UInt8} {l : List UInt8} {acc : Nat} (h : ¬ (48 ≤ c.toNat ∧ c.toNat ≤ 57)) : Lib.decFrom acc (c :: l) = none := by
  have : Go.Lib.digitVal c = none := by
    unfold Go.Lib.digitVal
    rw [if_neg h]
  simp only [Lib.decFrom, this]
set_option maxRecDepth 100000 in
set_option maxHeartbeats 1000000 in
theorem rint_short (s : ByteArray) (w : World) (hsz : s.size ≤ 1) : Calls Tryz.prog 97 #[.string s] w fun e w' => e = .returned (rintV s.data.toList) ∧ w' = w := by
  have hlen : s.data.toList.length = s.size := by rw [Array.length_toList]; rfl
  have hmin : ¬ s.data.toList = minS := fun e => by rw [e] at hlen; simp [minS] at hlen; omega
  have hm : (s.toList == minS) = false := by rw [Lib.toList_data]; simpa using hmin
  have hm : (s.toList == [45, 57, 50, 50, 51, 51, 55, 50, 48, 51, 54, 56, 53, 52, 55, 55, 53, 56, 48, 56]) = false := hm
  have hbl : belowB s.data.toList = false := by rw [belowB, decide_eq_false (by omega)]; rfl
  have hbare : bareS s.data.toList = s.data.toList := by rw [bareS, hbl]; rfl
  have g0 : decide ((1 : Int) < (s.size : Int)) = false := decide_eq_false (by omega)
  by_cases e0 : s.size = 0
  · have H := Lib.hid (show refInt s.data.toList = none by rw [refInt, if_neg hmin, if_pos]; rw [badS, hbare, List.length_eq_zero_iff.1 (show s.data.toList.length = 0 by omega)]; rfl)
    have z0 : ((s.size : Int) == 0) = true := by rw [beq_iff_eq]; omega
    clear hmin hbl hbare hlen
    go_enter Tryz.func97, Tryz.ntmps97
    go_wp2_with fail
    go_ret2
    exact ⟨by rw [rintV, H.out]; rfl, rfl⟩
  · have z0 : ((s.size : Int) == 0) = false := by rw [beq_eq_false_iff_ne]; omega
    have z1 : decide ((19 : Int) < (s.size : Int)) = false := decide_eq_false (by omega)
    have hgood : badS s.data.toList = false := by
      rw [badS, hbare, hbl, decide_eq_false (show ¬ 19 < s.data.toList.length by omega), decide_eq_false (show ¬ 1 < s.data.toList.length by omega)]
      rw [emp_no (l := s.data.toList) (by omega)]
      rfl
    have HE := Lib.hid (show refInt s.data.toList = (match Lib.decFrom 0 s.data.toList with | none => none | some n => if 9223372036854775807 < n then none else some ((n : Int))) by
      rw [refInt, if_neg hmin, if_neg (by rw [hgood]; decide), hbare, hbl]
      rfl)
    clear hmin hbl hbare hlen hgood
    have Hlen := Lib.hid (show s.data.toList.length = s.size by rw [Array.length_toList]; rfl)
    go_enter Tryz.func97, Tryz.ntmps97
    go_wp2_with fail
    go_loopw [5, 6] (fun u v wr => ∃ n i : Nat, u = .int .u64 n ∧ v = .int .i64 i ∧ i ≤ s.size ∧ Hid (n < 10 ^ i) ∧ Hid (Lib.decFrom 0 s.data.toList = Lib.decFrom n (s.data.toList.drop i)) ∧ wr = w) (fun _ v _ => s.size - (intOf v).toNat)
    case atStart => exact ⟨0, 0, rfl, rfl, by omega, Lib.hid (by decide), Lib.hid rfl, rfl⟩
    case round =>
      obtain ⟨n, i, rfl, rfl, hi, Hn, Hd, rfl⟩ := hrel
      by_cases hlt : i < s.size
      · obtain ⟨c, hc, hd⟩ := drop_byte hlt
        have x1 := byte_get hlt hc i rfl
        have i0 : (0 : Int) ≤ (i : Int) := by omega
        have i1 : (i : Int) < (s.size : Int) := by omega
        have hc256 := c.toNat_lt
        have hn18 : n < 1000000000000000000 := Nat.lt_of_lt_of_le Hn.out (Nat.le_trans (Nat.pow_le_pow_right (by omega) (show i ≤ 18 by omega)) (by decide))
        obtain ⟨y, hy⟩ : ∃ y : Nat, c.toNat = y := ⟨_, rfl⟩
        have x2 : ∀ hh : i < s.size, (s[i]'hh).toNat = y := fun hh => by rw [x1, hy]
        clear x1 hc
        by_cases h1 : 48 ≤ y ∧ y ≤ 57
        · obtain ⟨d, hd2⟩ : ∃ d, y = 48 + d := ⟨y - 48, by omega⟩
          have Hn2 := Lib.hid (show n * 10 + d < 10 ^ (i + 1) by have := Hn.out; rw [Nat.pow_succ]; omega)
          have Hd2 := Lib.hid (show Lib.decFrom 0 s.data.toList = Lib.decFrom (n * 10 + d) (s.data.toList.drop (i + 1)) by rw [Hd.out, hd]; exact decFrom_step (by omega) (by omega))
          have g1 : decide ((y : Int) < 48) = false := decide_eq_false (by omega)
          have g2 : decide ((57 : Int) < (y : Int)) = false := decide_eq_false (by omega)
          have w1 : IntKind.u64.wrap (10 * (n : Int)) = 10 * (n : Int) := IntWalk.u64_in _ (by omega)
          have w2 : IntKind.u8.wrap ((y : Int) - 48) = (d : Int) := by rw [IntWalk.u8_in _ (by omega)]; omega
          have w3 : IntKind.u64.wrap (d : Int) = (d : Int) := IntWalk.u64_in _ (by omega)
          have w4 : IntKind.u64.wrap (10 * (n : Int) + (d : Int)) = 10 * (n : Int) + (d : Int) := IntWalk.u64_in _ (by omega)
          clear hd hy h1 hd2
          go_wp2_with fail
          go_roundw
          case rel => exact ⟨n * 10 + d, i + 1, by go_num, by go_num, by omega, Hn2, Hd2, by first | rfl | trivial⟩
          case measure => simp [intOf]; omega
        · have H := Lib.hid (show refInt s.data.toList = none by rw [HE.out, Hd.out, hd, decFrom_bad (by omega)])
          rcases Nat.lt_or_ge y 48 with h2 | h2
          · have g1 : (y : Int) < 48 := by omega
            clear hd hy h1
            go_wp2_with fail
            go_ret2
            exact ⟨by rw [rintV, H.out]; rfl, rfl⟩
          · have g1 : decide ((y : Int) < 48) = false := decide_eq_false (by omega)
            have g2 : (57 : Int) < (y : Int) := by omega
            clear hd hy h1
            go_wp2_with fail
            go_ret2
            exact ⟨by rw [rintV, H.out]; rfl, rfl⟩
      · obtain rfl : i = s.size := by omega
        have Hv := Lib.hid (show Lib.decFrom 0 s.data.toList = some n by rw [Hd.out, List.drop_eq_nil_of_le (by rw [Hlen.out]; exact Nat.le_refl _)]; rfl)
        have hn19 : n < 10000000000000000000 := Nat.lt_of_lt_of_le Hn.out (Nat.le_trans (Nat.pow_le_pow_right (by omega) (show s.size ≤ 19 by omega)) (by decide))
        by_cases hbig : 9223372036854775807 < n
        · have H := Lib.hid (show refInt s.data.toList = none by rw [HE.out, Hv.out]; simp only; rw [if_pos hbig])
          have g1 : (9223372036854775807 : Int) < (n : Int) := by omega
          go_wp2_with fail
          go_ret2
          exact ⟨by rw [rintV, H.out]; rfl, rfl⟩
        · have H := Lib.hid (show refInt s.data.toList = some ((n : Int)) by rw [HE.out, Hv.out]; simp only; rw [if_neg hbig])
          have g1 : decide ((9223372036854775807 : Int) < (n : Int)) = false := decide_eq_false (by omega)
          have w1 : IntKind.i64.wrap (n : Int) = (n : Int) := IntWalk.i64_in _ (by omega)
          have w2 : IntKind.i64.wrap (-(n : Int)) = -(n : Int) := IntWalk.i64_in _ (by omega)
          go_wp2_with fail
          go_ret2
          exact ⟨by rw [rintV, H.out]; rfl, rfl⟩
set_option maxRecDepth 100000 in
set_option maxHeartbeats 2000000 in
theorem rint_plus (s : ByteArray) (w : World) (hsz : 1 < s.size) (h45 : s.data.toList.head? ≠ some 45) : Calls Tryz.prog 97 #[.string s] w fun e w' => e = .returned (rintV s.data.toList) ∧ w' = w := by
  have hlen : s.data.toList.length = s.size := by rw [Array.length_toList]; rfl
  have hmin : ¬ s.data.toList = minS := fun e => h45 (by rw [e]; rfl)
  have hm : (s.toList == minS) = false := by rw [Lib.toList_data]; simpa using hmin
  have hm : (s.toList == [45, 57, 50, 50, 51, 51, 55, 50, 48, 51, 54, 56, 53, 52, 55, 55, 53, 56, 48, 56]) = false := hm
  have hbl : belowB s.data.toList = false := by rw [belowB, beq_eq_false_iff_ne.2 h45, Bool.and_false]
  have hbare : bareS s.data.toList = s.data.toList := by rw [bareS, hbl]; rfl
  obtain ⟨c0, hc0, hd0⟩ := drop_byte (s := s) (i := 0) (by omega)
  rw [List.drop_zero] at hd0
  have x0 := byte_get (i := 0) (by omega) hc0 0 rfl
  have hhead : s.data.toList.head? = some c0 := by rw [hd0]; rfl
  have n45 : ((c0.toNat : Int) == 45) = false := by
    rw [beq_eq_false_iff_ne]
    intro h
    exact h45 (by rw [hhead]; congr 1; exact UInt8.toNat.inj (by have : (45 : UInt8).toNat = 45 := rfl; omega))
  have g0 : (1 : Int) < (s.size : Int) := by omega
  have g00 : (0 : Int) < (s.size : Int) := by omega
  have z0 : ((s.size : Int) == 0) = false := by rw [beq_eq_false_iff_ne]; omega
  clear hd0 hc0
  by_cases e1 : 19 < s.size
  · have H := Lib.hid (show refInt s.data.toList = none by rw [refInt, if_neg hmin, if_pos]; rw [badS, hbare, decide_eq_true (show 19 < s.data.toList.length by omega)]; simp)
    have z1 : (19 : Int) < (s.size : Int) := by omega
    clear hmin hbl hbare hlen hhead h45
    go_enter Tryz.func97, Tryz.ntmps97
    go_wp2_with fail
    go_ret2
    exact ⟨by rw [rintV, H.out]; rfl, rfl⟩
  · have z1 : decide ((19 : Int) < (s.size : Int)) = false := decide_eq_false (by omega)
    by_cases e2 : c0 = 48
    · have H := Lib.hid (show refInt s.data.toList = none by rw [refInt, if_neg hmin, if_pos]; rw [badS, hbare, hhead, decide_eq_true (show 1 < s.data.toList.length by omega), e2]; simp)
      have z2 : ((c0.toNat : Int) == 48) = true := by rw [e2]; rfl
      clear hmin hbl hbare hlen hhead h45 e2
      go_enter Tryz.func97, Tryz.ntmps97
      go_wp2_with fail
      go_ret2
      exact ⟨by rw [rintV, H.out]; rfl, rfl⟩
    · have z2 : ((c0.toNat : Int) == 48) = false := by
        rw [beq_eq_false_iff_ne]
        intro h
        exact e2 (UInt8.toNat.inj (by have : (48 : UInt8).toNat = 48 := rfl; omega))
      have hgood : badS s.data.toList = false := by
        rw [badS, hbare, hbl, hhead, decide_eq_false (show ¬ 19 < s.data.toList.length by omega)]
        rw [emp_no (l := s.data.toList) (by omega), beq_eq_false_iff_ne.2 (fun h => e2 (Option.some.inj h)), Bool.and_false]
        rfl
      have HE := Lib.hid (show refInt s.data.toList = (match Lib.decFrom 0 s.data.toList with | none => none | some n => if 9223372036854775807 < n then none else some ((n : Int))) by
        rw [refInt, if_neg hmin, if_neg (by rw [hgood]; decide), hbare, hbl]
        rfl)
      clear hmin hbl hbare hlen hgood hhead h45 e2
      have Hlen := Lib.hid (show s.data.toList.length = s.size by rw [Array.length_toList]; rfl)
      go_enter Tryz.func97, Tryz.ntmps97
      go_wp2_with fail
      go_loopw [5, 6] (fun u v wr => ∃ n i : Nat, u = .int .u64 n ∧ v = .int .i64 i ∧ i ≤ s.size ∧ Hid (n < 10 ^ i) ∧ Hid (Lib.decFrom 0 s.data.toList = Lib.decFrom n (s.data.toList.drop i)) ∧ wr = w) (fun _ v _ => s.size - (intOf v).toNat)
      case atStart => exact ⟨0, 0, rfl, rfl, by omega, Lib.hid (by decide), Lib.hid rfl, rfl⟩
      case round =>
        obtain ⟨n, i, rfl, rfl, hi, Hn, Hd, rfl⟩ := hrel
        by_cases hlt : i < s.size
        · obtain ⟨c, hc, hd⟩ := drop_byte hlt
          have x1 := byte_get hlt hc i rfl
          have i0 : (0 : Int) ≤ (i : Int) := by omega
          have i1 : (i : Int) < (s.size : Int) := by omega
          have hc256 := c.toNat_lt
          have hn18 : n < 1000000000000000000 := Nat.lt_of_lt_of_le Hn.out (Nat.le_trans (Nat.pow_le_pow_right (by omega) (show i ≤ 18 by omega)) (by decide))
          obtain ⟨y, hy⟩ : ∃ y : Nat, c.toNat = y := ⟨_, rfl⟩
          have x2 : ∀ hh : i < s.size, (s[i]'hh).toNat = y := fun hh => by rw [x1, hy]
          clear x1 hc
          by_cases h1 : 48 ≤ y ∧ y ≤ 57
          · obtain ⟨d, hd2⟩ : ∃ d, y = 48 + d := ⟨y - 48, by omega⟩
            have Hn2 := Lib.hid (show n * 10 + d < 10 ^ (i + 1) by have := Hn.out; rw [Nat.pow_succ]; omega)
            have Hd2 := Lib.hid (show Lib.decFrom 0 s.data.toList = Lib.decFrom (n * 10 + d) (s.data.toList.drop (i + 1)) by rw [Hd.out, hd]; exact decFrom_step (by omega) (by omega))
            have g1 : decide ((y : Int) < 48) = false := decide_eq_false (by omega)
            have g2 : decide ((57 : Int) < (y : Int)) = false := decide_eq_false (by omega)
            have w1 : IntKind.u64.wrap (10 * (n : Int)) = 10 * (n : Int) := IntWalk.u64_in _ (by omega)
            have w2 : IntKind.u8.wrap ((y : Int) - 48) = (d : Int) := by rw [IntWalk.u8_in _ (by omega)]; omega
            have w3 : IntKind.u64.wrap (d : Int) = (d : Int) := IntWalk.u64_in _ (by omega)
            have w4 : IntKind.u64.wrap (10 * (n : Int) + (d : Int)) = 10 * (n : Int) + (d : Int) := IntWalk.u64_in _ (by omega)
            clear hd hy h1 hd2
            go_wp2_with fail
            go_roundw
            case rel => exact ⟨n * 10 + d, i + 1, by go_num, by go_num, by omega, Hn2, Hd2, by first | rfl | trivial⟩
            case measure => simp [intOf]; omega
          · have H := Lib.hid (show refInt s.data.toList = none by rw [HE.out, Hd.out, hd, decFrom_bad (by omega)])
            rcases Nat.lt_or_ge y 48 with h2 | h2
            · have g1 : (y : Int) < 48 := by omega
              clear hd hy h1
              go_wp2_with fail
              go_ret2
              exact ⟨by rw [rintV, H.out]; rfl, rfl⟩
            · have g1 : decide ((y : Int) < 48) = false := decide_eq_false (by omega)
              have g2 : (57 : Int) < (y : Int) := by omega
              clear hd hy h1
              go_wp2_with fail
              go_ret2
              exact ⟨by rw [rintV, H.out]; rfl, rfl⟩
        · obtain rfl : i = s.size := by omega
          have Hv := Lib.hid (show Lib.decFrom 0 s.data.toList = some n by rw [Hd.out, List.drop_eq_nil_of_le (by rw [Hlen.out]; exact Nat.le_refl _)]; rfl)
          have hn19 : n < 10000000000000000000 := Nat.lt_of_lt_of_le Hn.out (Nat.le_trans (Nat.pow_le_pow_right (by omega) (show s.size ≤ 19 by omega)) (by decide))
          by_cases hbig : 9223372036854775807 < n
          · have H := Lib.hid (show refInt s.data.toList = none by rw [HE.out, Hv.out]; simp only; rw [if_pos hbig])
            have g1 : (9223372036854775807 : Int) < (n : Int) := by omega
            go_wp2_with fail
            go_ret2
            exact ⟨by rw [rintV, H.out]; rfl, rfl⟩
          · have H := Lib.hid (show refInt s.data.toList = some ((n : Int)) by rw [HE.out, Hv.out]; simp only; rw [if_neg hbig])
            have g1 : decide ((9223372036854775807 : Int) < (n : Int)) = false := decide_eq_false (by omega)
            have w1 : IntKind.i64.wrap (n : Int) = (n : Int) := IntWalk.i64_in _ (by omega)
            have w2 : IntKind.i64.wrap (-(n : Int)) = -(n : Int) := IntWalk.i64_in _ (by omega)
            go_wp2_with fail
            go_ret2
            exact ⟨by rw [rintV, H.out]; rfl, rfl⟩
set_option maxRecDepth 100000 in
set_option maxHeartbeats 2000000 in
theorem rint_minus (s : ByteArray) (w : World) (hsz : 1 < s.size) (h45 : s.data.toList.head? = some 45) (hmin : ¬ s.data.toList = minS) : Calls Tryz.prog 97 #[.string s] w fun e w' => e = .returned (rintV s.data.toList) ∧ w' = w := by
  have hlen : s.data.toList.length = s.size := by rw [Array.length_toList]; rfl
  have hm : (s.toList == minS) = false := by rw [Lib.toList_data]; simpa using hmin
  have hm : (s.toList == [45, 57, 50, 50, 51, 51, 55, 50, 48, 51, 54, 56, 53, 52, 55, 55, 53, 56, 48, 56]) = false := hm
  have hbl : belowB s.data.toList = true := by rw [belowB, h45, decide_eq_true (by omega)]; rfl
  obtain ⟨r, hr⟩ : ∃ r, s.extract 1 s.size = r := ⟨_, rfl⟩
  have hrl : r.data.toList = s.data.toList.tail := by rw [← hr, extract_eq, strB_list, List.take_of_length_le (by rw [List.length_drop]; omega), List.drop_one]
  have hbare : bareS s.data.toList = r.data.toList := by rw [bareS, hbl, hrl]; rfl
  have hrlen : r.data.toList.length = r.size := by rw [Array.length_toList]; rfl
  have hrs : r.size + 1 = s.size := by rw [← hrlen, hrl, List.length_tail]; omega
  obtain ⟨c0, hc0, hd0⟩ := drop_byte (s := s) (i := 0) (by omega)
  rw [List.drop_zero] at hd0
  have x0 := byte_get (i := 0) (by omega) hc0 0 rfl
  have hhead : c0 = 45 := by rw [hd0] at h45; simpa using h45
  have n45 : ((c0.toNat : Int) == 45) = true := by rw [hhead]; rfl
  obtain ⟨c1, hc1, hd1⟩ := drop_byte (s := r) (i := 0) (by omega)
  rw [List.drop_zero] at hd1
  have x1 := byte_get (i := 0) (by omega) hc1 0 rfl
  have hhead1 : r.data.toList.head? = some c1 := by rw [hd1]; rfl
  have g0 : (1 : Int) < (s.size : Int) := by omega
  have g01 : (1 : Int) ≤ (s.size : Int) := by omega
  have g00 : (0 : Int) < (s.size : Int) := by omega
  have g02 : (0 : Int) < (r.size : Int) := by omega
  have z0 : ((r.size : Int) == 0) = false := by rw [beq_eq_false_iff_ne]; omega
  clear hd0 hc0 hc1 hd1 hhead h45
  by_cases e1 : 19 < r.size
  · have H := Lib.hid (show refInt s.data.toList = none by rw [refInt, if_neg hmin, if_pos]; rw [badS, hbare, decide_eq_true (show 19 < r.data.toList.length by omega)]; simp)
    have z1 : (19 : Int) < (r.size : Int) := by omega
    clear hmin hbl hbare hlen hrlen hrl hhead1
    go_enter Tryz.func97, Tryz.ntmps97
    go_wp2_with fail
    go_ret2
    exact ⟨by rw [rintV, H.out]; rfl, rfl⟩
  · have z1 : decide ((19 : Int) < (r.size : Int)) = false := decide_eq_false (by omega)
    by_cases f1 : 1 < r.size
    · have f2 : (1 : Int) < (r.size : Int) := by omega
      have h48 : (r.toList == [48]) = false := by
        rw [Lib.toList_data, beq_eq_false_iff_ne]
        intro h
        rw [h] at hrlen
        simp at hrlen
        omega
      by_cases e2 : c1 = 48
      · have H := Lib.hid (show refInt s.data.toList = none by rw [refInt, if_neg hmin, if_pos]; rw [badS, hbare, hhead1, decide_eq_true (show 1 < r.data.toList.length by omega), e2]; simp)
        have z2 : ((c1.toNat : Int) == 48) = true := by rw [e2]; rfl
        clear hmin hbl hbare hlen hrlen hrl hhead1 e2
        go_enter Tryz.func97, Tryz.ntmps97
        go_wp2_with fail
        go_ret2
        exact ⟨by rw [rintV, H.out]; rfl, rfl⟩
      · have z2 : ((c1.toNat : Int) == 48) = false := by
          rw [beq_eq_false_iff_ne]
          intro h
          exact e2 (UInt8.toNat.inj (by have : (48 : UInt8).toNat = 48 := rfl; omega))
        have hgood : badS s.data.toList = false := by
          rw [badS, hbare, hbl, hhead1, decide_eq_false (show ¬ 19 < r.data.toList.length by omega)]
          rw [Lib.toList_data] at h48
          rw [emp_no (l := r.data.toList) (by omega), beq_eq_false_iff_ne.2 (fun h => e2 (Option.some.inj h)), Bool.and_false, h48]
          rfl
        have HE := Lib.hid (show refInt s.data.toList = (match Lib.decFrom 0 r.data.toList with | none => none | some n => if 9223372036854775807 < n then none else some (-(n : Int))) by
          rw [refInt, if_neg hmin, if_neg (by rw [hgood]; decide), hbare, hbl]
          rfl)
        clear hmin hbl hbare hlen hgood hrlen hrl hhead1 e2
        have Hlen := Lib.hid (show r.data.toList.length = r.size by rw [Array.length_toList]; rfl)
        go_enter Tryz.func97, Tryz.ntmps97
        go_wp2_with fail
        go_loopw [5, 6] (fun u v wr => ∃ n i : Nat, u = .int .u64 n ∧ v = .int .i64 i ∧ i ≤ r.size ∧ Hid (n < 10 ^ i) ∧ Hid (Lib.decFrom 0 r.data.toList = Lib.decFrom n (r.data.toList.drop i)) ∧ wr = w) (fun _ v _ => r.size - (intOf v).toNat)
        case atStart => exact ⟨0, 0, rfl, rfl, by omega, Lib.hid (by decide), Lib.hid rfl, rfl⟩
        case round =>
          obtain ⟨n, i, rfl, rfl, hi, Hn, Hd, rfl⟩ := hrel
          by_cases hlt : i < r.size
          · obtain ⟨c, hc, hd⟩ := drop_byte hlt
            have x1 := byte_get hlt hc i rfl
            have i0 : (0 : Int) ≤ (i : Int) := by omega
            have i1 : (i : Int) < (r.size : Int) := by omega
            have hc256 := c.toNat_lt
            have hn18 : n < 1000000000000000000 := Nat.lt_of_lt_of_le Hn.out (Nat.le_trans (Nat.pow_le_pow_right (by omega) (show i ≤ 18 by omega)) (by decide))
            obtain ⟨y, hy⟩ : ∃ y : Nat, c.toNat = y := ⟨_, rfl⟩
            have x2 : ∀ hh : i < r.size, (r[i]'hh).toNat = y := fun hh => by rw [x1, hy]
            clear x1 hc
            by_cases h1 : 48 ≤ y ∧ y ≤ 57
            · obtain ⟨d, hd2⟩ : ∃ d, y = 48 + d := ⟨y - 48, by omega⟩
              have Hn2 := Lib.hid (show n * 10 + d < 10 ^ (i + 1) by have := Hn.out; rw [Nat.pow_succ]; omega)
              have Hd2 := Lib.hid (show Lib.decFrom 0 r.data.toList = Lib.decFrom (n * 10 + d) (r.data.toList.drop (i + 1)) by rw [Hd.out, hd]; exact decFrom_step (by omega) (by omega))
              have g1 : decide ((y : Int) < 48) = false := decide_eq_false (by omega)
              have g2 : decide ((57 : Int) < (y : Int)) = false := decide_eq_false (by omega)
              have w1 : IntKind.u64.wrap (10 * (n : Int)) = 10 * (n : Int) := IntWalk.u64_in _ (by omega)
              have w2 : IntKind.u8.wrap ((y : Int) - 48) = (d : Int) := by rw [IntWalk.u8_in _ (by omega)]; omega
              have w3 : IntKind.u64.wrap (d : Int) = (d : Int) := IntWalk.u64_in _ (by omega)
              have w4 : IntKind.u64.wrap (10 * (n : Int) + (d : Int)) = 10 * (n : Int) + (d : Int) := IntWalk.u64_in _ (by omega)
              clear hd hy h1 hd2
              go_wp2_with fail
              go_roundw
              case rel => exact ⟨n * 10 + d, i + 1, by go_num, by go_num, by omega, Hn2, Hd2, by first | rfl | trivial⟩
              case measure => simp [intOf]; omega
            · have H := Lib.hid (show refInt s.data.toList = none by rw [HE.out, Hd.out, hd, decFrom_bad (by omega)])
              rcases Nat.lt_or_ge y 48 with h2 | h2
              · have g1 : (y : Int) < 48 := by omega
                clear hd hy h1
                go_wp2_with fail
                go_ret2
                exact ⟨by rw [rintV, H.out]; rfl, rfl⟩
              · have g1 : decide ((y : Int) < 48) = false := decide_eq_false (by omega)
                have g2 : (57 : Int) < (y : Int) := by omega
                clear hd hy h1
                go_wp2_with fail
                go_ret2
                exact ⟨by rw [rintV, H.out]; rfl, rfl⟩
          · obtain rfl : i = r.size := by omega
            have Hv := Lib.hid (show Lib.decFrom 0 r.data.toList = some n by rw [Hd.out, List.drop_eq_nil_of_le (by rw [Hlen.out]; exact Nat.le_refl _)]; rfl)
            have hn19 : n < 10000000000000000000 := Nat.lt_of_lt_of_le Hn.out (Nat.le_trans (Nat.pow_le_pow_right (by omega) (show r.size ≤ 19 by omega)) (by decide))
            by_cases hbig : 9223372036854775807 < n
            · have H := Lib.hid (show refInt s.data.toList = none by rw [HE.out, Hv.out]; simp only; rw [if_pos hbig])
              have g1 : (9223372036854775807 : Int) < (n : Int) := by omega
              go_wp2_with fail
              go_ret2
              exact ⟨by rw [rintV, H.out]; rfl, rfl⟩
            · have H := Lib.hid (show refInt s.data.toList = some (-(n : Int)) by rw [HE.out, Hv.out]; simp only; rw [if_neg hbig])
              have g1 : decide ((9223372036854775807 : Int) < (n : Int)) = false := decide_eq_false (by omega)
              have w1 : IntKind.i64.wrap (n : Int) = (n : Int) := IntWalk.i64_in _ (by omega)
              have w2 : IntKind.i64.wrap (-(n : Int)) = -(n : Int) := IntWalk.i64_in _ (by omega)
              go_wp2_with fail
              go_ret2
              exact ⟨by rw [rintV, H.out]; rfl, rfl⟩
    · have f2 : decide ((1 : Int) < (r.size : Int)) = false := decide_eq_false (by omega)
      by_cases e2 : r.data.toList = [48]
      · have H := Lib.hid (show refInt s.data.toList = none by rw [refInt, if_neg hmin, if_pos]; rw [badS, hbare, hbl, e2]; rfl)
        have h48 : (r.toList == [48]) = true := by rw [Lib.toList_data, e2]; rfl
        clear hmin hbl hbare hlen hrlen hrl hhead1 e2
        go_enter Tryz.func97, Tryz.ntmps97
        go_wp2_with fail
        go_ret2
        exact ⟨by rw [rintV, H.out]; rfl, rfl⟩
      · have h48 : (r.toList == [48]) = false := by rw [Lib.toList_data]; simpa using e2
        have hgood : badS s.data.toList = false := by
          rw [badS, hbare, hbl, hhead1, decide_eq_false (show ¬ 19 < r.data.toList.length by omega), decide_eq_false (show ¬ 1 < r.data.toList.length by omega)]
          rw [emp_no (l := r.data.toList) (by omega), beq_eq_false_iff_ne.2 e2]
          rfl
        have HE := Lib.hid (show refInt s.data.toList = (match Lib.decFrom 0 r.data.toList with | none => none | some n => if 9223372036854775807 < n then none else some (-(n : Int))) by
          rw [refInt, if_neg hmin, if_neg (by rw [hgood]; decide), hbare, hbl]
          rfl)
        clear hmin hbl hbare hlen hgood hrlen hrl hhead1 e2
        have Hlen := Lib.hid (show r.data.toList.length = r.size by rw [Array.length_toList]; rfl)
        go_enter Tryz.func97, Tryz.ntmps97
        go_wp2_with fail
        go_loopw [5, 6] (fun u v wr => ∃ n i : Nat, u = .int .u64 n ∧ v = .int .i64 i ∧ i ≤ r.size ∧ Hid (n < 10 ^ i) ∧ Hid (Lib.decFrom 0 r.data.toList = Lib.decFrom n (r.data.toList.drop i)) ∧ wr = w) (fun _ v _ => r.size - (intOf v).toNat)
        case atStart => exact ⟨0, 0, rfl, rfl, by omega, Lib.hid (by decide), Lib.hid rfl, rfl⟩
        case round =>
          obtain ⟨n, i, rfl, rfl, hi, Hn, Hd, rfl⟩ := hrel
          by_cases hlt : i < r.size
          · obtain ⟨c, hc, hd⟩ := drop_byte hlt
            have x1 := byte_get hlt hc i rfl
            have i0 : (0 : Int) ≤ (i : Int) := by omega
            have i1 : (i : Int) < (r.size : Int) := by omega
            have hc256 := c.toNat_lt
            have hn18 : n < 1000000000000000000 := Nat.lt_of_lt_of_le Hn.out (Nat.le_trans (Nat.pow_le_pow_right (by omega) (show i ≤ 18 by omega)) (by decide))
            obtain ⟨y, hy⟩ : ∃ y : Nat, c.toNat = y := ⟨_, rfl⟩
            have x2 : ∀ hh : i < r.size, (r[i]'hh).toNat = y := fun hh => by rw [x1, hy]
            clear x1 hc
            by_cases h1 : 48 ≤ y ∧ y ≤ 57
            · obtain ⟨d, hd2⟩ : ∃ d, y = 48 + d := ⟨y - 48, by omega⟩
              have Hn2 := Lib.hid (show n * 10 + d < 10 ^ (i + 1) by have := Hn.out; rw [Nat.pow_succ]; omega)
              have Hd2 := Lib.hid (show Lib.decFrom 0 r.data.toList = Lib.decFrom (n * 10 + d) (r.data.toList.drop (i + 1)) by rw [Hd.out, hd]; exact decFrom_step (by omega) (by omega))
              have g1 : decide ((y : Int) < 48) = false := decide_eq_false (by omega)
              have g2 : decide ((57 : Int) < (y : Int)) = false := decide_eq_false (by omega)
              have w1 : IntKind.u64.wrap (10 * (n : Int)) = 10 * (n : Int) := IntWalk.u64_in _ (by omega)
              have w2 : IntKind.u8.wrap ((y : Int) - 48) = (d : Int) := by rw [IntWalk.u8_in _ (by omega)]; omega
              have w3 : IntKind.u64.wrap (d : Int) = (d : Int) := IntWalk.u64_in _ (by omega)
              have w4 : IntKind.u64.wrap (10 * (n : Int) + (d : Int)) = 10 * (n : Int) + (d : Int) := IntWalk.u64_in _ (by omega)
              clear hd hy h1 hd2
              go_wp2_with fail
              go_roundw
              case rel => exact ⟨n * 10 + d, i + 1, by go_num, by go_num, by omega, Hn2, Hd2, by first | rfl | trivial⟩
              case measure => simp [intOf]; omega
            · have H := Lib.hid (show refInt s.data.toList = none by rw [HE.out, Hd.out, hd, decFrom_bad (by omega)])
              rcases Nat.lt_or_ge y 48 with h2 | h2
              · have g1 : (y : Int) < 48 := by omega
                clear hd hy h1
                go_wp2_with fail
                go_ret2
                exact ⟨by rw [rintV, H.out]; rfl, rfl⟩
              · have g1 : decide ((y : Int) < 48) = false := decide_eq_false (by omega)
                have g2 : (57 : Int) < (y : Int) := by omega
                clear hd hy h1
                go_wp2_with fail
                go_ret2
                exact ⟨by rw [rintV, H.out]; rfl, rfl⟩
          · obtain rfl : i = r.size := by omega
            have Hv := Lib.hid (show Lib.decFrom 0 r.data.toList = some n by rw [Hd.out, List.drop_eq_nil_of_le (by rw [Hlen.out]; exact Nat.le_refl _)]; rfl)
            have hn19 : n < 10000000000000000000 := Nat.lt_of_lt_of_le Hn.out (Nat.le_trans (Nat.pow_le_pow_right (by omega) (show r.size ≤ 19 by omega)) (by decide))
            by_cases hbig : 9223372036854775807 < n
            · have H := Lib.hid (show refInt s.data.toList = none by rw [HE.out, Hv.out]; simp only; rw [if_pos hbig])
              have g1 : (9223372036854775807 : Int) < (n : Int) := by omega
              go_wp2_with fail
              go_ret2
              exact ⟨by rw [rintV, H.out]; rfl, rfl⟩
            · have H := Lib.hid (show refInt s.data.toList = some (-(n : Int)) by rw [HE.out, Hv.out]; simp only; rw [if_neg hbig])
              have g1 : decide ((9223372036854775807 : Int) < (n : Int)) = false := decide_eq_false (by omega)
              have w1 : IntKind.i64.wrap (n : Int) = (n : Int) := IntWalk.i64_in _ (by omega)
              have w2 : IntKind.i64.wrap (-(n : Int)) = -(n : Int) := IntWalk.i64_in _ (by omega)
              go_wp2_with fail
              go_ret2
              exact ⟨by rw [rintV, H.out]; rfl, rfl⟩
set_option maxRecDepth 100000 in
set_option maxHeartbeats 400000 in
theorem rint_min (w : World) : Calls Tryz.prog 97 #[.string (strB minS)] w fun e w' => e = .returned (rintV minS) ∧ w' = w := by
  have hm : ((strB minS).toList == [45, 57, 50, 50, 51, 51, 55, 50, 48, 51, 54, 56, 53, 52, 55, 55, 53, 56, 48, 56]) = true := by rw [Lib.toList_data, strB_list]; rfl
  go_enter Tryz.func97, Tryz.ntmps97
  go_wp2_with fail
  go_ret2
  exact ⟨by rw [rintV, refInt, if_pos rfl]; rfl, rfl⟩
theorem rint_any (s : ByteArray) (w : World) : Calls Tryz.prog 97 #[.string s] w fun e w' => e = .returned (rintV s.data.toList) ∧ w' = w := by
  by_cases h1 : s.size ≤ 1
  · exact rint_short s w h1
  · by_cases h2 : s.data.toList = minS
    · obtain rfl : s = strB minS := by rw [← h2, strB_of]
      rw [strB_list]
      exact rint_min w
    · by_cases h3 : s.data.toList.head? = some 45
      · exact rint_minus s w (by omega) h3 h2
      · exact rint_plus s w (by omega) h3
end Go.Proofs.YtbfimimhgdkpaaaGreatDoor

/- The reference of package script: part. No condition but the stated bounds. -/
namespace Go.Proofs.YtbfimimhgdkpaaaGreatDoor
open Go.RowKit

def PartP (p : Pt) (t : Ev) (A : Option Addr) (s : List UInt8) (w : World) (en : Ending) (w' : World) : Prop :=
  (∀ t', readE p s t = some t' → (p = .x → t.bytes = []) → ∃ A' c', en = .returned (.tuple #[evV t' (.slice A' t'.bytes.length c'), .bool true]) ∧ Rd w' 1 byteE A' t'.bytes ∧ (A' = A ∨ ∀ b o, A' = some ⟨b, o, none⟩ → w.heap.size ≤ b)) ∧ (readE p s t = none → ∃ t0 A0 n0 c0, en = .returned (.tuple #[evV t0 (.slice A0 n0 c0), .bool false])) ∧ Kp w w'
structure PartW (w : World) (t : Ev) (bv : Value) (W : World) : Prop where
  kp : Kp w W
  b0 : Blk W w.heap.size 27 (evC t bv)
  b1 : Blk W (w.heap.size + 1) 27 (evC (ev0 0) (.slice none 0 0))
theorem PartW.of (w : World) (t : Ev) (bv : Value) : PartW w t bv ((w.alloc (.cells (evC t bv) 27)).alloc (.cells (evC (ev0 0) (.slice none 0 0)) 27)) :=
  ⟨((Kp.refl w).alloc _).alloc _, (Blk.new w _ _).alloc _, Blk.new1 w _ _ _⟩
set_option maxRecDepth 100000 in
set_option maxHeartbeats 2000000 in
theorem part_a_yes (t : Ev) (A : Option Addr) (c : Nat) (s : ByteArray) (w : World) (hA : Rd w 1 byteE A t.bytes) (n : Int) (hn : refInt s.data.toList = some n) : Calls Tryz.prog 54 #[evV t (.slice A t.bytes.length c), .int .u8 97, .string s] w (PartP .a t A s.data.toList w) := by
  have hv : rintV s.data.toList = .tuple #[.int .i64 n, .bool true] := by rw [rintV, hn]
  have HR := Lib.hid (show readE .a s.data.toList t = some { t with a := n } by simp only [readE]; rw [numP_eq, hn]; rfl)
  clear hn
  go_enter Tryz.func54, Tryz.ntmps54
  go_wp2_with fail
  obtain ⟨W, hW, P⟩ : ∃ W, (w.alloc (.cells (evC t (.slice A t.bytes.length c)) 27)).alloc (.cells (evC (ev0 0) (.slice none 0 0)) 27) = W ∧ PartW w t (.slice A t.bytes.length c) W := ⟨_, rfl, PartW.of w t _⟩
  simp only [evC, ev0] at hW
  rw [show ((0 : Nat) : Int) = 0 from rfl] at hW
  rw [hW]
  clear hW
  refine (rint_any s W).mono ?_
  rintro en w2 ⟨rfl, rfl⟩
  rw [hv]
  have q0 : w2.cell? ⟨w.heap.size, 0, none⟩ = some (.int .i64 t.kind) := P.b0.cell 0
  have q1 : w2.cell? ⟨w.heap.size, 1, none⟩ = some (.int .i64 t.a) := P.b0.cell 1
  have q2 : w2.cell? ⟨w.heap.size, 2, none⟩ = some (.int .i64 t.b) := P.b0.cell 2
  have q3 : w2.cell? ⟨w.heap.size, 3, none⟩ = some (.int .i64 t.c) := P.b0.cell 3
  have q4 : w2.cell? ⟨w.heap.size, 4, none⟩ = some (.int .i64 t.draw) := P.b0.cell 4
  have q5 : w2.cell? ⟨w.heap.size, 5, none⟩ = some (.int .u32 (t.src : Int)) := P.b0.cell 5
  have q6 : w2.cell? ⟨w.heap.size, 6, none⟩ = some (.slice A t.bytes.length c) := P.b0.cell 6
  have r0 : w2.cell? ⟨w.heap.size + 1, 0, none⟩ = some (.int .i64 0) := P.b1.cell 0
  have r1 : w2.cell? ⟨w.heap.size + 1, 1, none⟩ = some (.int .i64 0) := P.b1.cell 1
  have r2 : w2.cell? ⟨w.heap.size + 1, 2, none⟩ = some (.int .i64 0) := P.b1.cell 2
  have r3 : w2.cell? ⟨w.heap.size + 1, 3, none⟩ = some (.int .i64 0) := P.b1.cell 3
  have r4 : w2.cell? ⟨w.heap.size + 1, 4, none⟩ = some (.int .i64 0) := P.b1.cell 4
  have r5 : w2.cell? ⟨w.heap.size + 1, 5, none⟩ = some (.int .u32 0) := P.b1.cell 5
  have r6 : w2.cell? ⟨w.heap.size + 1, 6, none⟩ = some (.slice none 0 0) := P.b1.cell 6
  have y0 := P.b0.frozen 0
  have z0 := P.b1.frozen 0
  have y1 := P.b0.frozen 1
  have z1 := P.b1.frozen 1
  have y2 := P.b0.frozen 2
  have z2 := P.b1.frozen 2
  have y3 := P.b0.frozen 3
  have z3 := P.b1.frozen 3
  have y4 := P.b0.frozen 4
  have z4 := P.b1.frozen 4
  have y5 := P.b0.frozen 5
  have z5 := P.b1.frozen 5
  have y6 := P.b0.frozen 6
  have z6 := P.b1.frozen 6
  go_wp2_with fail
  have hB := (P.b1.far (p := ⟨w.heap.size, 1, none⟩) (by simp) (.int .i64 n)).putEv { t with a := n } (.slice A t.bytes.length c)
  have hO1 := (Only.refl [w.heap.size] w2).setCell (p := ⟨w.heap.size, 1, none⟩) (.inl (by simp)) (.int .i64 n)
  have hO2 := (Only.refl [w.heap.size + 1] (w2.setCell ⟨w.heap.size, 1, none⟩ (.int .i64 n))).putEv (g := w.heap.size + 1) (.inl (by simp)) { t with a := n } (.slice A t.bytes.length c)
  have hK := hO2.kp (hO1.kp P.kp (by simp)) (by simp)
  have f0 := hB.cell 0
  have f1 := hB.cell 1
  have f2 := hB.cell 2
  have f3 := hB.cell 3
  have f4 := hB.cell 4
  have f5 := hB.cell 5
  have f6 := hB.cell 6
  refine bodyPost_ret (v := .tuple #[evV { t with a := n } (.slice A t.bytes.length c), .bool true]) (w := evSet (w2.setCell ⟨w.heap.size, 1, none⟩ (.int .i64 n)) (w.heap.size + 1) { t with a := n } (.slice A t.bytes.length c)) ?_ rfl ?_
  · show (results _ _).run _ (evSet (w2.setCell ⟨w.heap.size, 1, none⟩ (.int .i64 n)) (w.heap.size + 1) { t with a := n } (.slice A t.bytes.length c)) = _
    simp [results, Tryz.results54, go_sem, f0, f1, f2, f3, f4, f5, f6, evC]
  · exact ⟨fun t' ht _ => (by rw [HR.out, Option.some.injEq] at ht; subst ht; exact ⟨A, c, rfl, hA.keep hK, .inl rfl⟩), fun h => (by rw [HR.out] at h; cases h), hK⟩
set_option maxRecDepth 100000 in
set_option maxHeartbeats 2000000 in
theorem part_a_no (t : Ev) (A : Option Addr) (c : Nat) (s : ByteArray) (w : World) (hA : Rd w 1 byteE A t.bytes) (hn : refInt s.data.toList = none) : Calls Tryz.prog 54 #[evV t (.slice A t.bytes.length c), .int .u8 97, .string s] w (PartP .a t A s.data.toList w) := by
  have hv : rintV s.data.toList = .tuple #[.int .i64 0, .bool false] := by rw [rintV, hn]
  have HR := Lib.hid (show readE .a s.data.toList t = none by simp only [readE]; rw [numP_eq, hn]; rfl)
  clear hn
  go_enter Tryz.func54, Tryz.ntmps54
  go_wp2_with fail
  obtain ⟨W, hW, P⟩ : ∃ W, (w.alloc (.cells (evC t (.slice A t.bytes.length c)) 27)).alloc (.cells (evC (ev0 0) (.slice none 0 0)) 27) = W ∧ PartW w t (.slice A t.bytes.length c) W := ⟨_, rfl, PartW.of w t _⟩
  simp only [evC, ev0] at hW
  rw [show ((0 : Nat) : Int) = 0 from rfl] at hW
  rw [hW]
  clear hW
  refine (rint_any s W).mono ?_
  rintro en w2 ⟨rfl, rfl⟩
  rw [hv]
  have q0 : w2.cell? ⟨w.heap.size, 0, none⟩ = some (.int .i64 t.kind) := P.b0.cell 0
  have q1 : w2.cell? ⟨w.heap.size, 1, none⟩ = some (.int .i64 t.a) := P.b0.cell 1
  have q2 : w2.cell? ⟨w.heap.size, 2, none⟩ = some (.int .i64 t.b) := P.b0.cell 2
  have q3 : w2.cell? ⟨w.heap.size, 3, none⟩ = some (.int .i64 t.c) := P.b0.cell 3
  have q4 : w2.cell? ⟨w.heap.size, 4, none⟩ = some (.int .i64 t.draw) := P.b0.cell 4
  have q5 : w2.cell? ⟨w.heap.size, 5, none⟩ = some (.int .u32 (t.src : Int)) := P.b0.cell 5
  have q6 : w2.cell? ⟨w.heap.size, 6, none⟩ = some (.slice A t.bytes.length c) := P.b0.cell 6
  have r0 : w2.cell? ⟨w.heap.size + 1, 0, none⟩ = some (.int .i64 0) := P.b1.cell 0
  have r1 : w2.cell? ⟨w.heap.size + 1, 1, none⟩ = some (.int .i64 0) := P.b1.cell 1
  have r2 : w2.cell? ⟨w.heap.size + 1, 2, none⟩ = some (.int .i64 0) := P.b1.cell 2
  have r3 : w2.cell? ⟨w.heap.size + 1, 3, none⟩ = some (.int .i64 0) := P.b1.cell 3
  have r4 : w2.cell? ⟨w.heap.size + 1, 4, none⟩ = some (.int .i64 0) := P.b1.cell 4
  have r5 : w2.cell? ⟨w.heap.size + 1, 5, none⟩ = some (.int .u32 0) := P.b1.cell 5
  have r6 : w2.cell? ⟨w.heap.size + 1, 6, none⟩ = some (.slice none 0 0) := P.b1.cell 6
  have y0 := P.b0.frozen 0
  have z0 := P.b1.frozen 0
  have y1 := P.b0.frozen 1
  have z1 := P.b1.frozen 1
  have y2 := P.b0.frozen 2
  have z2 := P.b1.frozen 2
  have y3 := P.b0.frozen 3
  have z3 := P.b1.frozen 3
  have y4 := P.b0.frozen 4
  have z4 := P.b1.frozen 4
  have y5 := P.b0.frozen 5
  have z5 := P.b1.frozen 5
  have y6 := P.b0.frozen 6
  have z6 := P.b1.frozen 6
  go_wp2_with fail
  have hB := (P.b1.far (p := ⟨w.heap.size, 1, none⟩) (by simp) (.int .i64 0)).putEv { t with a := 0 } (.slice A t.bytes.length c)
  have hO1 := (Only.refl [w.heap.size] w2).setCell (p := ⟨w.heap.size, 1, none⟩) (.inl (by simp)) (.int .i64 0)
  have hO2 := (Only.refl [w.heap.size + 1] (w2.setCell ⟨w.heap.size, 1, none⟩ (.int .i64 0))).putEv (g := w.heap.size + 1) (.inl (by simp)) { t with a := 0 } (.slice A t.bytes.length c)
  have hK := hO2.kp (hO1.kp P.kp (by simp)) (by simp)
  have f0 := hB.cell 0
  have f1 := hB.cell 1
  have f2 := hB.cell 2
  have f3 := hB.cell 3
  have f4 := hB.cell 4
  have f5 := hB.cell 5
  have f6 := hB.cell 6
  refine bodyPost_ret (v := .tuple #[evV { t with a := 0 } (.slice A t.bytes.length c), .bool false]) (w := evSet (w2.setCell ⟨w.heap.size, 1, none⟩ (.int .i64 0)) (w.heap.size + 1) { t with a := 0 } (.slice A t.bytes.length c)) ?_ rfl ?_
  · show (results _ _).run _ (evSet (w2.setCell ⟨w.heap.size, 1, none⟩ (.int .i64 0)) (w.heap.size + 1) { t with a := 0 } (.slice A t.bytes.length c)) = _
    simp [results, Tryz.results54, go_sem, f0, f1, f2, f3, f4, f5, f6, evC]
  · exact ⟨fun t' ht _ => (by rw [HR.out] at ht; cases ht), fun _ => ⟨_, _, _, _, rfl⟩, hK⟩
set_option maxRecDepth 100000 in
set_option maxHeartbeats 2000000 in
theorem part_b_yes (t : Ev) (A : Option Addr) (c : Nat) (s : ByteArray) (w : World) (hA : Rd w 1 byteE A t.bytes) (n : Int) (hn : refInt s.data.toList = some n) : Calls Tryz.prog 54 #[evV t (.slice A t.bytes.length c), .int .u8 98, .string s] w (PartP .b t A s.data.toList w) := by
  have hv : rintV s.data.toList = .tuple #[.int .i64 n, .bool true] := by rw [rintV, hn]
  have HR := Lib.hid (show readE .b s.data.toList t = some { t with b := n } by simp only [readE]; rw [numP_eq, hn]; rfl)
  clear hn
  go_enter Tryz.func54, Tryz.ntmps54
  go_wp2_with fail
  obtain ⟨W, hW, P⟩ : ∃ W, (w.alloc (.cells (evC t (.slice A t.bytes.length c)) 27)).alloc (.cells (evC (ev0 0) (.slice none 0 0)) 27) = W ∧ PartW w t (.slice A t.bytes.length c) W := ⟨_, rfl, PartW.of w t _⟩
  simp only [evC, ev0] at hW
  rw [show ((0 : Nat) : Int) = 0 from rfl] at hW
  rw [hW]
  clear hW
  refine (rint_any s W).mono ?_
  rintro en w2 ⟨rfl, rfl⟩
  rw [hv]
  have q0 : w2.cell? ⟨w.heap.size, 0, none⟩ = some (.int .i64 t.kind) := P.b0.cell 0
  have q1 : w2.cell? ⟨w.heap.size, 1, none⟩ = some (.int .i64 t.a) := P.b0.cell 1
  have q2 : w2.cell? ⟨w.heap.size, 2, none⟩ = some (.int .i64 t.b) := P.b0.cell 2
  have q3 : w2.cell? ⟨w.heap.size, 3, none⟩ = some (.int .i64 t.c) := P.b0.cell 3
  have q4 : w2.cell? ⟨w.heap.size, 4, none⟩ = some (.int .i64 t.draw) := P.b0.cell 4
  have q5 : w2.cell? ⟨w.heap.size, 5, none⟩ = some (.int .u32 (t.src : Int)) := P.b0.cell 5
  have q6 : w2.cell? ⟨w.heap.size, 6, none⟩ = some (.slice A t.bytes.length c) := P.b0.cell 6
  have r0 : w2.cell? ⟨w.heap.size + 1, 0, none⟩ = some (.int .i64 0) := P.b1.cell 0
  have r1 : w2.cell? ⟨w.heap.size + 1, 1, none⟩ = some (.int .i64 0) := P.b1.cell 1
  have r2 : w2.cell? ⟨w.heap.size + 1, 2, none⟩ = some (.int .i64 0) := P.b1.cell 2
  have r3 : w2.cell? ⟨w.heap.size + 1, 3, none⟩ = some (.int .i64 0) := P.b1.cell 3
  have r4 : w2.cell? ⟨w.heap.size + 1, 4, none⟩ = some (.int .i64 0) := P.b1.cell 4
  have r5 : w2.cell? ⟨w.heap.size + 1, 5, none⟩ = some (.int .u32 0) := P.b1.cell 5
  have r6 : w2.cell? ⟨w.heap.size + 1, 6, none⟩ = some (.slice none 0 0) := P.b1.cell 6
  have y0 := P.b0.frozen 0
  have z0 := P.b1.frozen 0
  have y1 := P.b0.frozen 1
  have z1 := P.b1.frozen 1
  have y2 := P.b0.frozen 2
  have z2 := P.b1.frozen 2
  have y3 := P.b0.frozen 3
  have z3 := P.b1.frozen 3
  have y4 := P.b0.frozen 4
  have z4 := P.b1.frozen 4
  have y5 := P.b0.frozen 5
  have z5 := P.b1.frozen 5
  have y6 := P.b0.frozen 6
  have z6 := P.b1.frozen 6
  go_wp2_with fail
  have hB := (P.b1.far (p := ⟨w.heap.size, 2, none⟩) (by simp) (.int .i64 n)).putEv { t with b := n } (.slice A t.bytes.length c)
  have hO1 := (Only.refl [w.heap.size] w2).setCell (p := ⟨w.heap.size, 2, none⟩) (.inl (by simp)) (.int .i64 n)
  have hO2 := (Only.refl [w.heap.size + 1] (w2.setCell ⟨w.heap.size, 2, none⟩ (.int .i64 n))).putEv (g := w.heap.size + 1) (.inl (by simp)) { t with b := n } (.slice A t.bytes.length c)
  have hK := hO2.kp (hO1.kp P.kp (by simp)) (by simp)
  have f0 := hB.cell 0
  have f1 := hB.cell 1
  have f2 := hB.cell 2
  have f3 := hB.cell 3
  have f4 := hB.cell 4
  have f5 := hB.cell 5
  have f6 := hB.cell 6
  refine bodyPost_ret (v := .tuple #[evV { t with b := n } (.slice A t.bytes.length c), .bool true]) (w := evSet (w2.setCell ⟨w.heap.size, 2, none⟩ (.int .i64 n)) (w.heap.size + 1) { t with b := n } (.slice A t.bytes.length c)) ?_ rfl ?_
  · show (results _ _).run _ (evSet (w2.setCell ⟨w.heap.size, 2, none⟩ (.int .i64 n)) (w.heap.size + 1) { t with b := n } (.slice A t.bytes.length c)) = _
    simp [results, Tryz.results54, go_sem, f0, f1, f2, f3, f4, f5, f6, evC]
  · exact ⟨fun t' ht _ => (by rw [HR.out, Option.some.injEq] at ht; subst ht; exact ⟨A, c, rfl, hA.keep hK, .inl rfl⟩), fun h => (by rw [HR.out] at h; cases h), hK⟩
set_option maxRecDepth 100000 in
set_option maxHeartbeats 2000000 in
theorem part_b_no (t : Ev) (A : Option Addr) (c : Nat) (s : ByteArray) (w : World) (hA : Rd w 1 byteE A t.bytes) (hn : refInt s.data.toList = none) : Calls Tryz.prog 54 #[evV t (.slice A t.bytes.length c), .int .u8 98, .string s] w (PartP .b t A s.data.toList w) := by
  have hv : rintV s.data.toList = .tuple #[.int .i64 0, .bool false] := by rw [rintV, hn]
  have HR := Lib.hid (show readE .b s.data.toList t = none by simp only [readE]; rw [numP_eq, hn]; rfl)
  clear hn
  go_enter Tryz.func54, Tryz.ntmps54
  go_wp2_with fail
  obtain ⟨W, hW, P⟩ : ∃ W, (w.alloc (.cells (evC t (.slice A t.bytes.length c)) 27)).alloc (.cells (evC (ev0 0) (.slice none 0 0)) 27) = W ∧ PartW w t (.slice A t.bytes.length c) W := ⟨_, rfl, PartW.of w t _⟩
  simp only [evC, ev0] at hW
  rw [show ((0 : Nat) : Int) = 0 from rfl] at hW
  rw [hW]
  clear hW
  refine (rint_any s W).mono ?_
  rintro en w2 ⟨rfl, rfl⟩
  rw [hv]
  have q0 : w2.cell? ⟨w.heap.size, 0, none⟩ = some (.int .i64 t.kind) := P.b0.cell 0
  have q1 : w2.cell? ⟨w.heap.size, 1, none⟩ = some (.int .i64 t.a) := P.b0.cell 1
  have q2 : w2.cell? ⟨w.heap.size, 2, none⟩ = some (.int .i64 t.b) := P.b0.cell 2
  have q3 : w2.cell? ⟨w.heap.size, 3, none⟩ = some (.int .i64 t.c) := P.b0.cell 3
  have q4 : w2.cell? ⟨w.heap.size, 4, none⟩ = some (.int .i64 t.draw) := P.b0.cell 4
  have q5 : w2.cell? ⟨w.heap.size, 5, none⟩ = some (.int .u32 (t.src : Int)) := P.b0.cell 5
  have q6 : w2.cell? ⟨w.heap.size, 6, none⟩ = some (.slice A t.bytes.length c) := P.b0.cell 6
  have r0 : w2.cell? ⟨w.heap.size + 1, 0, none⟩ = some (.int .i64 0) := P.b1.cell 0
  have r1 : w2.cell? ⟨w.heap.size + 1, 1, none⟩ = some (.int .i64 0) := P.b1.cell 1
  have r2 : w2.cell? ⟨w.heap.size + 1, 2, none⟩ = some (.int .i64 0) := P.b1.cell 2
  have r3 : w2.cell? ⟨w.heap.size + 1, 3, none⟩ = some (.int .i64 0) := P.b1.cell 3
  have r4 : w2.cell? ⟨w.heap.size + 1, 4, none⟩ = some (.int .i64 0) := P.b1.cell 4
  have r5 : w2.cell? ⟨w.heap.size + 1, 5, none⟩ = some (.int .u32 0) := P.b1.cell 5
  have r6 : w2.cell? ⟨w.heap.size + 1, 6, none⟩ = some (.slice none 0 0) := P.b1.cell 6
  have y0 := P.b0.frozen 0
  have z0 := P.b1.frozen 0
  have y1 := P.b0.frozen 1
  have z1 := P.b1.frozen 1
  have y2 := P.b0.frozen 2
  have z2 := P.b1.frozen 2
  have y3 := P.b0.frozen 3
  have z3 := P.b1.frozen 3
  have y4 := P.b0.frozen 4
  have z4 := P.b1.frozen 4
  have y5 := P.b0.frozen 5
  have z5 := P.b1.frozen 5
  have y6 := P.b0.frozen 6
  have z6 := P.b1.frozen 6
  go_wp2_with fail
  have hB := (P.b1.far (p := ⟨w.heap.size, 2, none⟩) (by simp) (.int .i64 0)).putEv { t with b := 0 } (.slice A t.bytes.length c)
  have hO1 := (Only.refl [w.heap.size] w2).setCell (p := ⟨w.heap.size, 2, none⟩) (.inl (by simp)) (.int .i64 0)
  have hO2 := (Only.refl [w.heap.size + 1] (w2.setCell ⟨w.heap.size, 2, none⟩ (.int .i64 0))).putEv (g := w.heap.size + 1) (.inl (by simp)) { t with b := 0 } (.slice A t.bytes.length c)
  have hK := hO2.kp (hO1.kp P.kp (by simp)) (by simp)
  have f0 := hB.cell 0
  have f1 := hB.cell 1
  have f2 := hB.cell 2
  have f3 := hB.cell 3
  have f4 := hB.cell 4
  have f5 := hB.cell 5
  have f6 := hB.cell 6
  refine bodyPost_ret (v := .tuple #[evV { t with b := 0 } (.slice A t.bytes.length c), .bool false]) (w := evSet (w2.setCell ⟨w.heap.size, 2, none⟩ (.int .i64 0)) (w.heap.size + 1) { t with b := 0 } (.slice A t.bytes.length c)) ?_ rfl ?_
  · show (results _ _).run _ (evSet (w2.setCell ⟨w.heap.size, 2, none⟩ (.int .i64 0)) (w.heap.size + 1) { t with b := 0 } (.slice A t.bytes.length c)) = _
    simp [results, Tryz.results54, go_sem, f0, f1, f2, f3, f4, f5, f6, evC]
  · exact ⟨fun t' ht _ => (by rw [HR.out] at ht; cases ht), fun _ => ⟨_, _, _, _, rfl⟩, hK⟩
set_option maxRecDepth 100000 in
set_option maxHeartbeats 2000000 in
theorem part_d_yes (t : Ev) (A : Option Addr) (c : Nat) (s : ByteArray) (w : World) (hA : Rd w 1 byteE A t.bytes) (n : Int) (hn : refInt s.data.toList = some n) : Calls Tryz.prog 54 #[evV t (.slice A t.bytes.length c), .int .u8 100, .string s] w (PartP .d t A s.data.toList w) := by
  have hv : rintV s.data.toList = .tuple #[.int .i64 n, .bool true] := by rw [rintV, hn]
  have HR := Lib.hid (show readE .d s.data.toList t = some { t with draw := n } by simp only [readE]; rw [numP_eq, hn]; rfl)
  clear hn
  go_enter Tryz.func54, Tryz.ntmps54
  go_wp2_with fail
  obtain ⟨W, hW, P⟩ : ∃ W, (w.alloc (.cells (evC t (.slice A t.bytes.length c)) 27)).alloc (.cells (evC (ev0 0) (.slice none 0 0)) 27) = W ∧ PartW w t (.slice A t.bytes.length c) W := ⟨_, rfl, PartW.of w t _⟩
  simp only [evC, ev0] at hW
  rw [show ((0 : Nat) : Int) = 0 from rfl] at hW
  rw [hW]
  clear hW
  refine (rint_any s W).mono ?_
  rintro en w2 ⟨rfl, rfl⟩
  rw [hv]
  have q0 : w2.cell? ⟨w.heap.size, 0, none⟩ = some (.int .i64 t.kind) := P.b0.cell 0
  have q1 : w2.cell? ⟨w.heap.size, 1, none⟩ = some (.int .i64 t.a) := P.b0.cell 1
  have q2 : w2.cell? ⟨w.heap.size, 2, none⟩ = some (.int .i64 t.b) := P.b0.cell 2
  have q3 : w2.cell? ⟨w.heap.size, 3, none⟩ = some (.int .i64 t.c) := P.b0.cell 3
  have q4 : w2.cell? ⟨w.heap.size, 4, none⟩ = some (.int .i64 t.draw) := P.b0.cell 4
  have q5 : w2.cell? ⟨w.heap.size, 5, none⟩ = some (.int .u32 (t.src : Int)) := P.b0.cell 5
  have q6 : w2.cell? ⟨w.heap.size, 6, none⟩ = some (.slice A t.bytes.length c) := P.b0.cell 6
  have r0 : w2.cell? ⟨w.heap.size + 1, 0, none⟩ = some (.int .i64 0) := P.b1.cell 0
  have r1 : w2.cell? ⟨w.heap.size + 1, 1, none⟩ = some (.int .i64 0) := P.b1.cell 1
  have r2 : w2.cell? ⟨w.heap.size + 1, 2, none⟩ = some (.int .i64 0) := P.b1.cell 2
  have r3 : w2.cell? ⟨w.heap.size + 1, 3, none⟩ = some (.int .i64 0) := P.b1.cell 3
  have r4 : w2.cell? ⟨w.heap.size + 1, 4, none⟩ = some (.int .i64 0) := P.b1.cell 4
  have r5 : w2.cell? ⟨w.heap.size + 1, 5, none⟩ = some (.int .u32 0) := P.b1.cell 5
  have r6 : w2.cell? ⟨w.heap.size + 1, 6, none⟩ = some (.slice none 0 0) := P.b1.cell 6
  have y0 := P.b0.frozen 0
  have z0 := P.b1.frozen 0
  have y1 := P.b0.frozen 1
  have z1 := P.b1.frozen 1
  have y2 := P.b0.frozen 2
  have z2 := P.b1.frozen 2
  have y3 := P.b0.frozen 3
  have z3 := P.b1.frozen 3
  have y4 := P.b0.frozen 4
  have z4 := P.b1.frozen 4
  have y5 := P.b0.frozen 5
  have z5 := P.b1.frozen 5
  have y6 := P.b0.frozen 6
  have z6 := P.b1.frozen 6
  go_wp2_with fail
  have hB := (P.b1.far (p := ⟨w.heap.size, 4, none⟩) (by simp) (.int .i64 n)).putEv { t with draw := n } (.slice A t.bytes.length c)
  have hO1 := (Only.refl [w.heap.size] w2).setCell (p := ⟨w.heap.size, 4, none⟩) (.inl (by simp)) (.int .i64 n)
  have hO2 := (Only.refl [w.heap.size + 1] (w2.setCell ⟨w.heap.size, 4, none⟩ (.int .i64 n))).putEv (g := w.heap.size + 1) (.inl (by simp)) { t with draw := n } (.slice A t.bytes.length c)
  have hK := hO2.kp (hO1.kp P.kp (by simp)) (by simp)
  have f0 := hB.cell 0
  have f1 := hB.cell 1
  have f2 := hB.cell 2
  have f3 := hB.cell 3
  have f4 := hB.cell 4
  have f5 := hB.cell 5
  have f6 := hB.cell 6
  refine bodyPost_ret (v := .tuple #[evV { t with draw := n } (.slice A t.bytes.length c), .bool true]) (w := evSet (w2.setCell ⟨w.heap.size, 4, none⟩ (.int .i64 n)) (w.heap.size + 1) { t with draw := n } (.slice A t.bytes.length c)) ?_ rfl ?_
  · show (results _ _).run _ (evSet (w2.setCell ⟨w.heap.size, 4, none⟩ (.int .i64 n)) (w.heap.size + 1) { t with draw := n } (.slice A t.bytes.length c)) = _
    simp [results, Tryz.results54, go_sem, f0, f1, f2, f3, f4, f5, f6, evC]
  · exact ⟨fun t' ht _ => (by rw [HR.out, Option.some.injEq] at ht; subst ht; exact ⟨A, c, rfl, hA.keep hK, .inl rfl⟩), fun h => (by rw [HR.out] at h; cases h), hK⟩
set_option maxRecDepth 100000 in
set_option maxHeartbeats 2000000 in
theorem part_d_no (t : Ev) (A : Option Addr) (c : Nat) (s : ByteArray) (w : World) (hA : Rd w 1 byteE A t.bytes) (hn : refInt s.data.toList = none) : Calls Tryz.prog 54 #[evV t (.slice A t.bytes.length c), .int .u8 100, .string s] w (PartP .d t A s.data.toList w) := by
  have hv : rintV s.data.toList = .tuple #[.int .i64 0, .bool false] := by rw [rintV, hn]
  have HR := Lib.hid (show readE .d s.data.toList t = none by simp only [readE]; rw [numP_eq, hn]; rfl)
  clear hn
  go_enter Tryz.func54, Tryz.ntmps54
  go_wp2_with fail
  obtain ⟨W, hW, P⟩ : ∃ W, (w.alloc (.cells (evC t (.slice A t.bytes.length c)) 27)).alloc (.cells (evC (ev0 0) (.slice none 0 0)) 27) = W ∧ PartW w t (.slice A t.bytes.length c) W := ⟨_, rfl, PartW.of w t _⟩
  simp only [evC, ev0] at hW
  rw [show ((0 : Nat) : Int) = 0 from rfl] at hW
  rw [hW]
  clear hW
  refine (rint_any s W).mono ?_
  rintro en w2 ⟨rfl, rfl⟩
  rw [hv]
  have q0 : w2.cell? ⟨w.heap.size, 0, none⟩ = some (.int .i64 t.kind) := P.b0.cell 0
  have q1 : w2.cell? ⟨w.heap.size, 1, none⟩ = some (.int .i64 t.a) := P.b0.cell 1
  have q2 : w2.cell? ⟨w.heap.size, 2, none⟩ = some (.int .i64 t.b) := P.b0.cell 2
  have q3 : w2.cell? ⟨w.heap.size, 3, none⟩ = some (.int .i64 t.c) := P.b0.cell 3
  have q4 : w2.cell? ⟨w.heap.size, 4, none⟩ = some (.int .i64 t.draw) := P.b0.cell 4
  have q5 : w2.cell? ⟨w.heap.size, 5, none⟩ = some (.int .u32 (t.src : Int)) := P.b0.cell 5
  have q6 : w2.cell? ⟨w.heap.size, 6, none⟩ = some (.slice A t.bytes.length c) := P.b0.cell 6
  have r0 : w2.cell? ⟨w.heap.size + 1, 0, none⟩ = some (.int .i64 0) := P.b1.cell 0
  have r1 : w2.cell? ⟨w.heap.size + 1, 1, none⟩ = some (.int .i64 0) := P.b1.cell 1
  have r2 : w2.cell? ⟨w.heap.size + 1, 2, none⟩ = some (.int .i64 0) := P.b1.cell 2
  have r3 : w2.cell? ⟨w.heap.size + 1, 3, none⟩ = some (.int .i64 0) := P.b1.cell 3
  have r4 : w2.cell? ⟨w.heap.size + 1, 4, none⟩ = some (.int .i64 0) := P.b1.cell 4
  have r5 : w2.cell? ⟨w.heap.size + 1, 5, none⟩ = some (.int .u32 0) := P.b1.cell 5
  have r6 : w2.cell? ⟨w.heap.size + 1, 6, none⟩ = some (.slice none 0 0) := P.b1.cell 6
  have y0 := P.b0.frozen 0
  have z0 := P.b1.frozen 0
  have y1 := P.b0.frozen 1
  have z1 := P.b1.frozen 1
  have y2 := P.b0.frozen 2
  have z2 := P.b1.frozen 2
  have y3 := P.b0.frozen 3
  have z3 := P.b1.frozen 3
  have y4 := P.b0.frozen 4
  have z4 := P.b1.frozen 4
  have y5 := P.b0.frozen 5
  have z5 := P.b1.frozen 5
  have y6 := P.b0.frozen 6
  have z6 := P.b1.frozen 6
  go_wp2_with fail
  have hB := (P.b1.far (p := ⟨w.heap.size, 4, none⟩) (by simp) (.int .i64 0)).putEv { t with draw := 0 } (.slice A t.bytes.length c)
  have hO1 := (Only.refl [w.heap.size] w2).setCell (p := ⟨w.heap.size, 4, none⟩) (.inl (by simp)) (.int .i64 0)
  have hO2 := (Only.refl [w.heap.size + 1] (w2.setCell ⟨w.heap.size, 4, none⟩ (.int .i64 0))).putEv (g := w.heap.size + 1) (.inl (by simp)) { t with draw := 0 } (.slice A t.bytes.length c)
  have hK := hO2.kp (hO1.kp P.kp (by simp)) (by simp)
  have f0 := hB.cell 0
  have f1 := hB.cell 1
  have f2 := hB.cell 2
  have f3 := hB.cell 3
  have f4 := hB.cell 4
  have f5 := hB.cell 5
  have f6 := hB.cell 6
  refine bodyPost_ret (v := .tuple #[evV { t with draw := 0 } (.slice A t.bytes.length c), .bool false]) (w := evSet (w2.setCell ⟨w.heap.size, 4, none⟩ (.int .i64 0)) (w.heap.size + 1) { t with draw := 0 } (.slice A t.bytes.length c)) ?_ rfl ?_
  · show (results _ _).run _ (evSet (w2.setCell ⟨w.heap.size, 4, none⟩ (.int .i64 0)) (w.heap.size + 1) { t with draw := 0 } (.slice A t.bytes.length c)) = _
    simp [results, Tryz.results54, go_sem, f0, f1, f2, f3, f4, f5, f6, evC]
  · exact ⟨fun t' ht _ => (by rw [HR.out] at ht; cases ht), fun _ => ⟨_, _, _, _, rfl⟩, hK⟩
set_option maxRecDepth 100000 in
set_option maxHeartbeats 2000000 in
theorem part_s_yes (t : Ev) (A : Option Addr) (c : Nat) (s : ByteArray) (hs : s.size ≤ 1000000) (w : World) (hA : Rd w 1 byteE A t.bytes) (n : Nat) (hn : adr s.data.toList = some n) : Calls Tryz.prog 54 #[evV t (.slice A t.bytes.length c), .int .u8 115, .string s] w (PartP .s t A s.data.toList w) := by
  obtain ⟨v0, hv⟩ : ∃ v b, rintV s.data.toList = .tuple #[.int .i64 v, .bool b] := by
    unfold rintV; split; exact ⟨_, _, rfl⟩; exact ⟨_, _, rfl⟩
  obtain ⟨b0, hv⟩ := hv
  have HR := Lib.hid (show readE .s s.data.toList t = some { t with src := n } by simp only [readE]; rw [hn]; rfl)
  have Hn := Lib.hid hn
  clear hn
  go_enter Tryz.func54, Tryz.ntmps54
  go_wp2_with fail
  obtain ⟨W, hW, P⟩ : ∃ W, (w.alloc (.cells (evC t (.slice A t.bytes.length c)) 27)).alloc (.cells (evC (ev0 0) (.slice none 0 0)) 27) = W ∧ PartW w t (.slice A t.bytes.length c) W := ⟨_, rfl, PartW.of w t _⟩
  simp only [evC, ev0] at hW
  rw [show ((0 : Nat) : Int) = 0 from rfl] at hW
  rw [hW]
  clear hW
  refine (rint_any s W).mono ?_
  rintro en w2 ⟨rfl, rfl⟩
  rw [hv]
  have q0 : w2.cell? ⟨w.heap.size, 0, none⟩ = some (.int .i64 t.kind) := P.b0.cell 0
  have q1 : w2.cell? ⟨w.heap.size, 1, none⟩ = some (.int .i64 t.a) := P.b0.cell 1
  have q2 : w2.cell? ⟨w.heap.size, 2, none⟩ = some (.int .i64 t.b) := P.b0.cell 2
  have q3 : w2.cell? ⟨w.heap.size, 3, none⟩ = some (.int .i64 t.c) := P.b0.cell 3
  have q4 : w2.cell? ⟨w.heap.size, 4, none⟩ = some (.int .i64 t.draw) := P.b0.cell 4
  have q5 : w2.cell? ⟨w.heap.size, 5, none⟩ = some (.int .u32 (t.src : Int)) := P.b0.cell 5
  have q6 : w2.cell? ⟨w.heap.size, 6, none⟩ = some (.slice A t.bytes.length c) := P.b0.cell 6
  have r0 : w2.cell? ⟨w.heap.size + 1, 0, none⟩ = some (.int .i64 0) := P.b1.cell 0
  have r1 : w2.cell? ⟨w.heap.size + 1, 1, none⟩ = some (.int .i64 0) := P.b1.cell 1
  have r2 : w2.cell? ⟨w.heap.size + 1, 2, none⟩ = some (.int .i64 0) := P.b1.cell 2
  have r3 : w2.cell? ⟨w.heap.size + 1, 3, none⟩ = some (.int .i64 0) := P.b1.cell 3
  have r4 : w2.cell? ⟨w.heap.size + 1, 4, none⟩ = some (.int .i64 0) := P.b1.cell 4
  have r5 : w2.cell? ⟨w.heap.size + 1, 5, none⟩ = some (.int .u32 0) := P.b1.cell 5
  have r6 : w2.cell? ⟨w.heap.size + 1, 6, none⟩ = some (.slice none 0 0) := P.b1.cell 6
  have y0 := P.b0.frozen 0
  have z0 := P.b1.frozen 0
  have y1 := P.b0.frozen 1
  have z1 := P.b1.frozen 1
  have y2 := P.b0.frozen 2
  have z2 := P.b1.frozen 2
  have y3 := P.b0.frozen 3
  have z3 := P.b1.frozen 3
  have y4 := P.b0.frozen 4
  have z4 := P.b1.frozen 4
  have y5 := P.b0.frozen 5
  have z5 := P.b1.frozen 5
  have y6 := P.b0.frozen 6
  have z6 := P.b1.frozen 6
  go_wp2_with fail
  refine (ref01_parse s (by omega) w2).mono ?_
  rintro en w3 ⟨rfl, hY, hN⟩
  obtain ⟨pp, rfl⟩ := hY n Hn.out
  clear hY hN
  go_wp2_with fail
  have hB := (P.b1.far (p := ⟨w.heap.size, 5, none⟩) (by simp) (.int .u32 (n : Int))).putEv { t with src := n } (.slice A t.bytes.length c)
  have hO1 := (Only.refl [w.heap.size] w3).setCell (p := ⟨w.heap.size, 5, none⟩) (.inl (by simp)) (.int .u32 (n : Int))
  have hO2 := (Only.refl [w.heap.size + 1] (w3.setCell ⟨w.heap.size, 5, none⟩ (.int .u32 (n : Int)))).putEv (g := w.heap.size + 1) (.inl (by simp)) { t with src := n } (.slice A t.bytes.length c)
  have hK := hO2.kp (hO1.kp P.kp (by simp)) (by simp)
  have f0 := hB.cell 0
  have f1 := hB.cell 1
  have f2 := hB.cell 2
  have f3 := hB.cell 3
  have f4 := hB.cell 4
  have f5 := hB.cell 5
  have f6 := hB.cell 6
  refine bodyPost_ret (v := .tuple #[evV { t with src := n } (.slice A t.bytes.length c), .bool true]) (w := evSet (w3.setCell ⟨w.heap.size, 5, none⟩ (.int .u32 (n : Int))) (w.heap.size + 1) { t with src := n } (.slice A t.bytes.length c)) ?_ rfl ?_
  · show (results _ _).run _ (evSet (w3.setCell ⟨w.heap.size, 5, none⟩ (.int .u32 (n : Int))) (w.heap.size + 1) { t with src := n } (.slice A t.bytes.length c)) = _
    simp [results, Tryz.results54, go_sem, f0, f1, f2, f3, f4, f5, f6, evC]
  · exact ⟨fun t' ht _ => (by rw [HR.out, Option.some.injEq] at ht; subst ht; exact ⟨A, c, rfl, hA.keep hK, .inl rfl⟩), fun h => (by rw [HR.out] at h; cases h), hK⟩
set_option maxRecDepth 100000 in
set_option maxHeartbeats 2000000 in
theorem part_s_no (t : Ev) (A : Option Addr) (c : Nat) (s : ByteArray) (hs : s.size ≤ 1000000) (w : World) (hA : Rd w 1 byteE A t.bytes) (hn : adr s.data.toList = none) : Calls Tryz.prog 54 #[evV t (.slice A t.bytes.length c), .int .u8 115, .string s] w (PartP .s t A s.data.toList w) := by
  obtain ⟨v0, hv⟩ : ∃ v b, rintV s.data.toList = .tuple #[.int .i64 v, .bool b] := by
    unfold rintV; split; exact ⟨_, _, rfl⟩; exact ⟨_, _, rfl⟩
  obtain ⟨b0, hv⟩ := hv
  have HR := Lib.hid (show readE .s s.data.toList t = none by simp only [readE]; rw [hn]; rfl)
  have Hn := Lib.hid hn
  clear hn
  go_enter Tryz.func54, Tryz.ntmps54
  go_wp2_with fail
  obtain ⟨W, hW, P⟩ : ∃ W, (w.alloc (.cells (evC t (.slice A t.bytes.length c)) 27)).alloc (.cells (evC (ev0 0) (.slice none 0 0)) 27) = W ∧ PartW w t (.slice A t.bytes.length c) W := ⟨_, rfl, PartW.of w t _⟩
  simp only [evC, ev0] at hW
  rw [show ((0 : Nat) : Int) = 0 from rfl] at hW
  rw [hW]
  clear hW
  refine (rint_any s W).mono ?_
  rintro en w2 ⟨rfl, rfl⟩
  rw [hv]
  have q0 : w2.cell? ⟨w.heap.size, 0, none⟩ = some (.int .i64 t.kind) := P.b0.cell 0
  have q1 : w2.cell? ⟨w.heap.size, 1, none⟩ = some (.int .i64 t.a) := P.b0.cell 1
  have q2 : w2.cell? ⟨w.heap.size, 2, none⟩ = some (.int .i64 t.b) := P.b0.cell 2
  have q3 : w2.cell? ⟨w.heap.size, 3, none⟩ = some (.int .i64 t.c) := P.b0.cell 3
  have q4 : w2.cell? ⟨w.heap.size, 4, none⟩ = some (.int .i64 t.draw) := P.b0.cell 4
  have q5 : w2.cell? ⟨w.heap.size, 5, none⟩ = some (.int .u32 (t.src : Int)) := P.b0.cell 5
  have q6 : w2.cell? ⟨w.heap.size, 6, none⟩ = some (.slice A t.bytes.length c) := P.b0.cell 6
  have r0 : w2.cell? ⟨w.heap.size + 1, 0, none⟩ = some (.int .i64 0) := P.b1.cell 0
  have r1 : w2.cell? ⟨w.heap.size + 1, 1, none⟩ = some (.int .i64 0) := P.b1.cell 1
  have r2 : w2.cell? ⟨w.heap.size + 1, 2, none⟩ = some (.int .i64 0) := P.b1.cell 2
  have r3 : w2.cell? ⟨w.heap.size + 1, 3, none⟩ = some (.int .i64 0) := P.b1.cell 3
  have r4 : w2.cell? ⟨w.heap.size + 1, 4, none⟩ = some (.int .i64 0) := P.b1.cell 4
  have r5 : w2.cell? ⟨w.heap.size + 1, 5, none⟩ = some (.int .u32 0) := P.b1.cell 5
  have r6 : w2.cell? ⟨w.heap.size + 1, 6, none⟩ = some (.slice none 0 0) := P.b1.cell 6
  have y0 := P.b0.frozen 0
  have z0 := P.b1.frozen 0
  have y1 := P.b0.frozen 1
  have z1 := P.b1.frozen 1
  have y2 := P.b0.frozen 2
  have z2 := P.b1.frozen 2
  have y3 := P.b0.frozen 3
  have z3 := P.b1.frozen 3
  have y4 := P.b0.frozen 4
  have z4 := P.b1.frozen 4
  have y5 := P.b0.frozen 5
  have z5 := P.b1.frozen 5
  have y6 := P.b0.frozen 6
  have z6 := P.b1.frozen 6
  go_wp2_with fail
  refine (ref01_parse s (by omega) w2).mono ?_
  rintro en w3 ⟨rfl, hY, hN⟩
  obtain ⟨pp, rfl⟩ := hN Hn.out
  clear hY hN
  go_wp2_with fail
  have hB := (P.b1.far (p := ⟨w.heap.size, 5, none⟩) (by simp) (.int .u32 0)).putEv { t with src := 0 } (.slice A t.bytes.length c)
  have hO1 := (Only.refl [w.heap.size] w3).setCell (p := ⟨w.heap.size, 5, none⟩) (.inl (by simp)) (.int .u32 0)
  have hO2 := (Only.refl [w.heap.size + 1] (w3.setCell ⟨w.heap.size, 5, none⟩ (.int .u32 0))).putEv (g := w.heap.size + 1) (.inl (by simp)) { t with src := 0 } (.slice A t.bytes.length c)
  have hK := hO2.kp (hO1.kp P.kp (by simp)) (by simp)
  have f0 := hB.cell 0
  have f1 := hB.cell 1
  have f2 := hB.cell 2
  have f3 := hB.cell 3
  have f4 := hB.cell 4
  have f5 := hB.cell 5
  have f6 := hB.cell 6
  refine bodyPost_ret (v := .tuple #[evV { t with src := 0 } (.slice A t.bytes.length c), .bool false]) (w := evSet (w3.setCell ⟨w.heap.size, 5, none⟩ (.int .u32 0)) (w.heap.size + 1) { t with src := 0 } (.slice A t.bytes.length c)) ?_ rfl ?_
  · show (results _ _).run _ (evSet (w3.setCell ⟨w.heap.size, 5, none⟩ (.int .u32 0)) (w.heap.size + 1) { t with src := 0 } (.slice A t.bytes.length c)) = _
    simp [results, Tryz.results54, go_sem, f0, f1, f2, f3, f4, f5, f6, evC]
  · exact ⟨fun t' ht _ => (by rw [HR.out] at ht; cases ht), fun _ => ⟨_, _, _, _, rfl⟩, hK⟩
set_option maxRecDepth 100000 in
set_option maxHeartbeats 2000000 in
theorem part_c_up (t : Ev) (A : Option Addr) (c : Nat) (s : ByteArray) (w : World) (hA : Rd w 1 byteE A t.bytes) (hu : s.data.toList = upS) : Calls Tryz.prog 54 #[evV t (.slice A t.bytes.length c), .int .u8 99, .string s] w (PartP .c t A s.data.toList w) := by
  obtain ⟨v0, hv⟩ : ∃ v b, rintV s.data.toList = .tuple #[.int .i64 v, .bool b] := by
    unfold rintV; split; exact ⟨_, _, rfl⟩; exact ⟨_, _, rfl⟩
  obtain ⟨b0, hv⟩ := hv
  have HR := Lib.hid (show readE .c s.data.toList t = some { t with c := 1 } by simp only [readE]; rw [if_pos hu])
  have g1 : (s.toList == [117, 112]) = true := by rw [Lib.toList_data, hu]; rfl
  clear hu
  go_enter Tryz.func54, Tryz.ntmps54
  go_wp2_with fail
  obtain ⟨W, hW, P⟩ : ∃ W, (w.alloc (.cells (evC t (.slice A t.bytes.length c)) 27)).alloc (.cells (evC (ev0 0) (.slice none 0 0)) 27) = W ∧ PartW w t (.slice A t.bytes.length c) W := ⟨_, rfl, PartW.of w t _⟩
  simp only [evC, ev0] at hW
  rw [show ((0 : Nat) : Int) = 0 from rfl] at hW
  rw [hW]
  clear hW
  refine (rint_any s W).mono ?_
  rintro en w2 ⟨rfl, rfl⟩
  rw [hv]
  have q0 : w2.cell? ⟨w.heap.size, 0, none⟩ = some (.int .i64 t.kind) := P.b0.cell 0
  have q1 : w2.cell? ⟨w.heap.size, 1, none⟩ = some (.int .i64 t.a) := P.b0.cell 1
  have q2 : w2.cell? ⟨w.heap.size, 2, none⟩ = some (.int .i64 t.b) := P.b0.cell 2
  have q3 : w2.cell? ⟨w.heap.size, 3, none⟩ = some (.int .i64 t.c) := P.b0.cell 3
  have q4 : w2.cell? ⟨w.heap.size, 4, none⟩ = some (.int .i64 t.draw) := P.b0.cell 4
  have q5 : w2.cell? ⟨w.heap.size, 5, none⟩ = some (.int .u32 (t.src : Int)) := P.b0.cell 5
  have q6 : w2.cell? ⟨w.heap.size, 6, none⟩ = some (.slice A t.bytes.length c) := P.b0.cell 6
  have r0 : w2.cell? ⟨w.heap.size + 1, 0, none⟩ = some (.int .i64 0) := P.b1.cell 0
  have r1 : w2.cell? ⟨w.heap.size + 1, 1, none⟩ = some (.int .i64 0) := P.b1.cell 1
  have r2 : w2.cell? ⟨w.heap.size + 1, 2, none⟩ = some (.int .i64 0) := P.b1.cell 2
  have r3 : w2.cell? ⟨w.heap.size + 1, 3, none⟩ = some (.int .i64 0) := P.b1.cell 3
  have r4 : w2.cell? ⟨w.heap.size + 1, 4, none⟩ = some (.int .i64 0) := P.b1.cell 4
  have r5 : w2.cell? ⟨w.heap.size + 1, 5, none⟩ = some (.int .u32 0) := P.b1.cell 5
  have r6 : w2.cell? ⟨w.heap.size + 1, 6, none⟩ = some (.slice none 0 0) := P.b1.cell 6
  have y0 := P.b0.frozen 0
  have z0 := P.b1.frozen 0
  have y1 := P.b0.frozen 1
  have z1 := P.b1.frozen 1
  have y2 := P.b0.frozen 2
  have z2 := P.b1.frozen 2
  have y3 := P.b0.frozen 3
  have z3 := P.b1.frozen 3
  have y4 := P.b0.frozen 4
  have z4 := P.b1.frozen 4
  have y5 := P.b0.frozen 5
  have z5 := P.b1.frozen 5
  have y6 := P.b0.frozen 6
  have z6 := P.b1.frozen 6
  go_wp2_with fail
  have hB := (P.b1.far (p := ⟨w.heap.size, 3, none⟩) (by simp) (.int .i64 1)).putEv { t with c := 1 } (.slice A t.bytes.length c)
  have hO1 := (Only.refl [w.heap.size] w2).setCell (p := ⟨w.heap.size, 3, none⟩) (.inl (by simp)) (.int .i64 1)
  have hK := ((Only.refl [w.heap.size + 1] (w2.setCell ⟨w.heap.size, 3, none⟩ (.int .i64 1))).putEv (g := w.heap.size + 1) (.inl (by simp)) { t with c := 1 } (.slice A t.bytes.length c)).kp (hO1.kp P.kp (by simp)) (by simp)
  have f0 := hB.cell 0
  have f1 := hB.cell 1
  have f2 := hB.cell 2
  have f3 := hB.cell 3
  have f4 := hB.cell 4
  have f5 := hB.cell 5
  have f6 := hB.cell 6
  refine bodyPost_ret (v := .tuple #[evV { t with c := 1 } (.slice A t.bytes.length c), .bool true]) (w := evSet (w2.setCell ⟨w.heap.size, 3, none⟩ (.int .i64 1)) (w.heap.size + 1) { t with c := 1 } (.slice A t.bytes.length c)) ?_ rfl ?_
  · show (results _ _).run _ (evSet (w2.setCell ⟨w.heap.size, 3, none⟩ (.int .i64 1)) (w.heap.size + 1) { t with c := 1 } (.slice A t.bytes.length c)) = _
    simp [results, Tryz.results54, go_sem, f0, f1, f2, f3, f4, f5, f6, evC]
  · exact ⟨fun t' ht _ => (by rw [HR.out, Option.some.injEq] at ht; subst ht; exact ⟨A, c, rfl, hA.keep hK, .inl rfl⟩), fun h => (by rw [HR.out] at h; cases h), hK⟩
set_option maxRecDepth 100000 in
set_option maxHeartbeats 2000000 in
theorem part_c_down (t : Ev) (A : Option Addr) (c : Nat) (s : ByteArray) (w : World) (hA : Rd w 1 byteE A t.bytes) (hu : s.data.toList = downS) : Calls Tryz.prog 54 #[evV t (.slice A t.bytes.length c), .int .u8 99, .string s] w (PartP .c t A s.data.toList w) := by
  obtain ⟨v0, hv⟩ : ∃ v b, rintV s.data.toList = .tuple #[.int .i64 v, .bool b] := by
    unfold rintV; split; exact ⟨_, _, rfl⟩; exact ⟨_, _, rfl⟩
  obtain ⟨b0, hv⟩ := hv
  have HR := Lib.hid (show readE .c s.data.toList t = some t by simp only [readE]; rw [if_neg (by rw [hu]; decide), if_pos hu])
  have g1 : (s.toList == [117, 112]) = false := by rw [Lib.toList_data, hu]; rfl
  have g2 : (s.toList == [100, 111, 119, 110]) = true := by rw [Lib.toList_data, hu]; rfl
  clear hu
  go_enter Tryz.func54, Tryz.ntmps54
  go_wp2_with fail
  obtain ⟨W, hW, P⟩ : ∃ W, (w.alloc (.cells (evC t (.slice A t.bytes.length c)) 27)).alloc (.cells (evC (ev0 0) (.slice none 0 0)) 27) = W ∧ PartW w t (.slice A t.bytes.length c) W := ⟨_, rfl, PartW.of w t _⟩
  simp only [evC, ev0] at hW
  rw [show ((0 : Nat) : Int) = 0 from rfl] at hW
  rw [hW]
  clear hW
  refine (rint_any s W).mono ?_
  rintro en w2 ⟨rfl, rfl⟩
  rw [hv]
  have q0 : w2.cell? ⟨w.heap.size, 0, none⟩ = some (.int .i64 t.kind) := P.b0.cell 0
  have q1 : w2.cell? ⟨w.heap.size, 1, none⟩ = some (.int .i64 t.a) := P.b0.cell 1
  have q2 : w2.cell? ⟨w.heap.size, 2, none⟩ = some (.int .i64 t.b) := P.b0.cell 2
  have q3 : w2.cell? ⟨w.heap.size, 3, none⟩ = some (.int .i64 t.c) := P.b0.cell 3
  have q4 : w2.cell? ⟨w.heap.size, 4, none⟩ = some (.int .i64 t.draw) := P.b0.cell 4
  have q5 : w2.cell? ⟨w.heap.size, 5, none⟩ = some (.int .u32 (t.src : Int)) := P.b0.cell 5
  have q6 : w2.cell? ⟨w.heap.size, 6, none⟩ = some (.slice A t.bytes.length c) := P.b0.cell 6
  have r0 : w2.cell? ⟨w.heap.size + 1, 0, none⟩ = some (.int .i64 0) := P.b1.cell 0
  have r1 : w2.cell? ⟨w.heap.size + 1, 1, none⟩ = some (.int .i64 0) := P.b1.cell 1
  have r2 : w2.cell? ⟨w.heap.size + 1, 2, none⟩ = some (.int .i64 0) := P.b1.cell 2
  have r3 : w2.cell? ⟨w.heap.size + 1, 3, none⟩ = some (.int .i64 0) := P.b1.cell 3
  have r4 : w2.cell? ⟨w.heap.size + 1, 4, none⟩ = some (.int .i64 0) := P.b1.cell 4
  have r5 : w2.cell? ⟨w.heap.size + 1, 5, none⟩ = some (.int .u32 0) := P.b1.cell 5
  have r6 : w2.cell? ⟨w.heap.size + 1, 6, none⟩ = some (.slice none 0 0) := P.b1.cell 6
  have y0 := P.b0.frozen 0
  have z0 := P.b1.frozen 0
  have y1 := P.b0.frozen 1
  have z1 := P.b1.frozen 1
  have y2 := P.b0.frozen 2
  have z2 := P.b1.frozen 2
  have y3 := P.b0.frozen 3
  have z3 := P.b1.frozen 3
  have y4 := P.b0.frozen 4
  have z4 := P.b1.frozen 4
  have y5 := P.b0.frozen 5
  have z5 := P.b1.frozen 5
  have y6 := P.b0.frozen 6
  have z6 := P.b1.frozen 6
  go_wp2_with fail
  have hB := P.b1.putEv t (.slice A t.bytes.length c)
  have hK := ((Only.refl [w.heap.size + 1] w2).putEv (g := w.heap.size + 1) (.inl (by simp)) t (.slice A t.bytes.length c)).kp P.kp (by simp)
  have f0 := hB.cell 0
  have f1 := hB.cell 1
  have f2 := hB.cell 2
  have f3 := hB.cell 3
  have f4 := hB.cell 4
  have f5 := hB.cell 5
  have f6 := hB.cell 6
  refine bodyPost_ret (v := .tuple #[evV t (.slice A t.bytes.length c), .bool true]) (w := evSet w2 (w.heap.size + 1) t (.slice A t.bytes.length c)) ?_ rfl ?_
  · show (results _ _).run _ (evSet w2 (w.heap.size + 1) t (.slice A t.bytes.length c)) = _
    simp [results, Tryz.results54, go_sem, f0, f1, f2, f3, f4, f5, f6, evC]
  · exact ⟨fun t' ht _ => (by rw [HR.out, Option.some.injEq] at ht; subst ht; exact ⟨A, c, rfl, hA.keep hK, .inl rfl⟩), fun h => (by rw [HR.out] at h; cases h), hK⟩
set_option maxRecDepth 100000 in
set_option maxHeartbeats 2000000 in
theorem part_c_none (t : Ev) (A : Option Addr) (c : Nat) (s : ByteArray) (w : World) (hA : Rd w 1 byteE A t.bytes) (hu : ¬ s.data.toList = upS) (hd : ¬ s.data.toList = downS) : Calls Tryz.prog 54 #[evV t (.slice A t.bytes.length c), .int .u8 99, .string s] w (PartP .c t A s.data.toList w) := by
  obtain ⟨v0, hv⟩ : ∃ v b, rintV s.data.toList = .tuple #[.int .i64 v, .bool b] := by
    unfold rintV; split; exact ⟨_, _, rfl⟩; exact ⟨_, _, rfl⟩
  obtain ⟨b0, hv⟩ := hv
  have HR := Lib.hid (show readE .c s.data.toList t = none by simp only [readE]; rw [if_neg hu, if_neg hd])
  have g1 : (s.toList == [117, 112]) = false := by rw [Lib.toList_data]; simpa [upS] using hu
  have g2 : (s.toList == [100, 111, 119, 110]) = false := by rw [Lib.toList_data]; simpa [downS] using hd
  clear hu hd
  go_enter Tryz.func54, Tryz.ntmps54
  go_wp2_with fail
  obtain ⟨W, hW, P⟩ : ∃ W, (w.alloc (.cells (evC t (.slice A t.bytes.length c)) 27)).alloc (.cells (evC (ev0 0) (.slice none 0 0)) 27) = W ∧ PartW w t (.slice A t.bytes.length c) W := ⟨_, rfl, PartW.of w t _⟩
  simp only [evC, ev0] at hW
  rw [show ((0 : Nat) : Int) = 0 from rfl] at hW
  rw [hW]
  clear hW
  refine (rint_any s W).mono ?_
  rintro en w2 ⟨rfl, rfl⟩
  rw [hv]
  have q0 : w2.cell? ⟨w.heap.size, 0, none⟩ = some (.int .i64 t.kind) := P.b0.cell 0
  have q1 : w2.cell? ⟨w.heap.size, 1, none⟩ = some (.int .i64 t.a) := P.b0.cell 1
  have q2 : w2.cell? ⟨w.heap.size, 2, none⟩ = some (.int .i64 t.b) := P.b0.cell 2
  have q3 : w2.cell? ⟨w.heap.size, 3, none⟩ = some (.int .i64 t.c) := P.b0.cell 3
  have q4 : w2.cell? ⟨w.heap.size, 4, none⟩ = some (.int .i64 t.draw) := P.b0.cell 4
  have q5 : w2.cell? ⟨w.heap.size, 5, none⟩ = some (.int .u32 (t.src : Int)) := P.b0.cell 5
  have q6 : w2.cell? ⟨w.heap.size, 6, none⟩ = some (.slice A t.bytes.length c) := P.b0.cell 6
  have r0 : w2.cell? ⟨w.heap.size + 1, 0, none⟩ = some (.int .i64 0) := P.b1.cell 0
  have r1 : w2.cell? ⟨w.heap.size + 1, 1, none⟩ = some (.int .i64 0) := P.b1.cell 1
  have r2 : w2.cell? ⟨w.heap.size + 1, 2, none⟩ = some (.int .i64 0) := P.b1.cell 2
  have r3 : w2.cell? ⟨w.heap.size + 1, 3, none⟩ = some (.int .i64 0) := P.b1.cell 3
  have r4 : w2.cell? ⟨w.heap.size + 1, 4, none⟩ = some (.int .i64 0) := P.b1.cell 4
  have r5 : w2.cell? ⟨w.heap.size + 1, 5, none⟩ = some (.int .u32 0) := P.b1.cell 5
  have r6 : w2.cell? ⟨w.heap.size + 1, 6, none⟩ = some (.slice none 0 0) := P.b1.cell 6
  have y0 := P.b0.frozen 0
  have z0 := P.b1.frozen 0
  have y1 := P.b0.frozen 1
  have z1 := P.b1.frozen 1
  have y2 := P.b0.frozen 2
  have z2 := P.b1.frozen 2
  have y3 := P.b0.frozen 3
  have z3 := P.b1.frozen 3
  have y4 := P.b0.frozen 4
  have z4 := P.b1.frozen 4
  have y5 := P.b0.frozen 5
  have z5 := P.b1.frozen 5
  have y6 := P.b0.frozen 6
  have z6 := P.b1.frozen 6
  go_wp2_with fail
  have hB := P.b1.putEv t (.slice A t.bytes.length c)
  have hK := ((Only.refl [w.heap.size + 1] w2).putEv (g := w.heap.size + 1) (.inl (by simp)) t (.slice A t.bytes.length c)).kp P.kp (by simp)
  have f0 := hB.cell 0
  have f1 := hB.cell 1
  have f2 := hB.cell 2
  have f3 := hB.cell 3
  have f4 := hB.cell 4
  have f5 := hB.cell 5
  have f6 := hB.cell 6
  refine bodyPost_ret (v := .tuple #[evV t (.slice A t.bytes.length c), .bool false]) (w := evSet w2 (w.heap.size + 1) t (.slice A t.bytes.length c)) ?_ rfl ?_
  · show (results _ _).run _ (evSet w2 (w.heap.size + 1) t (.slice A t.bytes.length c)) = _
    simp [results, Tryz.results54, go_sem, f0, f1, f2, f3, f4, f5, f6, evC]
  · exact ⟨fun t' ht _ => (by rw [HR.out] at ht; cases ht), fun _ => ⟨_, _, _, _, rfl⟩, hK⟩
set_option maxRecDepth 100000 in
set_option maxHeartbeats 2000000 in
theorem part_x_yes (t : Ev) (A : Option Addr) (c : Nat) (s : ByteArray) (hs : s.size ≤ 1000000) (w : World) (hA : Rd w 1 byteE A t.bytes) (l : List UInt8) (hn : bytesR s.data.toList = some l) (hl : l.length ≤ 600) : Calls Tryz.prog 54 #[evV t (.slice A t.bytes.length c), .int .u8 120, .string s] w (PartP .x t A s.data.toList w) := by
  obtain ⟨v0, hv⟩ : ∃ v b, rintV s.data.toList = .tuple #[.int .i64 v, .bool b] := by
    unfold rintV; split; exact ⟨_, _, rfl⟩; exact ⟨_, _, rfl⟩
  obtain ⟨b0, hv⟩ := hv
  have HR := Lib.hid (show readE .x s.data.toList t = some { t with bytes := t.bytes ++ l } by simp only [readE]; rw [← bytesR_eq, hn, Option.bind_some, if_pos hl]; rfl)
  have Hn := Lib.hid hn
  clear hn
  go_enter Tryz.func54, Tryz.ntmps54
  go_wp2_with fail
  obtain ⟨W, hW, P⟩ : ∃ W, (w.alloc (.cells (evC t (.slice A t.bytes.length c)) 27)).alloc (.cells (evC (ev0 0) (.slice none 0 0)) 27) = W ∧ PartW w t (.slice A t.bytes.length c) W := ⟨_, rfl, PartW.of w t _⟩
  simp only [evC, ev0] at hW
  rw [show ((0 : Nat) : Int) = 0 from rfl] at hW
  rw [hW]
  clear hW
  refine (rint_any s W).mono ?_
  rintro en w2 ⟨rfl, rfl⟩
  rw [hv]
  go_wp2_with fail
  have hlt2 := P.b1.lt
  refine (rbytes_any s hs w2).mono ?_
  rintro en w3 ⟨hY, hN, hK3⟩
  replace P : PartW w t (.slice A t.bytes.length c) w3 := ⟨P.kp.trans hK3, P.b0.keep hK3, P.b1.keep hK3⟩
  obtain ⟨v, rfl, hown⟩ := hY l Hn.out
  obtain ⟨A2, c2, rfl⟩ := hown.form
  clear hY hN
  have hl2 : (l.length : Int) ≤ 600 := by omega
  have q0 : w3.cell? ⟨w.heap.size, 0, none⟩ = some (.int .i64 t.kind) := P.b0.cell 0
  have q1 : w3.cell? ⟨w.heap.size, 1, none⟩ = some (.int .i64 t.a) := P.b0.cell 1
  have q2 : w3.cell? ⟨w.heap.size, 2, none⟩ = some (.int .i64 t.b) := P.b0.cell 2
  have q3 : w3.cell? ⟨w.heap.size, 3, none⟩ = some (.int .i64 t.c) := P.b0.cell 3
  have q4 : w3.cell? ⟨w.heap.size, 4, none⟩ = some (.int .i64 t.draw) := P.b0.cell 4
  have q5 : w3.cell? ⟨w.heap.size, 5, none⟩ = some (.int .u32 (t.src : Int)) := P.b0.cell 5
  have q6 : w3.cell? ⟨w.heap.size, 6, none⟩ = some (.slice A t.bytes.length c) := P.b0.cell 6
  have r0 : w3.cell? ⟨w.heap.size + 1, 0, none⟩ = some (.int .i64 0) := P.b1.cell 0
  have r1 : w3.cell? ⟨w.heap.size + 1, 1, none⟩ = some (.int .i64 0) := P.b1.cell 1
  have r2 : w3.cell? ⟨w.heap.size + 1, 2, none⟩ = some (.int .i64 0) := P.b1.cell 2
  have r3 : w3.cell? ⟨w.heap.size + 1, 3, none⟩ = some (.int .i64 0) := P.b1.cell 3
  have r4 : w3.cell? ⟨w.heap.size + 1, 4, none⟩ = some (.int .i64 0) := P.b1.cell 4
  have r5 : w3.cell? ⟨w.heap.size + 1, 5, none⟩ = some (.int .u32 0) := P.b1.cell 5
  have r6 : w3.cell? ⟨w.heap.size + 1, 6, none⟩ = some (.slice none 0 0) := P.b1.cell 6
  have y0 := P.b0.frozen 0
  have z0 := P.b1.frozen 0
  have y1 := P.b0.frozen 1
  have z1 := P.b1.frozen 1
  have y2 := P.b0.frozen 2
  have z2 := P.b1.frozen 2
  have y3 := P.b0.frozen 3
  have z3 := P.b1.frozen 3
  have y4 := P.b0.frozen 4
  have z4 := P.b1.frozen 4
  have y5 := P.b0.frozen 5
  have z5 := P.b1.frozen 5
  have y6 := P.b0.frozen 6
  have z6 := P.b1.frozen 6
  go_wp2_with fail
  have hB := (P.b1.far (p := ⟨w.heap.size, 6, none⟩) (by simp) (.slice A2 l.length c2)).putEv { t with bytes := l } (.slice A2 l.length c2)
  have hO1 := (Only.refl [w.heap.size] w3).setCell (p := ⟨w.heap.size, 6, none⟩) (.inl (by simp)) (.slice A2 l.length c2)
  have hO2 := (Only.refl [w.heap.size + 1] (w3.setCell ⟨w.heap.size, 6, none⟩ (.slice A2 l.length c2))).putEv (g := w.heap.size + 1) (.inl (by simp)) { t with bytes := l } (.slice A2 l.length c2)
  have hK := hO2.kp (hO1.kp P.kp (by simp)) (by simp)
  have f0 := hB.cell 0
  have f1 := hB.cell 1
  have f2 := hB.cell 2
  have f3 := hB.cell 3
  have f4 := hB.cell 4
  have f5 := hB.cell 5
  have f6 := hB.cell 6
  refine bodyPost_ret (v := .tuple #[evV { t with bytes := l } (.slice A2 l.length c2), .bool true]) (w := evSet (w3.setCell ⟨w.heap.size, 6, none⟩ (.slice A2 l.length c2)) (w.heap.size + 1) { t with bytes := l } (.slice A2 l.length c2)) ?_ rfl ?_
  · show (results _ _).run _ (evSet (w3.setCell ⟨w.heap.size, 6, none⟩ (.slice A2 l.length c2)) (w.heap.size + 1) { t with bytes := l } (.slice A2 l.length c2)) = _
    simp [results, Tryz.results54, go_sem, f0, f1, f2, f3, f4, f5, f6, evC]
  · have hRz := (((hown.rdAt (by decide) byteE_len).only hO1 (fun b o e => by have := hown.newB _ e; simp only at this; omega)).only hO2 (fun b o e => by have := hown.newB _ e; simp only at this; omega))
    exact ⟨fun t' ht hx => (by rw [HR.out, Option.some.injEq, hx rfl, List.nil_append] at ht; subst ht; exact ⟨A2, c2, rfl, hRz, .inr (fun b o e => by have := hown.newB _ e; simp only at this; have := P.kp.size; omega)⟩), fun h => (by rw [HR.out] at h; cases h), hK⟩
set_option maxRecDepth 100000 in
set_option maxHeartbeats 2000000 in
theorem part_x_long (t : Ev) (A : Option Addr) (c : Nat) (s : ByteArray) (hs : s.size ≤ 1000000) (w : World) (hA : Rd w 1 byteE A t.bytes) (l : List UInt8) (hn : bytesR s.data.toList = some l) (hl : ¬ l.length ≤ 600) : Calls Tryz.prog 54 #[evV t (.slice A t.bytes.length c), .int .u8 120, .string s] w (PartP .x t A s.data.toList w) := by
  obtain ⟨v0, hv⟩ : ∃ v b, rintV s.data.toList = .tuple #[.int .i64 v, .bool b] := by
    unfold rintV; split; exact ⟨_, _, rfl⟩; exact ⟨_, _, rfl⟩
  obtain ⟨b0, hv⟩ := hv
  have HR := Lib.hid (show readE .x s.data.toList t = none by simp only [readE]; rw [← bytesR_eq, hn, Option.bind_some, if_neg hl]; rfl)
  have Hn := Lib.hid hn
  clear hn
  go_enter Tryz.func54, Tryz.ntmps54
  go_wp2_with fail
  obtain ⟨W, hW, P⟩ : ∃ W, (w.alloc (.cells (evC t (.slice A t.bytes.length c)) 27)).alloc (.cells (evC (ev0 0) (.slice none 0 0)) 27) = W ∧ PartW w t (.slice A t.bytes.length c) W := ⟨_, rfl, PartW.of w t _⟩
  simp only [evC, ev0] at hW
  rw [show ((0 : Nat) : Int) = 0 from rfl] at hW
  rw [hW]
  clear hW
  refine (rint_any s W).mono ?_
  rintro en w2 ⟨rfl, rfl⟩
  rw [hv]
  go_wp2_with fail
  have hlt2 := P.b1.lt
  refine (rbytes_any s hs w2).mono ?_
  rintro en w3 ⟨hY, hN, hK3⟩
  replace P : PartW w t (.slice A t.bytes.length c) w3 := ⟨P.kp.trans hK3, P.b0.keep hK3, P.b1.keep hK3⟩
  obtain ⟨v, rfl, hown⟩ := hY l Hn.out
  obtain ⟨A2, c2, rfl⟩ := hown.form
  clear hY hN
  have hl2 : decide ((l.length : Int) ≤ 600) = false := decide_eq_false (by omega)
  have q0 : w3.cell? ⟨w.heap.size, 0, none⟩ = some (.int .i64 t.kind) := P.b0.cell 0
  have q1 : w3.cell? ⟨w.heap.size, 1, none⟩ = some (.int .i64 t.a) := P.b0.cell 1
  have q2 : w3.cell? ⟨w.heap.size, 2, none⟩ = some (.int .i64 t.b) := P.b0.cell 2
  have q3 : w3.cell? ⟨w.heap.size, 3, none⟩ = some (.int .i64 t.c) := P.b0.cell 3
  have q4 : w3.cell? ⟨w.heap.size, 4, none⟩ = some (.int .i64 t.draw) := P.b0.cell 4
  have q5 : w3.cell? ⟨w.heap.size, 5, none⟩ = some (.int .u32 (t.src : Int)) := P.b0.cell 5
  have q6 : w3.cell? ⟨w.heap.size, 6, none⟩ = some (.slice A t.bytes.length c) := P.b0.cell 6
  have r0 : w3.cell? ⟨w.heap.size + 1, 0, none⟩ = some (.int .i64 0) := P.b1.cell 0
  have r1 : w3.cell? ⟨w.heap.size + 1, 1, none⟩ = some (.int .i64 0) := P.b1.cell 1
  have r2 : w3.cell? ⟨w.heap.size + 1, 2, none⟩ = some (.int .i64 0) := P.b1.cell 2
  have r3 : w3.cell? ⟨w.heap.size + 1, 3, none⟩ = some (.int .i64 0) := P.b1.cell 3
  have r4 : w3.cell? ⟨w.heap.size + 1, 4, none⟩ = some (.int .i64 0) := P.b1.cell 4
  have r5 : w3.cell? ⟨w.heap.size + 1, 5, none⟩ = some (.int .u32 0) := P.b1.cell 5
  have r6 : w3.cell? ⟨w.heap.size + 1, 6, none⟩ = some (.slice none 0 0) := P.b1.cell 6
  have y0 := P.b0.frozen 0
  have z0 := P.b1.frozen 0
  have y1 := P.b0.frozen 1
  have z1 := P.b1.frozen 1
  have y2 := P.b0.frozen 2
  have z2 := P.b1.frozen 2
  have y3 := P.b0.frozen 3
  have z3 := P.b1.frozen 3
  have y4 := P.b0.frozen 4
  have z4 := P.b1.frozen 4
  have y5 := P.b0.frozen 5
  have z5 := P.b1.frozen 5
  have y6 := P.b0.frozen 6
  have z6 := P.b1.frozen 6
  go_wp2_with fail
  have hB := (P.b1.far (p := ⟨w.heap.size, 6, none⟩) (by simp) (.slice A2 l.length c2)).putEv { t with bytes := l } (.slice A2 l.length c2)
  have hO1 := (Only.refl [w.heap.size] w3).setCell (p := ⟨w.heap.size, 6, none⟩) (.inl (by simp)) (.slice A2 l.length c2)
  have hO2 := (Only.refl [w.heap.size + 1] (w3.setCell ⟨w.heap.size, 6, none⟩ (.slice A2 l.length c2))).putEv (g := w.heap.size + 1) (.inl (by simp)) { t with bytes := l } (.slice A2 l.length c2)
  have hK := hO2.kp (hO1.kp P.kp (by simp)) (by simp)
  have f0 := hB.cell 0
  have f1 := hB.cell 1
  have f2 := hB.cell 2
  have f3 := hB.cell 3
  have f4 := hB.cell 4
  have f5 := hB.cell 5
  have f6 := hB.cell 6
  refine bodyPost_ret (v := .tuple #[evV { t with bytes := l } (.slice A2 l.length c2), .bool false]) (w := evSet (w3.setCell ⟨w.heap.size, 6, none⟩ (.slice A2 l.length c2)) (w.heap.size + 1) { t with bytes := l } (.slice A2 l.length c2)) ?_ rfl ?_
  · show (results _ _).run _ (evSet (w3.setCell ⟨w.heap.size, 6, none⟩ (.slice A2 l.length c2)) (w.heap.size + 1) { t with bytes := l } (.slice A2 l.length c2)) = _
    simp [results, Tryz.results54, go_sem, f0, f1, f2, f3, f4, f5, f6, evC]
  · exact ⟨fun t' ht _ => (by rw [HR.out] at ht; cases ht), fun _ => ⟨_, _, _, _, rfl⟩, hK⟩
set_option maxRecDepth 100000 in
set_option maxHeartbeats 2000000 in
theorem part_x_none (t : Ev) (A : Option Addr) (c : Nat) (s : ByteArray) (hs : s.size ≤ 1000000) (w : World) (hA : Rd w 1 byteE A t.bytes) (hn : bytesR s.data.toList = none) : Calls Tryz.prog 54 #[evV t (.slice A t.bytes.length c), .int .u8 120, .string s] w (PartP .x t A s.data.toList w) := by
  obtain ⟨v0, hv⟩ : ∃ v b, rintV s.data.toList = .tuple #[.int .i64 v, .bool b] := by
    unfold rintV; split; exact ⟨_, _, rfl⟩; exact ⟨_, _, rfl⟩
  obtain ⟨b0, hv⟩ := hv
  have HR := Lib.hid (show readE .x s.data.toList t = none by simp only [readE]; rw [← bytesR_eq, hn]; rfl)
  have Hn := Lib.hid hn
  clear hn
  go_enter Tryz.func54, Tryz.ntmps54
  go_wp2_with fail
  obtain ⟨W, hW, P⟩ : ∃ W, (w.alloc (.cells (evC t (.slice A t.bytes.length c)) 27)).alloc (.cells (evC (ev0 0) (.slice none 0 0)) 27) = W ∧ PartW w t (.slice A t.bytes.length c) W := ⟨_, rfl, PartW.of w t _⟩
  simp only [evC, ev0] at hW
  rw [show ((0 : Nat) : Int) = 0 from rfl] at hW
  rw [hW]
  clear hW
  refine (rint_any s W).mono ?_
  rintro en w2 ⟨rfl, rfl⟩
  rw [hv]
  go_wp2_with fail
  have hlt2 := P.b1.lt
  refine (rbytes_any s hs w2).mono ?_
  rintro en w3 ⟨hY, hN, hK3⟩
  replace P : PartW w t (.slice A t.bytes.length c) w3 := ⟨P.kp.trans hK3, P.b0.keep hK3, P.b1.keep hK3⟩
  obtain rfl := hN Hn.out
  clear hY hN
  have q0 : w3.cell? ⟨w.heap.size, 0, none⟩ = some (.int .i64 t.kind) := P.b0.cell 0
  have q1 : w3.cell? ⟨w.heap.size, 1, none⟩ = some (.int .i64 t.a) := P.b0.cell 1
  have q2 : w3.cell? ⟨w.heap.size, 2, none⟩ = some (.int .i64 t.b) := P.b0.cell 2
  have q3 : w3.cell? ⟨w.heap.size, 3, none⟩ = some (.int .i64 t.c) := P.b0.cell 3
  have q4 : w3.cell? ⟨w.heap.size, 4, none⟩ = some (.int .i64 t.draw) := P.b0.cell 4
  have q5 : w3.cell? ⟨w.heap.size, 5, none⟩ = some (.int .u32 (t.src : Int)) := P.b0.cell 5
  have q6 : w3.cell? ⟨w.heap.size, 6, none⟩ = some (.slice A t.bytes.length c) := P.b0.cell 6
  have r0 : w3.cell? ⟨w.heap.size + 1, 0, none⟩ = some (.int .i64 0) := P.b1.cell 0
  have r1 : w3.cell? ⟨w.heap.size + 1, 1, none⟩ = some (.int .i64 0) := P.b1.cell 1
  have r2 : w3.cell? ⟨w.heap.size + 1, 2, none⟩ = some (.int .i64 0) := P.b1.cell 2
  have r3 : w3.cell? ⟨w.heap.size + 1, 3, none⟩ = some (.int .i64 0) := P.b1.cell 3
  have r4 : w3.cell? ⟨w.heap.size + 1, 4, none⟩ = some (.int .i64 0) := P.b1.cell 4
  have r5 : w3.cell? ⟨w.heap.size + 1, 5, none⟩ = some (.int .u32 0) := P.b1.cell 5
  have r6 : w3.cell? ⟨w.heap.size + 1, 6, none⟩ = some (.slice none 0 0) := P.b1.cell 6
  have y0 := P.b0.frozen 0
  have z0 := P.b1.frozen 0
  have y1 := P.b0.frozen 1
  have z1 := P.b1.frozen 1
  have y2 := P.b0.frozen 2
  have z2 := P.b1.frozen 2
  have y3 := P.b0.frozen 3
  have z3 := P.b1.frozen 3
  have y4 := P.b0.frozen 4
  have z4 := P.b1.frozen 4
  have y5 := P.b0.frozen 5
  have z5 := P.b1.frozen 5
  have y6 := P.b0.frozen 6
  have z6 := P.b1.frozen 6
  go_wp2_with fail
  have hB := (P.b1.far (p := ⟨w.heap.size, 6, none⟩) (by simp) (.slice none 0 0)).putEv t (.slice none 0 0)
  have hO1 := (Only.refl [w.heap.size] w3).setCell (p := ⟨w.heap.size, 6, none⟩) (.inl (by simp)) (.slice none 0 0)
  have hO2 := (Only.refl [w.heap.size + 1] (w3.setCell ⟨w.heap.size, 6, none⟩ (.slice none 0 0))).putEv (g := w.heap.size + 1) (.inl (by simp)) t (.slice none 0 0)
  have hK := hO2.kp (hO1.kp P.kp (by simp)) (by simp)
  have f0 := hB.cell 0
  have f1 := hB.cell 1
  have f2 := hB.cell 2
  have f3 := hB.cell 3
  have f4 := hB.cell 4
  have f5 := hB.cell 5
  have f6 := hB.cell 6
  refine bodyPost_ret (v := .tuple #[evV t (.slice none 0 0), .bool false]) (w := evSet (w3.setCell ⟨w.heap.size, 6, none⟩ (.slice none 0 0)) (w.heap.size + 1) t (.slice none 0 0)) ?_ rfl ?_
  · show (results _ _).run _ (evSet (w3.setCell ⟨w.heap.size, 6, none⟩ (.slice none 0 0)) (w.heap.size + 1) t (.slice none 0 0)) = _
    simp [results, Tryz.results54, go_sem, f0, f1, f2, f3, f4, f5, f6, evC]
  · exact ⟨fun t' ht _ => (by rw [HR.out] at ht; cases ht), fun _ => ⟨_, _, _, _, rfl⟩, hK⟩
end Go.Proofs.YtbfimimhgdkpaaaGreatDoor
