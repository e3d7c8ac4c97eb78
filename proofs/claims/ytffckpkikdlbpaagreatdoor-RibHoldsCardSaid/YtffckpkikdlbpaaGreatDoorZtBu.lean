/- Lemmas and contracts for the theorem of this claim: Op12, AcR, VGen3, GdA. -/
import Derived.Test.YtffckpkikdlbpaaGreatDoorZtBt
import Derived.ChangeArms
set_option linter.unusedSimpArgs false
set_option linter.unusedVariables false
namespace Go.Proofs.YtffckpkikdlbpaaGreatDoor
open Go.ChangeShapes Go.WideShapes Go.ChangeAt Go.RowKit Go.Joins Go.Deep
theorem lenL2 {α : Type} {l : List α} (h : l.length = 2) : ∃ c0 c1, l = [c0, c1] := by
  match l, h with
  | [c0, c1], _ => exact ⟨c0, c1, rfl⟩
theorem lenL3 {α : Type} {l : List α} (h : l.length = 3) : ∃ c0 c1 c2, l = [c0, c1, c2] := by
  match l, h with
  | [c0, c1, c2], _ => exact ⟨c0, c1, c2, rfl⟩
theorem lenL6 {α : Type} {l : List α} (h : l.length = 6) : ∃ c0 c1 c2 c3 c4 c5, l = [c0, c1, c2, c3, c4, c5] := by
  match l, h with
  | [c0, c1, c2, c3, c4, c5], _ => exact ⟨c0, c1, c2, c3, c4, c5, rfl⟩
theorem lenL9 {α : Type} {l : List α} (h : l.length = 9) : ∃ c0 c1 c2 c3 c4 c5 c6 c7 c8, l = [c0, c1, c2, c3, c4, c5, c6, c7, c8] := by
  match l, h with
  | [c0, c1, c2, c3, c4, c5, c6, c7, c8], _ => exact ⟨c0, c1, c2, c3, c4, c5, c6, c7, c8, rfl⟩
theorem nat_u32 {n : Int} (h : (Lit.int .u32 n).wf = true) : ∃ a : Nat, n = (a : Int) ∧ a < 4294967296 := by
  simp [Lit.wf, IntKind.min, IntKind.max, IntKind.bits, IntKind.signed] at h
  exact ⟨n.toNat, by omega, by omega⟩
def I64 (n : Int) : Prop := -9223372036854775808 ≤ n ∧ n ≤ 9223372036854775807
theorem int_i64 {n : Int} (h : (Lit.int .i64 n).wf = true) : I64 n := by
  simp [Lit.wf, IntKind.min, IntKind.max, IntKind.bits, IntKind.signed] at h
  exact ⟨by omega, by omega⟩
structure Ac.fits (x : Ac) : Prop where
  wh : I64 x.wh
  fc : I64 x.fc
  pa : x.p.a < 4294967296
  pl : I64 x.p.l
  hf : I64 x.h.f
  ha : x.h.a < 4294967296
  hm : I64 x.h.m
  more : I64 x.more
section
variable {H : Type} {enc : TypeId × Value → H}
set_option maxRecDepth 100000 in
theorem pfx_of {W : World} {base : Nat} {sp : Nat → Bool} {held : Bool} (cs : List Value) (n : Nat) (x : DataW H × List MemPlace) (h : DataW.trod enc Tryz.prog W base sp held n 29 cs = some x) : ∃ p : PI, cs = [.int .u32 (p.a : Int), .int .i64 p.l] ∧ p.a < 4294967296 ∧ I64 p.l := by
  obtain ⟨xs, m, _, _, hl, hlen, hf⟩ := DataW.trod_struct Tryz.underlying29 h
  have hC : Tryz.prog.cellsOf 29 = 2 := by kernel_rfl
  have hC0 : Tryz.prog.cellsOf 27 = 1 := by kernel_rfl
  have hC1 : Tryz.prog.cellsOf 3 = 1 := by kernel_rfl
  rw [hC] at hl
  obtain ⟨c0, c1, rfl⟩ := lenL2 hl
  obtain ⟨y0, y1, rfl⟩ := lenL2 hlen
  clear hl hlen hC h
  have e0 : DataW.trod enc Tryz.prog W base sp held m 27 [c0] = some y0 := by
    have this : DataW.trod enc Tryz.prog W base sp held m 27 (([c0, c1].drop 0).take (Tryz.prog.cellsOf 27)) = some y0 := hf 0 _ rfl
    rw [hC0] at this; exact this
  have e1 : DataW.trod enc Tryz.prog W base sp held m 3 [c1] = some y1 := by
    have this : DataW.trod enc Tryz.prog W base sp held m 3 (([c0, c1].drop 1).take (Tryz.prog.cellsOf 3)) = some y1 := hf 1 _ rfl
    rw [hC1] at this; exact this
  clear hf
  obtain ⟨a, ha, _, hw⟩ := DataW.trod_int Tryz.underlying27 e0
  obtain ⟨b, hb, _, hw1⟩ := DataW.trod_int Tryz.underlying3 e1
  simp only [List.cons.injEq, and_true] at ha hb
  subst ha hb
  obtain ⟨a, rfl, hlt⟩ := nat_u32 hw
  exact ⟨⟨a, b⟩, rfl, hlt, int_i64 hw1⟩
set_option maxRecDepth 100000 in
theorem heard_of {W : World} {base : Nat} {sp : Nat → Bool} {held : Bool} (cs : List Value) (n : Nat) (x : DataW H × List MemPlace) (h : DataW.trod enc Tryz.prog W base sp held n 31 cs = some x) : ∃ h : Hd, cs = [.int .i64 h.f, .int .u32 (h.a : Int), .int .i64 h.m] ∧ h.a < 4294967296 ∧ I64 h.f ∧ I64 h.m := by
  obtain ⟨xs, m, _, _, hl, hlen, hf⟩ := DataW.trod_struct Tryz.underlying31 h
  have hC : Tryz.prog.cellsOf 31 = 3 := by kernel_rfl
  have hC0 : Tryz.prog.cellsOf 3 = 1 := by kernel_rfl
  have hC1 : Tryz.prog.cellsOf 27 = 1 := by kernel_rfl
  rw [hC] at hl
  obtain ⟨c0, c1, c2, rfl⟩ := lenL3 hl
  obtain ⟨y0, y1, y2, rfl⟩ := lenL3 hlen
  clear hl hlen hC h
  have e0 : DataW.trod enc Tryz.prog W base sp held m 3 [c0] = some y0 := by
    have this : DataW.trod enc Tryz.prog W base sp held m 3 (([c0, c1, c2].drop 0).take (Tryz.prog.cellsOf 3)) = some y0 := hf 0 _ rfl
    rw [hC0] at this; exact this
  have e1 : DataW.trod enc Tryz.prog W base sp held m 27 [c1] = some y1 := by
    have this : DataW.trod enc Tryz.prog W base sp held m 27 (([c0, c1, c2].drop 1).take (Tryz.prog.cellsOf 27)) = some y1 := hf 1 _ rfl
    rw [hC1] at this; exact this
  have e2 : DataW.trod enc Tryz.prog W base sp held m 3 [c2] = some y2 := by
    have this : DataW.trod enc Tryz.prog W base sp held m 3 (([c0, c1, c2].drop 2).take (Tryz.prog.cellsOf 3)) = some y2 := hf 2 _ rfl
    rw [hC0] at this; exact this
  clear hf
  obtain ⟨f, hf, _, w0⟩ := DataW.trod_int Tryz.underlying3 e0
  obtain ⟨a, ha, _, w1⟩ := DataW.trod_int Tryz.underlying27 e1
  obtain ⟨m, hm, _, w2⟩ := DataW.trod_int Tryz.underlying3 e2
  simp only [List.cons.injEq, and_true] at hf ha hm
  subst hf ha hm
  obtain ⟨a, rfl, hlt⟩ := nat_u32 w1
  exact ⟨⟨f, a, m⟩, rfl, hlt, int_i64 w0, int_i64 w2⟩
set_option maxRecDepth 100000 in
theorem act_of {W : World} {base : Nat} {sp : Nat → Bool} {held : Bool} (cs : List Value) (n : Nat) (x : DataW H × List MemPlace) (h : DataW.trod enc Tryz.prog W base sp held n 33 cs = some x) : ∃ x : Ac, cs = (acC x).toList ∧ x.fits := by
  obtain ⟨xs, m, _, _, hl, hlen, hf⟩ := DataW.trod_struct Tryz.underlying33 h
  have hC : Tryz.prog.cellsOf 33 = 9 := by kernel_rfl
  have hC0 : Tryz.prog.cellsOf 3 = 1 := by kernel_rfl
  have hC1 : Tryz.prog.cellsOf 29 = 2 := by kernel_rfl
  have hC2 : Tryz.prog.cellsOf 31 = 3 := by kernel_rfl
  have hC3 : Tryz.prog.cellsOf 2 = 1 := by kernel_rfl
  have hC4 : Tryz.prog.cellsOf 4 = 1 := by kernel_rfl
  rw [hC] at hl
  obtain ⟨c0, c1, c2, c3, c4, c5, c6, c7, c8, rfl⟩ := lenL9 hl
  obtain ⟨y0, y1, y2, y3, y4, y5, rfl⟩ := lenL6 hlen
  clear hl hlen hC h
  have e0 : DataW.trod enc Tryz.prog W base sp held m 3 [c0] = some y0 := by
    have this : DataW.trod enc Tryz.prog W base sp held m 3 (([c0, c1, c2, c3, c4, c5, c6, c7, c8].drop 0).take (Tryz.prog.cellsOf 3)) = some y0 := hf 0 _ rfl
    rw [hC0] at this; exact this
  have e1 : DataW.trod enc Tryz.prog W base sp held m 3 [c1] = some y1 := by
    have this : DataW.trod enc Tryz.prog W base sp held m 3 (([c0, c1, c2, c3, c4, c5, c6, c7, c8].drop 1).take (Tryz.prog.cellsOf 3)) = some y1 := hf 1 _ rfl
    rw [hC0] at this; exact this
  have e2 : DataW.trod enc Tryz.prog W base sp held m 29 [c2, c3] = some y2 := by
    have this : DataW.trod enc Tryz.prog W base sp held m 29 (([c0, c1, c2, c3, c4, c5, c6, c7, c8].drop 2).take (Tryz.prog.cellsOf 29)) = some y2 := hf 2 _ rfl
    rw [hC1] at this; exact this
  have e3 : DataW.trod enc Tryz.prog W base sp held m 31 [c4, c5, c6] = some y3 := by
    have this : DataW.trod enc Tryz.prog W base sp held m 31 (([c0, c1, c2, c3, c4, c5, c6, c7, c8].drop 4).take (Tryz.prog.cellsOf 31)) = some y3 := hf 3 _ rfl
    rw [hC2] at this; exact this
  have e4 : DataW.trod enc Tryz.prog W base sp held m 2 [c7] = some y4 := by
    have this : DataW.trod enc Tryz.prog W base sp held m 2 (([c0, c1, c2, c3, c4, c5, c6, c7, c8].drop 7).take (Tryz.prog.cellsOf 2)) = some y4 := hf 4 _ rfl
    rw [hC3] at this; exact this
  have e5 : DataW.trod enc Tryz.prog W base sp held m 4 [c8] = some y5 := by
    have this : DataW.trod enc Tryz.prog W base sp held m 4 (([c0, c1, c2, c3, c4, c5, c6, c7, c8].drop 8).take (Tryz.prog.cellsOf 4)) = some y5 := hf 5 _ rfl
    rw [hC4] at this; exact this
  clear hf
  obtain ⟨wh, hw, _, w0⟩ := DataW.trod_int Tryz.underlying3 e0
  obtain ⟨fc, hfc, _, w1⟩ := DataW.trod_int Tryz.underlying3 e1
  obtain ⟨p, hp, wp, wl⟩ := pfx_of _ _ _ e2
  obtain ⟨hd, hh, wa, wf, wm⟩ := heard_of _ _ _ e3
  obtain ⟨mo, hmo, _, w4⟩ := DataW.trod_int Tryz.underlying2 e4
  obtain ⟨la, hla, _⟩ := DataW.trod_bool Tryz.underlying4 e5
  clear e0 e1 e2 e3 e4 e5
  simp only [List.cons.injEq, and_true] at hw hfc hp hh hmo hla
  obtain ⟨rfl, rfl⟩ := hp
  obtain ⟨rfl, rfl, rfl⟩ := hh
  subst hw hfc hmo hla
  exact ⟨⟨wh, fc, p, hd, mo, la⟩, rfl, ⟨int_i64 w0, int_i64 w1, wp, wl, wf, wa, wm, int_i64 w4⟩⟩
end
end Go.Proofs.YtffckpkikdlbpaaGreatDoor

namespace Go.Proofs.YtffckpkikdlbpaaGreatDoor
open Go.RowKit Go.Maps
def Ac.enc (x : Ac) : List Value := [.int .i64 x.wh, .int .i64 x.fc, .int .u32 (x.p.a : Int), .int .i64 x.p.l, .int .i64 x.h.f, .int .u32 (x.h.a : Int), .int .i64 x.h.m, .int .i64 x.more, .bool x.la]
theorem ac_at {w : World} {A : Option Addr} {xs : List Ac} (h : Rd w 9 Ac.enc A xs) {k : Nat} (hk : k < xs.length) : ∃ b off : Nat, A = some ⟨b, off, none⟩ ∧ w.cell? ⟨b, off + k * 9, none⟩ = some (.int .i64 xs[k].wh) ∧ w.cell? ⟨b, off + k * 9 + 1, none⟩ = some (.int .i64 xs[k].fc) ∧ w.cell? ⟨b, off + k * 9 + 2, none⟩ = some (.int .u32 (xs[k].p.a : Int)) ∧ w.cell? ⟨b, off + k * 9 + 3, none⟩ = some (.int .i64 xs[k].p.l) ∧ w.cell? ⟨b, off + k * 9 + 4, none⟩ = some (.int .i64 xs[k].h.f) ∧ w.cell? ⟨b, off + k * 9 + 5, none⟩ = some (.int .u32 (xs[k].h.a : Int)) ∧ w.cell? ⟨b, off + k * 9 + 6, none⟩ = some (.int .i64 xs[k].h.m) ∧ w.cell? ⟨b, off + k * 9 + 7, none⟩ = some (.int .i64 xs[k].more) ∧ w.cell? ⟨b, off + k * 9 + 8, none⟩ = some (.bool xs[k].la) := by
  obtain ⟨b, off, e, hc⟩ := h k hk
  exact ⟨b, off, e, by simpa using hc 0 _ rfl, by simpa using hc 1 _ rfl, by simpa using hc 2 _ rfl, by simpa using hc 3 _ rfl, by simpa using hc 4 _ rfl, by simpa using hc 5 _ rfl, by simpa using hc 6 _ rfl, by simpa using hc 7 _ rfl, by simpa using hc 8 _ rfl⟩
end Go.Proofs.YtffckpkikdlbpaaGreatDoor

namespace Go.Proofs.YtffckpkikdlbpaaGreatDoor
def mskN (n i : Nat) : Nat := (2 ^ min i n - 1) * 2 ^ (i - min i n)
theorem msk_zero (n : Nat) : mskN n 0 = 0 := by simp [mskN]
theorem msk_lt (n i : Nat) : mskN n i < 2 ^ i := by
  unfold mskN
  have h1 : 2 ^ i = 2 ^ min i n * 2 ^ (i - min i n) := by rw [← Nat.pow_add]; congr 1; omega
  have h2 : 0 < 2 ^ min i n := Nat.pow_pos (by decide)
  have h3 : 0 < 2 ^ (i - min i n) := Nat.pow_pos (by decide)
  rw [h1]
  exact Nat.mul_lt_mul_of_pos_right (by omega) h3
theorem msk_less {n i : Nat} (h : i < n) : mskN n (i + 1) = 2 * mskN n i + 1 := by
  unfold mskN
  have e1 : min (i + 1) n = i + 1 := by omega
  have e2 : min i n = i := by omega
  rw [e1, e2]
  have h2 : 0 < 2 ^ i := Nat.pow_pos (by decide)
  simp only [Nat.sub_self, Nat.pow_zero, Nat.mul_one, Nat.pow_succ]
  omega
theorem msk_more {n i : Nat} (h : ¬ i < n) : mskN n (i + 1) = 2 * mskN n i := by
  unfold mskN
  have e1 : min (i + 1) n = n := by omega
  have e2 : min i n = n := by omega
  rw [e1, e2, show i + 1 - n = (i - n) + 1 by omega, Nat.pow_succ]
  generalize 2 ^ (i - n) = x
  generalize 2 ^ n - 1 = y
  rw [Nat.mul_comm x 2, Nat.mul_left_comm]
theorem msk_all {n : Nat} (h : n ≤ 32) : mskN n 32 = maskN n := by
  unfold mskN maskN
  have e1 : min 32 n = n := by omega
  rw [e1, Nat.sub_mul, ← Nat.pow_add, show n + (32 - n) = 32 by omega]
  simp
theorem half_step (a k : Nat) : a / 2 ^ k / 2 = a / 2 ^ (k + 1) := by rw [Nat.div_div_eq_div_mul, ← Nat.pow_succ]
theorem bit_of {a i : Nat} (h : i < 32) : a / 2 ^ (31 - i) % 2 = bitN a i := by unfold bitN; rw [if_pos h]
theorem wp_anyW {id : Nat} {P : Program} {Q : Exit → Act → World → Prop} {a : Act} {w : World} {l : List Oper} (hm : P.follows .mixedOrders = true)
    (h : ∀ W, W = w.drew → wpAny P .any l.toArray Q l.toArray.size (Array.replicate l.toArray.size false) a W) : (Code.region id l.toArray true).wp P Q a w := wp_region_any hm (h _ rfl)
end Go.Proofs.YtffckpkikdlbpaaGreatDoor

namespace Go.Proofs.YtffckpkikdlbpaaGreatDoor
open Go.RowKit
theorem half_cast (x : Nat) : ((x : Int) / 2) = ((x / 2 : Nat) : Int) := by omega
theorem rem_cast (x : Nat) : ((x : Int) % 2) = ((x % 2 : Nat) : Int) := by omega
set_option maxRecDepth 100000 in
set_option maxHeartbeats 1000000 in
theorem rbit_any (a i : Nat) (w : World) (ha : a < 4294967296) (hi : i < 32) : Calls Tryz.prog 165 #[.int .u32 a, .int .i64 i] w fun e w' => e = .returned (.int .i64 (bitN a i)) ∧ w = w' := by
  obtain ⟨r, hr⟩ : ∃ r, bitN a i = r := ⟨_, rfl⟩
  rw [hr]
  have Hr := Lib.hid hr; clear hr
  have d1 : decide ((i : Int) < 0) = false := by simp
  have d2 : decide ((31 : Int) < i) = false := by simp; omega
  go_enter Tryz.func165, Tryz.ntmps165
  go_wp2_with fail
  go_loop [5, 6] (fun n k => ∃ m x : Nat, i ≤ m ∧ m ≤ 31 ∧ k = .int .i64 m ∧ n = .int .i64 x ∧ x < 4294967296 ∧ Hid (x = a / 2 ^ (31 - m))) (fun _ k => (intOf k).toNat)
  case atStart => exact ⟨31, a, by omega, by omega, rfl, rfl, ha, Lib.hid (by simp)⟩
  case round =>
    obtain ⟨m, x, him, hm, rfl, rfl, hx, hxe⟩ := hrel
    by_cases hlt : i < m
    · have hd : decide ((i : Int) < m) = true := by simpa using hlt
      go_wp2_with fail
      go_round
      case rel =>
        refine ⟨m - 1, x / 2, by omega, by omega, ?_, by rw [← half_cast], by omega, ?_⟩
        · have e : ((m : Int) - 1) = ((m - 1 : Nat) : Int) := by omega
          rw [e]
        · rw [hxe.out, half_step]; congr 2; omega
      case measure => simp [intOf]; omega
    · obtain rfl : m = i := by omega
      have hd : decide ((m : Int) < m) = false := by simp
      go_wp2_with fail
      go_ret
      refine ⟨?_, rfl⟩
      rw [rem_cast, hxe.out, bit_of hi, Hr.out]
      rfl
set_option maxRecDepth 100000 in
set_option maxHeartbeats 1000000 in
theorem rmask_any (n : Nat) (w : World) (hn : n ≤ 32) : Calls Tryz.prog 127 #[.int .i64 n] w fun e w' => e = .returned (.int .u32 (maskN n)) ∧ w = w' := by
  have HR := Lib.hid (msk_all hn)
  go_enter Tryz.func127, Tryz.ntmps127
  go_wp2_with fail
  go_loop [3, 4] (fun v k => ∃ i : Nat, i ≤ 32 ∧ k = .int .i64 i ∧ v = .int .u32 (mskN n i)) (fun _ k => 32 - (intOf k).toNat)
  case atStart => exact ⟨0, by omega, rfl, by rw [msk_zero]; rfl⟩
  case round =>
    obtain ⟨i, hi, rfl, rfl⟩ := hrel
    by_cases hlt : i < 32
    · have hd : decide ((i : Int) < 32) = true := by simp; omega
      have hb := msk_lt n i
      have hb2 : 2 ^ i ≤ 2 ^ 31 := Nat.pow_le_pow_right (by omega) (by omega)
      have hb3 : mskN n i < 2147483648 := Nat.lt_of_lt_of_le hb (by simpa using hb2)
      clear hb hb2
      obtain ⟨x, hx⟩ : ∃ x, mskN n i = x := ⟨_, rfl⟩
      rw [hx] at hb3 ⊢
      have Hx := Lib.hid hx; clear hx
      by_cases hin : i < n
      · have hd2 : decide ((i : Int) < n) = true := by simpa using hin
        have hd3 : decide (i < n) = true := by simpa using hin
        go_wp2_with fail
        go_round
        case rel => exact ⟨i + 1, by omega, by go_num, by rw [msk_less hin, Hx.out]; simp⟩
        case measure => simp [intOf]; omega
      · have hd2 : decide ((i : Int) < n) = false := by simpa using hin
        have hd3 : decide (i < n) = false := by simpa using hin
        go_wp2_with fail
        go_round
        case rel => exact ⟨i + 1, by omega, by go_num, by rw [msk_more hin, Hx.out]; simp⟩
        case measure => simp [intOf]; omega
    · obtain rfl : i = 32 := by omega
      rw [HR.out]
      go_wp2_with fail
      go_ret
      exact ⟨rfl, rfl⟩
set_option maxRecDepth 100000 in
set_option maxHeartbeats 1000000 in
theorem rright_any (p : PI) (w : World) (ha : p.a < 4294967296) : Calls Tryz.prog 125 #[.agg #[.int .u32 p.a, .int .i64 p.l]] w fun e w' => e = .returned (.bool p.okB) ∧ Kp w w' := by
  obtain ⟨W, hW, kW, B0⟩ : ∃ W, w.alloc (.cells #[.int .u32 p.a, .int .i64 p.l] 29) = W ∧ Kp w W ∧ Blk W w.heap.size 29 #[.int .u32 p.a, .int .i64 p.l] := ⟨_, rfl, (Kp.refl _).alloc _, Blk.new w _ _⟩
  have p0 : W.cell? ⟨w.heap.size, 0, none⟩ = some (.int .u32 p.a) := B0.cell 0
  have p1 : W.cell? ⟨w.heap.size, 1, none⟩ = some (.int .i64 p.l) := B0.cell 1
  obtain ⟨r, hr⟩ : ∃ r, p.okB = r := ⟨_, rfl⟩
  rw [hr]
  have Hr := Lib.hid hr; clear hr
  by_cases h0 : p.l < 0
  · have d0 : decide (p.l < 0) = true := by simpa using h0
    obtain rfl : r = false := by rw [← Hr.out]; simp [PI.okB]; omega
    clear h0 Hr
    go_enter Tryz.func125, Tryz.ntmps125
    go_wp2_with fail
    go_ret
    exact ⟨rfl, kW⟩
  have d0 : decide (p.l < 0) = false := by simpa using h0
  by_cases h1 : 32 < p.l
  · have d1 : decide (32 < p.l) = true := by simpa using h1
    obtain rfl : r = false := by rw [← Hr.out]; simp [PI.okB]; omega
    clear h0 h1 Hr
    go_enter Tryz.func125, Tryz.ntmps125
    go_wp2_with fail
    go_ret
    exact ⟨rfl, kW⟩
  have d1 : decide (32 < p.l) = false := by simpa using h1
  obtain ⟨n, hn⟩ : ∃ n : Nat, p.l = (n : Int) := ⟨p.l.toNat, by omega⟩
  have hn32 : n ≤ 32 := by omega
  have Hok : Hid (r = decide (cut p.a n = p.a)) := by
    rw [← Hr.out]
    have e : p.l.toNat = n := by omega
    unfold PI.okB
    rw [e]
    exact Lib.hid (by congr 1; simp; omega)
  rw [hn] at p1 d0 d1 hW ⊢
  clear h0 h1 hn Hr B0
  go_enter Tryz.func125, Tryz.ntmps125
  go_wp2_with fail
  go_loop [3] (fun k => ∃ i : Nat, n ≤ i ∧ i ≤ 32 ∧ k = .int .i64 i ∧ Hid (∀ j, n ≤ j → j < i → bitN p.a j = 0)) (fun k => 32 - (intOf k).toNat)
  case atStart => exact ⟨n, Nat.le_refl _, hn32, rfl, fun j h1 h2 => absurd h2 (by omega)⟩
  case round =>
    obtain ⟨i, hni, hi, rfl, hall⟩ := hrel
    by_cases hlt : i < 32
    · have hd : decide ((i : Int) < 32) = true := by simp; omega
      have hbl := bit_lt p.a i
      go_wp2_with fail
      refine (rbit_any p.a i _ ha hlt).mono ?_
      rintro e w' ⟨rfl, rfl⟩
      by_cases hb : bitN p.a i = 0
      · rw [hb]
        have Hb := Lib.hid hb; clear hb
        go_wp2_with fail
        go_round
        case rel =>
          refine ⟨i + 1, by omega, by omega, by go_num, fun j h1 h2 => ?_⟩
          rcases Nat.lt_or_ge j i with h3 | h3
          · exact hall.out j h1 h3
          · obtain rfl : j = i := by omega
            exact Hb.out
        case measure => simp [intOf]; omega
      · obtain rfl : r = false := by
          rw [Hok.out]
          simp only [decide_eq_false_iff_not]
          intro hc
          exact hb ((bits_zero hn32).2 hc i hni hlt)
        obtain ⟨x, hx⟩ : ∃ x, bitN p.a i = x := ⟨_, rfl⟩
        rw [hx] at hb hbl ⊢
        obtain rfl : x = 1 := by omega
        clear hb hbl hx
        go_wp2_with fail
        go_ret
        exact ⟨rfl, kW⟩
    · obtain rfl : i = 32 := by omega
      obtain rfl : r = true := by
        rw [Hok.out]
        simp only [decide_eq_true_eq]
        exact (bits_zero hn32).1 (fun j h1 h2 => hall.out j h1 h2)
      go_wp2_with fail
      go_ret
      exact ⟨rfl, kW⟩
def RPartsP (m : Nat) (w : World) (e : Ending) (w' : World) : Prop := ∃ y z u : Int, e = .returned (.agg #[.int .i64 m, .int .i64 y, .int .i64 z, .int .i64 u]) ∧ Kp w w'
set_option maxRecDepth 100000 in
set_option maxHeartbeats 1000000 in
theorem rpartsA_any (a m : Nat) (w : World) (ha : a < 4294967296) (hm : a / 16777216 = m) : Calls Tryz.prog 190 #[.int .u32 a] w (RPartsP m w) := by
  have Hm := Lib.hid hm; clear hm
  go_enter Tryz.func190, Tryz.ntmps190
  go_wp2_with fail
  exact bodyPost_ret (v := .agg #[.int .i64 ((a : Int) / 16777216), .int .i64 ((a : Int) / 65536 % 256), .int .i64 ((a : Int) / 256 % 256), .int .i64 ((a : Int) % 256)]) (by simp [results, Tryz.results190, go_sem]) rfl ⟨_, _, _, by rw [← Hm.out]; rfl, (Kp.refl _).alloc _⟩
set_option maxRecDepth 100000 in
set_option maxHeartbeats 2000000 in
theorem rkind_any (a : Nat) (w : World) (ha : a < 4294967296) : Calls Tryz.prog 166 #[.int .u32 a] w fun e w' => e = .returned (.int .i64 (kindAd a)) ∧ Kp w w' := by
  obtain ⟨r, hr⟩ : ∃ r, kindAd a = r := ⟨_, rfl⟩
  rw [hr]
  obtain ⟨m, hm⟩ : ∃ m, a / 16777216 = m := ⟨_, rfl⟩
  have hm2 : m < 256 := by omega
  unfold kindAd at hr
  rw [hm] at hr
  have Hm := Lib.hid hm; clear hm
  have hall : Hid ((a = 0 ∧ r = 1) ∨ (a ≠ 0 ∧ m = 0 ∧ r = 2) ∨ (a ≠ 0 ∧ m = 127 ∧ r = 3) ∨ (a ≠ 0 ∧ 224 ≤ m ∧ m ≤ 239 ∧ r = 4) ∨ (a ≠ 0 ∧ 240 ≤ m ∧ r = 5) ∨ (a ≠ 0 ∧ m ≠ 0 ∧ m ≠ 127 ∧ m < 224 ∧ r = 6)) := by
    revert hr
    by_cases h0 : a = 0
    · rw [if_pos h0]; intro hr; exact .inl ⟨h0, hr.symm⟩
    rw [if_neg h0]
    by_cases h1 : m = 0
    · rw [if_pos h1]; intro hr; exact .inr (.inl ⟨h0, h1, hr.symm⟩)
    rw [if_neg h1]
    by_cases h2 : m = 127
    · rw [if_pos h2]; intro hr; exact .inr (.inr (.inl ⟨h0, h2, hr.symm⟩))
    rw [if_neg h2]
    by_cases h3 : 224 ≤ m ∧ m ≤ 239
    · rw [if_pos h3]; intro hr; exact .inr (.inr (.inr (.inl ⟨h0, h3.1, h3.2, hr.symm⟩)))
    rw [if_neg h3]
    by_cases h4 : 240 ≤ m
    · rw [if_pos h4]; intro hr; exact .inr (.inr (.inr (.inr (.inl ⟨h0, h4, hr.symm⟩))))
    rw [if_neg h4]
    intro hr
    exact .inr (.inr (.inr (.inr (.inr ⟨h0, h1, h2, by omega, hr.symm⟩))))
  clear hr
  go_enter Tryz.func166, Tryz.ntmps166
  go_wp2_with fail
  refine (rpartsA_any a m w ha Hm.out).mono ?_
  rintro e w1 ⟨y, z, u, rfl, hK⟩
  rcases hall.out with ⟨h0, rfl⟩ | ⟨h0, h1, rfl⟩ | ⟨h0, h1, rfl⟩ | ⟨h0, h1, h2, rfl⟩ | ⟨h0, h1, rfl⟩ | ⟨h0, h1, h2, h3, rfl⟩
  · subst h0
    clear hall
    go_wp2_with fail
    go_ret
    exact ⟨rfl, hK.alloc _⟩
  · have q0 : ((a : Int) == 0) = false := by simpa using h0
    subst h1
    clear hall h0
    go_wp2_with fail
    go_ret
    exact ⟨rfl, hK.alloc _⟩
  · have q0 : ((a : Int) == 0) = false := by simpa using h0
    subst h1
    clear hall h0
    go_wp2_with fail
    go_ret
    exact ⟨rfl, hK.alloc _⟩
  · have q0 : ((a : Int) == 0) = false := by simpa using h0
    have q1 : ((m : Int) == 0) = false := by simp; omega
    have q2 : ((m : Int) == 127) = false := by simp; omega
    have q3 : decide ((224 : Int) ≤ m) = true := by simp; omega
    have q4 : decide ((m : Int) ≤ 239) = true := by simp; omega
    clear hall h0
    go_wp2_with fail
    go_ret
    exact ⟨rfl, hK.alloc _⟩
  · have q0 : ((a : Int) == 0) = false := by simpa using h0
    have q1 : ((m : Int) == 0) = false := by simp; omega
    have q2 : ((m : Int) == 127) = false := by simp; omega
    have q3 : decide ((224 : Int) ≤ m) = true := by simp; omega
    have q4 : decide ((m : Int) ≤ 239) = false := by simp; omega
    have q5 : decide ((240 : Int) ≤ m) = true := by simp; omega
    clear hall h0
    go_wp2_with fail
    go_ret
    exact ⟨rfl, hK.alloc _⟩
  · have q0 : ((a : Int) == 0) = false := by simpa using h0
    have q1 : ((m : Int) == 0) = false := by simp; omega
    have q2 : ((m : Int) == 127) = false := by simp; omega
    have q3 : decide ((224 : Int) ≤ m) = false := by simp; omega
    have q5 : decide ((240 : Int) ≤ m) = false := by simp; omega
    clear hall h0
    go_wp2_with fail
    go_ret
    exact ⟨rfl, hK.alloc _⟩
set_option maxRecDepth 100000 in
set_option maxHeartbeats 2000000 in
theorem rbad_any (a n : Nat) (w : World) (ha : a < 4294967296) (hn : n ≤ 32) : Calls Tryz.prog 126 #[.int .u32 a, .int .u32 (maskN n)] w fun e w' => e = .returned (.bool (badKind a n)) ∧ Kp w w' := by
  obtain ⟨r, hr⟩ : ∃ r, badKind a n = r := ⟨_, rfl⟩
  rw [hr]
  have hk := kindN_range a
  have hmm := mask_ne n hn
  unfold badKind at hr
  have Hk := Lib.hid (rkind_any a w ha)
  obtain ⟨k, hkk⟩ : ∃ k, kindAd a = k := ⟨_, rfl⟩
  rw [hkk] at hr hk Hk
  obtain ⟨mm, hM⟩ : ∃ mm, maskN n = mm := ⟨_, rfl⟩
  rw [hM] at hmm ⊢
  clear hkk hM
  have Hmm := Lib.hid hmm; clear hmm
  have hcase : k = 1 ∨ k = 2 ∨ k = 3 ∨ k = 4 ∨ k = 5 ∨ k = 6 := by omega
  clear hk
  rcases hcase with rfl | rfl | rfl | rfl | rfl | rfl
  · simp only [show ¬ (1 = 6) by omega, if_false, if_true] at hr
    rw [hr] at Hmm
    have hm := Hmm.out
    clear hr
    go_enter Tryz.func126, Tryz.ntmps126
    go_wp2_with fail
    refine Hk.out.mono ?_
    rintro e w1 ⟨rfl, hK⟩
    cases r
    all_goals
      go_wp2_with fail
      go_ret
      exact ⟨rfl, hK⟩
  all_goals
    simp at hr
    subst hr
    go_enter Tryz.func126, Tryz.ntmps126
    go_wp2_with fail
    refine Hk.out.mono ?_
    rintro e w1 ⟨rfl, hK⟩
    go_wp2_with fail
    go_ret
    exact ⟨rfl, hK⟩
set_option maxRecDepth 100000 in
set_option maxHeartbeats 2000000 in
theorem good_any (p : PI) (w : World) (ha : p.a < 4294967296) : Calls Tryz.prog 87 #[.agg #[.int .u32 p.a, .int .i64 p.l]] w fun e w' => e = .returned (.bool (toldB p)) ∧ Kp w w' := by
  obtain ⟨W, hW, kW, B0⟩ : ∃ W, w.alloc (.cells #[.int .u32 p.a, .int .i64 p.l] 29) = W ∧ Kp w W ∧ Blk W w.heap.size 29 #[.int .u32 p.a, .int .i64 p.l] := ⟨_, rfl, (Kp.refl _).alloc _, Blk.new w _ _⟩
  have p0 : W.cell? ⟨w.heap.size, 0, none⟩ = some (.int .u32 p.a) := B0.cell 0
  have p1 : W.cell? ⟨w.heap.size, 1, none⟩ = some (.int .i64 p.l) := B0.cell 1
  cases hok : p.okB with
  | false =>
    have Ht : Hid (toldB p = false) := Lib.hid (by simp [toldB, hok])
    have Hok := Lib.hid hok; clear hok
    go_enter Tryz.func87, Tryz.ntmps87
    go_wp2_with fail
    refine wp_anyW (by kernel_rfl) (fun V hV => ?_)
    have KV : Kp W V := by rw [hV]; exact (Kp.refl _).drew
    clear hV
    have q0 := KV.cell p0
    have q1 := KV.cell p1
    clear p0 p1
    refine wpAny_ready (rs := [0]) (by kernel_rfl) (by simp) ?_
    refine AllReady.cons rfl (fun K hK => ?_) AllReady.nil
    go_simp
    refine hK _ _ ?_
    clear hK K
    refine wpAny_ready (rs := [1]) (by kernel_rfl) (by simp) ?_
    refine AllReady.cons rfl (fun K hK => ?_) AllReady.nil
    go_simp
    refine (rright_any p _ ha).mono ?_
    rintro e wa ⟨rfl, hKa⟩
    rw [Hok.out]
    refine hK _ _ ?_
    clear hK K
    refine wpAny_take (i := 2) (v := .bool false) rfl (by kernel_rfl) (by kernel_rfl) (by kernel_rfl) (fun _ _ _ h => h) (Or.inl ⟨by rfl, fun w => by go_simp⟩) ?_
    refine wpAny_take (i := 3) (v := undef) rfl (by kernel_rfl) (by kernel_rfl) (by kernel_rfl) (fun _ _ _ h => h) (Or.inr ⟨by rfl, rfl⟩) ?_
    refine wpAny_take (i := 4) (v := undef) rfl (by kernel_rfl) (by kernel_rfl) (by kernel_rfl) (fun _ _ _ h => h) (Or.inr ⟨by rfl, rfl⟩) ?_
    refine wpAny_take (i := 5) (v := undef) rfl (by kernel_rfl) (by kernel_rfl) (by kernel_rfl) (fun _ _ _ h => h) (Or.inr ⟨by rfl, rfl⟩) ?_
    refine wpAny_take (i := 6) (v := undef) rfl (by kernel_rfl) (by kernel_rfl) (by kernel_rfl) (fun _ _ _ h => h) (Or.inr ⟨by rfl, rfl⟩) ?_
    refine wpAny_take (i := 7) (v := undef) rfl (by kernel_rfl) (by kernel_rfl) (by kernel_rfl) (fun _ _ _ h => h) (Or.inr ⟨by rfl, rfl⟩) ?_
    refine wpAny_take (i := 8) (v := undef) rfl (by kernel_rfl) (by kernel_rfl) (by kernel_rfl) (fun _ _ _ h => h) (Or.inr ⟨by rfl, rfl⟩) ?_
    refine wpAny_take (i := 9) (v := undef) rfl (by kernel_rfl) (by kernel_rfl) (by kernel_rfl) (fun _ _ _ h => h) (Or.inr ⟨by rfl, rfl⟩) ?_
    refine wpAny_rest 10 rfl (by kernel_rfl) ?_
    simp only [List.drop_succ_cons, List.drop_zero]
    go_wp2_with fail
    go_ret
    exact ⟨by rw [Ht.out]; rfl, (kW.trans KV).trans hKa⟩
  | true =>
    have hq := of_decide_eq_true hok
    obtain ⟨n, hn⟩ : ∃ n : Nat, p.l = (n : Int) := ⟨p.l.toNat, by omega⟩
    have hn32 : n ≤ 32 := by omega
    have Ht : Hid (toldB p = !badKind p.a n) := Lib.hid (by simp [toldB, hok, hn])
    have Hok := Lib.hid hok; clear hok hq
    have HR := Lib.hid (fun w => rright_any p w ha)
    rw [hn] at hW p1 B0 HR ⊢
    clear hn
    go_enter Tryz.func87, Tryz.ntmps87
    go_wp2_with fail
    go_region_held3 (fun w' => w'.cell? ⟨w.heap.size, 0, none⟩ = some (.int .u32 p.a) ∧ w'.cell? ⟨w.heap.size, 1, none⟩ = some (.int .i64 n)) (first | exact ⟨(Ka.trans Kb).cell p0, (Ka.trans Kb).cell p1⟩ | exact ⟨Ka.cell p0, Ka.cell p1⟩ | go_keep) (first | (go_at_call 125; refine (HR.out _).mono ?_; rintro e wa ⟨rfl, hKa⟩; rw [Hok.out]; have Ka : Kp W wa := (Kp.refl W).drew.trans hKa) | (go_at_call 127; refine (rmask_any n _ hn32).mono ?_; rintro e w' ⟨rfl, rfl⟩) | (go_at_call 126; refine (rbad_any p.a n _ ha hn32).mono ?_; rintro e wb ⟨rfl, Kb⟩))
    go_wp2_with fail
    go_ret
    exact ⟨by rw [Ht.out]; rfl, (kW.trans Ka).trans Kb⟩
end Go.Proofs.YtffckpkikdlbpaaGreatDoor
