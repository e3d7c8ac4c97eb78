/- Lemmas and contracts for the theorem of this claim: CfB, Px, Px2, VPfA, VPfB, Range, Round, VGen. -/
import Derived.Test.YtffckpkikdlbpaaGreatDoorZrAb
import Derived.Laws.Entries
import Derived.Test.YtffckpkikdlbpaaGreatDoorRows
import Derived.Deep.RegionHeld3
import Derived.RangeFuncOwn
import Derived.RangeFuncLeaves
import Derived.Sort.QuietTacIn
import Derived.LoopN
import Derived.RangeFuncCalls
import Derived.BigFrameIn
import Derived.BigGuardIn
import Derived.TacticsIn
import Derived.TacticsInMore
import Derived.Deep.Cut
import Derived.OwnWalkIn
import Derived.Deep.LoopGhost
import Derived.Deep.DeepCutAuto
import Derived.RegionTactic
set_option linter.unusedSimpArgs false
set_option linter.unusedVariables false
namespace Go.Proofs.YtffckpkikdlbpaaGreatDoor
open Go.RowKit
/-- A row of spans: its names are whatever they are. -/
def spC (n : Nat → ByteArray) : Array Value := #[.string (n 0), .int .i64 1, .func (.func 145) #[] #[], .string (n 1), .int .i64 0, .func (.func 146) #[] #[], .string (n 2), .int .i64 1, .func (.func 147) #[] #[], .string (n 3), .int .i64 0, .func (.func 148) #[] #[], .string (n 4), .int .i64 1, .func (.func 149) #[] #[], .string (n 5), .int .i64 0, .func (.func 150) #[] #[], .string (n 6), .int .i64 0, .func (.func 151) #[] #[]]
abbrev namesB : ByteArray := ⟨#[112, 101, 114, 105, 111, 100, 32, 106, 105, 116, 116, 101, 114, 32, 116, 105, 109, 101, 111, 117, 116, 32, 104, 111, 108, 100, 32, 103, 97, 114, 98, 97, 103, 101, 32, 113, 117, 105, 101, 116, 32, 115, 112, 114, 101, 97, 100]⟩
theorem words7 (w : World) : Calls Tryz.prog 152 #[.string namesB] w fun e w' => ∃ b c, ∃ s : Nat → ByteArray, e = .returned (.slice (some ⟨b, 0, none⟩) 7 c) ∧ (∀ k, k < 7 → w'.cell? ⟨b, k, none⟩ = some (.string (s k))) ∧ w.heap.size ≤ b ∧ Kp w w' := by
  refine (cwords_any namesB (by decide) w).mono ?_
  rintro e w' ⟨v, rfl, hO, K⟩
  have hlen : (parted 32 namesB.data.toList).length = 7 := by decide +kernel
  rcases hO.2 with ⟨_, h2⟩ | ⟨g, cap, cur, hv, hg, _⟩
  · exact absurd h2 (by rw [hlen]; decide)
  · subst hv
    have hR := Rd.of_own (by decide) strE_len hO
    rw [hlen]
    refine ⟨g, cap, fun k => if h : k < (parted 32 namesB.data.toList).length then strB ((parted 32 namesB.data.toList)[k]'h) else ⟨#[]⟩, rfl, fun k hk => ?_, hg, K⟩
    obtain ⟨b, off, e, hc⟩ := hR k (by rw [hlen]; exact hk)
    injection e with e
    injection e with e1 e2
    subst e1
    subst e2
    have := hc 0 _ rfl
    show w'.cell? ⟨g, k, none⟩ = some (.string (if h : k < (parted 32 namesB.data.toList).length then strB ((parted 32 namesB.data.toList)[k]'h) else ⟨#[]⟩))
    rw [dif_pos (by rw [hlen]; exact hk)]
    simpa using this
set_option maxRecDepth 100000 in
set_option maxHeartbeats 2000000 in
theorem spans_any (w : World) : Calls Tryz.prog 115 #[] w fun e w' => ∃ g, ∃ n : Nat → ByteArray, e = .returned (.slice (some ⟨g, 0, none⟩) 7 7) ∧ Blk w' g 176 (spC n) ∧ w.heap.size ≤ g ∧ Kp w w' := by
  obtain ⟨g, hg⟩ : ∃ g, w.heap.size = g := ⟨_, rfl⟩
  obtain ⟨W0, hW0, K0, B0⟩ : ∃ W0, w.alloc (.cells (spC (fun _ => ⟨#[]⟩)) 176) = W0 ∧ Kp w W0 ∧ Blk W0 g 176 (spC (fun _ => ⟨#[]⟩)) := ⟨_, rfl, (Kp.refl _).alloc _, by rw [← hg]; exact Blk.new _ _ _⟩
  have HW0 := hW0
  unfold spC at HW0
  go_enter Tryz.func115, Tryz.ntmps115
  go_wp2_with fail
  refine (words7 _).mono ?_
  rintro e w1 ⟨b, c, s, rfl, hs, hb, K1⟩
  have hgb : g < b := by have := B0.lt; omega
  have K := K0.trans K1
  have hCW : ∀ k, k < 7 → w1.cell? ⟨b, k, none⟩ = some (.string (s k)) := hs
  have BG := B0.keep K1
  clear hs hW0 HW0 K0 B0 K1 hb
  obtain ⟨n, hn⟩ : ∃ n : Nat → ByteArray, (fun _ => ⟨#[]⟩) = n := ⟨_, rfl⟩
  rw [hn] at BG
  clear hn
  have hbg : ¬ b = g := by omega
  have hgb2 : ¬ g = b := by omega
  go_wp2_with fail
  refine wp_loop_rounds 8 ?_
  have HC := Lib.hid hCW
  have HB := Lib.hid BG
  have sk := hCW 0 (by omega)
  have fk : w1.frozen? ⟨g, 0, none⟩ = false := BG.frozen 0
  have ck : w1.cell? ⟨g, 0, none⟩ = some (.string (n 0)) := BG.cell 0
  clear hCW BG
  rw [rounds_succ]
  go_wp2_with fail
  obtain ⟨X1, hW, K1, B'', C1⟩ : ∃ W, w1.setCell ⟨g, 0, none⟩ (.string (s 0)) = W ∧ Kp w W ∧ Blk W g 176 (spC (fun j => if j = 0 then s 0 else n j)) ∧ ∀ k, k < 7 → W.cell? ⟨b, k, none⟩ = some (.string (s k)) :=
    ⟨_, rfl, K.setCell (by show w.heap.size ≤ g; omega) _, HB.out.set_ 0 (.string (s 0)), fun k hk => by rw [World.cell?_setCell_other _ _ _ _ (by intro e; injection e with e; exact hgb2 e)]; exact HC.out k hk⟩
  rw [hW]
  clear hW HC HB sk fk ck K
  obtain ⟨m1, hn⟩ : ∃ n2 : Nat → ByteArray, (fun j => if j = 0 then s 0 else n j) = n2 := ⟨_, rfl⟩
  rw [hn] at B''
  have B1 := B''
  clear hn B''
  have HC := Lib.hid C1
  have HB := Lib.hid B1
  have sk := C1 1 (by omega)
  have fk : X1.frozen? ⟨g, 3, none⟩ = false := B1.frozen 3
  have ck : X1.cell? ⟨g, 3, none⟩ = some (.string (m1 1)) := B1.cell 3
  clear C1 B1
  rw [rounds_succ]
  go_wp2_with fail
  obtain ⟨X2, hW, K2, B'', C2⟩ : ∃ W, X1.setCell ⟨g, 3, none⟩ (.string (s 1)) = W ∧ Kp w W ∧ Blk W g 176 (spC (fun j => if j = 1 then s 1 else m1 j)) ∧ ∀ k, k < 7 → W.cell? ⟨b, k, none⟩ = some (.string (s k)) :=
    ⟨_, rfl, K1.setCell (by show w.heap.size ≤ g; omega) _, HB.out.set_ 3 (.string (s 1)), fun k hk => by rw [World.cell?_setCell_other _ _ _ _ (by intro e; injection e with e; exact hgb2 e)]; exact HC.out k hk⟩
  rw [hW]
  clear hW HC HB sk fk ck K1
  obtain ⟨m2, hn⟩ : ∃ n2 : Nat → ByteArray, (fun j => if j = 1 then s 1 else m1 j) = n2 := ⟨_, rfl⟩
  rw [hn] at B''
  have B2 := B''
  clear hn B''
  have HC := Lib.hid C2
  have HB := Lib.hid B2
  have sk := C2 2 (by omega)
  have fk : X2.frozen? ⟨g, 6, none⟩ = false := B2.frozen 6
  have ck : X2.cell? ⟨g, 6, none⟩ = some (.string (m2 2)) := B2.cell 6
  clear C2 B2
  rw [rounds_succ]
  go_wp2_with fail
  obtain ⟨X3, hW, K3, B'', C3⟩ : ∃ W, X2.setCell ⟨g, 6, none⟩ (.string (s 2)) = W ∧ Kp w W ∧ Blk W g 176 (spC (fun j => if j = 2 then s 2 else m2 j)) ∧ ∀ k, k < 7 → W.cell? ⟨b, k, none⟩ = some (.string (s k)) :=
    ⟨_, rfl, K2.setCell (by show w.heap.size ≤ g; omega) _, HB.out.set_ 6 (.string (s 2)), fun k hk => by rw [World.cell?_setCell_other _ _ _ _ (by intro e; injection e with e; exact hgb2 e)]; exact HC.out k hk⟩
  rw [hW]
  clear hW HC HB sk fk ck K2
  obtain ⟨m3, hn⟩ : ∃ n2 : Nat → ByteArray, (fun j => if j = 2 then s 2 else m2 j) = n2 := ⟨_, rfl⟩
  rw [hn] at B''
  have B3 := B''
  clear hn B''
  have HC := Lib.hid C3
  have HB := Lib.hid B3
  have sk := C3 3 (by omega)
  have fk : X3.frozen? ⟨g, 9, none⟩ = false := B3.frozen 9
  have ck : X3.cell? ⟨g, 9, none⟩ = some (.string (m3 3)) := B3.cell 9
  clear C3 B3
  rw [rounds_succ]
  go_wp2_with fail
  obtain ⟨X4, hW, K4, B'', C4⟩ : ∃ W, X3.setCell ⟨g, 9, none⟩ (.string (s 3)) = W ∧ Kp w W ∧ Blk W g 176 (spC (fun j => if j = 3 then s 3 else m3 j)) ∧ ∀ k, k < 7 → W.cell? ⟨b, k, none⟩ = some (.string (s k)) :=
    ⟨_, rfl, K3.setCell (by show w.heap.size ≤ g; omega) _, HB.out.set_ 9 (.string (s 3)), fun k hk => by rw [World.cell?_setCell_other _ _ _ _ (by intro e; injection e with e; exact hgb2 e)]; exact HC.out k hk⟩
  rw [hW]
  clear hW HC HB sk fk ck K3
  obtain ⟨m4, hn⟩ : ∃ n2 : Nat → ByteArray, (fun j => if j = 3 then s 3 else m3 j) = n2 := ⟨_, rfl⟩
  rw [hn] at B''
  have B4 := B''
  clear hn B''
  have HC := Lib.hid C4
  have HB := Lib.hid B4
  have sk := C4 4 (by omega)
  have fk : X4.frozen? ⟨g, 12, none⟩ = false := B4.frozen 12
  have ck : X4.cell? ⟨g, 12, none⟩ = some (.string (m4 4)) := B4.cell 12
  clear C4 B4
  rw [rounds_succ]
  go_wp2_with fail
  obtain ⟨X5, hW, K5, B'', C5⟩ : ∃ W, X4.setCell ⟨g, 12, none⟩ (.string (s 4)) = W ∧ Kp w W ∧ Blk W g 176 (spC (fun j => if j = 4 then s 4 else m4 j)) ∧ ∀ k, k < 7 → W.cell? ⟨b, k, none⟩ = some (.string (s k)) :=
    ⟨_, rfl, K4.setCell (by show w.heap.size ≤ g; omega) _, HB.out.set_ 12 (.string (s 4)), fun k hk => by rw [World.cell?_setCell_other _ _ _ _ (by intro e; injection e with e; exact hgb2 e)]; exact HC.out k hk⟩
  rw [hW]
  clear hW HC HB sk fk ck K4
  obtain ⟨m5, hn⟩ : ∃ n2 : Nat → ByteArray, (fun j => if j = 4 then s 4 else m4 j) = n2 := ⟨_, rfl⟩
  rw [hn] at B''
  have B5 := B''
  clear hn B''
  have HC := Lib.hid C5
  have HB := Lib.hid B5
  have sk := C5 5 (by omega)
  have fk : X5.frozen? ⟨g, 15, none⟩ = false := B5.frozen 15
  have ck : X5.cell? ⟨g, 15, none⟩ = some (.string (m5 5)) := B5.cell 15
  clear C5 B5
  rw [rounds_succ]
  go_wp2_with fail
  obtain ⟨X6, hW, K6, B'', C6⟩ : ∃ W, X5.setCell ⟨g, 15, none⟩ (.string (s 5)) = W ∧ Kp w W ∧ Blk W g 176 (spC (fun j => if j = 5 then s 5 else m5 j)) ∧ ∀ k, k < 7 → W.cell? ⟨b, k, none⟩ = some (.string (s k)) :=
    ⟨_, rfl, K5.setCell (by show w.heap.size ≤ g; omega) _, HB.out.set_ 15 (.string (s 5)), fun k hk => by rw [World.cell?_setCell_other _ _ _ _ (by intro e; injection e with e; exact hgb2 e)]; exact HC.out k hk⟩
  rw [hW]
  clear hW HC HB sk fk ck K5
  obtain ⟨m6, hn⟩ : ∃ n2 : Nat → ByteArray, (fun j => if j = 5 then s 5 else m5 j) = n2 := ⟨_, rfl⟩
  rw [hn] at B''
  have B6 := B''
  clear hn B''
  have HC := Lib.hid C6
  have HB := Lib.hid B6
  have sk := C6 6 (by omega)
  have fk : X6.frozen? ⟨g, 18, none⟩ = false := B6.frozen 18
  have ck : X6.cell? ⟨g, 18, none⟩ = some (.string (m6 6)) := B6.cell 18
  clear C6 B6
  rw [rounds_succ]
  go_wp2_with fail
  obtain ⟨X7, hW, K7, B'', C7⟩ : ∃ W, X6.setCell ⟨g, 18, none⟩ (.string (s 6)) = W ∧ Kp w W ∧ Blk W g 176 (spC (fun j => if j = 6 then s 6 else m6 j)) ∧ ∀ k, k < 7 → W.cell? ⟨b, k, none⟩ = some (.string (s k)) :=
    ⟨_, rfl, K6.setCell (by show w.heap.size ≤ g; omega) _, HB.out.set_ 18 (.string (s 6)), fun k hk => by rw [World.cell?_setCell_other _ _ _ _ (by intro e; injection e with e; exact hgb2 e)]; exact HC.out k hk⟩
  rw [hW]
  clear hW HC HB sk fk ck K6
  obtain ⟨m7, hn⟩ : ∃ n2 : Nat → ByteArray, (fun j => if j = 6 then s 6 else m6 j) = n2 := ⟨_, rfl⟩
  rw [hn] at B''
  have B7 := B''
  clear hn B''
  rw [rounds_succ]
  go_wp2_with fail
  go_ret
  exact ⟨g, m7, rfl, B7, by omega, K7⟩
end Go.Proofs.YtffckpkikdlbpaaGreatDoor

namespace Go.Proofs.YtffckpkikdlbpaaGreatDoor
/-- An address whose bits behind the first n are struck. -/
def cut (a n : Nat) : Nat := a / 2 ^ (32 - n) * 2 ^ (32 - n)
structure Pn where
  a : Nat
  l : Nat
deriving DecidableEq
def Pn.ok (p : Pn) : Prop := p.a < 4294967296 ∧ p.l ≤ 32 ∧ cut p.a p.l = p.a
def Pn.holds (p q : Pn) : Prop := p.l ≤ q.l ∧ cut q.a p.l = p.a
instance (p q : Pn) : Decidable (p.holds q) := inferInstanceAs (Decidable (_ ∧ _))
def Pn.lt (p q : Pn) : Prop := p.a < q.a ∨ (p.a = q.a ∧ p.l < q.l)
instance (p q : Pn) : Decidable (p.lt q) := inferInstanceAs (Decidable (_ ∨ _))
theorem cut_le (a n : Nat) : cut a n ≤ a := Nat.div_mul_le_self _ _
/-- What holds both, and no longer one does. -/
def Pn.take (p : Pn) (n : Nat) : Pn := ⟨cut p.a n, n⟩
end Go.Proofs.YtffckpkikdlbpaaGreatDoor

namespace Go.Proofs.YtffckpkikdlbpaaGreatDoor
/-- The mask of so many bits. -/
def maskN (n : Nat) : Nat := 4294967296 - 2 ^ (32 - n)
theorem pow_le32 (n : Nat) : 2 ^ (32 - n) ≤ 4294967296 := by
  have := Nat.pow_le_pow_right (show 0 < 2 by omega) (show 32 - n ≤ 32 by omega)
  simpa using this
theorem andnot_mask {a n : Nat} (ha : a < 4294967296) (hn : n ≤ 32) : a &&& (4294967295 - maskN n) = a - cut a n := by
  have hm : 4294967295 - maskN n = 2 ^ (32 - n) - 1 := by have := pow_le32 n; have := Nat.two_pow_pos (32 - n); unfold maskN; omega
  rw [hm, Nat.and_two_pow_sub_one_eq_mod]
  unfold cut
  have := Nat.div_add_mod a (2 ^ (32 - n))
  rw [Nat.mul_comm] at this
  omega
end Go.Proofs.YtffckpkikdlbpaaGreatDoor

namespace Go.Proofs.YtffckpkikdlbpaaGreatDoor
open Go.RowKit
theorem mask_eq {n : Nat} (h : n ≤ 32) : (4294967295 : Int) * 2 ^ (32 - n) % 4294967296 = (maskN n : Int) := by
  have h1 := pow_le32 n
  have h2 : 0 < 2 ^ (32 - n) := Nat.two_pow_pos _
  unfold maskN
  generalize hs : 2 ^ (32 - n) = s at *
  have hc : ((2 : Int) ^ (32 - n)) = (s : Int) := by rw [← hs]; simp
  rw [hc]
  omega
theorem andnot_u32 (a b : Nat) (ha : a < 4294967296) (hb : b < 4294967296) : bits .andNot .u32 (a : Int) (b : Int) = ((a &&& (4294967295 - b) : Nat) : Int) := by
  have hx : a &&& (4294967295 - b) < 2 ^ 32 := Nat.and_lt_two_pow _ (by omega)
  have h1 : (BitVec.ofInt 32 (a : Int)).toNat = a := by
    rw [BitVec.ofInt_natCast, BitVec.toNat_ofNat]; exact Nat.mod_eq_of_lt (by omega)
  have h2 : (BitVec.ofInt 32 (b : Int)).toNat = b := by
    rw [BitVec.ofInt_natCast, BitVec.toNat_ofNat]; exact Nat.mod_eq_of_lt (by omega)
  show IntKind.u32.wrap ((BitVec.ofInt 32 (a : Int) &&& ~~~ BitVec.ofInt 32 (b : Int)).toNat : Int) = _
  rw [BitVec.toNat_and, BitVec.toNat_not, h1, h2]
  show ((a &&& (2 ^ 32 - 1 - b) : Nat) : Int) % 4294967296 = _
  rw [show (2 ^ 32 - 1 - b) = 4294967295 - b by omega]
  omega
theorem maskN_lt (n : Nat) : maskN n < 4294967296 := by have := Nat.two_pow_pos (32 - n); unfold maskN; omega
set_option maxHeartbeats 400000 in
theorem mask_any (n : Nat) (w : World) (h1 : n ≤ 32) :
    Calls Tryz.prog 192 #[.int .i64 n] w fun e w' => e = .returned (.int .u32 (maskN n)) ∧ w = w' := by
  have H := Lib.hid (mask_eq h1)
  go_enter Tryz.func192, Tryz.ntmps192
  go_wp2
  go_ret
  exact ⟨by rw [← H.out]; rfl, rfl⟩
end Go.Proofs.YtffckpkikdlbpaaGreatDoor

namespace Go.Proofs.YtffckpkikdlbpaaGreatDoor
open Go.RowKit
/-- A prefix that came in: an address, and whatever length. -/
structure PI where
  a : Nat
  l : Int
def PI.enc (p : PI) : List Value := [.int .u32 p.a, .int .i64 p.l]
def PI.okB (p : PI) : Bool := decide (0 ≤ p.l ∧ p.l ≤ 32 ∧ cut p.a p.l.toNat = p.a)
theorem PI.len (p : PI) : p.enc.length = 2 := rfl
def PI.pn (p : PI) : Pn := ⟨p.a, p.l.toNat⟩
theorem pn_ok {p : PI} (h : p.okB = true) (ha : p.a < 4294967296) : p.pn.ok ∧ p.l = (p.pn.l : Int) := by
  have := of_decide_eq_true h
  exact ⟨⟨ha, by simp [PI.pn]; omega, this.2.2⟩, by simp [PI.pn]; omega⟩
theorem pi_at {w : World} {A : Option Addr} {ps : List PI} (h : Rd w 2 PI.enc A ps) {k : Nat} (hk : k < ps.length) :
    ∃ b off : Nat, A = some ⟨b, off, none⟩ ∧ w.cell? ⟨b, off + k * 2, none⟩ = some (.int .u32 ps[k].a) ∧ w.cell? ⟨b, off + k * 2 + 1, none⟩ = some (.int .i64 ps[k].l) := by
  obtain ⟨b, off, e, hc⟩ := h k hk
  exact ⟨b, off, e, hc 0 _ rfl, hc 1 _ rfl⟩
theorem notmask_zero {a n : Nat} (ha : a < 4294967296) (hn : n ≤ 32) : (bits .andNot .u32 (a : Int) (maskN n : Int) != 0) = !decide (cut a n = a) := by
  rw [andnot_u32 a _ ha (maskN_lt n), andnot_mask ha hn]
  have := cut_le a n
  by_cases h : cut a n = a
  · simp [h]
  · simp [h]; omega
set_option maxRecDepth 100000 in
set_option maxHeartbeats 1000000 in
theorem mayBe_any (A : Option Addr) (c : Nat) (ps : List PI) (w : World) (hR : Rd w 2 PI.enc A ps) (hn : ps.length ≤ 1000000) (ha : ∀ k (hk : k < ps.length), ps[k].a < 4294967296) :
    Calls Tryz.prog 191 #[.slice A ps.length c] w fun e w' => e = .returned (.bool (ps.all PI.okB)) ∧ Kp w w' := by
  have Ha := Lib.hid ha; clear ha
  go_enter Tryz.func191, Tryz.ntmps191
  go_wp2_with fail
  go_loopw [7] (fun i wr => ∃ k : Nat, k ≤ ps.length ∧ i = .int .i64 k ∧ Hid (∀ j (hj : j < ps.length), j < k → ps[j].okB = true) ∧ Kp w wr) (fun i _ => ps.length - (intOf i).toNat)
  case atStart => exact ⟨0, Nat.zero_le _, rfl, fun _ _ h => absurd h (by omega), Kp.refl _⟩
  case round =>
    obtain ⟨k, hk, rfl, hall, hK⟩ := hrel
    by_cases hlt : k < ps.length
    · obtain ⟨b, off, rfl, c0, c1⟩ := pi_at (hR.keep hK) hlt
      have hak := Ha.out k hlt
      have hno : ps[k].okB = false → ps.all PI.okB = false := fun h => by rw [List.all_eq_false]; exact ⟨ps[k], List.getElem_mem hlt, by simp [h]⟩
      have Hno := Lib.hid hno; clear hno
      obtain ⟨W, hW, kW, B0⟩ : ∃ W, wr.alloc (.cells #[.int .u32 ps[k].a, .int .i64 ps[k].l] 29) = W ∧ Kp w W ∧ Blk W wr.heap.size 29 #[.int .u32 ps[k].a, .int .i64 ps[k].l] := ⟨_, rfl, hK.alloc _, Blk.new wr _ _⟩
      have p0 : W.cell? ⟨wr.heap.size, 0, none⟩ = some (.int .u32 ps[k].a) := B0.cell 0
      have p1 : W.cell? ⟨wr.heap.size, 1, none⟩ = some (.int .i64 ps[k].l) := B0.cell 1
      by_cases h0 : ps[k].l < 0
      · have H := Lib.hid (Hno.out (by simp [PI.okB]; omega))
        have d0 : decide (ps[k].l < 0) = true := by simpa using h0
        clear h0
        go_wp2_with fail
        go_quiet (fail)
        go_wp2_with fail
        go_ret
        exact ⟨by rw [H.out]; rfl, kW.drewN _⟩
      · have d0 : decide (ps[k].l < 0) = false := by simpa using h0
        by_cases h1 : 32 < ps[k].l
        · have H := Lib.hid (Hno.out (by simp [PI.okB]; omega))
          have d1 : decide (32 < ps[k].l) = true := by simpa using h1
          clear h0 h1
          go_wp2_with fail
          go_quiet (fail)
          go_wp2_with fail
          go_ret
          exact ⟨by rw [H.out]; rfl, kW.drewN _⟩
        · have d1 : decide (32 < ps[k].l) = false := by simpa using h1
          obtain ⟨n, hnl⟩ := Int.eq_ofNat_of_zero_le (show 0 ≤ ps[k].l by omega)
          have hn32 : n ≤ 32 := by omega
          have hz := notmask_zero hak hn32
          have Hl := Lib.hid hnl
          rw [hnl] at c1 p1 d0 d1 hW
          clear h0 h1 hnl
          by_cases hc : cut ps[k].a n = ps[k].a
          · have hok := Lib.hid (show ps[k].okB = true by simp only [PI.okB, Hl.out, Int.toNat_natCast, decide_eq_true_eq]; exact ⟨by omega, by omega, hc⟩)
            rw [show (!decide (cut ps[k].a n = ps[k].a)) = false by simp [hc]] at hz
            clear hc
            go_wp2_with fail
            go_region_held3 (fun w' => w'.cell? ⟨wr.heap.size, 0, none⟩ = some (.int .u32 ps[k].a) ∧ w'.cell? ⟨wr.heap.size, 1, none⟩ = some (.int .i64 n)) (go_keep)
              (first | (go_at_call 192; refine (mask_any _ _ hn32).mono ?_; rintro e w' ⟨rfl, rfl⟩))
            go_wp2_with fail
            go_roundw
            case rel =>
              refine ⟨k + 1, by omega, by go_num, fun j hj hjk => ?_, kW.drew⟩
              by_cases hj' : j < k
              · exact hall.out j hj hj'
              · obtain rfl : j = k := by omega
                exact hok.out
            case measure => simp [intOf]; omega
          · have H := Lib.hid (Hno.out (by simp only [PI.okB, Hl.out, Int.toNat_natCast, decide_eq_false_iff_not]; rintro ⟨_, _, h⟩; exact hc h))
            rw [show (!decide (cut ps[k].a n = ps[k].a)) = true by simp [hc]] at hz
            clear hc
            go_wp2_with fail
            go_region_held3 (fun w' => w'.cell? ⟨wr.heap.size, 0, none⟩ = some (.int .u32 ps[k].a) ∧ w'.cell? ⟨wr.heap.size, 1, none⟩ = some (.int .i64 n)) (go_keep)
              (first | (go_at_call 192; refine (mask_any _ _ hn32).mono ?_; rintro e w' ⟨rfl, rfl⟩))
            go_wp2_with fail
            go_ret
            exact ⟨by rw [H.out]; rfl, kW.drew⟩
    · obtain rfl : k = ps.length := by omega
      have H := Lib.hid (show ps.all PI.okB = true by
        rw [List.all_eq_true]; intro x hx
        obtain ⟨j, hj, rfl⟩ := List.getElem_of_mem hx
        exact hall.out j hj hj)
      clear hall
      go_wp2_with fail
      go_ret
      exact ⟨by rw [H.out]; rfl, hK⟩
def checkP (p : PI) : Int := if p.okB then 0 else 2
set_option maxRecDepth 100000 in
set_option maxHeartbeats 1000000 in
theorem check_any (p : PI) (w : World) (ha : p.a < 4294967296) :
    Calls Tryz.prog 167 #[.agg #[.int .u32 p.a, .int .i64 p.l]] w fun e w' => e = .returned (.int .i64 (checkP p)) ∧ Kp w w' := by
  have hrd : Rd ((w.alloc (.cells #[.int .u32 p.a, .int .i64 p.l] 29)).alloc (.cells #[.int .u32 p.a, .int .i64 p.l] 29)) 2 PI.enc (some ⟨w.heap.size + 1, 0, none⟩) [p] := Rd.of_blk (Blk.new1 w _ _ _) (by omega) PI.len (by unfold maxLen; simp) rfl
  have Hrd := Lib.hid hrd; clear hrd
  go_enter Tryz.func167, Tryz.ntmps167
  go_wp2_with fail
  refine wp_scope_fwd 0 rfl ?_
  go_wp2_with fail
  refine (mayBe_any _ 1 [p] _ Hrd.out (by simp) (fun k hk => by simp at hk; subst hk; exact ha)).mono ?_
  rintro e w1 ⟨rfl, hK1⟩
  have hk1 : Kp w w1 := (((Kp.refl _).alloc _).alloc _).trans hK1
  rw [show [p].all PI.okB = p.okB by simp]
  cases hok : p.okB with
  | true =>
    have H := Lib.hid (show checkP p = 0 by simp [checkP, hok]); clear hok
    go_wp2_with fail
    refine jump_ret ?_
    go_ret
    exact ⟨by rw [H.out]; rfl, hk1⟩
  | false =>
    have H := Lib.hid (show checkP p = 2 by simp [checkP, hok]); clear hok
    go_wp2_with fail
    go_step3
    refine ⟨rfl, ?_⟩
    go_wp2_with fail
    refine noGoto_ret ?_
    go_ret
    exact ⟨by rw [H.out]; rfl, hk1⟩
end Go.Proofs.YtffckpkikdlbpaaGreatDoor

namespace Go.Proofs.YtffckpkikdlbpaaGreatDoor
open Go.RowKit
/-- An iterator that hands over the rows xs 0 .. xs (N - 1), till its yield says no. M: what it reads. -/
def Iter (P : Program) (gf : FuncId) (caps : Array Value) (N : Nat) (xs : Nat → Array Value) (M : World → Prop) : Prop :=
  ∀ (l : Nat) (I Z : Nat → World → Prop) (W : World),
    (∀ k W W', I k W → Kp W W' → I k W') → (∀ k W W', Z k W → Kp W W' → Z k W') → (∀ k W, I k W → M W) →
    (∀ k W, k < N → I k W → ∃ fn tmps assign body, (Instr.yield l (xs k)).run P W = .ok (.round l fn tmps assign body) W ∧
      RoundIn Fence.wide 0 P l fn tmps assign body W (fun e W' => (e = .returned (.bool true) ∧ I (k + 1) W') ∨ (e = .returned (.bool false) ∧ Z (k + 1) W'))) →
    I 0 W → Calls P gf (#[.func (.yield l) #[] #[]] ++ caps) W (fun e W' => e = .returned (.tuple #[]) ∧ (I N W' ∨ ∃ k, 0 < k ∧ k ≤ N ∧ Z k W'))
def Kept2 (w W W' : World) : Prop := W'.heap[w.heap.size]? = W.heap[w.heap.size]? ∧ W'.heap[w.heap.size + 1]? = W.heap[w.heap.size + 1]?
/-- How a round's body may be left. -/
def rndPost (w : World) (I : Nat → World → Prop) (Ix : Code → Nat → World → Prop) (k : Nat) (W : World) : Exit → Act → World → Prop
  | .normal, _, W' => Kept2 w W W' ∧ I k W'
  | .ret, _, W' => Kept2 w W W' ∧ Ix .ret k W'
  | .exit id, _, W' => Kept2 w W W' ∧ Ix (.exit id) k W'
  | .goto t, _, W' => Kept2 w W W' ∧ Ix (.goto t) k W'
  | .panic _, _, _ => False
  | .outgrown, _, _ => False
theorem Only.putObj {bs : List Nat} {a w : World} (h : Only bs a w) {r : Nat} (hr : r ∈ bs) (o : Obj) : Only bs a (w.putObj r o) :=
  ⟨h.os, h.tape, h.output, by simpa using h.size, fun k hk hn => (World.putObj_heap_other (fun e => hn (by rw [e]; exact hr))).trans (h.block k hk hn)⟩
/-- The marks of loops over functions are taken off, one by one. -/
def Takes : List Deferred → World → (World → Prop) → Prop
  | [], w, K => K w
  | d :: ds, w, K => ∃ r, d.target = .collected r ∧ w.heap[r]? = some (.deferred (some [])) ∧ Takes ds (w.putObj r (.deferred none)) K
end Go.Proofs.YtffckpkikdlbpaaGreatDoor

namespace Go.Proofs.YtffckpkikdlbpaaGreatDoor
open Go.RowKit
/-- No operation defers. -/
def noDefer (ops : Array Oper) : Bool := ops.toList.all (fun o => match o.op with | .defer _ => false | _ => true)
theorem noDefer_spec {ops : Array Oper} (h : noDefer ops = true) {i : Nat} {o : Oper} (hi : ops[i]? = some o) : ∀ c, o.op ≠ .defer c := by
  intro c hc
  have hm : o ∈ ops.toList := by
    rw [Array.mem_toList_iff]
    exact Array.mem_of_getElem? hi
  have := List.all_eq_true.1 h o hm
  rw [hc] at this
  cases this
theorem wpOpIn_of_wpOp {l : Nat} {P : Program} {ops : Array Oper} {Q : Exit → Act → World → Prop} (hQ : ¬ LetsOut Q) (hnd : noDefer ops = true) {i : Nat} {K : Act → World → Prop} {a : Act} {w : World}
    (h : wpOp P ops Q i K a w) : wpOpIn (Fence.wide.inRound l) 0 P ops Q i K a w := by
  unfold wpOp at h
  unfold wpOpIn
  cases ho : ops[i]? with
  | none => rw [ho] at h; exact h
  | some o =>
    rw [ho] at h
    simp only at h ⊢
    split
    · rename_i hw
      rw [if_pos hw] at h
      rcases h with h | h
      · refine ⟨fun _ _ => trivial, ?_⟩
        rw [Oper.semAt_eq _ _ _ (noDefer_spec hnd ho)]
        unfold Oper.wp at h
        generalize (execOp a.eval o).run P w = r at h
        unfold Oper.upon at h
        unfold Oper.uponIn
        split at h
        · exact h
        · exact h
        · exact h
        · exact ⟨(fun h => by cases h), CallsIn.inRound l (callsIn_wide.2 (h.mono fun e w'' hh => by cases e <;> exact hh))⟩
        · exact ⟨(fun h => by cases h), fun c cs _ => let ⟨v, w', r, s⟩ := h c cs; ⟨v, w', r, stepsIn_wide.2 s⟩⟩
        · exact h
        · exact h.elim
      · exact absurd h.2 hQ
    · rename_i hw
      rw [if_neg hw] at h
      exact ⟨fun _ _ => trivial, h⟩
theorem wpAnyIn_of_wpAny {l : Nat} {P : Program} {ops : Array Oper} {Q : Exit → Act → World → Prop} (hQ : ¬ LetsOut Q) (hnd : noDefer ops = true) {md : Region.Mode} : ∀ (fuel : Nat) (listed : Array Bool) (a : Act) (w : World),
    wpAny P md ops Q fuel listed a w → wpAnyIn (Fence.wide.inRound l) 0 P md ops Q fuel listed a w
  | 0, _, _, _, h => h
  | fuel + 1, listed, a, w, h => ⟨h.1, fun i hi => wpOpIn_mono (fun a w hh => wpAnyIn_of_wpAny hQ hnd fuel _ a w hh) (wpOpIn_of_wpOp hQ hnd (h.2 i hi))⟩
theorem wpAny_tail {P : Program} {Q : Exit → Act → World → Prop} {a : Act} {W : World} {l : List Oper} (n : Nat) (hB : Region.lexTailB .any l.toArray n = true)
    (h : wpStill P l.toArray W (fun a' => wpList P l.toArray Q (l.drop n) a' W) (l.take n) a) : wpAny P .any l.toArray Q l.toArray.size (Array.replicate l.toArray.size false) a W := by
  simp only [Region.lexTailB, Bool.and_eq_true, decide_eq_true_eq] at hB
  obtain ⟨⟨⟨⟨h1, h2⟩, h3⟩, h4⟩, h5⟩ := hB
  have e0 : n < l.length := by simpa using h2
  have e1 : (l.take n).length = n := by rw [List.length_take]; omega
  have e2 : (l.drop n).length = l.toArray.size - n := by rw [List.length_drop, List.size_toArray]
  have start : HeadInv .any l.toArray n (Array.replicate l.toArray.size false) := ⟨by simp, fun j _ _ hl => (by rw [getD_replicate_false] at hl; cases hl), fun t _ ht => getD_in (by simpa using ht) (getD_replicate_false _ _)⟩
  have hl : ∀ j, j < (l.take n).length → (l.take n)[j]? = l.toArray[0 + j]? := fun j hj => by
    rw [e1] at hj; simp [hj]
  have head := wpAnyL_lex (md := .any) (g := l.toArray.size - n) h1 h3 h4 h2 (l.take n) 0 _ a hl (by omega) start (by rw [e1]; exact h5) h
  have all := wpAny_of_head (Q' := Q) (g := l.toArray.size - n) (fun listed a' hL => by
    have t := wpAny_of_seq (md := .any) (Q' := Q) (l.drop n) n listed a' W (fun j => by simp [List.getElem?_drop]) (by rw [e2]; exact hL.1) hL.2
    rw [e2] at t; exact t) _ _ _ head
  rw [e1, show n + (l.toArray.size - n) = l.toArray.size by omega] at all
  exact all
/-- A drawn region in a round, of which all but the last operations only read: walked in the order of the text, in a world that is a letter. -/
theorem round_tail {r id : Nat} {P : Program} {Q : Exit → Act → World → Prop} {a : Act} {w : World} {l : List Oper} (n : Nat) (hm : P.follows .mixedOrders = true) (hB : Region.lexTailB .any l.toArray n = true) (hnd : noDefer l.toArray = true) (hQ : ¬ LetsOut Q)
    (h : ∀ W, W = w.drew → wpStill P l.toArray W (fun a' => wpList P l.toArray Q (l.drop n) a' W) (l.take n) a) : (Code.region id l.toArray true).wpIn (Fence.wide.inRound r) 0 P Q a w :=
  wpIn_region_any hm (wpAnyIn_of_wpAny hQ hnd _ _ _ _ (wpAny_tail n hB (h _ rfl)))
theorem no_out {Q : Exit → Act → World → Prop} {K : Act → World → Prop} (h : ¬ LetsOut Q) : ¬ LetsOut (Exit.then K Q) := fun ⟨a, w, hh⟩ => h ⟨a, w, hh⟩
theorem no_out_block {Q : Exit → Act → World → Prop} {id : Nat} (h : ¬ LetsOut Q) : ¬ LetsOut (Exit.inBlock id Q) := fun ⟨a, w, hh⟩ => h ⟨a, w, hh⟩
theorem no_out_round {w : World} {I : Nat → World → Prop} {Ix : Code → Nat → World → Prop} {k : Nat} {W : World} : ¬ LetsOut (rndPost w I Ix k W) := fun ⟨_, _, hh⟩ => hh
end Go.Proofs.YtffckpkikdlbpaaGreatDoor

namespace Go.Proofs.YtffckpkikdlbpaaGreatDoor
theorem makeFunc_runV (fn : Fn) (first cap : Array Value) (w : World) : (Instr.makeFunc fn first cap).run Tryz.prog w = .ok (.func fn first cap) w := rfl
end Go.Proofs.YtffckpkikdlbpaaGreatDoor
