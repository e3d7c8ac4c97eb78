/- Lemmas and contracts for the theorem of this claim: VPfB, VGen, VKdA, VKdB, VLen. -/
import Derived.Test.YtffckpkikdlbpaaGreatDoorZvAc
import Derived.BigFrameIn
import Derived.BigGuardIn
import Derived.TacticsIn
import Derived.TacticsInMore
import Derived.Deep.Cut
import Derived.OwnWalkIn
import Derived.Deep.RegionHeld3
import Derived.Deep.LoopGhost
import Derived.Deep.DeepCutAuto
import Derived.RegionTactic
import Derived.LoopN
import Derived.RangeFuncCalls
set_option linter.all false
set_option maxHeartbeats 16000000
namespace Go.Proofs.YtffckpkikdlbpaaGreatDoor
section
open Go.RowKit
structure PI where
 a : Nat
 l : Int
def PI.enc (p : PI) : List Value := [.int .u32 p.a, .int .i64 p.l]
def PI.okB (p : PI) : Bool := decide (0 ≤ p.l ∧ p.l ≤ 32 ∧ cut p.a p.l.toNat = p.a)
theorem PI.len (p : PI) : p.enc.length = 2 := rfl
def PI.pn (p : PI) : Pn := ⟨p.a, p.l.toNat⟩
theorem pn_ok {p : PI} (h : p.okB = true) (ha : p.a < 4294967296) : p.pn.ok ∧ p.l = (p.pn.l : Int) := by
 have := of_decide_eq_true h
 exact ⟨⟨ha, by simp [PI.pn]; omega, this.2.2⟩, by simp [PI.pn]; omega⟩
theorem pi_at {w : World} {A : Option Addr} {ps : List PI} (h : Rd w 2 PI.enc A ps) {k : Nat} (hk : k < ps.length) :
  ∃ b off : Nat, A = some ⟨b, off, none⟩ ∧ w.cell? ⟨b, off + k * 2, none⟩ = some (.int .u32 ps[k].a) ∧ w.cell? ⟨b, off + k * 2 + 1, none⟩ = some (.int .i64 ps[k].l) := by
 obtain ⟨b, off, e, hc⟩ := h k hk
 exact ⟨b, off, e, hc 0 _ rfl, hc 1 _ rfl⟩
theorem vcL {a n : Nat} (ha : a < 4294967296) (hn : n ≤ 32) : (bits .andNot .u32 (a : Int) (maskN n : Int) != 0) = !decide (cut a n = a) := by
 rw [vgF a _ ha (vfW n), vfk ha hn]
 have := vhN a n
 by_cases h : cut a n = a
 ·simp [h]
 ·simp [h]; omega
set_option maxRecDepth 100000 in
theorem vhO (A : Option Addr) (c : Nat) (ps : List PI) (w : World) (hR : Rd w 2 PI.enc A ps) (hn : ps.length ≤ 1000000) (ha : ∀ k (hk : k < ps.length), ps[k].a < 4294967296) :
  Calls Tryz.prog 191 #[.slice A ps.length c] w fun e w' => e = .returned (.bool (ps.all PI.okB)) ∧ Kp w w' := by
 have Ha := Lib.hid ha; clear ha
 go_enter Tryz.func191, Tryz.ntmps191
 go_wp2_with fail
 go_loopw [7] (fun i wr => ∃ k : Nat, k ≤ ps.length ∧ i = .int .i64 k ∧ Hid (∀ j (hj : j < ps.length), j < k → ps[j].okB = true) ∧ Kp w wr) (fun i _ => ps.length - (intOf i).toNat)
 case atStart => exact ⟨0, Nat.zero_le _, rfl, fun _ _ h => absurd h (by omega), Kp.refl _⟩
 case round =>
  obtain ⟨k, hk, rfl, hall, hK⟩ := hrel
  by_cases hlt : k < ps.length
  ·obtain ⟨b, off, rfl, c0, c1⟩ := pi_at (hR.keep hK) hlt
   have hak := Ha.out k hlt
   have hno : ps[k].okB = false → ps.all PI.okB = false := fun h => by rw [List.all_eq_false]; exact ⟨ps[k], List.getElem_mem hlt, by simp [h]⟩
   have Hno := Lib.hid hno; clear hno
   obtain ⟨W, hW, kW, B0⟩ : ∃ W, wr.alloc (.cells #[.int .u32 ps[k].a, .int .i64 ps[k].l] 29) = W ∧ Kp w W ∧ Blk W wr.heap.size 29 #[.int .u32 ps[k].a, .int .i64 ps[k].l] := ⟨_, rfl, hK.alloc _, Blk.new wr _ _⟩
   obtain ⟨p0, p1⟩ := Blk.v2 B0 (.int .u32 ps[k].a) (.int .i64 ps[k].l) rfl
   by_cases h0 : ps[k].l < 0
   ·have H := Lib.hid (Hno.out (by simp [PI.okB]; omega))
    have d0 : decide (ps[k].l < 0) = true := by simpa using h0
    clear h0
    go_wp2_with fail
    go_quiet (fail)
    go_wp2_with fail
    go_ret
    exact ⟨by rw [H.out]; rfl, kW.drewN _⟩
   ·have d0 : decide (ps[k].l < 0) = false := by simpa using h0
    by_cases h1 : 32 < ps[k].l
    ·have H := Lib.hid (Hno.out (by simp [PI.okB]; omega))
     have d1 : decide (32 < ps[k].l) = true := by simpa using h1
     clear h0 h1
     go_wp2_with fail
     go_quiet (fail)
     go_wp2_with fail
     go_ret
     exact ⟨by rw [H.out]; rfl, kW.drewN _⟩
    ·have d1 : decide (32 < ps[k].l) = false := by simpa using h1
     obtain ⟨n, hnl⟩ := Int.eq_ofNat_of_zero_le (show 0 ≤ ps[k].l by omega)
     have hn32 : n ≤ 32 := by omega
     have hz := vcL hak hn32
     have Hl := Lib.hid hnl
     rw [hnl] at c1 p1 d0 d1 hW
     clear h0 h1 hnl
     by_cases hc : cut ps[k].a n = ps[k].a
     ·have hok := Lib.hid (show ps[k].okB = true by simp only [PI.okB, Hl.out, Int.toNat_natCast, decide_eq_true_eq]; exact ⟨by omega, by omega, hc⟩)
      rw [show (!decide (cut ps[k].a n = ps[k].a)) = false by simp [hc]] at hz
      clear hc
      go_wp2_with fail
      go_region_held3 (fun w' => w'.cell? ⟨wr.heap.size, 0, none⟩ = some (.int .u32 ps[k].a) ∧ w'.cell? ⟨wr.heap.size, 1, none⟩ = some (.int .i64 n)) (go_keep)
       (first | (go_at_call 192; refine (vdW _ _ hn32).mono ?_; rintro e w' ⟨rfl, rfl⟩))
      go_wp2_with fail
      go_roundw
      case rel =>
       refine ⟨k + 1, by omega, by go_num, fun j hj hjk => ?_, kW.drew⟩
       by_cases hj' : j < k
       ·exact hall.out j hj hj'
       ·obtain rfl : j = k := by omega
        exact hok.out
      case measure => simp [intOf]; omega
     ·have H := Lib.hid (Hno.out (by simp only [PI.okB, Hl.out, Int.toNat_natCast, decide_eq_false_iff_not]; rintro ⟨_, _, h⟩; exact hc h))
      rw [show (!decide (cut ps[k].a n = ps[k].a)) = true by simp [hc]] at hz
      clear hc
      go_wp2_with fail
      go_region_held3 (fun w' => w'.cell? ⟨wr.heap.size, 0, none⟩ = some (.int .u32 ps[k].a) ∧ w'.cell? ⟨wr.heap.size, 1, none⟩ = some (.int .i64 n)) (go_keep)
       (first | (go_at_call 192; refine (vdW _ _ hn32).mono ?_; rintro e w' ⟨rfl, rfl⟩))
      go_wp2_with fail
      go_ret
      exact ⟨by rw [H.out]; rfl, kW.drew⟩
  ·obtain rfl : k = ps.length := by omega
   have H := Lib.hid (show ps.all PI.okB = true by
    rw [List.all_eq_true]; intro x hx
    obtain ⟨j, hj, rfl⟩ := List.getElem_of_mem hx
    exact hall.out j hj hj)
   clear hall
   go_wp2_with fail
   go_ret
   exact ⟨by rw [H.out]; rfl, hK⟩
def checkP (p : PI) : Int := if p.okB then 0 else 2
set_option maxRecDepth 100000 in
theorem veD (p : PI) (w : World) (ha : p.a < 4294967296) :
  Calls Tryz.prog 167 #[.agg #[.int .u32 p.a, .int .i64 p.l]] w fun e w' => e = .returned (.int .i64 (checkP p)) ∧ Kp w w' := by
 have hrd : Rd ((w.alloc (.cells #[.int .u32 p.a, .int .i64 p.l] 29)).alloc (.cells #[.int .u32 p.a, .int .i64 p.l] 29)) 2 PI.enc (some ⟨w.heap.size + 1, 0, none⟩) [p] := Rd.of_blk (Blk.new1 w _ _ _) (by omega) PI.len (by unfold maxLen; simp) rfl
 have Hrd := Lib.hid hrd; clear hrd
 go_enter Tryz.func167, Tryz.ntmps167
 go_wp2_with fail
 refine van 0 rfl ?_
 go_wp2_with fail
 refine (vhO _ 1 [p] _ Hrd.out (by simp) (fun k hk => by simp at hk; subst hk; exact ha)).mono ?_
 rintro e w1 ⟨rfl, hK1⟩
 have hk1 : Kp w w1 := (((Kp.refl _).alloc _).alloc _).trans hK1
 rw [show [p].all PI.okB = p.okB by simp]
 cases hok : p.okB with
 | true =>
  have H := Lib.hid (show checkP p = 0 by simp [checkP, hok]); clear hok
  go_wp2_with fail
  refine vaW ?_
  go_ret
  exact ⟨by rw [H.out]; rfl, hk1⟩
 | false =>
  have H := Lib.hid (show checkP p = 2 by simp [checkP, hok]); clear hok
  go_wp2_with fail
  go_step3
  refine ⟨rfl, ?_⟩
  go_wp2_with fail
  refine vdB ?_
  go_ret
  exact ⟨by rw [H.out]; rfl, hk1⟩
end

section
theorem vdX (fn : Fn) (first cap : Array Value) (w : World) : (Instr.makeFunc fn first cap).run Tryz.prog w = .ok (.func fn first cap) w := rfl
end

section
open Go.RowKit
def kindAB : Nat → Nat → Bool
 | 0, a => decide (a = 0)
 | 1, a => decide (a / 16777216 = 0)
 | 2, a => decide (a / 16777216 = 127)
 | 3, a => decide (224 ≤ a / 16777216) && decide (a / 16777216 ≤ 239)
 | 4, a => decide (240 ≤ a / 16777216)
 | _, _ => true
def kindAd (a : Nat) : Nat := if a = 0 then 1 else if a / 16777216 = 0 then 2 else if a / 16777216 = 127 then 3 else if 224 ≤ a / 16777216 ∧ a / 16777216 ≤ 239 then 4 else if 240 ≤ a / 16777216 then 5 else 6
theorem vlW {a k : Nat} (hk : k < 6) (h : ∀ j, j < k → kindAB j a = false) (h1 : kindAB k a = true) : kindAd a = k + 1 := by
 have hk2 : k = 0 ∨ k = 1 ∨ k = 2 ∨ k = 3 ∨ k = 4 ∨ k = 5 := by omega
 unfold kindAd
 rcases hk2 with rfl | rfl | rfl | rfl | rfl | rfl
 ·simp [kindAB] at h1; simp [h1]
 all_goals
  have g0 := h 0 (by omega)
  simp only [kindAB, decide_eq_false_iff_not] at g0
  rw [if_neg g0]
 ·simp [kindAB] at h1; rw [if_pos (by omega)]
 all_goals
  have g1 := h 1 (by omega)
  simp only [kindAB, decide_eq_false_iff_not] at g1
  rw [if_neg g1]
 ·simp [kindAB] at h1; rw [if_pos h1]
 all_goals
  have g2 := h 2 (by omega)
  simp only [kindAB, decide_eq_false_iff_not] at g2
  rw [if_neg g2]
 ·simp [kindAB] at h1; rw [if_pos h1]
 all_goals
  have g3 := h 3 (by omega)
  simp [kindAB] at g3
  rw [if_neg (by omega)]
 ·simp [kindAB] at h1; rw [if_pos h1]
 ·have g4 := h 4 (by omega)
  simp [kindAB] at g4
  rw [if_neg (by omega)]
theorem idx4 (x y z u : Value) (w : World) : (Instr.index 269 (.agg #[x, y, z, u]) (.int .i64 0)).run Tryz.prog w = .ok x w := by kernel_rfl
def PartsPost (m : Nat) (w : World) (e : Ending) (w' : World) : Prop := ∃ y z u : Int, e = .returned (.agg #[.int .u8 m, .int .u8 y, .int .u8 z, .int .u8 u]) ∧ Kp w w'
set_option maxRecDepth 100000 in
theorem vhP (a m : Nat) (w : World) (ha : a < 4294967296) (hm : a / 16777216 = m) : Calls Tryz.prog 206 #[.int .u32 a] w (PartsPost m w) := by
 have Hm := Lib.hid hm; clear hm
 go_enter Tryz.func206, Tryz.ntmps206
 go_wp2_with fail
 all_goals first
  | omega
  | exact bodyPost_ret (v := .agg #[.int .u8 ((a : Int) / 16777216), .int .u8 ((a : Int) / 65536 % 256), .int .u8 ((a : Int) / 256 % 256), .int .u8 ((a : Int) % 256)]) (by simp [results, Tryz.results206, go_sem]) rfl ⟨_, _, _, by rw [← Hm.out]; rfl, (Kp.refl _).alloc _⟩
set_option maxRecDepth 100000 in
theorem vbd (a m : Nat) (w : World) (ha : a < 4294967296) (hm : a / 16777216 = m) :
  Calls Tryz.prog 205 #[.int .u32 a] w fun e w' => e = .returned (.int .u8 m) ∧ Kp w w' := by
 have h4 := idx4
 have Hm := Lib.hid hm; clear hm
 go_enter Tryz.func205, Tryz.ntmps205
 go_wp2_with fail
 refine (vhP a m _ ha Hm.out).mono ?_
 rintro e w' ⟨y, z, u, rfl, hK⟩
 go_wp2_with fail
 go_ret
 exact ⟨rfl, hK⟩
theorem vlX (a : Nat) (w : World) : Calls Tryz.prog 207 #[.int .u32 a] w fun e w' => e = .returned (.bool (kindAB 0 a)) ∧ Kp w w' := by
 have H := Lib.hid (show kindAB 0 a = ((a : Int) == 0) by simp only [kindAB]; rw [Bool.eq_iff_iff]; simp)
 go_enter Tryz.func207, Tryz.ntmps207
 go_wp2_with fail
 go_ret
 exact ⟨by rw [H.out]; rfl, Kp.refl _⟩
theorem vlY (a : Nat) (w : World) : Calls Tryz.prog 212 #[.int .u32 a] w fun e w' => e = .returned (.bool (kindAB 5 a)) ∧ Kp w w' := by
 go_enter Tryz.func212, Tryz.ntmps212
 go_wp2_with fail
 go_ret
 exact ⟨rfl, Kp.refl _⟩
set_option maxRecDepth 100000 in
theorem vlZ (a c : Nat) (w : World) (ha : a < 4294967296) (hc : Blk w c 271 #[.func (.func 205) #[] #[]]) : Calls Tryz.prog 208 #[.int .u32 a, .pointer (some ⟨c, 0, none⟩)] w fun e w' => e = .returned (.bool (kindAB 1 a)) ∧ Kp w w' := by
 have c0 : w.cell? ⟨c, 0, none⟩ = some (.func (.func 205) #[] #[]) := hc.cell 0
 obtain ⟨m, hm⟩ : ∃ m, a / 16777216 = m := ⟨_, rfl⟩
 have H := Lib.hid (show kindAB 1 a = ((m : Int) == 0) by simp only [kindAB, hm]; rw [Bool.eq_iff_iff]; simp <;> omega)
 have Hm := Lib.hid hm; clear hm
 go_enter Tryz.func208, Tryz.ntmps208
 go_wp2_with fail
 refine (vbd a m _ ha Hm.out).mono ?_
 rintro e w' ⟨rfl, hK⟩
 go_wp2_with fail
 go_ret
 exact ⟨by rw [H.out]; rfl, hK⟩
set_option maxRecDepth 100000 in
theorem vma (a c : Nat) (w : World) (ha : a < 4294967296) (hc : Blk w c 271 #[.func (.func 205) #[] #[]]) : Calls Tryz.prog 209 #[.int .u32 a, .pointer (some ⟨c, 0, none⟩)] w fun e w' => e = .returned (.bool (kindAB 2 a)) ∧ Kp w w' := by
 have c0 : w.cell? ⟨c, 0, none⟩ = some (.func (.func 205) #[] #[]) := hc.cell 0
 obtain ⟨m, hm⟩ : ∃ m, a / 16777216 = m := ⟨_, rfl⟩
 have H := Lib.hid (show kindAB 2 a = ((m : Int) == 127) by simp only [kindAB, hm]; rw [Bool.eq_iff_iff]; simp <;> omega)
 have Hm := Lib.hid hm; clear hm
 go_enter Tryz.func209, Tryz.ntmps209
 go_wp2_with fail
 refine (vbd a m _ ha Hm.out).mono ?_
 rintro e w' ⟨rfl, hK⟩
 go_wp2_with fail
 go_ret
 exact ⟨by rw [H.out]; rfl, hK⟩
set_option maxRecDepth 100000 in
theorem vmb (a c : Nat) (w : World) (ha : a < 4294967296) (hc : Blk w c 271 #[.func (.func 205) #[] #[]]) : Calls Tryz.prog 211 #[.int .u32 a, .pointer (some ⟨c, 0, none⟩)] w fun e w' => e = .returned (.bool (kindAB 4 a)) ∧ Kp w w' := by
 have c0 : w.cell? ⟨c, 0, none⟩ = some (.func (.func 205) #[] #[]) := hc.cell 0
 obtain ⟨m, hm⟩ : ∃ m, a / 16777216 = m := ⟨_, rfl⟩
 have H := Lib.hid (show kindAB 4 a = decide ((240 : Int) ≤ (m : Int)) by simp only [kindAB, hm]; rw [Bool.eq_iff_iff]; simp <;> omega)
 have Hm := Lib.hid hm; clear hm
 go_enter Tryz.func211, Tryz.ntmps211
 go_wp2_with fail
 refine (vbd a m _ ha Hm.out).mono ?_
 rintro e w' ⟨rfl, hK⟩
 go_wp2_with fail
 go_ret
 exact ⟨by rw [H.out]; rfl, hK⟩
set_option maxRecDepth 100000 in
theorem vmc (a c : Nat) (w : World) (ha : a < 4294967296) (hc : Blk w c 271 #[.func (.func 205) #[] #[]]) : Calls Tryz.prog 210 #[.int .u32 a, .pointer (some ⟨c, 0, none⟩)] w fun e w' => e = .returned (.bool (kindAB 3 a)) ∧ Kp w w' := by
 have c0 : w.cell? ⟨c, 0, none⟩ = some (.func (.func 205) #[] #[]) := hc.cell 0
 have Hc := Lib.hid hc; clear hc
 obtain ⟨m, hm⟩ : ∃ m, a / 16777216 = m := ⟨_, rfl⟩
 have H := Lib.hid (show kindAB 3 a = (decide (224 ≤ m) && decide (m ≤ 239)) by simp only [kindAB, hm])
 have Hm := Lib.hid hm; clear hm
 by_cases h : 224 ≤ m
 ·have hd : decide ((224 : Int) ≤ (m : Int)) = true := by simp; omega
  have hd2 : decide (224 ≤ m) = true := by simpa using h
  have hk := Lib.hid (show kindAB 3 a = decide ((m : Int) ≤ 239) by rw [H.out, hd2, Bool.true_and, Bool.eq_iff_iff]; simp; omega)
  have Hh := Lib.hid h; clear h
  go_enter Tryz.func210, Tryz.ntmps210
  go_wp2_with fail
  refine (vbd a m _ ha Hm.out).mono ?_
  rintro e w1 ⟨rfl, hK⟩
  have c1 : w1.cell? ⟨c, 0, none⟩ = some (.func (.func 205) #[] #[]) := hK.cell c0
  go_wp2_with fail
  refine (vbd a m _ ha Hm.out).mono ?_
  rintro e w2 ⟨rfl, hK2⟩
  go_wp2_with fail
  go_ret
  exact ⟨by rw [hk.out]; rfl, hK.trans hK2⟩
 ·have hd : decide ((224 : Int) ≤ (m : Int)) = false := by simp; omega
  have hd2 : decide (224 ≤ m) = false := by simpa using h
  have hk := Lib.hid (show kindAB 3 a = false by rw [H.out, hd2, Bool.false_and])
  have Hh := Lib.hid h; clear h
  go_enter Tryz.func210, Tryz.ntmps210
  go_wp2_with fail
  refine (vbd a m _ ha Hm.out).mono ?_
  rintro e w1 ⟨rfl, hK⟩
  go_wp2_with fail
  go_ret
  exact ⟨by rw [hk.out]; rfl, hK⟩
def kindCells (c : Nat) : Array Value := #[.int .i64 1, .func (.func 207) #[] #[], .int .i64 2, .func (.func 208) #[] #[.pointer (some ⟨c, 0, none⟩)], .int .i64 3, .func (.func 209) #[] #[.pointer (some ⟨c, 0, none⟩)], .int .i64 4, .func (.func 210) #[] #[.pointer (some ⟨c, 0, none⟩)], .int .i64 5, .func (.func 211) #[] #[.pointer (some ⟨c, 0, none⟩)], .int .i64 6, .func (.func 212) #[] #[]]
theorem vdY (w : World) : Calls Tryz.prog 196 #[] w fun e w' => e = .returned (.slice (some ⟨w.heap.size + 1, 0, none⟩) 6 6) ∧ Blk w' w.heap.size 271 #[.func (.func 205) #[] #[]] ∧ Blk w' (w.heap.size + 1) 263 (kindCells w.heap.size) ∧ Kp w w' := by
 have hmf := vdX
 go_enter Tryz.func196, Tryz.ntmps196
 go_wp2_with fail
 go_ret
 exact ⟨rfl, (Blk.new w _ _).alloc _, Blk.new1 w _ _ _, ((Kp.refl _).alloc _).alloc _⟩
set_option maxRecDepth 100000 in
theorem vdE (a : Nat) (w : World) (ha : a < 4294967296) : Calls Tryz.prog 183 #[.int .u32 a] w fun e w' => e = .returned (.int .i64 (kindAd a)) ∧ Kp w w' := by
 have Hat := Lib.hid (fun k (hk : k < 6) => vlW (a := a) hk)
 go_enter Tryz.func183, Tryz.ntmps183
 go_wp2_with fail
 refine (vdY _).mono ?_
 rintro e w1 ⟨rfl, hC, hR, hK1⟩
 go_wp2_with fail
 go_loopw [7] (fun i wr => ∃ k : Nat, k ≤ 5 ∧ i = .int .i64 k ∧ Hid (∀ j, j < k → kindAB j a = false) ∧ Kp w1 wr) (fun i _ => 6 - (intOf i).toNat)
 case atStart => exact ⟨0, by omega, rfl, fun _ h => absurd h (by omega), Kp.refl _⟩
 case round =>
  obtain ⟨k, hk, rfl, hall, hK⟩ := hrel
  have C := hC.keep hK
  have R := hR.keep hK
  have kw := hK1.trans hK
  have hk2 : k = 0 ∨ k = 1 ∨ k = 2 ∨ k = 3 ∨ k = 4 ∨ k = 5 := by omega
  rcases hk2 with rfl | rfl | rfl | rfl | rfl | rfl
  ·obtain ⟨c0, c1⟩ := Blk.v2 R (.int .i64 1) (.func (.func 207) #[] #[]) rfl
   have B := Blk.new wr 263 #[.int .i64 1, .func (.func 207) #[] #[]]
   go_wp2_with fail
   refine (vlX a _).mono ?_
   rintro e w2 ⟨rfl, hK2⟩
   have B2 := B.keep hK2
   have k2 : Kp w1 w2 := (hK.alloc _).trans hK2
   have d0 : w2.cell? ⟨wr.heap.size, 0, none⟩ = some (.int .i64 1) := B2.cell 0
   cases hb : kindAB 0 a with
   | true =>
    have H := Lib.hid (Hat.out 0 (by omega) hall.out hb)
    clear hb
    go_wp2_with fail
    go_ret
    exact ⟨by rw [H.out]; rfl, hK1.trans k2⟩
   | false =>
    have Hb := Lib.hid hb; clear hb
    go_wp2_with fail
    go_roundw
    case rel =>
     refine ⟨1, by omega, by go_num, fun j hj => ?_, k2⟩
     by_cases e : j = 0
     ·subst e; exact Hb.out
     ·exact hall.out j (by omega)
    case measure => simp [intOf] <;> omega
  ·obtain ⟨-, -, c0, c1⟩ := Blk.v4 R _ _ (.int .i64 2) (.func (.func 208) #[] #[.pointer (some ⟨w.heap.size, 0, none⟩)]) rfl
   have B := Blk.new wr 263 #[.int .i64 2, .func (.func 208) #[] #[.pointer (some ⟨w.heap.size, 0, none⟩)]]
   go_wp2_with fail
   refine (vlZ a w.heap.size _ ha (C.alloc _)).mono ?_
   rintro e w2 ⟨rfl, hK2⟩
   have B2 := B.keep hK2
   have k2 : Kp w1 w2 := (hK.alloc _).trans hK2
   have d0 : w2.cell? ⟨wr.heap.size, 0, none⟩ = some (.int .i64 2) := B2.cell 0
   cases hb : kindAB 1 a with
   | true =>
    have H := Lib.hid (Hat.out 1 (by omega) hall.out hb)
    clear hb
    go_wp2_with fail
    go_ret
    exact ⟨by rw [H.out]; rfl, hK1.trans k2⟩
   | false =>
    have Hb := Lib.hid hb; clear hb
    go_wp2_with fail
    go_roundw
    case rel =>
     refine ⟨2, by omega, by go_num, fun j hj => ?_, k2⟩
     by_cases e : j = 1
     ·subst e; exact Hb.out
     ·exact hall.out j (by omega)
    case measure => simp [intOf] <;> omega
  ·obtain ⟨-, -, -, -, c0, c1⟩ := Blk.v6 R _ _ _ _ (.int .i64 3) (.func (.func 209) #[] #[.pointer (some ⟨w.heap.size, 0, none⟩)]) rfl
   have B := Blk.new wr 263 #[.int .i64 3, .func (.func 209) #[] #[.pointer (some ⟨w.heap.size, 0, none⟩)]]
   go_wp2_with fail
   refine (vma a w.heap.size _ ha (C.alloc _)).mono ?_
   rintro e w2 ⟨rfl, hK2⟩
   have B2 := B.keep hK2
   have k2 : Kp w1 w2 := (hK.alloc _).trans hK2
   have d0 : w2.cell? ⟨wr.heap.size, 0, none⟩ = some (.int .i64 3) := B2.cell 0
   cases hb : kindAB 2 a with
   | true =>
    have H := Lib.hid (Hat.out 2 (by omega) hall.out hb)
    clear hb
    go_wp2_with fail
    go_ret
    exact ⟨by rw [H.out]; rfl, hK1.trans k2⟩
   | false =>
    have Hb := Lib.hid hb; clear hb
    go_wp2_with fail
    go_roundw
    case rel =>
     refine ⟨3, by omega, by go_num, fun j hj => ?_, k2⟩
     by_cases e : j = 2
     ·subst e; exact Hb.out
     ·exact hall.out j (by omega)
    case measure => simp [intOf] <;> omega
  ·obtain ⟨-, -, -, -, -, -, c0, c1⟩ := Blk.v8 R _ _ _ _ _ _ (.int .i64 4) (.func (.func 210) #[] #[.pointer (some ⟨w.heap.size, 0, none⟩)]) rfl
   have B := Blk.new wr 263 #[.int .i64 4, .func (.func 210) #[] #[.pointer (some ⟨w.heap.size, 0, none⟩)]]
   go_wp2_with fail
   refine (vmc a w.heap.size _ ha (C.alloc _)).mono ?_
   rintro e w2 ⟨rfl, hK2⟩
   have B2 := B.keep hK2
   have k2 : Kp w1 w2 := (hK.alloc _).trans hK2
   have d0 : w2.cell? ⟨wr.heap.size, 0, none⟩ = some (.int .i64 4) := B2.cell 0
   cases hb : kindAB 3 a with
   | true =>
    have H := Lib.hid (Hat.out 3 (by omega) hall.out hb)
    clear hb
    go_wp2_with fail
    go_ret
    exact ⟨by rw [H.out]; rfl, hK1.trans k2⟩
   | false =>
    have Hb := Lib.hid hb; clear hb
    go_wp2_with fail
    go_roundw
    case rel =>
     refine ⟨4, by omega, by go_num, fun j hj => ?_, k2⟩
     by_cases e : j = 3
     ·subst e; exact Hb.out
     ·exact hall.out j (by omega)
    case measure => simp [intOf] <;> omega
  ·obtain ⟨-, -, -, -, -, -, -, -, c0, c1⟩ := Blk.p10 R
   have B := Blk.new wr 263 #[.int .i64 5, .func (.func 211) #[] #[.pointer (some ⟨w.heap.size, 0, none⟩)]]
   go_wp2_with fail
   refine (vmb a w.heap.size _ ha (C.alloc _)).mono ?_
   rintro e w2 ⟨rfl, hK2⟩
   have B2 := B.keep hK2
   have k2 : Kp w1 w2 := (hK.alloc _).trans hK2
   have d0 : w2.cell? ⟨wr.heap.size, 0, none⟩ = some (.int .i64 5) := B2.cell 0
   cases hb : kindAB 4 a with
   | true =>
    have H := Lib.hid (Hat.out 4 (by omega) hall.out hb)
    clear hb
    go_wp2_with fail
    go_ret
    exact ⟨by rw [H.out]; rfl, hK1.trans k2⟩
   | false =>
    have Hb := Lib.hid hb; clear hb
    go_wp2_with fail
    go_roundw
    case rel =>
     refine ⟨5, by omega, by go_num, fun j hj => ?_, k2⟩
     by_cases e : j = 4
     ·subst e; exact Hb.out
     ·exact hall.out j (by omega)
    case measure => simp [intOf] <;> omega
  ·obtain ⟨-, -, -, -, -, -, -, -, -, -, c0, c1⟩ := Blk.v12 R _ _ _ _ _ _ _ _ _ _ (.int .i64 6) (.func (.func 212) #[] #[]) rfl
   have B := Blk.new wr 263 #[.int .i64 6, .func (.func 212) #[] #[]]
   go_wp2_with fail
   refine (vlY a _).mono ?_
   rintro e w2 ⟨rfl, hK2⟩
   have B2 := B.keep hK2
   have k2 : Kp w1 w2 := (hK.alloc _).trans hK2
   have d0 : w2.cell? ⟨wr.heap.size, 0, none⟩ = some (.int .i64 6) := B2.cell 0
   cases hb : kindAB 5 a with
   | true =>
    have H := Lib.hid (Hat.out 5 (by omega) hall.out hb)
    clear hb
    go_wp2_with fail
    go_ret
    exact ⟨by rw [H.out]; rfl, hK1.trans k2⟩
   | false => cases hb
set_option maxRecDepth 100000 in
theorem vmd (w : World) : Calls Tryz.prog 161 #[.int .u32 0] w fun e w' => e = .returned (.int .i64 0) ∧ w = w' := by
 go_enter Tryz.func161, Tryz.ntmps161
 go_wp2_with fail
 go_ret
 exact ⟨by kernel_rfl, rfl⟩
set_option maxRecDepth 100000 in
theorem vme (w : World) : Calls Tryz.prog 161 #[.int .u32 1] w fun e w' => e = .returned (.int .i64 1) ∧ w = w' := by
 go_enter Tryz.func161, Tryz.ntmps161
 go_wp2_with fail
 go_ret
 exact ⟨by kernel_rfl, rfl⟩
set_option maxRecDepth 100000 in
theorem vmf (w : World) : Calls Tryz.prog 161 #[.int .u32 3] w fun e w' => e = .returned (.int .i64 2) ∧ w = w' := by
 go_enter Tryz.func161, Tryz.ntmps161
 go_wp2_with fail
 go_ret
 exact ⟨by kernel_rfl, rfl⟩
set_option maxRecDepth 100000 in
theorem vmg (w : World) : Calls Tryz.prog 161 #[.int .u32 7] w fun e w' => e = .returned (.int .i64 3) ∧ w = w' := by
 go_enter Tryz.func161, Tryz.ntmps161
 go_wp2_with fail
 go_ret
 exact ⟨by kernel_rfl, rfl⟩
set_option maxRecDepth 100000 in
theorem vmh (w : World) : Calls Tryz.prog 161 #[.int .u32 15] w fun e w' => e = .returned (.int .i64 4) ∧ w = w' := by
 go_enter Tryz.func161, Tryz.ntmps161
 go_wp2_with fail
 go_ret
 exact ⟨by kernel_rfl, rfl⟩
set_option maxRecDepth 100000 in
theorem vmi (w : World) : Calls Tryz.prog 161 #[.int .u32 31] w fun e w' => e = .returned (.int .i64 5) ∧ w = w' := by
 go_enter Tryz.func161, Tryz.ntmps161
 go_wp2_with fail
 go_ret
 exact ⟨by kernel_rfl, rfl⟩
set_option maxRecDepth 100000 in
theorem vmj (w : World) : Calls Tryz.prog 161 #[.int .u32 63] w fun e w' => e = .returned (.int .i64 6) ∧ w = w' := by
 go_enter Tryz.func161, Tryz.ntmps161
 go_wp2_with fail
 go_ret
 exact ⟨by kernel_rfl, rfl⟩
set_option maxRecDepth 100000 in
theorem vmk (w : World) : Calls Tryz.prog 161 #[.int .u32 127] w fun e w' => e = .returned (.int .i64 7) ∧ w = w' := by
 go_enter Tryz.func161, Tryz.ntmps161
 go_wp2_with fail
 go_ret
 exact ⟨by kernel_rfl, rfl⟩
set_option maxRecDepth 100000 in
theorem vml (w : World) : Calls Tryz.prog 161 #[.int .u32 255] w fun e w' => e = .returned (.int .i64 8) ∧ w = w' := by
 go_enter Tryz.func161, Tryz.ntmps161
 go_wp2_with fail
 go_ret
 exact ⟨by kernel_rfl, rfl⟩
set_option maxRecDepth 100000 in
theorem vmm (w : World) : Calls Tryz.prog 161 #[.int .u32 511] w fun e w' => e = .returned (.int .i64 9) ∧ w = w' := by
 go_enter Tryz.func161, Tryz.ntmps161
 go_wp2_with fail
 go_ret
 exact ⟨by kernel_rfl, rfl⟩
set_option maxRecDepth 100000 in
theorem vjH (w : World) : Calls Tryz.prog 161 #[.int .u32 1023] w fun e w' => e = .returned (.int .i64 10) ∧ w = w' := by
 go_enter Tryz.func161, Tryz.ntmps161
 go_wp2_with fail
 go_ret
 exact ⟨by kernel_rfl, rfl⟩
set_option maxRecDepth 100000 in
theorem vjI (w : World) : Calls Tryz.prog 161 #[.int .u32 2047] w fun e w' => e = .returned (.int .i64 11) ∧ w = w' := by
 go_enter Tryz.func161, Tryz.ntmps161
 go_wp2_with fail
 go_ret
 exact ⟨by kernel_rfl, rfl⟩
set_option maxRecDepth 100000 in
theorem vjJ (w : World) : Calls Tryz.prog 161 #[.int .u32 4095] w fun e w' => e = .returned (.int .i64 12) ∧ w = w' := by
 go_enter Tryz.func161, Tryz.ntmps161
 go_wp2_with fail
 go_ret
 exact ⟨by kernel_rfl, rfl⟩
set_option maxRecDepth 100000 in
theorem vjK (w : World) : Calls Tryz.prog 161 #[.int .u32 8191] w fun e w' => e = .returned (.int .i64 13) ∧ w = w' := by
 go_enter Tryz.func161, Tryz.ntmps161
 go_wp2_with fail
 go_ret
 exact ⟨by kernel_rfl, rfl⟩
set_option maxRecDepth 100000 in
theorem vjL (w : World) : Calls Tryz.prog 161 #[.int .u32 16383] w fun e w' => e = .returned (.int .i64 14) ∧ w = w' := by
 go_enter Tryz.func161, Tryz.ntmps161
 go_wp2_with fail
 go_ret
 exact ⟨by kernel_rfl, rfl⟩
set_option maxRecDepth 100000 in
theorem vjM (w : World) : Calls Tryz.prog 161 #[.int .u32 32767] w fun e w' => e = .returned (.int .i64 15) ∧ w = w' := by
 go_enter Tryz.func161, Tryz.ntmps161
 go_wp2_with fail
 go_ret
 exact ⟨by kernel_rfl, rfl⟩
set_option maxRecDepth 100000 in
theorem vjN (w : World) : Calls Tryz.prog 161 #[.int .u32 65535] w fun e w' => e = .returned (.int .i64 16) ∧ w = w' := by
 go_enter Tryz.func161, Tryz.ntmps161
 go_wp2_with fail
 go_ret
 exact ⟨by kernel_rfl, rfl⟩
set_option maxRecDepth 100000 in
theorem vjO (w : World) : Calls Tryz.prog 161 #[.int .u32 131071] w fun e w' => e = .returned (.int .i64 17) ∧ w = w' := by
 go_enter Tryz.func161, Tryz.ntmps161
 go_wp2_with fail
 go_ret
 exact ⟨by kernel_rfl, rfl⟩
set_option maxRecDepth 100000 in
theorem vjP (w : World) : Calls Tryz.prog 161 #[.int .u32 262143] w fun e w' => e = .returned (.int .i64 18) ∧ w = w' := by
 go_enter Tryz.func161, Tryz.ntmps161
 go_wp2_with fail
 go_ret
 exact ⟨by kernel_rfl, rfl⟩
set_option maxRecDepth 100000 in
theorem vjQ (w : World) : Calls Tryz.prog 161 #[.int .u32 524287] w fun e w' => e = .returned (.int .i64 19) ∧ w = w' := by
 go_enter Tryz.func161, Tryz.ntmps161
 go_wp2_with fail
 go_ret
 exact ⟨by kernel_rfl, rfl⟩
set_option maxRecDepth 100000 in
theorem vjR (w : World) : Calls Tryz.prog 161 #[.int .u32 1048575] w fun e w' => e = .returned (.int .i64 20) ∧ w = w' := by
 go_enter Tryz.func161, Tryz.ntmps161
 go_wp2_with fail
 go_ret
 exact ⟨by kernel_rfl, rfl⟩
set_option maxRecDepth 100000 in
theorem vjS (w : World) : Calls Tryz.prog 161 #[.int .u32 2097151] w fun e w' => e = .returned (.int .i64 21) ∧ w = w' := by
 go_enter Tryz.func161, Tryz.ntmps161
 go_wp2_with fail
 go_ret
 exact ⟨by kernel_rfl, rfl⟩
set_option maxRecDepth 100000 in
theorem vjT (w : World) : Calls Tryz.prog 161 #[.int .u32 4194303] w fun e w' => e = .returned (.int .i64 22) ∧ w = w' := by
 go_enter Tryz.func161, Tryz.ntmps161
 go_wp2_with fail
 go_ret
 exact ⟨by kernel_rfl, rfl⟩
set_option maxRecDepth 100000 in
theorem vjU (w : World) : Calls Tryz.prog 161 #[.int .u32 8388607] w fun e w' => e = .returned (.int .i64 23) ∧ w = w' := by
 go_enter Tryz.func161, Tryz.ntmps161
 go_wp2_with fail
 go_ret
 exact ⟨by kernel_rfl, rfl⟩
set_option maxRecDepth 100000 in
theorem vjV (w : World) : Calls Tryz.prog 161 #[.int .u32 16777215] w fun e w' => e = .returned (.int .i64 24) ∧ w = w' := by
 go_enter Tryz.func161, Tryz.ntmps161
 go_wp2_with fail
 go_ret
 exact ⟨by kernel_rfl, rfl⟩
set_option maxRecDepth 100000 in
theorem vjW (w : World) : Calls Tryz.prog 161 #[.int .u32 33554431] w fun e w' => e = .returned (.int .i64 25) ∧ w = w' := by
 go_enter Tryz.func161, Tryz.ntmps161
 go_wp2_with fail
 go_ret
 exact ⟨by kernel_rfl, rfl⟩
set_option maxRecDepth 100000 in
theorem vjX (w : World) : Calls Tryz.prog 161 #[.int .u32 67108863] w fun e w' => e = .returned (.int .i64 26) ∧ w = w' := by
 go_enter Tryz.func161, Tryz.ntmps161
 go_wp2_with fail
 go_ret
 exact ⟨by kernel_rfl, rfl⟩
set_option maxRecDepth 100000 in
theorem vjY (w : World) : Calls Tryz.prog 161 #[.int .u32 134217727] w fun e w' => e = .returned (.int .i64 27) ∧ w = w' := by
 go_enter Tryz.func161, Tryz.ntmps161
 go_wp2_with fail
 go_ret
 exact ⟨by kernel_rfl, rfl⟩
set_option maxRecDepth 100000 in
theorem vjZ (w : World) : Calls Tryz.prog 161 #[.int .u32 268435455] w fun e w' => e = .returned (.int .i64 28) ∧ w = w' := by
 go_enter Tryz.func161, Tryz.ntmps161
 go_wp2_with fail
 go_ret
 exact ⟨by kernel_rfl, rfl⟩
set_option maxRecDepth 100000 in
theorem vka (w : World) : Calls Tryz.prog 161 #[.int .u32 536870911] w fun e w' => e = .returned (.int .i64 29) ∧ w = w' := by
 go_enter Tryz.func161, Tryz.ntmps161
 go_wp2_with fail
 go_ret
 exact ⟨by kernel_rfl, rfl⟩
set_option maxRecDepth 100000 in
theorem vkb (w : World) : Calls Tryz.prog 161 #[.int .u32 1073741823] w fun e w' => e = .returned (.int .i64 30) ∧ w = w' := by
 go_enter Tryz.func161, Tryz.ntmps161
 go_wp2_with fail
 go_ret
 exact ⟨by kernel_rfl, rfl⟩
set_option maxRecDepth 100000 in
theorem vkc (w : World) : Calls Tryz.prog 161 #[.int .u32 2147483647] w fun e w' => e = .returned (.int .i64 31) ∧ w = w' := by
 go_enter Tryz.func161, Tryz.ntmps161
 go_wp2_with fail
 go_ret
 exact ⟨by kernel_rfl, rfl⟩
set_option maxRecDepth 100000 in
theorem vkd (w : World) : Calls Tryz.prog 161 #[.int .u32 4294967295] w fun e w' => e = .returned (.int .i64 32) ∧ w = w' := by
 go_enter Tryz.func161, Tryz.ntmps161
 go_wp2_with fail
 go_ret
 exact ⟨by kernel_rfl, rfl⟩
theorem vmn (x : Nat) (hx : x < 4294967296) : bits .xor .u32 IntKind.u32.max (x : Int) = ((4294967295 - x : Nat) : Int) := by
 have h1 : (BitVec.ofInt 32 (x : Int)).toNat = x := by
  rw [BitVec.ofInt_natCast, BitVec.toNat_ofNat]; exact Nat.mod_eq_of_lt (by omega)
 have h2 : BitVec.ofInt 32 IntKind.u32.max = BitVec.allOnes 32 := by decide
 show IntKind.u32.wrap ((BitVec.ofInt 32 IntKind.u32.max ^^^ BitVec.ofInt 32 (x : Int)).toNat : Int) = _
 rw [h2, BitVec.allOnes_xor, BitVec.toNat_not, h1]
 show ((2 ^ 32 - 1 - x : Nat) : Int) % 4294967296 = _
 omega
theorem vke (n : Nat) (h : n ≤ 32) : (4294967295 : Int) - (maskN n : Int) = ((2 ^ (32 - n) - 1 : Nat) : Int) := by
 have h1 := vcc n
 have h2 : 0 < 2 ^ (32 - n) := Nat.two_pow_pos _
 unfold maskN
 omega
theorem vhQ (m : Nat) (w : World) (h : m ≤ 32) : Calls Tryz.prog 161 #[.int .u32 ((2 ^ m - 1 : Nat) : Int)] w fun e w' => e = .returned (.int .i64 m) ∧ w = w' := by
 have hm : m = 0 ∨ m = 1 ∨ m = 2 ∨ m = 3 ∨ m = 4 ∨ m = 5 ∨ m = 6 ∨ m = 7 ∨ m = 8 ∨ m = 9 ∨ m = 10 ∨ m = 11 ∨ m = 12 ∨ m = 13 ∨ m = 14 ∨ m = 15 ∨ m = 16 ∨ m = 17 ∨ m = 18 ∨ m = 19 ∨ m = 20 ∨ m = 21 ∨ m = 22 ∨ m = 23 ∨ m = 24 ∨ m = 25 ∨ m = 26 ∨ m = 27 ∨ m = 28 ∨ m = 29 ∨ m = 30 ∨ m = 31 ∨ m = 32 := by omega
 rcases hm with rfl | rfl | rfl | rfl | rfl | rfl | rfl | rfl | rfl | rfl | rfl | rfl | rfl | rfl | rfl | rfl | rfl | rfl | rfl | rfl | rfl | rfl | rfl | rfl | rfl | rfl | rfl | rfl | rfl | rfl | rfl | rfl | rfl
 ·exact vmd w
 ·exact vme w
 ·exact vmf w
 ·exact vmg w
 ·exact vmh w
 ·exact vmi w
 ·exact vmj w
 ·exact vmk w
 ·exact vml w
 ·exact vmm w
 ·exact vjH w
 ·exact vjI w
 ·exact vjJ w
 ·exact vjK w
 ·exact vjL w
 ·exact vjM w
 ·exact vjN w
 ·exact vjO w
 ·exact vjP w
 ·exact vjQ w
 ·exact vjR w
 ·exact vjS w
 ·exact vjT w
 ·exact vjU w
 ·exact vjV w
 ·exact vjW w
 ·exact vjX w
 ·exact vjY w
 ·exact vjZ w
 ·exact vka w
 ·exact vkb w
 ·exact vkc w
 ·exact vkd w
theorem vhR (n : Nat) (w : World) (h1 : n ≤ 32) :
  Calls Tryz.prog 168 #[.int .i64 n] w fun e w' => e = .returned (.tuple #[.int .u32 (maskN n), .int .i64 0]) ∧ w = w' := by
 have d0 : decide ((n : Int) < 0) = false := by simp
 have d1 : decide ((32 : Int) < (n : Int)) = false := by simp; omega
 go_enter Tryz.func168, Tryz.ntmps168
 go_wp2_with fail
 refine van 0 rfl ?_
 go_wp2_with fail
 refine (vdW n _ h1).mono ?_
 rintro e w' ⟨rfl, rfl⟩
 go_wp2_with fail
 refine vaW ?_
 go_ret2
 exact ⟨rfl, rfl⟩
theorem vns (y m : Nat) (w : World) (hm : m ≤ 32) (h : Calls Tryz.prog 161 #[.int .u32 (y : Int)] w fun e w' => e = .returned (.int .i64 m) ∧ w = w') :
  Calls Tryz.prog 213 #[.int .u32 (y : Int)] w fun e w' => e = .returned (.int .i64 (32 - (m : Int))) ∧ w = w' := by
 have H := Lib.hid h; clear h
 go_enter Tryz.func213, Tryz.ntmps213
 go_wp2_with fail
 refine H.out.mono ?_
 rintro e w' ⟨rfl, rfl⟩
 go_wp2_with fail
 go_ret
 exact ⟨rfl, rfl⟩
theorem vnt (n : Nat) (w : World) (h1 : n ≤ 32) :
  Calls Tryz.prog 200 #[.int .u32 (maskN n)] w fun e w' => e = .returned (.tuple #[.int .i64 n, .int .i64 0]) ∧ w = w' := by
 have hx := vke n h1
 have hlt := vfW n
 have hxor := vmn (maskN n) hlt
 have e2 : 4294967295 - maskN n = 2 ^ (32 - n) - 1 := by omega
 rw [e2] at hxor
 have Hm := Lib.hid (vhR n)
 have Hlz := Lib.hid (fun w => vhQ (32 - n) w (by omega))
 obtain ⟨y, hy⟩ : ∃ y, 2 ^ (32 - n) - 1 = y := ⟨_, rfl⟩
 obtain ⟨x, hxx⟩ : ∃ x, maskN n = x := ⟨_, rfl⟩
 rw [hy, hxx] at hxor
 rw [hxx] at Hm hlt
 rw [hy] at Hlz
 have hyb : y < 4294967296 := by have := vcc n; omega
 obtain ⟨m, hm⟩ : ∃ m, 32 - n = m := ⟨_, rfl⟩
 rw [hm] at Hlz
 have hm2 : (32 : Int) - (m : Int) = (n : Int) := by omega
 have Hm2 := Lib.hid hm2
 have hmb : m ≤ 32 := by omega
 rw [hxx]
 clear hx e2 hy hxx hm hm2
 have hne : ((x : Int) != (x : Int)) = false := by simp
 have Hxor := Lib.hid hxor; clear hxor
 go_enter Tryz.func200, Tryz.ntmps200
 go_wp2_with fail
 refine van 0 rfl ?_
 go_wp2_with fail
 rw [Hxor.out]
 refine (vns y m _ hmb (Hlz.out _)).mono ?_
 rintro e w' ⟨rfl, rfl⟩
 rw [Hm2.out]
 go_wp2_with fail
 refine (Hm.out _ h1).mono ?_
 rintro e w' ⟨rfl, rfl⟩
 go_wp2_with fail
 refine vaW ?_
 go_ret2
 exact ⟨rfl, rfl⟩
end

end Go.Proofs.YtffckpkikdlbpaaGreatDoor
