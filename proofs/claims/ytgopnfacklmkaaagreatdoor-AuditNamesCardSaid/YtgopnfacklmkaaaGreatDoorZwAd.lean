/- Lemmas and contracts for the theorem of this claim: VPfB, VGen, VKdA, VKdB, VLen. -/
import Derived.Test.YtgopnfacklmkaaaGreatDoorZwAc
import Derived.BigFrameIn
import Derived.BigGuardIn
import Derived.TacticsIn
import Derived.TacticsInMore
import Derived.Deep.Cut
import Derived.OwnWalkIn
import Derived.Deep.RegionHeld3
import Derived.Deep.LoopGhost
import Derived.Deep.DeepCutAuto
import Derived.RegionTactic
set_option linter.all false
set_option maxHeartbeats 16000000
namespace Go.Proofs.YtgopnfacklmkaaaGreatDoor
section
open Go.RowKit
structure PI where
 a : Nat
 l : Int
def PI.enc (p : PI) : List Value := [.int .u32 p.a, .int .i64 p.l]
def PI.okB (p : PI) : Bool := decide (0 ≤ p.l ∧ p.l ≤ 32 ∧ cut p.a p.l.toNat = p.a)
theorem PI.len (p : PI) : p.enc.length = 2 := rfl
def PI.pn (p : PI) : Pn := ⟨p.a, p.l.toNat⟩
theorem pn_ok {p : PI} (h : p.okB = true) (ha : p.a < 4294967296) : p.pn.ok ∧ p.l = (p.pn.l : Int) := by
 have := of_decide_eq_true h
 exact ⟨⟨ha, by simp [PI.pn]; omega, this.2.2⟩, by simp [PI.pn]; omega⟩
theorem pi_at {w : World} {A : Option Addr} {ps : List PI} (h : Rd w 2 PI.enc A ps) {k : Nat} (hk : k < ps.length) :
  ∃ b off : Nat, A = some ⟨b, off, none⟩ ∧ w.cell? ⟨b, off + k * 2, none⟩ = some (.int .u32 ps[k].a) ∧ w.cell? ⟨b, off + k * 2 + 1, none⟩ = some (.int .i64 ps[k].l) := by
 obtain ⟨b, off, e, hc⟩ := h k hk
 exact ⟨b, off, e, hc 0 _ rfl, hc 1 _ rfl⟩
theorem vbJ {a n : Nat} (ha : a < 4294967296) (hn : n ≤ 32) : (bits .andNot .u32 (a : Int) (maskN n : Int) != 0) = !decide (cut a n = a) := by
 rw [veJ a _ ha (vcV n), vdT ha hn]
 have := vky a n
 by_cases h : cut a n = a
 ·simp [h]
 ·simp [h]; omega
set_option maxRecDepth 100000 in
theorem vfM (A : Option Addr) (c : Nat) (ps : List PI) (w : World) (hR : Rd w 2 PI.enc A ps) (hn : ps.length ≤ 1000000) (ha : ∀ k (hk : k < ps.length), ps[k].a < 4294967296) :
  Calls Tryz.prog 294 #[.slice A ps.length c] w fun e w' => e = .returned (.bool (ps.all PI.okB)) ∧ Kp w w' := by
 have Ha := Lib.hid ha; clear ha
 go_enter Tryz.func294, Tryz.ntmps294
 go_wp2_with fail
 go_loopw [7] (fun i wr => ∃ k : Nat, k ≤ ps.length ∧ i = .int .i64 k ∧ Hid (∀ j (hj : j < ps.length), j < k → ps[j].okB = true) ∧ Kp w wr) (fun i _ => ps.length - (intOf i).toNat)
 case atStart => exact ⟨0, Nat.zero_le _, rfl, fun _ _ h => absurd h (by omega), Kp.refl _⟩
 case round =>
  obtain ⟨k, hk, rfl, hall, hK⟩ := hrel
  by_cases hlt : k < ps.length
  ·obtain ⟨b, off, rfl, c0, c1⟩ := pi_at (hR.keep hK) hlt
   have hak := Ha.out k hlt
   have hno : ps[k].okB = false → ps.all PI.okB = false := fun h => by rw [List.all_eq_false]; exact ⟨ps[k], List.getElem_mem hlt, by simp [h]⟩
   have Hno := Lib.hid hno; clear hno
   obtain ⟨W, hW, kW, B0⟩ : ∃ W, wr.alloc (.cells #[.int .u32 ps[k].a, .int .i64 ps[k].l] 39) = W ∧ Kp w W ∧ Blk W wr.heap.size 39 #[.int .u32 ps[k].a, .int .i64 ps[k].l] := ⟨_, rfl, hK.alloc _, Blk.new wr _ _⟩
   obtain ⟨p0, p1⟩ := Blk.v2 B0 (.int .u32 ps[k].a) (.int .i64 ps[k].l) rfl
   by_cases h0 : ps[k].l < 0
   ·have H := Lib.hid (Hno.out (by simp [PI.okB]; omega))
    have d0 : decide (ps[k].l < 0) = true := by simpa using h0
    clear h0
    go_wp2_with fail
    go_quiet (fail)
    go_wp2_with fail
    go_ret
    exact ⟨by rw [H.out]; rfl, kW.drewN _⟩
   ·have d0 : decide (ps[k].l < 0) = false := by simpa using h0
    by_cases h1 : 32 < ps[k].l
    ·have H := Lib.hid (Hno.out (by simp [PI.okB]; omega))
     have d1 : decide (32 < ps[k].l) = true := by simpa using h1
     clear h0 h1
     go_wp2_with fail
     go_quiet (fail)
     go_wp2_with fail
     go_ret
     exact ⟨by rw [H.out]; rfl, kW.drewN _⟩
    ·have d1 : decide (32 < ps[k].l) = false := by simpa using h1
     obtain ⟨n, hnl⟩ := Int.eq_ofNat_of_zero_le (show 0 ≤ ps[k].l by omega)
     have hn32 : n ≤ 32 := by omega
     have hz := vbJ hak hn32
     have Hl := Lib.hid hnl
     rw [hnl] at c1 p1 d0 d1 hW
     clear h0 h1 hnl
     by_cases hc : cut ps[k].a n = ps[k].a
     ·have hok := Lib.hid (show ps[k].okB = true by simp only [PI.okB, Hl.out, Int.toNat_natCast, decide_eq_true_eq]; exact ⟨by omega, by omega, hc⟩)
      rw [show (!decide (cut ps[k].a n = ps[k].a)) = false by simp [hc]] at hz
      clear hc
      go_wp2_with fail
      go_region_held3 (fun w' => w'.cell? ⟨wr.heap.size, 0, none⟩ = some (.int .u32 ps[k].a) ∧ w'.cell? ⟨wr.heap.size, 1, none⟩ = some (.int .i64 n)) (go_keep)
       (first | (go_at_call 293; refine (vcW _ _ hn32).mono ?_; rintro e w' ⟨rfl, rfl⟩))
      go_wp2_with fail
      go_roundw
      case rel =>
       refine ⟨k + 1, by omega, by go_num, fun j hj hjk => ?_, kW.drew⟩
       by_cases hj' : j < k
       ·exact hall.out j hj hj'
       ·obtain rfl : j = k := by omega
        exact hok.out
      case measure => simp [intOf]; omega
     ·have H := Lib.hid (Hno.out (by simp only [PI.okB, Hl.out, Int.toNat_natCast, decide_eq_false_iff_not]; rintro ⟨_, _, h⟩; exact hc h))
      rw [show (!decide (cut ps[k].a n = ps[k].a)) = true by simp [hc]] at hz
      clear hc
      go_wp2_with fail
      go_region_held3 (fun w' => w'.cell? ⟨wr.heap.size, 0, none⟩ = some (.int .u32 ps[k].a) ∧ w'.cell? ⟨wr.heap.size, 1, none⟩ = some (.int .i64 n)) (go_keep)
       (first | (go_at_call 293; refine (vcW _ _ hn32).mono ?_; rintro e w' ⟨rfl, rfl⟩))
      go_wp2_with fail
      go_ret
      exact ⟨by rw [H.out]; rfl, kW.drew⟩
  ·obtain rfl : k = ps.length := by omega
   have H := Lib.hid (show ps.all PI.okB = true by
    rw [List.all_eq_true]; intro x hx
    obtain ⟨j, hj, rfl⟩ := List.getElem_of_mem hx
    exact hall.out j hj hj)
   clear hall
   go_wp2_with fail
   go_ret
   exact ⟨by rw [H.out]; rfl, hK⟩
def checkP (p : PI) : Int := if p.okB then 0 else 2
set_option maxRecDepth 100000 in
theorem vaN (p : PI) (w : World) (ha : p.a < 4294967296) :
  Calls Tryz.prog 230 #[.agg #[.int .u32 p.a, .int .i64 p.l]] w fun e w' => e = .returned (.int .i64 (checkP p)) ∧ Kp w w' := by
 have hrd : Rd ((w.alloc (.cells #[.int .u32 p.a, .int .i64 p.l] 39)).alloc (.cells #[.int .u32 p.a, .int .i64 p.l] 39)) 2 PI.enc (some ⟨w.heap.size + 1, 0, none⟩) [p] := Rd.of_blk (Blk.new1 w _ _ _) (by omega) PI.len (by unfold maxLen; simp) rfl
 have Hrd := Lib.hid hrd; clear hrd
 go_enter Tryz.func230, Tryz.ntmps230
 go_wp2_with fail
 refine vab 0 rfl ?_
 go_wp2_with fail
 refine (vfM _ 1 [p] _ Hrd.out (by simp) (fun k hk => by simp at hk; subst hk; exact ha)).mono ?_
 rintro e w1 ⟨rfl, hK1⟩
 have hk1 : Kp w w1 := (((Kp.refl _).alloc _).alloc _).trans hK1
 rw [show [p].all PI.okB = p.okB by simp]
 cases hok : p.okB with
 | true =>
  have H := Lib.hid (show checkP p = 0 by simp [checkP, hok]); clear hok
  go_wp2_with fail
  refine vas ?_
  go_ret
  exact ⟨by rw [H.out]; rfl, hk1⟩
 | false =>
  have H := Lib.hid (show checkP p = 2 by simp [checkP, hok]); clear hok
  go_wp2_with fail
  go_step3
  refine ⟨rfl, ?_⟩
  go_wp2_with fail
  refine vbv ?_
  go_ret
  exact ⟨by rw [H.out]; rfl, hk1⟩
end

section
theorem vcX (fn : Fn) (first cap : Array Value) (w : World) : (Instr.makeFunc fn first cap).run Tryz.prog w = .ok (.func fn first cap) w := rfl
end

section
open Go.RowKit
def kindAB : Nat → Nat → Bool
 | 0, a => decide (a = 0)
 | 1, a => decide (a / 16777216 = 0)
 | 2, a => decide (a / 16777216 = 127)
 | 3, a => decide (224 ≤ a / 16777216) && decide (a / 16777216 ≤ 239)
 | 4, a => decide (240 ≤ a / 16777216)
 | _, _ => true
def kindAd (a : Nat) : Nat := if a = 0 then 1 else if a / 16777216 = 0 then 2 else if a / 16777216 = 127 then 3 else if 224 ≤ a / 16777216 ∧ a / 16777216 ≤ 239 then 4 else if 240 ≤ a / 16777216 then 5 else 6
theorem viW {a k : Nat} (hk : k < 6) (h : ∀ j, j < k → kindAB j a = false) (h1 : kindAB k a = true) : kindAd a = k + 1 := by
 have hk2 : k = 0 ∨ k = 1 ∨ k = 2 ∨ k = 3 ∨ k = 4 ∨ k = 5 := by omega
 unfold kindAd
 rcases hk2 with rfl | rfl | rfl | rfl | rfl | rfl
 ·simp [kindAB] at h1; simp [h1]
 all_goals
  have g0 := h 0 (by omega)
  simp only [kindAB, decide_eq_false_iff_not] at g0
  rw [if_neg g0]
 ·simp [kindAB] at h1; rw [if_pos (by omega)]
 all_goals
  have g1 := h 1 (by omega)
  simp only [kindAB, decide_eq_false_iff_not] at g1
  rw [if_neg g1]
 ·simp [kindAB] at h1; rw [if_pos h1]
 all_goals
  have g2 := h 2 (by omega)
  simp only [kindAB, decide_eq_false_iff_not] at g2
  rw [if_neg g2]
 ·simp [kindAB] at h1; rw [if_pos h1]
 all_goals
  have g3 := h 3 (by omega)
  simp [kindAB] at g3
  rw [if_neg (by omega)]
 ·simp [kindAB] at h1; rw [if_pos h1]
 ·have g4 := h 4 (by omega)
  simp [kindAB] at g4
  rw [if_neg (by omega)]
theorem idx4 (x y z u : Value) (w : World) : (Instr.index 437 (.agg #[x, y, z, u]) (.int .i64 0)).run Tryz.prog w = .ok x w := by kernel_rfl
def PartsPost (m : Nat) (w : World) (e : Ending) (w' : World) : Prop := ∃ y z u : Int, e = .returned (.agg #[.int .u8 m, .int .u8 y, .int .u8 z, .int .u8 u]) ∧ Kp w w'
set_option maxRecDepth 100000 in
theorem vfN (a m : Nat) (w : World) (ha : a < 4294967296) (hm : a / 16777216 = m) : Calls Tryz.prog 317 #[.int .u32 a] w (PartsPost m w) := by
 have Hm := Lib.hid hm; clear hm
 go_enter Tryz.func317, Tryz.ntmps317
 go_wp2_with fail
 all_goals first
  | omega
  | exact bodyPost_ret (v := .agg #[.int .u8 ((a : Int) / 16777216), .int .u8 ((a : Int) / 65536 % 256), .int .u8 ((a : Int) / 256 % 256), .int .u8 ((a : Int) % 256)]) (by simp [results, Tryz.results317, go_sem]) rfl ⟨_, _, _, by rw [← Hm.out]; rfl, (Kp.refl _).alloc _⟩
set_option maxRecDepth 100000 in
theorem vaE (a m : Nat) (w : World) (ha : a < 4294967296) (hm : a / 16777216 = m) :
  Calls Tryz.prog 316 #[.int .u32 a] w fun e w' => e = .returned (.int .u8 m) ∧ Kp w w' := by
 have h4 := idx4
 have Hm := Lib.hid hm; clear hm
 go_enter Tryz.func316, Tryz.ntmps316
 go_wp2_with fail
 refine (vfN a m _ ha Hm.out).mono ?_
 rintro e w' ⟨y, z, u, rfl, hK⟩
 go_wp2_with fail
 go_ret
 exact ⟨rfl, hK⟩
theorem viX (a : Nat) (w : World) : Calls Tryz.prog 318 #[.int .u32 a] w fun e w' => e = .returned (.bool (kindAB 0 a)) ∧ Kp w w' := by
 have H := Lib.hid (show kindAB 0 a = ((a : Int) == 0) by simp only [kindAB]; rw [Bool.eq_iff_iff]; simp)
 go_enter Tryz.func318, Tryz.ntmps318
 go_wp2_with fail
 go_ret
 exact ⟨by rw [H.out]; rfl, Kp.refl _⟩
theorem viY (a : Nat) (w : World) : Calls Tryz.prog 323 #[.int .u32 a] w fun e w' => e = .returned (.bool (kindAB 5 a)) ∧ Kp w w' := by
 go_enter Tryz.func323, Tryz.ntmps323
 go_wp2_with fail
 go_ret
 exact ⟨rfl, Kp.refl _⟩
set_option maxRecDepth 100000 in
theorem viZ (a c : Nat) (w : World) (ha : a < 4294967296) (hc : Blk w c 439 #[.func (.func 316) #[] #[]]) : Calls Tryz.prog 319 #[.int .u32 a, .pointer (some ⟨c, 0, none⟩)] w fun e w' => e = .returned (.bool (kindAB 1 a)) ∧ Kp w w' := by
 have c0 : w.cell? ⟨c, 0, none⟩ = some (.func (.func 316) #[] #[]) := hc.cell 0
 obtain ⟨m, hm⟩ : ∃ m, a / 16777216 = m := ⟨_, rfl⟩
 have H := Lib.hid (show kindAB 1 a = ((m : Int) == 0) by simp only [kindAB, hm]; rw [Bool.eq_iff_iff]; simp <;> omega)
 have Hm := Lib.hid hm; clear hm
 go_enter Tryz.func319, Tryz.ntmps319
 go_wp2_with fail
 refine (vaE a m _ ha Hm.out).mono ?_
 rintro e w' ⟨rfl, hK⟩
 go_wp2_with fail
 go_ret
 exact ⟨by rw [H.out]; rfl, hK⟩
set_option maxRecDepth 100000 in
theorem vja (a c : Nat) (w : World) (ha : a < 4294967296) (hc : Blk w c 439 #[.func (.func 316) #[] #[]]) : Calls Tryz.prog 320 #[.int .u32 a, .pointer (some ⟨c, 0, none⟩)] w fun e w' => e = .returned (.bool (kindAB 2 a)) ∧ Kp w w' := by
 have c0 : w.cell? ⟨c, 0, none⟩ = some (.func (.func 316) #[] #[]) := hc.cell 0
 obtain ⟨m, hm⟩ : ∃ m, a / 16777216 = m := ⟨_, rfl⟩
 have H := Lib.hid (show kindAB 2 a = ((m : Int) == 127) by simp only [kindAB, hm]; rw [Bool.eq_iff_iff]; simp <;> omega)
 have Hm := Lib.hid hm; clear hm
 go_enter Tryz.func320, Tryz.ntmps320
 go_wp2_with fail
 refine (vaE a m _ ha Hm.out).mono ?_
 rintro e w' ⟨rfl, hK⟩
 go_wp2_with fail
 go_ret
 exact ⟨by rw [H.out]; rfl, hK⟩
set_option maxRecDepth 100000 in
theorem vjb (a c : Nat) (w : World) (ha : a < 4294967296) (hc : Blk w c 439 #[.func (.func 316) #[] #[]]) : Calls Tryz.prog 322 #[.int .u32 a, .pointer (some ⟨c, 0, none⟩)] w fun e w' => e = .returned (.bool (kindAB 4 a)) ∧ Kp w w' := by
 have c0 : w.cell? ⟨c, 0, none⟩ = some (.func (.func 316) #[] #[]) := hc.cell 0
 obtain ⟨m, hm⟩ : ∃ m, a / 16777216 = m := ⟨_, rfl⟩
 have H := Lib.hid (show kindAB 4 a = decide ((240 : Int) ≤ (m : Int)) by simp only [kindAB, hm]; rw [Bool.eq_iff_iff]; simp <;> omega)
 have Hm := Lib.hid hm; clear hm
 go_enter Tryz.func322, Tryz.ntmps322
 go_wp2_with fail
 refine (vaE a m _ ha Hm.out).mono ?_
 rintro e w' ⟨rfl, hK⟩
 go_wp2_with fail
 go_ret
 exact ⟨by rw [H.out]; rfl, hK⟩
set_option maxRecDepth 100000 in
theorem vjc (a c : Nat) (w : World) (ha : a < 4294967296) (hc : Blk w c 439 #[.func (.func 316) #[] #[]]) : Calls Tryz.prog 321 #[.int .u32 a, .pointer (some ⟨c, 0, none⟩)] w fun e w' => e = .returned (.bool (kindAB 3 a)) ∧ Kp w w' := by
 have c0 : w.cell? ⟨c, 0, none⟩ = some (.func (.func 316) #[] #[]) := hc.cell 0
 have Hc := Lib.hid hc; clear hc
 obtain ⟨m, hm⟩ : ∃ m, a / 16777216 = m := ⟨_, rfl⟩
 have H := Lib.hid (show kindAB 3 a = (decide (224 ≤ m) && decide (m ≤ 239)) by simp only [kindAB, hm])
 have Hm := Lib.hid hm; clear hm
 by_cases h : 224 ≤ m
 ·have hd : decide ((224 : Int) ≤ (m : Int)) = true := by simp; omega
  have hd2 : decide (224 ≤ m) = true := by simpa using h
  have hk := Lib.hid (show kindAB 3 a = decide ((m : Int) ≤ 239) by rw [H.out, hd2, Bool.true_and, Bool.eq_iff_iff]; simp; omega)
  have Hh := Lib.hid h; clear h
  go_enter Tryz.func321, Tryz.ntmps321
  go_wp2_with fail
  refine (vaE a m _ ha Hm.out).mono ?_
  rintro e w1 ⟨rfl, hK⟩
  have c1 : w1.cell? ⟨c, 0, none⟩ = some (.func (.func 316) #[] #[]) := hK.cell c0
  go_wp2_with fail
  refine (vaE a m _ ha Hm.out).mono ?_
  rintro e w2 ⟨rfl, hK2⟩
  go_wp2_with fail
  go_ret
  exact ⟨by rw [hk.out]; rfl, hK.trans hK2⟩
 ·have hd : decide ((224 : Int) ≤ (m : Int)) = false := by simp; omega
  have hd2 : decide (224 ≤ m) = false := by simpa using h
  have hk := Lib.hid (show kindAB 3 a = false by rw [H.out, hd2, Bool.false_and])
  have Hh := Lib.hid h; clear h
  go_enter Tryz.func321, Tryz.ntmps321
  go_wp2_with fail
  refine (vaE a m _ ha Hm.out).mono ?_
  rintro e w1 ⟨rfl, hK⟩
  go_wp2_with fail
  go_ret
  exact ⟨by rw [hk.out]; rfl, hK⟩
def kindCells (c : Nat) : Array Value := #[.int .i64 1, .func (.func 318) #[] #[], .int .i64 2, .func (.func 319) #[] #[.pointer (some ⟨c, 0, none⟩)], .int .i64 3, .func (.func 320) #[] #[.pointer (some ⟨c, 0, none⟩)], .int .i64 4, .func (.func 321) #[] #[.pointer (some ⟨c, 0, none⟩)], .int .i64 5, .func (.func 322) #[] #[.pointer (some ⟨c, 0, none⟩)], .int .i64 6, .func (.func 323) #[] #[]]
theorem vcY (w : World) : Calls Tryz.prog 299 #[] w fun e w' => e = .returned (.slice (some ⟨w.heap.size + 1, 0, none⟩) 6 6) ∧ Blk w' w.heap.size 439 #[.func (.func 316) #[] #[]] ∧ Blk w' (w.heap.size + 1) 417 (kindCells w.heap.size) ∧ Kp w w' := by
 have hmf := vcX
 go_enter Tryz.func299, Tryz.ntmps299
 go_wp2_with fail
 go_ret
 exact ⟨rfl, (Blk.new w _ _).alloc _, Blk.new1 w _ _ _, ((Kp.refl _).alloc _).alloc _⟩
set_option maxRecDepth 100000 in
theorem vcD (a : Nat) (w : World) (ha : a < 4294967296) : Calls Tryz.prog 257 #[.int .u32 a] w fun e w' => e = .returned (.int .i64 (kindAd a)) ∧ Kp w w' := by
 have Hat := Lib.hid (fun k (hk : k < 6) => viW (a := a) hk)
 go_enter Tryz.func257, Tryz.ntmps257
 go_wp2_with fail
 refine (vcY _).mono ?_
 rintro e w1 ⟨rfl, hC, hR, hK1⟩
 go_wp2_with fail
 go_loopw [7] (fun i wr => ∃ k : Nat, k ≤ 5 ∧ i = .int .i64 k ∧ Hid (∀ j, j < k → kindAB j a = false) ∧ Kp w1 wr) (fun i _ => 6 - (intOf i).toNat)
 case atStart => exact ⟨0, by omega, rfl, fun _ h => absurd h (by omega), Kp.refl _⟩
 case round =>
  obtain ⟨k, hk, rfl, hall, hK⟩ := hrel
  have C := hC.keep hK
  have R := hR.keep hK
  have kw := hK1.trans hK
  have hk2 : k = 0 ∨ k = 1 ∨ k = 2 ∨ k = 3 ∨ k = 4 ∨ k = 5 := by omega
  rcases hk2 with rfl | rfl | rfl | rfl | rfl | rfl
  ·obtain ⟨c0, c1⟩ := Blk.v2 R (.int .i64 1) (.func (.func 318) #[] #[]) rfl
   have B := Blk.new wr 417 #[.int .i64 1, .func (.func 318) #[] #[]]
   go_wp2_with fail
   refine (viX a _).mono ?_
   rintro e w2 ⟨rfl, hK2⟩
   have B2 := B.keep hK2
   have k2 : Kp w1 w2 := (hK.alloc _).trans hK2
   have d0 : w2.cell? ⟨wr.heap.size, 0, none⟩ = some (.int .i64 1) := B2.cell 0
   cases hb : kindAB 0 a with
   | true =>
    have H := Lib.hid (Hat.out 0 (by omega) hall.out hb)
    clear hb
    go_wp2_with fail
    go_ret
    exact ⟨by rw [H.out]; rfl, hK1.trans k2⟩
   | false =>
    have Hb := Lib.hid hb; clear hb
    go_wp2_with fail
    go_roundw
    case rel =>
     refine ⟨1, by omega, by go_num, fun j hj => ?_, k2⟩
     by_cases e : j = 0
     ·subst e; exact Hb.out
     ·exact hall.out j (by omega)
    case measure => simp [intOf] <;> omega
  ·obtain ⟨-, -, c0, c1⟩ := Blk.v4 R _ _ (.int .i64 2) (.func (.func 319) #[] #[.pointer (some ⟨w.heap.size, 0, none⟩)]) rfl
   have B := Blk.new wr 417 #[.int .i64 2, .func (.func 319) #[] #[.pointer (some ⟨w.heap.size, 0, none⟩)]]
   go_wp2_with fail
   refine (viZ a w.heap.size _ ha (C.alloc _)).mono ?_
   rintro e w2 ⟨rfl, hK2⟩
   have B2 := B.keep hK2
   have k2 : Kp w1 w2 := (hK.alloc _).trans hK2
   have d0 : w2.cell? ⟨wr.heap.size, 0, none⟩ = some (.int .i64 2) := B2.cell 0
   cases hb : kindAB 1 a with
   | true =>
    have H := Lib.hid (Hat.out 1 (by omega) hall.out hb)
    clear hb
    go_wp2_with fail
    go_ret
    exact ⟨by rw [H.out]; rfl, hK1.trans k2⟩
   | false =>
    have Hb := Lib.hid hb; clear hb
    go_wp2_with fail
    go_roundw
    case rel =>
     refine ⟨2, by omega, by go_num, fun j hj => ?_, k2⟩
     by_cases e : j = 1
     ·subst e; exact Hb.out
     ·exact hall.out j (by omega)
    case measure => simp [intOf] <;> omega
  ·obtain ⟨-, -, -, -, c0, c1⟩ := Blk.v6 R _ _ _ _ (.int .i64 3) (.func (.func 320) #[] #[.pointer (some ⟨w.heap.size, 0, none⟩)]) rfl
   have B := Blk.new wr 417 #[.int .i64 3, .func (.func 320) #[] #[.pointer (some ⟨w.heap.size, 0, none⟩)]]
   go_wp2_with fail
   refine (vja a w.heap.size _ ha (C.alloc _)).mono ?_
   rintro e w2 ⟨rfl, hK2⟩
   have B2 := B.keep hK2
   have k2 : Kp w1 w2 := (hK.alloc _).trans hK2
   have d0 : w2.cell? ⟨wr.heap.size, 0, none⟩ = some (.int .i64 3) := B2.cell 0
   cases hb : kindAB 2 a with
   | true =>
    have H := Lib.hid (Hat.out 2 (by omega) hall.out hb)
    clear hb
    go_wp2_with fail
    go_ret
    exact ⟨by rw [H.out]; rfl, hK1.trans k2⟩
   | false =>
    have Hb := Lib.hid hb; clear hb
    go_wp2_with fail
    go_roundw
    case rel =>
     refine ⟨3, by omega, by go_num, fun j hj => ?_, k2⟩
     by_cases e : j = 2
     ·subst e; exact Hb.out
     ·exact hall.out j (by omega)
    case measure => simp [intOf] <;> omega
  ·obtain ⟨-, -, -, -, -, -, c0, c1⟩ := Blk.v8 R _ _ _ _ _ _ (.int .i64 4) (.func (.func 321) #[] #[.pointer (some ⟨w.heap.size, 0, none⟩)]) rfl
   have B := Blk.new wr 417 #[.int .i64 4, .func (.func 321) #[] #[.pointer (some ⟨w.heap.size, 0, none⟩)]]
   go_wp2_with fail
   refine (vjc a w.heap.size _ ha (C.alloc _)).mono ?_
   rintro e w2 ⟨rfl, hK2⟩
   have B2 := B.keep hK2
   have k2 : Kp w1 w2 := (hK.alloc _).trans hK2
   have d0 : w2.cell? ⟨wr.heap.size, 0, none⟩ = some (.int .i64 4) := B2.cell 0
   cases hb : kindAB 3 a with
   | true =>
    have H := Lib.hid (Hat.out 3 (by omega) hall.out hb)
    clear hb
    go_wp2_with fail
    go_ret
    exact ⟨by rw [H.out]; rfl, hK1.trans k2⟩
   | false =>
    have Hb := Lib.hid hb; clear hb
    go_wp2_with fail
    go_roundw
    case rel =>
     refine ⟨4, by omega, by go_num, fun j hj => ?_, k2⟩
     by_cases e : j = 3
     ·subst e; exact Hb.out
     ·exact hall.out j (by omega)
    case measure => simp [intOf] <;> omega
  ·obtain ⟨-, -, -, -, -, -, -, -, c0, c1⟩ := Blk.p10 R
   have B := Blk.new wr 417 #[.int .i64 5, .func (.func 322) #[] #[.pointer (some ⟨w.heap.size, 0, none⟩)]]
   go_wp2_with fail
   refine (vjb a w.heap.size _ ha (C.alloc _)).mono ?_
   rintro e w2 ⟨rfl, hK2⟩
   have B2 := B.keep hK2
   have k2 : Kp w1 w2 := (hK.alloc _).trans hK2
   have d0 : w2.cell? ⟨wr.heap.size, 0, none⟩ = some (.int .i64 5) := B2.cell 0
   cases hb : kindAB 4 a with
   | true =>
    have H := Lib.hid (Hat.out 4 (by omega) hall.out hb)
    clear hb
    go_wp2_with fail
    go_ret
    exact ⟨by rw [H.out]; rfl, hK1.trans k2⟩
   | false =>
    have Hb := Lib.hid hb; clear hb
    go_wp2_with fail
    go_roundw
    case rel =>
     refine ⟨5, by omega, by go_num, fun j hj => ?_, k2⟩
     by_cases e : j = 4
     ·subst e; exact Hb.out
     ·exact hall.out j (by omega)
    case measure => simp [intOf] <;> omega
  ·obtain ⟨-, -, -, -, -, -, -, -, -, -, c0, c1⟩ := Blk.v12 R _ _ _ _ _ _ _ _ _ _ (.int .i64 6) (.func (.func 323) #[] #[]) rfl
   have B := Blk.new wr 417 #[.int .i64 6, .func (.func 323) #[] #[]]
   go_wp2_with fail
   refine (viY a _).mono ?_
   rintro e w2 ⟨rfl, hK2⟩
   have B2 := B.keep hK2
   have k2 : Kp w1 w2 := (hK.alloc _).trans hK2
   have d0 : w2.cell? ⟨wr.heap.size, 0, none⟩ = some (.int .i64 6) := B2.cell 0
   cases hb : kindAB 5 a with
   | true =>
    have H := Lib.hid (Hat.out 5 (by omega) hall.out hb)
    clear hb
    go_wp2_with fail
    go_ret
    exact ⟨by rw [H.out]; rfl, hK1.trans k2⟩
   | false => cases hb
def len8 (t : Nat) : Nat := if t < 1 then 0 else if t < 2 then 1 else if t < 4 then 2 else if t < 8 then 3 else if t < 16 then 4 else if t < 32 then 5 else if t < 64 then 6 else if t < 128 then 7 else 8
def len32 (x : Nat) : Nat := if 65536 ≤ x then (if 256 ≤ x / 65536 then 24 + len8 (x / 65536 / 256) else 16 + len8 (x / 65536)) else if 256 ≤ x then 8 + len8 (x / 256) else len8 x
theorem vbx (t : Nat) : len8 t ≤ 8 := by
 unfold len8
 repeat' split
 all_goals omega
theorem vhs (x : Nat) : len32 x ≤ 32 := by
 have h1 := vbx (x / 65536 / 256)
 have h2 := vbx (x / 65536)
 have h3 := vbx (x / 256)
 have h4 := vbx x
 unfold len32
 repeat' (split)
 all_goals omega
theorem vfO {m : Nat} (h : m ≤ 32) : len32 (2 ^ m - 1) = m := by
 have H : ∀ m : Fin 33, len32 (2 ^ m.val - 1) = m.val := by decide +kernel
 exact H ⟨m, by omega⟩
def lenM (m : Nat) : Nat := 32 - len32 (4294967295 - m)
theorem vjd (m : Nat) : lenM m ≤ 32 := by unfold lenM; omega
theorem vfP {n : Nat} (h : n ≤ 32) : lenM (maskN n) = n := by
 have h1 := vbO n
 have h2 : 0 < 2 ^ (32 - n) := Nat.two_pow_pos _
 have e : 4294967295 - maskN n = 2 ^ (32 - n) - 1 := by unfold maskN; omega
 unfold lenM
 rw [e, vfO (by omega)]
 omega
def isM (m : Nat) : Bool := maskN (lenM m) == m
theorem vht {n : Nat} (h : n ≤ 32) : isM (maskN n) = true := by unfold isM; rw [vfP h]; simp
abbrev tab8 : ByteArray := { data := (([0, 1, 2, 2, 3, 3, 3, 3, 4, 4, 4, 4, 4, 4, 4, 4, 5, 5, 5, 5, 5, 5, 5, 5, 5, 5, 5, 5, 5, 5, 5, 5, 6, 6, 6, 6, 6, 6, 6, 6, 6, 6, 6, 6, 6, 6, 6, 6, 6, 6, 6, 6, 6, 6, 6, 6, 6, 6, 6, 6, 6, 6, 6, 6].append [7, 7, 7, 7, 7, 7, 7, 7, 7, 7, 7, 7, 7, 7, 7, 7, 7, 7, 7, 7, 7, 7, 7, 7, 7, 7, 7, 7, 7, 7, 7, 7, 7, 7, 7, 7, 7, 7, 7, 7, 7, 7, 7, 7, 7, 7, 7, 7, 7, 7, 7, 7, 7, 7, 7, 7, 7, 7, 7, 7, 7, 7, 7, 7]).append ([8, 8, 8, 8, 8, 8, 8, 8, 8, 8, 8, 8, 8, 8, 8, 8, 8, 8, 8, 8, 8, 8, 8, 8, 8, 8, 8, 8, 8, 8, 8, 8, 8, 8, 8, 8, 8, 8, 8, 8, 8, 8, 8, 8, 8, 8, 8, 8, 8, 8, 8, 8, 8, 8, 8, 8, 8, 8, 8, 8, 8, 8, 8, 8].append [8, 8, 8, 8, 8, 8, 8, 8, 8, 8, 8, 8, 8, 8, 8, 8, 8, 8, 8, 8, 8, 8, 8, 8, 8, 8, 8, 8, 8, 8, 8, 8, 8, 8, 8, 8, 8, 8, 8, 8, 8, 8, 8, 8, 8, 8, 8, 8, 8, 8, 8, 8, 8, 8, 8, 8, 8, 8, 8, 8, 8, 8, 8, 8])).toArray }
theorem vcc : tab8.size = 256 := by decide +kernel
theorem vfQ {t : Nat} (h : t < tab8.size) : (tab8[t]'h).toNat = len8 t := by
 have e : ∀ t : Fin 256, (tab8.data.toList.getD t.val 0).toNat = len8 t.val := by decide +kernel
 have e3 : tab8[t]'h = tab8.data.toList.getD t 0 := by
  show tab8.data[t]'_ = _
  rw [List.getD_eq_getElem?_getD, List.getElem?_eq_getElem (by rw [Array.length_toList]; exact h), Option.getD_some, Array.getElem_toList]
 rw [e3, e ⟨t, by rw [← vcc]; exact h⟩]
theorem vdU {n t k : Nat} (h : t < 256) (hn : n ≤ 24) (hk : n + len8 t = k) : Ending.returned (.int .i64 (wrap64 ((n : Int) + wrap64 ((tab8[t]'(by rw [vcc]; exact h)).toNat : Int)))) = .returned (.int .i64 (k : Int)) := by
 have hl := vbx t
 rw [vfQ, IntWalk.wrap64_in (len8 t : Int) ⟨by omega, by omega⟩, IntWalk.wrap64_in _ ⟨by omega, by omega⟩, ← hk]
 rfl
theorem vhu {t k : Nat} (h : t < 256) (hk : len8 t = k) : Ending.returned (.int .i64 (wrap64 (wrap64 ((tab8[t]'(by rw [vcc]; exact h)).toNat : Int)))) = .returned (.int .i64 (k : Int)) := by
 have hl := vbx t
 rw [vfQ, IntWalk.wrap64_in (len8 t : Int) ⟨by omega, by omega⟩, IntWalk.wrap64_in _ ⟨by omega, by omega⟩, ← hk]
set_option maxRecDepth 100000 in
theorem vfR (x : Nat) (w : World) (hx : x < 4294967296) : Calls Tryz.prog 273 #[.int .u32 (x : Int)] w fun e w' => e = .returned (.int .i64 (len32 x : Int)) ∧ w = w' := by
 by_cases h1 : 65536 ≤ x
 ·have d1 : decide ((65536 : Int) ≤ (x : Int)) = true := by simp; omega
  have q1 : (x : Int) / 65536 = ((x / 65536 : Nat) : Int) := by omega
  obtain ⟨y, hy⟩ : ∃ y, x / 65536 = y := ⟨_, rfl⟩
  have hyb : y < 65536 := by omega
  rw [hy] at q1
  by_cases h2 : 256 ≤ y
  ·have d2 : decide ((256 : Int) ≤ (y : Int)) = true := by simp; omega
   have q2 : (y : Int) / 256 = ((y / 256 : Nat) : Int) := by omega
   obtain ⟨t, ht⟩ : ∃ t, y / 256 = t := ⟨_, rfl⟩
   have H : Hid (24 + len8 t = len32 x) := Lib.hid (by unfold len32; rw [if_pos h1, hy, if_pos h2, ht])
   have hl : t < 256 := by omega
   rw [ht] at q2
   go_enter Tryz.func273, Tryz.ntmps273
   go_wp2_with fail
   go_ret
   exact ⟨vdU hl (by decide) H.out, rfl⟩
  ·have d2 : decide ((256 : Int) ≤ (y : Int)) = false := by simp; omega
   have H : Hid (16 + len8 y = len32 x) := Lib.hid (by unfold len32; rw [if_pos h1, hy, if_neg h2])
   have hl : y < 256 := by omega
   go_enter Tryz.func273, Tryz.ntmps273
   go_wp2_with fail
   go_ret
   exact ⟨vdU hl (by decide) H.out, rfl⟩
 ·have d1 : decide ((65536 : Int) ≤ (x : Int)) = false := by simp; omega
  by_cases h2 : 256 ≤ x
  ·have d2 : decide ((256 : Int) ≤ (x : Int)) = true := by simp; omega
   have q2 : (x : Int) / 256 = ((x / 256 : Nat) : Int) := by omega
   obtain ⟨t, ht⟩ : ∃ t, x / 256 = t := ⟨_, rfl⟩
   have H : Hid (8 + len8 t = len32 x) := Lib.hid (by unfold len32; rw [if_neg h1, if_pos h2, ht])
   have hl : t < 256 := by omega
   rw [ht] at q2
   go_enter Tryz.func273, Tryz.ntmps273
   go_wp2_with fail
   go_ret
   exact ⟨vdU hl (by decide) H.out, rfl⟩
  ·have d2 : decide ((256 : Int) ≤ (x : Int)) = false := by simp; omega
   have H : Hid (len8 x = len32 x) := Lib.hid (by unfold len32; rw [if_neg h1, if_neg h2])
   have hl : x < 256 := by omega
   go_enter Tryz.func273, Tryz.ntmps273
   go_wp2_with fail
   go_ret
   exact ⟨vhu hl H.out, rfl⟩
theorem vje (x : Nat) (hx : x < 4294967296) : bits .xor .u32 IntKind.u32.max (x : Int) = ((4294967295 - x : Nat) : Int) := by
 have h1 : (BitVec.ofInt 32 (x : Int)).toNat = x := by
  rw [BitVec.ofInt_natCast, BitVec.toNat_ofNat]; exact Nat.mod_eq_of_lt (by omega)
 have h2 : BitVec.ofInt 32 IntKind.u32.max = BitVec.allOnes 32 := by decide
 show IntKind.u32.wrap ((BitVec.ofInt 32 IntKind.u32.max ^^^ BitVec.ofInt 32 (x : Int)).toNat : Int) = _
 rw [h2, BitVec.allOnes_xor, BitVec.toNat_not, h1]
 show ((2 ^ 32 - 1 - x : Nat) : Int) % 4294967296 = _
 omega
theorem vdV (n : Nat) (w : World) (h1 : n ≤ 32) :
  Calls Tryz.prog 229 #[.int .i64 n] w fun e w' => e = .returned (.tuple #[.int .u32 (maskN n), .int .i64 0]) ∧ w = w' := by
 have d0 : decide ((n : Int) < 0) = false := by simp
 have d1 : decide ((32 : Int) < (n : Int)) = false := by simp; omega
 go_enter Tryz.func229, Tryz.ntmps229
 go_wp2_with fail
 refine vab 0 rfl ?_
 go_wp2_with fail
 refine (vcW n _ h1).mono ?_
 rintro e w' ⟨rfl, rfl⟩
 go_wp2_with fail
 refine vas ?_
 go_ret2
 exact ⟨rfl, rfl⟩
theorem viH (y m : Nat) (w : World) (hy : y < 4294967296) (hm : len32 y = m) : Calls Tryz.prog 228 #[.int .u32 (y : Int)] w fun e w' => e = .returned (.int .i64 ((32 - m : Nat) : Int)) ∧ w = w' := by
 have hl : m ≤ 32 := by rw [← hm]; exact vhs y
 have H : Hid (wrap64 (32 - (m : Int)) = ((32 - m : Nat) : Int)) := Lib.hid (by rw [IntWalk.wrap64_in _ ⟨by omega, by omega⟩]; omega)
 have HM := Lib.hid hm
 clear hm
 go_enter Tryz.func228, Tryz.ntmps228
 go_wp2_with fail
 refine (vfR y _ hy).mono ?_
 rintro e w' ⟨rfl, rfl⟩
 rw [HM.out]
 go_wp2_with fail
 go_ret
 exact ⟨by simp; omega, rfl⟩
def lenV (m : Nat) : Value := .tuple #[.int .i64 (if isM m then (lenM m : Int) else 0), .int .i64 (if isM m then 0 else 120)]
theorem vcZ (m : Nat) (w : World) (hm : m < 4294967296) : Calls Tryz.prog 161 #[.int .u32 (m : Int)] w fun e w' => e = .returned (lenV m) ∧ w = w' := by
 have Hx := Lib.hid (vje m hm)
 obtain ⟨y, hy⟩ : ∃ y, 4294967295 - m = y := ⟨_, rfl⟩
 rw [hy] at Hx
 have hyb : y < 4294967296 := by omega
 obtain ⟨L, hL⟩ : ∃ L, lenM m = L := ⟨_, rfl⟩
 have hL2 : 32 - len32 y = L := by rw [← hL, ← hy]; rfl
 have hl : L ≤ 32 := by omega
 have hml := vcV L
 cases hi : isM m with
 | true =>
  have e : maskN L = m := by unfold isM at hi; rw [hL] at hi; simpa using hi
  have HL := Lib.hid hL2
  have HV : Hid (lenV m = .tuple #[.int .i64 (L : Int), .int .i64 0]) := Lib.hid (by unfold lenV; rw [hi, hL]; rfl)
  have hne : ((m : Int) != (m : Int)) = false := by simp
  clear hi hL hL2 hy
  go_enter Tryz.func161, Tryz.ntmps161
  go_wp2_with fail
  refine vab 0 rfl ?_
  go_wp2_with fail
  rw [Hx.out]
  refine (viH y _ _ hyb rfl).mono ?_
  rintro e w' ⟨rfl, rfl⟩
  rw [HL.out]
  go_wp2_with fail
  refine (vdV L _ hl).mono ?_
  rintro e w' ⟨rfl, rfl⟩
  rw [e]
  go_wp2_with fail
  refine vas ?_
  go_ret2
  exact ⟨by rw [HV.out]; rfl, rfl⟩
 | false =>
  have e : maskN L ≠ m := by unfold isM at hi; rw [hL] at hi; simpa using hi
  have HL := Lib.hid hL2
  have HV : Hid (lenV m = .tuple #[.int .i64 0, .int .i64 120]) := Lib.hid (by unfold lenV; rw [hi]; rfl)
  have hne : ((maskN L : Int) != (m : Int)) = true := by simp; omega
  clear hi hL hL2 hy
  go_enter Tryz.func161, Tryz.ntmps161
  go_wp2_with fail
  refine vab 0 rfl ?_
  go_wp2_with fail
  rw [Hx.out]
  refine (viH y _ _ hyb rfl).mono ?_
  rintro e w' ⟨rfl, rfl⟩
  rw [HL.out]
  go_wp2_with fail
  refine (vdV L _ hl).mono ?_
  rintro e w' ⟨rfl, rfl⟩
  go_wp2_with fail
  refine wp_goto ?_
  refine And.intro rfl ?_
  go_wp2_with fail
  refine vbv ?_
  go_ret2
  exact ⟨by rw [HV.out]; rfl, rfl⟩
end

end Go.Proofs.YtgopnfacklmkaaaGreatDoor
