/- Lemmas and contracts for the theorem of this claim: VWhy, OfG, EnB, OctC, EnC. -/
import Derived.Test.YtgopnfacklmkaaaGreatDoorZwAd
set_option linter.all false
set_option maxHeartbeats 16000000
namespace Go.Proofs.YtgopnfacklmkaaaGreatDoor
section
open Go.RowKit
def enC (e : En) : Array Value := #[.int .i64 e.f, .int .i64 e.t, .int .u32 (e.a : Int), .int .u32 (e.m : Int), .int .u32 (e.n : Int), .int .u32 (e.k : Int)]
abbrev enV (e : En) : Value := .agg #[.int .i64 e.f, .int .i64 e.t, .int .u32 (e.a : Int), .int .u32 (e.m : Int), .int .u32 (e.n : Int), .int .u32 (e.k : Int)]
def badK (a m : Nat) : Bool := if kindAd a = 6 then false else if kindAd a = 1 then ((m : Int) != 0) else true
def rulB (e : En) : Nat → Bool
 | 0 => e.f != 2
 | 1 => !isM e.m
 | 2 => bits .andNot .u32 (e.a : Int) (e.m : Int) != 0
 | 3 => badK e.a e.m
 | 4 => (e.n : Int) != 0
 | _ => decide ((e.k : Int) < 1) || decide ((16 : Int) < (e.k : Int))
def whyE (e : En) : Int := if rulB e 0 then 1 else if rulB e 1 then 2 else if rulB e 2 then 3 else if rulB e 3 then 4 else if rulB e 4 then 5 else if rulB e 5 then 6 else 0
theorem vjf {e : En} {k : Nat} (hk : k < 6) (h : ∀ j, j < k → rulB e j = false) (h1 : rulB e k = true) : whyE e = ((k + 1 : Nat) : Int) := by
 have hc : k = 0 ∨ k = 1 ∨ k = 2 ∨ k = 3 ∨ k = 4 ∨ k = 5 := by omega
 unfold whyE
 rcases hc with rfl | rfl | rfl | rfl | rfl | rfl
 ·simp [h1]
 ·simp [h1, h 0]
 ·simp [h1, h 0, h 1]
 ·simp [h1, h 0, h 1, h 2]
 ·simp [h1, h 0, h 1, h 2, h 3]
 ·simp [h1, h 0, h 1, h 2, h 3, h 4]
theorem vjg {e : En} (h : ∀ j, j < 6 → rulB e j = false) : whyE e = 0 := by
 unfold whyE
 simp [h 0, h 1, h 2, h 3, h 4, h 5]
theorem vdW (a : Nat) : 1 ≤ kindAd a ∧ kindAd a ≤ 6 := by unfold kindAd; split <;> (try split) <;> (try split) <;> (try split) <;> (try split) <;> omega
set_option maxRecDepth 100000 in
theorem vjh (e : En) (w : World) : Calls Tryz.prog 287 #[enV e] w fun r w' => r = .returned (.bool (rulB e 0)) ∧ Kp w w' := by
 go_enter Tryz.func287, Tryz.ntmps287
 go_wp2_with fail
 go_ret
 exact ⟨rfl, (Kp.refl _).alloc _⟩
set_option maxRecDepth 100000 in
theorem vji (e : En) (w : World) (hm : e.m < 4294967296) : Calls Tryz.prog 288 #[enV e] w fun r w' => r = .returned (.bool (rulB e 1)) ∧ Kp w w' := by
 have H : Hid (rulB e 1 = !isM e.m) := Lib.hid rfl
 cases hi : isM e.m with
 | true =>
  have HV : Hid (lenV e.m = .tuple #[.int .i64 (lenM e.m : Int), .int .i64 0]) := Lib.hid (by unfold lenV; rw [hi]; rfl)
  rw [hi] at H
  clear hi
  go_enter Tryz.func288, Tryz.ntmps288
  go_wp2_with fail
  refine (vcZ e.m _ hm).mono ?_
  rw [HV.out]
  rintro r w' ⟨rfl, rfl⟩
  go_wp2_with fail
  go_ret
  exact ⟨by rw [H.out]; rfl, (Kp.refl _).alloc _⟩
 | false =>
  have HV : Hid (lenV e.m = .tuple #[.int .i64 0, .int .i64 120]) := Lib.hid (by unfold lenV; rw [hi]; rfl)
  rw [hi] at H
  clear hi
  go_enter Tryz.func288, Tryz.ntmps288
  go_wp2_with fail
  refine (vcZ e.m _ hm).mono ?_
  rw [HV.out]
  rintro r w' ⟨rfl, rfl⟩
  go_wp2_with fail
  go_ret
  exact ⟨by rw [H.out]; rfl, (Kp.refl _).alloc _⟩
set_option maxRecDepth 100000 in
theorem vjj (e : En) (w : World) : Calls Tryz.prog 289 #[enV e] w fun r w' => r = .returned (.bool (rulB e 2)) ∧ Kp w w' := by
 go_enter Tryz.func289, Tryz.ntmps289
 go_wp2_with fail
 go_ret
 exact ⟨rfl, (Kp.refl _).alloc _⟩
set_option maxRecDepth 100000 in
theorem vjk (e : En) (w : World) : Calls Tryz.prog 291 #[enV e] w fun r w' => r = .returned (.bool (rulB e 4)) ∧ Kp w w' := by
 go_enter Tryz.func291, Tryz.ntmps291
 go_wp2_with fail
 go_ret
 exact ⟨rfl, (Kp.refl _).alloc _⟩
set_option maxRecDepth 100000 in
theorem vjl (e : En) (w : World) : Calls Tryz.prog 292 #[enV e] w fun r w' => r = .returned (.bool (rulB e 5)) ∧ Kp w w' := by
 cases h : decide ((e.k : Int) < 1) with
 | true =>
  have H : Hid (rulB e 5 = true) := Lib.hid (by show (decide ((e.k : Int) < 1) || _) = true; rw [h]; rfl)
  go_enter Tryz.func292, Tryz.ntmps292
  go_wp2_with fail
  go_ret
  exact ⟨by rw [H.out]; rfl, (Kp.refl _).alloc _⟩
 | false =>
  have H : Hid (rulB e 5 = decide ((16 : Int) < (e.k : Int))) := Lib.hid (by show (decide ((e.k : Int) < 1) || _) = _; rw [h]; rfl)
  go_enter Tryz.func292, Tryz.ntmps292
  go_wp2_with fail
  go_ret
  exact ⟨by rw [H.out]; rfl, (Kp.refl _).alloc _⟩
set_option maxRecDepth 100000 in
theorem vjm (e : En) (w : World) (ha : e.a < 4294967296) : Calls Tryz.prog 290 #[enV e] w fun r w' => r = .returned (.bool (rulB e 3)) ∧ Kp w w' := by
 obtain ⟨K, hK⟩ : ∃ K, kindAd e.a = K := ⟨_, rfl⟩
 have hr := vdW e.a
 rw [hK] at hr
 have H : Hid (rulB e 3 = if K = 6 then false else if K = 1 then ((e.m : Int) != 0) else true) := Lib.hid (by rw [← hK]; rfl)
 have HK := Lib.hid hK
 clear hK
 obtain ⟨W, hW, kW, B0⟩ := Blk.al1 (w := w) rfl (enC e) 66
 unfold enC at hW B0
 have c2 : W.cell? ⟨w.heap.size, 2, none⟩ = some (.int .u32 (e.a : Int)) := B0.cell 2
 go_enter Tryz.func290, Tryz.ntmps290
 go_wp2_with fail
 refine (vcD e.a _ ha).mono ?_
 rintro r w1 ⟨rfl, hK1⟩
 have k1 := kW.trans hK1
 have B1 := B0.keep hK1
 have d3 : w1.cell? ⟨w.heap.size, 3, none⟩ = some (.int .u32 (e.m : Int)) := B1.cell 3
 rw [HK.out]
 clear hW c2
 have hk6 : K = 1 ∨ K = 2 ∨ K = 3 ∨ K = 4 ∨ K = 5 ∨ K = 6 := by omega
 rcases hk6 with rfl | rfl | rfl | rfl | rfl | rfl
 all_goals
  go_wp2_with fail
  go_ret
  exact ⟨by rw [H.out]; rfl, k1⟩
def ruF : Nat → FuncId
 | 0 => 287
 | 1 => 288
 | 2 => 289
 | 3 => 290
 | 4 => 291
 | _ => 292
theorem vjn (e : En) (hw : e.wf) : ∀ k, k < 6 → ∀ w, Calls Tryz.prog (ruF k) #[enV e] w fun r w' => r = .returned (.bool (rulB e k)) ∧ Kp w w'
 | 0, _ => vjh e
 | 1, _ => fun w => vji e w hw.2.1
 | 2, _ => vjj e
 | 3, _ => fun w => vjm e w hw.1
 | 4, _ => vjk e
 | 5, _ => vjl e
 | k + 6, h => by omega
def whyCells : Array Value := #[.int .i64 1, .func (.func 287) #[] #[], .int .i64 2, .func (.func 288) #[] #[], .int .i64 3, .func (.func 289) #[] #[], .int .i64 4, .func (.func 290) #[] #[], .int .i64 5, .func (.func 291) #[] #[], .int .i64 6, .func (.func 292) #[] #[]]
theorem vcd : ∀ k, k < 6 → whyCells[k * 2]? = some (.int .i64 ((k + 1 : Nat) : Int)) ∧ whyCells[k * 2 + 1]? = some (.func (.func (ruF k)) #[] #[])
 | 0, _ => ⟨rfl, rfl⟩
 | 1, _ => ⟨rfl, rfl⟩
 | 2, _ => ⟨rfl, rfl⟩
 | 3, _ => ⟨rfl, rfl⟩
 | 4, _ => ⟨rfl, rfl⟩
 | 5, _ => ⟨rfl, rfl⟩
 | k + 6, h => by omega
theorem vhv : ∀ k, k < 6 → ∀ (args : Array Value) (w : World), (callFunc (ruF k) args).run Tryz.prog w = .ok (.enter (ruF k) args) w
 | 0, _ => fun _ _ => by kernel_rfl
 | 1, _ => fun _ _ => by kernel_rfl
 | 2, _ => fun _ _ => by kernel_rfl
 | 3, _ => fun _ _ => by kernel_rfl
 | 4, _ => fun _ _ => by kernel_rfl
 | 5, _ => fun _ _ => by kernel_rfl
 | k + 6, h => by omega
theorem vfS (w : World) : Calls Tryz.prog 227 #[] w fun e w' => e = .returned (.slice (some ⟨w.heap.size, 0, none⟩) 6 6) ∧ Blk w' w.heap.size 355 whyCells ∧ Kp w w' := by
 go_enter Tryz.func227, Tryz.ntmps227
 go_wp2_with fail
 go_ret
 exact ⟨rfl, Blk.new w _ _, (Kp.refl _).alloc _⟩
set_option maxRecDepth 100000 in
theorem vbP (e : En) (w : World) (hw : e.wf) : Calls Tryz.prog 160 #[enV e] w fun r w' => r = .returned (.int .i64 (whyE e)) ∧ Kp w w' := by
 have HW := Lib.hid hw
 clear hw
 obtain ⟨W, hW, kW, B0⟩ := Blk.al1 (w := w) rfl (enC e) 66
 unfold enC at hW B0
 go_enter Tryz.func160, Tryz.ntmps160
 go_wp2_with fail
 clear hW
 refine (vfS _).mono ?_
 obtain ⟨g, hg⟩ : ∃ g, W.heap.size = g := ⟨_, rfl⟩
 rw [hg]
 rintro r w1 ⟨rfl, hR, hK1⟩
 have hB := B0.keep hK1
 have hk1 : Kp w w1 := kW.trans hK1
 clear hK1 B0 kW hg
 go_wp2_with fail
 go_loopw [7] (fun i wr => ∃ k : Nat, k ≤ 6 ∧ i = .int .i64 k ∧ Hid (∀ j, j < k → rulB e j = false) ∧ Kp w1 wr) (fun i _ => 6 - (intOf i).toNat)
 case atStart => exact ⟨0, by omega, rfl, fun j h => absurd h (by omega), Kp.refl _⟩
 case round =>
  obtain ⟨k, hk, rfl, hall, hK⟩ := hrel
  have R := hR.keep hK
  have u := Blk.f (hB.keep hK) rfl
  have kw := hk1.trans hK
  have hlt := (hB.keep hK).lt
  by_cases hk6 : k < 6
  ·have hki : (k : Int) < 6 := by omega
   have hk0 : (0 : Int) ≤ (k : Int) := by omega
   have c0 : wr.cell? ⟨g, k * 2, none⟩ = some (.int .i64 ((k + 1 : Nat) : Int)) := by rw [R.cell]; exact (vcd k hk6).1
   have c1 : wr.cell? ⟨g, k * 2 + 1, none⟩ = some (.func (.func (ruF k)) #[] #[]) := by rw [R.cell]; exact (vcd k hk6).2
   have hc := vhv k hk6
   obtain ⟨fk, hfk⟩ : ∃ fk, ruF k = fk := ⟨_, rfl⟩
   have HC := Lib.hid (vjn e HW.out k hk6)
   rw [hfk] at c1 hc HC
   obtain ⟨n, hn⟩ : ∃ n : Int, ((k + 1 : Nat) : Int) = n := ⟨_, rfl⟩
   rw [hn] at c0
   have HN := Lib.hid hn
   have D := Blk.new wr 355 #[.int .i64 n, .func (.func fk) #[] #[]]
   clear hfk hn
   go_wp2_with fail
   refine (HC.out _).mono ?_
   rintro r w2 ⟨rfl, hK2⟩
   have D2 := D.keep hK2
   have k2 : Kp w1 w2 := (hK.alloc _).trans hK2
   have d0 : w2.cell? ⟨wr.heap.size, 0, none⟩ = some (.int .i64 n) := D2.cell 0
   cases hb : rulB e k with
   | true =>
    have H : Hid (whyE e = n) := Lib.hid ((vjf hk6 hall.out hb).trans HN.out)
    clear hb
    go_wp2_with fail
    go_ret
    exact ⟨by rw [H.out]; rfl, hk1.trans k2⟩
   | false =>
    have H : Hid (∀ j, j < k + 1 → rulB e j = false) := Lib.hid (fun j hj => by
     by_cases hjk : j < k
     ·exact hall.out j hjk
     ·obtain rfl : j = k := by omega
      exact hb)
    clear hb
    go_wp2_with fail
    go_roundw
    case rel => exact ⟨k + 1, by omega, by go_num, H, k2⟩
    case measure => simp [intOf] <;> omega
  ·obtain rfl : k = 6 := by omega
   have H := Lib.hid (vjg hall.out)
   clear hall
   go_wp2_with fail
   go_ret
   exact ⟨by rw [H.out]; rfl, kw⟩
def badKind (a n : Nat) : Bool := if kindAd a = 6 then false else if kindAd a = 1 then decide (n ≠ 0) else true
theorem vjo (n : Nat) (h : n ≤ 32) : ((maskN n : Int) != 0) = decide (n ≠ 0) := by
 have h1 : 2 ^ (32 - n) ≤ 4294967296 := vbO n
 by_cases e : n = 0
 ·subst e; decide
 ·have : 2 ^ (32 - n) < 2 ^ 32 := Nat.pow_lt_pow_right (by omega) (by omega)
  have h3 : maskN n ≠ 0 := by unfold maskN; omega
  simp [e, h3]
theorem vfT (a : Nat) {n : Nat} (h : n ≤ 32) : badK a (maskN n) = badKind a n := by unfold badK badKind; rw [vjo n h]
def enSet (w : World) (g : Nat) (e : En) : World := (((((w.setCell ⟨g, 0, none⟩ (.int .i64 e.f)).setCell ⟨g, 1, none⟩ (.int .i64 e.t)).setCell ⟨g, 2, none⟩ (.int .u32 (e.a : Int))).setCell ⟨g, 3, none⟩ (.int .u32 (e.m : Int))).setCell ⟨g, 4, none⟩ (.int .u32 (e.n : Int))).setCell ⟨g, 5, none⟩ (.int .u32 (e.k : Int))
theorem Blk.putEn {W w : World} {g : Nat} {T : TypeId} {v0 v1 v2 v3 v4 v5 : Value} (h : Blk W g T #[v0, v1, v2, v3, v4, v5]) (e : En) (k : Kp w W) (hg : w.heap.size ≤ g) : ∃ R, enSet W g e = R ∧ Blk R g T (enC e) ∧ Kp w R :=
 ⟨_, rfl, (((((h.set_ 0 (.int .i64 e.f)).set_ 1 (.int .i64 e.t)).set_ 2 (.int .u32 (e.a : Int))).set_ 3 (.int .u32 (e.m : Int))).set_ 4 (.int .u32 (e.n : Int))).set_ 5 (.int .u32 (e.k : Int)), (((((k.setCell (p := ⟨g, 0, none⟩) hg _).setCell (p := ⟨g, 1, none⟩) hg _).setCell (p := ⟨g, 2, none⟩) hg _).setCell (p := ⟨g, 3, none⟩) hg _).setCell (p := ⟨g, 4, none⟩) hg _).setCell (p := ⟨g, 5, none⟩) hg _⟩
theorem Blk.putEn_far {w : World} {g p : Nat} {T : TypeId} {cs : Array Value} (h : Blk w g T cs) (hg : g ≠ p) (e : En) : Blk (enSet w p e) g T cs := (((((h.far (p := ⟨p, 0, none⟩) hg _).far (p := ⟨p, 1, none⟩) hg _).far (p := ⟨p, 2, none⟩) hg _).far (p := ⟨p, 3, none⟩) hg _).far (p := ⟨p, 4, none⟩) hg _).far (p := ⟨p, 5, none⟩) hg _
def zeroE : En := ⟨0, 0, 0, 0, 0, 0⟩
def zeroEC : Array Value := #[.int .i64 0, .int .i64 0, .int .u32 0, .int .u32 0, .int .u32 0, .int .u32 0]
def goodP (p : PI) : Bool := p.okB && !badK p.a (maskN p.l.toNat)
def oneE (p : PI) (m : Int) : En := ⟨2, 0, p.a, maskN p.l.toNat, 0, m.toNat⟩
def ofN (p : PI) (m : Int) : Int := if goodP p && (decide (1 ≤ m) && decide (m ≤ 16)) then 0 else 2
def ofE (p : PI) (m : Int) : En := if ofN p m = 0 then oneE p m else zeroE
def OfG (p : PI) (m : Int) (w : World) (e : Ending) (w' : World) : Prop := e = .returned (.tuple #[enV (ofE p m), .int .i64 (ofN p m)]) ∧ Kp w w'
theorem vhw {p : PI} {m : Int} (ha : p.a < 4294967296) (hok : p.okB = true) (h1 : 1 ≤ m) (h2 : m ≤ 16) : whyE (oneE p m) = if badK p.a (maskN p.l.toNat) then 4 else 0 := by
 obtain ⟨hpk, hpl⟩ := pn_ok hok ha
 have hn : p.l.toNat ≤ 32 := hpk.2.1
 have hc : cut p.a p.l.toNat = p.a := hpk.2.2
 have r0 : rulB (oneE p m) 0 = false := rfl
 have r1 : rulB (oneE p m) 1 = false := by
  show (!isM (maskN p.l.toNat)) = false
  rw [vht hn]
  rfl
 have r2 : rulB (oneE p m) 2 = false := by
  show (bits .andNot .u32 (p.a : Int) (maskN p.l.toNat : Int) != 0) = false
  rw [vbJ ha hn, hc]
  simp
 have r3 : rulB (oneE p m) 3 = badK p.a (maskN p.l.toNat) := rfl
 have r4 : rulB (oneE p m) 4 = false := rfl
 have r5 : rulB (oneE p m) 5 = false := by
  show (decide (((m.toNat : Nat) : Int) < 1) || decide ((16 : Int) < ((m.toNat : Nat) : Int))) = false
  rw [decide_eq_false (by omega), decide_eq_false (by omega)]
  rfl
 unfold whyE
 rw [r0, r1, r2, r3, r4, r5]
 simp
theorem ven {p : PI} {m : Int} (h : ofN p m = 2) : ofE p m = zeroE := by unfold ofE; rw [h]; rfl
theorem vjp {p : PI} {m : Int} (h : ofN p m = 0) : ofE p m = oneE p m := by unfold ofE; rw [if_pos h]
set_option maxRecDepth 100000 in
theorem of_g (p : PI) (m : Int) (w : World) (ha : p.a < 4294967296) : Calls Tryz.prog 163 #[.agg #[.int .u32 (p.a : Int), .int .i64 p.l], .int .i64 m] w (OfG p m w) := by
 obtain ⟨b, hb⟩ : ∃ b, w.heap.size = b := ⟨_, rfl⟩
 obtain ⟨W, hW, kW, B0, B1⟩ := Blk.al2 hb #[.int .u32 (p.a : Int), .int .i64 p.l] 39 zeroEC 66
 unfold zeroEC at hW
 have p0 := Blk.f B0 rfl
 by_cases hr : p.okB = true ∧ 1 ≤ m ∧ m ≤ 16
 ·obtain ⟨hok, h1, h2⟩ := hr
  obtain ⟨k, rfl⟩ := Int.eq_ofNat_of_zero_le (show 0 ≤ m by omega)
  have Hwhy := Lib.hid (vhw ha hok h1 h2)
  have d1 : decide ((k : Int) < 1) = false := decide_eq_false (by omega)
  have d2 : decide ((16 : Int) < (k : Int)) = false := decide_eq_false (by omega)
  obtain ⟨hpk, hpl⟩ := pn_ok hok ha
  obtain ⟨n, hn⟩ : ∃ n, p.l.toNat = n := ⟨_, rfl⟩
  have Hpl : Hid (p.l = (n : Int)) := Lib.hid (by rw [← hn]; exact hpl)
  have hn32 : n ≤ 32 := by rw [← hn]; exact hpk.2.1
  have Hck := Lib.hid (show checkP p = 0 by simp [checkP, hok])
  have hm : IntKind.u32.wrap (k : Int) = (k : Int) := by show (k : Int) % 4294967296 = _; omega
  have Hone : Hid (oneE p k = ⟨2, 0, p.a, maskN n, 0, k⟩) := Lib.hid (by unfold oneE; rw [hn, Int.toNat_natCast])
  have Hof : Hid (∀ x, badK p.a (maskN p.l.toNat) = x → ofN p k = if x then 2 else 0) := Lib.hid (fun x hx => by
   unfold ofN goodP
   rw [hok, hx, decide_eq_true h1, decide_eq_true h2]
   cases x <;> rfl)
  have Hwf : Hid ((oneE p k).wf) := Lib.hid ⟨ha, vcV _, (by decide : 0 < 4294967296), by show (k : Int).toNat < 4294967296; omega⟩
  have HWY : Hid (∀ w, Calls Tryz.prog 160 #[.agg #[.int .i64 2, .int .i64 0, .int .u32 (p.a : Int), .int .u32 (maskN n : Int), .int .u32 0, .int .u32 (k : Int)]] w fun r w' => r = .returned (.int .i64 (if badK p.a (maskN p.l.toNat) then 4 else 0)) ∧ Kp w w') := Lib.hid (fun w => by
   have := vbP (oneE p k) w Hwf.out
   rw [Hwhy.out, Hone.out] at this
   unfold enV at this
   simp only [Int.natCast_zero] at this
   exact this)
  clear hok h1 h2 hpk hpl
  go_enter Tryz.func163, Tryz.ntmps163
  go_wp2_with fail
  refine (vaN p _ ha).mono ?_
  rintro e w1 ⟨rfl, hK1⟩
  rw [Hck.out]
  have k1 := kW.trans hK1
  have C0 := B0.keep hK1
  have C1 := B1.keep hK1
  clear hW p0
  have p0 : w1.cell? ⟨b, 0, none⟩ = some (.int .u32 (p.a : Int)) := C0.cell 0
  have p1 : w1.cell? ⟨b, 1, none⟩ = some (.int .i64 (n : Int)) := by rw [← Hpl.out]; exact C0.cell 1
  clear hn
  go_wp2_with fail
  refine (vdV n _ hn32).mono ?_
  rintro e w' ⟨rfl, rfl⟩
  obtain ⟨V, hV, kV, D0⟩ := Blk.al1 (w := w1) rfl (enC (oneE p k)) 66
  rw [Hone.out] at hV D0
  unfold enC at hV
  simp only [Int.natCast_zero] at hV
  have d0 := Blk.f (l := [.int .i64 2, .int .i64 0, .int .u32 (p.a : Int), .int .u32 (maskN n : Int), .int .u32 0, .int .u32 (k : Int)]) D0 rfl
  go_wp2_with fail
  refine (HWY.out _).mono ?_
  rintro e w2 ⟨rfl, hK2⟩
  have k2 := k1.trans (kV.trans hK2)
  have E1 := C1.keep (kV.trans hK2)
  have E0 := D0.keep hK2
  clear hV d0 p0 p1
  have z := Blk.frozen E1
  have z0 := Blk.f E1 rfl
  have d0 := Blk.f (l := [.int .i64 2, .int .i64 0, .int .u32 (p.a : Int), .int .u32 (maskN n : Int), .int .u32 0, .int .u32 (k : Int)]) E0 rfl
  cases hbk : badK p.a (maskN p.l.toNat) with
  | true =>
   have HN : Hid (ofN p k = 2) := Lib.hid (Hof.out _ hbk)
   clear hbk
   simp only [if_true]
   obtain ⟨R, hR, BR, kR⟩ := Blk.putEn E1 zeroE k2 (by omega)
   simp only [enSet, zeroE, Int.natCast_zero] at hR
   go_wp2_with fail
   have r := Blk.f BR rfl
   exact bodyPost_ret (v := .tuple #[enV zeroE, .int .i64 2]) (by simp [results, Tryz.results163, go_sem, r, zeroE]) rfl ⟨by rw [ven HN.out, HN.out], kR⟩
  | false =>
   have HN : Hid (ofN p k = 0) := Lib.hid (Hof.out _ hbk)
   clear hbk
   simp only [Bool.false_eq_true, if_false]
   obtain ⟨R, hR, BR, kR⟩ := Blk.putEn E1 (oneE p k) k2 (by omega)
   rw [Hone.out] at hR BR
   simp only [enSet, Int.natCast_zero] at hR
   go_wp2_with fail
   have r := Blk.f BR rfl
   have H1 := Hone.out
   exact bodyPost_ret (v := .tuple #[enV (oneE p k), .int .i64 0]) (by simp [results, Tryz.results163, go_sem, r, H1]) rfl ⟨by rw [vjp HN.out, HN.out], kR⟩
 ·have HN : Hid (ofN p m = 2) := Lib.hid (by
   unfold ofN goodP
   cases hok : p.okB with
   | false => rfl
   | true =>
    cases h1 : decide (1 ≤ m) with
    | false => simp
    | true =>
     cases h2 : decide (m ≤ 16) with
     | false => simp
     | true => exact absurd ⟨hok, of_decide_eq_true h1, of_decide_eq_true h2⟩ hr)
  have z := Blk.frozen B1
  cases hok : p.okB with
  | false =>
   have Hck := Lib.hid (show checkP p = 2 by simp [checkP, hok])
   clear hok hr
   go_enter Tryz.func163, Tryz.ntmps163
   go_wp2_with fail
   refine (vaN p _ ha).mono ?_
   rintro e w1 ⟨rfl, hK1⟩
   rw [Hck.out]
   have C1 := B1.keep hK1
   clear hW p0 z
   have z := Blk.frozen C1
   have z0 := Blk.f C1 rfl
   obtain ⟨R, hR, BR, kR⟩ := Blk.putEn C1 zeroE (kW.trans hK1) (by omega)
   simp only [enSet, zeroE, Int.natCast_zero] at hR
   go_wp2_with fail
   have r := Blk.f BR rfl
   exact bodyPost_ret (v := .tuple #[enV zeroE, .int .i64 2]) (by simp [results, Tryz.results163, go_sem, r, zeroE]) rfl ⟨by rw [ven HN.out, HN.out], kR⟩
  | true =>
   have Hck := Lib.hid (show checkP p = 0 by simp [checkP, hok])
   by_cases h1 : 1 ≤ m
   ·have d1 : decide (m < 1) = false := decide_eq_false (by omega)
    have d2 : decide ((16 : Int) < m) = true := decide_eq_true (by
     apply Classical.byContradiction
     intro h2
     exact hr ⟨hok, h1, by omega⟩)
    clear hok hr h1
    go_enter Tryz.func163, Tryz.ntmps163
    go_wp2_with fail
    refine (vaN p _ ha).mono ?_
    rintro e w1 ⟨rfl, hK1⟩
    rw [Hck.out]
    have C1 := B1.keep hK1
    clear hW p0 z
    have z := Blk.frozen C1
    have z0 := Blk.f C1 rfl
    obtain ⟨R, hR, BR, kR⟩ := Blk.putEn C1 zeroE (kW.trans hK1) (by omega)
    simp only [enSet, zeroE, Int.natCast_zero] at hR
    go_wp2_with fail
    have r := Blk.f BR rfl
    exact bodyPost_ret (v := .tuple #[enV zeroE, .int .i64 2]) (by simp [results, Tryz.results163, go_sem, r, zeroE]) rfl ⟨by rw [ven HN.out, HN.out], kR⟩
   ·have d1 : decide (m < 1) = true := decide_eq_true (by omega)
    clear hok hr h1
    go_enter Tryz.func163, Tryz.ntmps163
    go_wp2_with fail
    refine (vaN p _ ha).mono ?_
    rintro e w1 ⟨rfl, hK1⟩
    rw [Hck.out]
    have C1 := B1.keep hK1
    clear hW p0 z
    have z := Blk.frozen C1
    have z0 := Blk.f C1 rfl
    obtain ⟨R, hR, BR, kR⟩ := Blk.putEn C1 zeroE (kW.trans hK1) (by omega)
    simp only [enSet, zeroE, Int.natCast_zero] at hR
    go_wp2_with fail
    have r := Blk.f BR rfl
    exact bodyPost_ret (v := .tuple #[enV zeroE, .int .i64 2]) (by simp [results, Tryz.results163, go_sem, r, zeroE]) rfl ⟨by rw [ven HN.out, HN.out], kR⟩
end

section
open Go.RowKit
theorem vjq (w : World) : (Instr.typeAssert .nilIface 20 320 true).run Tryz.prog w = .ok (.tuple #[.int .i64 0, .bool false]) w := by kernel_rfl
set_option maxRecDepth 100000 in
theorem veK (p0 p1 : Value) (w : World) : CallsD Tryz.prog 195 #[p0, p1] .returning w fun en u' w' => en = .returned (.tuple #[]) ∧ u' = .returning ∧ w' = w := by
 have hty := vjq
 refine vah _ _ (rfl : recM .returning = (.nilIface, .returning)) Tryz.func195 rfl rfl rfl ?_
 simp only [Tryz.ntmps195, Act.put, List.size_toArray, List.length_cons, List.length_nil, Nat.reduceAdd, Nat.reduceSub, Array.replicate_succ, Array.replicate_zero, List.push_toArray, List.append_toArray, List.nil_append, List.cons_append]
 go_wp2_with fail
 go_end0
 exact ⟨rfl, trivial, rfl⟩
structure ErS (w : World) (b k r b' c' : Nat) (l : List Nat) (at_ : Nat) (cs : Array Value) (W : World) : Prop where
 o : Blk W b 66 cs
 e : Blk W (b + 1) 44 #[.int .i64 0]
 h : Blk W k 325 #[.pointer (some ⟨r, 0, none⟩)]
 m : RdM W r b' c' l at_
 kp : Kp w W
 wd : WidAt W
 lo : w.heap.size ≤ b ∧ w.heap.size ≤ r ∧ b ≠ r ∧ b + 1 ≠ r ∧ k ≠ r ∧ k ≠ b ∧ b' ≠ b
section
variable {w W W' : World} {b k r b' c' at_ at' : Nat} {l : List Nat} {cs : Array Value}
theorem ErS.next (h : ErS w b k r b' c' l at_ cs W) (hO : Only [r] W W') (hm : RdM W' r b' c' l at') (hw : WidAt w) : ErS w b k r b' c' l at' cs W' := by
 obtain ⟨l1, l2, l3, l4, l5, l6, l7⟩ := h.lo
 have kp : Kp w W' := hO.kp h.kp (by simp; omega)
 exact ⟨h.o.only hO (by simpa using l3), h.e.only hO (by simpa using l4), h.h.only hO (by simpa using l5), hm, kp, hw.keep kp, h.lo⟩
theorem ErS.set (h : ErS w b k r b' c' l at_ cs W) (i : Nat) (v : Value) (h0 : 0 < l.length) (hw : WidAt w) : ErS w b k r b' c' l at_ (cs.setIfInBounds i v) (W.setCell ⟨b, i, none⟩ v) := by
 obtain ⟨l1, l2, l3, l4, l5, l6, l7⟩ := h.lo
 have hO : Only [b] W (W.setCell ⟨b, i, none⟩ v) := (Only.refl [b] W).setCell (p := ⟨b, i, none⟩) (.inl (by simp)) v
 have kp : Kp w (W.setCell ⟨b, i, none⟩ v) := h.kp.setCell (p := ⟨b, i, none⟩) l1 v
 exact ⟨h.o.set_ i v, h.e.only hO (by simp), h.h.only hO (by simpa using l6), h.m.only hO (by simpa using Ne.symm l3) (by simpa using l7) h0, kp, hw.keep kp, h.lo⟩
end
theorem vaV {l : List Nat} {i wd : Nat} (h : i + wd ≤ 20) : atN (l.take 20) i wd = atN l i wd := by
 unfold atN
 rw [List.drop_take, List.take_take, Nat.min_eq_left (by omega)]
set_option maxRecDepth 100000 in
theorem vfU (g off c : Nat) (l : List Nat) (w : World) (hW : WidAt w) (hR : Rd w 1 byN (some ⟨g, off, none⟩) l) (hl : ∀ x ∈ l, x < 256) (h20 : 20 ≤ l.length) (hc : l.length ≤ c) (hn : l.length ≤ 1000000) :
  Calls Tryz.prog 135 #[.slice (some ⟨g, off, none⟩) l.length c] w fun e w' => e = .returned (.tuple #[enV (readEn l), .int .i64 0]) ∧ Kp w w' := by
 obtain ⟨b, hb⟩ : ∃ b, w.heap.size = b := ⟨_, rfl⟩
 obtain ⟨W, hW0, kW, B0, B1⟩ := Blk.al2 hb zeroEC 66 #[.int .i64 0] 44
 have hs : W.heap.size = b + 1 + 1 := by rw [← hW0, ← hb]; simp
 unfold zeroEC at hW0
 have HWD := Lib.hid hW
 have HR2 : Hid (Rd W 1 byN (some ⟨g, off, none⟩) (l.take 20)) := Lib.hid (by have := vdQ (hR.keep kW) 0 20; simpa using this)
 have HL2 : Hid (∀ x ∈ l.take 20, x < 256) := Lib.hid (fun x hx => hl x (List.mem_of_mem_take hx))
 have HN2 : Hid ((l.take 20).length = 20) := Lib.hid (by rw [List.length_take]; omega)
 obtain ⟨x0, hx0⟩ : ∃ x, atN (l.take 20) 0 2 = x := ⟨_, rfl⟩
 have hb0 : x0 < 4294967296 := by rw [← hx0]; exact vam _
 obtain ⟨x1, hx1⟩ : ∃ x, atN (l.take 20) 2 2 = x := ⟨_, rfl⟩
 have hb1 : x1 < 4294967296 := by rw [← hx1]; exact vam _
 obtain ⟨x2, hx2⟩ : ∃ x, atN (l.take 20) 4 4 = x := ⟨_, rfl⟩
 have hb2 : x2 < 4294967296 := by rw [← hx2]; exact vam _
 obtain ⟨x3, hx3⟩ : ∃ x, atN (l.take 20) 8 4 = x := ⟨_, rfl⟩
 have hb3 : x3 < 4294967296 := by rw [← hx3]; exact vam _
 obtain ⟨x4, hx4⟩ : ∃ x, atN (l.take 20) 12 4 = x := ⟨_, rfl⟩
 have hb4 : x4 < 4294967296 := by rw [← hx4]; exact vam _
 obtain ⟨x5, hx5⟩ : ∃ x, atN (l.take 20) 16 4 = x := ⟨_, rfl⟩
 have hb5 : x5 < 4294967296 := by rw [← hx5]; exact vam _
 have HE : Hid (readEn l = ⟨x0, x1, x2, x3, x4, x5⟩) := Lib.hid (by unfold readEn; rw [← vaV (l := l) (i := 0) (wd := 2) (by decide), ← vaV (l := l) (i := 2) (wd := 2) (by decide), ← vaV (l := l) (i := 4) (wd := 4) (by decide), ← vaV (l := l) (i := 8) (wd := 4) (by decide), ← vaV (l := l) (i := 12) (wd := 4) (by decide), ← vaV (l := l) (i := 16) (wd := 4) (by decide), hx0, hx1, hx2, hx3, hx4, hx5])
 have HX0 := Lib.hid hx0
 have HX1 := Lib.hid hx1
 have HX2 := Lib.hid hx2
 have HX3 := Lib.hid hx3
 have HX4 := Lib.hid hx4
 have HX5 := Lib.hid hx5
 clear hW hR hl hx0 hx1 hx2 hx3 hx4 hx5
 go_enter_defers Tryz.func135, Tryz.ntmps135
 go_wp2_with fail
 all_goals
  (try (have e20 : l.length = 20 := (by omega); rw [e20]))
  have HO := vhr g off c (l.take 20) W HR2.out (by rw [HN2.out]; decide) (by rw [HN2.out]; decide)
  rw [HN2.out] at HO
  refine HO.mono ?_
  rintro e w1 ⟨r, b', c', rfl, hBr, hRr, hcr, hr, hb', hbr, K1⟩
  clear HO hW0
  obtain ⟨k, hk⟩ : ∃ k, w1.heap.size = k := ⟨_, rfl⟩
  obtain ⟨V0, hV, kV, D0⟩ := Blk.al1 hk #[.pointer (some ⟨r, 0, none⟩)] 325
  have HS : Hid (ErS w b k r b' c' (l.take 20) 0 (List.toArray [.int .i64 0, .int .i64 0, .int .u32 0, .int .u32 0, .int .u32 0, .int .u32 0]) V0) := Lib.hid ⟨B0.keep (K1.trans kV), B1.keep (K1.trans kV), D0, ⟨by rw [HN2.out]; exact hBr.keep kV, hRr.keep kV, by rw [HN2.out]; exact hcr, hbr⟩, kW.trans (K1.trans kV), HWD.out.keep (kW.trans (K1.trans kV)), by have h1 := hBr.lt; have h2 := K1.size; exact ⟨by omega, by omega, by omega, by omega, by omega, by omega, by omega⟩⟩
  clear hBr hRr hcr hr hb' hbr K1 kV D0
  go_wp2_with fail
  clear hV hk
  refine (rnextI 2 k r b' c' 0 2 1 rfl (l.take 20) _ HS.out.wd (.inr (.inl ⟨rfl, rfl⟩)) HS.out.h HS.out.m HL2.out (by rw [HN2.out]; decide) (by rw [HN2.out]; decide)).mono ?_
  rintro e w2 ⟨rfl, hO, hm⟩
  rw [HX0.out]
  have HS2 := HS.out.next hO hm HWD.out
  clear hO hm HS
  have z := Blk.frozen HS2.o
  have u := Blk.f HS2.o rfl
  obtain ⟨V1, hV⟩ : ∃ V, w2.setCell ⟨b, 0, none⟩ (.int .i64 (x0 : Int)) = V := ⟨_, rfl⟩
  have HS : Hid (ErS w b k r b' c' (l.take 20) 2 (List.toArray [.int .i64 (x0 : Int), .int .i64 0, .int .u32 0, .int .u32 0, .int .u32 0, .int .u32 0]) V1) := Lib.hid (by rw [← hV]; exact HS2.set 0 _ (by rw [HN2.out]; decide) HWD.out)
  clear HS2
  go_wp2_with fail
  clear hV z u
  refine (rnextI 2 k r b' c' 2 2 1 rfl (l.take 20) _ HS.out.wd (.inr (.inl ⟨rfl, rfl⟩)) HS.out.h HS.out.m HL2.out (by rw [HN2.out]; decide) (by rw [HN2.out]; decide)).mono ?_
  rintro e w3 ⟨rfl, hO, hm⟩
  rw [HX1.out]
  have HS2 := HS.out.next hO hm HWD.out
  clear hO hm HS
  have z := Blk.frozen HS2.o
  have u := Blk.f HS2.o rfl
  obtain ⟨V2, hV⟩ : ∃ V, w3.setCell ⟨b, 1, none⟩ (.int .i64 (x1 : Int)) = V := ⟨_, rfl⟩
  have HS : Hid (ErS w b k r b' c' (l.take 20) 4 (List.toArray [.int .i64 (x0 : Int), .int .i64 (x1 : Int), .int .u32 0, .int .u32 0, .int .u32 0, .int .u32 0]) V2) := Lib.hid (by rw [← hV]; exact HS2.set 1 _ (by rw [HN2.out]; decide) HWD.out)
  clear HS2
  go_wp2_with fail
  clear hV z u
  refine (rnextI 4 k r b' c' 4 4 2 rfl (l.take 20) _ HS.out.wd (.inr (.inr ⟨rfl, rfl⟩)) HS.out.h HS.out.m HL2.out (by rw [HN2.out]; decide) (by rw [HN2.out]; decide)).mono ?_
  rintro e w4 ⟨rfl, hO, hm⟩
  rw [HX2.out]
  have HS2 := HS.out.next hO hm HWD.out
  clear hO hm HS
  have z := Blk.frozen HS2.o
  have u := Blk.f HS2.o rfl
  obtain ⟨V3, hV⟩ : ∃ V, w4.setCell ⟨b, 2, none⟩ (.int .u32 (x2 : Int)) = V := ⟨_, rfl⟩
  have HS : Hid (ErS w b k r b' c' (l.take 20) 8 (List.toArray [.int .i64 (x0 : Int), .int .i64 (x1 : Int), .int .u32 (x2 : Int), .int .u32 0, .int .u32 0, .int .u32 0]) V3) := Lib.hid (by rw [← hV]; exact HS2.set 2 _ (by rw [HN2.out]; decide) HWD.out)
  clear HS2
  go_wp2_with fail
  clear hV z u
  refine (rnextI 4 k r b' c' 8 4 2 rfl (l.take 20) _ HS.out.wd (.inr (.inr ⟨rfl, rfl⟩)) HS.out.h HS.out.m HL2.out (by rw [HN2.out]; decide) (by rw [HN2.out]; decide)).mono ?_
  rintro e w5 ⟨rfl, hO, hm⟩
  rw [HX3.out]
  have HS2 := HS.out.next hO hm HWD.out
  clear hO hm HS
  have z := Blk.frozen HS2.o
  have u := Blk.f HS2.o rfl
  obtain ⟨V4, hV⟩ : ∃ V, w5.setCell ⟨b, 3, none⟩ (.int .u32 (x3 : Int)) = V := ⟨_, rfl⟩
  have HS : Hid (ErS w b k r b' c' (l.take 20) 12 (List.toArray [.int .i64 (x0 : Int), .int .i64 (x1 : Int), .int .u32 (x2 : Int), .int .u32 (x3 : Int), .int .u32 0, .int .u32 0]) V4) := Lib.hid (by rw [← hV]; exact HS2.set 3 _ (by rw [HN2.out]; decide) HWD.out)
  clear HS2
  go_wp2_with fail
  clear hV z u
  refine (rnextI 4 k r b' c' 12 4 2 rfl (l.take 20) _ HS.out.wd (.inr (.inr ⟨rfl, rfl⟩)) HS.out.h HS.out.m HL2.out (by rw [HN2.out]; decide) (by rw [HN2.out]; decide)).mono ?_
  rintro e w6 ⟨rfl, hO, hm⟩
  rw [HX4.out]
  have HS2 := HS.out.next hO hm HWD.out
  clear hO hm HS
  have z := Blk.frozen HS2.o
  have u := Blk.f HS2.o rfl
  obtain ⟨V5, hV⟩ : ∃ V, w6.setCell ⟨b, 4, none⟩ (.int .u32 (x4 : Int)) = V := ⟨_, rfl⟩
  have HS : Hid (ErS w b k r b' c' (l.take 20) 16 (List.toArray [.int .i64 (x0 : Int), .int .i64 (x1 : Int), .int .u32 (x2 : Int), .int .u32 (x3 : Int), .int .u32 (x4 : Int), .int .u32 0]) V5) := Lib.hid (by rw [← hV]; exact HS2.set 4 _ (by rw [HN2.out]; decide) HWD.out)
  clear HS2
  go_wp2_with fail
  clear hV z u
  refine (rnextI 4 k r b' c' 16 4 2 rfl (l.take 20) _ HS.out.wd (.inr (.inr ⟨rfl, rfl⟩)) HS.out.h HS.out.m HL2.out (by rw [HN2.out]; decide) (by rw [HN2.out]; decide)).mono ?_
  rintro e w7 ⟨rfl, hO, hm⟩
  rw [HX5.out]
  have HS2 := HS.out.next hO hm HWD.out
  clear hO hm HS
  have z := Blk.frozen HS2.o
  have u := Blk.f HS2.o rfl
  obtain ⟨V6, hV⟩ : ∃ V, w7.setCell ⟨b, 5, none⟩ (.int .u32 (x5 : Int)) = V := ⟨_, rfl⟩
  have HS : Hid (ErS w b k r b' c' (l.take 20) 20 (List.toArray [.int .i64 (x0 : Int), .int .i64 (x1 : Int), .int .u32 (x2 : Int), .int .u32 (x3 : Int), .int .u32 (x4 : Int), .int .u32 (x5 : Int)]) V6) := Lib.hid (by rw [← hV]; exact HS2.set 5 _ (by rw [HN2.out]; decide) HWD.out)
  clear HS2
  obtain ⟨R, hR, BR, kR⟩ := Blk.putEn HS.out.o ⟨x0, x1, x2, x3, x4, x5⟩ HS.out.kp (by omega)
  have E6 : Blk R (b + 1) 44 #[.int .i64 0] := by rw [← hR]; exact Blk.putEn_far HS.out.e (by omega) _
  simp only [enSet] at hR
  have y := Blk.f HS.out.o rfl
  have yz := Blk.frozen HS.out.o
  have ye : R.cell? ⟨b + 1, 0, none⟩ = some (.int .i64 0) := E6.cell 0
  have yf := Blk.frozen E6
  obtain ⟨R2, hR2, C0, C1, kR2⟩ : ∃ R2, R.setCell ⟨b + 1, 0, none⟩ (.int .i64 0) = R2 ∧ Blk R2 b 66 (enC ⟨x0, x1, x2, x3, x4, x5⟩) ∧ Blk R2 (b + 1) 44 #[.int .i64 0] ∧ Kp w R2 := ⟨_, rfl, BR.far (p := ⟨b + 1, 0, none⟩) (by show b ≠ b + 1; omega) _, E6.set_ 0 _, kR.setCell (p := ⟨b + 1, 0, none⟩) (by show w.heap.size ≤ b + 1; omega) _⟩
  go_wp2_with fail
  clear hV z u
  refine leaves_cons (f := 195) (args := #[.pointer (some ⟨b, 0, none⟩), .pointer (some ⟨b + 1, 0, none⟩)]) (by simp) (by simp [go_sem]) ?_
  refine (veK _ _ _).mono ?_
  rintro e u' wz ⟨rfl, rfl, rfl⟩
  have r := Blk.f C0 rfl
  have r9 : wz.cell? ⟨b + 1, 0, none⟩ = some (.int .i64 0) := C1.cell 0
  show Leaves _ _ _ _ [] .returning _
  exact ⟨.tuple #[enV (readEn l), .int .i64 0], by rw [HE.out]; simp [results, Tryz.results135, go_sem, r, r9], rfl, kR2⟩
end

section
open Go.RowKit
theorem mk2 (w : World) : (Instr.makeSlice 64 (.int .i64 2) (.int .i64 2)).run Tryz.prog w = .ok (.slice (some ⟨w.heap.size, 0, none⟩) 2 2) (w.alloc (.cells #[.int .u8 0, .int .u8 0] 5)) := by kernel_rfl
theorem mk4 (w : World) : (Instr.makeSlice 64 (.int .i64 4) (.int .i64 4)).run Tryz.prog w = .ok (.slice (some ⟨w.heap.size, 0, none⟩) 4 4) (w.alloc (.cells #[.int .u8 0, .int .u8 0, .int .u8 0, .int .u8 0] 5)) := by kernel_rfl
def bysC (l : List Nat) : Array Value := (l.map (fun b : Nat => (.int .u8 (b : Int) : Value))).toArray
def PutP (n wd : Nat) (w : World) (e : Ending) (w' : World) : Prop := e = .returned (.tuple #[.slice (some ⟨w.heap.size, 0, none⟩) wd wd, .int .i64 0]) ∧ Blk w' w.heap.size 5 (bysC (beN n wd)) ∧ Kp w w'
end

section
open Go.RowKit
theorem vdr (l : List Nat) : (bysC l).toList = l.flatMap byN := by
 unfold bysC byN
 rw [List.toList_toArray]
 induction l with
 | nil => rfl
 | cons x l ih => rw [List.map_cons, List.flatMap_cons, ih]; rfl
theorem vds {w : World} {g : Nat} {l : List Nat} (h : Blk w g 5 (bysC l)) (hl : l.length ≤ maxLen) : Rd w 1 byN (some ⟨g, 0, none⟩) l := Rd.of_blk h (by decide) vaj hl (vdr l)
structure BtZ where
 g0 : Nat
 g1 : Nat
 g2 : Nat
 g3 : Nat
 g4 : Nat
 g5 : Nat
 s : Nat
 v : Value
def BtZ.g (z : BtZ) : Nat → Nat
 | 0 => z.g0
 | 1 => z.g1
 | 2 => z.g2
 | 3 => z.g3
 | 4 => z.g4
 | _ => z.g5
def bsE (e : En) : Nat → List Nat
 | 0 => beN e.f.toNat 2
 | 1 => beN e.t.toNat 2
 | 2 => beN e.a 4
 | 3 => beN e.m 4
 | 4 => beN e.n 4
 | _ => beN e.k 4
def bix : Nat → Nat
 | 0 => 4
 | 1 => 9
 | 2 => 13
 | 3 => 17
 | 4 => 21
 | _ => 25
theorem vjr : ∀ i, i < 6 → ∀ j, j < 6 → bix i = bix j → i = j := by decide
theorem vkz : ∀ i, i < 6 → bix i ≠ 26 ∧ bix i ≠ 27 := by decide
def btC (z : BtZ) : Array Value := #[.slice (some ⟨z.g0, 0, none⟩) 2 2, .slice (some ⟨z.g1, 0, none⟩) 2 2, .slice (some ⟨z.g2, 0, none⟩) 4 4, .slice (some ⟨z.g3, 0, none⟩) 4 4, .slice (some ⟨z.g4, 0, none⟩) 4 4, .slice (some ⟨z.g5, 0, none⟩) 4 4]
structure BtM (wc : World) (e : En) (z : BtZ) (L : Nat → Bool) (W : World) : Prop where
 kp : Kp wc W
 b : ∀ i, i < 6 → L (bix i) = true → Blk W (z.g i) 5 (bysC (bsE e i))
 s : L 26 = true → Blk W z.s 64 (btC z)
 o : L 27 = true → Own W wc.heap.size 5 1 byN z.v (bytesE e)
section
variable {wc W W' : World} {e : En} {z z' : BtZ} {L L' : Nat → Bool}
theorem BtM.at_ (h : BtM wc e z L W) (i : Nat) (hi : i < 6) (hz : ∀ j, j < 6 → j ≠ i → z'.g j = z.g j) (h26 : L 26 = false) (h27 : L 27 = false) (hB : Blk W' (z'.g i) 5 (bysC (bsE e i))) (k : Kp W W') : BtM wc e z' (fun j => j == bix i || L j) W' := by
 obtain ⟨n1, n2⟩ := vkz i hi
 refine ⟨h.kp.trans k, fun j hj d => ?_, fun d => ?_, fun d => ?_⟩
 ·by_cases e1 : j = i
  ·subst e1
   exact hB
  ·have : (bix j == bix i) = false := by simpa using fun q => e1 (vjr j hj i hi q)
   simp only [this, Bool.false_or] at d
   rw [hz j hj e1]
   exact (h.b j hj d).keep k
 ·have : (26 == bix i) = false := by simpa using Ne.symm n1
  simp only [this, Bool.false_or, h26] at d
  cases d
 ·have : (27 == bix i) = false := by simpa using Ne.symm n2
  simp only [this, Bool.false_or, h27] at d
  cases d
end
end

end Go.Proofs.YtgopnfacklmkaaaGreatDoor
