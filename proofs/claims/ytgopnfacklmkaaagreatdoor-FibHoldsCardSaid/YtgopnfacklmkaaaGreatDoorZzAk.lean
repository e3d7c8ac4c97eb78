/- Lemmas and contracts for the theorem of this claim: CfD, CfE, CfF. -/
import Derived.Test.YtgopnfacklmkaaaGreatDoorZzAj
import Derived.BigQuiet
import Derived.StillTailTactics
set_option linter.all false
set_option maxHeartbeats 16000000
namespace Go.Proofs.YtgopnfacklmkaaaGreatDoor
section
open Go.RowKit
abbrev stopCV (e : Int) : Value := .iface 289 (.int .i64 e)
abbrev stopC (e : Int) : Ending := .panicked [{ v := stopCV e, recovered := false }]
def CapAt (w : World) : Prop := w.cell? ⟨1, 0, none⟩ = some (.int .i64 1) ∧ w.cell? ⟨1, 1, none⟩ = some (.int .i64 256)
theorem CapAt.keep {w w' : World} (h : CapAt w) (k : Kp w w') : CapAt w' := ⟨k.cell h.1, k.cell h.2⟩
def MustC (c : Cf) (w : World) (e : Ending) (w' : World) : Prop := (okCf c = true → e = .returned (.tuple #[])) ∧ (okCf c = false → e = stopC 2) ∧ Kp w w'
theorem MustC.no {c : Cf} {w w' : World} (h : okCf c = false) (k : Kp w w') : MustC c w (stopC 2) w' := ⟨fun e => (by rw [h] at e; cases e), fun _ => rfl, k⟩
theorem MustC.yes {c : Cf} {w w' : World} (h : okCf c = true) (k : Kp w w') : MustC c w (.returned (.tuple #[])) w' := ⟨fun _ => rfl, fun e => (by rw [h] at e; cases e), k⟩
theorem vcf {c : Cf} {k : Nat} (hk : k < 7) (h : spanB k c = false) : okCf c = false := by
 unfold okCf spansB
 have : k = 0 ∨ k = 1 ∨ k = 2 ∨ k = 3 ∨ k = 4 ∨ k = 5 ∨ k = 6 := by omega
 rcases this with rfl | rfl | rfl | rfl | rfl | rfl | rfl <;> simp [h]
theorem vji {α : Type} {w : World} {n : Nat} {enc : α → List Value} {A : Option Addr} {xs : List α} (h : Rd w n enc A xs) (k : Nat) : Rd w n enc A (xs.take k) := fun i hi => by
 have h2 : i < xs.length := by rw [List.length_take] at hi; omega
 obtain ⟨b, off, e, hc⟩ := h i h2
 exact ⟨b, off, e, fun j u hj => hc j u (by rw [List.getElem_take] at hj; exact hj)⟩
set_option maxRecDepth 100000 in
theorem vlP (c : Cf) (A : Option Addr) (m : Nat) (w : World) (hm : c.own.length ≤ m) (hR : Rd w 2 PI.enc A c.own) (hC : CapAt w) (ha : ∀ k (hk : k < c.own.length), c.own[k].a < 4294967296) :
  Calls Tryz.prog 116 #[cfV c A c.own.length m] w (MustC c w) := by
 obtain ⟨b, hb⟩ : ∃ b, w.heap.size = b := ⟨_, rfl⟩
 obtain ⟨W, hW, kW, B0⟩ := Blk.al1 hb (cfC c A c.own.length m) 209
 have hR := hR.keep kW
 have hC := hC.keep kW
 have Ha := Lib.hid ha
 clear ha
 unfold cfC at hW
 go_enter Tryz.func116, Tryz.ntmps116
 go_wp2_with fail
 clear hW hb
 refine (viK _).mono ?_
 rintro e w1 ⟨g, n, rfl, BG, hg, K1⟩
 have B1 := B0.keep K1
 have hR := hR.keep K1
 have hC := hC.keep K1
 have kW := kW.trans K1
 clear B0 K1 hg
 have hbl := B1.lt
 go_wp2_with fail
 refine wp_loop_rounds 8 ?_
 -- round 0
 rw [rounds_succ]
 obtain ⟨d, hd⟩ : ∃ d, w1.heap.size = d := ⟨_, rfl⟩
 obtain ⟨Y, hY, KY, DY⟩ := Blk.al1 hd #[.string (n 0), .int .i64 1, .func (.func 235) #[] #[]] 295
 obtain ⟨l0, l1, l2⟩ := Blk.v3 (BG.keep (Kp.refl w1)) (.string (n 0)) (.int .i64 1) (.func (.func 235) #[] #[]) rfl
 obtain ⟨-, y1, y2⟩ := Blk.v3 DY _ (.int .i64 1) (.func (.func 235) #[] #[]) rfl
 obtain ⟨c0, c1, c2, c3, c4, c5, c6, c7, c8⟩ := Blk.p9 (B1.keep KY)
 have HG := Lib.hid BG
 have HB := Lib.hid B1
 have HD := Lib.hid DY
 have HR := Lib.hid hR
 have HC := Lib.hid hC
 clear BG B1 DY hR hC
 go_wp2_with fail
 refine (vnO c A c.own.length m _).mono ?_
 rintro e Z0 ⟨rfl, KZ⟩
 have z1 : Z0.cell? ⟨d, 1, none⟩ = some (.int .i64 1) := KZ.cell y1
 have KX0 : Kp w1 Z0 := KY.trans KZ
 clear c0 c1 c2 c3 c4 c5 c6 c7 c8 l0 l1 l2 y1 y2 hY KZ KY hd
 go_wp2_with fail
 refine (vaB _ _ _ _).mono ?_
 rintro e Z' ⟨rfl, rfl⟩
 have hN : (clampI c.t0 1 1000000 != c.t0) = !spanB 0 c := vaT _ _ _ (by decide)
 rcases hs0 : spanB 0 c with _ | _
 ·rw [hs0] at hN
  have H := Lib.hid (vcf (by omega) hs0)
  clear hs0
  go_wp2_with fail
  exact ⟨rfl, MustC.no H.out (kW.trans KX0)⟩
 rw [hs0] at hN
 have HS0 := Lib.hid hs0
 clear hs0
 go_wp2_with fail
 have BG := HG.out
 have B1 := HB.out
 have hR := HR.out
 have hC := HC.out
 clear HG HB HD HR HC hN z1
 -- round 1
 rw [rounds_succ]
 obtain ⟨d, hd⟩ : ∃ d, Z0.heap.size = d := ⟨_, rfl⟩
 obtain ⟨Y, hY, KY, DY⟩ : ∃ Y, Z0.alloc (.cells #[.string (n 1), .int .i64 0, .func (.func 236) #[] #[]] 295) = Y ∧ Kp w1 Y ∧ Blk Y d 295 #[.string (n 1), .int .i64 0, .func (.func 236) #[] #[]] := ⟨_, rfl, (KX0).alloc _, by rw [← hd]; exact Blk.new _ _ _⟩
 obtain ⟨-, -, -, l0, l1, l2⟩ := Blk.v6 (BG.keep (KX0)) _ _ _ (.string (n 1)) (.int .i64 0) (.func (.func 236) #[] #[]) rfl
 obtain ⟨-, y1, y2⟩ := Blk.v3 DY _ (.int .i64 0) (.func (.func 236) #[] #[]) rfl
 obtain ⟨c0, c1, c2, c3, c4, c5, c6, c7, c8⟩ := Blk.p9 (B1.keep KY)
 have HG := Lib.hid BG
 have HB := Lib.hid B1
 have HD := Lib.hid DY
 have HR := Lib.hid hR
 have HC := Lib.hid hC
 clear BG B1 DY hR hC
 go_wp2_with fail
 refine (vnP c A c.own.length m _).mono ?_
 rintro e Z1 ⟨rfl, KZ⟩
 have z1 : Z1.cell? ⟨d, 1, none⟩ = some (.int .i64 0) := KZ.cell y1
 have KX1 : Kp w1 Z1 := KY.trans KZ
 clear c0 c1 c2 c3 c4 c5 c6 c7 c8 l0 l1 l2 y1 y2 hY KZ KY hd
 go_wp2_with fail
 refine (vaB _ _ _ _).mono ?_
 rintro e Z' ⟨rfl, rfl⟩
 have hN : (clampI c.t1 0 1000000 != c.t1) = !spanB 1 c := vaT _ _ _ (by decide)
 rcases hs1 : spanB 1 c with _ | _
 ·rw [hs1] at hN
  have H := Lib.hid (vcf (by omega) hs1)
  clear hs1
  go_wp2_with fail
  exact ⟨rfl, MustC.no H.out (kW.trans KX1)⟩
 rw [hs1] at hN
 have HS1 := Lib.hid hs1
 clear hs1
 go_wp2_with fail
 have BG := HG.out
 have B1 := HB.out
 have hR := HR.out
 have hC := HC.out
 clear HG HB HD HR HC hN z1
 -- round 2
 rw [rounds_succ]
 obtain ⟨d, hd⟩ : ∃ d, Z1.heap.size = d := ⟨_, rfl⟩
 obtain ⟨Y, hY, KY, DY⟩ : ∃ Y, Z1.alloc (.cells #[.string (n 2), .int .i64 1, .func (.func 237) #[] #[]] 295) = Y ∧ Kp w1 Y ∧ Blk Y d 295 #[.string (n 2), .int .i64 1, .func (.func 237) #[] #[]] := ⟨_, rfl, (KX1).alloc _, by rw [← hd]; exact Blk.new _ _ _⟩
 obtain ⟨-, -, -, -, -, -, l0, l1, l2⟩ := Blk.v9 (BG.keep (KX1)) _ _ _ _ _ _ (.string (n 2)) (.int .i64 1) (.func (.func 237) #[] #[]) rfl
 obtain ⟨-, y1, y2⟩ := Blk.v3 DY _ (.int .i64 1) (.func (.func 237) #[] #[]) rfl
 obtain ⟨c0, c1, c2, c3, c4, c5, c6, c7, c8⟩ := Blk.p9 (B1.keep KY)
 have HG := Lib.hid BG
 have HB := Lib.hid B1
 have HD := Lib.hid DY
 have HR := Lib.hid hR
 have HC := Lib.hid hC
 clear BG B1 DY hR hC
 go_wp2_with fail
 refine (vnQ c A c.own.length m _).mono ?_
 rintro e Z2 ⟨rfl, KZ⟩
 have z1 : Z2.cell? ⟨d, 1, none⟩ = some (.int .i64 1) := KZ.cell y1
 have KX2 : Kp w1 Z2 := KY.trans KZ
 clear c0 c1 c2 c3 c4 c5 c6 c7 c8 l0 l1 l2 y1 y2 hY KZ KY hd
 go_wp2_with fail
 refine (vaB _ _ _ _).mono ?_
 rintro e Z' ⟨rfl, rfl⟩
 have hN : (clampI c.t2 1 1000000 != c.t2) = !spanB 2 c := vaT _ _ _ (by decide)
 rcases hs2 : spanB 2 c with _ | _
 ·rw [hs2] at hN
  have H := Lib.hid (vcf (by omega) hs2)
  clear hs2
  go_wp2_with fail
  exact ⟨rfl, MustC.no H.out (kW.trans KX2)⟩
 rw [hs2] at hN
 have HS2 := Lib.hid hs2
 clear hs2
 go_wp2_with fail
 have BG := HG.out
 have B1 := HB.out
 have hR := HR.out
 have hC := HC.out
 clear HG HB HD HR HC hN z1
 -- round 3
 rw [rounds_succ]
 obtain ⟨d, hd⟩ : ∃ d, Z2.heap.size = d := ⟨_, rfl⟩
 obtain ⟨Y, hY, KY, DY⟩ : ∃ Y, Z2.alloc (.cells #[.string (n 3), .int .i64 0, .func (.func 238) #[] #[]] 295) = Y ∧ Kp w1 Y ∧ Blk Y d 295 #[.string (n 3), .int .i64 0, .func (.func 238) #[] #[]] := ⟨_, rfl, (KX2).alloc _, by rw [← hd]; exact Blk.new _ _ _⟩
 obtain ⟨-, -, -, -, -, -, -, -, -, l0, l1, l2⟩ := Blk.v12 (BG.keep (KX2)) _ _ _ _ _ _ _ _ _ (.string (n 3)) (.int .i64 0) (.func (.func 238) #[] #[]) rfl
 obtain ⟨-, y1, y2⟩ := Blk.v3 DY _ (.int .i64 0) (.func (.func 238) #[] #[]) rfl
 obtain ⟨c0, c1, c2, c3, c4, c5, c6, c7, c8⟩ := Blk.p9 (B1.keep KY)
 have HG := Lib.hid BG
 have HB := Lib.hid B1
 have HD := Lib.hid DY
 have HR := Lib.hid hR
 have HC := Lib.hid hC
 clear BG B1 DY hR hC
 go_wp2_with fail
 refine (vnR c A c.own.length m _).mono ?_
 rintro e Z3 ⟨rfl, KZ⟩
 have z1 : Z3.cell? ⟨d, 1, none⟩ = some (.int .i64 0) := KZ.cell y1
 have KX3 : Kp w1 Z3 := KY.trans KZ
 clear c0 c1 c2 c3 c4 c5 c6 c7 c8 l0 l1 l2 y1 y2 hY KZ KY hd
 go_wp2_with fail
 refine (vaB _ _ _ _).mono ?_
 rintro e Z' ⟨rfl, rfl⟩
 have hN : (clampI c.t3 0 1000000 != c.t3) = !spanB 3 c := vaT _ _ _ (by decide)
 rcases hs3 : spanB 3 c with _ | _
 ·rw [hs3] at hN
  have H := Lib.hid (vcf (by omega) hs3)
  clear hs3
  go_wp2_with fail
  exact ⟨rfl, MustC.no H.out (kW.trans KX3)⟩
 rw [hs3] at hN
 have HS3 := Lib.hid hs3
 clear hs3
 go_wp2_with fail
 have BG := HG.out
 have B1 := HB.out
 have hR := HR.out
 have hC := HC.out
 clear HG HB HD HR HC hN z1
 -- round 4
 rw [rounds_succ]
 obtain ⟨d, hd⟩ : ∃ d, Z3.heap.size = d := ⟨_, rfl⟩
 obtain ⟨Y, hY, KY, DY⟩ : ∃ Y, Z3.alloc (.cells #[.string (n 4), .int .i64 1, .func (.func 239) #[] #[]] 295) = Y ∧ Kp w1 Y ∧ Blk Y d 295 #[.string (n 4), .int .i64 1, .func (.func 239) #[] #[]] := ⟨_, rfl, (KX3).alloc _, by rw [← hd]; exact Blk.new _ _ _⟩
 have l0 : Z3.cell? ⟨g, 12, none⟩ = some (.string (n 4)) := (BG.keep (KX3)).cell 12
 have l1 : Z3.cell? ⟨g, 13, none⟩ = some (.int .i64 1) := (BG.keep (KX3)).cell 13
 have l2 : Z3.cell? ⟨g, 14, none⟩ = some (.func (.func 239) #[] #[]) := (BG.keep (KX3)).cell 14
 obtain ⟨-, y1, y2⟩ := Blk.v3 DY _ (.int .i64 1) (.func (.func 239) #[] #[]) rfl
 obtain ⟨c0, c1, c2, c3, c4, c5, c6, c7, c8⟩ := Blk.p9 (B1.keep KY)
 have HG := Lib.hid BG
 have HB := Lib.hid B1
 have HD := Lib.hid DY
 have HR := Lib.hid hR
 have HC := Lib.hid hC
 clear BG B1 DY hR hC
 go_wp2_with fail
 refine (vnS c A c.own.length m _).mono ?_
 rintro e Z4 ⟨rfl, KZ⟩
 have z1 : Z4.cell? ⟨d, 1, none⟩ = some (.int .i64 1) := KZ.cell y1
 have KX4 : Kp w1 Z4 := KY.trans KZ
 clear c0 c1 c2 c3 c4 c5 c6 c7 c8 l0 l1 l2 y1 y2 hY KZ KY hd
 go_wp2_with fail
 refine (vaB _ _ _ _).mono ?_
 rintro e Z' ⟨rfl, rfl⟩
 have hN : (clampI c.t4 1 1000000 != c.t4) = !spanB 4 c := vaT _ _ _ (by decide)
 rcases hs4 : spanB 4 c with _ | _
 ·rw [hs4] at hN
  have H := Lib.hid (vcf (by omega) hs4)
  clear hs4
  go_wp2_with fail
  exact ⟨rfl, MustC.no H.out (kW.trans KX4)⟩
 rw [hs4] at hN
 have HS4 := Lib.hid hs4
 clear hs4
 go_wp2_with fail
 have BG := HG.out
 have B1 := HB.out
 have hR := HR.out
 have hC := HC.out
 clear HG HB HD HR HC hN z1
 -- round 5
 rw [rounds_succ]
 obtain ⟨d, hd⟩ : ∃ d, Z4.heap.size = d := ⟨_, rfl⟩
 obtain ⟨Y, hY, KY, DY⟩ : ∃ Y, Z4.alloc (.cells #[.string (n 5), .int .i64 0, .func (.func 240) #[] #[]] 295) = Y ∧ Kp w1 Y ∧ Blk Y d 295 #[.string (n 5), .int .i64 0, .func (.func 240) #[] #[]] := ⟨_, rfl, (KX4).alloc _, by rw [← hd]; exact Blk.new _ _ _⟩
 have l0 : Z4.cell? ⟨g, 15, none⟩ = some (.string (n 5)) := (BG.keep (KX4)).cell 15
 have l1 : Z4.cell? ⟨g, 16, none⟩ = some (.int .i64 0) := (BG.keep (KX4)).cell 16
 have l2 : Z4.cell? ⟨g, 17, none⟩ = some (.func (.func 240) #[] #[]) := (BG.keep (KX4)).cell 17
 obtain ⟨-, y1, y2⟩ := Blk.v3 DY _ (.int .i64 0) (.func (.func 240) #[] #[]) rfl
 obtain ⟨c0, c1, c2, c3, c4, c5, c6, c7, c8⟩ := Blk.p9 (B1.keep KY)
 have HG := Lib.hid BG
 have HB := Lib.hid B1
 have HD := Lib.hid DY
 have HR := Lib.hid hR
 have HC := Lib.hid hC
 clear BG B1 DY hR hC
 go_wp2_with fail
 refine (vnT c A c.own.length m _).mono ?_
 rintro e Z5 ⟨rfl, KZ⟩
 have z1 : Z5.cell? ⟨d, 1, none⟩ = some (.int .i64 0) := KZ.cell y1
 have KX5 : Kp w1 Z5 := KY.trans KZ
 clear c0 c1 c2 c3 c4 c5 c6 c7 c8 l0 l1 l2 y1 y2 hY KZ KY hd
 go_wp2_with fail
 refine (vaB _ _ _ _).mono ?_
 rintro e Z' ⟨rfl, rfl⟩
 have hN : (clampI c.t5 0 1000000 != c.t5) = !spanB 5 c := vaT _ _ _ (by decide)
 rcases hs5 : spanB 5 c with _ | _
 ·rw [hs5] at hN
  have H := Lib.hid (vcf (by omega) hs5)
  clear hs5
  go_wp2_with fail
  exact ⟨rfl, MustC.no H.out (kW.trans KX5)⟩
 rw [hs5] at hN
 have HS5 := Lib.hid hs5
 clear hs5
 go_wp2_with fail
 have BG := HG.out
 have B1 := HB.out
 have hR := HR.out
 have hC := HC.out
 clear HG HB HD HR HC hN z1
 -- round 6
 rw [rounds_succ]
 obtain ⟨d, hd⟩ : ∃ d, Z5.heap.size = d := ⟨_, rfl⟩
 obtain ⟨Y, hY, KY, DY⟩ : ∃ Y, Z5.alloc (.cells #[.string (n 6), .int .i64 0, .func (.func 241) #[] #[]] 295) = Y ∧ Kp w1 Y ∧ Blk Y d 295 #[.string (n 6), .int .i64 0, .func (.func 241) #[] #[]] := ⟨_, rfl, (KX5).alloc _, by rw [← hd]; exact Blk.new _ _ _⟩
 have l0 : Z5.cell? ⟨g, 18, none⟩ = some (.string (n 6)) := (BG.keep (KX5)).cell 18
 have l1 : Z5.cell? ⟨g, 19, none⟩ = some (.int .i64 0) := (BG.keep (KX5)).cell 19
 have l2 : Z5.cell? ⟨g, 20, none⟩ = some (.func (.func 241) #[] #[]) := (BG.keep (KX5)).cell 20
 obtain ⟨-, y1, y2⟩ := Blk.v3 DY _ (.int .i64 0) (.func (.func 241) #[] #[]) rfl
 obtain ⟨c0, c1, c2, c3, c4, c5, c6, c7, c8⟩ := Blk.p9 (B1.keep KY)
 have HG := Lib.hid BG
 have HB := Lib.hid B1
 have HD := Lib.hid DY
 have HR := Lib.hid hR
 have HC := Lib.hid hC
 clear BG B1 DY hR hC
 go_wp2_with fail
 refine (vnU c A c.own.length m _).mono ?_
 rintro e Z6 ⟨rfl, KZ⟩
 have z1 : Z6.cell? ⟨d, 1, none⟩ = some (.int .i64 0) := KZ.cell y1
 have KX6 : Kp w1 Z6 := KY.trans KZ
 clear c0 c1 c2 c3 c4 c5 c6 c7 c8 l0 l1 l2 y1 y2 hY KZ KY hd
 go_wp2_with fail
 refine (vaB _ _ _ _).mono ?_
 rintro e Z' ⟨rfl, rfl⟩
 have hN : (clampI c.t6 0 1000000 != c.t6) = !spanB 6 c := vaT _ _ _ (by decide)
 rcases hs6 : spanB 6 c with _ | _
 ·rw [hs6] at hN
  have H := Lib.hid (vcf (by omega) hs6)
  clear hs6
  go_wp2_with fail
  exact ⟨rfl, MustC.no H.out (kW.trans KX6)⟩
 rw [hs6] at hN
 have HS6 := Lib.hid hs6
 clear hs6
 go_wp2_with fail
 have BG := HG.out
 have B1 := HB.out
 have hR := HR.out
 have hC := HC.out
 clear HG HB HD HR HC hN z1
 rw [rounds_succ]
 have C := hC.keep KX6
 have q0 := C.1
 have q1 := C.2
 obtain ⟨-, -, -, -, -, -, -, p7, p8⟩ := Blk.p9 (B1.keep KX6)
 have hN : (clampI c.cap 1 256 != c.cap) = !withB 1 256 c.cap := vaT _ _ _ (by decide)
 have i0 : (0 : Int) < 2 := by decide
 have i1 : (1 : Int) < 2 := by decide
 have HR := Lib.hid (hR.keep KX6)
 have HS := Lib.hid (show spansB c = true by unfold spansB; rw [HS0.out, HS1.out, HS2.out, HS3.out, HS4.out, HS5.out, HS6.out]; rfl)
 have KX := kW.trans KX6
 clear C BG B1 hR hC HS0 HS1 HS2 HS3 HS4 HS5 HS6 KX0 KX1 KX2 KX3 KX4 KX5 KX6 kW
 rcases hcap : withB 1 256 c.cap with _ | _
 ·rw [hcap] at hN
  have H := Lib.hid (show okCf c = false by unfold okCf; rw [hcap]; simp)
  clear hcap
  go_wp2_with fail
  go_quiet (first | (go_at_call 170; exact Calls.quiet_of_same ((ves _ _ _ _).mono fun _ _ h => ⟨h.1, h.2.symm⟩)))
  go_wp2_with fail
  exact ⟨rfl, MustC.no H.out (KX.drewN _)⟩
 rw [hcap] at hN
 have HW := Lib.hid hcap
 clear hcap
 go_wp2_with fail
 go_quiet (first | (go_at_call 170; exact Calls.quiet_of_same ((ves _ _ _ _).mono fun _ _ h => ⟨h.1, h.2.symm⟩)))
 rcases hl : decide ((c.own.length : Int) ≤ min 16 c.cap) with _ | _
 ·have H := Lib.hid (show okCf c = false by unfold okCf; rw [hl]; simp)
  have h1 := of_decide_eq_false hl
  clear hl
  go_wp2_with fail
  all_goals exact ⟨rfl, MustC.no H.out (KX.drewN _)⟩
 have HL := Lib.hid hl
 have h1 := of_decide_eq_true hl
 have hlen : c.own.length ≤ 16 := by omega
 have hfin : freeB c.own = true → okCf c = true := fun hf => by
  unfold okCf
  rw [HS.out, HW.out, HL.out, hf]
  rfl
 have hbad : freeB c.own = false → okCf c = false := fun hf => by
  unfold okCf
  rw [hf]
  simp
 have HF := Lib.hid hfin
 have HX := Lib.hid hbad
 clear hl hfin hbad HW HL HS hN
 go_wp2_with fail
 all_goals
  go_loopw [55] (fun i wr => ∃ k : Nat, k ≤ c.own.length ∧ i = .int .i64 k ∧ Hid (freeB (c.own.take k) = true) ∧ Kp Z6 wr ∧ Kp w wr) (fun i _ => c.own.length - (intOf i).toNat)
  case atStart => exact ⟨0, Nat.zero_le _, rfl, Lib.hid rfl, (Kp.refl _).drewN _, KX.drewN _⟩
  case round =>
   obtain ⟨k, hk, rfl, hall, hK, hKw⟩ := hrel
   by_cases hlt : k < c.own.length
   ·obtain ⟨a, off, rfl, c0, c1⟩ := pi_at (HR.out.keep hK) hlt
    have hak := Ha.out k hlt
    have hkm : k ≤ m := by omega
    have s8 : wr.cell? ⟨b, 8, none⟩ = some (.slice (some ⟨a, off, none⟩) c.own.length m) := hK.cell p8
    obtain ⟨f, hf⟩ : ∃ f, wr.heap.size = f := ⟨_, rfl⟩
    obtain ⟨V, hV, kV, kVw, D0⟩ : ∃ V, wr.alloc (.cells #[.int .u32 (c.own[k].a : Int), .int .i64 c.own[k].l] 39) = V ∧ Kp Z6 V ∧ Kp w V ∧ Blk V f 39 #[.int .u32 (c.own[k].a : Int), .int .i64 c.own[k].l] := ⟨_, rfl, hK.alloc _, hKw.alloc _, by rw [← hf]; exact Blk.new _ _ _⟩
    obtain ⟨v0, v1⟩ := Blk.v2 D0 (.int .u32 (c.own[k].a : Int)) (.int .i64 c.own[k].l) rfl
    go_wp2_with fail
    refine (vna c.own[k] _ hak).mono ?_
    rintro e V1 ⟨x0, x1, x2, x3, x4, x5, rfl, K1⟩
    clear c0 c1 v0 v1 s8 hV
    obtain ⟨V2, hV2, kV2, kV2w, D2⟩ : ∃ V2, V1.alloc (.cells #[.int .i64 x0, .int .i64 x1, .int .u32 x2, .int .u32 x3, .int .u32 x4, .int .u32 x5] 66) = V2 ∧ Kp Z6 V2 ∧ Kp w V2 ∧ Blk V2 f 39 #[.int .u32 (c.own[k].a : Int), .int .i64 c.own[k].l] := ⟨_, rfl, (kV.trans K1).alloc _, (kVw.trans K1).alloc _, (D0.keep K1).alloc _⟩
    obtain ⟨v0, v1⟩ := Blk.v2 D2 (.int .u32 (c.own[k].a : Int)) (.int .i64 c.own[k].l) rfl
    have s8 : V2.cell? ⟨b, 8, none⟩ = some (.slice (some ⟨a, off, none⟩) c.own.length m) := kV2.cell p8
    have hs := vbI hlt
    rw [hall.out, Bool.true_and] at hs
    cases ht : toldB c.own[k] with
    | false =>
     rw [ht, Bool.false_and] at hs
     have H := Lib.hid (HX.out (vcu hs))
     clear hs ht hall
     go_wp2_with fail
     go_quiet (fail)
     go_wp2_with fail
     exact ⟨rfl, MustC.no H.out (kV2w.drewN _)⟩
    | true =>
     rw [ht, Bool.true_and] at hs
     have htk : (c.own.take k).length = k := by rw [List.length_take]; omega
     have hh := fun u (hu : Rd u 2 PI.enc (some ⟨a, off, none⟩) (c.own.take k)) => vlO (some ⟨a, off, none⟩) m (c.own.take k) c.own[k] u hu (by omega)
     rw [htk] at hh
     have HT := Lib.hid (show Rd V2 2 PI.enc (some ⟨a, off, none⟩) (c.own.take k) from vji (HR.out.keep kV2) k)
     have K : Kp V2 V2.drew := (Kp.refl V2).drew
     rcases hin : decide (c.own[k] ∈ c.own.take k) with _ | _
     ·rw [hin] at hh
      have H := Lib.hid (show freeB (c.own.take (k + 1)) = true by rw [hs]; simpa using hin)
      have HH := Lib.hid hh
      clear hs ht hall hin hh htk
      go_wp2_with fail
      go_region_held3 (fun w' => w'.cell? ⟨f, 0, none⟩ = some (.int .u32 (c.own[k].a : Int)) ∧ w'.cell? ⟨f, 1, none⟩ = some (.int .i64 c.own[k].l) ∧ w'.cell? ⟨b, 8, none⟩ = some (.slice (some ⟨a, off, none⟩) c.own.length m))
       (first | exact ⟨K.cell v0, K.cell v1, K.cell s8⟩ | go_keep)
       (first | (go_at_call 171; refine (HH.out _ (HT.out.keep K)).mono ?_; rintro e wv ⟨rfl, hKv⟩; have K := K.trans hKv; clear hKv))
      all_goals (try go_wp2_with fail)
      go_roundw
      case rel => exact ⟨k + 1, by omega, by go_num, H, kV2.trans K, kV2w.trans K⟩
      case measure => simp [intOf]; omega
     ·rw [hin] at hh
      have H := Lib.hid (HX.out (vcu (i := k + 1) (by rw [hs]; simpa using hin)))
      have HH := Lib.hid hh
      clear hs ht hall hin hh htk
      go_wp2_with fail
      go_region_held3 (fun w' => w'.cell? ⟨f, 0, none⟩ = some (.int .u32 (c.own[k].a : Int)) ∧ w'.cell? ⟨f, 1, none⟩ = some (.int .i64 c.own[k].l) ∧ w'.cell? ⟨b, 8, none⟩ = some (.slice (some ⟨a, off, none⟩) c.own.length m))
       (first | exact ⟨K.cell v0, K.cell v1, K.cell s8⟩ | go_keep)
       (first | (go_at_call 171; refine (HH.out _ (HT.out.keep K)).mono ?_; rintro e wv ⟨rfl, hKv⟩; have K := K.trans hKv; clear hKv))
      all_goals (try go_wp2_with fail)
      exact ⟨rfl, MustC.no H.out (kV2w.trans K)⟩
   ·obtain rfl : k = c.own.length := by omega
    have H := Lib.hid (HF.out (by have := hall.out; rwa [List.take_length] at this))
    clear hall
    go_wp2_with fail
    go_end0
    exact MustC.yes H.out hKw
theorem vnV (e : Int) (w : World) : (Instr.typeAssert (stopCV e) 20 289 true).run Tryz.prog w = .ok (.tuple #[.int .i64 e, .bool true]) w := by kernel_rfl
theorem vnW (w : World) : (Instr.typeAssert .nilIface 20 289 true).run Tryz.prog w = .ok (.tuple #[.int .i64 0, .bool false]) w := by kernel_rfl
set_option maxRecDepth 100000 in
theorem vhO (p : Nat) (y : Value) (e : Int) (w : World) (h1 : Blk w p 44 #[y]) : Calls Tryz.prog 115 #[stopCV e, .pointer (some ⟨p, 0, none⟩)] w fun en w' => en = .returned (.bool true) ∧ Blk w' p 44 #[.int .i64 e] ∧ Only [p] w w' := by
 have d0 : w.cell? ⟨p, 0, none⟩ = some y := h1.cell 0
 have z0 := Blk.frozen h1
 have hty := vnV
 go_enter Tryz.func115, Tryz.ntmps115
 go_wp2_with fail
 go_ret
 exact ⟨rfl, h1.set_ 0 (.int .i64 e), (Only.refl [p] w).setCell (p := ⟨p, 0, none⟩) (.inl (by simp)) (.int .i64 e)⟩
set_option maxRecDepth 100000 in
theorem vjj (p : Value) (w : World) : Calls Tryz.prog 115 #[.nilIface, p] w fun en w' => en = .returned (.bool false) ∧ w' = w := by
 have hty := vnW
 go_enter Tryz.func115, Tryz.ntmps115
 go_wp2_with fail
 go_ret
 exact ⟨rfl, rfl⟩
theorem vdD : recM .returning = (.nilIface, .returning) := rfl
theorem vdE {P : Program} {f : FuncId} {fn : Func} {id : Nat} {o : Oper} {rest : List Oper} {args : Array Value} {u : FrameMode} {w : World} {R : Ending → FrameMode → World → Prop}
  (v : Value) (u' : FrameMode) (hm : recM u = (v, u'))
  (hf : P.funcs[f]? = some fn) (hb : fn.body = some (.region id (o :: rest).toArray false)) (hg : o.guard = none) (hop : o.op = .call { callee := .builtin .recover, args := #[], argTypes := #[] })
  (h : wpList P (o :: rest).toArray (bodyPost P fn (fun e w => R e u' w)) rest
   (Act.put { tmps := args ++ Array.replicate (fn.ntmps - args.size) undef, defers := [] } o.dst v) w) : CallsD P f args u w R := by
 refine callsD_of_wpS hf hb fun c₀ cs hu => ?_
 refine vcb hg hop ?_
 subst hu
 rw [hm]
 have hQ : ∀ e a w, bodyPost P fn (fun e w => R e u' w) e a w → bodyPostS P fn c₀ cs R e a ({ c₀ with mode := u' } :: cs) w := fun e a w hq => vav hq
 have key : ∀ (l : List Oper) (a : Act) (w : World), wpList P (o :: rest).toArray (bodyPost P fn (fun e w => R e u' w)) l a w →
   wpList P (o :: rest).toArray (fun e a w => bodyPostS P fn c₀ cs R e a ({ c₀ with mode := u' } :: cs) w) l a w := by
  intro l
  induction l with
  | nil => intro a w hh; exact hQ _ _ _ hh
  | cons o' l ih =>
   intro a w hh
   unfold wpList at hh ⊢
   split
   ·rename_i hwn
    rw [if_pos hwn] at hh
    rcases hh with hh | ⟨ha, a₀, w₀, hq⟩
    ·left
     unfold Oper.wp Oper.upon at hh ⊢
     split at hh
     ·exact ih _ _ hh
     ·exact ih _ _ hh
     ·exact ih _ _ hh
     ·refine hh.mono fun e w'' hr => ?_
      cases e with
      | returned v => exact ih _ _ hr
      | panicked ch => exact hQ _ _ _ hr
      | outgrown => obtain ⟨a₀, w₀, hq⟩ := hr; exact ⟨a₀, w₀, hQ _ _ _ hq⟩
     ·exact hh.mono fun v w'' hr => ih _ _ hr
     ·exact hQ _ _ _ hh
     ·exact hh.elim
    ·exact .inr ⟨ha, a₀, w₀, hQ _ _ _ hq⟩
   ·rename_i hwn
    rw [if_neg hwn] at hh
    exact ih _ _ hh
 exact key _ _ _ h
def upC (e : Int) : FrameMode := .panicking [{ v := stopCV e, recovered := false }]
def caughtC (e : Int) : FrameMode := .panicking [{ v := stopCV e, recovered := true }]
theorem vlQ (e : Int) : recM (upC e) = (stopCV e, caughtC e) := rfl
set_option maxRecDepth 100000 in
theorem vgo (p : Nat) (y : Value) (e : Int) (w : World) (h1 : Blk w p 44 #[y]) :
  CallsD Tryz.prog 114 #[.pointer (some ⟨p, 0, none⟩)] (upC e) w fun en u' w' =>
   en = .returned (.tuple #[]) ∧ u' = caughtC e ∧ Blk w' p 44 #[.int .i64 e] ∧ Only [p] w w' := by
 refine vdE _ _ (vlQ e) Tryz.func114 rfl rfl rfl ?_
 simp only [Tryz.ntmps114, Act.put, List.size_toArray, List.length_cons, List.length_nil, Nat.reduceAdd, Nat.reduceSub, Array.replicate_succ, Array.replicate_zero, List.push_toArray, List.append_toArray, List.nil_append, List.cons_append]
 go_wp2_with fail
 refine (vhO p y e _ h1).mono ?_
 rintro en w' ⟨rfl, hB, hO⟩
 go_wp2_with fail
 go_end0
 exact ⟨rfl, trivial, hB, hO⟩
set_option maxRecDepth 100000 in
theorem vhP (p : Value) (w : World) :
  CallsD Tryz.prog 114 #[p] .returning w fun en u' w' => en = .returned (.tuple #[]) ∧ u' = .returning ∧ w' = w := by
 refine vdE _ _ vdD Tryz.func114 rfl rfl rfl ?_
 simp only [Tryz.ntmps114, Act.put, List.size_toArray, List.length_cons, List.length_nil, Nat.reduceAdd, Nat.reduceSub, Array.replicate_succ, Array.replicate_zero, List.push_toArray, List.append_toArray, List.nil_append, List.cons_append]
 go_wp2_with fail
 refine (vjj p _).mono ?_
 rintro en w' ⟨rfl, rfl⟩
 go_wp2_with fail
 go_end0
 exact ⟨rfl, trivial, rfl⟩
set_option maxRecDepth 100000 in
theorem vet (c : Cf) (A : Option Addr) (m : Nat) (w : World) (hm : c.own.length ≤ m) (hR : Rd w 2 PI.enc A c.own) (hC : CapAt w) (ha : ∀ k (hk : k < c.own.length), c.own[k].a < 4294967296) :
  Calls Tryz.prog 49 #[cfV c A c.own.length m] w fun e w' => e = .returned (.int .i64 (checkC c)) ∧ Kp w w' := by
 obtain ⟨b, hb⟩ : ∃ b, w.heap.size = b := ⟨_, rfl⟩
 obtain ⟨W, hW, kW, B0, B1⟩ := Blk.al2 hb (cfC c A c.own.length m) 49 #[.int .i64 0] 44
 have hR := hR.keep kW
 have hC := hC.keep kW
 have c0 := Blk.f B0 rfl
 unfold cfC at hW
 go_enter_defers Tryz.func49, Tryz.ntmps49
 go_wp2_with fail
 refine (vlP c A m _ hm hR hC ha).mono ?_
 rintro e w1 ⟨hY, hN, K1⟩
 have B2 := B1.keep K1
 have k1 := kW.trans K1
 clear c0
 cases hok : okCf c with
 | true =>
  obtain rfl := hY hok
  have d0 : w1.cell? ⟨b + 1, 0, none⟩ = some (.int .i64 0) := B2.cell 0
  have z0 := Blk.frozen B2
  have H := Lib.hid (show checkC c = 0 by unfold checkC; rw [hok]; rfl)
  clear hY hN hok
  go_wp2_with fail
  refine leaves_cons (f := 114) (args := #[.pointer (some ⟨b + 1, 0, none⟩)]) (by simp) (by simp [go_sem]) ?_
  refine (vhP _ _).mono ?_
  rintro e u' wz ⟨rfl, rfl, rfl⟩
  have D := B2.set_ 0 (.int .i64 0)
  have q : (w1.setCell ⟨b + 1, 0, none⟩ (.int .i64 0)).cell? ⟨b + 1, 0, none⟩ = some (.int .i64 0) := D.cell 0
  show Leaves _ _ _ _ [] .returning _
  exact ⟨.int .i64 0, by simp [results, Tryz.results49, go_sem, q], by rw [H.out], k1.setCell (by show w.heap.size ≤ b + 1; omega) _⟩
 | false =>
  obtain rfl := hN hok
  have H := Lib.hid (show checkC c = 2 by unfold checkC; rw [hok]; rfl)
  clear hY hN hok
  go_wp2_with fail
  refine leaves_cons (f := 114) (args := #[.pointer (some ⟨b + 1, 0, none⟩)]) (by simp) (by simp [go_sem]) ?_
  refine (vgo (b + 1) _ 2 _ B2).mono ?_
  rintro e u' wz ⟨rfl, rfl, C, hO⟩
  have q : wz.cell? ⟨b + 1, 0, none⟩ = some (.int .i64 2) := C.cell 0
  show Leaves _ _ _ _ [] .returning _
  exact ⟨.int .i64 2, by simp [results, Tryz.results49, go_sem, q], by rw [H.out], hO.kp k1 (by simp; omega)⟩
attribute [local go_sem] Oper.semAt_some
theorem PI.one (p : PI) : ∀ u ∈ p.enc, u.oneCell' = true := by
 intro u hu
 simp only [PI.enc, List.mem_cons, List.not_mem_nil, or_false] at hu
 rcases hu with rfl | rfl <;> rfl
theorem EPfx : ElemOf Tryz.prog 47 39 (.agg #[.int .u32 0, .int .i64 0]) 2 16 := ⟨Tryz.underlying47, by kernel_rfl, rfl, by decide⟩
structure SlPI (w : World) (A : Option Addr) (m : Nat) (ps : List PI) : Prop where
 rd : Rd w 2 PI.enc A ps
 le : ps.length ≤ m
 nil : A = none → ps = [] ∧ m = 0
theorem SlPI.keep {w w' : World} {A : Option Addr} {m : Nat} {ps : List PI} (h : SlPI w A m ps) (k : Kp w w') : SlPI w' A m ps := ⟨h.rd.keep k, h.le, h.nil⟩
theorem SlPI.of_own {w : World} {B : Nat} {A : Option Addr} {n m : Nat} {ps : List PI} (h : Own w B 39 2 PI.enc (.slice A n m) ps) : SlPI w A m ps := by
 refine ⟨h.rdAt (by decide) PI.len, ?_, ?_⟩
 ·rcases h.2 with ⟨hv, h0⟩ | ⟨g, cap, cur, hv, _, _, hc, _⟩
  ·omega
  ·injection hv with _ _ e
   omega
 ·intro e
  rcases h.2 with ⟨hv, h0⟩ | ⟨g, cap, cur, hv, _⟩
  ·injection hv with _ _ e3
   exact ⟨List.length_eq_zero_iff.1 h0, e3⟩
  ·injection hv with e1
   rw [e] at e1
   cases e1
def PClonP (w : World) (ps : List PI) (e : Ending) (w' : World) : Prop := ∃ A c, e = .returned (.slice A ps.length c) ∧ Own w' w.heap.size 39 2 PI.enc (.slice A ps.length c) ps ∧ Kp w w'
theorem vlR (w : World) : (binOp .eql 47 (.slice none 0 0) (.slice none 0 0)).run Tryz.prog w = .ok (.bool true) w := by kernel_rfl
set_option maxRecDepth 100000 in
theorem vhQ (A : Option Addr) (c : Nat) (ps : List PI) (w : World) (hS : SlPI w A c ps) (hn : ps.length ≤ 1000000) :
  Calls Tryz.prog 117 #[.slice A ps.length c] w (PClonP w ps) := by
 cases A with
 | none =>
  obtain ⟨rfl, rfl⟩ := hS.nil rfl
  have h1 := vlR
  simp only [List.length_nil]
  go_enter Tryz.func117, Tryz.ntmps117
  go_wp2_with fail
  go_ret
  exact ⟨none, 0, rfl, Own.nil _ _ _ _ _, Kp.refl _⟩
 | some g =>
  have hR := hS.rd
  have hE : Own (w.alloc (.cells #[] 39)) w.heap.size 39 2 PI.enc (.slice (some ⟨w.heap.size, 0, none⟩) 0 0) [] := Own.empty (Nat.le_refl _) (Blk.new w _ _)
  have hnil : ∀ w : World, (binOp .eql 47 (.slice (some g) ps.length c) (.slice none 0 0)).run Tryz.prog w = .ok (.bool false) w := fun _ => by kernel_rfl
  go_enter Tryz.func117, Tryz.ntmps117
  go_wp2_with (at_builtin; go_loud (refine vgl EPfx PI.len PI.one rfl _ _ rfl rfl rfl hE (hR.keep ((Kp.refl _).alloc _)) (by simp; omega) (by simp) ?_; intro v' w1 hown hg hat; rw [List.nil_append] at hown; have hK1 : Kp w w1 := ((Kp.refl w).alloc _).grown hg (fun q hq => (World.ownsRow.lt hE q hq).1); clear hg hat hE; obtain ⟨A', c', rfl⟩ := hown.form))
  go_ret
  exact ⟨_, _, rfl, hown, hK1⟩
def cfSet (w : World) (g : Nat) (c : Cf) (A : Option Addr) (n m : Nat) : World := (((((((((w.setCell ⟨g, 0, none⟩ (.int .i64 c.t0)).setCell ⟨g, 1, none⟩ (.int .i64 c.t1)).setCell ⟨g, 2, none⟩ (.int .i64 c.t2)).setCell ⟨g, 3, none⟩ (.int .i64 c.t3)).setCell ⟨g, 4, none⟩ (.int .i64 c.t4)).setCell ⟨g, 5, none⟩ (.int .i64 c.t5)).setCell ⟨g, 6, none⟩ (.int .i64 c.t6)).setCell ⟨g, 7, none⟩ (.int .i64 c.cap)).setCell ⟨g, 8, none⟩ (.slice A n m))
theorem Blk.putCf {w : World} {g : Nat} {T : TypeId} {v0 v1 v2 v3 v4 v5 v6 v7 v8 : Value} (h : Blk w g T #[v0, v1, v2, v3, v4, v5, v6, v7, v8]) (c : Cf) (A : Option Addr) (n m : Nat) : Blk (cfSet w g c A n m) g T (cfC c A n m) := by
 have H := (((((((((h.set_ 0 (.int .i64 c.t0)).set_ 1 (.int .i64 c.t1)).set_ 2 (.int .i64 c.t2)).set_ 3 (.int .i64 c.t3)).set_ 4 (.int .i64 c.t4)).set_ 5 (.int .i64 c.t5)).set_ 6 (.int .i64 c.t6)).set_ 7 (.int .i64 c.cap)).set_ 8 (.slice A n m))
 simp only [List.setIfInBounds_toArray, List.set_cons_zero, List.set_cons_succ] at H
 exact H
theorem Kp.putCf {a w : World} (h : Kp a w) {g : Nat} (hg : a.heap.size ≤ g) (c : Cf) (A : Option Addr) (n m : Nat) : Kp a (cfSet w g c A n m) := (((((((((h.setCell (p := ⟨g, 0, none⟩) hg (.int .i64 c.t0)).setCell (p := ⟨g, 1, none⟩) hg (.int .i64 c.t1)).setCell (p := ⟨g, 2, none⟩) hg (.int .i64 c.t2)).setCell (p := ⟨g, 3, none⟩) hg (.int .i64 c.t3)).setCell (p := ⟨g, 4, none⟩) hg (.int .i64 c.t4)).setCell (p := ⟨g, 5, none⟩) hg (.int .i64 c.t5)).setCell (p := ⟨g, 6, none⟩) hg (.int .i64 c.t6)).setCell (p := ⟨g, 7, none⟩) hg (.int .i64 c.cap)).setCell (p := ⟨g, 8, none⟩) hg (.slice A n m))
theorem Own.putCf {α : Type} {w : World} {B e sz : Nat} {enc : α → List Value} {v : Value} {xs : List α} (h : Own w B e sz enc v xs) {g : Nat} (hg : g < B) (c : Cf) (A : Option Addr) (n m : Nat) : Own (cfSet w g c A n m) B e sz enc v xs := (((((((((h.setBelow (p := ⟨g, 0, none⟩) hg (.int .i64 c.t0)).setBelow (p := ⟨g, 1, none⟩) hg (.int .i64 c.t1)).setBelow (p := ⟨g, 2, none⟩) hg (.int .i64 c.t2)).setBelow (p := ⟨g, 3, none⟩) hg (.int .i64 c.t3)).setBelow (p := ⟨g, 4, none⟩) hg (.int .i64 c.t4)).setBelow (p := ⟨g, 5, none⟩) hg (.int .i64 c.t5)).setBelow (p := ⟨g, 6, none⟩) hg (.int .i64 c.t6)).setBelow (p := ⟨g, 7, none⟩) hg (.int .i64 c.cap)).setBelow (p := ⟨g, 8, none⟩) hg (.slice A n m))
theorem veQ {w : World} {g : Nat} {T : TypeId} {c : Cf} {A : Option Addr} {n m : Nat} (h : Blk w g T (cfC c A n m)) : w.cell? ⟨g, 0, none⟩ = some (.int .i64 c.t0) ∧ w.cell? ⟨g, 1, none⟩ = some (.int .i64 c.t1) ∧ w.cell? ⟨g, 2, none⟩ = some (.int .i64 c.t2) ∧ w.cell? ⟨g, 3, none⟩ = some (.int .i64 c.t3) ∧ w.cell? ⟨g, 4, none⟩ = some (.int .i64 c.t4) ∧ w.cell? ⟨g, 5, none⟩ = some (.int .i64 c.t5) ∧ w.cell? ⟨g, 6, none⟩ = some (.int .i64 c.t6) ∧ w.cell? ⟨g, 7, none⟩ = some (.int .i64 c.cap) ∧ w.cell? ⟨g, 8, none⟩ = some (.slice A n m) := ⟨h.cell 0, h.cell 1, h.cell 2, h.cell 3, h.cell 4, h.cell 5, h.cell 6, h.cell 7, h.cell 8⟩
def CCopyP (c : Cf) (w : World) (e : Ending) (w' : World) : Prop := ∃ A m, e = .returned (cfV c A c.own.length m) ∧ Own w' w.heap.size 39 2 PI.enc (.slice A c.own.length m) c.own ∧ Kp w w'
set_option maxRecDepth 100000 in
theorem vjk (c : Cf) (A : Option Addr) (m : Nat) (w : World) (hS : SlPI w A m c.own) (hn : c.own.length ≤ 1000000) :
  Calls Tryz.prog 51 #[cfV c A c.own.length m] w (CCopyP c w) := by
 obtain ⟨b, hb⟩ : ∃ b, w.heap.size = b := ⟨_, rfl⟩
 obtain ⟨W, hW, kW, B0, B1⟩ := Blk.al2 hb (cfC c A c.own.length m) 49 #[.int .i64 0, .int .i64 0, .int .i64 0, .int .i64 0, .int .i64 0, .int .i64 0, .int .i64 0, .int .i64 0, .slice none 0 0] 49
 have hS := hS.keep kW
 have c8 := Blk.f B0 rfl
 have hbW := B1.lt
 unfold cfC at hW
 go_enter Tryz.func51, Tryz.ntmps51
 go_wp2_with fail
 refine (vhQ A m c.own _ hS hn).mono ?_
 rintro e w1 ⟨A', m', rfl, hO, K1⟩
 have B2 := B0.keep K1
 have B3 := B1.keep K1
 have k1 := kW.trans K1
 clear c8 hW
 have z8 := B2.frozen 8
 have c8 := Blk.f B2 rfl
 obtain ⟨W2, hW2, B4, B5, k2, hO2⟩ : ∃ W2, w1.setCell ⟨b, 8, none⟩ (.slice A' c.own.length m') = W2 ∧ Blk W2 b 49 (cfC c A' c.own.length m') ∧ Blk W2 (b + 1) 49 #[.int .i64 0, .int .i64 0, .int .i64 0, .int .i64 0, .int .i64 0, .int .i64 0, .int .i64 0, .int .i64 0, .slice none 0 0] ∧ Kp w W2 ∧ Own W2 W.heap.size 39 2 PI.enc (.slice A' c.own.length m') c.own :=
  ⟨_, rfl, by have := B2.set_ 8 (.slice A' c.own.length m'); simpa [cfC] using this, B3.far (p := ⟨b, 8, none⟩) (by show b + 1 ≠ b; omega) _, k1.setCell (by show w.heap.size ≤ b; omega) _, hO.setBelow (p := ⟨b, 8, none⟩) (by show b < W.heap.size; omega) _⟩
 have hO := Lib.hid hO2
 have hbw : b + 1 < W2.heap.size := B5.lt
 have p0 := Blk.f B4 rfl
 have q0 := Blk.f (l := [.int .i64 0, .int .i64 0, .int .i64 0, .int .i64 0, .int .i64 0, .int .i64 0, .int .i64 0, .int .i64 0, .slice none 0 0]) B5 rfl
 have z0_ := Blk.frozen B5
 clear hO2
 go_wp2_with fail
 obtain ⟨W3, hW3, B6, k3, hO3⟩ : ∃ W3, cfSet W2 (b + 1) c A' c.own.length m' = W3 ∧ Blk W3 (b + 1) 49 (cfC c A' c.own.length m') ∧ Kp w W3 ∧ Own W3 w.heap.size 39 2 PI.enc (.slice A' c.own.length m') c.own :=
  ⟨_, rfl, B5.putCf c A' c.own.length m', k2.putCf (by omega) c A' c.own.length m', (hO.out.putCf (by omega) c A' c.own.length m').mono kW.size⟩
 unfold cfSet at hW3
 rw [hW3]
 clear hW3 p0 q0 z0_
 obtain ⟨y0, y1, y2, y3, y4, y5, y6, y7, y8⟩ := veQ B6
 exact ⟨rfl, cfV c A' c.own.length m', by simp [results, Tryz.results51, go_sem, y0, y1, y2, y3, y4, y5, y6, y7, y8], A', m', rfl, hO3, k3⟩
end

end Go.Proofs.YtgopnfacklmkaaaGreatDoor
