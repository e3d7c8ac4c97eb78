/- Lemmas and contracts for the theorem of this claim: CfD. -/
import Derived.Test.YtffckpkikdlbpaaGreatDoorZtAn
import Derived.BigQuiet
set_option linter.unusedSimpArgs false
set_option linter.unusedVariables false
namespace Go.Proofs.YtffckpkikdlbpaaGreatDoor
open Go.RowKit
abbrev stopCV (e : Int) : Value := .iface 187 (.int .i64 e)
abbrev stopC (e : Int) : Ending := .panicked [{ v := stopCV e, recovered := false }]
def CapAt (w : World) : Prop := w.cell? ⟨1, 0, none⟩ = some (.int .i64 1) ∧ w.cell? ⟨1, 1, none⟩ = some (.int .i64 256)
theorem CapAt.keep {w w' : World} (h : CapAt w) (k : Kp w w') : CapAt w' := ⟨k.cell h.1, k.cell h.2⟩
def MustC (c : Cf) (w : World) (e : Ending) (w' : World) : Prop := (okCf c = true → e = .returned (.tuple #[])) ∧ (okCf c = false → e = stopC 2) ∧ Kp w w'
theorem MustC.no {c : Cf} {w w' : World} (h : okCf c = false) (k : Kp w w') : MustC c w (stopC 2) w' := ⟨fun e => (by rw [h] at e; cases e), fun _ => rfl, k⟩
theorem MustC.yes {c : Cf} {w w' : World} (h : okCf c = true) (k : Kp w w') : MustC c w (.returned (.tuple #[])) w' := ⟨fun _ => rfl, fun e => (by rw [h] at e; cases e), k⟩
theorem span_no {c : Cf} {k : Nat} (hk : k < 7) (h : spanB k c = false) : okCf c = false := by
  unfold okCf spansB
  have : k = 0 ∨ k = 1 ∨ k = 2 ∨ k = 3 ∨ k = 4 ∨ k = 5 ∨ k = 6 := by omega
  rcases this with rfl | rfl | rfl | rfl | rfl | rfl | rfl <;> simp [h]
theorem rd_take {α : Type} {w : World} {n : Nat} {enc : α → List Value} {A : Option Addr} {xs : List α} (h : Rd w n enc A xs) (k : Nat) : Rd w n enc A (xs.take k) := fun i hi => by
  have h2 : i < xs.length := by rw [List.length_take] at hi; omega
  obtain ⟨b, off, e, hc⟩ := h i h2
  exact ⟨b, off, e, fun j u hj => hc j u (by rw [List.getElem_take] at hj; exact hj)⟩
set_option maxRecDepth 100000 in
set_option maxHeartbeats 8000000 in
theorem must_any (c : Cf) (A : Option Addr) (m : Nat) (w : World) (hm : c.own.length ≤ m) (hR : Rd w 2 PI.enc A c.own) (hC : CapAt w) (ha : ∀ k (hk : k < c.own.length), c.own[k].a < 4294967296) :
    Calls Tryz.prog 96 #[cfV c A c.own.length m] w (MustC c w) := by
  obtain ⟨b, hb⟩ : ∃ b, w.heap.size = b := ⟨_, rfl⟩
  obtain ⟨W, hW, kW, B0⟩ : ∃ W, w.alloc (.cells (cfC c A c.own.length m) 145) = W ∧ Kp w W ∧ Blk W b 145 (cfC c A c.own.length m) := ⟨_, rfl, (Kp.refl _).alloc _, by rw [← hb]; exact Blk.new w _ _⟩
  have hR := hR.keep kW
  have hC := hC.keep kW
  have Ha := Lib.hid ha
  clear ha
  unfold cfC at hW
  go_enter Tryz.func96, Tryz.ntmps96
  go_wp2_with fail
  clear hW hb
  refine (spans_any _).mono ?_
  rintro e w1 ⟨g, n, rfl, BG, hg, K1⟩
  have B1 := B0.keep K1
  have hR := hR.keep K1
  have hC := hC.keep K1
  have kW := kW.trans K1
  clear B0 K1 hg
  have hbl := B1.lt
  go_wp2_with fail
  refine wp_loop_rounds 8 ?_
  -- round 0
  rw [rounds_succ]
  obtain ⟨d, hd⟩ : ∃ d, w1.heap.size = d := ⟨_, rfl⟩
  obtain ⟨Y, hY, KY, DY⟩ : ∃ Y, w1.alloc (.cells #[.string (n 0), .int .i64 1, .func (.func 145) #[] #[]] 176) = Y ∧ Kp w1 Y ∧ Blk Y d 176 #[.string (n 0), .int .i64 1, .func (.func 145) #[] #[]] := ⟨_, rfl, (Kp.refl w1).alloc _, by rw [← hd]; exact Blk.new _ _ _⟩
  have l0 : w1.cell? ⟨g, 0, none⟩ = some (.string (n 0)) := (BG.keep (Kp.refl w1)).cell 0
  have l1 : w1.cell? ⟨g, 1, none⟩ = some (.int .i64 1) := (BG.keep (Kp.refl w1)).cell 1
  have l2 : w1.cell? ⟨g, 2, none⟩ = some (.func (.func 145) #[] #[]) := (BG.keep (Kp.refl w1)).cell 2
  have y1 : Y.cell? ⟨d, 1, none⟩ = some (.int .i64 1) := DY.cell 1
  have y2 : Y.cell? ⟨d, 2, none⟩ = some (.func (.func 145) #[] #[]) := DY.cell 2
  have c0 : Y.cell? ⟨b, 0, none⟩ = some (.int .i64 c.t0) := (B1.keep KY).cell 0
  have c1 : Y.cell? ⟨b, 1, none⟩ = some (.int .i64 c.t1) := (B1.keep KY).cell 1
  have c2 : Y.cell? ⟨b, 2, none⟩ = some (.int .i64 c.t2) := (B1.keep KY).cell 2
  have c3 : Y.cell? ⟨b, 3, none⟩ = some (.int .i64 c.t3) := (B1.keep KY).cell 3
  have c4 : Y.cell? ⟨b, 4, none⟩ = some (.int .i64 c.t4) := (B1.keep KY).cell 4
  have c5 : Y.cell? ⟨b, 5, none⟩ = some (.int .i64 c.t5) := (B1.keep KY).cell 5
  have c6 : Y.cell? ⟨b, 6, none⟩ = some (.int .i64 c.t6) := (B1.keep KY).cell 6
  have c7 : Y.cell? ⟨b, 7, none⟩ = some (.int .i64 c.cap) := (B1.keep KY).cell 7
  have c8 : Y.cell? ⟨b, 8, none⟩ = some (.slice A c.own.length m) := (B1.keep KY).cell 8
  have HG := Lib.hid BG
  have HB := Lib.hid B1
  have HD := Lib.hid DY
  have HR := Lib.hid hR
  have HC := Lib.hid hC
  clear BG B1 DY hR hC
  go_wp2_with fail
  refine (sp0_any c A c.own.length m _).mono ?_
  rintro e Z0 ⟨rfl, KZ⟩
  have z1 : Z0.cell? ⟨d, 1, none⟩ = some (.int .i64 1) := KZ.cell y1
  have KX0 : Kp w1 Z0 := KY.trans KZ
  clear c0 c1 c2 c3 c4 c5 c6 c7 c8 l0 l1 l2 y1 y2 hY KZ KY hd
  go_wp2_with fail
  refine (clamp64_any _ _ _ _).mono ?_
  rintro e Z' ⟨rfl, rfl⟩
  have hN : (clampI c.t0 1 1000000 != c.t0) = !spanB 0 c := clampI_ne _ _ _ (by decide)
  rcases hs0 : spanB 0 c with _ | _
  · rw [hs0] at hN
    have H := Lib.hid (span_no (by omega) hs0)
    clear hs0
    go_wp2_with fail
    exact ⟨rfl, MustC.no H.out (kW.trans KX0)⟩
  rw [hs0] at hN
  have HS0 := Lib.hid hs0
  clear hs0
  go_wp2_with fail
  have BG := HG.out
  have B1 := HB.out
  have hR := HR.out
  have hC := HC.out
  clear HG HB HD HR HC hN z1
  -- round 1
  rw [rounds_succ]
  obtain ⟨d, hd⟩ : ∃ d, Z0.heap.size = d := ⟨_, rfl⟩
  obtain ⟨Y, hY, KY, DY⟩ : ∃ Y, Z0.alloc (.cells #[.string (n 1), .int .i64 0, .func (.func 146) #[] #[]] 176) = Y ∧ Kp w1 Y ∧ Blk Y d 176 #[.string (n 1), .int .i64 0, .func (.func 146) #[] #[]] := ⟨_, rfl, (KX0).alloc _, by rw [← hd]; exact Blk.new _ _ _⟩
  have l0 : Z0.cell? ⟨g, 3, none⟩ = some (.string (n 1)) := (BG.keep (KX0)).cell 3
  have l1 : Z0.cell? ⟨g, 4, none⟩ = some (.int .i64 0) := (BG.keep (KX0)).cell 4
  have l2 : Z0.cell? ⟨g, 5, none⟩ = some (.func (.func 146) #[] #[]) := (BG.keep (KX0)).cell 5
  have y1 : Y.cell? ⟨d, 1, none⟩ = some (.int .i64 0) := DY.cell 1
  have y2 : Y.cell? ⟨d, 2, none⟩ = some (.func (.func 146) #[] #[]) := DY.cell 2
  have c0 : Y.cell? ⟨b, 0, none⟩ = some (.int .i64 c.t0) := (B1.keep KY).cell 0
  have c1 : Y.cell? ⟨b, 1, none⟩ = some (.int .i64 c.t1) := (B1.keep KY).cell 1
  have c2 : Y.cell? ⟨b, 2, none⟩ = some (.int .i64 c.t2) := (B1.keep KY).cell 2
  have c3 : Y.cell? ⟨b, 3, none⟩ = some (.int .i64 c.t3) := (B1.keep KY).cell 3
  have c4 : Y.cell? ⟨b, 4, none⟩ = some (.int .i64 c.t4) := (B1.keep KY).cell 4
  have c5 : Y.cell? ⟨b, 5, none⟩ = some (.int .i64 c.t5) := (B1.keep KY).cell 5
  have c6 : Y.cell? ⟨b, 6, none⟩ = some (.int .i64 c.t6) := (B1.keep KY).cell 6
  have c7 : Y.cell? ⟨b, 7, none⟩ = some (.int .i64 c.cap) := (B1.keep KY).cell 7
  have c8 : Y.cell? ⟨b, 8, none⟩ = some (.slice A c.own.length m) := (B1.keep KY).cell 8
  have HG := Lib.hid BG
  have HB := Lib.hid B1
  have HD := Lib.hid DY
  have HR := Lib.hid hR
  have HC := Lib.hid hC
  clear BG B1 DY hR hC
  go_wp2_with fail
  refine (sp1_any c A c.own.length m _).mono ?_
  rintro e Z1 ⟨rfl, KZ⟩
  have z1 : Z1.cell? ⟨d, 1, none⟩ = some (.int .i64 0) := KZ.cell y1
  have KX1 : Kp w1 Z1 := KY.trans KZ
  clear c0 c1 c2 c3 c4 c5 c6 c7 c8 l0 l1 l2 y1 y2 hY KZ KY hd
  go_wp2_with fail
  refine (clamp64_any _ _ _ _).mono ?_
  rintro e Z' ⟨rfl, rfl⟩
  have hN : (clampI c.t1 0 1000000 != c.t1) = !spanB 1 c := clampI_ne _ _ _ (by decide)
  rcases hs1 : spanB 1 c with _ | _
  · rw [hs1] at hN
    have H := Lib.hid (span_no (by omega) hs1)
    clear hs1
    go_wp2_with fail
    exact ⟨rfl, MustC.no H.out (kW.trans KX1)⟩
  rw [hs1] at hN
  have HS1 := Lib.hid hs1
  clear hs1
  go_wp2_with fail
  have BG := HG.out
  have B1 := HB.out
  have hR := HR.out
  have hC := HC.out
  clear HG HB HD HR HC hN z1
  -- round 2
  rw [rounds_succ]
  obtain ⟨d, hd⟩ : ∃ d, Z1.heap.size = d := ⟨_, rfl⟩
  obtain ⟨Y, hY, KY, DY⟩ : ∃ Y, Z1.alloc (.cells #[.string (n 2), .int .i64 1, .func (.func 147) #[] #[]] 176) = Y ∧ Kp w1 Y ∧ Blk Y d 176 #[.string (n 2), .int .i64 1, .func (.func 147) #[] #[]] := ⟨_, rfl, (KX1).alloc _, by rw [← hd]; exact Blk.new _ _ _⟩
  have l0 : Z1.cell? ⟨g, 6, none⟩ = some (.string (n 2)) := (BG.keep (KX1)).cell 6
  have l1 : Z1.cell? ⟨g, 7, none⟩ = some (.int .i64 1) := (BG.keep (KX1)).cell 7
  have l2 : Z1.cell? ⟨g, 8, none⟩ = some (.func (.func 147) #[] #[]) := (BG.keep (KX1)).cell 8
  have y1 : Y.cell? ⟨d, 1, none⟩ = some (.int .i64 1) := DY.cell 1
  have y2 : Y.cell? ⟨d, 2, none⟩ = some (.func (.func 147) #[] #[]) := DY.cell 2
  have c0 : Y.cell? ⟨b, 0, none⟩ = some (.int .i64 c.t0) := (B1.keep KY).cell 0
  have c1 : Y.cell? ⟨b, 1, none⟩ = some (.int .i64 c.t1) := (B1.keep KY).cell 1
  have c2 : Y.cell? ⟨b, 2, none⟩ = some (.int .i64 c.t2) := (B1.keep KY).cell 2
  have c3 : Y.cell? ⟨b, 3, none⟩ = some (.int .i64 c.t3) := (B1.keep KY).cell 3
  have c4 : Y.cell? ⟨b, 4, none⟩ = some (.int .i64 c.t4) := (B1.keep KY).cell 4
  have c5 : Y.cell? ⟨b, 5, none⟩ = some (.int .i64 c.t5) := (B1.keep KY).cell 5
  have c6 : Y.cell? ⟨b, 6, none⟩ = some (.int .i64 c.t6) := (B1.keep KY).cell 6
  have c7 : Y.cell? ⟨b, 7, none⟩ = some (.int .i64 c.cap) := (B1.keep KY).cell 7
  have c8 : Y.cell? ⟨b, 8, none⟩ = some (.slice A c.own.length m) := (B1.keep KY).cell 8
  have HG := Lib.hid BG
  have HB := Lib.hid B1
  have HD := Lib.hid DY
  have HR := Lib.hid hR
  have HC := Lib.hid hC
  clear BG B1 DY hR hC
  go_wp2_with fail
  refine (sp2_any c A c.own.length m _).mono ?_
  rintro e Z2 ⟨rfl, KZ⟩
  have z1 : Z2.cell? ⟨d, 1, none⟩ = some (.int .i64 1) := KZ.cell y1
  have KX2 : Kp w1 Z2 := KY.trans KZ
  clear c0 c1 c2 c3 c4 c5 c6 c7 c8 l0 l1 l2 y1 y2 hY KZ KY hd
  go_wp2_with fail
  refine (clamp64_any _ _ _ _).mono ?_
  rintro e Z' ⟨rfl, rfl⟩
  have hN : (clampI c.t2 1 1000000 != c.t2) = !spanB 2 c := clampI_ne _ _ _ (by decide)
  rcases hs2 : spanB 2 c with _ | _
  · rw [hs2] at hN
    have H := Lib.hid (span_no (by omega) hs2)
    clear hs2
    go_wp2_with fail
    exact ⟨rfl, MustC.no H.out (kW.trans KX2)⟩
  rw [hs2] at hN
  have HS2 := Lib.hid hs2
  clear hs2
  go_wp2_with fail
  have BG := HG.out
  have B1 := HB.out
  have hR := HR.out
  have hC := HC.out
  clear HG HB HD HR HC hN z1
  -- round 3
  rw [rounds_succ]
  obtain ⟨d, hd⟩ : ∃ d, Z2.heap.size = d := ⟨_, rfl⟩
  obtain ⟨Y, hY, KY, DY⟩ : ∃ Y, Z2.alloc (.cells #[.string (n 3), .int .i64 0, .func (.func 148) #[] #[]] 176) = Y ∧ Kp w1 Y ∧ Blk Y d 176 #[.string (n 3), .int .i64 0, .func (.func 148) #[] #[]] := ⟨_, rfl, (KX2).alloc _, by rw [← hd]; exact Blk.new _ _ _⟩
  have l0 : Z2.cell? ⟨g, 9, none⟩ = some (.string (n 3)) := (BG.keep (KX2)).cell 9
  have l1 : Z2.cell? ⟨g, 10, none⟩ = some (.int .i64 0) := (BG.keep (KX2)).cell 10
  have l2 : Z2.cell? ⟨g, 11, none⟩ = some (.func (.func 148) #[] #[]) := (BG.keep (KX2)).cell 11
  have y1 : Y.cell? ⟨d, 1, none⟩ = some (.int .i64 0) := DY.cell 1
  have y2 : Y.cell? ⟨d, 2, none⟩ = some (.func (.func 148) #[] #[]) := DY.cell 2
  have c0 : Y.cell? ⟨b, 0, none⟩ = some (.int .i64 c.t0) := (B1.keep KY).cell 0
  have c1 : Y.cell? ⟨b, 1, none⟩ = some (.int .i64 c.t1) := (B1.keep KY).cell 1
  have c2 : Y.cell? ⟨b, 2, none⟩ = some (.int .i64 c.t2) := (B1.keep KY).cell 2
  have c3 : Y.cell? ⟨b, 3, none⟩ = some (.int .i64 c.t3) := (B1.keep KY).cell 3
  have c4 : Y.cell? ⟨b, 4, none⟩ = some (.int .i64 c.t4) := (B1.keep KY).cell 4
  have c5 : Y.cell? ⟨b, 5, none⟩ = some (.int .i64 c.t5) := (B1.keep KY).cell 5
  have c6 : Y.cell? ⟨b, 6, none⟩ = some (.int .i64 c.t6) := (B1.keep KY).cell 6
  have c7 : Y.cell? ⟨b, 7, none⟩ = some (.int .i64 c.cap) := (B1.keep KY).cell 7
  have c8 : Y.cell? ⟨b, 8, none⟩ = some (.slice A c.own.length m) := (B1.keep KY).cell 8
  have HG := Lib.hid BG
  have HB := Lib.hid B1
  have HD := Lib.hid DY
  have HR := Lib.hid hR
  have HC := Lib.hid hC
  clear BG B1 DY hR hC
  go_wp2_with fail
  refine (sp3_any c A c.own.length m _).mono ?_
  rintro e Z3 ⟨rfl, KZ⟩
  have z1 : Z3.cell? ⟨d, 1, none⟩ = some (.int .i64 0) := KZ.cell y1
  have KX3 : Kp w1 Z3 := KY.trans KZ
  clear c0 c1 c2 c3 c4 c5 c6 c7 c8 l0 l1 l2 y1 y2 hY KZ KY hd
  go_wp2_with fail
  refine (clamp64_any _ _ _ _).mono ?_
  rintro e Z' ⟨rfl, rfl⟩
  have hN : (clampI c.t3 0 1000000 != c.t3) = !spanB 3 c := clampI_ne _ _ _ (by decide)
  rcases hs3 : spanB 3 c with _ | _
  · rw [hs3] at hN
    have H := Lib.hid (span_no (by omega) hs3)
    clear hs3
    go_wp2_with fail
    exact ⟨rfl, MustC.no H.out (kW.trans KX3)⟩
  rw [hs3] at hN
  have HS3 := Lib.hid hs3
  clear hs3
  go_wp2_with fail
  have BG := HG.out
  have B1 := HB.out
  have hR := HR.out
  have hC := HC.out
  clear HG HB HD HR HC hN z1
  -- round 4
  rw [rounds_succ]
  obtain ⟨d, hd⟩ : ∃ d, Z3.heap.size = d := ⟨_, rfl⟩
  obtain ⟨Y, hY, KY, DY⟩ : ∃ Y, Z3.alloc (.cells #[.string (n 4), .int .i64 1, .func (.func 149) #[] #[]] 176) = Y ∧ Kp w1 Y ∧ Blk Y d 176 #[.string (n 4), .int .i64 1, .func (.func 149) #[] #[]] := ⟨_, rfl, (KX3).alloc _, by rw [← hd]; exact Blk.new _ _ _⟩
  have l0 : Z3.cell? ⟨g, 12, none⟩ = some (.string (n 4)) := (BG.keep (KX3)).cell 12
  have l1 : Z3.cell? ⟨g, 13, none⟩ = some (.int .i64 1) := (BG.keep (KX3)).cell 13
  have l2 : Z3.cell? ⟨g, 14, none⟩ = some (.func (.func 149) #[] #[]) := (BG.keep (KX3)).cell 14
  have y1 : Y.cell? ⟨d, 1, none⟩ = some (.int .i64 1) := DY.cell 1
  have y2 : Y.cell? ⟨d, 2, none⟩ = some (.func (.func 149) #[] #[]) := DY.cell 2
  have c0 : Y.cell? ⟨b, 0, none⟩ = some (.int .i64 c.t0) := (B1.keep KY).cell 0
  have c1 : Y.cell? ⟨b, 1, none⟩ = some (.int .i64 c.t1) := (B1.keep KY).cell 1
  have c2 : Y.cell? ⟨b, 2, none⟩ = some (.int .i64 c.t2) := (B1.keep KY).cell 2
  have c3 : Y.cell? ⟨b, 3, none⟩ = some (.int .i64 c.t3) := (B1.keep KY).cell 3
  have c4 : Y.cell? ⟨b, 4, none⟩ = some (.int .i64 c.t4) := (B1.keep KY).cell 4
  have c5 : Y.cell? ⟨b, 5, none⟩ = some (.int .i64 c.t5) := (B1.keep KY).cell 5
  have c6 : Y.cell? ⟨b, 6, none⟩ = some (.int .i64 c.t6) := (B1.keep KY).cell 6
  have c7 : Y.cell? ⟨b, 7, none⟩ = some (.int .i64 c.cap) := (B1.keep KY).cell 7
  have c8 : Y.cell? ⟨b, 8, none⟩ = some (.slice A c.own.length m) := (B1.keep KY).cell 8
  have HG := Lib.hid BG
  have HB := Lib.hid B1
  have HD := Lib.hid DY
  have HR := Lib.hid hR
  have HC := Lib.hid hC
  clear BG B1 DY hR hC
  go_wp2_with fail
  refine (sp4_any c A c.own.length m _).mono ?_
  rintro e Z4 ⟨rfl, KZ⟩
  have z1 : Z4.cell? ⟨d, 1, none⟩ = some (.int .i64 1) := KZ.cell y1
  have KX4 : Kp w1 Z4 := KY.trans KZ
  clear c0 c1 c2 c3 c4 c5 c6 c7 c8 l0 l1 l2 y1 y2 hY KZ KY hd
  go_wp2_with fail
  refine (clamp64_any _ _ _ _).mono ?_
  rintro e Z' ⟨rfl, rfl⟩
  have hN : (clampI c.t4 1 1000000 != c.t4) = !spanB 4 c := clampI_ne _ _ _ (by decide)
  rcases hs4 : spanB 4 c with _ | _
  · rw [hs4] at hN
    have H := Lib.hid (span_no (by omega) hs4)
    clear hs4
    go_wp2_with fail
    exact ⟨rfl, MustC.no H.out (kW.trans KX4)⟩
  rw [hs4] at hN
  have HS4 := Lib.hid hs4
  clear hs4
  go_wp2_with fail
  have BG := HG.out
  have B1 := HB.out
  have hR := HR.out
  have hC := HC.out
  clear HG HB HD HR HC hN z1
  -- round 5
  rw [rounds_succ]
  obtain ⟨d, hd⟩ : ∃ d, Z4.heap.size = d := ⟨_, rfl⟩
  obtain ⟨Y, hY, KY, DY⟩ : ∃ Y, Z4.alloc (.cells #[.string (n 5), .int .i64 0, .func (.func 150) #[] #[]] 176) = Y ∧ Kp w1 Y ∧ Blk Y d 176 #[.string (n 5), .int .i64 0, .func (.func 150) #[] #[]] := ⟨_, rfl, (KX4).alloc _, by rw [← hd]; exact Blk.new _ _ _⟩
  have l0 : Z4.cell? ⟨g, 15, none⟩ = some (.string (n 5)) := (BG.keep (KX4)).cell 15
  have l1 : Z4.cell? ⟨g, 16, none⟩ = some (.int .i64 0) := (BG.keep (KX4)).cell 16
  have l2 : Z4.cell? ⟨g, 17, none⟩ = some (.func (.func 150) #[] #[]) := (BG.keep (KX4)).cell 17
  have y1 : Y.cell? ⟨d, 1, none⟩ = some (.int .i64 0) := DY.cell 1
  have y2 : Y.cell? ⟨d, 2, none⟩ = some (.func (.func 150) #[] #[]) := DY.cell 2
  have c0 : Y.cell? ⟨b, 0, none⟩ = some (.int .i64 c.t0) := (B1.keep KY).cell 0
  have c1 : Y.cell? ⟨b, 1, none⟩ = some (.int .i64 c.t1) := (B1.keep KY).cell 1
  have c2 : Y.cell? ⟨b, 2, none⟩ = some (.int .i64 c.t2) := (B1.keep KY).cell 2
  have c3 : Y.cell? ⟨b, 3, none⟩ = some (.int .i64 c.t3) := (B1.keep KY).cell 3
  have c4 : Y.cell? ⟨b, 4, none⟩ = some (.int .i64 c.t4) := (B1.keep KY).cell 4
  have c5 : Y.cell? ⟨b, 5, none⟩ = some (.int .i64 c.t5) := (B1.keep KY).cell 5
  have c6 : Y.cell? ⟨b, 6, none⟩ = some (.int .i64 c.t6) := (B1.keep KY).cell 6
  have c7 : Y.cell? ⟨b, 7, none⟩ = some (.int .i64 c.cap) := (B1.keep KY).cell 7
  have c8 : Y.cell? ⟨b, 8, none⟩ = some (.slice A c.own.length m) := (B1.keep KY).cell 8
  have HG := Lib.hid BG
  have HB := Lib.hid B1
  have HD := Lib.hid DY
  have HR := Lib.hid hR
  have HC := Lib.hid hC
  clear BG B1 DY hR hC
  go_wp2_with fail
  refine (sp5_any c A c.own.length m _).mono ?_
  rintro e Z5 ⟨rfl, KZ⟩
  have z1 : Z5.cell? ⟨d, 1, none⟩ = some (.int .i64 0) := KZ.cell y1
  have KX5 : Kp w1 Z5 := KY.trans KZ
  clear c0 c1 c2 c3 c4 c5 c6 c7 c8 l0 l1 l2 y1 y2 hY KZ KY hd
  go_wp2_with fail
  refine (clamp64_any _ _ _ _).mono ?_
  rintro e Z' ⟨rfl, rfl⟩
  have hN : (clampI c.t5 0 1000000 != c.t5) = !spanB 5 c := clampI_ne _ _ _ (by decide)
  rcases hs5 : spanB 5 c with _ | _
  · rw [hs5] at hN
    have H := Lib.hid (span_no (by omega) hs5)
    clear hs5
    go_wp2_with fail
    exact ⟨rfl, MustC.no H.out (kW.trans KX5)⟩
  rw [hs5] at hN
  have HS5 := Lib.hid hs5
  clear hs5
  go_wp2_with fail
  have BG := HG.out
  have B1 := HB.out
  have hR := HR.out
  have hC := HC.out
  clear HG HB HD HR HC hN z1
  -- round 6
  rw [rounds_succ]
  obtain ⟨d, hd⟩ : ∃ d, Z5.heap.size = d := ⟨_, rfl⟩
  obtain ⟨Y, hY, KY, DY⟩ : ∃ Y, Z5.alloc (.cells #[.string (n 6), .int .i64 0, .func (.func 151) #[] #[]] 176) = Y ∧ Kp w1 Y ∧ Blk Y d 176 #[.string (n 6), .int .i64 0, .func (.func 151) #[] #[]] := ⟨_, rfl, (KX5).alloc _, by rw [← hd]; exact Blk.new _ _ _⟩
  have l0 : Z5.cell? ⟨g, 18, none⟩ = some (.string (n 6)) := (BG.keep (KX5)).cell 18
  have l1 : Z5.cell? ⟨g, 19, none⟩ = some (.int .i64 0) := (BG.keep (KX5)).cell 19
  have l2 : Z5.cell? ⟨g, 20, none⟩ = some (.func (.func 151) #[] #[]) := (BG.keep (KX5)).cell 20
  have y1 : Y.cell? ⟨d, 1, none⟩ = some (.int .i64 0) := DY.cell 1
  have y2 : Y.cell? ⟨d, 2, none⟩ = some (.func (.func 151) #[] #[]) := DY.cell 2
  have c0 : Y.cell? ⟨b, 0, none⟩ = some (.int .i64 c.t0) := (B1.keep KY).cell 0
  have c1 : Y.cell? ⟨b, 1, none⟩ = some (.int .i64 c.t1) := (B1.keep KY).cell 1
  have c2 : Y.cell? ⟨b, 2, none⟩ = some (.int .i64 c.t2) := (B1.keep KY).cell 2
  have c3 : Y.cell? ⟨b, 3, none⟩ = some (.int .i64 c.t3) := (B1.keep KY).cell 3
  have c4 : Y.cell? ⟨b, 4, none⟩ = some (.int .i64 c.t4) := (B1.keep KY).cell 4
  have c5 : Y.cell? ⟨b, 5, none⟩ = some (.int .i64 c.t5) := (B1.keep KY).cell 5
  have c6 : Y.cell? ⟨b, 6, none⟩ = some (.int .i64 c.t6) := (B1.keep KY).cell 6
  have c7 : Y.cell? ⟨b, 7, none⟩ = some (.int .i64 c.cap) := (B1.keep KY).cell 7
  have c8 : Y.cell? ⟨b, 8, none⟩ = some (.slice A c.own.length m) := (B1.keep KY).cell 8
  have HG := Lib.hid BG
  have HB := Lib.hid B1
  have HD := Lib.hid DY
  have HR := Lib.hid hR
  have HC := Lib.hid hC
  clear BG B1 DY hR hC
  go_wp2_with fail
  refine (sp6_any c A c.own.length m _).mono ?_
  rintro e Z6 ⟨rfl, KZ⟩
  have z1 : Z6.cell? ⟨d, 1, none⟩ = some (.int .i64 0) := KZ.cell y1
  have KX6 : Kp w1 Z6 := KY.trans KZ
  clear c0 c1 c2 c3 c4 c5 c6 c7 c8 l0 l1 l2 y1 y2 hY KZ KY hd
  go_wp2_with fail
  refine (clamp64_any _ _ _ _).mono ?_
  rintro e Z' ⟨rfl, rfl⟩
  have hN : (clampI c.t6 0 1000000 != c.t6) = !spanB 6 c := clampI_ne _ _ _ (by decide)
  rcases hs6 : spanB 6 c with _ | _
  · rw [hs6] at hN
    have H := Lib.hid (span_no (by omega) hs6)
    clear hs6
    go_wp2_with fail
    exact ⟨rfl, MustC.no H.out (kW.trans KX6)⟩
  rw [hs6] at hN
  have HS6 := Lib.hid hs6
  clear hs6
  go_wp2_with fail
  have BG := HG.out
  have B1 := HB.out
  have hR := HR.out
  have hC := HC.out
  clear HG HB HD HR HC hN z1
  rw [rounds_succ]
  have C := hC.keep KX6
  have q0 := C.1
  have q1 := C.2
  have p7 : Z6.cell? ⟨b, 7, none⟩ = some (.int .i64 c.cap) := (B1.keep KX6).cell 7
  have p8 : Z6.cell? ⟨b, 8, none⟩ = some (.slice A c.own.length m) := (B1.keep KX6).cell 8
  have hN : (clampI c.cap 1 256 != c.cap) = !withB 1 256 c.cap := clampI_ne _ _ _ (by decide)
  have i0 : (0 : Int) < 2 := by decide
  have i1 : (1 : Int) < 2 := by decide
  have HR := Lib.hid (hR.keep KX6)
  have HS := Lib.hid (show spansB c = true by unfold spansB; rw [HS0.out, HS1.out, HS2.out, HS3.out, HS4.out, HS5.out, HS6.out]; rfl)
  have KX := kW.trans KX6
  clear C BG B1 hR hC HS0 HS1 HS2 HS3 HS4 HS5 HS6 KX0 KX1 KX2 KX3 KX4 KX5 KX6 kW
  rcases hcap : withB 1 256 c.cap with _ | _
  · rw [hcap] at hN
    have H := Lib.hid (show okCf c = false by unfold okCf; rw [hcap]; simp)
    clear hcap
    go_wp2_with fail
    go_quiet (first | (go_at_call 132; exact Calls.quiet_of_same ((clampi_any _ _ _ _).mono fun _ _ h => ⟨h.1, h.2.symm⟩)))
    go_wp2_with fail
    exact ⟨rfl, MustC.no H.out (KX.drewN _)⟩
  rw [hcap] at hN
  have HW := Lib.hid hcap
  clear hcap
  go_wp2_with fail
  go_quiet (first | (go_at_call 132; exact Calls.quiet_of_same ((clampi_any _ _ _ _).mono fun _ _ h => ⟨h.1, h.2.symm⟩)))
  rcases hl : decide ((c.own.length : Int) ≤ min 16 c.cap) with _ | _
  · have H := Lib.hid (show okCf c = false by unfold okCf; rw [hl]; simp)
    have h1 := of_decide_eq_false hl
    clear hl
    go_wp2_with fail
    all_goals exact ⟨rfl, MustC.no H.out (KX.drewN _)⟩
  have HL := Lib.hid hl
  have h1 := of_decide_eq_true hl
  have hlen : c.own.length ≤ 16 := by omega
  have hfin : freeB c.own = true → okCf c = true := fun hf => by
    unfold okCf
    rw [HS.out, HW.out, HL.out, hf]
    rfl
  have hbad : freeB c.own = false → okCf c = false := fun hf => by
    unfold okCf
    rw [hf]
    simp
  have HF := Lib.hid hfin
  have HX := Lib.hid hbad
  clear hl hfin hbad HW HL HS hN
  go_wp2_with fail
  all_goals
    go_loopw [55] (fun i wr => ∃ k : Nat, k ≤ c.own.length ∧ i = .int .i64 k ∧ Hid (freeB (c.own.take k) = true) ∧ Kp Z6 wr ∧ Kp w wr) (fun i _ => c.own.length - (intOf i).toNat)
    case atStart => exact ⟨0, Nat.zero_le _, rfl, Lib.hid rfl, (Kp.refl _).drewN _, KX.drewN _⟩
    case round =>
      obtain ⟨k, hk, rfl, hall, hK, hKw⟩ := hrel
      by_cases hlt : k < c.own.length
      · obtain ⟨a, off, rfl, c0, c1⟩ := pi_at (HR.out.keep hK) hlt
        have hak := Ha.out k hlt
        have hkm : k ≤ m := by omega
        have s8 : wr.cell? ⟨b, 8, none⟩ = some (.slice (some ⟨a, off, none⟩) c.own.length m) := hK.cell p8
        obtain ⟨f, hf⟩ : ∃ f, wr.heap.size = f := ⟨_, rfl⟩
        obtain ⟨V, hV, kV, kVw, D0⟩ : ∃ V, wr.alloc (.cells #[.int .u32 (c.own[k].a : Int), .int .i64 c.own[k].l] 29) = V ∧ Kp Z6 V ∧ Kp w V ∧ Blk V f 29 #[.int .u32 (c.own[k].a : Int), .int .i64 c.own[k].l] := ⟨_, rfl, hK.alloc _, hKw.alloc _, by rw [← hf]; exact Blk.new _ _ _⟩
        have v0 : V.cell? ⟨f, 0, none⟩ = some (.int .u32 (c.own[k].a : Int)) := D0.cell 0
        have v1 : V.cell? ⟨f, 1, none⟩ = some (.int .i64 c.own[k].l) := D0.cell 1
        go_wp2_with fail
        refine (of_any c.own[k] _ hak).mono ?_
        rintro e V1 ⟨x0, x1, x2, x3, x4, x5, rfl, K1⟩
        clear c0 c1 v0 v1 s8 hV
        obtain ⟨V2, hV2, kV2, kV2w, D2⟩ : ∃ V2, V1.alloc (.cells #[.int .i64 x0, .int .i64 x1, .int .u32 x2, .int .u32 x3, .int .u32 x4, .int .u32 x5] 192) = V2 ∧ Kp Z6 V2 ∧ Kp w V2 ∧ Blk V2 f 29 #[.int .u32 (c.own[k].a : Int), .int .i64 c.own[k].l] := ⟨_, rfl, (kV.trans K1).alloc _, (kVw.trans K1).alloc _, (D0.keep K1).alloc _⟩
        have v0 : V2.cell? ⟨f, 0, none⟩ = some (.int .u32 (c.own[k].a : Int)) := D2.cell 0
        have v1 : V2.cell? ⟨f, 1, none⟩ = some (.int .i64 c.own[k].l) := D2.cell 1
        have s8 : V2.cell? ⟨b, 8, none⟩ = some (.slice (some ⟨a, off, none⟩) c.own.length m) := kV2.cell p8
        have hs := freeB_take_succ hlt
        rw [hall.out, Bool.true_and] at hs
        cases ht : toldB c.own[k] with
        | false =>
          rw [ht, Bool.false_and] at hs
          have H := Lib.hid (HX.out (freeB_pre hs))
          clear hs ht hall
          go_wp2_with fail
          go_quiet (fail)
          go_wp2_with fail
          exact ⟨rfl, MustC.no H.out (kV2w.drewN _)⟩
        | true =>
          rw [ht, Bool.true_and] at hs
          have htk : (c.own.take k).length = k := by rw [List.length_take]; omega
          have hh := fun u (hu : Rd u 2 PI.enc (some ⟨a, off, none⟩) (c.own.take k)) => hasP_any (some ⟨a, off, none⟩) m (c.own.take k) c.own[k] u hu (by omega)
          rw [htk] at hh
          have HT := Lib.hid (show Rd V2 2 PI.enc (some ⟨a, off, none⟩) (c.own.take k) from rd_take (HR.out.keep kV2) k)
          have K : Kp V2 V2.drew := (Kp.refl V2).drew
          rcases hin : decide (c.own[k] ∈ c.own.take k) with _ | _
          · rw [hin] at hh
            have H := Lib.hid (show freeB (c.own.take (k + 1)) = true by rw [hs]; simpa using hin)
            have HH := Lib.hid hh
            clear hs ht hall hin hh htk
            go_wp2_with fail
            go_region_held3 (fun w' => w'.cell? ⟨f, 0, none⟩ = some (.int .u32 (c.own[k].a : Int)) ∧ w'.cell? ⟨f, 1, none⟩ = some (.int .i64 c.own[k].l) ∧ w'.cell? ⟨b, 8, none⟩ = some (.slice (some ⟨a, off, none⟩) c.own.length m))
              (first | exact ⟨K.cell v0, K.cell v1, K.cell s8⟩ | go_keep)
              (first | (go_at_call 134; refine (HH.out _ (HT.out.keep K)).mono ?_; rintro e wv ⟨rfl, hKv⟩; have K := K.trans hKv; clear hKv))
            all_goals (try go_wp2_with fail)
            go_roundw
            case rel => exact ⟨k + 1, by omega, by go_num, H, kV2.trans K, kV2w.trans K⟩
            case measure => simp [intOf]; omega
          · rw [hin] at hh
            have H := Lib.hid (HX.out (freeB_pre (i := k + 1) (by rw [hs]; simpa using hin)))
            have HH := Lib.hid hh
            clear hs ht hall hin hh htk
            go_wp2_with fail
            go_region_held3 (fun w' => w'.cell? ⟨f, 0, none⟩ = some (.int .u32 (c.own[k].a : Int)) ∧ w'.cell? ⟨f, 1, none⟩ = some (.int .i64 c.own[k].l) ∧ w'.cell? ⟨b, 8, none⟩ = some (.slice (some ⟨a, off, none⟩) c.own.length m))
              (first | exact ⟨K.cell v0, K.cell v1, K.cell s8⟩ | go_keep)
              (first | (go_at_call 134; refine (HH.out _ (HT.out.keep K)).mono ?_; rintro e wv ⟨rfl, hKv⟩; have K := K.trans hKv; clear hKv))
            all_goals (try go_wp2_with fail)
            exact ⟨rfl, MustC.no H.out (kV2w.trans K)⟩
      · obtain rfl : k = c.own.length := by omega
        have H := Lib.hid (HF.out (by have := hall.out; rwa [List.take_length] at this))
        clear hall
        go_wp2_with fail
        go_end0
        exact MustC.yes H.out hKw
end Go.Proofs.YtffckpkikdlbpaaGreatDoor
