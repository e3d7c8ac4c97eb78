/- Lemmas and contracts for the theorem of this claim: TmN, TmO, TmP. -/
import Derived.Test.YtffckpkikdlbpaaGreatDoorZtAl
set_option linter.unusedSimpArgs false
set_option linter.unusedVariables false
namespace Go.Proofs.YtffckpkikdlbpaaGreatDoor
open Go.RowKit Go.Maps Go.WideShapes
set_option maxRecDepth 100000 in
set_option maxHeartbeats 2000000 in
theorem qNext_some (B a q m g c n : Nat) (l : List Tw) (w : World) (hA : Blk w a 152 #[.pointer (some ⟨q, 0, none⟩)]) (Q : QuM w B q m (.slice (some ⟨g, 0, none⟩) (n + 1) c) l) (hn : l.length = n + 1) :
    Calls Tryz.prog 114 #[.pointer (some ⟨a, 0, none⟩)] w fun e w' => e = .returned (.tuple #[tmV (fT l 0), .int .i64 (fT l 0).d, .bool true]) ∧ Kp w w' := by
  obtain ⟨b, off, hB, x0, x1, x2, x3⟩ := tw_at (Q.own.rdAt (by decide) Tw.len) (k := 0) (by omega)
  injection hB with hB
  injection hB with e1 e2
  subst e1
  subst e2
  obtain ⟨y, hy⟩ : ∃ y, fT l 0 = y := ⟨_, rfl⟩
  have hy2 : l[0]'(by omega) = y := by rw [← hy, fT_at (by omega)]
  rw [hy2] at x0 x1 x2 x3
  rw [hy]
  simp only [Nat.zero_mul, Nat.zero_add] at x0 x1 x2 x3
  clear hy hy2
  obtain ⟨p, hp⟩ : ∃ p, w.heap.size = p := ⟨_, rfl⟩
  obtain ⟨W0, hW0, K0, BP⟩ : ∃ W0, w.alloc (.cells #[.int .i64 0, .int .u32 0, .int .i64 0] 158) = W0 ∧ Kp w W0 ∧ Blk W0 p 158 #[.int .i64 0, .int .u32 0, .int .i64 0] := ⟨_, rfl, (Kp.refl _).alloc _, by rw [← hp]; exact Blk.new w _ _⟩
  have A0 := hA.keep K0
  have Q0 := Q.keep K0
  obtain ⟨r, hr⟩ : ∃ r, W0.heap.size = r := ⟨_, rfl⟩
  obtain ⟨W1, hW1, K1, BR⟩ : ∃ W1, W0.alloc (.cells #[.int .i64 y.k, .int .u32 (y.p.a : Int), .int .i64 y.p.l, .int .i64 y.d] 160) = W1 ∧ Kp W0 W1 ∧ Blk W1 r 160 #[.int .i64 y.k, .int .u32 (y.p.a : Int), .int .i64 y.p.l, .int .i64 y.d] := ⟨_, rfl, (Kp.refl _).alloc _, by rw [← hr]; exact Blk.new W0 _ _⟩
  have BP1 := BP.keep K1
  have c0 : W0.cell? ⟨a, 0, none⟩ = some (.pointer (some ⟨q, 0, none⟩)) := A0.cell 0
  have c1 : W0.cell? ⟨q, 0, none⟩ = some (.slice (some ⟨g, 0, none⟩) (n + 1) c) := Q0.bk.cell 0
  replace x0 := K0.cell x0
  replace x1 := K0.cell x1
  replace x2 := K0.cell x2
  replace x3 := K0.cell x3
  have r0 : W1.cell? ⟨r, 0, none⟩ = some (.int .i64 y.k) := BR.cell 0
  have r1 : W1.cell? ⟨r, 1, none⟩ = some (.int .u32 y.p.a) := BR.cell 1
  have r2 : W1.cell? ⟨r, 2, none⟩ = some (.int .i64 y.p.l) := BR.cell 2
  have r3 : W1.cell? ⟨r, 3, none⟩ = some (.int .i64 y.d) := BR.cell 3
  have p0 : W1.cell? ⟨p, 0, none⟩ = some (.int .i64 0) := BP1.cell 0
  have p1 : W1.cell? ⟨p, 1, none⟩ = some (.int .u32 0) := BP1.cell 1
  have p2 : W1.cell? ⟨p, 2, none⟩ = some (.int .i64 0) := BP1.cell 2
  have z0 := BP1.frozen 0
  have z1 := BP1.frozen 1
  have z2 := BP1.frozen 2
  have hpr : ¬ p = r := by have := BP.lt; omega
  have hrp : ¬ r = p := fun e => hpr e.symm
  have hpos : ¬ (n : Int) + 1 = 0 := by omega
  have hposb : ((n : Int) + 1 == 0) = false := by rw [beq_eq_false_iff_ne]; exact hpos
  have h01 : (0 : Int) < (n : Int) + 1 := by omega
  have KW := K0.trans K1
  have HK := Lib.hid (((KW.setCell (p := ⟨p, 0, none⟩) (by simp [← hp]) (.int .i64 y.k)).setCell (p := ⟨p, 1, none⟩) (by simp [← hp]) (.int .u32 (y.p.a : Int))).setCell (p := ⟨p, 2, none⟩) (by simp [← hp]) (.int .i64 y.p.l))
  have HBP := Lib.hid (((BP1.set_ 0 (.int .i64 y.k)).set_ 1 (.int .u32 (y.p.a : Int))).set_ 2 (.int .i64 y.p.l))
  go_enter Tryz.func114, Tryz.ntmps114
  go_wp2_with (first | (go_at_call 100; refine (qNone_is a q _ A0).mono ?_; rintro e w' ⟨rfl, rfl⟩) | (go_at_call 144; refine (rowsLen_any q (.map (some m)) (some ⟨g, 0, none⟩) (n + 1) c _ Q0.bk).mono ?_; rintro e w' ⟨rfl, rfl⟩))
  go_region
  all_goals (try go_wp2_with fail)
  obtain ⟨V, hV, kV, bV⟩ : ∃ V, (((W1.setCell ⟨p, 0, none⟩ (.int .i64 y.k)).setCell ⟨p, 1, none⟩ (.int .u32 (y.p.a : Int))).setCell ⟨p, 2, none⟩ (.int .i64 y.p.l)).drew = V ∧ Kp w V ∧ Blk V p 158 #[.int .i64 y.k, .int .u32 (y.p.a : Int), .int .i64 y.p.l] := ⟨_, rfl, HK.out.drew, by simpa using HBP.out.drew⟩
  rw [hV]
  have v0 : V.cell? ⟨p, 0, none⟩ = some (.int .i64 y.k) := bV.cell 0
  have v1 : V.cell? ⟨p, 1, none⟩ = some (.int .u32 y.p.a) := bV.cell 1
  have v2 : V.cell? ⟨p, 2, none⟩ = some (.int .i64 y.p.l) := bV.cell 2
  exact bodyPost_ret (v := .tuple #[tmV y, .int .i64 y.d, .bool true]) (by simp [results, Tryz.results114, go_sem, v0, v1, v2]) rfl ⟨rfl, kV⟩
set_option maxRecDepth 100000 in
set_option maxHeartbeats 2000000 in
theorem qNext_no (B a q m c : Nat) (A : Option Addr) (w : World) (hA : Blk w a 152 #[.pointer (some ⟨q, 0, none⟩)]) (Q : QuM w B q m (.slice A 0 c) []) :
    Calls Tryz.prog 114 #[.pointer (some ⟨a, 0, none⟩)] w fun e w' => e = .returned (.tuple #[.agg #[.int .i64 0, .int .u32 0, .int .i64 0], .int .i64 0, .bool false]) ∧ Kp w w' := by
  obtain ⟨p, hp⟩ : ∃ p, w.heap.size = p := ⟨_, rfl⟩
  obtain ⟨W0, hW0, K0, BP⟩ : ∃ W0, w.alloc (.cells #[.int .i64 0, .int .u32 0, .int .i64 0] 158) = W0 ∧ Kp w W0 ∧ Blk W0 p 158 #[.int .i64 0, .int .u32 0, .int .i64 0] := ⟨_, rfl, (Kp.refl _).alloc _, by rw [← hp]; exact Blk.new w _ _⟩
  have A0 := hA.keep K0
  have Q0 := Q.keep K0
  have c0 : W0.cell? ⟨a, 0, none⟩ = some (.pointer (some ⟨q, 0, none⟩)) := A0.cell 0
  have p0 : W0.cell? ⟨p, 0, none⟩ = some (.int .i64 0) := BP.cell 0
  have p1 : W0.cell? ⟨p, 1, none⟩ = some (.int .u32 0) := BP.cell 1
  have p2 : W0.cell? ⟨p, 2, none⟩ = some (.int .i64 0) := BP.cell 2
  have z0 := BP.frozen 0
  have z1 := BP.frozen 1
  have z2 := BP.frozen 2
  have HK := Lib.hid (((K0.setCell (p := ⟨p, 0, none⟩) (by simp [← hp]) (.int .i64 0)).setCell (p := ⟨p, 1, none⟩) (by simp [← hp]) (.int .u32 0)).setCell (p := ⟨p, 2, none⟩) (by simp [← hp]) (.int .i64 0))
  have HBP := Lib.hid (((BP.set_ 0 (.int .i64 0)).set_ 1 (.int .u32 0)).set_ 2 (.int .i64 0))
  go_enter Tryz.func114, Tryz.ntmps114
  go_wp2_with (first | (go_at_call 100; refine (qNone_is a q _ A0).mono ?_; rintro e w' ⟨rfl, rfl⟩) | (go_at_call 144; refine (rowsLen_any q (.map (some m)) A 0 c _ Q0.bk).mono ?_; rintro e w' ⟨rfl, rfl⟩))
  obtain ⟨V, hV, kV, bV⟩ : ∃ V, ((W0.setCell ⟨p, 0, none⟩ (.int .i64 0)).setCell ⟨p, 1, none⟩ (.int .u32 0)).setCell ⟨p, 2, none⟩ (.int .i64 0) = V ∧ Kp w V ∧ Blk V p 158 #[.int .i64 0, .int .u32 0, .int .i64 0] := ⟨_, rfl, HK.out, by simpa using HBP.out⟩
  rw [hV]
  have v0 : V.cell? ⟨p, 0, none⟩ = some (.int .i64 0) := bV.cell 0
  have v1 : V.cell? ⟨p, 1, none⟩ = some (.int .u32 0) := bV.cell 1
  have v2 : V.cell? ⟨p, 2, none⟩ = some (.int .i64 0) := bV.cell 2
  exact bodyPost_ret (v := .tuple #[.agg #[.int .i64 0, .int .u32 0, .int .i64 0], .int .i64 0, .bool false]) (by simp [results, Tryz.results114, go_sem, v0, v1, v2]) rfl ⟨rfl, kV⟩
end Go.Proofs.YtffckpkikdlbpaaGreatDoor

namespace Go.Proofs.YtffckpkikdlbpaaGreatDoor
open Go.RowKit Go.Maps Go.WideShapes
theorem QuM.far {w w' : World} {B q m g n c p : Nat} {l : List Tw} (h : QuM w B q m (.slice (some ⟨g, 0, none⟩) n c) l) (hO : Only [p] w w') (hq : q ≠ p) (hg : g ≠ p) (hm : m ≠ p) : QuM w' B q m (.slice (some ⟨g, 0, none⟩) n c) l := by
  obtain ⟨cur, hcur⟩ := h.own.blk4
  obtain ⟨f, hmm, hp⟩ := h.mp
  exact ⟨h.bk.only hO (by simpa using hq), h.own.lie (hO.block g hcur.lt (by simpa using hg)), ⟨f, hmm.lie (hO.block m hmm.lt (by simpa using hm)), hp⟩, h.wf⟩
theorem rowTb (v : Value) (w : World) : (Instr.typeAssert (.iface 160 v) 20 160 false).run Tryz.prog w = .ok v w := by kernel_rfl
set_option maxRecDepth 100000 in
set_option maxHeartbeats 2000000 in
theorem qPop_no (B a q m c : Nat) (A : Option Addr) (now : Int) (w : World) (hA : Blk w a 152 #[.pointer (some ⟨q, 0, none⟩)]) (Q : QuM w B q m (.slice A 0 c) []) :
    Calls Tryz.prog 111 #[.pointer (some ⟨a, 0, none⟩), .int .i64 now] w fun e w' => e = .returned (.tuple #[.agg #[.int .i64 0, .int .u32 0, .int .i64 0], .int .i64 0, .bool false]) ∧ Kp w w' := by
  obtain ⟨p, hp⟩ : ∃ p, w.heap.size = p := ⟨_, rfl⟩
  obtain ⟨W0, hW0, K0, BP⟩ : ∃ W0, w.alloc (.cells #[.int .i64 0, .int .u32 0, .int .i64 0] 158) = W0 ∧ Kp w W0 ∧ Blk W0 p 158 #[.int .i64 0, .int .u32 0, .int .i64 0] := ⟨_, rfl, (Kp.refl _).alloc _, by rw [← hp]; exact Blk.new w _ _⟩
  have A0 := hA.keep K0
  have Q0 := Q.keep K0
  go_enter Tryz.func111, Tryz.ntmps111
  go_wp2_with fail
  refine (qNext_no B a q m c A _ A0 Q0).mono ?_
  rintro e w1 ⟨rfl, K1⟩
  have BP1 := BP.keep K1
  have KW := K0.trans K1
  have p0 : w1.cell? ⟨p, 0, none⟩ = some (.int .i64 0) := BP1.cell 0
  have p1 : w1.cell? ⟨p, 1, none⟩ = some (.int .u32 0) := BP1.cell 1
  have p2 : w1.cell? ⟨p, 2, none⟩ = some (.int .i64 0) := BP1.cell 2
  have z0 := BP1.frozen 0
  have z1 := BP1.frozen 1
  have z2 := BP1.frozen 2
  have HK := Lib.hid (((KW.setCell (p := ⟨p, 0, none⟩) (by simp [← hp]) (.int .i64 0)).setCell (p := ⟨p, 1, none⟩) (by simp [← hp]) (.int .u32 0)).setCell (p := ⟨p, 2, none⟩) (by simp [← hp]) (.int .i64 0))
  have HBP := Lib.hid (((BP1.set_ 0 (.int .i64 0)).set_ 1 (.int .u32 0)).set_ 2 (.int .i64 0))
  go_wp2_with fail
  obtain ⟨V, hV, kV, bV⟩ : ∃ V, ((w1.setCell ⟨p, 0, none⟩ (.int .i64 0)).setCell ⟨p, 1, none⟩ (.int .u32 0)).setCell ⟨p, 2, none⟩ (.int .i64 0) = V ∧ Kp w V ∧ Blk V p 158 #[.int .i64 0, .int .u32 0, .int .i64 0] := ⟨_, rfl, HK.out, by simpa using HBP.out⟩
  rw [hV]
  have v0 : V.cell? ⟨p, 0, none⟩ = some (.int .i64 0) := bV.cell 0
  have v1 : V.cell? ⟨p, 1, none⟩ = some (.int .u32 0) := bV.cell 1
  have v2 : V.cell? ⟨p, 2, none⟩ = some (.int .i64 0) := bV.cell 2
  exact bodyPost_ret (v := .tuple #[.agg #[.int .i64 0, .int .u32 0, .int .i64 0], .int .i64 0, .bool false]) (by simp [results, Tryz.results111, go_sem, v0, v1, v2]) rfl ⟨rfl, kV⟩
set_option maxRecDepth 100000 in
set_option maxHeartbeats 2000000 in
theorem qPop_late (B a q m g c n : Nat) (l : List Tw) (now : Int) (w : World) (hA : Blk w a 152 #[.pointer (some ⟨q, 0, none⟩)]) (Q : QuM w B q m (.slice (some ⟨g, 0, none⟩) (n + 1) c) l) (hn : l.length = n + 1) (hd : now < (fT l 0).d) :
    Calls Tryz.prog 111 #[.pointer (some ⟨a, 0, none⟩), .int .i64 now] w fun e w' => e = .returned (.tuple #[.agg #[.int .i64 0, .int .u32 0, .int .i64 0], .int .i64 0, .bool false]) ∧ Kp w w' := by
  obtain ⟨p, hp⟩ : ∃ p, w.heap.size = p := ⟨_, rfl⟩
  obtain ⟨W0, hW0, K0, BP⟩ : ∃ W0, w.alloc (.cells #[.int .i64 0, .int .u32 0, .int .i64 0] 158) = W0 ∧ Kp w W0 ∧ Blk W0 p 158 #[.int .i64 0, .int .u32 0, .int .i64 0] := ⟨_, rfl, (Kp.refl _).alloc _, by rw [← hp]; exact Blk.new w _ _⟩
  have A0 := hA.keep K0
  have Q0 := Q.keep K0
  have hN := qNext_some B a q m g c n l W0 A0 Q0 hn
  obtain ⟨y, hy⟩ : ∃ y, fT l 0 = y := ⟨_, rfl⟩
  rw [hy] at hN hd
  have HN := Lib.hid hN
  clear hN hy
  go_enter Tryz.func111, Tryz.ntmps111
  go_wp2_with fail
  refine HN.out.mono ?_
  rintro e w1 ⟨rfl, K1⟩
  clear HN
  have BP1 := BP.keep K1
  have KW := K0.trans K1
  have p0 : w1.cell? ⟨p, 0, none⟩ = some (.int .i64 0) := BP1.cell 0
  have p1 : w1.cell? ⟨p, 1, none⟩ = some (.int .u32 0) := BP1.cell 1
  have p2 : w1.cell? ⟨p, 2, none⟩ = some (.int .i64 0) := BP1.cell 2
  have z0 := BP1.frozen 0
  have z1 := BP1.frozen 1
  have z2 := BP1.frozen 2
  have HK := Lib.hid (((KW.setCell (p := ⟨p, 0, none⟩) (by simp [← hp]) (.int .i64 0)).setCell (p := ⟨p, 1, none⟩) (by simp [← hp]) (.int .u32 0)).setCell (p := ⟨p, 2, none⟩) (by simp [← hp]) (.int .i64 0))
  have HBP := Lib.hid (((BP1.set_ 0 (.int .i64 0)).set_ 1 (.int .u32 0)).set_ 2 (.int .i64 0))
  go_wp2_with fail
  obtain ⟨V, hV, kV, bV⟩ : ∃ V, ((w1.setCell ⟨p, 0, none⟩ (.int .i64 0)).setCell ⟨p, 1, none⟩ (.int .u32 0)).setCell ⟨p, 2, none⟩ (.int .i64 0) = V ∧ Kp w V ∧ Blk V p 158 #[.int .i64 0, .int .u32 0, .int .i64 0] := ⟨_, rfl, HK.out, by simpa using HBP.out⟩
  rw [hV]
  have v0 : V.cell? ⟨p, 0, none⟩ = some (.int .i64 0) := bV.cell 0
  have v1 : V.cell? ⟨p, 1, none⟩ = some (.int .u32 0) := bV.cell 1
  have v2 : V.cell? ⟨p, 2, none⟩ = some (.int .i64 0) := bV.cell 2
  exact bodyPost_ret (v := .tuple #[.agg #[.int .i64 0, .int .u32 0, .int .i64 0], .int .i64 0, .bool false]) (by simp [results, Tryz.results111, go_sem, v0, v1, v2]) rfl ⟨rfl, kV⟩
set_option maxRecDepth 100000 in
set_option maxHeartbeats 2000000 in
theorem qPop_now (B a q m g c n : Nat) (l : List Tw) (now : Int) (w : World) (hA : Blk w a 152 #[.pointer (some ⟨q, 0, none⟩)]) (Q : QuM w B q m (.slice (some ⟨g, 0, none⟩) (n + 1) c) l) (hn : l.length = n + 1) (hl : n ≤ 900000) (hH : Heap ltT (fT l) (n + 1)) (hd : (fT l 0).d ≤ now) :
    Calls Tryz.prog 111 #[.pointer (some ⟨a, 0, none⟩), .int .i64 now] w fun e w' => ∃ l', e = .returned (.tuple #[tmV (fT l 0), .int .i64 (fT l 0).d, .bool true]) ∧ QuM w' B q m (.slice (some ⟨g, 0, none⟩) n c) l' ∧ (l' ++ [fT l 0]).Perm l ∧ l'.length = n ∧ Heap ltT (fT l') n ∧ Only [q, g, m] w w' := by
  obtain ⟨p, hp⟩ : ∃ p, w.heap.size = p := ⟨_, rfl⟩
  obtain ⟨W0, hW0, K0, BP⟩ : ∃ W0, w.alloc (.cells #[.int .i64 0, .int .u32 0, .int .i64 0] 158) = W0 ∧ Kp w W0 ∧ Blk W0 p 158 #[.int .i64 0, .int .u32 0, .int .i64 0] := ⟨_, rfl, (Kp.refl _).alloc _, by rw [← hp]; exact Blk.new w _ _⟩
  have A0 := hA.keep K0
  have Q0 := Q.keep K0
  have hN := qNext_some B a q m g c n l W0 A0 Q0 hn
  have hP : ∀ w1, Kp W0 w1 → _ := fun w1 K1 => heapPop_any B q m g c n l w1 (Q0.keep K1) hn hl hH
  obtain ⟨y, hy⟩ : ∃ y, fT l 0 = y := ⟨_, rfl⟩
  rw [hy] at hN hd ⊢
  simp only [hy] at hP
  have HN := Lib.hid hN
  have HP := Lib.hid hP
  have hnot : ¬ now < y.d := by omega
  have hnb : decide (now < y.d) = false := decide_eq_false hnot
  have hta := rowTb
  obtain ⟨cur, hcur⟩ := Q.own.blk4
  have hqlt := Q.bk.lt
  have hglt := hcur.lt
  have hmlt : m < w.heap.size := by obtain ⟨f, hm, _⟩ := Q.mp; exact hm.lt
  clear hN hP hy hd hnot
  go_enter Tryz.func111, Tryz.ntmps111
  go_wp2_with fail
  refine HN.out.mono ?_
  rintro e w1 ⟨rfl, K1⟩
  have A1 := A0.keep K1
  have BP1 := BP.keep K1
  have c0 : w1.cell? ⟨a, 0, none⟩ = some (.pointer (some ⟨q, 0, none⟩)) := A1.cell 0
  go_wp2_with fail
  refine (HP.out w1 K1).mono ?_
  rintro e w2 ⟨l', rfl, Q2, hp2, hl2, hH2, O2⟩
  clear HN HP c0
  have BP2 := BP1.only O2 (by simp; omega)
  obtain ⟨r, hr⟩ : ∃ r, w2.heap.size = r := ⟨_, rfl⟩
  obtain ⟨W3, hW3, K3, BR⟩ : ∃ W3, w2.alloc (.cells #[.int .i64 y.k, .int .u32 (y.p.a : Int), .int .i64 y.p.l, .int .i64 y.d] 160) = W3 ∧ Kp w2 W3 ∧ Blk W3 r 160 #[.int .i64 y.k, .int .u32 (y.p.a : Int), .int .i64 y.p.l, .int .i64 y.d] := ⟨_, rfl, (Kp.refl _).alloc _, by rw [← hr]; exact Blk.new w2 _ _⟩
  have BP3 := BP2.keep K3
  have r0 : W3.cell? ⟨r, 0, none⟩ = some (.int .i64 y.k) := BR.cell 0
  have r1 : W3.cell? ⟨r, 1, none⟩ = some (.int .u32 y.p.a) := BR.cell 1
  have r2 : W3.cell? ⟨r, 2, none⟩ = some (.int .i64 y.p.l) := BR.cell 2
  have r3 : W3.cell? ⟨r, 3, none⟩ = some (.int .i64 y.d) := BR.cell 3
  have p0 : W3.cell? ⟨p, 0, none⟩ = some (.int .i64 0) := BP3.cell 0
  have p1 : W3.cell? ⟨p, 1, none⟩ = some (.int .u32 0) := BP3.cell 1
  have p2 : W3.cell? ⟨p, 2, none⟩ = some (.int .i64 0) := BP3.cell 2
  have z0 := BP3.frozen 0
  have z1 := BP3.frozen 1
  have z2 := BP3.frozen 2
  have hpr : ¬ p = r := by have := BP2.lt; omega
  have hrp : ¬ r = p := fun e => hpr e.symm
  have PS := Lib.hid ((((Only.refl [p] W3).setCell (p := ⟨p, 0, none⟩) (.inl (by simp)) (.int .i64 y.k)).setCell (p := ⟨p, 1, none⟩) (.inl (by simp)) (.int .u32 (y.p.a : Int))).setCell (p := ⟨p, 2, none⟩) (.inl (by simp)) (.int .i64 y.p.l))
  have HBP := Lib.hid (((BP3.set_ 0 (.int .i64 y.k)).set_ 1 (.int .u32 (y.p.a : Int))).set_ 2 (.int .i64 y.p.l))
  have Q3 := Lib.hid (Q2.keep K3)
  have OO := Lib.hid ((((Only.of_kp (bs := [q, g, m]) K0).trans (Only.of_kp K1)).trans O2).trans (Only.of_kp K3))
  go_wp2_with fail
  go_region
  all_goals (try go_wp2_with fail)
  obtain ⟨V, hV, oV, bV⟩ : ∃ V, (((W3.setCell ⟨p, 0, none⟩ (.int .i64 y.k)).setCell ⟨p, 1, none⟩ (.int .u32 (y.p.a : Int))).setCell ⟨p, 2, none⟩ (.int .i64 y.p.l)).drew = V ∧ Only [p] W3 V ∧ Blk V p 158 #[.int .i64 y.k, .int .u32 (y.p.a : Int), .int .i64 y.p.l] := ⟨_, rfl, PS.out.drew, by simpa using HBP.out.drew⟩
  rw [hV]
  have v0 : V.cell? ⟨p, 0, none⟩ = some (.int .i64 y.k) := bV.cell 0
  have v1 : V.cell? ⟨p, 1, none⟩ = some (.int .u32 y.p.a) := bV.cell 1
  have v2 : V.cell? ⟨p, 2, none⟩ = some (.int .i64 y.p.l) := bV.cell 2
  have QV := Q3.out.far oV (by omega) (by omega) (by omega)
  have OV : Only [q, g, m] w V := ⟨oV.os.trans OO.out.os, oV.tape.trans OO.out.tape, oV.output.trans OO.out.output, Nat.le_trans OO.out.size oV.size, fun k hk hb => (oV.block k (Nat.lt_of_lt_of_le hk OO.out.size) (by simp; omega)).trans (OO.out.block k hk hb)⟩
  exact bodyPost_ret (v := .tuple #[tmV y, .int .i64 y.d, .bool true]) (by simp [results, Tryz.results111, go_sem, v0, v1, v2]) rfl ⟨l', rfl, QV, hp2, hl2, hH2, OV⟩
end Go.Proofs.YtffckpkikdlbpaaGreatDoor

namespace Go.Proofs.YtffckpkikdlbpaaGreatDoor
open Go.RowKit Go.Maps Go.WideShapes
theorem PI.ext' {p q : PI} (h1 : p.a = q.a) (h2 : p.l = q.l) : p = q := by cases p; cases q; simp only at h1 h2; subst h1; subst h2; rfl
instance : DecidableEq PI := fun p q => if h : p.a = q.a ∧ p.l = q.l then isTrue (PI.ext' h.1 h.2) else isFalse (fun e => h (by rw [e]; exact ⟨rfl, rfl⟩))
def offP (p : PI) (l : List Tw) : List Tw := l.filter (fun y => decide (y.p ≠ p))
theorem offP_none {p : PI} {l : List Tw} (h : ∀ y ∈ l, y.p ≠ p) : offP p l = l := List.filter_eq_self.2 (fun y hy => by simpa using h y hy)
theorem tk_eq {x y : Tw} (hx : x.k = 3) (hy : y.k = 3) : x.tk = y.tk ↔ x.p = y.p := by
  constructor
  · intro h; injection h
  · intro h; unfold Tw.tk; rw [hx, hy, h]
theorem offP_take {l l' : List Tw} {x : Tw} (hx : ∀ y ∈ l', y.p ≠ x.p) (h : (l' ++ [x]).Perm l) : l'.Perm (offP x.p l) := by
  have h2 := h.filter (fun y => decide (y.p ≠ x.p))
  rw [List.filter_append] at h2
  have e1 : l'.filter (fun y => decide (y.p ≠ x.p)) = l' := offP_none hx
  rw [e1] at h2
  have e3 : [x].filter (fun y => decide (y.p ≠ x.p)) = [] := by simp
  rw [e3, List.append_nil] at h2
  exact h2
theorem perm_put {l : List Tw} {i : Nat} (hi : i < l.length) (x : Tw) (hp : x.p = l[i].p) (hd : ∀ j (h : j < l.length), l[j].p = l[i].p → j = i) : (l.set i x).Perm (x :: offP x.p l) := by
  have e : l = l.take i ++ l[i] :: l.drop (i + 1) := by rw [List.getElem_cons_drop, List.take_append_drop]
  have e1 : ∀ y ∈ l.take i, y.p ≠ x.p := fun y hy => by
    obtain ⟨j, hj, rfl⟩ := List.getElem_of_mem hy
    rw [List.length_take] at hj
    rw [List.getElem_take, hp]
    exact fun e => by have := hd j (by omega) e; omega
  have e2 : ∀ y ∈ l.drop (i + 1), y.p ≠ x.p := fun y hy => by
    obtain ⟨j, hj, rfl⟩ := List.getElem_of_mem hy
    rw [List.length_drop] at hj
    rw [List.getElem_drop, hp]
    exact fun e => by have := hd _ (by omega) e; omega
  have e3 : offP x.p l = l.take i ++ l.drop (i + 1) := by
    conv => lhs; rw [e]
    unfold offP
    rw [List.filter_append, List.filter_cons, if_neg (by simp [hp])]
    congr 1
    · exact offP_none e1
    · exact offP_none e2
  rw [e3, List.set_eq_take_append_cons_drop, if_pos hi]
  exact List.perm_middle
theorem set_off {l : List Tw} {i : Nat} (hi : i < l.length) (x : Tw) : fT (l.set i x) i = x ∧ ∀ k, k ≠ i → fT (l.set i x) k = fT l k := by
  refine ⟨by rw [fT_at (by rw [List.length_set]; exact hi), List.getElem_set_self], fun k hk => ?_⟩
  unfold fT
  rw [List.getD_eq_getElem?_getD, List.getD_eq_getElem?_getD, List.getElem?_set_ne (fun e => hk e.symm)]
theorem PlOf.set_ {f : Tk → Option Nat} {l : List Tw} (h : PlOf f l) {i : Nat} (hi : i < l.length) (x : Tw) (e : x.tk = l[i].tk) : PlOf f (l.set i x) := by
  have hg : ∀ k (hk : k < (l.set i x).length), (l.set i x)[k].tk = (l[k]'(by rw [List.length_set] at hk; exact hk)).tk := fun k hk => by
    rw [List.getElem_set]
    split
    · next e2 => subst e2; exact e
    · rfl
  constructor
  · intro k hk
    rw [hg]
    exact h.at_ k _
  · intro t ht
    refine h.no t (fun k hk => ?_)
    have := ht k (by rw [List.length_set]; exact hk)
    rw [hg] at this
    exact this
set_option maxHeartbeats 2000000 in
theorem Own.putDue {w : World} {B g n c : Nat} {l : List Tw} (h : Own w B 160 4 Tw.enc (.slice (some ⟨g, 0, none⟩) n c) l) {i : Nat} (hi : i < l.length) (x : Tw) (ht : x.tk = l[i].tk) : Own (w.setCell ⟨g, i * 4 + 3, none⟩ (.int .i64 x.d)) B 160 4 Tw.enc (.slice (some ⟨g, 0, none⟩) n c) (l.set i x) := by
  have h2 := h.putTw hi x
  have e : x.k = l[i].k ∧ x.p = l[i].p := by unfold Tw.tk at ht; injection ht with e1 e2; exact ⟨e1, e2⟩
  obtain ⟨b, off, hA, x0, x1, x2, x3⟩ := tw_at (h.rdAt (by decide) Tw.len) hi
  injection hA with hA
  injection hA with e1 e2
  subst e1
  subst e2
  rw [Nat.zero_add] at x0 x1 x2
  rw [← e.1] at x0
  rw [← e.2] at x1 x2
  obtain ⟨cur, hB⟩ := h.blk4
  rw [hB.cell] at x0 x1 x2
  have hid : ∀ (k : Nat) (u : Value), cur[k]? = some u → cur.setIfInBounds k u = cur := fun k u hu => by
    obtain ⟨hk, e⟩ := Array.getElem?_eq_some_iff.1 hu
    apply Array.ext_getElem?
    intro j
    rw [Array.getElem?_setIfInBounds]
    split
    · next e2 => subst e2; exact hu.symm
    · rfl
  have hB' := (((hB.set_ (i * 4) (.int .i64 x.k)).set_ (i * 4 + 1) (.int .u32 (x.p.a : Int))).set_ (i * 4 + 2) (.int .i64 x.p.l)).set_ (i * 4 + 3) (.int .i64 x.d)
  rw [hid _ _ x0, hid _ _ x1, hid _ _ x2] at hB'
  have hS := hB.set_ (i * 4 + 3) (.int .i64 x.d)
  exact h2.lie (Eq.trans hS hB'.symm)
end Go.Proofs.YtffckpkikdlbpaaGreatDoor
