/- Lemmas and contracts for the theorem of this claim: TmN, TmO, TmP, RoL, CfC. -/
import Derived.Test.YtffckpkikdlbpaaGreatDoorZvAi
set_option linter.all false
set_option maxHeartbeats 16000000
namespace Go.Proofs.YtffckpkikdlbpaaGreatDoor
section
open Go.RowKit Go.Maps Go.WideShapes
set_option maxRecDepth 100000 in
theorem vcA (B a q m g c n : Nat) (l : List Tw) (w : World) (hA : Blk w a 152 #[.pointer (some ⟨q, 0, none⟩)]) (Q : QuM w B q m (.slice (some ⟨g, 0, none⟩) (n + 1) c) l) (hn : l.length = n + 1) :
  Calls Tryz.prog 114 #[.pointer (some ⟨a, 0, none⟩)] w fun e w' => e = .returned (.tuple #[tmV (fT l 0), .int .i64 (fT l 0).d, .bool true]) ∧ Kp w w' := by
 obtain ⟨b, off, hB, x0, x1, x2, x3⟩ := tw_at (Q.own.rdAt (by decide) Tw.len) (k := 0) (by omega)
 injection hB with hB
 injection hB with e1 e2
 subst e1
 subst e2
 obtain ⟨y, hy⟩ : ∃ y, fT l 0 = y := ⟨_, rfl⟩
 have hy2 : l[0]'(by omega) = y := by rw [← hy, fT_at (by omega)]
 rw [hy2] at x0 x1 x2 x3
 rw [hy]
 simp only [Nat.zero_mul, Nat.zero_add] at x0 x1 x2 x3
 clear hy hy2
 obtain ⟨p, hp⟩ : ∃ p, w.heap.size = p := ⟨_, rfl⟩
 obtain ⟨W0, hW0, K0, BP⟩ := Blk.al1 hp #[.int .i64 0, .int .u32 0, .int .i64 0] 158
 have A0 := hA.keep K0
 have Q0 := Q.keep K0
 obtain ⟨r, hr⟩ : ∃ r, W0.heap.size = r := ⟨_, rfl⟩
 obtain ⟨W1, hW1, K1, BR⟩ := Blk.al1 hr #[.int .i64 y.k, .int .u32 (y.p.a : Int), .int .i64 y.p.l, .int .i64 y.d] 160
 have BP1 := BP.keep K1
 have c0 : W0.cell? ⟨a, 0, none⟩ = some (.pointer (some ⟨q, 0, none⟩)) := A0.cell 0
 have c1 : W0.cell? ⟨q, 0, none⟩ = some (.slice (some ⟨g, 0, none⟩) (n + 1) c) := Q0.bk.cell 0
 replace x0 := K0.cell x0
 replace x1 := K0.cell x1
 replace x2 := K0.cell x2
 replace x3 := K0.cell x3
 obtain ⟨r0, r1, r2, r3⟩ := Blk.v4 BR (.int .i64 y.k) (.int .u32 y.p.a) (.int .i64 y.p.l) (.int .i64 y.d) rfl
 obtain ⟨p0, p1, p2⟩ := Blk.v3 BP1 (.int .i64 0) (.int .u32 0) (.int .i64 0) rfl
 have z0 := Blk.frozen BP1
 have hpr : ¬ p = r := by have := BP.lt; omega
 have hrp : ¬ r = p := fun e => hpr e.symm
 have hpos : ¬ (n : Int) + 1 = 0 := by omega
 have hposb : ((n : Int) + 1 == 0) = false := by rw [beq_eq_false_iff_ne]; exact hpos
 have h01 : (0 : Int) < (n : Int) + 1 := by omega
 have KW := K0.trans K1
 have HK := Lib.hid (((KW.setCell (p := ⟨p, 0, none⟩) (by simp [← hp]) (.int .i64 y.k)).setCell (p := ⟨p, 1, none⟩) (by simp [← hp]) (.int .u32 (y.p.a : Int))).setCell (p := ⟨p, 2, none⟩) (by simp [← hp]) (.int .i64 y.p.l))
 have HBP := Lib.hid (((BP1.set_ 0 (.int .i64 y.k)).set_ 1 (.int .u32 (y.p.a : Int))).set_ 2 (.int .i64 y.p.l))
 go_enter Tryz.func114, Tryz.ntmps114
 go_wp2_with (first | (go_at_call 100; refine (vbh a q _ A0).mono ?_; rintro e w' ⟨rfl, rfl⟩) | (go_at_call 144; refine (vaC q (.map (some m)) (some ⟨g, 0, none⟩) (n + 1) c _ Q0.bk).mono ?_; rintro e w' ⟨rfl, rfl⟩))
 go_region
 all_goals (try go_wp2_with fail)
 obtain ⟨V, hV, kV, bV⟩ : ∃ V, (((W1.setCell ⟨p, 0, none⟩ (.int .i64 y.k)).setCell ⟨p, 1, none⟩ (.int .u32 (y.p.a : Int))).setCell ⟨p, 2, none⟩ (.int .i64 y.p.l)).drew = V ∧ Kp w V ∧ Blk V p 158 #[.int .i64 y.k, .int .u32 (y.p.a : Int), .int .i64 y.p.l] := ⟨_, rfl, HK.out.drew, by simpa using HBP.out.drew⟩
 rw [hV]
 obtain ⟨v0, v1, v2⟩ := Blk.v3 bV (.int .i64 y.k) (.int .u32 y.p.a) (.int .i64 y.p.l) rfl
 exact bodyPost_ret (v := .tuple #[tmV y, .int .i64 y.d, .bool true]) (by simp [results, Tryz.results114, go_sem, v0, v1, v2]) rfl ⟨rfl, kV⟩
set_option maxRecDepth 100000 in
theorem vga (B a q m c : Nat) (A : Option Addr) (w : World) (hA : Blk w a 152 #[.pointer (some ⟨q, 0, none⟩)]) (Q : QuM w B q m (.slice A 0 c) []) :
  Calls Tryz.prog 114 #[.pointer (some ⟨a, 0, none⟩)] w fun e w' => e = .returned (.tuple #[.agg #[.int .i64 0, .int .u32 0, .int .i64 0], .int .i64 0, .bool false]) ∧ Kp w w' := by
 obtain ⟨p, hp⟩ : ∃ p, w.heap.size = p := ⟨_, rfl⟩
 obtain ⟨W0, hW0, K0, BP⟩ := Blk.al1 hp #[.int .i64 0, .int .u32 0, .int .i64 0] 158
 have A0 := hA.keep K0
 have Q0 := Q.keep K0
 have c0 : W0.cell? ⟨a, 0, none⟩ = some (.pointer (some ⟨q, 0, none⟩)) := A0.cell 0
 obtain ⟨p0, p1, p2⟩ := Blk.v3 BP (.int .i64 0) (.int .u32 0) (.int .i64 0) rfl
 have z0 := Blk.frozen BP
 have HK := Lib.hid (((K0.setCell (p := ⟨p, 0, none⟩) (by simp [← hp]) (.int .i64 0)).setCell (p := ⟨p, 1, none⟩) (by simp [← hp]) (.int .u32 0)).setCell (p := ⟨p, 2, none⟩) (by simp [← hp]) (.int .i64 0))
 have HBP := Lib.hid (((BP.set_ 0 (.int .i64 0)).set_ 1 (.int .u32 0)).set_ 2 (.int .i64 0))
 go_enter Tryz.func114, Tryz.ntmps114
 go_wp2_with (first | (go_at_call 100; refine (vbh a q _ A0).mono ?_; rintro e w' ⟨rfl, rfl⟩) | (go_at_call 144; refine (vaC q (.map (some m)) A 0 c _ Q0.bk).mono ?_; rintro e w' ⟨rfl, rfl⟩))
 obtain ⟨V, hV, kV, bV⟩ : ∃ V, ((W0.setCell ⟨p, 0, none⟩ (.int .i64 0)).setCell ⟨p, 1, none⟩ (.int .u32 0)).setCell ⟨p, 2, none⟩ (.int .i64 0) = V ∧ Kp w V ∧ Blk V p 158 #[.int .i64 0, .int .u32 0, .int .i64 0] := ⟨_, rfl, HK.out, by simpa using HBP.out⟩
 rw [hV]
 obtain ⟨v0, v1, v2⟩ := Blk.v3 bV (.int .i64 0) (.int .u32 0) (.int .i64 0) rfl
 exact bodyPost_ret (v := .tuple #[.agg #[.int .i64 0, .int .u32 0, .int .i64 0], .int .i64 0, .bool false]) (by simp [results, Tryz.results114, go_sem, v0, v1, v2]) rfl ⟨rfl, kV⟩
theorem QuM.far {w w' : World} {B q m g n c p : Nat} {l : List Tw} (h : QuM w B q m (.slice (some ⟨g, 0, none⟩) n c) l) (hO : Only [p] w w') (hq : q ≠ p) (hg : g ≠ p) (hm : m ≠ p) : QuM w' B q m (.slice (some ⟨g, 0, none⟩) n c) l := by
 obtain ⟨cur, hcur⟩ := h.own.blk4
 obtain ⟨f, hmm, hp⟩ := h.mp
 exact ⟨h.bk.only hO (by simpa using hq), h.own.lie (hO.block g hcur.lt (by simpa using hg)), ⟨f, hmm.lie (hO.block m hmm.lt (by simpa using hm)), hp⟩, h.wf⟩
theorem rowTb (v : Value) (w : World) : (Instr.typeAssert (.iface 160 v) 20 160 false).run Tryz.prog w = .ok v w := by kernel_rfl
set_option maxRecDepth 100000 in
theorem vmD (B a q m c : Nat) (A : Option Addr) (now : Int) (w : World) (hA : Blk w a 152 #[.pointer (some ⟨q, 0, none⟩)]) (Q : QuM w B q m (.slice A 0 c) []) :
  Calls Tryz.prog 111 #[.pointer (some ⟨a, 0, none⟩), .int .i64 now] w fun e w' => e = .returned (.tuple #[.agg #[.int .i64 0, .int .u32 0, .int .i64 0], .int .i64 0, .bool false]) ∧ Kp w w' := by
 obtain ⟨p, hp⟩ : ∃ p, w.heap.size = p := ⟨_, rfl⟩
 obtain ⟨W0, hW0, K0, BP⟩ := Blk.al1 hp #[.int .i64 0, .int .u32 0, .int .i64 0] 158
 have A0 := hA.keep K0
 have Q0 := Q.keep K0
 go_enter Tryz.func111, Tryz.ntmps111
 go_wp2_with fail
 refine (vga B a q m c A _ A0 Q0).mono ?_
 rintro e w1 ⟨rfl, K1⟩
 have BP1 := BP.keep K1
 have KW := K0.trans K1
 obtain ⟨p0, p1, p2⟩ := Blk.v3 BP1 (.int .i64 0) (.int .u32 0) (.int .i64 0) rfl
 have z0 := Blk.frozen BP1
 have HK := Lib.hid (((KW.setCell (p := ⟨p, 0, none⟩) (by simp [← hp]) (.int .i64 0)).setCell (p := ⟨p, 1, none⟩) (by simp [← hp]) (.int .u32 0)).setCell (p := ⟨p, 2, none⟩) (by simp [← hp]) (.int .i64 0))
 have HBP := Lib.hid (((BP1.set_ 0 (.int .i64 0)).set_ 1 (.int .u32 0)).set_ 2 (.int .i64 0))
 go_wp2_with fail
 obtain ⟨V, hV, kV, bV⟩ : ∃ V, ((w1.setCell ⟨p, 0, none⟩ (.int .i64 0)).setCell ⟨p, 1, none⟩ (.int .u32 0)).setCell ⟨p, 2, none⟩ (.int .i64 0) = V ∧ Kp w V ∧ Blk V p 158 #[.int .i64 0, .int .u32 0, .int .i64 0] := ⟨_, rfl, HK.out, by simpa using HBP.out⟩
 rw [hV]
 obtain ⟨v0, v1, v2⟩ := Blk.v3 bV (.int .i64 0) (.int .u32 0) (.int .i64 0) rfl
 exact bodyPost_ret (v := .tuple #[.agg #[.int .i64 0, .int .u32 0, .int .i64 0], .int .i64 0, .bool false]) (by simp [results, Tryz.results111, go_sem, v0, v1, v2]) rfl ⟨rfl, kV⟩
set_option maxRecDepth 100000 in
theorem vif (B a q m g c n : Nat) (l : List Tw) (now : Int) (w : World) (hA : Blk w a 152 #[.pointer (some ⟨q, 0, none⟩)]) (Q : QuM w B q m (.slice (some ⟨g, 0, none⟩) (n + 1) c) l) (hn : l.length = n + 1) (hd : now < (fT l 0).d) :
  Calls Tryz.prog 111 #[.pointer (some ⟨a, 0, none⟩), .int .i64 now] w fun e w' => e = .returned (.tuple #[.agg #[.int .i64 0, .int .u32 0, .int .i64 0], .int .i64 0, .bool false]) ∧ Kp w w' := by
 obtain ⟨p, hp⟩ : ∃ p, w.heap.size = p := ⟨_, rfl⟩
 obtain ⟨W0, hW0, K0, BP⟩ := Blk.al1 hp #[.int .i64 0, .int .u32 0, .int .i64 0] 158
 have A0 := hA.keep K0
 have Q0 := Q.keep K0
 have hN := vcA B a q m g c n l W0 A0 Q0 hn
 obtain ⟨y, hy⟩ : ∃ y, fT l 0 = y := ⟨_, rfl⟩
 rw [hy] at hN hd
 have HN := Lib.hid hN
 clear hN hy
 go_enter Tryz.func111, Tryz.ntmps111
 go_wp2_with fail
 refine HN.out.mono ?_
 rintro e w1 ⟨rfl, K1⟩
 clear HN
 have BP1 := BP.keep K1
 have KW := K0.trans K1
 obtain ⟨p0, p1, p2⟩ := Blk.v3 BP1 (.int .i64 0) (.int .u32 0) (.int .i64 0) rfl
 have z0 := Blk.frozen BP1
 have HK := Lib.hid (((KW.setCell (p := ⟨p, 0, none⟩) (by simp [← hp]) (.int .i64 0)).setCell (p := ⟨p, 1, none⟩) (by simp [← hp]) (.int .u32 0)).setCell (p := ⟨p, 2, none⟩) (by simp [← hp]) (.int .i64 0))
 have HBP := Lib.hid (((BP1.set_ 0 (.int .i64 0)).set_ 1 (.int .u32 0)).set_ 2 (.int .i64 0))
 go_wp2_with fail
 obtain ⟨V, hV, kV, bV⟩ : ∃ V, ((w1.setCell ⟨p, 0, none⟩ (.int .i64 0)).setCell ⟨p, 1, none⟩ (.int .u32 0)).setCell ⟨p, 2, none⟩ (.int .i64 0) = V ∧ Kp w V ∧ Blk V p 158 #[.int .i64 0, .int .u32 0, .int .i64 0] := ⟨_, rfl, HK.out, by simpa using HBP.out⟩
 rw [hV]
 obtain ⟨v0, v1, v2⟩ := Blk.v3 bV (.int .i64 0) (.int .u32 0) (.int .i64 0) rfl
 exact bodyPost_ret (v := .tuple #[.agg #[.int .i64 0, .int .u32 0, .int .i64 0], .int .i64 0, .bool false]) (by simp [results, Tryz.results111, go_sem, v0, v1, v2]) rfl ⟨rfl, kV⟩
set_option maxRecDepth 100000 in
theorem vku (B a q m g c n : Nat) (l : List Tw) (now : Int) (w : World) (hA : Blk w a 152 #[.pointer (some ⟨q, 0, none⟩)]) (Q : QuM w B q m (.slice (some ⟨g, 0, none⟩) (n + 1) c) l) (hn : l.length = n + 1) (hl : n ≤ 900000) (hH : Heap ltT (fT l) (n + 1)) (hd : (fT l 0).d ≤ now) :
  Calls Tryz.prog 111 #[.pointer (some ⟨a, 0, none⟩), .int .i64 now] w fun e w' => ∃ l', e = .returned (.tuple #[tmV (fT l 0), .int .i64 (fT l 0).d, .bool true]) ∧ QuM w' B q m (.slice (some ⟨g, 0, none⟩) n c) l' ∧ (l' ++ [fT l 0]).Perm l ∧ l'.length = n ∧ Heap ltT (fT l') n ∧ Only [q, g, m] w w' := by
 obtain ⟨p, hp⟩ : ∃ p, w.heap.size = p := ⟨_, rfl⟩
 obtain ⟨W0, hW0, K0, BP⟩ := Blk.al1 hp #[.int .i64 0, .int .u32 0, .int .i64 0] 158
 have A0 := hA.keep K0
 have Q0 := Q.keep K0
 have hN := vcA B a q m g c n l W0 A0 Q0 hn
 have hP : ∀ w1, Kp W0 w1 → _ := fun w1 K1 => vfn B q m g c n l w1 (Q0.keep K1) hn hl hH
 obtain ⟨y, hy⟩ : ∃ y, fT l 0 = y := ⟨_, rfl⟩
 rw [hy] at hN hd ⊢
 simp only [hy] at hP
 have HN := Lib.hid hN
 have HP := Lib.hid hP
 have hnot : ¬ now < y.d := by omega
 have hnb : decide (now < y.d) = false := decide_eq_false hnot
 have hta := rowTb
 obtain ⟨cur, hcur⟩ := Q.own.blk4
 have hqlt := Q.bk.lt
 have hglt := hcur.lt
 have hmlt : m < w.heap.size := by obtain ⟨f, hm, _⟩ := Q.mp; exact hm.lt
 clear hN hP hy hd hnot
 go_enter Tryz.func111, Tryz.ntmps111
 go_wp2_with fail
 refine HN.out.mono ?_
 rintro e w1 ⟨rfl, K1⟩
 have A1 := A0.keep K1
 have BP1 := BP.keep K1
 have c0 : w1.cell? ⟨a, 0, none⟩ = some (.pointer (some ⟨q, 0, none⟩)) := A1.cell 0
 go_wp2_with fail
 refine (HP.out w1 K1).mono ?_
 rintro e w2 ⟨l', rfl, Q2, hp2, hl2, hH2, O2⟩
 clear HN HP c0
 have BP2 := BP1.only O2 (by simp; omega)
 obtain ⟨r, hr⟩ : ∃ r, w2.heap.size = r := ⟨_, rfl⟩
 obtain ⟨W3, hW3, K3, BR⟩ := Blk.al1 hr #[.int .i64 y.k, .int .u32 (y.p.a : Int), .int .i64 y.p.l, .int .i64 y.d] 160
 have BP3 := BP2.keep K3
 obtain ⟨r0, r1, r2, r3⟩ := Blk.v4 BR (.int .i64 y.k) (.int .u32 y.p.a) (.int .i64 y.p.l) (.int .i64 y.d) rfl
 obtain ⟨p0, p1, p2⟩ := Blk.v3 BP3 (.int .i64 0) (.int .u32 0) (.int .i64 0) rfl
 have z0 := Blk.frozen BP3
 have hpr : ¬ p = r := by have := BP2.lt; omega
 have hrp : ¬ r = p := fun e => hpr e.symm
 have PS := Lib.hid ((((Only.refl [p] W3).setCell (p := ⟨p, 0, none⟩) (.inl (by simp)) (.int .i64 y.k)).setCell (p := ⟨p, 1, none⟩) (.inl (by simp)) (.int .u32 (y.p.a : Int))).setCell (p := ⟨p, 2, none⟩) (.inl (by simp)) (.int .i64 y.p.l))
 have HBP := Lib.hid (((BP3.set_ 0 (.int .i64 y.k)).set_ 1 (.int .u32 (y.p.a : Int))).set_ 2 (.int .i64 y.p.l))
 have Q3 := Lib.hid (Q2.keep K3)
 have OO := Lib.hid ((((Only.of_kp (bs := [q, g, m]) K0).trans (Only.of_kp K1)).trans O2).trans (Only.of_kp K3))
 go_wp2_with fail
 go_region
 all_goals (try go_wp2_with fail)
 obtain ⟨V, hV, oV, bV⟩ : ∃ V, (((W3.setCell ⟨p, 0, none⟩ (.int .i64 y.k)).setCell ⟨p, 1, none⟩ (.int .u32 (y.p.a : Int))).setCell ⟨p, 2, none⟩ (.int .i64 y.p.l)).drew = V ∧ Only [p] W3 V ∧ Blk V p 158 #[.int .i64 y.k, .int .u32 (y.p.a : Int), .int .i64 y.p.l] := ⟨_, rfl, PS.out.drew, by simpa using HBP.out.drew⟩
 rw [hV]
 obtain ⟨v0, v1, v2⟩ := Blk.v3 bV (.int .i64 y.k) (.int .u32 y.p.a) (.int .i64 y.p.l) rfl
 have QV := Q3.out.far oV (by omega) (by omega) (by omega)
 have OV : Only [q, g, m] w V := ⟨oV.os.trans OO.out.os, oV.tape.trans OO.out.tape, oV.output.trans OO.out.output, Nat.le_trans OO.out.size oV.size, fun k hk hb => (oV.block k (Nat.lt_of_lt_of_le hk OO.out.size) (by simp; omega)).trans (OO.out.block k hk hb)⟩
 exact bodyPost_ret (v := .tuple #[tmV y, .int .i64 y.d, .bool true]) (by simp [results, Tryz.results111, go_sem, v0, v1, v2]) rfl ⟨l', rfl, QV, hp2, hl2, hH2, OV⟩
theorem PI.ext' {p q : PI} (h1 : p.a = q.a) (h2 : p.l = q.l) : p = q := by cases p; cases q; simp only at h1 h2; subst h1; subst h2; rfl
instance : DecidableEq PI := fun p q => if h : p.a = q.a ∧ p.l = q.l then isTrue (PI.ext' h.1 h.2) else isFalse (fun e => h (by rw [e]; exact ⟨rfl, rfl⟩))
def offP (p : PI) (l : List Tw) : List Tw := l.filter (fun y => decide (y.p ≠ p))
theorem vbq {p : PI} {l : List Tw} (h : ∀ y ∈ l, y.p ≠ p) : offP p l = l := List.filter_eq_self.2 (fun y hy => by simpa using h y hy)
theorem tk_eq {x y : Tw} (hx : x.k = 3) (hy : y.k = 3) : x.tk = y.tk ↔ x.p = y.p := by
 constructor
 ·intro h; injection h
 ·intro h; unfold Tw.tk; rw [hx, hy, h]
theorem veJ {l l' : List Tw} {x : Tw} (hx : ∀ y ∈ l', y.p ≠ x.p) (h : (l' ++ [x]).Perm l) : l'.Perm (offP x.p l) := by
 have h2 := h.filter (fun y => decide (y.p ≠ x.p))
 rw [List.filter_append] at h2
 have e1 : l'.filter (fun y => decide (y.p ≠ x.p)) = l' := vbq hx
 rw [e1] at h2
 have e3 : [x].filter (fun y => decide (y.p ≠ x.p)) = [] := by simp
 rw [e3, List.append_nil] at h2
 exact h2
theorem vkv {l : List Tw} {i : Nat} (hi : i < l.length) (x : Tw) (hp : x.p = l[i].p) (hd : ∀ j (h : j < l.length), l[j].p = l[i].p → j = i) : (l.set i x).Perm (x :: offP x.p l) := by
 have e : l = l.take i ++ l[i] :: l.drop (i + 1) := by rw [List.getElem_cons_drop, List.take_append_drop]
 have e1 : ∀ y ∈ l.take i, y.p ≠ x.p := fun y hy => by
  obtain ⟨j, hj, rfl⟩ := List.getElem_of_mem hy
  rw [List.length_take] at hj
  rw [List.getElem_take, hp]
  exact fun e => by have := hd j (by omega) e; omega
 have e2 : ∀ y ∈ l.drop (i + 1), y.p ≠ x.p := fun y hy => by
  obtain ⟨j, hj, rfl⟩ := List.getElem_of_mem hy
  rw [List.length_drop] at hj
  rw [List.getElem_drop, hp]
  exact fun e => by have := hd _ (by omega) e; omega
 have e3 : offP x.p l = l.take i ++ l.drop (i + 1) := by
  conv => lhs; rw [e]
  unfold offP
  rw [List.filter_append, List.filter_cons, if_neg (by simp [hp])]
  congr 1
  ·exact vbq e1
  ·exact vbq e2
 rw [e3, List.set_eq_take_append_cons_drop, if_pos hi]
 exact List.perm_middle
theorem vmE {l : List Tw} {i : Nat} (hi : i < l.length) (x : Tw) : fT (l.set i x) i = x ∧ ∀ k, k ≠ i → fT (l.set i x) k = fT l k := by
 refine ⟨by rw [fT_at (by rw [List.length_set]; exact hi), List.getElem_set_self], fun k hk => ?_⟩
 unfold fT
 rw [List.getD_eq_getElem?_getD, List.getD_eq_getElem?_getD, List.getElem?_set_ne (fun e => hk e.symm)]
theorem PlOf.set_ {f : Tk → Option Nat} {l : List Tw} (h : PlOf f l) {i : Nat} (hi : i < l.length) (x : Tw) (e : x.tk = l[i].tk) : PlOf f (l.set i x) := by
 have hg : ∀ k (hk : k < (l.set i x).length), (l.set i x)[k].tk = (l[k]'(by rw [List.length_set] at hk; exact hk)).tk := fun k hk => by
  rw [List.getElem_set]
  split
  ·next e2 => subst e2; exact e
  ·rfl
 constructor
 ·intro k hk
  rw [hg]
  exact h.at_ k _
 ·intro t ht
  refine h.no t (fun k hk => ?_)
  have := ht k (by rw [List.length_set]; exact hk)
  rw [hg] at this
  exact this
theorem Own.putDue {w : World} {B g n c : Nat} {l : List Tw} (h : Own w B 160 4 Tw.enc (.slice (some ⟨g, 0, none⟩) n c) l) {i : Nat} (hi : i < l.length) (x : Tw) (ht : x.tk = l[i].tk) : Own (w.setCell ⟨g, i * 4 + 3, none⟩ (.int .i64 x.d)) B 160 4 Tw.enc (.slice (some ⟨g, 0, none⟩) n c) (l.set i x) := by
 have h2 := h.putTw hi x
 have e : x.k = l[i].k ∧ x.p = l[i].p := by unfold Tw.tk at ht; injection ht with e1 e2; exact ⟨e1, e2⟩
 obtain ⟨b, off, hA, x0, x1, x2, x3⟩ := tw_at (h.rdAt (by decide) Tw.len) hi
 injection hA with hA
 injection hA with e1 e2
 subst e1
 subst e2
 rw [Nat.zero_add] at x0 x1 x2
 rw [← e.1] at x0
 rw [← e.2] at x1 x2
 obtain ⟨cur, hB⟩ := h.blk4
 rw [hB.cell] at x0 x1 x2
 have hid : ∀ (k : Nat) (u : Value), cur[k]? = some u → cur.setIfInBounds k u = cur := fun k u hu => by
  obtain ⟨hk, e⟩ := Array.getElem?_eq_some_iff.1 hu
  apply Array.ext_getElem?
  intro j
  rw [Array.getElem?_setIfInBounds]
  split
  ·next e2 => subst e2; exact hu.symm
  ·rfl
 have hB' := (((hB.set_ (i * 4) (.int .i64 x.k)).set_ (i * 4 + 1) (.int .u32 (x.p.a : Int))).set_ (i * 4 + 2) (.int .i64 x.p.l)).set_ (i * 4 + 3) (.int .i64 x.d)
 rw [hid _ _ x0, hid _ _ x1, hid _ _ x2] at hB'
 have hS := hB.set_ (i * 4 + 3) (.int .i64 x.d)
 exact h2.lie (Eq.trans hS hB'.symm)
end

section
open Go.RowKit
def okR (r : Rt) : Bool := stateB r && toldB r.p
theorem veK (r : Rt) : checkR r = if okR r then 0 else 2 := rfl
structure Cf where
 t0 : Int
 t1 : Int
 t2 : Int
 t3 : Int
 t4 : Int
 t5 : Int
 t6 : Int
 cap : Int
 own : List PI
def Cf.t (c : Cf) (k : Nat) : Int := match k with | 0 => c.t0 | 1 => c.t1 | 2 => c.t2 | 3 => c.t3 | 4 => c.t4 | 5 => c.t5 | _ => c.t6
def leastS (k : Nat) : Int := match k with | 0 => 1 | 1 => 0 | 2 => 1 | 3 => 0 | 4 => 1 | 5 => 0 | _ => 0
def spanB (k : Nat) (c : Cf) : Bool := withB (leastS k) 1000000 (c.t k)
def spansB (c : Cf) : Bool := spanB 0 c && spanB 1 c && spanB 2 c && spanB 3 c && spanB 4 c && spanB 5 c && spanB 6 c
def freeB (l : List PI) : Bool := l.all toldB && decide l.Nodup
def okCf (c : Cf) : Bool := spansB c && withB 1 256 c.cap && (decide ((c.own.length : Int) ≤ min 16 c.cap) && freeB c.own)
def checkC (c : Cf) : Int := if okCf c then 0 else 2
theorem vaa {lo hi n : Int} : withB lo hi n = true ↔ lo ≤ n ∧ n ≤ hi := by
 simp only [withB, Bool.and_eq_true, Bool.not_eq_true', decide_eq_false_iff_not]
 omega
theorem vbr {l : List PI} {i : Nat} (h : i < l.length) : freeB (l.take (i + 1)) = (freeB (l.take i) && (toldB l[i] && decide (l[i] ∉ l.take i))) := by
 have e : l.take (i + 1) = l.take i ++ [l[i]] := by rw [List.take_succ_eq_append_getElem h]
 unfold freeB
 rw [e, List.all_append, Bool.eq_iff_iff]
 simp only [Bool.and_eq_true, List.all_cons, List.all_nil, Bool.and_true, decide_eq_true_eq, List.nodup_append]
 constructor
 ·rintro ⟨⟨h1, h2⟩, h3, _, h4⟩
  exact ⟨⟨h1, h3⟩, h2, fun hm => h4 _ hm _ (by simp) rfl⟩
 ·rintro ⟨⟨h1, h2⟩, h3, h4⟩
  refine ⟨⟨h1, h3⟩, h2, by simp, fun a ha b hb e => ?_⟩
  simp only [List.mem_cons, List.not_mem_nil, or_false] at hb
  subst hb
  subst e
  exact h4 ha
theorem vcg {l : List PI} {i : Nat} (h : freeB (l.take i) = false) : freeB l = false := by
 cases e : freeB l with
 | false => rfl
 | true =>
  unfold freeB at e h
  simp only [Bool.and_eq_true, List.all_eq_true, decide_eq_true_eq] at e
  rw [← h]
  symm
  simp only [Bool.and_eq_true, List.all_eq_true, decide_eq_true_eq]
  exact ⟨fun x hx => e.1 x (List.mem_of_mem_take hx), e.2.sublist (List.take_sublist _ _)⟩
structure Hd where
 f : Int
 a : Nat
 m : Int
def okHd (h : Hd) : Bool := mayB h.f h.a && withB 1 16 h.m
def okNow (t : Int) : Bool := withB 0 4611686018426387904 t
def noR (p : PI) : Rt := ⟨p, 0, 0, 0, 0, 0, 0, false⟩
def ownR (p : PI) : Rt := ⟨p, 1, 1, 0, 0, 0, 0, true⟩
def lostR (c : Cf) (r : Rt) (now : Int) : Rt := ⟨r.p, 3, 16, r.m, r.f, r.x, now + c.t3, true⟩
def newR (c : Cf) (r : Rt) (h : Hd) (now : Int) : Rt := ⟨r.p, 2, min (h.m + 1) 16, 0, h.f, h.a, now + c.t2, true⟩
def hearR (c : Cf) (r : Rt) (h : Hd) (now : Int) : Rt :=
 if r.s = 1 then r
 else if r.s = 2 then
  if h.f = r.f ∧ h.a = r.x then
   if min (h.m + 1) 16 = r.m then ⟨r.p, 2, r.m, r.l, r.f, r.x, now + c.t2, r.c⟩
   else if min (h.m + 1) 16 = 16 then lostR c r now
   else newR c r h now
  else if min (h.m + 1) 16 < r.m then newR c r h now else r
 else if r.s = 3 then if min (h.m + 1) 16 < r.l then newR c r h now else r
 else if min (h.m + 1) 16 < 16 then newR c r h now else r
def loseR (c : Cf) (r : Rt) (now : Int) : Rt := if r.s = 2 then lostR c r now else r
def expR (c : Cf) (r : Rt) (now : Int) : Rt :=
 if r.s < 2 ∨ now < r.d then r
 else if r.s = 2 then lostR c r now
 else if r.s = 3 then ⟨r.p, 4, r.m, 0, r.f, r.x, now + c.t4, r.c⟩
 else noR r.p
def askR (c : Cf) (r : Rt) (now : Int) : Int := if okCf c && okR r then (if okNow now then 0 else 170) else 2
def askH (c : Cf) (r : Rt) (h : Hd) (now : Int) : Int := if okCf c && okR r && okHd h then (if okNow now then 0 else 170) else 2
theorem vaN {c : Cf} (h : okCf c = true) : ∀ k, k < 7 → leastS k ≤ c.t k ∧ c.t k ≤ 1000000 := by
 unfold okCf spansB spanB at h
 rw [Bool.and_eq_true, Bool.and_eq_true] at h
 simp only [Bool.and_eq_true, vaa] at h
 obtain ⟨⟨⟨⟨⟨⟨⟨⟨h0, h1⟩, h2⟩, h3⟩, h4⟩, h5⟩, h6⟩, _⟩, _⟩ := h
 intro k hk
 have : k = 0 ∨ k = 1 ∨ k = 2 ∨ k = 3 ∨ k = 4 ∨ k = 5 ∨ k = 6 := by omega
 rcases this with rfl | rfl | rfl | rfl | rfl | rfl | rfl
 all_goals first | exact h0 | exact h1 | exact h2 | exact h3 | exact h4 | exact h5 | exact h6
theorem vaw {c : Cf} (h : okCf c = true) : 1 ≤ c.cap ∧ c.cap ≤ 256 ∧ (c.own.length : Int) ≤ 16 ∧ (c.own.length : Int) ≤ c.cap ∧ (∀ p ∈ c.own, toldB p = true) ∧ c.own.Nodup := by
 unfold okCf freeB at h
 simp only [Bool.and_eq_true, vaa, decide_eq_true_eq, List.all_eq_true] at h
 obtain ⟨⟨_, h1, h2⟩, h3, h4, h5⟩ := h
 exact ⟨h1, h2, by omega, by omega, h4, h5⟩
theorem vmF {p : PI} (h : toldB p = true) : checkP p = 0 := by
 unfold toldB at h
 simp only [Bool.and_eq_true] at h
 unfold checkP
 rw [if_pos h.1]
theorem vat (r : Rt) : okR r = true ↔ toldB r.p = true ∧ stateB r = true := by unfold okR; rw [Bool.and_eq_true]; exact And.comm
theorem veL {p : PI} (h : toldB p = true) : okR (noR p) = true := by
 rw [vat]
 exact ⟨h, by rfl⟩
theorem veM {p : PI} (h : toldB p = true) : okR (ownR p) = true := by
 rw [vat]
 exact ⟨h, by rfl⟩
theorem vaI {r : Rt} (h : stateB r = true) : r.s = 0 ∨ r.s = 1 ∨ r.s = 2 ∨ r.s = 3 ∨ r.s = 4 := by
 unfold stateB at h
 split at h
 ·exact .inl (by assumption)
 ·split at h
  ·exact .inr (.inl (by assumption))
  ·split at h
   ·exact .inr (.inr (.inl (by assumption)))
   ·split at h
    ·exact .inr (.inr (.inr (.inl (by assumption))))
    ·split at h
     ·exact .inr (.inr (.inr (.inr (by assumption))))
     ·cases h
theorem vbC {r : Rt} (hs : r.s = 2) : stateB r = true ↔ 2 ≤ r.m ∧ r.m ≤ 15 ∧ r.l = 0 ∧ mayB r.f r.x = true ∧ 0 ≤ r.d ∧ r.d ≤ 4611686018427387904 := by
 simp only [stateB, hs, hasB, someB, Bool.and_eq_true, vaa, beq_iff_eq, if_true, if_false, show ¬ (2 : Int) = 0 by decide, show ¬ (2 : Int) = 1 by decide]
 constructor
 ·rintro ⟨⟨a, b⟩, ⟨_, c⟩, d, e, f⟩
  exact ⟨a, b, c, d, e, f⟩
 ·rintro ⟨a, b, c, d, e, f⟩
  exact ⟨⟨a, b⟩, ⟨trivial, c⟩, d, e, f⟩
theorem vch {r : Rt} (hs : r.s = 3) : stateB r = true ↔ r.m = 16 ∧ 2 ≤ r.l ∧ r.l ≤ 15 ∧ mayB r.f r.x = true ∧ 0 ≤ r.d ∧ r.d ≤ 4611686018427387904 := by
 simp only [stateB, hs, hasB, someB, Bool.and_eq_true, vaa, beq_iff_eq, if_true, if_false, show ¬ (3 : Int) = 0 by decide, show ¬ (3 : Int) = 1 by decide, show ¬ (3 : Int) = 2 by decide]
 constructor
 ·rintro ⟨⟨a, b⟩, ⟨c, _⟩, d, e, f⟩
  exact ⟨c, a, b, d, e, f⟩
 ·rintro ⟨c, a, b, d, e, f⟩
  exact ⟨⟨a, b⟩, ⟨c, trivial⟩, d, e, f⟩
theorem vgb {r : Rt} (hs : r.s = 4) : stateB r = true ↔ r.m = 16 ∧ r.l = 0 ∧ mayB r.f r.x = true ∧ 0 ≤ r.d ∧ r.d ≤ 4611686018427387904 := by
 simp only [stateB, hs, hasB, someB, Bool.and_eq_true, vaa, beq_iff_eq, if_true, if_false, show ¬ (4 : Int) = 0 by decide, show ¬ (4 : Int) = 1 by decide, show ¬ (4 : Int) = 2 by decide, show ¬ (4 : Int) = 3 by decide]
 constructor
 ·rintro ⟨⟨a, b⟩, d, e, f⟩
  exact ⟨a, b, d, e, f⟩
 ·rintro ⟨a, b, d, e, f⟩
  exact ⟨⟨a, b⟩, d, e, f⟩
theorem vcB {c : Cf} {r : Rt} {now : Int} (hc : okCf c = true) (hr : okR r = true) (hs : r.s = 2) (hn : okNow now = true) : okR (lostR c r now) = true := by
 rw [vat] at hr ⊢
 rw [vbC hs] at hr
 have ht := vaN hc 3 (by omega)
 simp only [leastS, Cf.t] at ht
 rw [okNow, vaa] at hn
 refine ⟨hr.1, (vch rfl).2 ?_⟩
 simp only [lostR]
 exact ⟨trivial, hr.2.1, hr.2.2.1, hr.2.2.2.2.1, by omega, by omega⟩
theorem vbs {c : Cf} {r : Rt} {h : Hd} {now : Int} (hc : okCf c = true) (hr : okR r = true) (hh : okHd h = true) (hn : okNow now = true) (hm : min (h.m + 1) 16 < 16) : okR (newR c r h now) = true := by
 rw [vat] at hr ⊢
 have ht := vaN hc 2 (by omega)
 simp only [leastS, Cf.t] at ht
 rw [okNow, vaa] at hn
 rw [okHd, Bool.and_eq_true, vaa] at hh
 refine ⟨hr.1, (vbC rfl).2 ?_⟩
 simp only [newR]
 exact ⟨by omega, by omega, trivial, hh.1, by omega, by omega⟩
theorem vdI {c : Cf} {r : Rt} {h : Hd} {now : Int} (hc : okCf c = true) (hr : okR r = true) (hh : okHd h = true) (hn : okNow now = true) : okR (hearR c r h now) = true := by
 have hr' := hr
 rw [vat] at hr'
 have hm : 2 ≤ min (h.m + 1) 16 := by rw [okHd, Bool.and_eq_true, vaa] at hh; omega
 unfold hearR
 rcases vaI hr'.2 with hs | hs | hs | hs | hs
 ·rw [if_neg (by omega), if_neg (by omega), if_neg (by omega)]
  split
  ·exact vbs hc hr hh hn (by assumption)
  ·exact hr
 ·rw [if_pos hs]
  exact hr
 ·rw [if_neg (by omega), if_pos hs]
  have h2 := (vbC hs).1 hr'.2
  split
  ·split
   ·rw [vat]
    have ht := vaN hc 2 (by omega)
    simp only [leastS, Cf.t] at ht
    rw [okNow, vaa] at hn
    refine ⟨hr'.1, (vbC rfl).2 ?_⟩
    simp only
    exact ⟨h2.1, h2.2.1, h2.2.2.1, h2.2.2.2.1, by omega, by omega⟩
   ·split
    ·exact vcB hc hr hs hn
    ·exact vbs hc hr hh hn (by omega)
  ·split
   ·exact vbs hc hr hh hn (by omega)
   ·exact hr
 ·rw [if_neg (by omega), if_neg (by omega), if_pos hs]
  have h3 := (vch hs).1 hr'.2
  split
  ·exact vbs hc hr hh hn (by omega)
  ·exact hr
 ·rw [if_neg (by omega), if_neg (by omega), if_neg (by omega)]
  split
  ·exact vbs hc hr hh hn (by assumption)
  ·exact hr
theorem vcC {c : Cf} {r : Rt} {now : Int} (hc : okCf c = true) (hr : okR r = true) (hn : okNow now = true) : okR (loseR c r now) = true := by
 unfold loseR
 split
 ·exact vcB hc hr (by assumption) hn
 ·exact hr
theorem vbt {c : Cf} {r : Rt} {now : Int} (hc : okCf c = true) (hr : okR r = true) (hn : okNow now = true) : okR (expR c r now) = true := by
 have hr' := hr
 rw [vat] at hr'
 unfold expR
 split
 ·exact hr
 ·split
  ·exact vcB hc hr (by assumption) hn
  ·split
   ·next hs =>
    have h3 := (vch hs).1 hr'.2
    have ht := vaN hc 4 (by omega)
    simp only [leastS, Cf.t] at ht
    rw [okNow, vaa] at hn
    rw [vat]
    refine ⟨hr'.1, (vgb rfl).2 ?_⟩
    simp only
    exact ⟨h3.1, trivial, h3.2.2.2.1, by omega, by omega⟩
   ·exact veL hr'.1
theorem vlF (c : Cf) (r : Rt) (h : Hd) (now : Int) : (hearR c r h now).p = r.p := by
 unfold hearR newR lostR
 repeat' split
 all_goals rfl
theorem vig (c : Cf) (r : Rt) (now : Int) : (loseR c r now).p = r.p := by
 unfold loseR lostR
 split <;> rfl
theorem exp_p (c : Cf) (r : Rt) (now : Int) : (expR c r now).p = r.p := by
 unfold expR lostR noR
 repeat' split
 all_goals rfl
def cfC (c : Cf) (A : Option Addr) (n k : Nat) : Array Value := #[.int .i64 c.t0, .int .i64 c.t1, .int .i64 c.t2, .int .i64 c.t3, .int .i64 c.t4, .int .i64 c.t5, .int .i64 c.t6, .int .i64 c.cap, .slice A n k]
abbrev cfV (c : Cf) (A : Option Addr) (n k : Nat) : Value := .agg #[.int .i64 c.t0, .int .i64 c.t1, .int .i64 c.t2, .int .i64 c.t3, .int .i64 c.t4, .int .i64 c.t5, .int .i64 c.t6, .int .i64 c.cap, .slice A n k]
theorem vih (c : Cf) (A : Option Addr) (n k : Nat) (w : World) : Calls Tryz.prog 145 #[cfV c A n k] w fun e w' => e = .returned (.int .i64 c.t0) ∧ Kp w w' := by
 obtain ⟨W, hW, kW, B0⟩ := Blk.al1 (w := w) rfl (cfC c A n k) 24
 have p0 := Blk.f B0 rfl
 unfold cfC at hW
 go_enter Tryz.func145, Tryz.ntmps145
 go_wp2_with fail
 go_ret
 exact ⟨rfl, kW⟩
theorem vii (c : Cf) (A : Option Addr) (n k : Nat) (w : World) : Calls Tryz.prog 146 #[cfV c A n k] w fun e w' => e = .returned (.int .i64 c.t1) ∧ Kp w w' := by
 obtain ⟨W, hW, kW, B0⟩ := Blk.al1 (w := w) rfl (cfC c A n k) 24
 have p0 := Blk.f B0 rfl
 unfold cfC at hW
 go_enter Tryz.func146, Tryz.ntmps146
 go_wp2_with fail
 go_ret
 exact ⟨rfl, kW⟩
theorem vij (c : Cf) (A : Option Addr) (n k : Nat) (w : World) : Calls Tryz.prog 147 #[cfV c A n k] w fun e w' => e = .returned (.int .i64 c.t2) ∧ Kp w w' := by
 obtain ⟨W, hW, kW, B0⟩ := Blk.al1 (w := w) rfl (cfC c A n k) 24
 have p0 := Blk.f B0 rfl
 unfold cfC at hW
 go_enter Tryz.func147, Tryz.ntmps147
 go_wp2_with fail
 go_ret
 exact ⟨rfl, kW⟩
theorem vik (c : Cf) (A : Option Addr) (n k : Nat) (w : World) : Calls Tryz.prog 148 #[cfV c A n k] w fun e w' => e = .returned (.int .i64 c.t3) ∧ Kp w w' := by
 obtain ⟨W, hW, kW, B0⟩ := Blk.al1 (w := w) rfl (cfC c A n k) 24
 have p0 := Blk.f B0 rfl
 unfold cfC at hW
 go_enter Tryz.func148, Tryz.ntmps148
 go_wp2_with fail
 go_ret
 exact ⟨rfl, kW⟩
theorem vil (c : Cf) (A : Option Addr) (n k : Nat) (w : World) : Calls Tryz.prog 149 #[cfV c A n k] w fun e w' => e = .returned (.int .i64 c.t4) ∧ Kp w w' := by
 obtain ⟨W, hW, kW, B0⟩ := Blk.al1 (w := w) rfl (cfC c A n k) 24
 have p0 := Blk.f B0 rfl
 unfold cfC at hW
 go_enter Tryz.func149, Tryz.ntmps149
 go_wp2_with fail
 go_ret
 exact ⟨rfl, kW⟩
theorem vim (c : Cf) (A : Option Addr) (n k : Nat) (w : World) : Calls Tryz.prog 150 #[cfV c A n k] w fun e w' => e = .returned (.int .i64 c.t5) ∧ Kp w w' := by
 obtain ⟨W, hW, kW, B0⟩ := Blk.al1 (w := w) rfl (cfC c A n k) 24
 have p0 := Blk.f B0 rfl
 unfold cfC at hW
 go_enter Tryz.func150, Tryz.ntmps150
 go_wp2_with fail
 go_ret
 exact ⟨rfl, kW⟩
theorem vin (c : Cf) (A : Option Addr) (n k : Nat) (w : World) : Calls Tryz.prog 151 #[cfV c A n k] w fun e w' => e = .returned (.int .i64 c.t6) ∧ Kp w w' := by
 obtain ⟨W, hW, kW, B0⟩ := Blk.al1 (w := w) rfl (cfC c A n k) 24
 have p0 := Blk.f B0 rfl
 unfold cfC at hW
 go_enter Tryz.func151, Tryz.ntmps151
 go_wp2_with fail
 go_ret
 exact ⟨rfl, kW⟩
def clampI (n lo hi : Int) : Int := max lo (min n hi)
theorem vaO (n lo hi : Int) (h : lo ≤ hi) : (clampI n lo hi != n) = !withB lo hi n := by
 unfold clampI withB
 by_cases h1 : n < lo
 ·have : max lo (min n hi) ≠ n := by omega
  simp [h1, this]
 ·by_cases h2 : hi < n
  ·have : max lo (min n hi) ≠ n := by omega
   simp [h1, h2, this]
  ·have : max lo (min n hi) = n := by omega
   simp [h1, h2, this]
theorem vaD (n lo hi : Int) (w : World) : Calls Tryz.prog 131 #[.int .i64 n, .int .i64 lo, .int .i64 hi] w fun e w' => e = .returned (.int .i64 (clampI n lo hi)) ∧ w = w' := by
 go_enter Tryz.func131, Tryz.ntmps131
 go_wp2_with fail
 all_goals
  rename_i h0
  go_ret
  refine ⟨congrArg (fun z => Ending.returned (.int .i64 z)) ?_, rfl⟩
  unfold clampI
  first | rw [if_pos h] at h0 | rw [if_neg (by omega)] at h0
  omega
theorem vdJ (n lo hi : Int) (w : World) : Calls Tryz.prog 132 #[.int .i64 n, .int .i64 lo, .int .i64 hi] w fun e w' => e = .returned (.int .i64 (clampI n lo hi)) ∧ w = w' := by
 go_enter Tryz.func132, Tryz.ntmps132
 go_wp2_with fail
 all_goals
  rename_i h0
  go_ret
  refine ⟨congrArg (fun z => Ending.returned (.int .i64 z)) ?_, rfl⟩
  unfold clampI
  first | rw [if_pos h] at h0 | rw [if_neg (by omega)] at h0
  omega
set_option maxRecDepth 100000 in
theorem vkw (A : Option Addr) (c : Nat) (ps : List PI) (p : PI) (w : World) (hR : Rd w 2 PI.enc A ps) (hn : ps.length ≤ 1000000) : Calls Tryz.prog 170 #[.slice A ps.length c, .agg #[.int .u32 (p.a : Int), .int .i64 p.l]] w fun e w' => (∃ i : Int, e = .returned (.int .i64 i) ∧ decide (0 ≤ i) = decide (p ∈ ps)) ∧ Kp w w' := by
 obtain ⟨W, hW, kW, B0⟩ := Blk.al1 (w := w) rfl #[.int .u32 (p.a : Int), .int .i64 p.l] 29
 have hR := hR.keep kW
 go_enter Tryz.func170, Tryz.ntmps170
 go_wp2_with fail
 clear hW
 go_loopw [8] (fun i wr => ∃ k : Nat, k ≤ ps.length ∧ i = .int .i64 k ∧ Hid (∀ j (hj : j < ps.length), j < k → ¬ ps[j] = p) ∧ Kp w wr ∧ Kp W wr) (fun i _ => ps.length - (intOf i).toNat)
 case atStart => exact ⟨0, Nat.zero_le _, rfl, fun _ _ h => absurd h (by omega), kW, Kp.refl _⟩
 case round =>
  obtain ⟨k, hk, rfl, hall, hK, hK2⟩ := hrel
  have B := B0.keep hK2
  have p0 := Blk.f B rfl
  by_cases hlt : k < ps.length
  ·obtain ⟨b, off, rfl, c0, c1⟩ := pi_at (hR.keep hK2) hlt
   have heq := fun u => vfl u (p.a : Int) p.l (ps[k].a : Int) ps[k].l
   by_cases he : ps[k] = p
   ·rw [show ((p.a : Int) == (ps[k].a : Int) && p.l == ps[k].l) = true by simp [he]] at heq
    have H := Lib.hid (show p ∈ ps from he ▸ List.getElem_mem hlt)
    clear he
    go_wp2_with fail
    go_quiet (fail)
    go_wp2_with fail
    go_ret
    exact ⟨⟨_, rfl, by rw [decide_eq_true (show (0 : Int) ≤ (k : Int) by omega), decide_eq_true H.out]⟩, hK.drewN _⟩
   ·rw [show ((p.a : Int) == (ps[k].a : Int) && p.l == ps[k].l) = false by
     rw [Bool.eq_false_iff]
     intro h
     simp only [Bool.and_eq_true, beq_iff_eq] at h
     exact he (PI.ext' (by omega) h.2.symm)] at heq
    have H := Lib.hid he
    clear he
    go_wp2_with fail
    go_quiet (fail)
    go_wp2_with fail
    go_roundw
    case rel =>
     refine ⟨k + 1, by omega, by go_num, Lib.hid (fun j hj hjk => ?_), hK.drewN _, hK2.drewN _⟩
     by_cases hj' : j < k
     ·exact hall.out j hj hj'
     ·obtain rfl : j = k := by omega
      exact H.out
    case measure => simp [intOf]; omega
  ·obtain rfl : k = ps.length := by omega
   go_wp2_with fail
   go_ret
   refine ⟨⟨_, rfl, ?_⟩, hK⟩
   rw [decide_eq_false (by omega), eq_comm, decide_eq_false_iff_not]
   intro h
   obtain ⟨j, hj, e⟩ := List.getElem_of_mem h
   exact hall.out j hj hj e
set_option maxRecDepth 100000 in
theorem vkx (A : Option Addr) (c : Nat) (ps : List PI) (p : PI) (w : World) (hR : Rd w 2 PI.enc A ps) (hn : ps.length ≤ 1000000) : Calls Tryz.prog 134 #[.slice A ps.length c, .agg #[.int .u32 (p.a : Int), .int .i64 p.l]] w fun e w' => e = .returned (.bool (decide (p ∈ ps))) ∧ Kp w w' := by
 obtain ⟨W, hW, kW, B0⟩ := Blk.al1 (w := w) rfl #[.int .u32 (p.a : Int), .int .i64 p.l] 29
 have hR := hR.keep kW
 have p0 := Blk.f B0 rfl
 go_enter Tryz.func134, Tryz.ntmps134
 go_wp2_with fail
 refine (vkw A c ps p _ hR hn).mono ?_
 rintro e w1 ⟨⟨i, rfl, hi⟩, K1⟩
 go_wp2_with fail
 go_ret
 exact ⟨by rw [← hi]; rfl, kW.trans K1⟩
end

end Go.Proofs.YtffckpkikdlbpaaGreatDoor
