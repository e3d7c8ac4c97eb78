/- Lemmas and contracts for the theorem of this claim: RoE, TmQ, TmR, TmS. -/
import Derived.Test.YtgopnfacklmkaaaGreatDoorZyAs
set_option linter.all false
set_option maxHeartbeats 16000000
namespace Go.Proofs.YtgopnfacklmkaaaGreatDoor
section
open Go.RowKit
set_option maxRecDepth 100000 in
theorem veg (c : Cf) (A : Option Addr) (m : Nat) (r : Rt) (h : Hd) (now : Int) (w : World) (hS : SlPI w A m c.own) (hC : CapAt w) (ha : ∀ k (hk : k < c.own.length), c.own[k].a < 4294967296) (hp : r.p.a < 4294967296) (hx : r.x < 4294967296) (hha : h.a < 4294967296) :
  Calls Tryz.prog 57 #[cfV c A c.own.length m, roV r, .agg #[.int .i64 h.f, .int .u32 (h.a : Int), .int .i64 h.m], .int .i64 now] w (RTellP (askH c r h now) (hearR c r h now) w) := by
 obtain ⟨b, hb⟩ : ∃ b, w.heap.size = b := ⟨_, rfl⟩
 obtain ⟨W0, hW0, k0, B0, B1, B2⟩ := Blk.al3 hb (cfC c A c.own.length m) 49 (roC r) 52 #[.int .i64 h.f, .int .u32 (h.a : Int), .int .i64 h.m] 57
 have hs0 : W0.heap.size = b + 1 + 1 + 1 := by rw [← hW0, ← hb]; simp
 obtain ⟨W, hW, kW, C0, C1, C2, C3, C4⟩ : ∃ W, (W0.alloc (.cells zero9 52)).alloc (.cells #[.int .i64 0] 44) = W ∧ Kp w W ∧ Blk W b 49 (cfC c A c.own.length m) ∧ Blk W (b + 1) 52 (roC r) ∧ Blk W (b + 1 + 1) 57 #[.int .i64 h.f, .int .u32 (h.a : Int), .int .i64 h.m] ∧ Blk W (b + 1 + 1 + 1) 52 zero9 ∧ Blk W (b + 1 + 1 + 1 + 1) 44 #[.int .i64 0] := ⟨_, rfl, (k0.alloc _).alloc _, (B0.alloc _).alloc _, (B1.alloc _).alloc _, (B2.alloc _).alloc _, by rw [← hs0]; exact (Blk.new _ _ _).alloc _, by rw [← hs0]; exact Blk.new1 _ _ _ _⟩
 unfold cfC roC at hW0
 unfold zero9 at hW
 clear B0 B1 B2 k0
 have hlt := C4.lt
 have xc0 := Blk.f C0 rfl
 have xp0 := Blk.f C1 rfl
 have hbo : bothB c r = (okCf c && okR r) := rfl
 go_enter_defers Tryz.func57, Tryz.ntmps57
 go_wp2_with fail
 refine (vef c A m r _ (hS.keep kW) (hC.keep kW) ha hp hx).mono ?_
 rintro e w1 ⟨hY, hN, K1⟩
 have D0 := C0.keep K1
 have D1 := C1.keep K1
 have D2 := C2.keep K1
 have D3 := C3.keep K1
 have D4 := C4.keep K1
 have k1 := kW.trans K1
 clear xc0 xp0 hW hW0 C0 C1 C2 C3 C4 K1
 rcases hb1 : bothB c r with _ | _
 ·obtain rfl := hN hb1
  have HN := Lib.hid (show askH c r h now = 2 by unfold askH; rw [← hbo, hb1]; rfl)
  clear hY hN
  go_wp2_with fail
  refine leaves_cons (f := 120) (args := #[.pointer (some ⟨b + 1 + 1 + 1, 0, none⟩), .pointer (some ⟨b + 1 + 1 + 1 + 1, 0, none⟩)]) (by simp) (by simp [go_sem]) ?_
  refine (vbn (b + 1 + 1 + 1) (b + 1 + 1 + 1 + 1) _ _ _ _ _ _ _ _ _ _ 2 _ D3 D4 (by omega)).mono ?_
  rintro e u' wz ⟨rfl, rfl, C0, C1, hO⟩
  obtain ⟨q0, q1, q2, q3, q4, q5, q6, q7, q8⟩ := Blk.v9 C0 (.int .u32 0) (.int .i64 0) (.int .i64 0) (.int .i64 0) (.int .i64 0) (.int .i64 0) (.int .u32 0) (.int .i64 0) (.bool false) rfl
  have q9 : wz.cell? ⟨b + 1 + 1 + 1 + 1, 0, none⟩ = some (.int .i64 2) := C1.cell 0
  show Leaves _ _ _ _ [] .returning _
  exact ⟨.tuple #[roV zeroR, .int .i64 2], by simp [results, Tryz.results57, go_sem, zeroR, noR, q0, q1, q2, q3, q4, q5, q6, q7, q8, q9], RTellP.no HN.out (by decide) (hO.kp k1 (by simp; omega))⟩
 obtain rfl := hY hb1
 clear hY hN
 have xh0 := Blk.f D2 rfl
 go_wp2_with fail
 refine (vdD h _ hha).mono ?_
 rintro e w2 ⟨hY, hN, K2⟩
 have E0 := D0.keep K2
 have E1 := D1.keep K2
 have E2 := D2.keep K2
 have E3 := D3.keep K2
 have E4 := D4.keep K2
 have k2 := k1.trans K2
 clear xh0 D0 D1 D2 D3 D4 K2 k1
 rcases hb2 : okHd h with _ | _
 ·obtain rfl := hN hb2
  have HN := Lib.hid (show askH c r h now = 2 by unfold askH; rw [← hbo, hb1, hb2]; rfl)
  clear hY hN
  go_wp2_with fail
  refine leaves_cons (f := 120) (args := #[.pointer (some ⟨b + 1 + 1 + 1, 0, none⟩), .pointer (some ⟨b + 1 + 1 + 1 + 1, 0, none⟩)]) (by simp) (by simp [go_sem]) ?_
  refine (vbn (b + 1 + 1 + 1) (b + 1 + 1 + 1 + 1) _ _ _ _ _ _ _ _ _ _ 2 _ E3 E4 (by omega)).mono ?_
  rintro e u' wz ⟨rfl, rfl, C0, C1, hO⟩
  obtain ⟨q0, q1, q2, q3, q4, q5, q6, q7, q8⟩ := Blk.v9 C0 (.int .u32 0) (.int .i64 0) (.int .i64 0) (.int .i64 0) (.int .i64 0) (.int .i64 0) (.int .u32 0) (.int .i64 0) (.bool false) rfl
  have q9 : wz.cell? ⟨b + 1 + 1 + 1 + 1, 0, none⟩ = some (.int .i64 2) := C1.cell 0
  show Leaves _ _ _ _ [] .returning _
  exact ⟨.tuple #[roV zeroR, .int .i64 2], by simp [results, Tryz.results57, go_sem, zeroR, noR, q0, q1, q2, q3, q4, q5, q6, q7, q8, q9], RTellP.no HN.out (by decide) (hO.kp k2 (by simp; omega))⟩
 obtain rfl := hY hb2
 clear hY hN
 go_wp2_with fail
 refine (veF now _).mono ?_
 rintro e w3 ⟨hY, hN, K3⟩
 have F0 := E0.keep K3
 have F1 := E1.keep K3
 have F2 := E2.keep K3
 have F3 := E3.keep K3
 have F4 := E4.keep K3
 have k3 := k2.trans K3
 clear E0 E1 E2 E3 E4 K3 k2
 rcases hb3 : okNow now with _ | _
 ·obtain rfl := hN hb3
  have HN := Lib.hid (show askH c r h now = 170 by unfold askH; rw [← hbo, hb1, hb2, hb3]; rfl)
  clear hY hN
  go_wp2_with fail
  refine leaves_cons (f := 120) (args := #[.pointer (some ⟨b + 1 + 1 + 1, 0, none⟩), .pointer (some ⟨b + 1 + 1 + 1 + 1, 0, none⟩)]) (by simp) (by simp [go_sem]) ?_
  refine (vbn (b + 1 + 1 + 1) (b + 1 + 1 + 1 + 1) _ _ _ _ _ _ _ _ _ _ 170 _ F3 F4 (by omega)).mono ?_
  rintro e u' wz ⟨rfl, rfl, C0, C1, hO⟩
  obtain ⟨q0, q1, q2, q3, q4, q5, q6, q7, q8⟩ := Blk.v9 C0 (.int .u32 0) (.int .i64 0) (.int .i64 0) (.int .i64 0) (.int .i64 0) (.int .i64 0) (.int .u32 0) (.int .i64 0) (.bool false) rfl
  have q9 : wz.cell? ⟨b + 1 + 1 + 1 + 1, 0, none⟩ = some (.int .i64 170) := C1.cell 0
  show Leaves _ _ _ _ [] .returning _
  exact ⟨.tuple #[roV zeroR, .int .i64 170], by simp [results, Tryz.results57, go_sem, zeroR, noR, q0, q1, q2, q3, q4, q5, q6, q7, q8, q9], RTellP.no HN.out (by decide) (hO.kp k3 (by simp; omega))⟩
 obtain rfl := hY hb3
 clear hY hN
 have HN := Lib.hid (show askH c r h now = 0 by unfold askH; rw [← hbo, hb1, hb2, hb3]; rfl)
 rw [hbo, Bool.and_eq_true] at hb1
 have HH := viS c A c.own.length m r h now w3 hb1.1 hb1.2 hb2 hb3
 obtain ⟨x, hxx⟩ : ∃ x, hearR c r h now = x := ⟨_, rfl⟩
 rw [hxx] at HH
 have HZ := Lib.hid hxx
 clear hb1 hb2 hb3 hbo hxx
 have xc0 := Blk.f F0 rfl
 have xp0 := Blk.f F1 rfl
 have xh0 := Blk.f F2 rfl
 go_wp2_with fail
 refine HH.mono ?_
 rintro e w4 ⟨rfl, K4⟩
 have G3 := F3.keep K4
 have G4 := F4.keep K4
 have k4 := k3.trans K4
 clear xc0 xp0 xh0 F0 F1 F2 F3 F4 K4 k3
 obtain ⟨q0, q1, q2, q3, q4, q5, q6, q7, q8⟩ := Blk.v9 G3 (.int .u32 0) (.int .i64 0) (.int .i64 0) (.int .i64 0) (.int .i64 0) (.int .i64 0) (.int .u32 0) (.int .i64 0) (.bool false) rfl
 have z0 := Blk.frozen G3
 have d0 : w4.cell? ⟨b + 1 + 1 + 1 + 1, 0, none⟩ = some (.int .i64 0) := G4.cell 0
 have zd := Blk.frozen G4
 obtain ⟨R, hR, BR, BE, kR⟩ := Blk.put10 G3 x G4 (by omega) (v := .int .i64 0) k4 (by omega) (by omega)
 simp only [roSet] at hR
 go_wp2_with fail
 clear q0 q1 q2 q3 q4 q5 q6 q7 q8
 obtain ⟨q0, q1, q2, q3, q4, q5, q6, q7, q8⟩ := vab BR
 have q9 : R.cell? ⟨b + 1 + 1 + 1 + 1, 0, none⟩ = some (.int .i64 0) := BE.cell 0
 refine leaves_cons (f := 120) (args := #[.pointer (some ⟨b + 1 + 1 + 1, 0, none⟩), .pointer (some ⟨b + 1 + 1 + 1 + 1, 0, none⟩)]) (by simp) (by simp [go_sem]) ?_
 refine (vfK _ _ _).mono ?_
 rintro e u' wz ⟨rfl, rfl, rfl⟩
 show Leaves _ _ _ _ [] .returning _
 exact ⟨.tuple #[roV x, .int .i64 0], by simp [results, Tryz.results57, go_sem, q0, q1, q2, q3, q4, q5, q6, q7, q8, q9], by first | exact RTellP.yes HN.out kR | (rw [HZ.out]; exact RTellP.yes HN.out kR)⟩
end

section
open Go.RowKit Go.Maps Go.WideShapes
set_option maxRecDepth 100000 in
theorem vdE {w : World} {m n : Nat} {f : Tk → Option Nat} (h : MpT w m n f) {t : Tk} (ht : t.wf) : ∃ v : Int, (∀ w', w'.heap = w.heap → (Instr.lookup 211 (.map (some m)) (tkV t) true).run Tryz.prog w' = .ok (.tuple #[.int .i64 v, .bool (f t).isSome]) w') ∧ ∀ i, f t = some i → v = (i : Int) := by
 obtain ⟨D, hD, _, hf⟩ := h
 have hz : ∀ w', (zeroValue 3).run Tryz.prog w' = .ok (.int .i64 0) w' := fun w' => by kernel_rfl
 have hzd : plainElem Tryz.prog 3 (.int .i64 0) = some ((.lit (.int .i64 0) : DataW Unit), ([] : List MemPlace)) := plainElem_int Tryz.underlying3 (vcz ⟨by omega, by omega⟩)
 have H : ∀ w', w'.heap = w.heap → ∃ v : Int, (Instr.lookup 211 (.map (some m)) (tkV t) true).run Tryz.prog w' = .ok (.tuple #[.int .i64 v, .bool (f t).isSome]) w' ∧ D.atKey (tkKey t) (.lit (.int .i64 0)) = .lit (.int .i64 v) := fun w' e => by
  obtain ⟨v, ps, h1, h2⟩ := World.ownsMap.look_ok (vag hD (by rw [e])) keyedTm Tryz.underlying211 (hz w') hzd (vaF ht)
  obtain ⟨x, rfl, h3, _⟩ := plainElem_int_inv Tryz.underlying3 h2
  rw [hf.has_ t ht] at h1
  injection h3 with h3 _
  exact ⟨x, h1, h3⟩
 obtain ⟨v, h1, h2⟩ := H w rfl
 refine ⟨v, fun w' e => ?_, fun i hi => ?_⟩
 ·obtain ⟨x, h3, h4⟩ := H w' e
  rw [h2] at h4
  injection h4 with h4
  injection h4 with _ h4
  rw [h4]
  exact h3
 ·have := hf.at_ t ht i hi
  rw [h2] at this
  injection this with h4
  injection h4
structure QuS (w : World) (B a : Nat) (bs : List Nat) (l : List Tw) : Prop where
 q : ∃ q m v, Blk w a 216 #[.pointer (some ⟨q, 0, none⟩)] ∧ QuM w B q m v l ∧ a ∈ bs ∧ q ∈ bs ∧ m ∈ bs ∧ ∀ g, v.ownBlock = some g → g ∈ bs
 lo : ∀ b ∈ bs, B ≤ b ∧ b < w.heap.size
 hp : Heap ltT (fT l) l.length
 k3 : ∀ y ∈ l, y.k = 3
set_option maxRecDepth 100000 in
theorem viT (B a q m : Nat) (A : Option Addr) (c n : Nat) (l : List Tw) (p : PI) (d : Int) (w : World) (hA : Blk w a 216 #[.pointer (some ⟨q, 0, none⟩)]) (Q : QuM w B q m (.slice A l.length c) l) (hln : l.length = n) (hB : B ≤ w.heap.size) (hx : (Tw.mk 3 p d).tk.wf) (hc : checkP p = 0) (hd0 : 0 ≤ d) (hd1 : d ≤ 4611686018427387904) (hn : ∀ i (h : i < l.length), l[i].tk ≠ (Tw.mk 3 p d).tk) (hl : n ≤ 900000) (hH : Heap ltT (fT l) n) :
  Calls Tryz.prog 174 #[.pointer (some ⟨a, 0, none⟩), .agg #[.int .i64 3, .int .u32 (p.a : Int), .int .i64 p.l], .int .i64 d] w fun e w' => (∃ v, e = .returned v) ∧ ∃ g c' l', QuM w' B q m (.slice (some ⟨g, 0, none⟩) (n + 1) c') l' ∧ l'.Perm (l ++ [⟨3, p, d⟩]) ∧ l'.length = n + 1 ∧ Heap ltT (fT l') (n + 1) ∧ ((Value.slice A l.length c).ownBlock = some g ∨ w.heap.size ≤ g) ∧ ∀ bs : List Nat, q ∈ bs → m ∈ bs → (∀ g, (Value.slice A l.length c).ownBlock = some g → g ∈ bs) → Only bs w w' := by
 have haq : p.a < 4294967296 := hx.a
 obtain ⟨r, hr⟩ : ∃ r, w.heap.size = r := ⟨_, rfl⟩
 obtain ⟨W0, hW0, K0, BP⟩ := Blk.al1 hr #[.int .i64 3, .int .u32 (p.a : Int), .int .i64 p.l] 252
 have A0 := hA.keep K0
 have Q0 := Q.keep K0
 obtain ⟨p0, p1, p2⟩ := Blk.v3 BP (.int .i64 3) (.int .u32 p.a) (.int .i64 p.l) rfl
 have hz : ¬ d < 0 := by omega
 have hmx : ¬ 4611686018427387904 < d := by omega
 have hzb : decide (d < 0) = false := decide_eq_false hz
 have hmb : decide (4611686018427387904 < d) = false := decide_eq_false hmx
 have HC := Lib.hid (vaq p W0 haq)
 have HCc := Lib.hid hc
 have Hn := Lib.hid hn
 have HH := Lib.hid hH
 have Hln := Lib.hid hln
 have Hx := Lib.hid hx
 clear hn hH hx hln
 clear hc
 go_enter Tryz.func174, Tryz.ntmps174
 go_wp2_with fail
 refine vaa 0 rfl ?_
 go_wp2_with fail
 refine (vcj a q _ A0).mono ?_
 rintro e w1 ⟨rfl, rfl⟩
 go_wp2_with fail
 refine HC.out.mono ?_
 rintro e w1 ⟨rfl, K1⟩
 rw [if_pos HCc.out]
 have KW := K0.trans K1
 have A1 := A0.keep K1
 have Q1 := Q0.keep K1
 obtain ⟨f, hm, hpl⟩ := Q1.mp
 obtain ⟨v, hlook, _⟩ := vdE hm Hx.out
 have hf : f (Tw.mk 3 p d).tk = none := hpl.no _ Hn.out
 rw [hf] at hlook
 have hlk : ∀ k, (Instr.lookup 211 (.map (some m)) (.agg #[.int .i64 3, .int .u32 (p.a : Int), .int .i64 p.l]) true).run Tryz.prog (w1.drewN k) = .ok (.tuple #[.int .i64 v, .bool false]) (w1.drewN k) := fun k => hlook _ rfl
 have B1 := BP.keep K1
 have q0 : w1.cell? ⟨a, 0, none⟩ = some (.pointer (some ⟨q, 0, none⟩)) := A1.cell 0
 have q1 : w1.cell? ⟨q, 1, none⟩ = some (.map (some m)) := Q1.bk.cell 1
 obtain ⟨u0, u1, u2⟩ := Blk.v3 B1 (.int .i64 3) (.int .u32 p.a) (.int .i64 p.l) rfl
 clear hlook
 go_wp2_with fail
 go_quiet (fail)
 obtain ⟨W2, hW2, K2⟩ : ∃ W2, w1.drewN nq = W2 ∧ Kp w1 W2 := ⟨_, rfl, (Kp.refl _).drewN _⟩
 rw [hW2]
 have A2 := A1.keep K2
 have Q2 := Q1.keep K2
 have B2 := B1.keep K2
 clear hW2 hlk q0 q1 u0 u1 u2 p0 p1 p2 hf hpl hm
 have q0 : W2.cell? ⟨a, 0, none⟩ = some (.pointer (some ⟨q, 0, none⟩)) := A2.cell 0
 obtain ⟨u0, u1, u2⟩ := Blk.v3 B2 (.int .i64 3) (.int .u32 p.a) (.int .i64 p.l) rfl
 go_wp2_with fail
 go_still_tail 9, (by kernel_rfl)
 change wpList _ _ _ _ _ W2.drew
 go_wp2_with fail
 refine (vdY B q m A c n l ⟨3, p, d⟩ W2.drew (Q2.keep ((Kp.refl _).drew)) Hln.out (Nat.le_trans hB (KW.trans K2).size) Hx.out (show wfI d from ⟨by omega, by omega⟩) Hn.out hl HH.out).mono ?_
 rintro e w3 ⟨rfl, g, c', l', Q3, hp3, hl3, hH3, hgg, hF⟩
 have Hgg := Lib.hid (hgg.imp id (fun h => Nat.le_trans (KW.trans K2).size h))
 clear hgg
 have HF := Lib.hid hF
 clear hF
 go_wp2_with fail
 refine vam ?_
 exact bodyPost_ret (v := .tuple #[.int .i64 0, .bool false, .int .i64 0]) (by simp [results, Tryz.results174, go_sem]) rfl ⟨⟨_, rfl⟩, g, c', l', Q3, hp3, hl3, hH3, Hgg.out, fun bs hq hm hg => (Only.of_kp ((KW.trans K2).drew)).trans (HF.out bs hq hm hg)⟩
set_option maxRecDepth 100000 in
theorem viU (B a q m g c n : Nat) (l : List Tw) (p : PI) (d : Int) (i : Nat) (hi : i < l.length) (w : World) (hA : Blk w a 216 #[.pointer (some ⟨q, 0, none⟩)]) (Q : QuM w B q m (.slice (some ⟨g, 0, none⟩) n c) l) (hln : l.length = n) (hx : (Tw.mk 3 p d).tk.wf) (hc : checkP p = 0) (hd0 : 0 ≤ d) (hd1 : d ≤ 4611686018427387904) (hn : l[i].tk = (Tw.mk 3 p d).tk) (hl : n ≤ 900000) (hH : Heap ltT (fT l) n) :
  Calls Tryz.prog 174 #[.pointer (some ⟨a, 0, none⟩), .agg #[.int .i64 3, .int .u32 (p.a : Int), .int .i64 p.l], .int .i64 d] w fun e w' => (∃ v, e = .returned v) ∧ ∃ l', QuM w' B q m (.slice (some ⟨g, 0, none⟩) n c) l' ∧ l'.Perm (l.set i ⟨3, p, d⟩) ∧ l'.length = n ∧ Heap ltT (fT l') n ∧ Only [g, m] w w' := by
 have haq : p.a < 4294967296 := hx.a
 obtain ⟨r, hr⟩ : ∃ r, w.heap.size = r := ⟨_, rfl⟩
 obtain ⟨W0, hW0, K0, BP⟩ := Blk.al1 hr #[.int .i64 3, .int .u32 (p.a : Int), .int .i64 p.l] 252
 have A0 := hA.keep K0
 have Q0 := Q.keep K0
 obtain ⟨p0, p1, p2⟩ := Blk.v3 BP (.int .i64 3) (.int .u32 p.a) (.int .i64 p.l) rfl
 have hz : ¬ d < 0 := by omega
 have hmx : ¬ 4611686018427387904 < d := by omega
 have hzb : decide (d < 0) = false := decide_eq_false hz
 have hmb : decide (4611686018427387904 < d) = false := decide_eq_false hmx
 have HC := Lib.hid (vaq p W0 haq)
 have HCc := Lib.hid hc
 have Hn := Lib.hid hn
 have i0 : (0 : Int) ≤ (i : Int) := by omega
 have i1 : (i : Int) < (n : Int) := by omega
 have gi : IntKind.i64.wrap (i : Int) = (i : Int) := IntWalk.i64_in _ (by omega)
 obtain ⟨z, hz0⟩ : ∃ z, l[i].d = z := ⟨_, rfl⟩
 have Hz := Lib.hid hz0
 clear hz0
 have HH := Lib.hid hH
 have Hln := Lib.hid hln
 have Hx := Lib.hid hx
 clear hH hx hln
 clear hc hn
 go_enter Tryz.func174, Tryz.ntmps174
 go_wp2_with fail
 refine vaa 0 rfl ?_
 go_wp2_with fail
 refine (vcj a q _ A0).mono ?_
 rintro e w1 ⟨rfl, rfl⟩
 go_wp2_with fail
 refine HC.out.mono ?_
 rintro e w1 ⟨rfl, K1⟩
 rw [if_pos HCc.out]
 have KW := K0.trans K1
 have A1 := A0.keep K1
 have Q1 := Q0.keep K1
 obtain ⟨f, hm, hpl⟩ := Q1.mp
 obtain ⟨v, hlook, hv⟩ := vdE hm Hx.out
 have hf : f (Tw.mk 3 p d).tk = some i := by rw [← Hn.out]; exact hpl.at_ i hi
 obtain rfl := hv i hf
 rw [hf] at hlook
 have hlk : ∀ k, (Instr.lookup 211 (.map (some m)) (.agg #[.int .i64 3, .int .u32 (p.a : Int), .int .i64 p.l]) true).run Tryz.prog (w1.drewN k) = .ok (.tuple #[.int .i64 (i : Int), .bool true]) (w1.drewN k) := fun k => hlook _ rfl
 have B1 := BP.keep K1
 have q0 : w1.cell? ⟨a, 0, none⟩ = some (.pointer (some ⟨q, 0, none⟩)) := A1.cell 0
 have q1 : w1.cell? ⟨q, 1, none⟩ = some (.map (some m)) := Q1.bk.cell 1
 obtain ⟨u0, u1, u2⟩ := Blk.v3 B1 (.int .i64 3) (.int .u32 p.a) (.int .i64 p.l) rfl
 clear hlook hv
 go_wp2_with fail
 go_quiet (fail)
 obtain ⟨W2, hW2, K2⟩ : ∃ W2, w1.drewN nq = W2 ∧ Kp w1 W2 := ⟨_, rfl, (Kp.refl _).drewN _⟩
 rw [hW2]
 have A2 := A1.keep K2
 have Q2 := Q1.keep K2
 obtain ⟨b, off, hBe, x0, x1, x2, x3⟩ := tw_at (Q2.own.rdAt (by decide) Tw.len) hi
 injection hBe with hBe
 injection hBe with e1 e2
 subst e1
 subst e2
 rw [Nat.zero_add, Hz.out] at x3
 clear x0 x1 x2
 have hcn : c = c := rfl
 clear hW2 hlk q0 q1 u0 u1 u2 p0 p1 p2 hf hpl hm
 have q0 : W2.cell? ⟨a, 0, none⟩ = some (.pointer (some ⟨q, 0, none⟩)) := A2.cell 0
 have q1 : W2.cell? ⟨q, 0, none⟩ = some (.slice (some ⟨g, 0, none⟩) n c) := Q2.bk.cell 0
 have ice := Q2.own.ice (i * 4 + 3)
 obtain ⟨cur, hcur⟩ := Q2.own.blk4
 have hga : a ≠ g := A2.ne_tagT hcur (by decide)
 have hgq : q ≠ g := Q2.bk.ne_tagT hcur (by decide)
 have hO := Q2.own.putDue hi ⟨3, p, d⟩ Hn.out.symm
 have O2 : Only [g] W2 (W2.setCell ⟨g, i * 4 + 3, none⟩ (.int .i64 d)) := (Only.refl [g] W2).setCell (p := ⟨g, i * 4 + 3, none⟩) (.inl (by simp)) _
 go_wp2_with fail
 have hD : DownH ltT (fT (l.set i ⟨3, p, d⟩)) n i i := by
  refine Heap.put vaW HH.out (fun k hk hk0 => (vkB hi _).2 k hk0) (by omega)
 have Q4 : QuM (W2.setCell ⟨g, i * 4 + 3, none⟩ (.int .i64 d)) B q m (.slice (some ⟨g, 0, none⟩) n c) (l.set i ⟨3, p, d⟩) := by
  obtain ⟨f2, hm2, hp2⟩ := Q2.mp
  have hgm : m ≠ g := hm2.ne hcur
  refine ⟨Q2.bk.only O2 (by simpa using hgq), hO, ⟨f2, ?_, hp2.set_ hi _ Hn.out.symm⟩, fun t ht => ?_⟩
  ·rw [List.length_set]
   exact hm2.lie (O2.block m hm2.lt (by simpa using hgm))
  ·rcases List.mem_or_eq_of_mem_set ht with h | h
   ·exact Q2.wf t h
   ·rw [h]
    exact ⟨Hx.out, show wfI d from ⟨by omega, by omega⟩⟩
 refine (veA B q m g c n (l.set i ⟨3, p, d⟩) i _ Q4 (by rw [List.length_set]; exact Hln.out) (by omega) (by omega) hD).mono ?_
 rintro e w3 ⟨rfl, l', Q3, hp3, hl3, hH3, O3⟩
 clear hD x3 q0 q1 ice
 go_wp2_with fail
 refine vam ?_
 exact bodyPost_ret (v := .tuple #[.int .i64 z, .bool true, .int .i64 0]) (by simp [results, Tryz.results174, go_sem]) rfl ⟨⟨_, rfl⟩, l', Q3, hp3, hl3, hH3, ((Only.of_kp (KW.trans K2)).trans (O2.wide (by simp))).trans O3⟩
set_option maxRecDepth 100000 in
theorem vfL (B a q m : Nat) (A : Option Addr) (c : Nat) (l : List Tw) (p : PI) (w : World) (hA : Blk w a 216 #[.pointer (some ⟨q, 0, none⟩)]) (Q : QuM w B q m (.slice A l.length c) l) (hx : (Tw.mk 3 p 0).tk.wf) (hc : checkP p = 0) (hn : ∀ i (h : i < l.length), l[i].tk ≠ (Tw.mk 3 p 0).tk) :
  Calls Tryz.prog 176 #[.pointer (some ⟨a, 0, none⟩), .agg #[.int .i64 3, .int .u32 (p.a : Int), .int .i64 p.l]] w fun e w' => (∃ v, e = .returned v) ∧ Kp w w' := by
 have haq : p.a < 4294967296 := hx.a
 obtain ⟨r, hr⟩ : ∃ r, w.heap.size = r := ⟨_, rfl⟩
 obtain ⟨W0, hW0, K0, BP⟩ := Blk.al1 hr #[.int .i64 3, .int .u32 (p.a : Int), .int .i64 p.l] 252
 have A0 := hA.keep K0
 have Q0 := Q.keep K0
 obtain ⟨p0, p1, p2⟩ := Blk.v3 BP (.int .i64 3) (.int .u32 p.a) (.int .i64 p.l) rfl
 have HC := Lib.hid (vaq p W0 haq)
 have HCc := Lib.hid hc
 have Hn := Lib.hid hn
 have Hx := Lib.hid hx
 clear hn hx hc
 go_enter Tryz.func176, Tryz.ntmps176
 go_wp2_with fail
 refine vaa 0 rfl ?_
 go_wp2_with fail
 refine (vcj a q _ A0).mono ?_
 rintro e w1 ⟨rfl, rfl⟩
 go_wp2_with fail
 refine HC.out.mono ?_
 rintro e w1 ⟨rfl, K1⟩
 rw [if_pos HCc.out]
 have KW := K0.trans K1
 have A1 := A0.keep K1
 have Q1 := Q0.keep K1
 obtain ⟨f, hm, hpl⟩ := Q1.mp
 obtain ⟨v, hlook, hv⟩ := vdE hm Hx.out
 have hf : f (Tw.mk 3 p 0).tk = none := hpl.no _ Hn.out
 rw [hf] at hlook
 have hlk : ∀ k, (Instr.lookup 211 (.map (some m)) (.agg #[.int .i64 3, .int .u32 (p.a : Int), .int .i64 p.l]) true).run Tryz.prog (w1.drewN k) = .ok (.tuple #[.int .i64 v, .bool false]) (w1.drewN k) := fun k => hlook _ rfl
 have B1 := BP.keep K1
 have q0 : w1.cell? ⟨a, 0, none⟩ = some (.pointer (some ⟨q, 0, none⟩)) := A1.cell 0
 have q1 : w1.cell? ⟨q, 1, none⟩ = some (.map (some m)) := Q1.bk.cell 1
 obtain ⟨u0, u1, u2⟩ := Blk.v3 B1 (.int .i64 3) (.int .u32 p.a) (.int .i64 p.l) rfl
 clear hlook hv
 go_wp2_with fail
 go_quiet (fail)
 obtain ⟨W2, hW2, K2⟩ : ∃ W2, w1.drewN nq = W2 ∧ Kp w1 W2 := ⟨_, rfl, (Kp.refl _).drewN _⟩
 rw [hW2]
 have A2 := A1.keep K2
 have Q2 := Q1.keep K2
 clear hW2 hlk q0 q1 u0 u1 u2 p0 p1 p2 hf hpl hm
 have q0 : W2.cell? ⟨a, 0, none⟩ = some (.pointer (some ⟨q, 0, none⟩)) := A2.cell 0
 go_wp2_with fail
 refine vam ?_
 exact bodyPost_ret (v := .tuple #[.int .i64 0, .bool false, .int .i64 0]) (by simp [results, Tryz.results176, go_sem]) rfl ⟨⟨_, rfl⟩, KW.trans K2⟩
set_option maxRecDepth 100000 in
theorem veG (B a q m g c n : Nat) (l : List Tw) (p : PI) (i : Nat) (hi : i < l.length) (w : World) (hA : Blk w a 216 #[.pointer (some ⟨q, 0, none⟩)]) (Q : QuM w B q m (.slice (some ⟨g, 0, none⟩) (n + 1) c) l) (hln : l.length = n + 1) (hx : (Tw.mk 3 p 0).tk.wf) (hc : checkP p = 0) (hn : l[i].tk = (Tw.mk 3 p 0).tk) (hl : n ≤ 900000) (hH : Heap ltT (fT l) (n + 1)) :
  Calls Tryz.prog 176 #[.pointer (some ⟨a, 0, none⟩), .agg #[.int .i64 3, .int .u32 (p.a : Int), .int .i64 p.l]] w fun e w' => (∃ v, e = .returned v) ∧ ∃ l', QuM w' B q m (.slice (some ⟨g, 0, none⟩) n c) l' ∧ (l' ++ [fT l i]).Perm l ∧ l'.length = n ∧ Heap ltT (fT l') n ∧ Only [q, g, m] w w' := by
 have haq : p.a < 4294967296 := hx.a
 obtain ⟨r, hr⟩ : ∃ r, w.heap.size = r := ⟨_, rfl⟩
 obtain ⟨W0, hW0, K0, BP⟩ := Blk.al1 hr #[.int .i64 3, .int .u32 (p.a : Int), .int .i64 p.l] 252
 have A0 := hA.keep K0
 have Q0 := Q.keep K0
 obtain ⟨p0, p1, p2⟩ := Blk.v3 BP (.int .i64 3) (.int .u32 p.a) (.int .i64 p.l) rfl
 have HC := Lib.hid (vaq p W0 haq)
 have HCc := Lib.hid hc
 have Hn := Lib.hid hn
 have Hx := Lib.hid hx
 have Hln := Lib.hid hln
 have HH := Lib.hid hH
 have i0 : (0 : Int) ≤ (i : Int) := by omega
 have gi : IntKind.i64.wrap (i : Int) = (i : Int) := IntWalk.i64_in _ (by omega)
 have hin : i ≤ n := by omega
 obtain ⟨z, hz0⟩ : ∃ z, fT l i = z := ⟨_, rfl⟩
 rw [hz0]
 have Hz := Lib.hid hz0
 have hta := rowTb
 clear hz0 hn hx hc hln hH
 go_enter Tryz.func176, Tryz.ntmps176
 go_wp2_with fail
 refine vaa 0 rfl ?_
 go_wp2_with fail
 refine (vcj a q _ A0).mono ?_
 rintro e w1 ⟨rfl, rfl⟩
 go_wp2_with fail
 refine HC.out.mono ?_
 rintro e w1 ⟨rfl, K1⟩
 rw [if_pos HCc.out]
 have KW := K0.trans K1
 have A1 := A0.keep K1
 have Q1 := Q0.keep K1
 obtain ⟨f, hm, hpl⟩ := Q1.mp
 obtain ⟨v, hlook, hv⟩ := vdE hm Hx.out
 have hf : f (Tw.mk 3 p 0).tk = some i := by rw [← Hn.out]; exact hpl.at_ i hi
 obtain rfl := hv i hf
 rw [hf] at hlook
 have hlk : ∀ k, (Instr.lookup 211 (.map (some m)) (.agg #[.int .i64 3, .int .u32 (p.a : Int), .int .i64 p.l]) true).run Tryz.prog (w1.drewN k) = .ok (.tuple #[.int .i64 (i : Int), .bool true]) (w1.drewN k) := fun k => hlook _ rfl
 have B1 := BP.keep K1
 have q0 : w1.cell? ⟨a, 0, none⟩ = some (.pointer (some ⟨q, 0, none⟩)) := A1.cell 0
 have q1 : w1.cell? ⟨q, 1, none⟩ = some (.map (some m)) := Q1.bk.cell 1
 obtain ⟨u0, u1, u2⟩ := Blk.v3 B1 (.int .i64 3) (.int .u32 p.a) (.int .i64 p.l) rfl
 clear hlook hv
 go_wp2_with fail
 go_quiet (fail)
 obtain ⟨W2, hW2, K2⟩ : ∃ W2, w1.drewN nq = W2 ∧ Kp w1 W2 := ⟨_, rfl, (Kp.refl _).drewN _⟩
 rw [hW2]
 have A2 := A1.keep K2
 have Q2 := Q1.keep K2
 clear hW2 hlk q0 q1 u0 u1 u2 p0 p1 p2 hf hpl hm
 have q0 : W2.cell? ⟨a, 0, none⟩ = some (.pointer (some ⟨q, 0, none⟩)) := A2.cell 0
 have HRm := vcL B q m g c n l i W2 Q2 Hln.out hin hl HH.out
 rw [Hz.out] at HRm
 have HR := Lib.hid HRm
 clear HRm
 go_wp2_with fail
 refine HR.out.mono ?_
 rintro e w2 ⟨l', rfl, Q3, hp3, hl3, hH3, O3⟩
 have HQ := Lib.hid Q3
 clear HR q0 Q2 Q3
 obtain ⟨r2, hr2⟩ : ∃ r2, w2.heap.size = r2 := ⟨_, rfl⟩
 obtain ⟨W3, hW3, K3, BR⟩ := Blk.al1 hr2 #[.int .i64 z.k, .int .u32 (z.p.a : Int), .int .i64 z.p.l, .int .i64 z.d] 337
 obtain ⟨r0, r1, r22, r3⟩ := Blk.v4 BR (.int .i64 z.k) (.int .u32 z.p.a) (.int .i64 z.p.l) (.int .i64 z.d) rfl
 go_wp2_with fail
 refine vam ?_
 exact bodyPost_ret (v := .tuple #[.int .i64 z.d, .bool true, .int .i64 0]) (by simp [results, Tryz.results176, go_sem]) rfl ⟨⟨_, rfl⟩, l', HQ.out.keep K3, hp3, hl3, hH3, ((Only.of_kp (KW.trans K2)).trans O3).trans (Only.of_kp K3)⟩
def QT (w w' : World) (B a : Nat) (bs : List Nat) (l : List Tw) : Prop := ∃ bs', QuS w' B a bs' l ∧ Only bs w w' ∧ ∀ b ∈ bs', b ∈ bs ∨ w.heap.size ≤ b
theorem QuM.only {bs : List Nat} {w w' : World} {B q m : Nat} {v : Value} {l : List Tw} (Q : QuM w B q m v l) (k : Only bs w w') (hq : q ∉ bs) (hm : m ∉ bs) (hg : ∀ g, v.ownBlock = some g → g ∉ bs) : QuM w' B q m v l := by
 obtain ⟨f, h1, h2⟩ := Q.mp
 exact ⟨Q.bk.only k hq, Q.own.lieT (fun g e => k.block g (World.ownsRow.lt Q.own g e).2 (hg g e)), ⟨f, h1.lie (k.block m h1.lt hm), h2⟩, Q.wf⟩
theorem QuS.only {bs F : List Nat} {w w' : World} {B a : Nat} {l : List Tw} (h : QuS w B a F l) (k : Only bs w w') (hb : ∀ b ∈ F, b ∉ bs) : QuS w' B a F l := by
 obtain ⟨q, m, v, hA, Q, ha, hq, hm, hg⟩ := h.q
 exact ⟨⟨q, m, v, hA.only k (hb _ ha), Q.only k (hb _ hq) (hb _ hm) (fun g e => hb _ (hg g e)), ha, hq, hm, hg⟩, fun b e => ⟨(h.lo b e).1, Nat.lt_of_lt_of_le (h.lo b e).2 k.size⟩, h.hp, h.k3⟩
theorem QuS.keep {F : List Nat} {w w' : World} {B a : Nat} {l : List Tw} (h : QuS w B a F l) (k : Kp w w') : QuS w' B a F l := h.only (bs := []) (Only.of_kp k) (fun _ _ => by simp)
theorem QuS.wf {F : List Nat} {w : World} {B a : Nat} {l : List Tw} (h : QuS w B a F l) : ∀ y ∈ l, y.tk.wf ∧ wfI y.d := by
 obtain ⟨q, m, v, _, Q, _⟩ := h.q
 exact Q.wf
theorem QuS.apart {F : List Nat} {w : World} {B a : Nat} {l : List Tw} (h : QuS w B a F l) {i j : Nat} (hi : i < l.length) (hj : j < l.length) (e : l[i].p = l[j].p) : i = j := by
 obtain ⟨q, m, v, _, Q, _⟩ := h.q
 obtain ⟨f, _, hp⟩ := Q.mp
 exact hp.apart hi hj ((tk_eq (h.k3 _ (List.getElem_mem hi)) (h.k3 _ (List.getElem_mem hj))).2 e)
theorem QT.of_kp {w w' : World} {B a : Nat} {F : List Nat} {l : List Tw} (h : QuS w B a F l) (k : Kp w w') : QT w w' B a F l := ⟨F, h.keep k, Only.of_kp k, fun _ e => .inl e⟩
theorem vdF {w : World} {B A' : Nat} {A : Option Addr} {n c : Nat} {l : List Tw} (h : Own w B A' 4 Tw.enc (.slice A n c) l) (hl : l ≠ []) : ∃ g, A = some ⟨g, 0, none⟩ ∧ n = l.length ∧ (Value.slice A n c).ownBlock = some g ∧ B ≤ g := by
 rcases h.2 with ⟨_, h2⟩ | ⟨g, cap, cur, hv, hg, _⟩
 ·exact absurd (List.length_eq_zero_iff.1 h2) hl
 ·injection hv with e1 e2 e3
  exact ⟨g, e1, e2, by rw [e1]; rfl, hg⟩
theorem vly (w : World) : Calls Tryz.prog 50 #[] w fun e w' => ∃ a bs, e = .returned (.pointer (some ⟨a, 0, none⟩)) ∧ QuS w' w.heap.size a bs [] ∧ Kp w w' := by
 refine (viD w).mono ?_
 rintro e w' ⟨a, q, m, rfl, hA, Q, K, hb⟩
 exact ⟨a, [a, q, m], rfl, ⟨⟨q, m, _, hA, Q, by simp, by simp, by simp, fun g h => by cases h⟩, hb, fun k _ hk => absurd hk (by simp), fun y hy => absurd hy (by simp)⟩, K⟩
theorem vhe (B a : Nat) (bs : List Nat) (l : List Tw) (p : PI) (d : Int) (w : World) (S : QuS w B a bs l) (ha : p.a < 4294967296) (hpl : wfI p.l) (hc : checkP p = 0) (hd0 : 0 ≤ d) (hd1 : d ≤ 4611686018427387904) (hl : l.length ≤ 900000) :
  Calls Tryz.prog 174 #[.pointer (some ⟨a, 0, none⟩), .agg #[.int .i64 3, .int .u32 (p.a : Int), .int .i64 p.l], .int .i64 d] w fun e w' => (∃ v, e = .returned v) ∧ ∃ l', l'.Perm (⟨3, p, d⟩ :: offP p l) ∧ QT w w' B a bs l' := by
 obtain ⟨q, m, v, hA, Q, ba, bq, bm, bg⟩ := S.q
 obtain ⟨A, c, rfl⟩ := Q.own.form
 have hx : (Tw.mk 3 p d).tk.wf := ⟨show wfI 3 from ⟨by omega, by omega⟩, ha, hpl⟩
 have hB : B ≤ w.heap.size := by have := S.lo a ba; omega
 by_cases hex : ∃ i, ∃ h : i < l.length, l[i].p = p
 ·obtain ⟨i, hi, he⟩ := hex
  obtain ⟨g, rfl, _, hg, _⟩ := vdF Q.own (fun e => by subst e; simp at hi)
  refine (viU B a q m g c l.length l p d i hi w hA Q rfl hx hc hd0 hd1 ((tk_eq (S.k3 _ (List.getElem_mem hi)) rfl).2 he) hl S.hp).mono ?_
  rintro e w' ⟨hv, l', Q', hp', hl', hH', O⟩
  have hgb := bg g hg
  have O' : Only bs w w' := O.wide (by simp; exact ⟨hgb, bm⟩)
  have hperm : (l.set i ⟨3, p, d⟩).Perm (⟨3, p, d⟩ :: offP p l) := viE hi ⟨3, p, d⟩ he.symm (fun j hj e => S.apart hj hi e)
  refine ⟨hv, l', hp'.trans hperm, bs, ⟨⟨q, m, _, hA.only (O) ?_, Q', ba, bq, bm, bg⟩, fun b hb => ⟨(S.lo b hb).1, Nat.lt_of_lt_of_le (S.lo b hb).2 O.size⟩, by rw [hl']; exact hH', fun y hy => ?_⟩, O', fun b hb => .inl hb⟩
  ·obtain ⟨cur, hcur⟩ := Q.own.blk4
   obtain ⟨f, hm, _⟩ := Q.mp
   have h1 := hA.ne_tagT hcur (by decide)
   have h2 := hm.ne hA
   simp
   exact ⟨h1, fun e => h2 e.symm⟩
  ·rcases List.mem_or_eq_of_mem_set (hp'.mem_iff.1 hy) with h | h
   ·exact S.k3 y h
   ·rw [h]
 ·have hn : ∀ i (h : i < l.length), l[i].tk ≠ (Tw.mk 3 p d).tk := fun i h e => hex ⟨i, h, (tk_eq (S.k3 _ (List.getElem_mem h)) rfl).1 e⟩
  refine (viT B a q m A c l.length l p d w hA Q rfl hB hx hc hd0 hd1 hn hl S.hp).mono ?_
  rintro e w' ⟨hv, g, c', l', Q', hp', hl', hH', hgg, hF⟩
  have O := hF bs bq bm bg
  have hoff : offP p l = l := vaY (fun y hy e => by
   obtain ⟨i, hi, rfl⟩ := List.getElem_of_mem hy
   exact hex ⟨i, hi, e⟩)
  obtain ⟨g2, hg2, _, hgo, hBg⟩ := vdF Q'.own (fun e => by subst e; simp at hl')
  have hglt := World.ownsRow.lt Q'.own g2 hgo
  injection hg2 with hg2
  injection hg2 with hg2
  subst hg2
  have O2 : Only (q :: m :: (Value.slice A l.length c).ownBlock.toList) w w' := hF _ (by simp) (by simp) (fun g h => by simp [h])
  have haq : a ≠ q := hA.ne_tagT Q.bk (by decide)
  have ham : a ≠ m := fun e => by obtain ⟨f, hm, _⟩ := Q.mp; exact hm.ne hA e.symm
  have hag : ∀ g, (Value.slice A l.length c).ownBlock = some g → a ≠ g := fun g h e => by
   subst e
   exact Q.own.farT hA (by decide) h.symm
  refine ⟨hv, l', by rw [hoff]; exact hp'.trans (List.perm_append_comm), g :: bs, ⟨⟨q, m, _, hA.only O2 ?_, Q', by simp [ba], by simp [bq], by simp [bm], fun g' h => ?_⟩, fun b hb => ?_, by rw [hl']; exact hH', fun y hy => ?_⟩, O, fun b hb => ?_⟩
  ·simp
   exact ⟨haq, ham, fun h => hag a h rfl⟩
  ·rw [hgo] at h
   injection h with h
   rw [← h]
   simp
  ·rcases List.mem_cons.1 hb with rfl | hb
   ·exact ⟨hBg, hglt.2⟩
   ·exact ⟨(S.lo b hb).1, Nat.lt_of_lt_of_le (S.lo b hb).2 O.size⟩
  ·rcases List.mem_append.1 (hp'.mem_iff.1 hy) with h | h
   ·exact S.k3 y h
   ·rw [List.mem_singleton] at h
    rw [h]
  ·rcases List.mem_cons.1 hb with rfl | hb
   ·exact hgg.imp (bg b) id
   ·exact .inl hb
theorem vhf (B a : Nat) (bs : List Nat) (l : List Tw) (p : PI) (w : World) (S : QuS w B a bs l) (ha : p.a < 4294967296) (hpl : wfI p.l) (hc : checkP p = 0) (hl : l.length ≤ 900000) :
  Calls Tryz.prog 176 #[.pointer (some ⟨a, 0, none⟩), .agg #[.int .i64 3, .int .u32 (p.a : Int), .int .i64 p.l]] w fun e w' => (∃ v, e = .returned v) ∧ ∃ l', l'.Perm (offP p l) ∧ QT w w' B a bs l' := by
 obtain ⟨q, m, v, hA, Q, ba, bq, bm, bg⟩ := S.q
 obtain ⟨A, c, rfl⟩ := Q.own.form
 have hx : (Tw.mk 3 p 0).tk.wf := ⟨show wfI 3 from ⟨by omega, by omega⟩, ha, hpl⟩
 by_cases hex : ∃ i, ∃ h : i < l.length, l[i].p = p
 ·obtain ⟨i, hi, he⟩ := hex
  obtain ⟨g, rfl, _, hg, _⟩ := vdF Q.own (fun e => by subst e; simp at hi)
  obtain ⟨n, hn⟩ : ∃ n, l.length = n + 1 := ⟨l.length - 1, by omega⟩
  refine (veG B a q m g c n l p i hi w hA (by rw [← hn]; exact Q) hn hx hc ((tk_eq (S.k3 _ (List.getElem_mem hi)) rfl).2 he) (by omega) (by rw [← hn]; exact S.hp)).mono ?_
  rintro e w' ⟨hv, l', Q', hp', hl', hH', O⟩
  have hgb := bg g hg
  have O' : Only bs w w' := O.wide (by simp; exact ⟨bq, hgb, bm⟩)
  have hy : fT l i = l[i] := fT_at hi
  have hmem : ∀ y ∈ l', y ∈ l := fun y hy => hp'.mem_iff.1 (by simp [hy])
  have hne : ∀ y ∈ l', y.p ≠ (fT l i).p := by
   obtain ⟨f', _, hpl'⟩ := Q'.mp
   intro y hy2 e
   obtain ⟨f, _, hpl⟩ := Q.mp
   have nd : (l' ++ [fT l i]).Pairwise (fun x y => x.p ≠ y.p) := by
    refine (hp'.pairwise_iff (fun h e => h e.symm)).2 ?_
    rw [List.pairwise_iff_getElem]
    intro i1 j1 h1 h2 h3 e3
    have := S.apart h1 h2 e3
    omega
   rw [List.pairwise_append] at nd
   exact nd.2.2 y hy2 (fT l i) (by simp) e
  have hpe : (fT l i).p = p := by rw [hy]; exact he
  refine ⟨hv, l', by have h3 := vgU hne hp'; rw [hpe] at h3; exact h3, bs, ⟨⟨q, m, _, hA.only O ?_, Q', ba, bq, bm, bg⟩, fun b hb => ⟨(S.lo b hb).1, Nat.lt_of_lt_of_le (S.lo b hb).2 O.size⟩, by rw [hl']; exact hH', fun y hy => S.k3 y (hmem y hy)⟩, O', fun b hb => .inl hb⟩
  obtain ⟨cur, hcur⟩ := Q.own.blk4
  obtain ⟨f, hm, _⟩ := Q.mp
  have h1 := hA.ne_tagT hcur (by decide)
  have h2 := hm.ne hA
  have h3 := hA.ne_tagT Q.bk (by decide)
  simp
  exact ⟨h3, h1, fun e => h2 e.symm⟩
 ·have hn : ∀ i (h : i < l.length), l[i].tk ≠ (Tw.mk 3 p 0).tk := fun i h e => hex ⟨i, h, (tk_eq (S.k3 _ (List.getElem_mem h)) rfl).1 e⟩
  refine (vfL B a q m A c l p w hA Q hx hc hn).mono ?_
  rintro e w' ⟨hv, K⟩
  have hoff : offP p l = l := vaY (fun y hy e => by
   obtain ⟨i, hi, rfl⟩ := List.getElem_of_mem hy
   exact hex ⟨i, hi, e⟩)
  exact ⟨hv, l, by rw [hoff], QT.of_kp S K⟩
end

end Go.Proofs.YtgopnfacklmkaaaGreatDoor
