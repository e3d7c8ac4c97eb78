/- Lemmas and contracts for the theorem of this claim: RqI, RqJ. -/
import Derived.Test.YtgopnfacklmkaaaGreatDoorZyBb
import Derived.Deep.CutBlock
set_option linter.all false
set_option maxHeartbeats 16000000
namespace Go.Proofs.YtgopnfacklmkaaaGreatDoor
section
open Go.RowKit Go.Maps
theorem vbF (n : Int) (w : World) : Calls Tryz.prog 16 #[.int .i64 n] w fun e w' => e = .returned (.int .i64 n) ∧ w = w' := by
 go_enter Tryz.func16, Tryz.ntmps16
 go_wp2_with fail
 go_ret
 exact ⟨rfl, rfl⟩
set_option maxRecDepth 100000 in
theorem vak (n : Nat) (h : n < 256) (w : World) : Calls Tryz.prog 15 #[.int .u32 (n : Int)] w fun e w' => e = .returned (.agg #[.int .u32 ((netQ n).a : Int), .int .i64 (netQ n).l]) ∧ Kp w w' := by
 obtain ⟨b, hb⟩ : ∃ b, w.heap.size = b := ⟨_, rfl⟩
 obtain ⟨W, hW, kW, B0⟩ := Blk.al1 hb #[.int .u32 0, .int .i64 0] 39
 have y := Blk.f B0 rfl
 have f := Blk.frozen B0
 have hbs : w.heap.size ≤ b := by omega
 have B9 := Lib.hid ((B0.set_ 0 (.int .u32 (167772160 + (n : Int) * 65536))).set_ 1 (.int .i64 16))
 have HK := Lib.hid ((kW.setCell (p := ⟨b, 0, none⟩) hbs (.int .u32 (167772160 + (n : Int) * 65536))).setCell (p := ⟨b, 1, none⟩) hbs (.int .i64 16))
 clear B0 kW
 go_enter Tryz.func15, Tryz.ntmps15
 go_wp2_with fail
 have v := Blk.f (l := [.int .u32 (167772160 + (n : Int) * 65536), .int .i64 16]) B9.out rfl
 exact bodyPost_ret (v := .agg #[.int .u32 (167772160 + (n : Int) * 65536), .int .i64 16]) (by simp [results, Tryz.results15, go_sem, v]) rfl ⟨by rw [show ((netQ n).a : Int) = 167772160 + (n : Int) * 65536 by simp [netQ]]; rfl, HK.out⟩
def qE : List En := [oneE (netQ 5) 9, oneE (netQ 7) 0, ⟨2, 0, (netQ 5).a + 1, maskN 16, 0, 1⟩]
theorem re_a : auT.l.map (entE 0) = [oneE (netQ 1) 1, oneE (netQ 5) 16] := by kernel_rfl
theorem re_b : auT.l.map (entE 1) = [oneE (netQ 1) 1, oneE (netQ 5) 3] := by kernel_rfl
theorem re_d : ((piecesE (auT.l.map (entE 0))).map (bytesD 2)) = [bytesD 2 [oneE (netQ 1) 1, oneE (netQ 5) 16]] := by
 rw [re_a, van (by simp), show List.drop 25 [oneE (netQ 1) 1, oneE (netQ 5) 16] = [] from rfl, vaC]
 rfl
theorem re_q : isReqB 1 qE = true ∧ asksB 1 qE = false := by decide +kernel
theorem re_l : asksL qE = [(netQ 5, 0), (netQ 7, 1)] := by kernel_rfl
theorem re_c : answL auT 1 qE = [oneE (netQ 5) 3, oneE (netQ 7) 16] := by kernel_rfl
theorem re_c2 : ((piecesE (answL auT 1 qE)).map (bytesD 2)) = [bytesD 2 [oneE (netQ 5) 3, oneE (netQ 7) 16]] := by
 rw [re_c, van (by simp), show List.drop 25 [oneE (netQ 5) 3, oneE (netQ 7) 16] = [] from rfl, vaC]
 rfl
theorem re_o : decD (bytesD 2 [oneE (netQ 5) 3, oneE (netQ 7) 16]) = (2, [oneE (netQ 5) 3, oneE (netQ 7) 16], 0) := by kernel_rfl
theorem re_n : (bytesD 2 [oneE (netQ 1) 1, oneE (netQ 5) 16]).length = 44 ∧ (bytesD 2 [oneE (netQ 5) 3, oneE (netQ 7) 16]).length = 44 := by decide +kernel
theorem re_lt : ∀ x ∈ bytesD 2 [oneE (netQ 5) 3, oneE (netQ 7) 16], x < 256 := by decide +kernel
theorem qE_wf : ∀ e ∈ qE, e.wf := by
 intro e he
 simp only [qE, List.mem_cons, List.not_mem_nil, or_false] at he
 rcases he with rfl | rfl | rfl
 ·exact ⟨by decide +kernel, by decide +kernel, by decide +kernel, by decide +kernel⟩
 ·exact ⟨by decide +kernel, by decide +kernel, by decide +kernel, by decide +kernel⟩
 ·exact ⟨by decide +kernel, by decide +kernel, by decide +kernel, by decide +kernel⟩
theorem auT_f : TabF auT := by
 intro r hr
 simp only [auT, List.mem_cons, List.not_mem_nil, or_false] at hr
 rcases hr with rfl | rfl
 ·exact ⟨by decide +kernel, by decide +kernel, by decide +kernel, by decide +kernel⟩
 ·exact ⟨by decide +kernel, by decide +kernel, by decide +kernel, by decide +kernel⟩
end

section
open Go.RowKit Go.Maps
attribute [local go_sem] Oper.semAt_some
structure NeS (w V : World) (B t : Nat) (F : List Nat) (Q : World → Prop) : Prop where
 kp : Kp w V
 tm : TabM V B t F auT
 wd : WidAt V
 fa : ReFac V
 ex : Q V
 st : ∀ U U', Q U → Kp U U' → Q U'
section
variable {w V V' : World} {B t : Nat} {F : List Nat} {Q : World → Prop}
theorem NeS.keep (h : NeS w V B t F Q) (k : Kp V V') : NeS w V' B t F Q := ⟨h.kp.trans k, h.tm.keep k, h.wd.keep k, h.fa.keep k, h.st _ _ h.ex k, h.st⟩
theorem NeS.add (h : NeS w V B t F Q) (k : Kp V V') {R : World → Prop} (hr : R V') (sr : ∀ U U', R U → Kp U U' → R U') : NeS w V' B t F (fun U => Q U ∧ R U) :=
 ⟨h.kp.trans k, h.tm.keep k, h.wd.keep k, h.fa.keep k, ⟨h.st _ _ h.ex k, hr⟩, fun U U' a b => ⟨h.st _ _ a.1 b, sr _ _ a.2 b⟩⟩
end
theorem BsN.keep {B : Nat} {W W' : World} {v : Value} {qs : List Pc} {ls : List (List Nat)} (h : BsN B W v qs ls) (k : Kp W W') : BsN B W' v qs ls := h.only (bs := []) (Only.of_kp k) (by simp)
theorem vhQ {B : Nat} {W : World} {v : Value} {qs : List Pc} {l : List Nat} (h : BsN B W v qs [l]) : ∃ g c A m, v = .slice (some ⟨g, 0, none⟩) 1 c ∧ qs.length = 1 ∧ 1 ≤ c ∧ l.length ≤ m ∧ W.cell? ⟨g, 0, none⟩ = some (.slice A l.length m) ∧ Rd W 1 byN A l ∧ Own W B 64 1 Pc.encB v qs := by
 have hl : qs.length = 1 := h.len
 have hO := h.own
 rcases hO.2 with ⟨_, h2⟩ | ⟨g, cap, cur, hv, hg, hh, h3, h4⟩
 ·omega
 ·obtain ⟨p, hp⟩ : ∃ p, qs = [p] := by
   match qs, hl with
   | [p], _ => exact ⟨p, rfl⟩
  subst hp
  obtain ⟨a1, a2, _⟩ := h.ent 0 p l rfl rfl
  rw [show ([p] : List Pc).length = 1 from rfl] at hv h3
  have hr : Rd W 1 Pc.encB (some ⟨g, 0, none⟩) [p] := Own.rdAt (n := 1) (c := cap) (by decide) Pc.encB_len (by rw [hv] at hO; exact hO)
  obtain ⟨b, off, e, hc⟩ := hr 0 (by simp)
  injection e with e
  injection e with e1 e2
  subst e1 e2
  exact ⟨g, cap, p.A, p.m, hv, rfl, h3, a1.2, by have h9 : W.cell? ⟨g, 0, none⟩ = some (.slice p.A p.n p.m) := hc 0 _ rfl; rw [a1.1] at h9; exact h9, a2, hO⟩
theorem bs_at {B : Nat} {W : World} {g c : Nat} {qs : List Pc} {l : List Nat} (h : BsN B W (.slice (some ⟨g, 0, none⟩) 1 c) qs [l]) : ∃ A m, 1 ≤ c ∧ l.length ≤ m ∧ W.cell? ⟨g, 0, none⟩ = some (.slice A l.length m) ∧ Rd W 1 byN A l := by
 obtain ⟨g', c', A, m, hv, _, h1, h2, h3, h4, _⟩ := vhQ h
 injection hv with e1 _ e3
 injection e1 with e1
 injection e1 with e1
 subst e1 e3
 exact ⟨A, m, h1, h2, h3, h4⟩
theorem vcN (bx : Nat) (w : World) : (binOp .eql 34 (.func (.func 48) #[] #[.pointer (some ⟨bx, 0, none⟩)]) .nilFunc).run Tryz.prog w = .ok (.bool false) w := by kernel_rfl
def NwI (bn : Nat) (Vn : World) (k : Nat) (W : World) : Prop := Blk W bn 3 #[.int .i64 (k : Nat)] ∧ Only [bn] Vn W
theorem NwI.turn {bn n1 k : Nat} {Vn W W' : World} (h : NwI bn Vn k W) (hO : Only [n1, n1 + 1] W W') (hn : Vn.heap.size = n1) (hb : bn < n1) : NwI bn Vn k W' :=
 ⟨h.1.only hO (by simp; omega), hO.os.trans h.2.os, hO.tape.trans h.2.tape, hO.output.trans h.2.output, Nat.le_trans h.2.size hO.size, fun i hi hx => (hO.block i (Nat.lt_of_lt_of_le hi h.2.size) (by simp; omega)).trans (h.2.block i hi hx)⟩
def nwP (k : Nat) : PI := if k = 0 then netQ 5 else netQ 7
abbrev nwA : Value := .agg #[.int .u32 ((netQ 5).a : Int), .int .i64 (netQ 5).l, .int .u32 ((netQ 7).a : Int), .int .i64 (netQ 7).l]
theorem vlD : ∀ q, q < 2 → ∀ w : World, (Instr.index 106 nwA (.int .i64 (q : Nat))).run Tryz.prog w = .ok (.agg #[.int .u32 ((nwP q).a : Int), .int .i64 (nwP q).l]) w
 | 0, _ => fun _ => by kernel_rfl
 | 1, _ => fun _ => by kernel_rfl
 | k + 2, h => by omega
set_option maxRecDepth 100000 in
theorem vgc (w : World) (hC : CapAt w) (hWd : WidAt w) (hFa : ReFac w) : Calls Tryz.prog 10 #[] w fun e w' => e = .returned (.bool true) ∧ Kp w w' := by
 have HCA := Lib.hid hC
 have HWD := Lib.hid hWd
 have HFA := Lib.hid hFa
 clear hC hWd hFa
 obtain ⟨b0, hb0⟩ : ∃ b, w.heap.size = b := ⟨_, rfl⟩
 obtain ⟨W0, hW0, kW0, BR0⟩ := Blk.al1 hb0 #[.bool false] 4
 have HBR := Lib.hid BR0
 have HKW0 := Lib.hid kW0
 have hbl0 := BR0.lt
 clear BR0 kW0
 refine calls_of_wp_marks Tryz.func10 rfl ?_
 simp only [Tryz.ntmps10, List.size_toArray, List.length_cons, List.length_nil, Nat.reduceAdd, Nat.reduceSub, Array.replicate_succ, Array.replicate_zero, List.push_toArray, List.append_toArray, List.nil_append, List.cons_append]
 go_wp2_with fail
 refine (vak 1 (by decide) W0).mono ?_
 rintro e w1 ⟨rfl, K1⟩
 obtain ⟨g, hg⟩ : ∃ g, w1.heap.size = g := ⟨_, rfl⟩
 obtain ⟨W1, hW1, k1, B1⟩ := Blk.al1 hg #[.int .u32 ((netQ 1).a : Int), .int .i64 (netQ 1).l] 39
 go_wp2_with fail
 try rw [hg]
 clear hW1 hg
 have kW1 := HKW0.out.trans (K1.trans k1)
 have HK0 := Lib.hid (K1.trans k1)
 have hSl : SlPI W1 (some ⟨g, 0, none⟩) 1 auC.own := ⟨Rd.of_blk B1 (by decide) PI.len (by decide) rfl, Nat.le_refl _, fun h => by cases h⟩
 refine (vfc auC (some ⟨g, 0, none⟩) 1 W1 hSl (HCA.out.keep kW1) vhn au_ok).mono ?_
 rintro e w2 ⟨t, F0, rfl, hM, K2⟩
 have HM := Lib.hid hM
 have HK2 := Lib.hid (kW1.trans K2)
 have HK02 := Lib.hid (HK0.out.trans K2)
 have hBw : W0.heap.size ≤ W1.heap.size := HK0.out.size
 obtain ⟨B, hB⟩ : ∃ B, W1.heap.size = B := ⟨_, rfl⟩
 rw [hB] at HM hBw
 clear hM hB hSl B1 K2 kW1 K1 k1 hW0
 go_wp2_with fail
 refine (vak 5 (by decide) w2).mono ?_
 rintro e w3 ⟨rfl, K3⟩
 have HM3 := Lib.hid (HM.out.keep K3)
 have HK3 := Lib.hid (HK2.out.trans K3)
 have HK03 := Lib.hid (HK02.out.trans K3)
 clear K3
 have HH := veh B t F0 (newT auC) (netQ 5) auH 1 w3 HM3.out (vjx au_ok) (by rw [vlB]; decide) vhn (HCA.out.keep HK3.out) ⟨by decide, by show wfI 16; unfold wfI; omega⟩ (by decide)
 rw [au_1] at HH
 have HHE := Lib.hid HH
 clear HH
 go_wp2_with fail
 refine HHE.out.mono ?_
 rintro e w4 ⟨rfl, F, hT4, hO4, hF4⟩
 have K4 : Kp W0 w4 := hO4.kp HK03.out (fun x hx => Nat.le_trans hBw (HM3.out.lo x hx).1)
 have HS0 : Hid (NeS W0 w4 B t F (fun _ => True)) := Lib.hid ⟨K4, hT4, (HWD.out.keep HKW0.out).keep K4, (HFA.out.keep HKW0.out).keep K4, trivial, fun _ _ _ _ => trivial⟩
 obtain ⟨x5, hx5⟩ : ∃ x, au5 = x := ⟨_, rfl⟩
 rw [hx5]
 clear hT4 hO4 hF4 K4 hx5
 obtain ⟨Y0, hY0, kY0, _⟩ := Blk.al1 (w := w4) rfl (roC x5) 52
 unfold roC at hY0
 have HS := Lib.hid (HS0.out.keep kY0)
 clear kY0
 go_wp2_with fail
 have hen := vcb B t F auT 0 Y0 HS.out.tm HS.out.fa (by decide) (by decide) auT_f
 rw [re_a] at hen
 have HEN := Lib.hid hen
 clear hen
 refine HEN.out.mono ?_
 rintro e V3 ⟨A3, m3, rfl, hR, K⟩
 have HS3 := Lib.hid (HS.out.add K hR (fun U U' a b => Rd.keep a b))
 clear hR K hY0
 go_wp2_with fail
 have hen := vcb B t F auT 1 V3 HS3.out.tm HS3.out.fa (by decide) (by decide) auT_f
 rw [re_b] at hen
 have HEN := Lib.hid hen
 clear hen
 refine HEN.out.mono ?_
 rintro e V4 ⟨A4, m4, rfl, hR, K⟩
 have HS4 := Lib.hid (HS3.out.add K hR (fun U U' a b => Rd.keep a b))
 clear hR K
 go_wp2_with fail
 have hda := vbh B t F auT 0 V4 HS4.out.tm HS4.out.fa HS4.out.wd (by decide) (by decide) auT_f
 rw [re_d] at hda
 have HDA := Lib.hid hda
 clear hda
 refine HDA.out.mono ?_
 rintro e V5 ⟨v5, q5, rfl, hN, K⟩
 obtain ⟨g5, c5, A5, m5, hv5, _⟩ := vhQ hN
 subst hv5
 have HS5 := Lib.hid (HS4.out.add K hN (fun U U' a b => BsN.keep a b))
 clear hN K
 go_wp2_with fail
 refine (vak 5 (by decide) V5).mono ?_
 rintro e Va6 ⟨rfl, K⟩
 have HSa := Lib.hid (HS5.out.keep K)
 clear K
 go_wp2_with fail
 refine (vaw (netQ 5) 9 Va6 (by decide) (by decide)).mono ?_
 rintro e Vb6 ⟨rfl, K⟩
 have HSb := Lib.hid (HSa.out.keep K)
 clear K
 obtain ⟨ex, hex⟩ : ∃ e, oneE (netQ 5) ((9 : Nat) : Int) = e := ⟨_, rfl⟩
 rw [hex]
 have Hex := Lib.hid hex
 clear hex
 go_wp2_with fail
 refine (vak 7 (by decide) Vb6).mono ?_
 rintro e Va7 ⟨rfl, K⟩
 have HSa := Lib.hid (HSb.out.keep K)
 clear K
 go_wp2_with fail
 refine (vaw (netQ 7) 0 Va7 (by decide) (by decide)).mono ?_
 rintro e Vb7 ⟨rfl, K⟩
 have HSb := Lib.hid (HSa.out.keep K)
 clear K
 obtain ⟨ey, hey⟩ : ∃ e, oneE (netQ 7) ((0 : Nat) : Int) = e := ⟨_, rfl⟩
 rw [hey]
 have Hey := Lib.hid hey
 clear hey
 go_wp2_with fail
 refine (vak 5 (by decide) Vb7).mono ?_
 rintro e Va8 ⟨rfl, K⟩
 have HSa := Lib.hid (HSb.out.keep K)
 clear K
 go_wp2_with fail
 refine (vaw (netQ 5) 1 Va8 (by decide) (by decide)).mono ?_
 rintro e Vb8 ⟨rfl, K⟩
 have HSb := Lib.hid (HSa.out.keep K)
 clear K
 obtain ⟨ez, hez⟩ : ∃ e, oneE (netQ 5) ((1 : Nat) : Int) = e := ⟨_, rfl⟩
 rw [hez]
 have Hez := Lib.hid hez
 clear hez
 obtain ⟨gx, hgx⟩ : ∃ g, Vb8.heap.size = g := ⟨_, rfl⟩
 obtain ⟨X0, hX0, kX0, BX0, BX1, BX2⟩ := Blk.al3 hgx #[.int .i64 ex.f, .int .i64 ex.t, .int .u32 (ex.a : Int), .int .u32 (ex.m : Int), .int .u32 (ex.n : Int), .int .u32 (ex.k : Int)] 66 #[.int .i64 ey.f, .int .i64 ey.t, .int .u32 (ey.a : Int), .int .u32 (ey.m : Int), .int .u32 (ey.n : Int), .int .u32 (ey.k : Int)] 66 #[.int .i64 ez.f, .int .i64 ez.t, .int .u32 (ez.a : Int), .int .u32 (ez.m : Int), .int .u32 (ez.n : Int), .int .u32 (ez.k : Int)] 66
 have HSX := Lib.hid (HSb.out.keep kX0)
 have HBX0 := Lib.hid BX0
 have HBX1 := Lib.hid BX1
 have y2 := Blk.f BX2 rfl
 have f2 := Blk.frozen BX2
 have hza : (ez.a : Int) + 1 ≤ 4294967295 := by rw [← Hez.out]; decide
 obtain ⟨X1, hX1, kX1, BX3⟩ : ∃ R, X0.setCell ⟨gx + 1 + 1, 2, none⟩ (.int .u32 ((ez.a : Int) + 1)) = R ∧ Kp Vb8 R ∧ Blk R (gx + 1 + 1) 66 #[.int .i64 ez.f, .int .i64 ez.t, .int .u32 ((ez.a : Int) + 1), .int .u32 (ez.m : Int), .int .u32 (ez.n : Int), .int .u32 (ez.k : Int)] := ⟨_, rfl, kX0.setCell (p := ⟨gx + 1 + 1, 2, none⟩) (by show _ ≤ gx + 1 + 1; omega) _, BX2.set_ 2 _⟩
 have BY0 := BX0.far (p := ⟨gx + 1 + 1, 2, none⟩) (by show gx ≠ gx + 1 + 1; omega) (.int .u32 ((ez.a : Int) + 1))
 have BY1 := BX1.far (p := ⟨gx + 1 + 1, 2, none⟩) (by show gx + 1 ≠ gx + 1 + 1; omega) (.int .u32 ((ez.a : Int) + 1))
 rw [hX1] at BY0 BY1
 have HSY := Lib.hid (HSb.out.keep kX1)
 have y0 := Blk.f BY0 rfl
 have y1 := Blk.f BY1 rfl
 have y3 := Blk.f BX3 rfl
 have hx1l := BX3.lt
 obtain ⟨gq, hgq⟩ : ∃ g, X1.heap.size = g := ⟨_, rfl⟩
 obtain ⟨X2, hX2, kX2, BQ⟩ := Blk.al1 hgq #[.int .i64 ex.f, .int .i64 ex.t, .int .u32 (ex.a : Int), .int .u32 (ex.m : Int), .int .u32 (ex.n : Int), .int .u32 (ex.k : Int), .int .i64 ey.f, .int .i64 ey.t, .int .u32 (ey.a : Int), .int .u32 (ey.m : Int), .int .u32 (ey.n : Int), .int .u32 (ey.k : Int), .int .i64 ez.f, .int .i64 ez.t, .int .u32 ((ez.a : Int) + 1), .int .u32 (ez.m : Int), .int .u32 (ez.n : Int), .int .u32 (ez.k : Int)] 66
 obtain ⟨gd, hgd⟩ : ∃ g, X2.heap.size = g := ⟨_, rfl⟩
 obtain ⟨X3, hX3, kX3, BD⟩ := Blk.al1 hgd #[.int .i64 1, .slice (some ⟨gq, 0, none⟩) 3 3] 30
 have hqe : qE = [ex, ey, ⟨ez.f, ez.t, ez.a + 1, ez.m, ez.n, ez.k⟩] := by rw [← Hex.out, ← Hey.out, ← Hez.out]; rfl
 have hrq : Rd X3 6 En.enc (some ⟨gq, 0, none⟩) qE := by rw [hqe]; exact (Rd.of_blk BQ (by decide) En.enc_len (by simp [maxLen]) (by rfl)).keep kX3
 have HS9 := Lib.hid (HSY.out.add (R := fun U => Rd U 6 En.enc (some ⟨gq, 0, none⟩) qE ∧ Blk U gd 30 #[.int .i64 1, .slice (some ⟨gq, 0, none⟩) 3 3]) (kX2.trans kX3) (And.intro hrq BD) (fun U U' a b => ⟨Rd.keep a.1 b, a.2.keep b⟩))
 have yd := Blk.f BD rfl
 have HBD := Lib.hid BD
 have HRQ := Lib.hid hrq
 have hans := veI B t F auT 1 1 (some ⟨gq, 0, none⟩) 3 qE X3 HS9.out.tm HS9.out.fa HS9.out.wd (by decide) (by decide) auT_f hrq qE_wf (by decide) re_q.1 re_q.2
 rw [re_c2] at hans
 have HANS := Lib.hid hans
 clear kX0 BX0 BX1 BX2 kX1 BX3 BY0 BY1 kX2 BQ kX3 BD hrq hans hqe
 go_wp2_with fail
 refine HANS.out.mono ?_
 rintro e V9 ⟨v9, q9, rfl, hN, K⟩
 obtain ⟨g9, c9, A9, m9, hv9, _⟩ := vhQ hN
 subst hv9
 have HS10 := Lib.hid (HS9.out.add K hN (fun U U' a b => BsN.keep a b))
 clear hN K yd y0 y1 y3 y2 f2 hX0 hX1 hX2 hX3 hgx hgq hgd
 go_wp2_with (first | (go_at_call 16; refine (vbF _ _).mono ?_; rintro e wz ⟨rfl, rfl⟩))
 refine (vak 1 (by decide) V9).mono ?_
 rintro e Va9 ⟨rfl, K⟩
 have HSa := Lib.hid (HS10.out.keep K)
 clear K
 go_wp2_with fail
 refine (vaw (netQ 1) 1 Va9 (by decide) (by decide)).mono ?_
 rintro e Vb9 ⟨rfl, K⟩
 have HSb9 := Lib.hid (HSa.out.keep K)
 clear K
 obtain ⟨ea, hea⟩ : ∃ e, oneE (netQ 1) ((1 : Nat) : Int) = e := ⟨_, rfl⟩
 rw [hea]
 have Hea := Lib.hid hea
 clear hea
 go_wp2_with fail
 refine (vak 5 (by decide) Vb9).mono ?_
 rintro e Va10 ⟨rfl, K⟩
 have HSa := Lib.hid (HSb9.out.keep K)
 clear K
 go_wp2_with fail
 refine (vaw (netQ 5) 16 Va10 (by decide) (by decide)).mono ?_
 rintro e Vb10 ⟨rfl, K⟩
 have HSb10 := Lib.hid (HSa.out.keep K)
 clear K
 obtain ⟨eb, heb⟩ : ∃ e, oneE (netQ 5) ((16 : Nat) : Int) = e := ⟨_, rfl⟩
 rw [heb]
 have Heb := Lib.hid heb
 clear heb
 obtain ⟨g, hg⟩ : ∃ g, Vb10.heap.size = g := ⟨_, rfl⟩
 obtain ⟨Vc10, hVc, kVc, BVc⟩ := Blk.al1 hg #[.int .i64 ea.f, .int .i64 ea.t, .int .u32 (ea.a : Int), .int .u32 (ea.m : Int), .int .u32 (ea.n : Int), .int .u32 (ea.k : Int), .int .i64 eb.f, .int .i64 eb.t, .int .u32 (eb.a : Int), .int .u32 (eb.m : Int), .int .u32 (eb.n : Int), .int .u32 (eb.k : Int)] 66
 have HSc10 := Lib.hid (HSb10.out.keep kVc)
 have HSM := Lib.hid (vbT A3 (some ⟨g, 0, none⟩) m3 2 [ea, eb] [ea, eb] Vc10 (by have h := HSc10.out.ex.1.1.1.1.2; rw [← Hea.out, ← Heb.out]; exact h) (Rd.of_blk BVc (by decide) En.enc_len (by simp [maxLen]) rfl) (by simp) rfl)
 clear kVc BVc
 go_wp2_with fail
 refine HSM.out.mono ?_
 rintro e Vd10 ⟨rfl, K⟩
 have HSd10 := Lib.hid (HSc10.out.keep K)
 clear K hVc hg
 go_wp2_with fail
 refine (vak 1 (by decide) Vd10).mono ?_
 rintro e Va11 ⟨rfl, K⟩
 have HSa := Lib.hid (HSd10.out.keep K)
 clear K
 go_wp2_with fail
 refine (vaw (netQ 1) 1 Va11 (by decide) (by decide)).mono ?_
 rintro e Vb11 ⟨rfl, K⟩
 have HSb11 := Lib.hid (HSa.out.keep K)
 clear K
 obtain ⟨ec, hec⟩ : ∃ e, oneE (netQ 1) ((1 : Nat) : Int) = e := ⟨_, rfl⟩
 rw [hec]
 have Hec := Lib.hid hec
 clear hec
 go_wp2_with fail
 refine (vak 5 (by decide) Vb11).mono ?_
 rintro e Va12 ⟨rfl, K⟩
 have HSa := Lib.hid (HSb11.out.keep K)
 clear K
 go_wp2_with fail
 refine (vaw (netQ 5) 3 Va12 (by decide) (by decide)).mono ?_
 rintro e Vb12 ⟨rfl, K⟩
 have HSb12 := Lib.hid (HSa.out.keep K)
 clear K
 obtain ⟨ed, hed⟩ : ∃ e, oneE (netQ 5) ((3 : Nat) : Int) = e := ⟨_, rfl⟩
 rw [hed]
 have Hed := Lib.hid hed
 clear hed
 obtain ⟨g, hg⟩ : ∃ g, Vb12.heap.size = g := ⟨_, rfl⟩
 obtain ⟨Vc12, hVc, kVc, BVc⟩ := Blk.al1 hg #[.int .i64 ec.f, .int .i64 ec.t, .int .u32 (ec.a : Int), .int .u32 (ec.m : Int), .int .u32 (ec.n : Int), .int .u32 (ec.k : Int), .int .i64 ed.f, .int .i64 ed.t, .int .u32 (ed.a : Int), .int .u32 (ed.m : Int), .int .u32 (ed.n : Int), .int .u32 (ed.k : Int)] 66
 have HSc12 := Lib.hid (HSb12.out.keep kVc)
 have HSM := Lib.hid (vbT A4 (some ⟨g, 0, none⟩) m4 2 [ec, ed] [ec, ed] Vc12 (by have h := HSc12.out.ex.1.1.1.2; rw [← Hec.out, ← Hed.out]; exact h) (Rd.of_blk BVc (by decide) En.enc_len (by simp [maxLen]) rfl) (by simp) rfl)
 clear kVc BVc
 go_wp2_with fail
 refine HSM.out.mono ?_
 rintro e Vd12 ⟨rfl, K⟩
 have HSd12 := Lib.hid (HSc12.out.keep K)
 clear K hVc hg
 obtain ⟨D5, n5, hc5, _, z5, _⟩ := bs_at HSd12.out.ex.1.1.2
 rw [re_n.1] at z5
 obtain ⟨l9, hl9⟩ : ∃ l, bytesD 2 [oneE (netQ 5) 3, oneE (netQ 7) 16] = l := ⟨_, rfl⟩
 obtain ⟨D9, n9, hc9, hcap9, z9, hr9⟩ := bs_at HSd12.out.ex.2
 rw [hl9] at hcap9 z9 hr9
 have hdec := vcV D9 n9 l9 Vd12 ⟨hr9, by rw [← hl9]; exact re_lt, hcap9, by rw [← hl9, re_n.2]; decide, HSd12.out.wd⟩
 unfold DecP at hdec
 rw [show decD l9 = (2, [oneE (netQ 5) 3, oneE (netQ 7) 16], 0) by rw [← hl9]; exact re_o] at hdec
 have HDEC := Lib.hid hdec
 clear hdec hr9 hcap9 hl9
 go_wp2_with fail
 refine HDEC.out.mono ?_
 rintro e Vo ⟨Ao, mo, rfl, hro, hao, K⟩
 have hcur := HSd12.out.kp.size
 have HAO : Hid (∀ a, Ao = some a → b0 < a.block ∧ a.block < Vo.heap.size) := Lib.hid (fun a ha => by
  obtain ⟨g8, o8, e8, hc8⟩ := hro 0 (by simp)
  have hg8 := World.block_lt_of_cell? Vo _ (hc8 0 _ rfl)
  simp at hg8
  have := hao a ha
  rw [ha] at e8
  injection e8 with e8
  subst e8
  exact ⟨by omega, hg8⟩)
 have hko := K.size
 clear hao
 obtain ⟨go, hgo⟩ : ∃ g, Vo.heap.size = g := ⟨_, rfl⟩
 obtain ⟨Vp, hVp, kVp, BVp⟩ := Blk.al1 hgo #[.int .i64 2, .slice Ao 2 mo] 30
 have HSo := Lib.hid (HSd12.out.add (R := fun U => Rd U 6 En.enc Ao [oneE (netQ 5) 3, oneE (netQ 7) 16] ∧ Blk U go 30 #[.int .i64 2, .slice Ao 2 mo]) (K.trans kVp) (And.intro (hro.keep kVp) BVp) (fun U U' a b => ⟨Rd.keep a.1 b, a.2.keep b⟩))
 have hgb : b0 < go := by omega
 have hgl : go < Vp.heap.size := BVp.lt
 have yq := Blk.f (HSo.out.ex.1.1.2.2) rfl
 have hask := vhP 1 (some ⟨gq, 0, none⟩) 3 qE Vp HSo.out.wd HSo.out.ex.1.1.2.1 qE_wf (by decide)
 rw [show askedL 1 qE = [(netQ 5, 0), (netQ 7, 1)] by unfold askedL; rw [re_q.1, re_q.2]; exact re_l] at hask
 have HASK := Lib.hid hask
 clear hask hro K kVp BVp z5 z9
 go_wp2_with fail
 refine HASK.out.mono ?_
 rintro e Vs ⟨bx, As, ms, rfl, hAM, hbx, hAs, K⟩
 have hps := K.size
 have HSs := Lib.hid (HSo.out.add K hAM (fun U U' a b => AskM.keep a b))
 unfold askV
 have hsn := vcN bx
 clear hAM K yq hVp
 go_wp2_with fail
 clear hsn
 obtain ⟨bn, hbn⟩ : ∃ g, Vs.heap.size = g := ⟨_, rfl⟩
 obtain ⟨Vn, hVn, kVn, BVn⟩ := Blk.al1 hbn #[.int .i64 0] 3
 rw [hVn, hbn]
 have HSn := Lib.hid (HSs.out.keep kVn)
 have hbnl := BVn.lt
 obtain ⟨n1, hn1⟩ : ∃ n, Vn.heap.size = n := ⟨_, rfl⟩
 have hbn1 : bn < n1 := by omega
 have HIT := Lib.hid (veK bx As ms [(netQ 5, 0), (netQ 7, 1)] (by decide))
 have I0 : Hid (NwI bn Vn 0 Vn) := Lib.hid ⟨BVn, Only.refl _ _⟩
 have HMI : Hid (∀ k V, NwI bn Vn k V → AskM bx As ms [(netQ 5, 0), (netQ 7, 1)] V) := Lib.hid (fun k V h => by
  have hA := HSs.out.ex.2
  obtain ⟨g8, o8, e8, hc8⟩ := hA.rd 0 (by simp)
  have hg8 := World.block_lt_of_cell? Vs _ (hc8 0 _ rfl)
  have hbl := hA.bk.lt
  simp at hg8
  exact ⟨(hA.bk.keep kVn).only h.2 (by simp; omega), (hA.rd.keep kVn).onlyB h.2 (fun a ha => by rw [e8] at ha; injection ha with ha; subst ha; simp; omega)⟩)
 have HNO := Lib.hid (fun V => vak 5 (by decide) V)
 have HNP := Lib.hid (fun V => vak 7 (by decide) V)
 clear BVn kVn hVn
 refine vaU (N := 2) rfl veJ HIT.out (fun _ _ => rfl) (NwI bn Vn) (fun _ _ => False) (NwI bn Vn 2) ?_ (fun _ _ _ h => h.elim) HMI.out I0.out (fun _ h => h) (fun _ _ _ _ h => h.elim) ?_ ?_
 ·intro q V1 V2 h hO
  rw [hn1] at hO
  exact h.turn hO hn1 hbn1
 ·rintro lp q V1 hq h hsV
  rw [hn1] at hsV
  have hq2 : akAt [(netQ 5, 0), (netQ 7, 1)] q = (nwP q, q) := by
   have : q = 0 ∨ q = 1 := by omega
   rcases this with rfl | rfl <;> rfl
  rw [hq2]
  have HI := Lib.hid h
  obtain ⟨p, hp⟩ : ∃ p, nwP q = p := ⟨_, rfl⟩
  have HP := Lib.hid hp
  rw [hp]
  have HBX := Lib.hid (Blk.new V1 39 #[.int .u32 (p.a : Int), .int .i64 p.l])
  have HJ : Hid (NwI bn Vn q (V1.alloc (.cells #[.int .u32 (p.a : Int), .int .i64 p.l] 39))) := Lib.hid ⟨h.1.alloc _, h.2.alloc _⟩
  clear h hp
  gi_wp2_with fail
  refine ⟨⟨by rw [hn1]; exact Below.heap_alloc V1 _ _ (by omega), by rw [hn1]; exact Below.heap_alloc V1 _ _ (by omega)⟩, (fun V9 => NwI bn Vn q V9 ∧ Blk V9 V1.heap.size 39 #[.int .u32 (p.a : Int), .int .i64 p.l]), ⟨HJ.out, HBX.out⟩, ?_, ?_⟩
  ·rintro V8 V9 ⟨j1, j2⟩ hO
   rw [hn1] at hO
   exact ⟨j1.turn hO hn1 hbn1, j2.only hO (by simp; omega)⟩
  rintro U ⟨j1, j2⟩ hU
  rw [hn1] at hU
  have HJ1 := Lib.hid j1
  have HJ2 := Lib.hid j2
  clear j1 j2
  refine wpIn_block ?_
  repeat refine wpIn_seq ?_
  have hix := vlD q hq
  rw [HP.out] at hix
  have HIX := Lib.hid hix
  clear hix
  have hqg : decide ((1 : Int) < (q : Int)) = false := by rw [decide_eq_false_iff_not]; omega
  have hqq : ((q : Int) != (q : Int)) = false := by simp
  refine vfo [142, 143, 144, 145, 146, 147, 148, 149, 150, 151, 152, 153, 154, 155, 156, 157] [.int .i64 (q : Nat), .int .i64 (q : Nat), .bool false, .bool false, .int .i64 (q : Nat), .bool false, .bool false, .bool false, .agg #[.int .u32 (p.a : Int), .int .i64 p.l], .agg #[.int .u32 ((netQ 5).a : Int), .int .i64 (netQ 5).l], .agg #[.int .u32 ((netQ 7).a : Int), .int .i64 (netQ 7).l], nwA, .int .i64 (q : Nat), .agg #[.int .u32 (p.a : Int), .int .i64 p.l], .bool false, .bool false] [true, true, true, true, true, true, true, true, true, true, true, true, true, true, true, true] (by kernel_rfl) (by kernel_rfl) (by kernel_rfl) (vjn (vjn (vaR vbW))) (by kernel_rfl) rfl rfl (by decide) rfl rfl rfl ?_ ?_
  ·intro i o a w9 ho hw f g hkp K hK
   have hi : i < 16 := by have := (List.getElem?_eq_some_iff.1 ho).1; simpa using this
   have hcs : i = 0 ∨ i = 1 ∨ i = 2 ∨ i = 3 ∨ i = 4 ∨ i = 5 ∨ i = 6 ∨ i = 7 ∨ i = 8 ∨ i = 9 ∨ i = 10 ∨ i = 11 ∨ i = 12 ∨ i = 13 ∨ i = 14 ∨ i = 15 := by omega
   clear hi
   rcases hcs with rfl | rfl | rfl | rfl | rfl | rfl | rfl | rfl | rfl | rfl | rfl | rfl | rfl | rfl | rfl | rfl
   all_goals
    first | simp only [List.getElem?_cons_zero, List.getElem?_cons_succ, Option.some.injEq] at ho | replace ho := Option.some.inj ho
    subst ho
   ·have t21 : a.tmps[21]?.getD undef = .int .i64 (q : Nat) := g 21 (by decide)
    unfold Oper.wp
    simp only [execOp, Act.eval, Array.getD_eq_getD_getElem?]
    go_simp
    exact hK _ _ (Kp.refl _) rfl
   ·have t20 : a.tmps[20]?.getD undef = .pointer (some ⟨bn, 0, none⟩) := g 20 (by decide)
    have u := Blk.f (HJ1.out.1.keep hkp) rfl
    unfold Oper.wp
    simp only [execOp, Act.eval, Array.getD_eq_getD_getElem?]
    go_simp
    exact hK _ _ (Kp.refl _) rfl
   ·have t142 : a.tmps[142]?.getD undef = .int .i64 (q : Nat) := f 0 rfl
    have t143 : a.tmps[143]?.getD undef = .int .i64 (q : Nat) := f 1 rfl
    unfold Oper.wp
    simp only [execOp, Act.eval, Array.getD_eq_getD_getElem?]
    go_simp
    exact hK _ _ (Kp.refl _) rfl
   ·have t144 : a.tmps[144]?.getD undef = .bool false := f 2 rfl
    unfold Oper.wp
    simp only [execOp, Act.eval, Array.getD_eq_getD_getElem?]
    go_simp
    exact hK _ _ (Kp.refl _) rfl
   ·have t20 : a.tmps[20]?.getD undef = .pointer (some ⟨bn, 0, none⟩) := g 20 (by decide)
    have u := Blk.f (HJ1.out.1.keep hkp) rfl
    unfold Oper.wp
    simp only [execOp, Act.eval, Array.getD_eq_getD_getElem?]
    go_simp
    exact hK _ _ (Kp.refl _) rfl
   ·have t146 : a.tmps[146]?.getD undef = .int .i64 (q : Nat) := f 4 rfl
    unfold Oper.wp
    simp only [execOp, Act.eval, Array.getD_eq_getD_getElem?]
    go_simp
    exact hK _ _ (Kp.refl _) rfl
   ·have t145 : a.tmps[145]?.getD undef = .bool false := f 3 rfl
    have t147 : a.tmps[147]?.getD undef = .bool false := f 5 rfl
    unfold Oper.wp
    simp only [execOp, Act.eval, Array.getD_eq_getD_getElem?]
    go_simp
    exact hK _ _ (Kp.refl _) rfl
   ·have t148 : a.tmps[148]?.getD undef = .bool false := f 6 rfl
    unfold Oper.wp
    simp only [execOp, Act.eval, Array.getD_eq_getD_getElem?]
    go_simp
    exact hK _ _ (Kp.refl _) rfl
   ·have t22 : a.tmps[22]?.getD undef = .pointer (some ⟨V1.heap.size, 0, none⟩) := g 22 (by decide)
    have u := Blk.f (HJ2.out.keep hkp) rfl
    unfold Oper.wp
    simp only [execOp, Act.eval, Array.getD_eq_getD_getElem?]
    go_simp
    exact hK _ _ (Kp.refl _) rfl
   ·unfold Oper.wp
    simp only [execOp, Act.eval, Array.getD_eq_getD_getElem?]
    go_simp
    refine (HNO.out _).mono ?_
    rintro e wb ⟨rfl, hKc⟩
    exact hK _ _ hKc rfl
   ·unfold Oper.wp
    simp only [execOp, Act.eval, Array.getD_eq_getD_getElem?]
    go_simp
    refine (HNP.out _).mono ?_
    rintro e wb ⟨rfl, hKc⟩
    exact hK _ _ hKc rfl
   ·have t151 : a.tmps[151]?.getD undef = .agg #[.int .u32 ((netQ 5).a : Int), .int .i64 (netQ 5).l] := f 9 rfl
    have t152 : a.tmps[152]?.getD undef = .agg #[.int .u32 ((netQ 7).a : Int), .int .i64 (netQ 7).l] := f 10 rfl
    unfold Oper.wp
    simp only [execOp, Act.eval, Array.getD_eq_getD_getElem?]
    go_simp
    exact hK _ _ (Kp.refl _) rfl
   ·have t20 : a.tmps[20]?.getD undef = .pointer (some ⟨bn, 0, none⟩) := g 20 (by decide)
    have u := Blk.f (HJ1.out.1.keep hkp) rfl
    unfold Oper.wp
    simp only [execOp, Act.eval, Array.getD_eq_getD_getElem?]
    go_simp
    exact hK _ _ (Kp.refl _) rfl
   ·have t153 : a.tmps[153]?.getD undef = nwA := f 11 rfl
    have t154 : a.tmps[154]?.getD undef = .int .i64 (q : Nat) := f 12 rfl
    have hx9 := HIX.out w9
    unfold Oper.wp
    simp only [execOp, Act.eval, Array.getD_eq_getD_getElem?]
    go_simp
    exact hK _ _ (Kp.refl _) rfl
   ·have t150 : a.tmps[150]?.getD undef = .agg #[.int .u32 (p.a : Int), .int .i64 p.l] := f 8 rfl
    have t155 : a.tmps[155]?.getD undef = .agg #[.int .u32 (p.a : Int), .int .i64 p.l] := f 13 rfl
    have he9 := vjh w9 p.a p.l p.a p.l
    unfold Oper.wp
    simp only [execOp, Act.eval, Array.getD_eq_getD_getElem?]
    go_simp
    exact hK _ _ (Kp.refl _) rfl
   ·have t149 : a.tmps[149]?.getD undef = .bool false := f 7 rfl
    have t156 : a.tmps[156]?.getD undef = .bool false := f 14 rfl
    unfold Oper.wp
    simp only [execOp, Act.eval, Array.getD_eq_getD_getElem?]
    go_simp
    exact hK _ _ (Kp.refl _) rfl
  intro w9 KV
  (try simp only [Exit.then])
  simp only [wrS, List.zip_cons_cons, List.zip_nil_right, List.foldl_cons, List.foldl_nil, List.setIfInBounds_toArray, List.set_cons_zero, List.set_cons_succ]
  have u := Blk.f (HJ1.out.1.keep KV) rfl
  have f := Blk.frozen (HJ1.out.1.keep KV)
  have BN := (HJ1.out.1.keep KV).set_ 0 (.int .i64 ((q : Nat) + 1 : Nat))
  have ON := (HJ1.out.2.trans (Only.of_kp KV)).setCell (p := ⟨bn, 0, none⟩) (.inl (by simp)) (.int .i64 ((q : Nat) + 1 : Nat))
  have HBN := Lib.hid BN
  have HON := Lib.hid ON
  have HKV := Lib.hid KV
  clear BN ON KV
  gi_wp2_with fail
  refine ⟨⟨?_, ?_⟩, HBN.out, HON.out⟩
  ·rw [hn1]
   exact (Below.heap_setCell _ _ _ _ (by show n1 ≠ bn; omega)).trans (HKV.out.heap (by omega))
  ·rw [hn1]
   exact (Below.heap_setCell _ _ _ _ (by show n1 + 1 ≠ bn; omega)).trans (HKV.out.heap (by omega))
 ·rintro V1 ⟨hB, hO⟩ hd
  rw [hn1] at hd
  have hsv := HSs.out.kp.size
  have hbb : b0 < bn := by omega
  have HB := Lib.hid hB
  have HO := Lib.hid hO
  have HD := Lib.hid hd
  have hnV : n1 < V1.heap.size := (Array.getElem?_eq_some_iff.1 hd).1
  have HGO := Lib.hid ((HSn.out.ex.1.2.2).only hO (by simp; omega))
  have HRO := Lib.hid ((HSn.out.ex.1.2.1).onlyB hO (fun a ha => by have := HAO.out a ha; simp; omega))
  clear hB hO hd
  have HBR1 := Lib.hid (((HBR.out.keep HSn.out.kp).only HO.out (by simp; omega)))
  have hs5 := fun (e1 e2 : En) (h1 : oneE (netQ 5) ((3 : Nat) : Int) = e1) (h2 : oneE (netQ 7) ((16 : Nat) : Int) = e2) => h1
  have HONE5 := Lib.hid (fun V => vaw (netQ 5) 3 V (by decide) (by decide))
  have HONE7 := Lib.hid (fun V => vaw (netQ 7) 16 V (by decide) (by decide))
  obtain ⟨e1, he1⟩ : ∃ e, oneE (netQ 5) ((3 : Nat) : Int) = e := ⟨_, rfl⟩
  obtain ⟨e2, he2⟩ : ∃ e, oneE (netQ 7) ((16 : Nat) : Int) = e := ⟨_, rfl⟩
  rw [he1] at HONE5
  rw [he2] at HONE7
  have hro2 := HRO.out
  rw [show ([oneE (netQ 5) 3, oneE (netQ 7) 16] : List En) = [e1, e2] by rw [← he1, ← he2]; rfl] at hro2
  have HR2 := Lib.hid hro2
  clear hro2 he1 he2 hs5
  go_upto_region 23 with (fail)
  refine' vau (fun (z : Nat) L V9 => Only [b0] V1 V9 ∧ (L 19 = true → V1.heap.size ≤ z ∧ Blk V9 z 66 #[.int .i64 e1.f, .int .i64 e1.t, .int .u32 (e1.a : Int), .int .u32 (e1.m : Int), .int .u32 (e1.n : Int), .int .u32 (e1.k : Int), .int .i64 e2.f, .int .i64 e2.t, .int .u32 (e2.a : Int), .int .u32 (e2.m : Int), .int .u32 (e2.n : Int), .int .u32 (e2.k : Int)]) ∧ Blk V9 b0 4 #[.bool (L 22)]) [160, 161, 162, 163, 164, 165, 166, 167, 168, 169, 170, 171, 172, 173, 174, 175, 176, 177, 178, 179, 180, 181, 10022] (fun z => [.int .i64 2, .bool true, .bool true, .int .i64 0, .int .i64 0, .bool true, .bool true, .bool true, .pointer (some ⟨go, 0, none⟩), .int .i64 2, .bool true, .bool true, .bool true, .pointer (some ⟨go, 1, none⟩), .slice Ao 2 mo, .agg #[.int .u32 ((netQ 5).a : Int), .int .i64 (netQ 5).l], enV e1, .agg #[.int .u32 ((netQ 7).a : Int), .int .i64 (netQ 7).l], enV e2, .slice (some ⟨z, 0, none⟩) 2 2, .bool true, .bool true, undef]) (List.replicate 23 true) [19, 22] (by kernel_rfl) (by kernel_rfl) (fun _ => rfl) (fun _ => rfl) (fun _ => rfl) 0 ⟨(Only.refl _ V1).drew, fun h => (by cases h), HBR1.out.drew⟩ (fun _ L L' _ e h => by simpa only [e 19 (by simp), e 22 (by simp)] using h) ?_ ?_ ?_
  rotate_left
  ·intro z; simp only [List.zip_cons_cons, List.zip_nil_right, wrC, wrN, List.set_cons_zero, List.set_cons_succ, List.set_nil]; rfl
  ·repeat' (first | refine And.intro ?_ ?_ | exact trivial)
   all_goals intro z L a w9 hLi d hcl hM hO K hK
   all_goals have u := Blk.f (HB.out.only hM.1 (by simp; omega)) rfl
   all_goals have c2 := Blk.f (HGO.out.only hM.1 (by simp; omega)) rfl
   all_goals try (go_simp; exact hK z _ _ (hO rfl) (fun _ _ => rfl) rfl)
   ·go_simp
    refine (vbF _ _).mono ?_
    rintro e9 wb ⟨rfl, rfl⟩
    exact hK z _ _ (hO rfl) (fun _ _ => rfl) rfl
   ·go_simp
    refine (HNO.out _).mono ?_
    rintro e9 wb ⟨rfl, hKc⟩
    exact hK z _ _ ⟨hM.1.trans (Only.of_kp hKc), fun h => ⟨(hM.2.1 (by simpa using h)).1, (hM.2.1 (by simpa using h)).2.keep hKc⟩, by simpa using hM.2.2.keep hKc⟩ (fun _ _ => rfl) rfl
   ·go_simp
    refine (HONE5.out _).mono ?_
    rintro e9 wb ⟨rfl, hKc⟩
    exact hK z _ _ ⟨hM.1.trans (Only.of_kp hKc), fun h => ⟨(hM.2.1 (by simpa using h)).1, (hM.2.1 (by simpa using h)).2.keep hKc⟩, by simpa using hM.2.2.keep hKc⟩ (fun _ _ => rfl) rfl
   ·go_simp
    refine (HNP.out _).mono ?_
    rintro e9 wb ⟨rfl, hKc⟩
    exact hK z _ _ ⟨hM.1.trans (Only.of_kp hKc), fun h => ⟨(hM.2.1 (by simpa using h)).1, (hM.2.1 (by simpa using h)).2.keep hKc⟩, by simpa using hM.2.2.keep hKc⟩ (fun _ _ => rfl) rfl
   ·go_simp
    refine (HONE7.out _).mono ?_
    rintro e9 wb ⟨rfl, hKc⟩
    exact hK z _ _ ⟨hM.1.trans (Only.of_kp hKc), fun h => ⟨(hM.2.1 (by simpa using h)).1, (hM.2.1 (by simpa using h)).2.keep hKc⟩, by simpa using hM.2.2.keep hKc⟩ (fun _ _ => rfl) rfl
   ·go_simp
    have n20 : L 20 = false := vac _ hcl (i := 20) rfl (by rfl) hLi
    have n21 : L 21 = false := vac _ hcl (i := 21) rfl (by rfl) n20
    have n22 : L 22 = false := vac _ hcl (i := 22) rfl (by rfl) n21
    exact hK w9.heap.size _ _ ⟨hM.1.alloc _, fun _ => ⟨hM.1.size, Blk.new w9 66 #[.int .i64 e1.f, .int .i64 e1.t, .int .u32 (e1.a : Int), .int .u32 (e1.m : Int), .int .u32 (e1.n : Int), .int .u32 (e1.k : Int), .int .i64 e2.f, .int .i64 e2.t, .int .u32 (e2.a : Int), .int .u32 (e2.m : Int), .int .u32 (e2.n : Int), .int .u32 (e2.k : Int)]⟩, by simpa using hM.2.2.alloc _⟩ (but1 hLi rfl) rfl
   ·have hB19 := (hM.2.1 (d 19 rfl)).2
    go_simp
    refine (vbT Ao (some ⟨z, 0, none⟩) mo 2 [e1, e2] [e1, e2] w9 (HR2.out.onlyB hM.1 (fun a ha => by have := HAO.out a ha; simp; omega)) (Rd.of_blk hB19 (by decide) En.enc_len (by simp [maxLen]) rfl) (by simp) rfl).mono ?_
    rintro e9 wb ⟨rfl, hKc⟩
    exact hK z _ _ ⟨hM.1.trans (Only.of_kp hKc), fun h => ⟨(hM.2.1 (by simpa using h)).1, (hM.2.1 (by simpa using h)).2.keep hKc⟩, by simpa using hM.2.2.keep hKc⟩ (fun _ _ => rfl) rfl
   ·have hR9 := hM.2.2
    rw [hLi] at hR9
    have y := Blk.f (l := [.bool false]) hR9 rfl
    have f := Blk.frozen hR9
    go_simp
    exact hK z _ _ ⟨hM.1.setCell (p := ⟨b0, 0, none⟩) (.inl (by simp)) _, fun h => ⟨(hM.2.1 (by simpa using h)).1, (hM.2.1 (by simpa using h)).2.far (p := ⟨b0, 0, none⟩) (by have := (hM.2.1 (by simpa using h)).1; show z ≠ b0; omega) _⟩, by simpa using hR9.set_ 0 (.bool true)⟩ (fun _ _ => rfl) rfl
  intro z L w9 hL hM
  (try simp only [Exit.then])
  have hR9 := hM.2.2
  rw [hL 22 (by decide)] at hR9
  have hd9 : w9.heap[n1]? = some (.deferred (some [])) := (hM.1.heap hnV (by simp; omega)).trans HD.out
  have HD9 := Lib.hid hd9
  have HR9 := Lib.hid hR9
  have HK9 : Hid (Kp w w9) := Lib.hid (hM.1.kp (HKW0.out.trans (HO.out.kp HSn.out.kp (fun x hx => by simp only [List.mem_cons, List.not_mem_nil, or_false] at hx; omega))) (fun x hx => by simp only [List.mem_cons, List.not_mem_nil, or_false] at hx; omega))
  clear hM hL hR9 hd9
  go_wp2_with fail
  (try rw [hn1])
  refine vbL HD9.out (fun W' hO9 => ?_)
  have q0 : W'.cell? ⟨b0, 0, none⟩ = some (.bool true) := (HR9.out.only hO9 (by simp; omega)).cell 0
  refine ⟨.bool true, ?_, rfl, hO9.kp HK9.out (by simp; omega)⟩
  simp [results, Tryz.results10, go_sem, q0]
end

end Go.Proofs.YtgopnfacklmkaaaGreatDoor
