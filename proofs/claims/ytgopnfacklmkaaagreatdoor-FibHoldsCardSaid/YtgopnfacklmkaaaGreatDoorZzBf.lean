/- Lemmas and contracts for the theorem of this claim: RxC. -/
import Derived.Test.YtgopnfacklmkaaaGreatDoorZzAt
set_option linter.all false
set_option maxHeartbeats 16000000
namespace Go.Proofs.YtgopnfacklmkaaaGreatDoor
section
open Go.RowKit Go.Maps
def Ex0 (w0 : World) (B t q mp m : Nat) (A : Option Addr) (QF0 : List Nat) (pt pn pc : Nat) (T : Tb) (s3 s4 : Value) (wr : World) : Prop := ∃ L k g p is QF l, s3 = .pointer (some ⟨g, 0, none⟩) ∧ s4 = .bool is ∧ ExI w0 B t q mp m A QF0 pt pn pc T L k g p is QF l wr
def Ex3 (wr : World) (x : Rt) (s5 s6 : Value) (wx : World) : Prop := ∃ h, s5 = .pointer (some ⟨h, 0, none⟩) ∧ s6 = .int .i64 0 ∧ Blk wx h 52 (roC x) ∧ Kp wr wx ∧ wr.heap.size ≤ h
theorem Ex0.mk0 {w wx : World} {B t q mp m pt pn pc g : Nat} {A : Option Addr} {QF QF1 : List Nat} {l1 : List Tw} {T : Tb} {L : List Rt} {k : Int} {p : PI} {is : Bool}
  (bt : Blk wx pt 43 #[.pointer (some ⟨t, 0, none⟩)]) (bn : Blk wx pn 2 #[.int .i64 T.now]) (bc : Blk wx pc 3 #[.int .i64 k]) (bg : Blk wx g 39 #[.int .u32 (p.a : Int), .int .i64 p.l])
  (hg : w.heap.size ≤ g) (hgn : g ∉ QF1) (on : Only (pc :: t :: mp :: QF) w wx) (nw : ∀ b ∈ QF1, b ∈ QF ∨ w.heap.size ≤ b) (ok : TbOk ⟨T.c, L, T.now, T.rf⟩) (xs : ∀ r ∈ L, r.x < 4294967296) (kk : 0 ≤ k)
  (ex : expE T.c T.now T.l = ((expE T.c T.now L).1, (expE T.c T.now L).2 + k)) (st : DueSt wx B t q mp m A QF1 l1 ⟨T.c, L, T.now, T.rf⟩ p is) : Ex0 w B t q mp m A QF pt pn pc T (.pointer (some ⟨g, 0, none⟩)) (.bool is) wx :=
 ⟨L, k, g, p, is, QF1, l1, rfl, rfl, ⟨bt, bn, bc, bg, ⟨hg, hgn⟩, on, nw, ok, xs, kk, ex, st⟩⟩
def Exp2P (B t q mp m : Nat) (A : Option Addr) (QF : List Nat) (pc : Nat) (T : Tb) (w : World) (e : Ending) (w' : World) : Prop := e = .returned (.tuple #[]) ∧ ∃ QF' l', TabX w' B t q mp m A QF' l' ⟨T.c, (expE T.c T.now T.l).1, T.now, T.rf⟩ ∧ Blk w' pc 3 #[.int .i64 (expE T.c T.now T.l).2] ∧ Only (pc :: t :: mp :: QF) w w' ∧ ∀ b ∈ QF', b ∈ QF ∨ w.heap.size ≤ b
def cellI (w : World) (g : Nat) : Int := match w.cell? ⟨g, 0, none⟩ with | some v => intOf v | none => 0
theorem vfS {w : World} {g : Nat} {ty : TypeId} {k : Int} (h : Blk w g ty #[.int .i64 k]) : cellI w g = k := by
 have h0 : w.cell? ⟨g, 0, none⟩ = some (.int .i64 k) := h.cell 0
 unfold cellI
 rw [h0]
 rfl
set_option maxRecDepth 100000 in
theorem vmB (B t q mp m : Nat) (A : Option Addr) (QF : List Nat) (l : List Tw) (T : Tb) (pt pn pc : Nat) (w : World) (X : TabX w B t q mp m A QF l T) (hok : TbOk T) (hwf : ∀ r ∈ T.l, r.x < 4294967296) (hown : ∀ k (hk : k < T.c.own.length), T.c.own[k].a < 4294967296) (hC : CapAt w) (hG : 1 < B)
  (h0 : Blk w pt 43 #[.pointer (some ⟨t, 0, none⟩)]) (h1 : Blk w pn 2 #[.int .i64 T.now]) (h2 : Blk w pc 3 #[.int .i64 0]) (n0 : pt ∉ t :: mp :: QF) (n1 : pn ∉ t :: mp :: QF) (n2 : pc ∉ t :: mp :: QF) (hB : B ≤ pc) :
  Calls Tryz.prog 78 #[.pointer (some ⟨pt, 0, none⟩), .pointer (some ⟨pn, 0, none⟩), .pointer (some ⟨pc, 0, none⟩)] w (Exp2P B t q mp m A QF pc T w) := by
 have hpl := h0.lt
 have hnl := h1.lt
 have hcl := h2.lt
 have htl := X.bk.lt
 have hml := X.mr.lt
 have hnow : okNow T.now = true := by rw [okNow, vaa]; exact hok.t
 have n01 : ¬ pt = pn := fun e => by subst e; have := h0.symm.trans h1; simp at this
 have n02 : ¬ pt = pc := fun e => by subst e; have := h0.symm.trans h2; simp at this
 have n12 : ¬ pn = pc := fun e => by subst e; have := h1.symm.trans h2; simp at this
 have hA : ∀ a, A = some a → a.block < w.heap.size := fun a e => (vcz X.ow a e).2
 have npt : ¬ pt = t := fun e => n0 (by simp [e])
 have nnt : ¬ pn = t := fun e => n1 (by simp [e])
 have nct : ¬ pc = t := fun e => n2 (by simp [e])
 have hcap := vaO hok.c
 have hln := hok.n
 have hcnt := vhj T.c T.now T.l
 obtain ⟨tot, htot⟩ : ∃ tot, (expE T.c T.now T.l).2 = tot := ⟨_, rfl⟩
 have htb : tot ≤ 1000 := by rw [← htot]; omega
 have HT := Lib.hid htot
 have c0 : w.cell? ⟨pt, 0, none⟩ = some (.pointer (some ⟨t, 0, none⟩)) := h0.cell 0
 have c1 : w.cell? ⟨t, 0, none⟩ = some (.pointer (some ⟨q, 0, none⟩)) := X.bk.cell 0
 have c2 : w.cell? ⟨pn, 0, none⟩ = some (.int .i64 T.now) := h1.cell 0
 have K : Kp w w := Kp.refl w
 have hpF : pt ∉ QF := fun e => n0 (by simp [e])
 have hnF : pn ∉ QF := fun e => n1 (by simp [e])
 have hcF : pc ∉ QF := fun e => n2 (by simp [e])
 have hgF : ∀ g, w.heap.size ≤ g → g ∉ QF := fun g hg e => by have := (X.qs.lo g e).2; omega
 have hQF : ∀ b ∈ QF, b < w.heap.size := fun b hb => (X.qs.lo b hb).2
 have HX := Lib.hid X
 have HOK := Lib.hid hok
 have HXF := Lib.hid hwf
 have HOW := Lib.hid hown
 have HCA := Lib.hid hC
 have HAA := Lib.hid hA
 have HN0 := Lib.hid n0
 have HN1 := Lib.hid n1
 have HN2 := Lib.hid n2
 have HNO := Lib.hid hnow
 have HGF := Lib.hid hgF
 have HQF := Lib.hid hQF
 have HLN := Lib.hid (show (T.l.length : Int) ≤ 256 by omega)
 clear X hok hwf hown hC hA n0 n1 n2 hnow hgF hQF htot hcnt hln hcap
 have hfh := vig
 go_enter Tryz.func78, Tryz.ntmps78
 go_upto_region 0 with (fail)
 go_cut [3, 4] from 7 (fun s3 s4 wx => Ex0 w B t q mp m A QF pt pn pc T s3 s4 wx)
 case first =>
  go_region_held3 (fun w' => w'.cell? ⟨pt, 0, none⟩ = some (.pointer (some ⟨t, 0, none⟩)) ∧ w'.cell? ⟨t, 0, none⟩ = some (.pointer (some ⟨q, 0, none⟩)) ∧ w'.cell? ⟨pn, 0, none⟩ = some (.int .i64 T.now))
   (first | exact ⟨Rp.cell 0, Rt.cell 0, Rn.cell 0⟩ | exact ⟨Dp.cell 0, Dt.cell 0, Dn.cell 0⟩ | exact ⟨((Kp.refl Y).alloc _).cell (Dp.cell 0), ((Kp.refl Y).alloc _).cell (Dt.cell 0), ((Kp.refl Y).alloc _).cell (Dn.cell 0)⟩ | exact ⟨(Kp.refl w).drew.cell c0, (Kp.refl w).drew.cell c1, (Kp.refl w).drew.cell c2⟩ | exact ⟨((Kp.refl w).alloc _).drew.cell c0, ((Kp.refl w).alloc _).drew.cell c1, ((Kp.refl w).alloc _).drew.cell c2⟩ | exact ⟨((Kp.refl w).alloc _).cell c0, ((Kp.refl w).alloc _).cell c1, ((Kp.refl w).alloc _).cell c2⟩ | go_keep)
   (first | (go_at_call 79; refine (vjS B t q mp m A QF l T _ (HX.out.keep (by first | exact (Kp.refl _).drew | exact ((Kp.refl _).alloc _).drew | exact (Kp.refl _).alloc _ | exact Kp.refl _))).mono ?_; rintro e Y ⟨p, is, rfl, QF1, l1, hS1, hO1, hF1⟩; have Dp := (h0.keep (by first | exact (Kp.refl _).drew | exact ((Kp.refl _).alloc _).drew | exact (Kp.refl _).alloc _ | exact Kp.refl _)).only hO1 hpF; have Dt := (HX.out.bk.keep (by first | exact (Kp.refl _).drew | exact ((Kp.refl _).alloc _).drew | exact (Kp.refl _).alloc _ | exact Kp.refl _)).only hO1 HX.out.tq; have Dn := (h1.keep (by first | exact (Kp.refl _).drew | exact ((Kp.refl _).alloc _).drew | exact (Kp.refl _).alloc _ | exact Kp.refl _)).only hO1 hnF; have Dc := (h2.keep (by first | exact (Kp.refl _).drew | exact ((Kp.refl _).alloc _).drew | exact (Kp.refl _).alloc _ | exact Kp.refl _)).only hO1 hcF; have OY : Only QF w Y := (Only.of_kp (by first | exact (Kp.refl _).drew | exact ((Kp.refl _).alloc _).drew | exact (Kp.refl _).alloc _ | exact Kp.refl _)).trans hO1; have HS1 := Lib.hid hS1; have HF1 := Lib.hid (show ∀ b ∈ QF1, b ∈ QF ∨ w.heap.size ≤ b from fun b hb => (hF1 b hb).imp id (fun z => Nat.le_trans (Kp.size (by first | exact (Kp.refl _).drew | exact ((Kp.refl _).alloc _).drew | exact (Kp.refl _).alloc _ | exact Kp.refl _)) z)); clear hS1; have hgn : w.heap.size ∉ QF1 := fun z => (hF1 _ z).elim (HGF.out _ (Nat.le_refl _)) (fun z => by have z2 : w.heap.size + 1 ≤ w.heap.size := (by simpa using z); omega); clear hF1; have Eg : Blk Y w.heap.size 39 #[.int .u32 0, .int .i64 0] := ((Blk.new w 39 #[.int .u32 0, .int .i64 0]).drew).only hO1 (HGF.out _ (Nat.le_refl _)); have y0 : Y.cell? ⟨w.heap.size, 0, none⟩ = some (.int .u32 0) := Eg.cell 0; have y1 : Y.cell? ⟨w.heap.size, 1, none⟩ = some (.int .i64 0) := Eg.cell 1; have f0 := Eg.frozen 0; have f1 := Eg.frozen 1; obtain ⟨R, hR, Rg, Rp, Rt, Rn, Rc, OR⟩ : ∃ R, (Y.setCell ⟨w.heap.size, 0, none⟩ (.int .u32 (p.a : Int))).setCell ⟨w.heap.size, 1, none⟩ (.int .i64 p.l) = R ∧ Blk R w.heap.size 39 #[.int .u32 (p.a : Int), .int .i64 p.l] ∧ Blk R pt 43 #[.pointer (some ⟨t, 0, none⟩)] ∧ Blk R t 125 (tbC q T A m mp) ∧ Blk R pn 2 #[.int .i64 T.now] ∧ Blk R pc 3 #[.int .i64 0] ∧ Only [w.heap.size] Y R := ⟨_, rfl, by have H := (Eg.set_ 0 (.int .u32 (p.a : Int))).set_ 1 (.int .i64 p.l); simp only [List.setIfInBounds_toArray, List.set_cons_zero, List.set_cons_succ] at H; exact H, (Dp.far (p := ⟨w.heap.size, 0, none⟩) (by show pt ≠ w.heap.size; omega) _).far (p := ⟨w.heap.size, 1, none⟩) (by show pt ≠ w.heap.size; omega) _, (Dt.far (p := ⟨w.heap.size, 0, none⟩) (by show t ≠ w.heap.size; omega) _).far (p := ⟨w.heap.size, 1, none⟩) (by show t ≠ w.heap.size; omega) _, (Dn.far (p := ⟨w.heap.size, 0, none⟩) (by show pn ≠ w.heap.size; omega) _).far (p := ⟨w.heap.size, 1, none⟩) (by show pn ≠ w.heap.size; omega) _, (Dc.far (p := ⟨w.heap.size, 0, none⟩) (by show pc ≠ w.heap.size; omega) _).far (p := ⟨w.heap.size, 1, none⟩) (by show pc ≠ w.heap.size; omega) _, ((Only.refl [w.heap.size] Y).setCell (p := ⟨w.heap.size, 0, none⟩) (.inl (by simp)) _).setCell (p := ⟨w.heap.size, 1, none⟩) (.inl (by simp)) _⟩) | (go_at_call 79; refine (vjS B t q mp m A QF l T _ (HX.out.keep (by first | exact (Kp.refl _).drew | exact ((Kp.refl _).alloc _).drew | exact (Kp.refl _).alloc _ | exact Kp.refl _))).mono ?_; rintro e Y ⟨p, is, rfl, QF1, l1, hS1, hO1, hF1⟩; have Dp := (h0.keep (by first | exact (Kp.refl _).drew | exact ((Kp.refl _).alloc _).drew | exact (Kp.refl _).alloc _ | exact Kp.refl _)).only hO1 hpF; have Dt := (HX.out.bk.keep (by first | exact (Kp.refl _).drew | exact ((Kp.refl _).alloc _).drew | exact (Kp.refl _).alloc _ | exact Kp.refl _)).only hO1 HX.out.tq; have Dn := (h1.keep (by first | exact (Kp.refl _).drew | exact ((Kp.refl _).alloc _).drew | exact (Kp.refl _).alloc _ | exact Kp.refl _)).only hO1 hnF; have Dc := (h2.keep (by first | exact (Kp.refl _).drew | exact ((Kp.refl _).alloc _).drew | exact (Kp.refl _).alloc _ | exact Kp.refl _)).only hO1 hcF; have OY : Only QF w Y := (Only.of_kp (by first | exact (Kp.refl _).drew | exact ((Kp.refl _).alloc _).drew | exact (Kp.refl _).alloc _ | exact Kp.refl _)).trans hO1; have HS1 := Lib.hid hS1; have HF1 := Lib.hid (show ∀ b ∈ QF1, b ∈ QF ∨ w.heap.size ≤ b from fun b hb => (hF1 b hb).imp id (fun z => Nat.le_trans (Kp.size (by first | exact (Kp.refl _).drew | exact ((Kp.refl _).alloc _).drew | exact (Kp.refl _).alloc _ | exact Kp.refl _)) z)); clear hS1; clear hF1))
  all_goals
   go_wp2_with fail
   go_meet
   case rel =>
    first
     | exact Ex0.mk0 Rp Rn Rc Rg (Nat.le_refl _) hgn ((OY.joinF OR (fun b hb => .inr (by simp only [List.mem_cons, List.not_mem_nil, or_false] at hb; omega))).wider (fun b hb => by simp [hb])) HF1.out HOK.out HXF.out (Int.le_refl _) (by rw [Int.add_zero]) (HS1.out.only OR (fun b hb z => by
       simp only [List.mem_cons, List.not_mem_nil, or_false] at hb z
       subst hb
       rcases z with z | z | z
       ·omega
       ·omega
       ·exact hgn z) (fun a e z => by
       simp only [List.mem_cons, List.not_mem_nil, or_false] at z
       have := HAA.out a e
       omega))
     | exact Ex0.mk0 (Dp.alloc _) (Dn.alloc _) (Dc.alloc _) (Blk.new _ _ _) OY.size (fun z => by have := (HS1.out.lo _ (List.mem_cons_of_mem _ (List.mem_cons_of_mem _ z))).2; omega) ((OY.alloc _).wider (fun b hb => by simp [hb])) HF1.out HOK.out HXF.out (Int.le_refl _) (by rw [Int.add_zero]) (HS1.out.keep ((Kp.refl _).alloc _))
 case rest =>
  clear c0 c1 c2
  go_wp2_with fail
  go_loopw [3, 4] (fun s3 s4 wr => Hid (Ex0 w B t q mp m A QF pt pn pc T s3 s4 wr)) (fun _ _ wr => (tot - cellI wr pc).toNat)
  case atStart => exact Lib.hid hcut
  case round =>
   obtain ⟨L, k, g, p, is, QF1, l1, rfl, rfl, I⟩ := hrel.out
   cases is with
   | false =>
    rcases I.st with ⟨_, X1, hd⟩ | ⟨h, _⟩
    ·have HI := Lib.hid I
     have HX1 := Lib.hid X1
     have HD := Lib.hid hd
     clear I X1 hd
     go_wp2_with fail
     go_end0
     have hdone := vjQ (c := T.c) HX1.out.u HD.out
     have hex := HI.out.ex
     rw [hdone] at hex
     simp only [Int.zero_add] at hex
     exact ⟨rfl, QF1, l1, by rw [hex]; exact HX1.out, by rw [hex]; exact HI.out.bc, HI.out.on, HI.out.nw⟩
    ·cases h
   | true =>
    rcases I.st with ⟨h, _⟩ | ⟨_, r, hp, hf, hm, hs, hd, Z⟩
    ·cases h
    ·subst hp
     have hxok : okR (expR T.c r T.now) = true := vcw I.ok.c (I.ok.r r hm).1 HNO.out
     have hxp : (expR T.c r T.now).p = r.p := exp_p _ _ _
     have hxx : (expR T.c r T.now).x < 4294967296 := exp_x (I.xs r hm)
     have hask : askR T.c r T.now = 0 := by unfold askR; rw [I.ok.c, (I.ok.r r hm).1, HNO.out]; rfl
     have hstep := vjR I.ok.c I.ok.u (fun x hx => (I.ok.r x hx).1) HNO.out hf hd
     have hokn : TbOk ⟨T.c, setR (expR T.c r T.now) L, T.now, T.rf⟩ := I.ok.put hm hxp hxok HOK.out.t HOK.out.f
     obtain ⟨x, hx⟩ : ∃ x, expR T.c r T.now = x := ⟨_, rfl⟩
     rw [hx] at hxok hxp hxx hstep hokn
     have hex := I.ex
     rw [hstep] at hex
     simp only at hex
     have hcn := vhj T.c T.now (setR x L)
     have hk1 : k + 1 ≤ tot := by have := HT.out; rw [hex] at this; simp only at this; omega
     have hk0 := I.kk
     have hex2 : expE T.c T.now T.l = ((expE T.c T.now (setR x L)).1, (expE T.c T.now (setR x L)).2 + (k + 1)) := by rw [hex]; congr 1; omega
     have hLl : (L.length : Int) ≤ T.c.cap := I.ok.n
     have hcp := vaO (c := T.c) I.ok.c
     have hLn : L.length < 800000 := by omega
     have hra : r.p.a < 4294967296 := (Z.wf r hm).1
     have hrx : r.x < 4294967296 := I.xs r hm
     have hxs : ∀ y ∈ setR x L, y.x < 4294967296 := fun y hy => by
      rcases vao.1 hy with ⟨rfl, _⟩ | ⟨hy, _⟩
      ·exact hxx
      ·exact I.xs y hy
     have c0 : wr.cell? ⟨pt, 0, none⟩ = some (.pointer (some ⟨t, 0, none⟩)) := I.bt.cell 0
     have c2 : wr.cell? ⟨pn, 0, none⟩ = some (.int .i64 T.now) := I.bn.cell 0
     obtain ⟨e0, e1⟩ := Blk.p2 I.bg
     have gm : wr.cell? ⟨t, 10, none⟩ = some (.map (some mp)) := Z.bk.cell 10
     obtain ⟨-, g0, g1, g2, g3, g4, g5, g6, g7, g8⟩ := Blk.v10 Z.bk _ (.int .i64 T.c.t0) (.int .i64 T.c.t1) (.int .i64 T.c.t2) (.int .i64 T.c.t3) (.int .i64 T.c.t4) (.int .i64 T.c.t5) (.int .i64 T.c.t6) (.int .i64 T.c.cap) (.slice A T.c.own.length m) rfl
     have hlk1 := vhk Z.mr Z.u Z.wf hm wr wr.drew (Kp.refl _) rfl
     have hlk2 := fun ob => vhk Z.mr Z.u Z.wf hm (wr.alloc ob) (wr.alloc ob).drew ((Kp.refl _).alloc _) rfl
     have hlk3 := fun ob => vhk Z.mr Z.u Z.wf hm (wr.alloc ob) (wr.alloc ob) ((Kp.refl _).alloc _) rfl
     have HLK := Lib.hid (vhk Z.mr Z.u Z.wf hm)
     have HI := Lib.hid I
     have HZ := Lib.hid Z
     have HSL := Lib.hid (SlPI.of_own Z.ow)
     have HCX := Lib.hid (show CapAt wr from ⟨I.on.cell HCA.out.1 (by
      simp only [List.mem_cons, not_or]
      have := HX.out.bt; have := HX.out.bm
      exact ⟨by show ¬ 1 = pc; omega, by show ¬ 1 = t; omega, by show ¬ 1 = mp; omega, fun z => by have := (HX.out.qs.lo _ z).1; omega⟩), I.on.cell HCA.out.2 (by
      simp only [List.mem_cons, not_or]
      have := HX.out.bt; have := HX.out.bm
      exact ⟨by show ¬ 1 = pc; omega, by show ¬ 1 = t; omega, by show ¬ 1 = mp; omega, fun z => by have := (HX.out.qs.lo _ z).1; omega⟩)⟩)
     have HAS := Lib.hid hask
     have HXD := Lib.hid hx
     have HEX := Lib.hid hex2
     have HON := Lib.hid hokn
     have HXO := Lib.hid hxok
     have HXP := Lib.hid hxp
     have HXS := Lib.hid hxs
     have HHM := Lib.hid hm
     clear I Z hask hx hex2 hokn hxok hxp hxs hm hstep hex hcn hLl hcp hs hd hf
     go_upto_region 3 with (fail)
     go_cut [5, 6] from 16 (fun s5 s6 wx => Ex3 wr x s5 s6 wx)
     case first =>
      go_region_held3 (fun w' => w'.cell? ⟨t, 1, none⟩ = some (.int .i64 T.c.t0) ∧ w'.cell? ⟨t, 2, none⟩ = some (.int .i64 T.c.t1) ∧ w'.cell? ⟨t, 3, none⟩ = some (.int .i64 T.c.t2) ∧ w'.cell? ⟨t, 4, none⟩ = some (.int .i64 T.c.t3) ∧ w'.cell? ⟨t, 5, none⟩ = some (.int .i64 T.c.t4) ∧ w'.cell? ⟨t, 6, none⟩ = some (.int .i64 T.c.t5) ∧ w'.cell? ⟨t, 7, none⟩ = some (.int .i64 T.c.t6) ∧ w'.cell? ⟨t, 8, none⟩ = some (.int .i64 T.c.cap) ∧ w'.cell? ⟨t, 9, none⟩ = some (.slice A T.c.own.length m) ∧ w'.cell? ⟨t, 10, none⟩ = some (.map (some mp)) ∧ w'.cell? ⟨pt, 0, none⟩ = some (.pointer (some ⟨t, 0, none⟩)) ∧ w'.cell? ⟨pn, 0, none⟩ = some (.int .i64 T.now) ∧ w'.cell? ⟨g, 0, none⟩ = some (.int .u32 (r.p.a : Int)) ∧ w'.cell? ⟨g, 1, none⟩ = some (.int .i64 r.p.l) ∧ (Instr.lookup 123 (.map (some mp)) (pfV r.p) false).run Tryz.prog w' = .ok (.agg #[.int .u32 (r.p.a : Int), .int .i64 r.p.l, .int .i64 r.s, .int .i64 r.m, .int .i64 r.l, .int .i64 r.f, .int .u32 (r.x : Int), .int .i64 r.d, .bool r.c]) w')
       (first | exact ⟨Rt.cell 1, Rt.cell 2, Rt.cell 3, Rt.cell 4, Rt.cell 5, Rt.cell 6, Rt.cell 7, Rt.cell 8, Rt.cell 9, Rt.cell 10, Rp.cell 0, Rn.cell 0, Rg.cell 0, Rg.cell 1, hlkR⟩ | exact ⟨KY.cell g0, KY.cell g1, KY.cell g2, KY.cell g3, KY.cell g4, KY.cell g5, KY.cell g6, KY.cell g7, KY.cell g8, KY.cell gm, KY.cell c0, KY.cell c2, KY.cell e0, KY.cell e1, hlkY⟩ | exact ⟨(KY.alloc _).cell g0, (KY.alloc _).cell g1, (KY.alloc _).cell g2, (KY.alloc _).cell g3, (KY.alloc _).cell g4, (KY.alloc _).cell g5, (KY.alloc _).cell g6, (KY.alloc _).cell g7, (KY.alloc _).cell g8, (KY.alloc _).cell gm, (KY.alloc _).cell c0, (KY.alloc _).cell c2, (KY.alloc _).cell e0, (KY.alloc _).cell e1, (hlkZ _)⟩ | exact ⟨(Kp.refl wr).drew.cell g0, (Kp.refl wr).drew.cell g1, (Kp.refl wr).drew.cell g2, (Kp.refl wr).drew.cell g3, (Kp.refl wr).drew.cell g4, (Kp.refl wr).drew.cell g5, (Kp.refl wr).drew.cell g6, (Kp.refl wr).drew.cell g7, (Kp.refl wr).drew.cell g8, (Kp.refl wr).drew.cell gm, (Kp.refl wr).drew.cell c0, (Kp.refl wr).drew.cell c2, (Kp.refl wr).drew.cell e0, (Kp.refl wr).drew.cell e1, hlk1⟩ | exact ⟨((Kp.refl wr).alloc _).drew.cell g0, ((Kp.refl wr).alloc _).drew.cell g1, ((Kp.refl wr).alloc _).drew.cell g2, ((Kp.refl wr).alloc _).drew.cell g3, ((Kp.refl wr).alloc _).drew.cell g4, ((Kp.refl wr).alloc _).drew.cell g5, ((Kp.refl wr).alloc _).drew.cell g6, ((Kp.refl wr).alloc _).drew.cell g7, ((Kp.refl wr).alloc _).drew.cell g8, ((Kp.refl wr).alloc _).drew.cell gm, ((Kp.refl wr).alloc _).drew.cell c0, ((Kp.refl wr).alloc _).drew.cell c2, ((Kp.refl wr).alloc _).drew.cell e0, ((Kp.refl wr).alloc _).drew.cell e1, (hlk2 _)⟩ | exact ⟨((Kp.refl wr).alloc _).cell g0, ((Kp.refl wr).alloc _).cell g1, ((Kp.refl wr).alloc _).cell g2, ((Kp.refl wr).alloc _).cell g3, ((Kp.refl wr).alloc _).cell g4, ((Kp.refl wr).alloc _).cell g5, ((Kp.refl wr).alloc _).cell g6, ((Kp.refl wr).alloc _).cell g7, ((Kp.refl wr).alloc _).cell g8, ((Kp.refl wr).alloc _).cell gm, ((Kp.refl wr).alloc _).cell c0, ((Kp.refl wr).alloc _).cell c2, ((Kp.refl wr).alloc _).cell e0, ((Kp.refl wr).alloc _).cell e1, (hlk3 _)⟩ | go_keep)
       (first | (go_at_call 80; refine (vhe T.c A m r T.now _ (HSL.out.keep (by first | exact (Kp.refl _).drew | exact ((Kp.refl _).alloc _).drew | exact (Kp.refl _).alloc _ | exact Kp.refl _)) (HCX.out.keep (by first | exact (Kp.refl _).drew | exact ((Kp.refl _).alloc _).drew | exact (Kp.refl _).alloc _ | exact Kp.refl _)) HOW.out hra hrx).mono ?_; rintro e Y hE; obtain ⟨rfl, KY0⟩ := hE.split0 HAS.out; rw [HXD.out]; have KY : Kp wr Y := (show Kp wr _ from (by first | exact (Kp.refl _).drew | exact ((Kp.refl _).alloc _).drew | exact (Kp.refl _).alloc _ | exact Kp.refl _)).trans KY0; have hlkY := HLK.out Y Y KY rfl; have hlkZ := fun ob => HLK.out (Y.alloc ob) (Y.alloc ob) (KY.alloc ob) rfl; have Eh : Blk Y wr.heap.size 52 zero9 := ((Blk.new wr 52 zero9).drew).keep KY0; have y0 : Y.cell? ⟨wr.heap.size, 0, none⟩ = some (.int .u32 0) := Eh.cell 0; have f0 := Eh.frozen 0; have y1 : Y.cell? ⟨wr.heap.size, 1, none⟩ = some (.int .i64 0) := Eh.cell 1; have f1 := Eh.frozen 1; have y2 : Y.cell? ⟨wr.heap.size, 2, none⟩ = some (.int .i64 0) := Eh.cell 2; have f2 := Eh.frozen 2; have y3 : Y.cell? ⟨wr.heap.size, 3, none⟩ = some (.int .i64 0) := Eh.cell 3; have f3 := Eh.frozen 3; have y4 : Y.cell? ⟨wr.heap.size, 4, none⟩ = some (.int .i64 0) := Eh.cell 4; have f4 := Eh.frozen 4; have y5 : Y.cell? ⟨wr.heap.size, 5, none⟩ = some (.int .i64 0) := Eh.cell 5; have f5 := Eh.frozen 5; have y6 : Y.cell? ⟨wr.heap.size, 6, none⟩ = some (.int .u32 0) := Eh.cell 6; have f6 := Eh.frozen 6; have y7 : Y.cell? ⟨wr.heap.size, 7, none⟩ = some (.int .i64 0) := Eh.cell 7; have f7 := Eh.frozen 7; have y8 : Y.cell? ⟨wr.heap.size, 8, none⟩ = some (.bool false) := Eh.cell 8; have f8 := Eh.frozen 8; obtain ⟨R, hR, Rh, Rt, Rp, Rn, Rg, kR⟩ : ∃ R, roSet Y wr.heap.size x = R ∧ Blk R wr.heap.size 52 (roC x) ∧ Blk R t 125 (tbC q ⟨T.c, L, T.now, T.rf⟩ A m mp) ∧ Blk R pt 43 #[.pointer (some ⟨t, 0, none⟩)] ∧ Blk R pn 2 #[.int .i64 T.now] ∧ Blk R g 39 #[.int .u32 (r.p.a : Int), .int .i64 r.p.l] ∧ Kp wr R := ⟨_, rfl, Blk.putRo Eh x, Blk.putRo_far (HZ.out.bk.keep KY) (Nat.ne_of_lt HZ.out.bk.lt) x, Blk.putRo_far (HI.out.bt.keep KY) (Nat.ne_of_lt HI.out.bt.lt) x, Blk.putRo_far (HI.out.bn.keep KY) (Nat.ne_of_lt HI.out.bn.lt) x, Blk.putRo_far (HI.out.bg.keep KY) (Nat.ne_of_lt HI.out.bg.lt) x, Kp.putRo KY (Nat.le_refl _) x⟩; have hlkR := HLK.out R R kR rfl; unfold roSet at hR) | (go_at_call 80; refine (vhe T.c A m r T.now _ (HSL.out.keep (by first | exact (Kp.refl _).drew | exact ((Kp.refl _).alloc _).drew | exact (Kp.refl _).alloc _ | exact Kp.refl _)) (HCX.out.keep (by first | exact (Kp.refl _).drew | exact ((Kp.refl _).alloc _).drew | exact (Kp.refl _).alloc _ | exact Kp.refl _)) HOW.out hra hrx).mono ?_; rintro e Y hE; obtain ⟨rfl, KY0⟩ := hE.split0 HAS.out; rw [HXD.out]; have KY : Kp wr Y := (show Kp wr _ from (by first | exact (Kp.refl _).drew | exact ((Kp.refl _).alloc _).drew | exact (Kp.refl _).alloc _ | exact Kp.refl _)).trans KY0; have hlkY := HLK.out Y Y KY rfl; have hlkZ := fun ob => HLK.out (Y.alloc ob) (Y.alloc ob) (KY.alloc ob) rfl))
      all_goals
       go_wp2_with fail
       go_meet
       case rel => first | exact ⟨_, rfl, rfl, Blk.new _ _ _, KY.alloc _, KY.size⟩ | exact ⟨_, rfl, rfl, Rh, kR, Nat.le_refl _⟩
     case rest =>
      obtain ⟨h, rfl, rfl, Bh, KX, hh⟩ := hcut
      clear hlk1 hlk2 hlk3 c0 c2 e0 e1 gm g0 g1 g2 g3 g4 g5 g6 g7 g8
      have d0 : wc.cell? ⟨pt, 0, none⟩ = some (.pointer (some ⟨t, 0, none⟩)) := (HI.out.bt.keep KX).cell 0
      have Bh' := Bh
      unfold roC at Bh'
      have r0 := Blk.f Bh rfl
      obtain ⟨V5, hV5, B5, K5⟩ : ∃ V, wc.alloc (.cells (roC x) 52) = V ∧ Blk V wc.heap.size 52 (roC x) ∧ Kp wr V := ⟨_, rfl, Blk.new _ _ _, KX.alloc _⟩
      obtain ⟨n5, hn5⟩ : ∃ n, wc.heap.size = n := ⟨_, rfl⟩
      rw [hn5] at B5
      unfold roC at hV5
      clear Bh'
      have hxa : x.p.a < 4294967296 := by rw [HXP.out]; exact hra
      have pt1 : pt ∉ t :: mp :: QF1 := fun z => by
       rcases List.mem_cons.1 z with e | z
       ·exact npt e
       ·rcases List.mem_cons.1 z with e | z
        ·exact HN0.out (by simp [e])
        ·rcases HI.out.nw _ z with e | e
         ·exact hpF e
         ·omega
      have pn1 : pn ∉ t :: mp :: QF1 := fun z => by
       rcases List.mem_cons.1 z with e | z
       ·exact nnt e
       ·rcases List.mem_cons.1 z with e | z
        ·exact HN1.out (by simp [e])
        ·rcases HI.out.nw _ z with e | e
         ·exact hnF e
         ·omega
      have pc1 : pc ∉ t :: mp :: QF1 := fun z => by
       rcases List.mem_cons.1 z with e | z
       ·exact nct e
       ·rcases List.mem_cons.1 z with e | z
        ·exact HN2.out (by simp [e])
        ·rcases HI.out.nw _ z with e | e
         ·exact hcF e
         ·omega
      have pg1 : g ∉ t :: mp :: QF1 := fun z => by
       have hgw := HI.out.gg.1
       rcases List.mem_cons.1 z with e | z
       ·omega
       ·rcases List.mem_cons.1 z with e | z
        ·omega
        ·exact HI.out.gg.2 z
      have HPT := Lib.hid pt1
      have HPN := Lib.hid pn1
      have HPC := Lib.hid pc1
      have HPG := Lib.hid pg1
      clear pt1 pn1 pc1 pg1
      have HCL := put_z B t n5 ⟨T.c, L, T.now, T.rf⟩ x V5 q mp m A QF1 l1 (by rw [HXP.out]; exact HZ.out.keep K5) B5 HXO.out hxa hLn
      have HCL2 := Lib.hid HCL
      clear HCL
      go_upto_region 5 with (first | (go_at_call 56; refine (vjD _).mono ?_; rintro e w' ⟨rfl, hw'⟩; rw [hw']; clear hw' w'))
      go_upto_region 6 with (first | (go_at_call 53; refine HCL2.out.mono ?_; rintro e w5 ⟨rfl, QF5, l5, X5, O5, N5⟩))
      have hV5s := K5.size
      have hws := HI.out.on.size
      have hgw := HI.out.gg.1
      have hpc5 : pc ∉ t :: mp :: QF5 := fun z => by
       rcases List.mem_cons.1 z with e | z
       ·exact HPC.out (by simp [e])
       ·rcases List.mem_cons.1 z with e | z
        ·exact HPC.out (by simp [e])
        ·rcases N5 _ z with e | e
         ·exact HPC.out (by simp [e])
         ·omega
      have hpt5 : pt ∉ QF5 := fun z => by
       rcases N5 _ z with e | e
       ·exact HPT.out (by simp [e])
       ·omega
      have hpn5 : pn ∉ QF5 := fun z => by
       rcases N5 _ z with e | e
       ·exact HPN.out (by simp [e])
       ·omega
      have hnw5 : ∀ b ∈ QF5, b ∈ QF ∨ w.heap.size ≤ b := fun b hb => by
       rcases N5 _ hb with e | e
       ·exact HI.out.nw _ e
       ·exact .inr (by omega)
      have on5 : Only (pc :: t :: mp :: QF) w w5 := (HI.out.on.trans (Only.of_kp K5)).joinF O5 (fun b hb => by
       simp only [List.mem_cons] at hb ⊢
       rcases hb with e | e | e
       ·exact .inl (.inr (.inl e))
       ·exact .inl (.inr (.inr (.inl e)))
       ·exact (HI.out.nw _ e).imp (fun z => .inr (.inr (.inr z))) id)
      have Pt5 := (HI.out.bt.keep K5).only O5 HPT.out
      have Pn5 := (HI.out.bn.keep K5).only O5 HPN.out
      have Pc5 := (HI.out.bc.keep K5).only O5 HPC.out
      have Pg5 := (HI.out.bg.keep K5).only O5 HPG.out
      have htag := vjL X5.ow Pc5 (by decide)
      have f0 : w5.cell? ⟨pc, 0, none⟩ = some (.int .i64 k) := Pc5.cell 0
      have f1 := Pc5.frozen 0
      obtain ⟨f2, f3⟩ := Blk.p2 Pg5
      have hgp : ¬ g = pc := by omega
      have hk9 : k + 1 ≤ 9223372036854775807 := by omega
      have hk8 : -9223372036854775808 ≤ k + 1 := by omega
      obtain ⟨V6, hV6, P6t, P6n, P6c, P6g, X6, O6⟩ : ∃ V, w5.setCell ⟨pc, 0, none⟩ (.int .i64 (k + 1)) = V ∧ Blk V pt 43 #[.pointer (some ⟨t, 0, none⟩)] ∧ Blk V pn 2 #[.int .i64 T.now] ∧ Blk V pc 3 #[.int .i64 (k + 1)] ∧ Blk V g 39 #[.int .u32 (r.p.a : Int), .int .i64 r.p.l] ∧ TabX V B t q mp m A QF5 l5 ⟨T.c, setR x L, T.now, T.rf⟩ ∧ Only [pc] w5 V := by
       have ho : Only [pc] w5 (w5.setCell ⟨pc, 0, none⟩ (.int .i64 (k + 1))) := (Only.refl [pc] w5).setCell (p := ⟨pc, 0, none⟩) (.inl (by simp)) _
       refine ⟨_, rfl, Pt5.only ho (by simpa using n02), Pn5.only ho (by simpa using n12), ?_, Pg5.only ho (by simpa using hgp), X5.only ho (fun b hb => by
        simp only [List.mem_cons, List.not_mem_nil, or_false] at hb
        subst hb
        exact hpc5) (fun a e => by simpa using htag a e), ho⟩
       simpa using Pc5.set_ 0 (.int .i64 (k + 1))
      have p0 := Blk.f P6g rfl
      obtain ⟨g2, hg2⟩ : ∃ g2, V6.heap.size = g2 := ⟨_, rfl⟩
      obtain ⟨V8, hV8, B8, K8, hs8⟩ : ∃ V, V6.alloc (.cells #[.int .u32 (r.p.a : Int), .int .i64 r.p.l] 39) = V ∧ Blk V g2 39 #[.int .u32 (r.p.a : Int), .int .i64 r.p.l] ∧ Kp V6 V ∧ V.heap.size = g2 + 1 := ⟨_, rfl, by rw [← hg2]; exact Blk.new _ _ _, (Kp.refl _).alloc _, by simp [hg2]⟩
      have on8 : Only (pc :: t :: mp :: QF) w V8 := (on5.joinF O6 (fun b hb => .inl (by simp only [List.mem_cons, List.not_mem_nil, or_false] at hb; simp [hb]))).trans (Only.of_kp K8)
      have s6 : w5.heap.size ≤ g2 := by rw [← hg2]; exact O6.size
      have s5 := on5.size
      have P8t := P6t.keep K8
      have P8n := P6n.keep K8
      have P8c := P6c.keep K8
      have X8 := X6.keep K8
      have h2F : g2 ∉ QF5 := fun z => by have := (X6.lo g2 (by simp [z])).2; omega
      have t2F : t ∉ QF5 := X5.tq
      have q0 : V8.cell? ⟨pt, 0, none⟩ = some (.pointer (some ⟨t, 0, none⟩)) := P8t.cell 0
      have q1 : V8.cell? ⟨t, 0, none⟩ = some (.pointer (some ⟨q, 0, none⟩)) := X8.bk.cell 0
      have q2 : V8.cell? ⟨pn, 0, none⟩ = some (.int .i64 T.now) := P8n.cell 0
      have pc5 : pc ∉ QF5 := fun z => hpc5 (by simp [z])
      have gt2 : ¬ t = g2 := by have := X6.bk.lt; omega
      have gm2 : ¬ mp = g2 := by have := X6.mr.lt; omega
      have HCW := Lib.hid (vfS HI.out.bc)
      have H5 := Lib.hid hnw5
      have H8 := Lib.hid X8
      have HO8 := Lib.hid on8
      have HA2 := Lib.hid (show ∀ a, A = some a → ¬ a.block = g2 from fun a e z => by have := (vcz X6.ow a e).2; omega)
      have HF5 := Lib.hid hs8
      have HP5 := Lib.hid hpc5
      clear hnw5 X8 on8 X6 X5 hpc5 htag N5 O5 O6 on5 hs8 hws hgw hV5s HI HZ d0
      go_upto_region 2 with (fail)
      try rw [hg2]
      try clear hg2
      go_region_held3 (fun w' => w'.cell? ⟨pt, 0, none⟩ = some (.pointer (some ⟨t, 0, none⟩)) ∧ w'.cell? ⟨t, 0, none⟩ = some (.pointer (some ⟨q, 0, none⟩)) ∧ w'.cell? ⟨pn, 0, none⟩ = some (.int .i64 T.now))
       (first | exact ⟨Rp.cell 0, Rt.cell 0, Rn.cell 0⟩ | exact ⟨Dp.cell 0, Dt.cell 0, Dn.cell 0⟩ | exact ⟨(Kp.refl V8).drew.cell q0, (Kp.refl V8).drew.cell q1, (Kp.refl V8).drew.cell q2⟩ | go_keep)
       (first | (go_at_call 79; refine (vjS B t q mp m A QF5 l5 ⟨T.c, setR x L, T.now, T.rf⟩ _ (H8.out.keep (Kp.refl V8).drew)).mono ?_; rintro e Y ⟨p', is', rfl, QF7, l7, hS7, hO7, hF7⟩; have Dp := P8t.drew.only hO7 hpt5; have Dt := H8.out.bk.drew.only hO7 t2F; have Dn := P8n.drew.only hO7 hpn5; have Dc := P8c.drew.only hO7 pc5; have Eg := B8.drew.only hO7 h2F; have HS7 := Lib.hid hS7; have HF7 := Lib.hid hF7; clear hS7 hF7; have y0 : Y.cell? ⟨g2, 0, none⟩ = some (.int .u32 (r.p.a : Int)) := Eg.cell 0; have y1 : Y.cell? ⟨g2, 1, none⟩ = some (.int .i64 r.p.l) := Eg.cell 1; have f8 := Eg.frozen 0; have f9 := Eg.frozen 1; obtain ⟨R, hR, Rg, Rp, Rt, Rn, Rc, OR⟩ : ∃ R, (Y.setCell ⟨g2, 0, none⟩ (.int .u32 (p'.a : Int))).setCell ⟨g2, 1, none⟩ (.int .i64 p'.l) = R ∧ Blk R g2 39 #[.int .u32 (p'.a : Int), .int .i64 p'.l] ∧ Blk R pt 43 #[.pointer (some ⟨t, 0, none⟩)] ∧ Blk R t 125 (tbC q ⟨T.c, setR x L, T.now, T.rf⟩ A m mp) ∧ Blk R pn 2 #[.int .i64 T.now] ∧ Blk R pc 3 #[.int .i64 (k + 1)] ∧ Only [g2] Y R := ⟨_, rfl, by have H := (Eg.set_ 0 (.int .u32 (p'.a : Int))).set_ 1 (.int .i64 p'.l); simp only [List.setIfInBounds_toArray, List.set_cons_zero, List.set_cons_succ] at H; exact H, (Dp.far (p := ⟨g2, 0, none⟩) (by show pt ≠ g2; omega) _).far (p := ⟨g2, 1, none⟩) (by show pt ≠ g2; omega) _, (Dt.far (p := ⟨g2, 0, none⟩) gt2 _).far (p := ⟨g2, 1, none⟩) gt2 _, (Dn.far (p := ⟨g2, 0, none⟩) (by show pn ≠ g2; omega) _).far (p := ⟨g2, 1, none⟩) (by show pn ≠ g2; omega) _, (Dc.far (p := ⟨g2, 0, none⟩) (by show pc ≠ g2; omega) _).far (p := ⟨g2, 1, none⟩) (by show pc ≠ g2; omega) _, ((Only.refl [g2] Y).setCell (p := ⟨g2, 0, none⟩) (.inl (by simp)) _).setCell (p := ⟨g2, 1, none⟩) (.inl (by simp)) _⟩))
      have OY : Only (pc :: t :: mp :: QF) w Y := HO8.out.drew.joinF hO7 (fun b hb => (H5.out b hb).imp (fun z => by simp [z]) id)
      have OR2 : Only (pc :: t :: mp :: QF) w R := OY.joinF OR (fun b hb => by
       simp only [List.mem_cons, List.not_mem_nil, or_false] at hb
       subst hb
       exact .inr (by omega))
      have h8s : V8.drew.heap.size = g2 + 1 := HF5.out
      have hn7 : ∀ b ∈ QF7, b ∈ QF ∨ w.heap.size ≤ b := fun b hb => by
       rcases HF7.out b hb with e | e
       ·exact H5.out b e
       ·exact .inr (by omega)
      have g7 : g2 ∉ QF7 := fun z => by
       rcases HF7.out _ z with e | e
       ·exact h2F e
       ·omega
      have HE := Lib.hid (Ex0.mk0 Rp Rn Rc Rg (by omega) g7 OR2 hn7 HON.out HXS.out (by omega) HEX.out (HS7.out.only OR (fun b hb z => by
       simp only [List.mem_cons, List.not_mem_nil, or_false] at hb z
       subst hb
       rcases z with z | z | z
       ·exact gt2 z.symm
       ·exact gm2 z.symm
       ·exact g7 z) (fun a e z => by
       simp only [List.mem_cons, List.not_mem_nil, or_false] at z
       exact HA2.out a e z)))
      clear OY OR2 h8s hn7 g7
      go_wp2_with fail
      go_roundw
      case rel => exact HE
      case measure =>
       have h1 := vfS Rc
       have h2 := HCW.out
       rw [h1, h2]
       omega
end

end Go.Proofs.YtgopnfacklmkaaaGreatDoor
