/- Lemmas and contracts for the theorem of this claim: SoH, SoJ, SoK, SoM, SoN, SoP, RqE, RqF. -/
import Derived.Test.YtgopnfacklmkaaaGreatDoorZyAz
import Derived.Deep.CutBlock
set_option linter.all false
set_option maxHeartbeats 16000000
namespace Go.Proofs.YtgopnfacklmkaaaGreatDoor
section
open Go.RowKit
theorem vff {l : Nat} {J : Act → World → Prop} {Q : Exit → Act → World → Prop} {a : Act} {w : World} (h : Q .normal a w) : Exit.jump l J Q .normal a w := h
def allV (bx : Nat) : Value := .func (.func 86) #[] #[.pointer (some ⟨bx, 0, none⟩)]
structure AllM (bx : Nat) (A : Option Addr) (c : Nat) (L : List Rt) (W : World) : Prop where
 bx : Blk W bx 171 #[.slice A L.length c]
 rd : Rd W 9 Rt.enc A L
def AllP (L : List Rt) (w : World) (e : Ending) (w' : World) : Prop := ∃ bx A c, e = .returned (allV bx) ∧ AllM bx A c L w' ∧ Kp w w' ∧ w.heap.size ≤ bx ∧ ∀ a, A = some a → w.heap.size ≤ a.block ∧ a.block < bx
theorem AllM.only {bx : Nat} {A : Option Addr} {c : Nat} {L : List Rt} {w w' : World} {bs : List Nat} (h : AllM bx A c L w) (k : Only bs w w') (hb : bx ∉ bs) (hA : ∀ a, A = some a → a.block ∉ bs) : AllM bx A c L w' :=
 ⟨h.bx.only k hb, fun i hi => by
  obtain ⟨b, off, e, hc⟩ := h.rd i hi
  exact ⟨b, off, e, fun j u hu => k.cell (hc j u hu) (show b ∉ bs from hA ⟨b, off, none⟩ e)⟩⟩
theorem vjg {w : World} {B n c : Nat} {A : Option Addr} {rs : List Rt} (h : Own w B 132 9 Rt.enc (.slice A n c) rs) : ∀ a, A = some a → B ≤ a.block ∧ a.block < w.heap.size := by
 rintro a rfl
 exact World.ownsRow.lt h a.block rfl
set_option maxRecDepth 100000 in
theorem vla (B t : Nat) (F : List Nat) (T : Tb) (w : World) (h : TabM w B t F T) : Calls Tryz.prog 31 #[.pointer (some ⟨t, 0, none⟩)] w (AllP T.l w) := by
 have HS := vgb B t F T 85 (fun _ => true) vga vhC w h
 rw [List.filter_eq_self.2 (fun _ _ => rfl)] at HS
 have HS2 := Lib.hid HS
 clear HS h
 have hmf := vbE
 obtain ⟨L, hL⟩ : ∃ L, T.l = L := ⟨_, rfl⟩
 rw [hL] at HS2 ⊢
 clear hL
 go_enter Tryz.func31, Tryz.ntmps31
 go_wp2_with fail
 refine HS2.out.mono ?_
 rintro e w1 ⟨v, rfl, hO, K1⟩
 obtain ⟨A, c, rfl, hR⟩ := hO.rd (by decide) Rt.len
 have hAl := Lib.hid (vjg hO)
 have HR := Lib.hid hR
 have hs := K1.size
 clear hO hR HS2
 go_wp2_with fail
 go_ret
 exact ⟨w1.heap.size, A, c, rfl, ⟨Blk.new w1 _ _, HR.out.keep ((Kp.refl _).alloc _)⟩, K1.alloc _, hs, hAl.out⟩
theorem vhE (args : Array Value) (w : World) : (callFunc 86 args).run Tryz.prog w = .ok (.enter 86 args) w := by kernel_rfl
def rtAt (L : List Rt) (k : Nat) : Rt := L.getD k zeroR
theorem vhF {L : List Rt} {k : Nat} (h : k < L.length) : rtAt L k = L[k] := by simp [rtAt, List.getD, h]
set_option maxRecDepth 100000 in
theorem vhG (bx : Nat) (A : Option Addr) (c : Nat) (L : List Rt) (hn : L.length ≤ 900000) :
  Iter Tryz.prog 86 #[.pointer (some ⟨bx, 0, none⟩)] L.length (fun k => #[.int .i64 (k : Nat), roV (rtAt L k)]) (AllM bx A c L) := by
 intro l I Z W hI hZ hM hy h0
 have HI := Lib.hid hI
 have HM := Lib.hid hM
 have HY := Lib.hid hy
 have D0 := HM.out 0 W h0
 have c0 : W.cell? ⟨bx, 0, none⟩ = some (.slice A L.length c) := D0.bx.cell 0
 have H0 := Lib.hid h0
 clear hI hZ hM hy h0 D0
 go_enter Tryz.func86, Tryz.ntmps86
 go_wp2_with fail
 refine vaa 0 rfl ?_
 go_wp2_with fail
 refine wp_label ?_
 go_wp2_with fail
 clear c0
 go_loopw [7] (fun i wr => ∃ k : Nat, k ≤ L.length ∧ i = .int .i64 k ∧ Hid (I k wr)) (fun i _ => L.length - (intOf i).toNat)
 case atStart => exact ⟨0, Nat.zero_le _, rfl, H0⟩
 case round =>
  obtain ⟨k, hk, rfl, hi⟩ := hrel
  by_cases hlt : k < L.length
  ·have hgi : (k : Int) < (L.length : Int) := by omega
   have hg0 : (0 : Int) ≤ (k : Int) := by omega
   have D := HM.out k wr hi.out
   obtain ⟨b, off, hA, s0, s1, s2, s3, s4, s5, s6, s7, s8⟩ := vhq D.rd hlt
   subst hA
   obtain ⟨r, hr⟩ : ∃ r, L[k] = r := ⟨_, rfl⟩
   rw [hr] at s0 s1 s2 s3 s4 s5 s6 s7 s8
   have Hr := Lib.hid (show rtAt L k = r by rw [vhF hlt, hr])
   obtain ⟨V, hV, bV, kV⟩ : ∃ V, wr.alloc (.cells (roC r) 132) = V ∧ Blk V wr.heap.size 132 (roC r) ∧ Kp wr V := ⟨_, rfl, Blk.new _ _ _, (Kp.refl _).alloc _⟩
   obtain ⟨n, hn0⟩ : ∃ n, wr.heap.size = n := ⟨_, rfl⟩
   rw [hn0] at bV
   have r0 := Blk.f bV rfl
   unfold roC at hV
   obtain ⟨fn, tmps, asg, bd, hrun, hround⟩ := HY.out k V hlt (HI.out k _ _ hi.out kV)
   rw [Hr.out] at hrun
   have HRN := Lib.hid hrun
   have HRO := Lib.hid hround
   clear hrun hround hr D kV bV
   go_upto_region 3 with (fail)
   refine (wpIn_wide (n := 0)).1 ?_
   gi_wp2_with fail
   rw [HRN.out, Oper.uponIn_round]
   refine ⟨(fun h => by cases h), HRO.out.mono ?_⟩
   clear s0 s1 s2 s3 s4 s5 s6 s7 s8 r0 hV
   rintro e W' (⟨rfl, hi2⟩ | ⟨rfl, hz⟩)
   ·have Hi2 := Lib.hid hi2; clear hi2
    gi_wp2_with fail
    go_wp2_with fail
    go_roundw
    case rel => exact ⟨k + 1, by omega, by go_num, Hi2⟩
    case measure => simp [intOf]; omega
   ·have Hz := Lib.hid hz; clear hz
    gi_wp2_with fail
    go_wp2_with fail
    refine vff ?_
    go_end0
    exact ⟨rfl, .inr ⟨k + 1, by omega, by omega, Hz.out⟩⟩
  ·obtain rfl : k = L.length := by omega
   go_wp2_with fail
   refine vff ?_
   go_end0
   exact ⟨rfl, .inl hi.out⟩
end

section
open Go.RowKit Go.Maps Go.Shelf
def MpS (w0 w : World) (m n : Nat) (f : Tk → Option Nat) : Prop := w0.heap.size ≤ m ∧ m < w.heap.size ∧ MpT w m n f
theorem MpS.mk {w0 w : World} {m n : Nat} {f : Tk → Option Nat} (h0 : w0.heap.size ≤ m) (h1 : m < w.heap.size) (h2 : MpT w m n f) : MpS w0 w m n f := ⟨h0, h1, h2⟩
def QCopyP (l : List Tw) (w : World) (e : Ending) (w' : World) : Prop := ∃ a bs, e = .returned (.pointer (some ⟨a, 0, none⟩)) ∧ QuS w' w.heap.size a bs l ∧ Kp w w'
theorem QCopyP.mk {l : List Tw} {w w4 : World} {v : Value} {m : Nat} {f : Tk → Option Nat} (O : Own w4 w.heap.size 337 4 Tw.enc v l) (M : MpT w4 m l.length f) (P : PlOf f l) (hm : w.heap.size ≤ m ∧ m < w4.heap.size) (k : Kp w w4) (wf : ∀ t ∈ l, t.tk.wf ∧ wfI t.d) (hp : Heap ltT (fT l) l.length) (k3 : ∀ y ∈ l, y.k = 3) :
  QCopyP l w (.returned (.pointer (some ⟨w4.heap.size + 1, 0, none⟩))) ((w4.alloc (.cells #[v, .map (some m)] 214)).alloc (.cells #[.pointer (some ⟨w4.heap.size, 0, none⟩)] 216)) := by
 have al : Kp w4 ((w4.alloc (.cells #[v, .map (some m)] 214)).alloc (.cells #[.pointer (some ⟨w4.heap.size, 0, none⟩)] 216)) := ((Kp.refl _).alloc _).alloc _
 have hs := k.size
 refine ⟨w4.heap.size + 1, (w4.heap.size + 1) :: w4.heap.size :: m :: v.ownBlock.toList, rfl, ⟨⟨w4.heap.size, m, v, Blk.new1 _ _ _ _, ⟨(Blk.new _ _ _).alloc _, O.keep al, ⟨f, ?_, P⟩, wf⟩, by simp, by simp, by simp, fun g hg => by simp [hg]⟩, fun b hb => ?_, hp, k3⟩, k.trans al⟩
 ·obtain ⟨D, ⟨es', clock, g1, g2⟩, h2, h3⟩ := M
  exact ⟨D, ⟨es', clock, (al.heap hm.2).trans g1, g2⟩, h2, h3⟩
 ·simp only [World.size_alloc]
  simp only [List.mem_cons, Option.mem_toList] at hb
  rcases hb with rfl | rfl | rfl | hb
  ·omega
  ·omega
  ·omega
  ·have := World.ownsRow.lt O b hb
   omega
end

section
open Go.RowKit Go.Maps
def TCopyP (T : Tb) (w : World) (e : Ending) (w' : World) : Prop := ∃ t F, e = .returned (.pointer (some ⟨t, 0, none⟩)) ∧ TabM w' w.heap.size t F T ∧ Kp w w'
theorem TCopyP.mk {T : Tb} {w w4 : World} {q mp m : Nat} {A : Option Addr} {QF : List Nat} {l : List Tw} (S : QuS w4 w.heap.size q QF l) (O : Own w4 w.heap.size 39 2 PI.enc (.slice A T.c.own.length m) T.c.own) (M : MapR w4 mp T.l) (hm : w.heap.size ≤ mp) (pm : l.Perm (armL T.l))
  (hmq : mp ∉ QF) (han : ∀ a, A = some a → a.block ∉ QF ∧ a.block ≠ mp) (K : Kp w w4) (u : UpR T.l) (wf : ∀ r ∈ T.l, wfP r.p) (n : T.l.length ≤ 900000) : TCopyP T w (.returned (.pointer (some ⟨w4.heap.size, 0, none⟩))) (w4.alloc (.cells (tbC q T A m mp) 125)) := by
 have al : Kp w4 (w4.alloc (.cells (tbC q T A m mp) 125)) := (Kp.refl _).alloc _
 exact ⟨w4.heap.size, _, rfl, ⟨q, mp, m, A, QF, l, rfl, Blk.new _ _ _, S.keep al, pm, M.keep al, O.keep al, fun e => by have := (S.lo _ e).2; omega, hmq, fun e => by have := M.lt; omega, fun a e => ⟨(han a e).1, fun z => by have := (vde O a e).2; omega, (han a e).2⟩, K.size, hm, u, wf, n⟩, K.trans al⟩
end

section
open Go.RowKit
set_option maxRecDepth 100000 in
theorem vjh (w : World) (a l b k : Int) : (binOp .neq 39 (.agg #[.int .u32 a, .int .i64 l]) (.agg #[.int .u32 b, .int .i64 k])).run Tryz.prog w = .ok (.bool (!(a == b && l == k))) w := by
 rw [run_neq_struct, run_equalIn_agg w 9999 _ _ _ Tryz.underlying39 (by kernel_rfl)]
 simp [Op.eqFields, part, go_sem, Tryz.underlying3, Tryz.underlying37]
 by_cases h1 : a = b <;> by_cases h2 : l = k <;> simp [h1, h2]
instance : DecidableEq Rt := fun a b => decidable_of_iff (a.p = b.p ∧ a.s = b.s ∧ a.m = b.m ∧ a.l = b.l ∧ a.f = b.f ∧ a.x = b.x ∧ a.d = b.d ∧ a.c = b.c) (by cases a; cases b; simp only [Rt.mk.injEq])
end

section
open Go.RowKit Go.Maps
set_option maxRecDepth 100000 in
theorem vhH (B t : Nat) (F : List Nat) (T : Tb) (w : World) (h : TabM w B t F T) : Calls Tryz.prog 128 #[.pointer (some ⟨t, 0, none⟩), .pointer none] w fun e w' => e = .returned (.bool false) ∧ Kp w w' := by
 obtain ⟨mp, hm, _⟩ := h.cellm
 clear h
 go_enter Tryz.func128, Tryz.ntmps128
 go_wp2_with (first | (go_at_call 55; first | ((with_reducible refine (vcn t mp _ hm).mono ?_); rintro e w' ⟨rfl, hw'⟩; rw [hw']; clear hw' w') | ((with_reducible refine (viV _).mono ?_); rintro e w' ⟨rfl, hw'⟩; rw [hw']; clear hw' w')))
 go_ret
 exact ⟨rfl, Kp.refl _⟩
abbrev BsR (w0 W : World) (v : Value) (qs : List Pc) (ls : List (List Nat)) : Prop := PcR 64 1 Pc.encB 1 byN w0 W v qs ls
set_option maxRecDepth 100000 in
theorem vhI (A : Option Addr) (m : Nat) (ps : List Pc) (ls : List (List En)) (w : World) (hW : WidAt w) (hR : Rd w 2 Pc.encD A ps) (hl : ps.length = ls.length) (hp : ∀ (i : Nat) (p : Pc) (l : List En), ps[i]? = some p → ls[i]? = some l → p.c = 2 ∧ p.n = l.length ∧ Rd w 6 En.enc p.A l ∧ (∀ e ∈ l, e.wf) ∧ encN 2 l = 0 ∧ l.length ≤ 1000) (hn : ps.length ≤ 900000) :
  Calls Tryz.prog 126 #[.slice A ps.length m, .func (.func 127) #[] #[]] w fun r w' => ∃ v qs, r = .returned v ∧ BsR w w' v qs (ls.map (bytesD 2)) := by
 have HP := Lib.hid hp
 have HR := Lib.hid hR
 have HW := Lib.hid hW
 have hcl := vfZ
 have HLL := Lib.hid hl
 have R0 : Hid (∃ qs, BsR w w (.slice none 0 0) qs ((ls.take 0).map (bytesD 2))) := Lib.hid ⟨[], by rw [List.take_zero]; exact PcR.nil (Kp.refl _)⟩
 clear hp hR hW hl
 go_enter Tryz.func126, Tryz.ntmps126
 go_wp2_with fail
 go_loopw [5, 7, 10] (fun v _ i wr => ∃ j : Nat, j ≤ ps.length ∧ i = .int .i64 j ∧ Hid (∃ qs, BsR w wr v qs ((ls.take j).map (bytesD 2)))) (fun _ _ i _ => ps.length - (intOf i).toNat)
 case atStart => exact ⟨0, Nat.zero_le _, rfl, R0⟩
 case round =>
  obtain ⟨j, hj, rfl, R⟩ := hrel
  obtain ⟨qs, hQ⟩ := R.out
  obtain ⟨Av, cv, hv⟩ := hQ.own.form
  subst hv
  by_cases hlt : j < ps.length
  ·have hj1 : (j : Int) < (ps.length : Int) := by omega
   have hj0 : (0 : Int) ≤ (j : Int) := by omega
   have hlt2 : j < ls.length := by have := HLL.out; omega
   obtain ⟨b, off, hA, s0, s1⟩ := dg_at (HR.out.keep hQ.kp) hlt
   subst hA
   obtain ⟨h1, h2, h3, h4, h5, h6⟩ := HP.out j ps[j] ls[j] (List.getElem?_eq_getElem hlt) (List.getElem?_eq_getElem hlt2)
   have hmap : (ls.take (j + 1)).map (bytesD 2) = (ls.take j).map (bytesD 2) ++ [bytesD 2 ls[j]] := by rw [List.take_succ_eq_append_getElem hlt2, List.map_append]; rfl
   obtain ⟨l, hx⟩ : ∃ l, ls[j] = l := ⟨_, rfl⟩
   obtain ⟨p, hpp⟩ : ∃ p, ps[j] = p := ⟨_, rfl⟩
   rw [hx] at h2 h3 h4 h5 h6 hmap
   rw [hpp] at s0 s1 h1 h2 h3
   rw [h1] at s0
   rw [h2] at s1
   obtain ⟨V, hV, kV, BV⟩ := Blk.al1 (w := wr) rfl #[.int .i64 2, .slice p.A l.length p.m] 30
   have y := Blk.f BV rfl
   have kwV := hQ.kp.trans kV
   have hql : qs.length = j := by rw [hQ.len, List.length_map, List.length_take]; omega
   have HC := Lib.hid (vhz 2 p.A p.m l V (HW.out.keep kwV) (h3.keep kwV) h4 (by omega) h5)
   have HQ := Lib.hid (hQ.keep kV)
   have HM := Lib.hid hmap
   have hfit : (qs.length + 1) * (24 + 1) ≤ 140737488355328 := by rw [hql]; omega
   have hbl : (bytesD 2 l).length ≤ 1000000 := by rw [vbI]; omega
   obtain ⟨bs, hbs⟩ : ∃ bs, bytesD 2 l = bs := ⟨_, rfl⟩
   rw [hbs] at HC HM hbl
   clear h1 h2 h3 h4 h5 h6 hmap hx hpp kV BV kwV hQ hql hbs R
   go_wp2_with fail
   refine HC.out.mono ?_
   rintro r w1 ⟨A2, m2, rfl, hO2, K1⟩
   have HO2 := Lib.hid hO2
   have HD1 := Lib.hid (HQ.out.keep K1)
   clear s0 s1 y hV K1 hO2
   go_wp2_with (at_builtin; go_must (refine vcu EBs Pc.encB_len Pc.oneB rfl _ _ rfl (⟨0, A2, bs.length, m2⟩ : Pc) rfl HD1.out.own HD1.out.kp.size rfl rfl rfl hfit ?_); intro v3 w3 hown3 hg3 hv3; obtain ⟨A3, c3, rfl⟩ := hown3.form)
   have D3 := HD1.out.push hown3 hg3 hv3 (l := bs) ⟨rfl, vex HO2.out⟩ (HO2.out.rdAt (by decide) vaN) (fun a ha => by
    have h1 := World.ownsRow.lt HO2.out a.block (by rw [show A2 = some a from ha]; rfl)
    refine ⟨Nat.le_trans HQ.out.kp.size h1.1, h1.2, fun z => ?_⟩
    have := (HQ.out.blk _ z).2
    omega)
   simp only [List.length_append, List.length_cons, List.length_nil, Nat.zero_add] at D3
   have HD3 := Lib.hid D3
   clear D3 hown3 hg3 hv3
   go_roundw
   case rel => exact ⟨j + 1, by omega, by go_num, Lib.hid ⟨_, by rw [HM.out]; exact HD3.out⟩⟩
   case measure => simp [intOf]; omega
  ·obtain rfl : j = ps.length := by omega
   rw [HLL.out, List.take_length] at hQ
   have HE := Lib.hid hQ
   clear hQ R
   go_wp2_with fail
   go_ret
   first | exact ⟨_, _, rfl, HE.out⟩ | exact ⟨_, rfl, _, HE.out⟩
theorem vdh (es : List En) : ∀ l ∈ piecesE es, l.length ≤ 25 ∧ ∀ e ∈ l, e ∈ es := by
 by_cases h : es = []
 ·subst h
  rw [vaC]
  intro l hl
  cases hl
 ·rw [van h]
  intro l hl
  rcases List.mem_cons.1 hl with rfl | hl
  ·exact ⟨by rw [List.length_take]; omega, fun e he => List.mem_of_mem_take he⟩
  ·obtain ⟨h1, h2⟩ := vdh (es.drop 25) l hl
   exact ⟨h1, fun e he => List.mem_of_mem_drop (h2 e he)⟩
termination_by es.length
decreasing_by
 have : 0 < es.length := List.length_pos_iff.2 h
 rw [List.length_drop]
 omega
theorem vhJ {l : List En} (h : l.length ≤ 25) (ho : ∀ e ∈ l, okEn e = true) : encN 2 l = 0 := by
 unfold encN
 rw [if_pos (by decide), if_pos h, if_pos (List.all_eq_true.2 ho)]
set_option maxRecDepth 100000 in
theorem vfg (A : Option Addr) (m : Nat) (es : List En) (w : World) (hW : WidAt w) (hR : Rd w 6 En.enc A es) (hw : ∀ e ∈ es, e.wf) (ho : es.all okEn = true) (hn : es.length ≤ 900000) (hm : es.length ≤ m) :
  Calls Tryz.prog 61 #[.slice A es.length m] w fun r w' => ∃ v qs, r = .returned v ∧ BsR w w' v qs ((piecesE es).map (bytesD 2)) := by
 have HC := Lib.hid (vih A m es w hW hR hw ho (by omega) hm)
 have HW := Lib.hid hW
 have HWF := Lib.hid hw
 have HOK : Hid (∀ e ∈ es, okEn e = true) := Lib.hid (List.all_eq_true.1 ho)
 unfold CutR CutP at HC
 clear hW hR hw ho
 go_enter Tryz.func61, Tryz.ntmps61
 go_wp2_with fail
 refine HC.out.mono ?_
 rintro r w1 ⟨v, rfl, ps, hP, hc⟩
 obtain ⟨Av, cv, hv⟩ := hP.own.form
 subst hv
 have hlen := hP.len
 have hpl := vcW es
 have HMD := Lib.hid (vhI Av cv ps (piecesE es) w1 (HW.out.keep hP.kp) (hP.own.rdAt (by decide) Pc.encD_len) hlen (fun i p l h1 h2 => by
  obtain ⟨a1, a2, _⟩ := hP.ent i p l h1 h2
  have hm := vdh es l (List.mem_of_getElem? h2)
  exact ⟨hc p (List.mem_of_getElem? h1), a1.1, a2, fun e he => HWF.out e (hm.2 e he), vhJ hm.1 (fun e he => HOK.out e (hm.2 e he)), by omega⟩) (by omega))
 have HK := Lib.hid hP.kp
 clear hP hc hlen hpl
 go_wp2_with fail
 refine HMD.out.mono ?_
 rintro r w2 ⟨v, qs, rfl, hQ⟩
 have HQ := Lib.hid (hQ.mono HK.out)
 clear hQ
 go_wp2_with fail
 go_ret
 exact ⟨_, _, rfl, HQ.out⟩
def ReFac (w : World) : Prop := w.cell? ⟨0, 0, none⟩ = some (.int .i64 0) ∧ w.cell? ⟨0, 1, none⟩ = some (.int .i64 15)
theorem ReFac.keep {w w' : World} (h : ReFac w) (k : Kp w w') : ReFac w' := ⟨k.cell h.1, k.cell h.2⟩
set_option maxRecDepth 100000 in
theorem vbq (B t : Nat) (F : List Nat) (T : Tb) (fc : Int) (w : World) (hT : TabM w B t F T) (hF : ReFac w) (h0 : 0 ≤ fc) (h1 : fc ≤ 15) : Calls Tryz.prog 62 #[.pointer (some ⟨t, 0, none⟩), .int .i64 fc] w fun e w' => e = .returned (looV t fc) ∧ Kp w w' := by
 obtain ⟨b, hb⟩ : ∃ b, w.heap.size = b := ⟨_, rfl⟩
 obtain ⟨W, hW, kW, B0⟩ := Blk.al1 hb #[.pointer none, .int .i64 0] 141
 have HB0 := Lib.hid B0
 have HS := Lib.hid (vhH B t F T W (hT.keep kW))
 have HFA := Lib.hid (hF.keep kW)
 have HK := Lib.hid kW
 have d0 : decide (fc < 0) = false := by rw [decide_eq_false_iff_not]; omega
 have d1 : decide (15 < fc) = false := by rw [decide_eq_false_iff_not]; omega
 have hbs : w.heap.size ≤ b := by omega
 clear B0 kW hT hF
 go_enter Tryz.func62, Tryz.ntmps62
 go_upto_region 2 with (first | (go_at_call 128; refine HS.out.mono ?_; rintro e w1 ⟨rfl, K1⟩; have c0 := (HFA.out.keep K1).1; have c1 := (HFA.out.keep K1).2; have y := Blk.f (HB0.out.keep K1) rfl; have f := Blk.frozen (HB0.out.keep K1); have B9 := Lib.hid (((HB0.out.keep K1).set_ 0 (.pointer (some ⟨t, 0, none⟩))).set_ 1 (.int .i64 fc)); have HK1 := Lib.hid (((HK.out.trans K1).setCell (p := ⟨b, 0, none⟩) hbs (.pointer (some ⟨t, 0, none⟩))).setCell (p := ⟨b, 1, none⟩) hbs (.int .i64 fc)); clear K1 hW))
 go_wp2_with fail
 have v := Blk.f (l := [.pointer (some ⟨t, 0, none⟩), .int .i64 fc]) B9.out rfl
 exact bodyPost_ret (v := looV t fc) (by simp [results, Tryz.results62, go_sem, v]) rfl ⟨rfl, HK1.out⟩
def isReqB (c : Int) (es : List En) : Bool := (encN c es == 0) && (c == 1)
set_option maxRecDepth 100000 in
theorem vek (c : Int) (A : Option Addr) (m : Nat) (es : List En) (w : World) (hW : WidAt w) (hR : Rd w 6 En.enc A es) (hw : ∀ e ∈ es, e.wf) (hn : es.length ≤ 1000000) : Calls Tryz.prog 45 #[dgV c A es.length m] w fun r w' => r = .returned (.bool (isReqB c es)) ∧ Kp w w' := by
 obtain ⟨b, hb⟩ : ∃ b, w.heap.size = b := ⟨_, rfl⟩
 obtain ⟨W, hWq, kW, B0⟩ := Blk.al1 hb #[.int .i64 c, .slice A es.length m] 30
 have u := Blk.f B0 rfl
 have HX := Lib.hid (vcT c A m es W (hW.keep kW) (hR.keep kW) hw hn)
 have HB0 := Lib.hid B0
 have HK := Lib.hid kW
 unfold EncP at HX
 obtain ⟨n, hn2⟩ : ∃ n, encN c es = n := ⟨_, rfl⟩
 have HI : Hid (isReqB c es = ((n == 0) && (c == 1))) := Lib.hid (by unfold isReqB; rw [hn2])
 rw [hn2] at HX
 clear hW hR hw B0 kW hn2
 cases h1 : (n == 0)
 all_goals
  rw [h1] at HI
  go_enter Tryz.func45, Tryz.ntmps45
  go_wp2_with (first | (go_at_call 112; refine HX.out.mono ?_; rintro r w1 ⟨v, rfl, -, -, K1⟩; have v1 := Blk.f (HB0.out.keep K1) rfl; have HK1 := Lib.hid (HK.out.trans K1); clear u K1 hWq))
  go_ret
  exact ⟨by rw [HI.out]; rfl, HK1.out⟩
def m1 (e : En) : En := ⟨e.f, e.t, e.a, e.m, e.n, 1⟩
theorem m1_wf {e : En} (h : e.wf) : (m1 e).wf := ⟨h.1, h.2.1, h.2.2.1, (by decide : (1 : Nat) < 4294967296)⟩
def askF (x : En × Nat) : Option (PI × Nat) := if epN (m1 x.1) = 0 then some (epP (m1 x.1), x.2) else none
def asksL (es : List En) : List (PI × Nat) := es.zipIdx.filterMap askF
theorem vhK {es : List En} {k : Nat} (h : k < es.length) : asksL (es.take (k + 1)) = asksL (es.take k) ++ (if epN (m1 es[k]) = 0 then [(epP (m1 es[k]), k)] else []) := by
 have e : k = 0 + (es.take k).length := by rw [List.length_take]; omega
 unfold asksL
 rw [List.take_succ_eq_append_getElem h, List.zipIdx_append, List.filterMap_append, ← e]
 congr 1
 rw [List.zipIdx_cons, List.zipIdx_nil, List.filterMap_cons, List.filterMap_nil]
 unfold askF
 by_cases h0 : epN (m1 es[k]) = 0
 ·rw [if_pos h0, if_pos h0]
 ·rw [if_neg h0, if_neg h0]
theorem vfh (es : List En) : (asksL es).length ≤ es.length := by
 unfold asksL
 have := List.length_filterMap_le askF es.zipIdx
 rwa [List.length_zipIdx] at this
theorem EAk : ElemOf Tryz.prog 112 116 (.agg #[.int .u32 0, .int .i64 0, .int .i64 0]) 3 24 := ⟨Tryz.underlying112, by kernel_rfl, rfl, by decide⟩
set_option maxRecDepth 100000 in
theorem vel (c : Int) (A : Option Addr) (m : Nat) (es : List En) (w : World) (hR : Rd w 6 En.enc A es) (hw : ∀ e ∈ es, e.wf) (hn : es.length ≤ 900000) : Calls Tryz.prog 47 #[dgV c A es.length m] w fun r w' => ∃ A2 m2, r = .returned (.slice A2 (asksL es).length m2) ∧ Own w' w.heap.size 116 3 akE (.slice A2 (asksL es).length m2) (asksL es) ∧ Kp w w' := by
 obtain ⟨b, hb⟩ : ∃ b, w.heap.size = b := ⟨_, rfl⟩
 obtain ⟨W, hWq, kW, B0⟩ := Blk.al1 hb #[.int .i64 c, .slice A es.length m] 30
 have u := Blk.f B0 rfl
 have HR := Lib.hid (hR.keep kW)
 have HWF := Lib.hid hw
 have HKW := Lib.hid kW
 have R0 : Hid (Own W W.heap.size 116 3 akE (.slice none 0 0) (asksL (es.take 0)) ∧ Kp W W) := Lib.hid ⟨by rw [List.take_zero]; exact Own.nil _ _ _ _ _, Kp.refl _⟩
 clear hR hw B0 kW
 go_enter Tryz.func47, Tryz.ntmps47
 go_wp2_with fail
 clear hWq u
 go_loopw [3, 4, 5, 6, 7, 11] (fun v _ _ _ _ i wr => ∃ j : Nat, j ≤ es.length ∧ i = .int .i64 j ∧ Hid (Own wr W.heap.size 116 3 akE v (asksL (es.take j)) ∧ Kp W wr)) (fun _ _ _ _ _ i _ => es.length - (intOf i).toNat)
 case atStart => exact ⟨0, Nat.zero_le _, rfl, R0⟩
 case round =>
  obtain ⟨j, hj, rfl, R⟩ := hrel
  obtain ⟨Av, cv, hv⟩ := R.out.1.form
  subst hv
  by_cases hlt : j < es.length
  ·have hj1 : (j : Int) < (es.length : Int) := by omega
   have hj0 : (0 : Int) ≤ (j : Int) := by omega
   obtain ⟨g, off, hA, x0, x1, x2, x3, x4, x5⟩ := en_at (HR.out.keep R.out.2) hlt
   subst hA
   have hst := vhK hlt
   have hal := vfh (es.take j)
   have hmj : (es.take j).length = j := by rw [List.length_take]; omega
   have hwf := m1_wf (HWF.out es[j] (List.getElem_mem hlt))
   obtain ⟨e, he⟩ : ∃ e, es[j] = e := ⟨_, rfl⟩
   rw [he] at x0 x1 x2 x3 x4 x5 hst hwf
   rw [hmj] at hal
   obtain ⟨V, hV, kV, BV⟩ := Blk.al1 (w := wr) rfl (enC e) 66
   unfold enC at hV BV
   have y := Blk.f BV rfl
   have fz := Blk.frozen BV
   obtain ⟨V1, hV1, BV1, kV1⟩ : ∃ R, V.setCell ⟨wr.heap.size, 5, none⟩ (.int .u32 1) = R ∧ Blk R wr.heap.size 66 (enC (m1 e)) ∧ Kp wr R := ⟨_, rfl, BV.set_ 5 (.int .u32 1), kV.setCell (p := ⟨wr.heap.size, 5, none⟩) (Nat.le_refl _) _⟩
   unfold enC at BV1
   obtain ⟨e1, he1⟩ : ∃ e1, m1 e = e1 := ⟨_, rfl⟩
   rw [he1] at hst hwf BV1
   have y1 := Blk.f BV1 rfl
   have HP := Lib.hid (vev e1 V1 hwf)
   obtain ⟨p, hp⟩ : ∃ p, epP e1 = p := ⟨_, rfl⟩
   obtain ⟨n, hnn⟩ : ∃ n, epN e1 = n := ⟨_, rfl⟩
   rw [hp, hnn] at HP hst
   have HST := Lib.hid hst
   have HOV := Lib.hid (R.out.1.keep kV1)
   have HKV := Lib.hid (R.out.2.trans kV1)
   have hfit : ((asksL (es.take j)).length + 1) * (24 + 1) ≤ 140737488355328 := by omega
   obtain ⟨acc, hacc⟩ : ∃ acc, asksL (es.take j) = acc := ⟨_, rfl⟩
   rw [hacc] at HST HOV hfit
   rw [hacc]
   clear he he1 hp hnn hst hal hmj hwf kV BV BV1 kV1 hacc
   have hWAY : (n == 0) = true ∨ (n == 0) = false := by cases (n == 0) <;> simp
   rcases hWAY with hb0 | hb0
   ·have hn0 : n = 0 := beq_iff_eq.1 hb0
    have HNX : Hid (asksL (es.take (j + 1)) = acc ++ [(p, j)]) := Lib.hid (by rw [HST.out, if_pos hn0])
    clear hn0
    go_wp2_with fail
    refine HP.out.mono ?_
    rintro r w1 ⟨rfl, K1⟩
    obtain ⟨z1, hz1⟩ : ∃ z1, w1.heap.size = z1 := ⟨_, rfl⟩
    obtain ⟨X, hX, kX, BX⟩ := Blk.al1 hz1 #[.int .u32 (p.a : Int), .int .i64 p.l] 39
    have xx := Blk.f BX rfl
    have HOX := Lib.hid ((HOV.out.keep K1).keep kX)
    have HKX := Lib.hid (HKV.out.trans (K1.trans kX))
    have hbase : W.heap.size ≤ X.heap.size := HKX.out.size
    clear x0 x1 x2 x3 x4 x5 y y1 fz hV hV1 K1 kX BX
    go_wp2_with (at_builtin; go_must (refine vai EAk rfl _ _ rfl (p, j) rfl HOX.out HKX.out (Nat.le_refl _) hbase rfl rfl rfl rfl rfl hfit ?_); intro v3 w3 hown3 hK3 hg3; obtain ⟨A3, c3, rfl⟩ := hown3.form1; have HO3 := Lib.hid hown3; have HK3 := Lib.hid hK3; clear hown3 hK3 hg3)
    go_roundw
    case rel => exact ⟨j + 1, by omega, by go_num, Lib.hid ⟨by rw [HNX.out]; exact HO3.out, HK3.out⟩⟩
    case measure => simp [intOf]; omega
   ·have hn0 : ¬ n = 0 := fun h => by rw [h] at hb0; simp at hb0
    have HNX : Hid (asksL (es.take (j + 1)) = acc) := Lib.hid (by rw [HST.out, if_neg hn0, List.append_nil])
    clear hn0
    go_wp2_with fail
    refine HP.out.mono ?_
    rintro r w1 ⟨rfl, K1⟩
    have HOX := Lib.hid ((HOV.out.keep K1).alloc (.cells #[.int .u32 (p.a : Int), .int .i64 p.l] 39))
    have HKX := Lib.hid ((HKV.out.trans K1).alloc (.cells #[.int .u32 (p.a : Int), .int .i64 p.l] 39))
    clear x0 x1 x2 x3 x4 x5 y y1 fz hV hV1 K1
    go_wp2_with fail
    go_roundw
    case rel => exact ⟨j + 1, by omega, by go_num, Lib.hid ⟨by rw [HNX.out]; exact HOX.out, HKX.out⟩⟩
    case measure => simp [intOf]; omega
  ·obtain rfl : j = es.length := by omega
   have hlast := R.out
   rw [List.take_length] at hlast
   have HE := Lib.hid hlast
   have hle : (asksL (es.take es.length)).length = (asksL es).length := by rw [List.take_length]
   rw [hle]
   clear hlast hle
   go_wp2_with fail
   go_ret
   exact ⟨_, _, rfl, HE.out.1.mono HKW.out.size, HKW.out.trans HE.out.2⟩
end

section
open Go.RowKit Go.Maps
attribute [local go_sem] Oper.semAt_some
def GthR (b n1 : Nat) (xs : List Rt) (w1 : World) (k : Nat) (W : World) : Prop := ∃ v, Blk W b 81 #[v] ∧ Own W (n1 + 2) 52 9 Rt.enc v (xs.take k) ∧ Only [b] w1 W
section
variable {b n1 k : Nat} {ps : List Rt} {w1 W W' : World}
theorem GthR.turn (h : GthR b n1 ps w1 k W) (hO : Only [n1, n1 + 1] W W') (hn : w1.heap.size = n1) (hb : b < n1) : GthR b n1 ps w1 k W' := by
 obtain ⟨v, h0, h1, h2⟩ := h
 exact ⟨v, h0.only hO (by simp; omega), h1.only hO (by simp), hO.os.trans h2.os, hO.tape.trans h2.tape, hO.output.trans h2.output, Nat.le_trans h2.size hO.size, fun i hi hx => (hO.block i (Nat.lt_of_lt_of_le hi h2.size) (by simp; omega)).trans (h2.block i hi hx)⟩
theorem GthR.keep (h : GthR b n1 ps w1 k W) (K : Kp W W') : GthR b n1 ps w1 k W' := by
 obtain ⟨v, h0, h1, h2⟩ := h
 exact ⟨v, h0.keep K, h1.keep K, h2.trans (Only.of_kp K)⟩
theorem GthR.push {V W5 : World} {v v' : Value} {p : Rt} (h0 : Blk W b 81 #[v]) (h1 : Own W (n1 + 2) 52 9 Rt.enc v (ps.take k)) (h2 : Only [b] w1 W) (K : Kp W V) (hg : V.grownBy W5 v.ownBlock) (ho : Own W5 (n1 + 2) 52 9 Rt.enc v' (ps.take k ++ [p]))
  (hk : k < ps.length) (hp : ps[k] = p) (hn : w1.heap.size = n1) (hb : b < n1) (hs : n1 + 1 < W.heap.size) :
  Kept2 w1 W (W5.setCell ⟨b, 0, none⟩ v') ∧ GthR b n1 ps w1 (k + 1) (W5.setCell ⟨b, 0, none⟩ v') := by
 have hw : W.heap.size ≤ V.heap.size := K.size
 have e : ∀ i, i < n1 + 2 → W5.heap[i]? = W.heap[i]? := fun i hi => (hg.block i (by omega) (fun z => h1.ne hi z)).trans (K.heap (by omega))
 have B5 : Blk W5 b 81 #[v] := (e b (by omega)).trans h0
 refine ⟨⟨?_, ?_⟩, v', by simpa using B5.set_ 0 v', ?_, ?_⟩
 ·rw [hn]
  exact (Below.heap_setCell _ _ _ _ (by show n1 ≠ b; omega)).trans (e n1 (by omega))
 ·rw [hn]
  exact (Below.heap_setCell _ _ _ _ (by show n1 + 1 ≠ b; omega)).trans (e (n1 + 1) (by omega))
 ·rw [List.take_succ_eq_append_getElem hk, hp]
  exact ho.setBelow (p := ⟨b, 0, none⟩) (by show b < n1 + 2; omega) _
 ·have k5 : Only [b] w1 W5 := (h2.trans (Only.of_kp K)).grown hg (fun r hr => by have := (World.ownsRow.lt h1 r hr).1; omega)
  exact k5.setCell (p := ⟨b, 0, none⟩) (.inl (by simp)) _
end
set_option maxRecDepth 100000 in
theorem vca (B t : Nat) (F : List Nat) (T : Tb) (fc : Int) (w : World) (hT : TabM w B t F T) (hx : ∀ r ∈ T.l, r.p.a < 4294967296 ∧ r.x < 4294967296) :
  Calls Tryz.prog 63 #[looV t fc, .bool false] w fun r w' => ∃ A2 m2, r = .returned (.slice A2 T.l.length m2) ∧ Own w' w.heap.size 66 6 En.enc (.slice A2 T.l.length m2) (T.l.map (entE fc)) ∧ Kp w w' := by
 obtain ⟨b, hb⟩ : ∃ b, w.heap.size = b := ⟨_, rfl⟩
 obtain ⟨V, hV, kV, B0, BV⟩ := Blk.al2 hb #[.pointer (some ⟨t, 0, none⟩), .int .i64 fc] 141 #[.slice none 0 0] 81
 obtain ⟨b2, hb2⟩ : ∃ b2, b + 1 = b2 := ⟨_, rfl⟩
 rw [hb2] at BV
 have u := Blk.f B0 rfl
 have hTn : T.l.length ≤ 900000 := by obtain ⟨_, _, _, _, _, _, _, X⟩ := hT; exact X.n
 have HAL := Lib.hid (vla B t F T V (hT.keep kV))
 unfold AllP at HAL
 obtain ⟨ps, hps⟩ : ∃ ps, T.l = ps := ⟨_, rfl⟩
 rw [hps] at HAL hTn hx ⊢
 have HXX := Lib.hid hx
 have HKV := Lib.hid kV
 have HB0 := Lib.hid B0
 have HBV := Lib.hid BV
 have hbV := BV.lt
 clear hT hx B0 BV kV hps
 refine calls_of_wp_marks Tryz.func63 rfl ?_
 simp only [Tryz.ntmps63, List.size_toArray, List.length_cons, List.length_nil, Nat.reduceAdd, Nat.reduceSub, Array.replicate_succ, Array.replicate_zero, List.push_toArray, List.append_toArray, List.nil_append, List.cons_append]
 go_wp2_with fail
 refine HAL.out.mono ?_
 rintro r w4 ⟨bx, A4, c4, rfl, hM4, K4, hbx, hA4⟩
 obtain ⟨n1, hn1⟩ : ∃ n1, w4.heap.size = n1 := ⟨_, rfl⟩
 have hVn : V.heap.size ≤ n1 := by have := K4.size; omega
 have hbn : b2 < n1 := by omega
 have HIT := Lib.hid (vhG bx A4 c4 ps hTn)
 have I0 : Hid (GthR b2 n1 ps w4 0 w4) := Lib.hid ⟨_, HBV.out.keep K4, by rw [List.take_zero]; exact Own.nil _ _ _ _ _, Only.refl _ _⟩
 have HMI : Hid (∀ k V, GthR b2 n1 ps w4 k V → AllM bx A4 c4 ps V) := Lib.hid (fun k V h => by
  obtain ⟨v, h0, h1, h2⟩ := h
  exact hM4.only h2 (by simp; omega) (fun a ha => by have := hA4 a ha; simp; omega))
 have HK4 := Lib.hid (HKV.out.trans K4)
 have HB4 := Lib.hid (HB0.out.keep K4)
 clear hM4 hA4 K4 hV u
 unfold allV
 go_wp2_with fail
 refine vaU (N := ps.length) rfl vhE HIT.out (fun _ _ => rfl) (GthR b2 n1 ps w4) (fun _ _ => False) (GthR b2 n1 ps w4 ps.length) ?_ (fun _ _ _ h => h.elim) HMI.out I0.out (fun _ h => h) (fun _ _ _ _ h => h.elim) ?_ ?_
 ·intro q V1 V2 h hO
  rw [hn1] at hO
  exact h.turn hO hn1 hbn
 ·rintro lp q V1 hq h hsV
  rw [hn1] at hsV
  rw [vhF hq]
  obtain ⟨r, hr⟩ : ∃ r, ps[q] = r := ⟨_, rfl⟩
  have HPK := Lib.hid hr
  rw [hr]
  have HBX := Lib.hid (Blk.new V1 52 (roC r))
  have HJ := Lib.hid (h.keep ((Kp.refl V1).alloc (.cells (roC r) 52)))
  clear h hr
  gi_wp2_with fail
  refine ⟨⟨by rw [hn1]; exact Below.heap_alloc V1 _ _ (by omega), by rw [hn1]; exact Below.heap_alloc V1 _ _ (by omega)⟩, (fun V9 => GthR b2 n1 ps w4 q V9 ∧ Blk V9 V1.heap.size 52 (roC r)), ⟨HJ.out, HBX.out⟩, ?_, ?_⟩
  ·rintro V8 V9 ⟨j1, j2⟩ hO
   rw [hn1] at hO
   exact ⟨j1.turn hO hn1 hbn, j2.only hO (by simp; omega)⟩
  rintro U ⟨⟨v, u0, u1, u2⟩, j2⟩ hU
  rw [hn1] at hU
  have y := Blk.f (l := [.int .u32 (r.p.a : Int), .int .i64 r.p.l, .int .i64 r.s, .int .i64 r.m, .int .i64 r.l, .int .i64 r.f, .int .u32 (r.x : Int), .int .i64 r.d, .bool r.c]) j2 rfl
  have x0 := Blk.f u0 rfl
  have HU0 := Lib.hid u0
  have HU1 := Lib.hid u1
  have HU2 := Lib.hid u2
  have hlen : (ps.take q).length = q := by rw [List.length_take]; omega
  have hbase : n1 + 2 ≤ U.heap.size := by omega
  have hfit : ((ps.take q).length + 1) * (72 + 1) ≤ 140737488355328 := by rw [hlen]; omega
  clear u0 u1 u2 j2
  refine wpIn_block ?_
  gi_wp2_with (gi_at_builtin; go_must (refine vdt ERtR Rt.len Rt.one rfl _ _ rfl r rfl HU1.out hbase rfl rfl rfl hfit ?_); intro v5 W5 hown5 hg5 hob5; obtain ⟨A5, c5, rfl⟩ := hown5.form1; have B5 := (HU0.out.grown hg5 (HU1.out.ne (by omega))); have zz := Blk.frozen B5; have yy := Blk.f B5 rfl; have HG5 := Lib.hid hg5; have HO5 := Lib.hid hown5; clear hg5 hown5 hob5)
  have HO6 := HO5.out
  rw [hlen] at HO6
  exact GthR.push HU0.out HU1.out HU2.out (Kp.refl _) HG5.out HO6 hq HPK.out hn1 hbn hU
 ·rintro V1 ⟨v, h0, h1, h2⟩ hd
  rw [hn1] at hd
  rw [List.take_length] at h1
  obtain ⟨A5, c5, hv⟩ := h1.form
  subst hv
  have x0 := Blk.f h0 rfl
  have x1 := Blk.f (HB4.out.only h2 (by simp; omega)) rfl
  have HD := Lib.hid hd
  have HK1 : Hid (Kp w V1) := Lib.hid (h2.kp HK4.out (fun x hx => by simp only [List.mem_cons, List.not_mem_nil, or_false] at hx; omega))
  have HMD := Lib.hid (vhw t fc (entE fc) A5 c5 ps V1 (h1.rdAt (by decide) Rt.len) (fun x hx W _ => vfd t fc x W (HXX.out x hx).1 (HXX.out x hx).2) hTn)
  clear h0 h1 h2 hd
  go_wp2_with fail
  refine HMD.out.mono ?_
  rintro r w6 ⟨A6, m6, rfl, hO6, K6⟩
  have hd6 : w6.heap[n1]? = some (.deferred (some [])) := (K6.heap (Array.getElem?_eq_some_iff.1 HD.out).1).trans HD.out
  have HD6 := Lib.hid hd6
  have HO6 := Lib.hid hO6
  have HK6 := Lib.hid (HK1.out.trans K6)
  have hn6 : n1 < V1.heap.size := (Array.getElem?_eq_some_iff.1 HD.out).1
  have hw1 := HK1.out.size
  clear hO6 K6 hd6
  go_wp2_with fail
  (try rw [hn1])
  refine vbL HD6.out (fun W' hO => ?_)
  refine ⟨.slice A6 ps.length m6, ?_, A6, m6, rfl, (HO6.out.only hO (by simp; omega)).mono (by omega), hO.kp HK6.out (by simp; omega)⟩
  simp [results, Tryz.results63, go_sem]
theorem vdJ (w : World) : (Instr.typeAssert .nilIface 20 137 true).run Tryz.prog w = .ok (.tuple #[.int .i64 0, .bool false]) w := by kernel_rfl
set_option maxRecDepth 100000 in
theorem vhL (p0 p1 : Value) (w : World) :
  CallsD Tryz.prog 101 #[p0, p1] .returning w fun en u' w' => en = .returned (.tuple #[]) ∧ u' = .returning ∧ w' = w := by
 have hty := vdJ
 refine vah _ _ vbP Tryz.func101 rfl rfl rfl ?_
 simp only [Tryz.ntmps101, Act.put, List.size_toArray, List.length_cons, List.length_nil, Nat.reduceAdd, Nat.reduceSub, Array.replicate_succ, Array.replicate_zero, List.push_toArray, List.append_toArray, List.nil_append, List.cons_append]
 go_wp2_with fail
 go_end0
 exact ⟨rfl, trivial, rfl⟩
set_option maxRecDepth 100000 in
theorem vhM (p0 p1 : Value) (w : World) :
  CallsD Tryz.prog 60 #[p0, p1] .returning w fun en u' w' => en = .returned (.tuple #[]) ∧ u' = .returning ∧ w' = w := by
 have hty := vdJ
 refine vah _ _ vbP Tryz.func60 rfl rfl rfl ?_
 simp only [Tryz.ntmps60, Act.put, List.size_toArray, List.length_cons, List.length_nil, Nat.reduceAdd, Nat.reduceSub, Array.replicate_succ, Array.replicate_zero, List.push_toArray, List.append_toArray, List.nil_append, List.cons_append]
 go_wp2_with fail
 go_end0
 exact ⟨rfl, trivial, rfl⟩
set_option maxRecDepth 100000 in
theorem vhN (p0 p1 : Value) (w : World) :
  CallsD Tryz.prog 102 #[p0, p1] .returning w fun en u' w' => en = .returned (.tuple #[]) ∧ u' = .returning ∧ w' = w := by
 have hty := vdJ
 refine vah _ _ vbP Tryz.func102 rfl rfl rfl ?_
 simp only [Tryz.ntmps102, Act.put, List.size_toArray, List.length_cons, List.length_nil, Nat.reduceAdd, Nat.reduceSub, Array.replicate_succ, Array.replicate_zero, List.push_toArray, List.append_toArray, List.nil_append, List.cons_append]
 go_wp2_with fail
 go_end0
 exact ⟨rfl, trivial, rfl⟩
theorem vhO {p : PI} {m : Int} (h : p.a < 4294967296) (hl : 0 ≤ p.l ∧ p.l ≤ 32) : (ofE p m).wf ∧ okEn (ofE p m) = true := by
 unfold ofE
 split
 ·rename_i h0
  have hm : 1 ≤ m ∧ m ≤ 16 := by
   unfold ofN at h0
   split at h0
   ·rename_i h1
    simp only [Bool.and_eq_true, decide_eq_true_eq] at h1
    exact h1.2
   ·cases h0
  refine ⟨⟨h, show maskN p.l.toNat < 4294967296 from vbv _, (by decide : (0 : Nat) < 4294967296), ?_⟩, rfl⟩
  show m.toNat < 4294967296
  omega
 ·exact ⟨⟨by decide, by decide, by decide, by decide⟩, by decide⟩
end

end Go.Proofs.YtgopnfacklmkaaaGreatDoor
