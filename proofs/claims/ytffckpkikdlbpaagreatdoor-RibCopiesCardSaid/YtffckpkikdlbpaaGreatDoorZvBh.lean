/- Lemmas and contracts for the theorem of this claim: RxE. -/
import Derived.Test.YtffckpkikdlbpaaGreatDoorZvBg
set_option linter.all false
set_option maxHeartbeats 16000000
namespace Go.Proofs.YtffckpkikdlbpaaGreatDoor
section
open Go.RowKit Go.Maps
theorem vnb {w : World} {B n c : Nat} {A : Option Addr} {rs : List Rt} (h : Own w B 87 9 Rt.enc (.slice A n c) rs) : ∀ a, A = some a → B ≤ a.block ∧ a.block < w.heap.size := by
 rintro a rfl
 exact World.ownsRow.lt h a.block rfl
theorem CapAt.onlyF {w w' : World} {bs : List Nat} (h : CapAt w) (k : Only bs w w') (hn : 1 ∉ bs) : CapAt w' := ⟨k.cell h.1 hn, k.cell h.2 hn⟩
def validL (L : List Rt) : List Rt := L.filter (fun r => r.s == 2)
theorem vbG (c : Cf) (f now : Int) : ∀ (L : List Rt) (s : List Rt × Int), L.foldl (loseG c f now) s = (validL L).foldl (loseG c f now) s
 | [], _ => rfl
 | x :: L, s => by
  unfold validL
  rw [List.filter_cons]
  by_cases h : x.s = 2
  ·rw [if_pos (by simp [h]), List.foldl_cons, List.foldl_cons]
   exact vbG c f now L _
  ·rw [if_neg (by simp [h]), List.foldl_cons, show loseG c f now s x = s by unfold loseG; rw [if_neg (fun e => h e.1)]]
   exact vbG c f now L s
def lostA (T : Tb) (f : Int) (i : Nat) : List Rt × Int := ((validL T.l).take i).foldl (loseG T.c f T.now) (T.l, 0)
theorem vbH {T : Tb} {f : Int} {i : Nat} (h : i < (validL T.l).length) : lostA T f (i + 1) = loseG T.c f T.now (lostA T f i) (validL T.l)[i] := by
 unfold lostA
 rw [List.take_succ_eq_append_getElem h, List.foldl_append]
 rfl
theorem veY {T : Tb} {f : Int} : ∀ i, 0 ≤ (lostA T f i).2 ∧ (lostA T f i).2 ≤ i
 | 0 => by unfold lostA; rw [List.take_zero]; exact ⟨Int.le_refl _, Int.le_refl _⟩
 | i + 1 => by
  have ih := veY (T := T) (f := f) i
  by_cases h : i < (validL T.l).length
  ·rw [vbH h]
   unfold loseG
   split
   ·show 0 ≤ (lostA T f i).2 + 1 ∧ (lostA T f i).2 + 1 ≤ ((i + 1 : Nat) : Int)
    omega
   ·omega
  ·have : lostA T f (i + 1) = lostA T f i := by
    unfold lostA
    rw [List.take_of_length_le (by omega), List.take_of_length_le (by omega)]
   rw [this]
   omega
theorem vli {T : Tb} (h : TbOk T) (f : Int) : ∀ i, TbOk ⟨T.c, (lostA T f i).1, T.now, T.rf⟩ ∧ (∀ x ∈ validL T.l, ∃ y, getR x.p (lostA T f i).1 = some y) := by
 have hv : ∀ x ∈ validL T.l, x ∈ T.l ∧ x.s = 2 := fun x hx => by
  have := List.mem_filter.1 hx
  exact ⟨this.1, by simpa using this.2⟩
 intro i
 induction i with
 | zero =>
  unfold lostA
  rw [List.take_zero]
  exact ⟨h, fun x hx => ⟨x, vay h.u (hv x hx).1⟩⟩
 | succ i ih =>
  by_cases hi : i < (validL T.l).length
  ·rw [vbH hi]
   obtain ⟨h1, h2⟩ := ih
   have hm := List.getElem_mem hi
   obtain ⟨y, hy⟩ := h2 _ hm
   unfold loseG
   split
   ·have hr2 := vcC h.c (h.r _ (hv _ hm).1).1 (now := T.now) (by rw [okNow, vaa]; exact h.t)
    have hs : (loseR T.c (validL T.l)[i] T.now).s ≠ 0 := by unfold loseR; rw [if_pos (hv _ hm).2]; exact (by decide : (3 : Int) ≠ 0)
    refine ⟨h1.put (vas hy).1 (by rw [vig, (vas hy).2]) hr2 h.t h.f, fun x hx => ?_⟩
    obtain ⟨v, hv2⟩ := h2 x hx
    exact vcl h1.u hs hv2
   ·exact ⟨h1, h2⟩
  ·have : lostA T f (i + 1) = lostA T f i := by
    unfold lostA
    rw [List.take_of_length_le (by omega), List.take_of_length_le (by omega)]
   rw [this]
   exact ih
theorem vlK {c : Cf} {r : Rt} {now : Int} (h : r.x < 4294967296) : (loseR c r now).x < 4294967296 := by
 unfold loseR lostR
 split <;> exact h
structure LsI (w0 : World) (B t : Nat) (F : List Nat) (pt pf pn pc : Nat) (T : Tb) (f : Int) (A : Option Addr) (i : Nat) (M : List Rt) (k : Int) (F' : List Nat) (wr : World) : Prop where
 bt : Blk wr pt 36 #[.pointer (some ⟨t, 0, none⟩)]
 bf : Blk wr pf 3 #[.int .i64 f]
 bn : Blk wr pn 2 #[.int .i64 T.now]
 bc : Blk wr pc 3 #[.int .i64 k]
 rd : Rd wr 9 Rt.enc A (validL T.l)
 ra : ∀ a, A = some a → a.block ∉ F' ∧ w0.heap.size ≤ a.block ∧ a.block < wr.heap.size
 tm : TabM wr B t F' ⟨T.c, M, T.now, T.rf⟩
 on : Only (pc :: F) w0 wr
 nw : ∀ b ∈ F', b ∈ F ∨ w0.heap.size ≤ b
 xs : ∀ r ∈ M, r.x < 4294967296
 eq : lostA T f i = (M, k)
def Ls2P (B t : Nat) (F : List Nat) (pc : Nat) (T : Tb) (f : Int) (w : World) (e : Ending) (w' : World) : Prop := e = .returned (.tuple #[]) ∧ ∃ F', TabM w' B t F' ⟨T.c, (lostA T f (validL T.l).length).1, T.now, T.rf⟩ ∧ Blk w' pc 3 #[.int .i64 (lostA T f (validL T.l).length).2] ∧ Only (pc :: F) w w' ∧ ∀ b ∈ F', b ∈ F ∨ w.heap.size ≤ b
def Ls3 (V : World) (x : Rt) (s6 s7 : Value) (wx : World) : Prop := ∃ h, s6 = .pointer (some ⟨h, 0, none⟩) ∧ s7 = .int .i64 0 ∧ Blk wx h 48 (roC x) ∧ Kp V wx ∧ V.heap.size ≤ h
theorem Rd.onlyR {w w' : World} {A : Option Addr} {xs : List Rt} {bs : List Nat} (h : Rd w 9 Rt.enc A xs) (k : Only bs w w') (hA : ∀ a, A = some a → a.block ∉ bs) : Rd w' 9 Rt.enc A xs := fun i hi => by
 obtain ⟨b, off, e, hc⟩ := h i hi
 exact ⟨b, off, e, fun j u hu => k.cell (hc j u hu) (show b ∉ bs from hA ⟨b, off, none⟩ e)⟩
set_option maxRecDepth 100000 in
theorem vjk (B t : Nat) (F : List Nat) (T : Tb) (f : Int) (pt pf pn pc : Nat) (w : World) (X : TabM w B t F T) (hok : TbOk T) (hwf : ∀ r ∈ T.l, r.x < 4294967296) (hown : ∀ k (hk : k < T.c.own.length), T.c.own[k].a < 4294967296) (hC : CapAt w) (hG : 1 < B)
  (h0 : Blk w pt 36 #[.pointer (some ⟨t, 0, none⟩)]) (h3 : Blk w pf 3 #[.int .i64 f]) (h1 : Blk w pn 2 #[.int .i64 T.now]) (h2 : Blk w pc 3 #[.int .i64 0]) (n0 : pt ∉ F) (n3 : pf ∉ F) (n1 : pn ∉ F) (n2 : pc ∉ F) (n32 : pf ≠ pc) (hB : B ≤ pc) :
  Calls Tryz.prog 66 #[.pointer (some ⟨pt, 0, none⟩), .pointer (some ⟨pf, 0, none⟩), .pointer (some ⟨pn, 0, none⟩), .pointer (some ⟨pc, 0, none⟩)] w (Ls2P B t F pc T f w) := by
 have hpl := h0.lt
 have hfl := h3.lt
 have hnl := h1.lt
 have hcl := h2.lt
 have hnow : okNow T.now = true := by rw [okNow, vaa]; exact hok.t
 have n02 : ¬ pt = pc := fun e => by subst e; have := h0.symm.trans h2; simp at this
 have n12 : ¬ pn = pc := fun e => by subst e; have := h1.symm.trans h2; simp at this
 have hcap := vaw hok.c
 have hln := hok.n
 have hFb : ∀ x ∈ F, x < w.heap.size := fun x hx => (X.lo x hx).2
 have hFB : ∀ x ∈ F, B ≤ x := fun x hx => (X.lo x hx).1
 have HS := Lib.hid (fun V (h : TabM V B t F T) => vbF B t F T 67 (fun r => r.s == 2) veX vfL V h)
 obtain ⟨L, hL⟩ : ∃ L, validL T.l = L := ⟨_, rfl⟩
 have hvl : ∀ x ∈ L, x ∈ T.l ∧ x.s = 2 := fun x hx => by
  rw [← hL] at hx
  have := List.mem_filter.1 hx
  exact ⟨this.1, by simpa using this.2⟩
 have hlen : L.length ≤ 256 := by
  have h3 : L.length = (T.l.filter (fun r => r.s == 2)).length := by rw [← hL]; rfl
  have h4 := List.length_filter_le (fun r : Rt => r.s == 2) T.l
  omega
 have HS2 : Hid (Calls Tryz.prog 40 #[.pointer (some ⟨t, 0, none⟩), .func (.func 67) #[] #[]] w (SiftP L w)) := by rw [← hL]; exact Lib.hid (HS.out w X)
 have HL := Lib.hid hL
 have HV := Lib.hid hvl
 have HX := Lib.hid X
 have HOK := Lib.hid hok
 have HXF := Lib.hid hwf
 have HOW := Lib.hid hown
 have HCA := Lib.hid hC
 have HN0 := Lib.hid n0
 have HN1 := Lib.hid n1
 have HN2 := Lib.hid n2
 have HN3 := Lib.hid n3
 have HNO := Lib.hid hnow
 have HFb := Lib.hid hFb
 have HFB := Lib.hid hFB
 have c0 : w.cell? ⟨pt, 0, none⟩ = some (.pointer (some ⟨t, 0, none⟩)) := h0.cell 0
 clear X hok hwf hown hC n0 n1 n2 n3 hnow hFb hFB hL hvl hcap hln HS
 go_enter Tryz.func66, Tryz.ntmps66
 go_wp2_with fail
 refine HS2.out.mono ?_
 rintro e w1 ⟨v, rfl, hO, K1⟩
 obtain ⟨A, c, rfl, hR⟩ := hO.rd (by decide) Rt.len
 have hAl := vnb hO
 have I0 : Hid (LsI w B t F pt pf pn pc T f A 0 T.l 0 F w1) := Lib.hid ⟨h0.keep K1, h3.keep K1, h1.keep K1, h2.keep K1, by rw [HL.out]; exact hR, fun a e => ⟨fun z => by have := HFb.out _ z; have := (hAl a e).1; omega, (hAl a e).1, (hAl a e).2⟩, HX.out.keep K1, Only.of_kp K1, fun b hb => .inl hb, HXF.out, by unfold lostA; rw [List.take_zero]; rfl⟩
 clear hO hR hAl HS2 c0
 go_wp2_with fail
 go_loopw [11] (fun k wr => ∃ (i : Nat) (M : List Rt) (n : Int) (F' : List Nat), i ≤ L.length ∧ k = .int .i64 i ∧ Hid (LsI w B t F pt pf pn pc T f A i M n F' wr)) (fun k _ => L.length - (intOf k).toNat)
 case atStart => exact ⟨0, _, _, _, Nat.zero_le _, rfl, I0⟩
 case round =>
  obtain ⟨i, M, n, F', hi, rfl, I⟩ := hrel
  have hsz0 := I.out.on.size
  by_cases hlt : i < L.length
  ·have hgi : (i : Int) < (L.length : Int) := by omega
   have hg0 : (0 : Int) ≤ (i : Int) := by omega
   have hrd := I.out.rd
   rw [HL.out] at hrd
   obtain ⟨b, off, hA, s0, s1, s2, s3, s4, s5, s6, s7, s8⟩ := vaU hrd hlt
   subst hA
   have hnext := vbH (T := T) (f := f) (i := i) (by rw [HL.out]; exact hlt)
   have hel : (validL T.l)[i]'(by rw [HL.out]; exact hlt) = L[i] := by
    have := HL.out
    subst this
    rfl
   rw [hel, I.out.eq] at hnext
   obtain ⟨r, hr⟩ : ∃ r, L[i] = r := ⟨_, rfl⟩
   rw [hr] at s0 s1 s2 s3 s4 s5 s6 s7 s8 hnext
   have hrv := HV.out r (by rw [← hr]; exact List.getElem_mem hlt)
   have hcnt := veY (T := T) (f := f) i
   rw [I.out.eq] at hcnt
   have hcn1 : 0 ≤ n := hcnt.1
   have hcn2 : n ≤ i := hcnt.2
   have HNX := Lib.hid hnext
   have HRV := Lib.hid hrv
   obtain ⟨g, hg⟩ : ∃ g, wr.heap.size = g := ⟨_, rfl⟩
   obtain ⟨V, hV, bV, kV⟩ : ∃ V, wr.alloc (.cells (roC r) 87) = V ∧ Blk V g 87 (roC r) ∧ Kp wr V := ⟨_, rfl, by rw [← hg]; exact Blk.new _ _ _, (Kp.refl _).alloc _⟩
   obtain ⟨r0, r1, r2, r3, r4, r5, r6, r7, r8⟩ := vab bV
   have d1 : V.cell? ⟨pf, 0, none⟩ = some (.int .i64 f) := (I.out.bf.keep kV).cell 0
   unfold roC at hV
   have BG := Lib.hid bV
   have HKV := Lib.hid kV
   clear hr hnext hrv hcnt hrd hel bV
   by_cases hf : r.f = f
   ·have e1 : (r.f != f) = false := by simp [hf]
    have hM := I.out.tm.keep HKV.out
    have hstep := HNX.out
    unfold loseG at hstep
    rw [if_pos ⟨HRV.out.2, hf⟩] at hstep
    have hra : r.p.a < 4294967296 := by
     obtain ⟨q, mp, m, A', QF, l, _, Z⟩ := HX.out
     exact (Z.wf r HRV.out.1).1
    have hrx : r.x < 4294967296 := HXF.out r HRV.out.1
    have hxok : okR (loseR T.c r T.now) = true := vcC HOK.out.c (HOK.out.r r HRV.out.1).1 HNO.out
    have hxp : (loseR T.c r T.now).p = r.p := vig _ _ _
    have hxx : (loseR T.c r T.now).x < 4294967296 := vlK hrx
    have hask : askR T.c r T.now = 0 := by unfold askR; rw [HOK.out.c, (HOK.out.r r HRV.out.1).1, HNO.out]; rfl
    have hokM := (vli HOK.out f i).1
    rw [I.out.eq] at hokM
    have hML : (M.length : Int) ≤ T.c.cap := hokM.n
    have hcp := vaw (c := T.c) hokM.c
    have hMn : M.length < 800000 := by omega
    obtain ⟨x, hx⟩ : ∃ x, loseR T.c r T.now = x := ⟨_, rfl⟩
    rw [hx] at hxok hxp hxx hstep
    have HM := Lib.hid hM
    obtain ⟨qc, mpc, mc, Ac, QFc, lc, hFe, Z⟩ := hM
    have BT := Lib.hid Z.bk
    have BP := Lib.hid (I.out.bt.keep kV)
    have BN := Lib.hid (I.out.bn.keep kV)
    have c0 : V.cell? ⟨pt, 0, none⟩ = some (.pointer (some ⟨t, 0, none⟩)) := BP.out.cell 0
    have c2 : V.cell? ⟨pn, 0, none⟩ = some (.int .i64 T.now) := BN.out.cell 0
    obtain ⟨-, g0, g1, g2, g3, g4, g5, g6, g7, g8⟩ := Blk.v10 BT.out _ (.int .i64 T.c.t0) (.int .i64 T.c.t1) (.int .i64 T.c.t2) (.int .i64 T.c.t3) (.int .i64 T.c.t4) (.int .i64 T.c.t5) (.int .i64 T.c.t6) (.int .i64 T.c.cap) (.slice Ac T.c.own.length mc) rfl
    have HSL := Lib.hid (SlPI.of_own Z.ow)
    have HCX := Lib.hid (show CapAt V from (CapAt.onlyF HCA.out I.out.on (by
     simp only [List.mem_cons, not_or]
     exact ⟨by omega, fun z => by have := HFB.out _ z; omega⟩)).keep kV)
    have HAS := Lib.hid hask
    have HXD := Lib.hid hx
    have HXO := Lib.hid hxok
    have HXP := Lib.hid hxp
    have HXX := Lib.hid hxx
    have HST := Lib.hid hstep
    clear hf hstep hxok hxp hxx hask hokM hML hcp hx Z hFe kV
    go_upto_region 4 with (fail)
    go_cut [6, 7] from 20 (fun s6 s7 wx => Ls3 V x s6 s7 wx)
    case first =>
     go_region_held3 (fun w' => w'.cell? ⟨t, 1, none⟩ = some (.int .i64 T.c.t0) ∧ w'.cell? ⟨t, 2, none⟩ = some (.int .i64 T.c.t1) ∧ w'.cell? ⟨t, 3, none⟩ = some (.int .i64 T.c.t2) ∧ w'.cell? ⟨t, 4, none⟩ = some (.int .i64 T.c.t3) ∧ w'.cell? ⟨t, 5, none⟩ = some (.int .i64 T.c.t4) ∧ w'.cell? ⟨t, 6, none⟩ = some (.int .i64 T.c.t5) ∧ w'.cell? ⟨t, 7, none⟩ = some (.int .i64 T.c.t6) ∧ w'.cell? ⟨t, 8, none⟩ = some (.int .i64 T.c.cap) ∧ w'.cell? ⟨t, 9, none⟩ = some (.slice Ac T.c.own.length mc) ∧ w'.cell? ⟨pt, 0, none⟩ = some (.pointer (some ⟨t, 0, none⟩)) ∧ w'.cell? ⟨pn, 0, none⟩ = some (.int .i64 T.now) ∧ w'.cell? ⟨g, 0, none⟩ = some (.int .u32 (r.p.a : Int)) ∧ w'.cell? ⟨g, 1, none⟩ = some (.int .i64 r.p.l) ∧ w'.cell? ⟨g, 2, none⟩ = some (.int .i64 r.s) ∧ w'.cell? ⟨g, 3, none⟩ = some (.int .i64 r.m) ∧ w'.cell? ⟨g, 4, none⟩ = some (.int .i64 r.l) ∧ w'.cell? ⟨g, 5, none⟩ = some (.int .i64 r.f) ∧ w'.cell? ⟨g, 6, none⟩ = some (.int .u32 (r.x : Int)) ∧ w'.cell? ⟨g, 7, none⟩ = some (.int .i64 r.d) ∧ w'.cell? ⟨g, 8, none⟩ = some (.bool r.c))
      (first | exact ⟨Rt_.cell 1, Rt_.cell 2, Rt_.cell 3, Rt_.cell 4, Rt_.cell 5, Rt_.cell 6, Rt_.cell 7, Rt_.cell 8, Rt_.cell 9, Rp.cell 0, Rn.cell 0, Rg.cell 0, Rg.cell 1, Rg.cell 2, Rg.cell 3, Rg.cell 4, Rg.cell 5, Rg.cell 6, Rg.cell 7, Rg.cell 8⟩ | exact ⟨KY.cell g0, KY.cell g1, KY.cell g2, KY.cell g3, KY.cell g4, KY.cell g5, KY.cell g6, KY.cell g7, KY.cell g8, KY.cell c0, KY.cell c2, KY.cell r0, KY.cell r1, KY.cell r2, KY.cell r3, KY.cell r4, KY.cell r5, KY.cell r6, KY.cell r7, KY.cell r8⟩ | exact ⟨(KY.alloc _).cell g0, (KY.alloc _).cell g1, (KY.alloc _).cell g2, (KY.alloc _).cell g3, (KY.alloc _).cell g4, (KY.alloc _).cell g5, (KY.alloc _).cell g6, (KY.alloc _).cell g7, (KY.alloc _).cell g8, (KY.alloc _).cell c0, (KY.alloc _).cell c2, (KY.alloc _).cell r0, (KY.alloc _).cell r1, (KY.alloc _).cell r2, (KY.alloc _).cell r3, (KY.alloc _).cell r4, (KY.alloc _).cell r5, (KY.alloc _).cell r6, (KY.alloc _).cell r7, (KY.alloc _).cell r8⟩ | exact ⟨(Kp.refl V).drew.cell g0, (Kp.refl V).drew.cell g1, (Kp.refl V).drew.cell g2, (Kp.refl V).drew.cell g3, (Kp.refl V).drew.cell g4, (Kp.refl V).drew.cell g5, (Kp.refl V).drew.cell g6, (Kp.refl V).drew.cell g7, (Kp.refl V).drew.cell g8, (Kp.refl V).drew.cell c0, (Kp.refl V).drew.cell c2, (Kp.refl V).drew.cell r0, (Kp.refl V).drew.cell r1, (Kp.refl V).drew.cell r2, (Kp.refl V).drew.cell r3, (Kp.refl V).drew.cell r4, (Kp.refl V).drew.cell r5, (Kp.refl V).drew.cell r6, (Kp.refl V).drew.cell r7, (Kp.refl V).drew.cell r8⟩ | exact ⟨((Kp.refl V).alloc _).drew.cell g0, ((Kp.refl V).alloc _).drew.cell g1, ((Kp.refl V).alloc _).drew.cell g2, ((Kp.refl V).alloc _).drew.cell g3, ((Kp.refl V).alloc _).drew.cell g4, ((Kp.refl V).alloc _).drew.cell g5, ((Kp.refl V).alloc _).drew.cell g6, ((Kp.refl V).alloc _).drew.cell g7, ((Kp.refl V).alloc _).drew.cell g8, ((Kp.refl V).alloc _).drew.cell c0, ((Kp.refl V).alloc _).drew.cell c2, ((Kp.refl V).alloc _).drew.cell r0, ((Kp.refl V).alloc _).drew.cell r1, ((Kp.refl V).alloc _).drew.cell r2, ((Kp.refl V).alloc _).drew.cell r3, ((Kp.refl V).alloc _).drew.cell r4, ((Kp.refl V).alloc _).drew.cell r5, ((Kp.refl V).alloc _).drew.cell r6, ((Kp.refl V).alloc _).drew.cell r7, ((Kp.refl V).alloc _).drew.cell r8⟩ | exact ⟨((Kp.refl V).alloc _).cell g0, ((Kp.refl V).alloc _).cell g1, ((Kp.refl V).alloc _).cell g2, ((Kp.refl V).alloc _).cell g3, ((Kp.refl V).alloc _).cell g4, ((Kp.refl V).alloc _).cell g5, ((Kp.refl V).alloc _).cell g6, ((Kp.refl V).alloc _).cell g7, ((Kp.refl V).alloc _).cell g8, ((Kp.refl V).alloc _).cell c0, ((Kp.refl V).alloc _).cell c2, ((Kp.refl V).alloc _).cell r0, ((Kp.refl V).alloc _).cell r1, ((Kp.refl V).alloc _).cell r2, ((Kp.refl V).alloc _).cell r3, ((Kp.refl V).alloc _).cell r4, ((Kp.refl V).alloc _).cell r5, ((Kp.refl V).alloc _).cell r6, ((Kp.refl V).alloc _).cell r7, ((Kp.refl V).alloc _).cell r8⟩ | go_keep)
      (first | (go_at_call 68; refine (veP T.c Ac mc r T.now _ (HSL.out.keep (by first | exact (Kp.refl _).drew | exact ((Kp.refl _).alloc _).drew | exact (Kp.refl _).alloc _ | exact Kp.refl _)) (HCX.out.keep (by first | exact (Kp.refl _).drew | exact ((Kp.refl _).alloc _).drew | exact (Kp.refl _).alloc _ | exact Kp.refl _)) HOW.out hra hrx).mono ?_; rintro e Y hE; obtain ⟨rfl, KY0⟩ := hE.split0 HAS.out; rw [HXD.out]; have KY : Kp V Y := (show Kp V _ from (by first | exact (Kp.refl _).drew | exact ((Kp.refl _).alloc _).drew | exact (Kp.refl _).alloc _ | exact Kp.refl _)).trans KY0; have Eh : Blk Y V.heap.size 48 zero9 := ((Blk.new V 48 zero9).drew).keep KY0; have y0 : Y.cell? ⟨V.heap.size, 0, none⟩ = some (.int .u32 0) := Eh.cell 0; have f0 := Eh.frozen 0; have y1 : Y.cell? ⟨V.heap.size, 1, none⟩ = some (.int .i64 0) := Eh.cell 1; have f1 := Eh.frozen 1; have y2 : Y.cell? ⟨V.heap.size, 2, none⟩ = some (.int .i64 0) := Eh.cell 2; have f2 := Eh.frozen 2; have y3 : Y.cell? ⟨V.heap.size, 3, none⟩ = some (.int .i64 0) := Eh.cell 3; have f3 := Eh.frozen 3; have y4 : Y.cell? ⟨V.heap.size, 4, none⟩ = some (.int .i64 0) := Eh.cell 4; have f4 := Eh.frozen 4; have y5 : Y.cell? ⟨V.heap.size, 5, none⟩ = some (.int .i64 0) := Eh.cell 5; have f5 := Eh.frozen 5; have y6 : Y.cell? ⟨V.heap.size, 6, none⟩ = some (.int .u32 0) := Eh.cell 6; have f6 := Eh.frozen 6; have y7 : Y.cell? ⟨V.heap.size, 7, none⟩ = some (.int .i64 0) := Eh.cell 7; have f7 := Eh.frozen 7; have y8 : Y.cell? ⟨V.heap.size, 8, none⟩ = some (.bool false) := Eh.cell 8; have f8 := Eh.frozen 8; obtain ⟨R, hR, Rh, Rt_, Rp, Rn, Rg, kR⟩ : ∃ R, roSet Y V.heap.size x = R ∧ Blk R V.heap.size 48 (roC x) ∧ Blk R t 107 (tbC qc ⟨T.c, M, T.now, T.rf⟩ Ac mc mpc) ∧ Blk R pt 36 #[.pointer (some ⟨t, 0, none⟩)] ∧ Blk R pn 2 #[.int .i64 T.now] ∧ Blk R g 87 (roC r) ∧ Kp V R := ⟨_, rfl, Blk.putRo Eh x, Blk.putRo_far (BT.out.keep KY) (Nat.ne_of_lt BT.out.lt) x, Blk.putRo_far (BP.out.keep KY) (Nat.ne_of_lt BP.out.lt) x, Blk.putRo_far (BN.out.keep KY) (Nat.ne_of_lt BN.out.lt) x, Blk.putRo_far (BG.out.keep KY) (Nat.ne_of_lt BG.out.lt) x, Kp.putRo KY (Nat.le_refl _) x⟩; unfold roSet at hR) | (go_at_call 68; refine (veP T.c Ac mc r T.now _ (HSL.out.keep (by first | exact (Kp.refl _).drew | exact ((Kp.refl _).alloc _).drew | exact (Kp.refl _).alloc _ | exact Kp.refl _)) (HCX.out.keep (by first | exact (Kp.refl _).drew | exact ((Kp.refl _).alloc _).drew | exact (Kp.refl _).alloc _ | exact Kp.refl _)) HOW.out hra hrx).mono ?_; rintro e Y hE; obtain ⟨rfl, KY0⟩ := hE.split0 HAS.out; rw [HXD.out]; have KY : Kp V Y := (show Kp V _ from (by first | exact (Kp.refl _).drew | exact ((Kp.refl _).alloc _).drew | exact (Kp.refl _).alloc _ | exact Kp.refl _)).trans KY0))
     all_goals
      go_wp2_with fail
      go_meet
      case rel => first | exact ⟨_, rfl, rfl, Blk.new _ _ _, KY.alloc _, KY.size⟩ | exact ⟨_, rfl, rfl, Rh, kR, Nat.le_refl _⟩
    case rest =>
     obtain ⟨h, rfl, rfl, Bh, KX, hh⟩ := hcut
     clear g0 g1 g2 g3 g4 g5 g6 g7 g8 c0 c2 r0 r1 r2 r3 r4 r5 r6 r7 r8 s0 s1 s2 s3 s4 s5 s6 s7 s8 d1
     have hVs := HKV.out.size
     have d0 : wc.cell? ⟨pt, 0, none⟩ = some (.pointer (some ⟨t, 0, none⟩)) := (BP.out.keep KX).cell 0
     have Bh' := Bh
     unfold roC at Bh'
     have x0 := Blk.f Bh rfl
     obtain ⟨V5, hV5, B5, K5⟩ : ∃ V', wc.alloc (.cells (roC x) 48) = V' ∧ Blk V' wc.heap.size 48 (roC x) ∧ Kp V V' := ⟨_, rfl, Blk.new _ _ _, KX.alloc _⟩
     obtain ⟨n5, hn5⟩ : ∃ n, wc.heap.size = n := ⟨_, rfl⟩
     rw [hn5] at B5
     unfold roC at hV5
     clear Bh'
     have hxa : x.p.a < 4294967296 := by rw [HXP.out]; exact hra
     have HCL2 := Lib.hid (vdn B t n5 F' ⟨T.c, M, T.now, T.rf⟩ x V5 (HM.out.keep K5) B5 HXO.out hxa hMn)
     go_wp2_with (first | (go_at_call 60; refine (vfx _).mono ?_; rintro e w' ⟨rfl, hw'⟩; rw [hw']; clear hw' w'))
     refine HCL2.out.mono ?_
     rintro e w5 ⟨rfl, F5, X5, O5, N5⟩
     have hsz5 := K5.size
     have hF'b : ∀ z ∈ F', z ∈ F ∨ w.heap.size ≤ z := I.out.nw
     have far : ∀ z, z < w.heap.size → z ∉ F → z ∉ F' := fun z h1 h2 h3 => (hF'b z h3).elim h2 (fun k => by omega)
     have Pt5 := (BP.out.keep K5).only O5 (far pt hpl HN0.out)
     have Pf5 := ((I.out.bf.keep HKV.out).keep K5).only O5 (far pf hfl HN3.out)
     have Pn5 := (BN.out.keep K5).only O5 (far pn hnl HN1.out)
     have Pc5 := ((I.out.bc.keep HKV.out).keep K5).only O5 (far pc hcl HN2.out)
     have KW5 := HKV.out.trans K5
     have on5 : Only (pc :: F) w w5 := (I.out.on.trans (Only.of_kp KW5)).joinF O5 (fun z hz => (hF'b z hz).imp (fun k => by simp [k]) id)
     have nw5 : ∀ z ∈ F5, z ∈ F ∨ w.heap.size ≤ z := fun z hz => (N5 z hz).elim (hF'b z) (fun k => .inr (by omega))
     have rd5 : Rd w5 9 Rt.enc (some ⟨b, off, none⟩) (validL T.l) := (I.out.rd.keep KW5).onlyR O5 (fun a e => (I.out.ra a e).1)
     have ra5 : ∀ a, (some (⟨b, off, none⟩ : Addr)) = some a → a.block ∉ F5 ∧ w.heap.size ≤ a.block ∧ a.block < w5.heap.size := fun a e => by
      obtain ⟨a1, a2, a3⟩ := I.out.ra a e
      have := O5.size
      exact ⟨fun z => (N5 _ z).elim a1 (fun k => by omega), a2, by omega⟩
     have xs5 : ∀ y ∈ setR x M, y.x < 4294967296 := fun y hy => by
      rcases vap.1 hy with ⟨rfl, _⟩ | ⟨hy, _⟩
      ·exact HXX.out
      ·exact I.out.xs y hy
     have hk9 : n + 1 ≤ 9223372036854775807 := by omega
     have hk8 : -9223372036854775808 ≤ n + 1 := by omega
     have f0 : w5.cell? ⟨pc, 0, none⟩ = some (.int .i64 n) := Pc5.cell 0
     have f1 := Pc5.frozen 0
     have htag : pc ∉ F5 := fun z => (N5 _ z).elim (far pc hcl HN2.out) (fun k => by omega)
     have ho : Only [pc] w5 (w5.setCell ⟨pc, 0, none⟩ (.int .i64 (n + 1))) := (Only.refl [pc] w5).setCell (p := ⟨pc, 0, none⟩) (.inl (by simp)) _
     have I6 : Hid (LsI w B t F pt pf pn pc T f (some ⟨b, off, none⟩) (i + 1) (setR x M) (n + 1) F5 (w5.setCell ⟨pc, 0, none⟩ (.int .i64 (n + 1)))) := Lib.hid ⟨Pt5.only ho (by simpa using n02), Pf5.only ho (by simpa using n32), Pn5.only ho (by simpa using n12), by simpa using Pc5.set_ 0 (.int .i64 (n + 1)), rd5.onlyR ho (fun a e => by have := (ra5 a e).2.1; simp only [List.mem_cons, List.not_mem_nil, or_false]; omega), fun a e => ⟨(ra5 a e).1, (ra5 a e).2.1, by simpa using (ra5 a e).2.2⟩, X5.turn ho (fun z hz => by simp only [List.mem_cons, List.not_mem_nil, or_false] at hz; subst hz; exact ⟨htag, _, _, Pc5, by decide⟩), on5.joinF ho (fun z hz => .inl (by simp only [List.mem_cons, List.not_mem_nil, or_false] at hz; simp [hz])), nw5, xs5, HST.out⟩
     clear Pt5 Pf5 Pn5 Pc5 on5 nw5 rd5 ra5 xs5 htag ho X5 O5 N5 far hF'b
     go_wp2_with fail
     go_roundw
     case rel => exact ⟨i + 1, _, _, _, by omega, by go_num, I6⟩
     case measure => simp [intOf]; omega
   ·have e1 : (r.f != f) = true := by simp [hf]
    have hstep := HNX.out
    unfold loseG at hstep
    rw [if_neg (fun e => hf e.2)] at hstep
    have I2 := I.out
    have J : Hid (LsI w B t F pt pf pn pc T f (some ⟨b, off, none⟩) (i + 1) M n F' V) := Lib.hid ⟨I2.bt.keep kV, I2.bf.keep kV, I2.bn.keep kV, I2.bc.keep kV, I2.rd.keep kV, fun a e => ⟨(I2.ra a e).1, (I2.ra a e).2.1, Nat.lt_of_lt_of_le (I2.ra a e).2.2 kV.size⟩, I2.tm.keep kV, I2.on.trans (Only.of_kp kV), I2.nw, I2.xs, hstep⟩
    clear hf hstep I2
    go_wp2_with fail
    go_roundw
    case rel => exact ⟨i + 1, _, _, _, by omega, by go_num, J⟩
    case measure => simp [intOf]; omega
  ·obtain rfl : i = L.length := by omega
   have hE : Hid (Ls2P B t F pc T f w (.returned (.tuple #[])) wr) := Lib.hid ⟨rfl, F', by rw [HL.out, I.out.eq]; exact I.out.tm, by rw [HL.out, I.out.eq]; exact I.out.bc, I.out.on, I.out.nw⟩
   go_wp2_with fail
   go_end0
   exact hE.out
end

end Go.Proofs.YtffckpkikdlbpaaGreatDoor
