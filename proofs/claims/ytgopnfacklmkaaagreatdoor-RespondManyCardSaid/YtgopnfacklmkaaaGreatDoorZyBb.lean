/- Lemmas and contracts for the theorem of this claim: RqG, RqH. -/
import Derived.Test.YtgopnfacklmkaaaGreatDoorZyBa
set_option linter.all false
set_option maxHeartbeats 16000000
namespace Go.Proofs.YtgopnfacklmkaaaGreatDoor
section
open Go.RowKit Go.Maps
structure PcN {β : Type} (e sz : Nat) (enc : Pc → List Value) (s2 : Nat) (enc2 : β → List Value) (B : Nat) (W : World) (v : Value) (ps : List Pc) (ls : List (List β)) : Prop where
 own : Own W B e sz enc v ps
 len : ps.length = ls.length
 ent : ∀ (i : Nat) (p : Pc) (l : List β), ps[i]? = some p → ls[i]? = some l → (p.n = l.length ∧ l.length ≤ p.m) ∧ Rd W s2 enc2 p.A l ∧ ∀ a, p.A = some a → B ≤ a.block ∧ a.block < W.heap.size
theorem PcR.n {β : Type} {e sz s2 : Nat} {enc : Pc → List Value} {enc2 : β → List Value} {w0 W : World} {v : Value} {ps : List Pc} {ls : List (List β)} (h : PcR e sz enc s2 enc2 w0 W v ps ls) : PcN e sz enc s2 enc2 w0.heap.size W v ps ls :=
 ⟨h.own, h.len, fun i p l h1 h2 => by obtain ⟨a1, a2, a3⟩ := h.ent i p l h1 h2; exact ⟨a1, a2, fun a ha => ⟨(a3 a ha).1, (a3 a ha).2.1⟩⟩⟩
theorem PcN.only {β : Type} {e sz s2 B : Nat} {enc : Pc → List Value} {enc2 : β → List Value} {W W' : World} {v : Value} {ps : List Pc} {ls : List (List β)} {bs : List Nat} (h : PcN e sz enc s2 enc2 B W v ps ls) (k : Only bs W W') (hb : ∀ b ∈ bs, b < B) : PcN e sz enc s2 enc2 B W' v ps ls :=
 ⟨h.own.only k hb, h.len, fun i p l h1 h2 => by
  obtain ⟨a1, a2, a3⟩ := h.ent i p l h1 h2
  exact ⟨a1, a2.onlyB k (fun a ha z => by have := hb _ z; have := (a3 a ha).1; omega), fun a ha => ⟨(a3 a ha).1, Nat.lt_of_lt_of_le (a3 a ha).2 k.size⟩⟩⟩
theorem PcN.mono {β : Type} {e sz s2 B B' : Nat} {enc : Pc → List Value} {enc2 : β → List Value} {W : World} {v : Value} {ps : List Pc} {ls : List (List β)} (h : PcN e sz enc s2 enc2 B W v ps ls) (hb : B' ≤ B) : PcN e sz enc s2 enc2 B' W v ps ls :=
 ⟨h.own.mono hb, h.len, fun i p l h1 h2 => by obtain ⟨a1, a2, a3⟩ := h.ent i p l h1 h2; exact ⟨a1, a2, fun a ha => ⟨Nat.le_trans hb (a3 a ha).1, (a3 a ha).2⟩⟩⟩
abbrev BsN (B : Nat) (W : World) (v : Value) (qs : List Pc) (ls : List (List Nat)) : Prop := PcN 64 1 Pc.encB 1 byN B W v qs ls
def TabF (T : Tb) : Prop := ∀ r ∈ T.l, r.p.a < 4294967296 ∧ r.x < 4294967296 ∧ 0 ≤ r.p.l ∧ r.p.l ≤ 32
theorem TabF.two {T : Tb} (h : TabF T) : ∀ r ∈ T.l, r.p.a < 4294967296 ∧ r.x < 4294967296 := fun r hr => ⟨(h r hr).1, (h r hr).2.1⟩
theorem TabF.ent {T : Tb} (h : TabF T) (fc : Int) : ∀ e ∈ T.l.map (entE fc), e.wf ∧ okEn e = true := fun e he => by
 obtain ⟨r, hr, rfl⟩ := List.mem_map.1 he
 exact vhO (h r hr).1 (h r hr).2.2
set_option maxRecDepth 100000 in
theorem vcb (B t : Nat) (F : List Nat) (T : Tb) (fc : Int) (w : World) (hT : TabM w B t F T) (hF : ReFac w) (h0 : 0 ≤ fc) (h1 : fc ≤ 15) (hx : TabF T) :
  Calls Tryz.prog 39 #[.pointer (some ⟨t, 0, none⟩), .int .i64 fc, .bool false] w fun r w' => ∃ A2 m2, r = .returned (.tuple #[.slice A2 T.l.length m2, .int .i64 0]) ∧ Rd w' 6 En.enc A2 (T.l.map (entE fc)) ∧ Kp w w' := by
 obtain ⟨b, hb⟩ : ∃ b, w.heap.size = b := ⟨_, rfl⟩
 obtain ⟨W, hW, kW, B0, B1⟩ := Blk.al2 hb #[.slice none 0 0] 28 #[.int .i64 0] 44
 have hbW : b + 1 < W.heap.size := B1.lt
 have HTT := Lib.hid (hT.keep kW)
 have HLO := Lib.hid (vbq B t F T fc W (hT.keep kW) (hF.keep kW) h0 h1)
 have HKW := Lib.hid kW
 have HB0 := Lib.hid B0
 have HB1 := Lib.hid B1
 clear hT hF B0 B1 kW h0 h1
 go_enter_defers Tryz.func39, Tryz.ntmps39
 go_wp2_with fail
 refine HLO.out.mono ?_
 rintro r w1 ⟨rfl, K1⟩
 have HEN := Lib.hid (vca B t F T fc w1 (HTT.out.keep K1) hx.two)
 have HK1 := Lib.hid K1
 clear K1 hW
 go_wp2_with fail
 refine HEN.out.mono ?_
 rintro r w2 ⟨A2, m2, rfl, hO, K2⟩
 have k2 := HK1.out.trans K2
 have E0 := HB0.out.keep k2
 have E1 := HB1.out.keep k2
 have u0 := Blk.f E0 rfl
 have f0 := Blk.frozen E0
 have u1 := Blk.f E1 rfl
 have f1 := Blk.frozen E1
 obtain ⟨n, hn⟩ : ∃ n, T.l.length = n := ⟨_, rfl⟩
 rw [hn] at hO ⊢
 have HNN := Lib.hid hn
 clear hn
 obtain ⟨Q, hQ, Q0, Q1, KQ, OQ⟩ : ∃ R, (w2.setCell ⟨b, 0, none⟩ (.slice A2 n m2)).setCell ⟨b + 1, 0, none⟩ (.int .i64 0) = R ∧ Blk R b 28 #[.slice A2 n m2] ∧ Blk R (b + 1) 44 #[.int .i64 0] ∧ Kp w R ∧ Only [b, b + 1] w2 R :=
  ⟨_, rfl, (E0.set_ 0 _).far (p := ⟨b + 1, 0, none⟩) (by show b ≠ b + 1; omega) _, (E1.far (p := ⟨b, 0, none⟩) (by show b + 1 ≠ b; omega) _).set_ 0 _, ((HKW.out.trans k2).setCell (p := ⟨b, 0, none⟩) (by show w.heap.size ≤ b; omega) _).setCell (p := ⟨b + 1, 0, none⟩) (by show w.heap.size ≤ b + 1; omega) _, ((Only.refl [b, b + 1] w2).setCell (p := ⟨b, 0, none⟩) (.inl (by simp)) _).setCell (p := ⟨b + 1, 0, none⟩) (.inl (by simp)) _⟩
 have hs1 := HK1.out.size
 have HR := Lib.hid ((hO.rdAt (by decide) En.enc_len).onlyB OQ (fun a ha => by have := vds hO a ha; simp; omega))
 clear E0 E1 K2 k2 hO OQ
 go_wp2_with fail
 refine leaves_cons (f := 101) (args := #[.pointer (some ⟨b, 0, none⟩), .pointer (some ⟨b + 1, 0, none⟩)]) (by simp) (by simp [go_sem]) ?_
 refine (vhL _ _ _).mono ?_
 rintro e u' wz ⟨rfl, rfl, rfl⟩
 have q0 : wz.cell? ⟨b, 0, none⟩ = some (.slice A2 n m2) := Q0.cell 0
 have q1 : wz.cell? ⟨b + 1, 0, none⟩ = some (.int .i64 0) := Q1.cell 0
 show Leaves _ _ _ _ [] .returning _
 exact ⟨.tuple #[.slice A2 n m2, .int .i64 0], by simp [results, Tryz.results39, go_sem, q0, q1], A2, m2, by rw [HNN.out], HR.out, KQ⟩
set_option maxRecDepth 100000 in
theorem vbh (B t : Nat) (F : List Nat) (T : Tb) (fc : Int) (w : World) (hT : TabM w B t F T) (hF : ReFac w) (hWd : WidAt w) (h0 : 0 ≤ fc) (h1 : fc ≤ 15) (hx : TabF T) :
  Calls Tryz.prog 17 #[.pointer (some ⟨t, 0, none⟩), .int .i64 fc, .bool false] w fun r w' => ∃ v qs, r = .returned (.tuple #[v, .int .i64 0]) ∧ BsN w.heap.size w' v qs ((piecesE (T.l.map (entE fc))).map (bytesD 2)) ∧ Kp w w' := by
 obtain ⟨b, hb⟩ : ∃ b, w.heap.size = b := ⟨_, rfl⟩
 obtain ⟨W, hW, kW, B0, B1⟩ := Blk.al2 hb #[.slice none 0 0] 59 #[.int .i64 0] 44
 have hbW : b + 1 < W.heap.size := B1.lt
 have hTn : T.l.length ≤ 900000 := by obtain ⟨_, _, _, _, _, _, _, X⟩ := hT; exact X.n
 have HTT := Lib.hid (hT.keep kW)
 have HLO := Lib.hid (vbq B t F T fc W (hT.keep kW) (hF.keep kW) h0 h1)
 have HWD := Lib.hid (hWd.keep kW)
 have HKW := Lib.hid kW
 have HB0 := Lib.hid B0
 have HB1 := Lib.hid B1
 clear hT hF hWd B0 B1 kW h0 h1
 go_enter_defers Tryz.func17, Tryz.ntmps17
 go_wp2_with fail
 refine HLO.out.mono ?_
 rintro r w1 ⟨rfl, K1⟩
 have HEN := Lib.hid (vca B t F T fc w1 (HTT.out.keep K1) hx.two)
 have HK1 := Lib.hid K1
 clear K1 hW
 go_wp2_with fail
 refine HEN.out.mono ?_
 rintro r w2 ⟨A2, m2, rfl, hO, K2⟩
 have hl : (T.l.map (entE fc)).length = T.l.length := List.length_map _
 have hcap : (T.l.map (entE fc)).length ≤ m2 := by
  rcases hO.2 with ⟨_, h2⟩ | ⟨g, cap, cur, hv, _, _, h3, _⟩
  ·omega
  ·injection hv with _ _ h4
   omega
 have hcu := vfg A2 m2 (T.l.map (entE fc)) w2 (HWD.out.keep (HK1.out.trans K2)) (hO.rdAt (by decide) En.enc_len) (fun e he => (hx.ent fc e he).1) (List.all_eq_true.2 (fun e he => (hx.ent fc e he).2)) (by rw [hl]; exact hTn) hcap
 rw [hl] at hcu
 have HCU := Lib.hid hcu
 have HK2 := Lib.hid (HK1.out.trans K2)
 clear hO K2 hcu hcap hl
 go_wp2_with fail
 refine HCU.out.mono ?_
 rintro r w3 ⟨v, qs, rfl, hP⟩
 have k3 := HK2.out.trans hP.kp
 have E0 := HB0.out.keep k3
 have E1 := HB1.out.keep k3
 have u0 := Blk.f E0 rfl
 have f0 := Blk.frozen E0
 have u1 := Blk.f E1 rfl
 have f1 := Blk.frozen E1
 have hvp : v.oneCell' = true := by
  obtain ⟨_, _, hv⟩ := hP.own.form
  subst hv
  rfl
 obtain ⟨Av, cv, hv⟩ := hP.own.form
 subst hv
 have HP := Lib.hid (hP.n.mono HK2.out.size)
 obtain ⟨qn, hqn⟩ : ∃ n, qs.length = n := ⟨_, rfl⟩
 rw [hqn] at HP ⊢
 obtain ⟨Q, hQ, Q0, Q1, KQ, OQ⟩ : ∃ R, (w3.setCell ⟨b, 0, none⟩ (.slice Av qn cv)).setCell ⟨b + 1, 0, none⟩ (.int .i64 0) = R ∧ Blk R b 59 #[.slice Av qn cv] ∧ Blk R (b + 1) 44 #[.int .i64 0] ∧ Kp w R ∧ Only [b, b + 1] w3 R :=
  ⟨_, rfl, (E0.set_ 0 _).far (p := ⟨b + 1, 0, none⟩) (by show b ≠ b + 1; omega) _, (E1.far (p := ⟨b, 0, none⟩) (by show b + 1 ≠ b; omega) _).set_ 0 _, ((HKW.out.trans k3).setCell (p := ⟨b, 0, none⟩) (by show w.heap.size ≤ b; omega) _).setCell (p := ⟨b + 1, 0, none⟩) (by show w.heap.size ≤ b + 1; omega) _, ((Only.refl [b, b + 1] w3).setCell (p := ⟨b, 0, none⟩) (.inl (by simp)) _).setCell (p := ⟨b + 1, 0, none⟩) (.inl (by simp)) _⟩
 have HR := Lib.hid ((HP.out.only OQ (by simp; omega)).mono HKW.out.size)
 clear E0 E1 k3 OQ hP hqn hvp
 go_wp2_with fail
 refine leaves_cons (f := 60) (args := #[.pointer (some ⟨b, 0, none⟩), .pointer (some ⟨b + 1, 0, none⟩)]) (by simp) (by simp [go_sem]) ?_
 refine (vhM _ _ _).mono ?_
 rintro e u' wz ⟨rfl, rfl, rfl⟩
 have q0 : wz.cell? ⟨b, 0, none⟩ = some (.slice Av qn cv) := Q0.cell 0
 have q1 : wz.cell? ⟨b + 1, 0, none⟩ = some (.int .i64 0) := Q1.cell 0
 show Leaves _ _ _ _ [] .returning _
 exact ⟨.tuple #[.slice Av qn cv, .int .i64 0], by simp [results, Tryz.results17, go_sem, q0, q1], _, _, rfl, HR.out, KQ⟩
structure AnZ where
 A1 : Option Addr
 m1 : Nat
 A2 : Option Addr
 m2 : Nat
 A5 : Option Addr
 m5 : Nat
 A6 : Option Addr
 n6 : Nat
 m6 : Nat
theorem epP_l {e : En} (h : e.wf) : (epP e).a < 4294967296 ∧ 0 ≤ (epP e).l ∧ (epP e).l ≤ 32 := by
 unfold epP
 split
 ·have := vjL e.m
  exact ⟨h.1, by show (0 : Int) ≤ (lenM e.m : Int); omega, by show (lenM e.m : Int) ≤ 32; omega⟩
 ·exact ⟨by decide, by decide, by decide⟩
theorem vji {es : List En} (hw : ∀ e ∈ es, e.wf) : ∀ x ∈ asksL es, x.1.a < 4294967296 ∧ 0 ≤ x.1.l ∧ x.1.l ≤ 32 := by
 intro x hx
 unfold asksL at hx
 obtain ⟨y, hy, h2⟩ := List.mem_filterMap.1 hx
 unfold askF at h2
 split at h2
 ·injection h2 with h2
  subst h2
  have hm : y.1 ∈ es := by
   obtain ⟨y1, y2⟩ := y
   exact (List.mem_zipIdx' hy).2 ▸ List.getElem_mem _
  exact epP_l (m1_wf (hw _ hm))
 ·cases h2
theorem vlC {T : Tb} (hx : TabF T) (fc : Int) {p : PI} (h : p.a < 4294967296) (hl : 0 ≤ p.l ∧ p.l ≤ 32) : (ansE T fc p).wf ∧ okEn (ansE T fc p) = true := by
 unfold ansE
 cases hg : getR p T.l with
 | none => exact vhO h hl
 | some r => exact vhO (hx r (vas hg).1).1 (hx r (vas hg).1).2.2
def answL (T : Tb) (fc : Int) (es : List En) : List En := ((asksL es).map (·.1)).map (ansE T fc)
set_option maxRecDepth 100000 in
theorem veI (B t : Nat) (F : List Nat) (T : Tb) (fc : Int) (c : Int) (A : Option Addr) (m : Nat) (es : List En) (w : World) (hT : TabM w B t F T) (hF : ReFac w) (hWd : WidAt w) (h0 : 0 ≤ fc) (h1 : fc ≤ 15) (hx : TabF T) (hR : Rd w 6 En.enc A es) (hw : ∀ e ∈ es, e.wf) (hn : es.length ≤ 900000) (hq : isReqB c es = true) (ha : asksB c es = false) :
  Calls Tryz.prog 40 #[.pointer (some ⟨t, 0, none⟩), .int .i64 fc, dgV c A es.length m] w fun r w' => ∃ v qs, r = .returned (.tuple #[v, .int .i64 0]) ∧ BsN w.heap.size w' v qs ((piecesE (answL T fc es)).map (bytesD 2)) ∧ Kp w w' := by
 obtain ⟨b, hb⟩ : ∃ b, w.heap.size = b := ⟨_, rfl⟩
 obtain ⟨W, hW, kW, B0, B1, B2⟩ := Blk.al3 hb #[.int .i64 c, .slice A es.length m] 30 #[.slice none 0 0] 59 #[.int .i64 0] 44
 have hbW : b + 1 + 1 < W.heap.size := B2.lt
 have HTT := Lib.hid (hT.keep kW)
 have HLO := Lib.hid (vbq B t F T fc W (hT.keep kW) (hF.keep kW) h0 h1)
 have HWD := Lib.hid (hWd.keep kW)
 have HRR := Lib.hid (hR.keep kW)
 have HKW := Lib.hid kW
 have HB0 := Lib.hid B0
 have HB1 := Lib.hid B1
 have HB2 := Lib.hid B2
 have HWF := Lib.hid hw
 have HAM := Lib.hid (vji hw)
 have HX := Lib.hid hx
 have HQ := Lib.hid hq
 have HA := Lib.hid ha
 have HTL : Hid (∀ x ∈ F, x < w.heap.size) := Lib.hid (fun x hx => (hT.lo x hx).2)
 have HW0 := Lib.hid hWd
 have HR0 := Lib.hid hR
 clear hT hF hWd B0 B1 B2 kW h0 h1 hR hw hx hq ha
 go_enter_defers Tryz.func40, Tryz.ntmps40
 go_wp2_with fail
 refine HLO.out.mono ?_
 rintro r w1 ⟨rfl, K1⟩
 obtain ⟨bk, hbk⟩ : ∃ b, w1.heap.size = b := ⟨_, rfl⟩
 obtain ⟨X, hX, kX, BX⟩ := Blk.al1 hbk #[.pointer (some ⟨t, 0, none⟩), .int .i64 fc] 141
 have HKX := Lib.hid (K1.trans kX)
 have HBX := Lib.hid BX
 have u := Blk.f (HB0.out.keep (K1.trans kX)) rfl
 have hbk2 : b + 1 + 1 < bk := by have := K1.size; omega
 have hbkX := BX.lt
 clear K1 kX BX hW
 go_upto_region 7 with (first | (go_at_call 45; refine (vek c A m es X (HWD.out.keep HKX.out) (HRR.out.keep HKX.out) HWF.out (by omega)).mono ?_; rintro r w2 ⟨rfl, K2⟩; rw [HQ.out]; have HK2 := Lib.hid K2; have u2 := Blk.f (HB0.out.keep (HKX.out.trans K2)) rfl; clear u K2 hX) | (go_at_call 46; refine (vdu c A m es w2 (HRR.out.keep (HKX.out.trans HK2.out)) (by omega)).mono ?_; rintro r w3 ⟨rfl, K3⟩; rw [HA.out]; have HK3 := Lib.hid (HK2.out.trans K3); clear u2 K3))
 have HKV := Lib.hid (HKX.out.trans HK3.out)
 obtain ⟨V, hVV⟩ : ∃ V, w3 = V := ⟨_, rfl⟩
 rw [hVV] at HKV HK3 ⊢
 have hsV : W.heap.size ≤ V.heap.size := HKV.out.size
 have HDB := Lib.hid (HB0.out.keep HKV.out)
 have HRB := Lib.hid (HB1.out.keep HKV.out)
 have HEB := Lib.hid (HB2.out.keep HKV.out)
 have HLB := Lib.hid (HBX.out.keep HK3.out)
 have HTV := Lib.hid (HTT.out.keep HKV.out)
 have HWV := Lib.hid (HWD.out.keep HKV.out)
 have HRV := Lib.hid (HRR.out.keep HKV.out)
 clear hVV
 obtain ⟨na, hna⟩ : ∃ n, (asksL es).length = n := ⟨_, rfl⟩
 have hna2 : na ≤ 900000 := by have := vfh es; omega
 obtain ⟨PL, hPL⟩ : ∃ l, (asksL es).map (·.1) = l := ⟨_, rfl⟩
 obtain ⟨EL, hEL⟩ : ∃ l, PL.map (ansE T fc) = l := ⟨_, rfl⟩
 have HANS : Hid (answL T fc es = EL) := Lib.hid (by unfold answL; rw [hPL, hEL])
 have hPLn : PL.length = na := by rw [← hPL, List.length_map, hna]
 have hELn : EL.length = na := by rw [← hEL, List.length_map, hPLn]
 have HPM : Hid (∀ p ∈ PL, p.a < 4294967296 ∧ 0 ≤ p.l ∧ p.l ≤ 32) := Lib.hid (fun p hp => by
  rw [← hPL] at hp
  obtain ⟨x, hx, rfl⟩ := List.mem_map.1 hp
  exact HAM.out x hx)
 have HEM : Hid (∀ e ∈ EL, e.wf ∧ okEn e = true) := Lib.hid (fun e he => by
  rw [← hEL] at he
  obtain ⟨p, hp, rfl⟩ := List.mem_map.1 he
  exact vlC HX.out fc (HPM.out p hp).1 (HPM.out p hp).2)
 obtain ⟨LL, hLL⟩ : ∃ l, (piecesE EL).map (bytesD 2) = l := ⟨_, rfl⟩
 have HN1 := Lib.hid hna
 have HN2 := Lib.hid hPL
 have HN3 := Lib.hid hEL
 have HN4 := Lib.hid hLL
 have HN5 := Lib.hid hPLn
 have HN6 := Lib.hid hELn
 clear hna hPL hEL hLL hPLn hELn
 have HRO : Hid (∀ V9, Only [b + 1, b + 1 + 1] V V9 → Rd V9 6 En.enc A es) := Lib.hid (fun V9 hO i hi => by
  obtain ⟨g, off, e, hc⟩ := HR0.out i hi
  have hg := World.block_lt_of_cell? w _ (hc 0 _ rfl)
  exact ⟨g, off, e, fun j u hu => hO.cell ((HKW.out.trans HKV.out).cell (hc j u hu)) (by simp at hg ⊢; omega)⟩)
 have HTO : Hid (∀ V9, Only [b + 1, b + 1 + 1] V V9 → TabM V9 B t F T) := Lib.hid (fun V9 hO => HTV.out.turn hO (fun x hx => by
  simp only [List.mem_cons, List.not_mem_nil, or_false] at hx
  rcases hx with rfl | rfl
  ·exact ⟨fun z => by have := HTL.out _ z; omega, _, _, HRB.out, by decide⟩
  ·exact ⟨fun z => by have := HTL.out _ z; omega, _, _, HEB.out, by decide⟩))
 have HWO : Hid (∀ V9, Only [b + 1, b + 1 + 1] V V9 → WidAt V9) := Lib.hid (fun V9 hO => by
  obtain ⟨w0, w1, w2⟩ := HW0.out
  have hg := World.block_lt_of_cell? w _ w0
  have hk := HKW.out.trans HKV.out
  exact ⟨hO.cell (hk.cell w0) (by simp at hg ⊢; omega), hO.cell (hk.cell w1) (by simp at hg ⊢; omega), hO.cell (hk.cell w2) (by simp at hg ⊢; omega)⟩)
 refine' vau (fun (z : AnZ) L V9 => Only [b + 1, b + 1 + 1] V V9 ∧ (L 1 = true → Own V9 V.heap.size 116 3 akE (.slice z.A1 na z.m1) (asksL es)) ∧ (L 2 = true → Own V9 V.heap.size 39 2 PI.enc (.slice z.A2 na z.m2) PL) ∧ (L 5 = true → Own V9 V.heap.size 66 6 En.enc (.slice z.A5 na z.m5) EL) ∧ (L 6 = true → ∃ qs, qs.length = z.n6 ∧ BsN V.heap.size V9 (.slice z.A6 z.n6 z.m6) qs LL) ∧ Blk V9 (b + 1) 59 #[bif L 7 then .slice z.A6 z.n6 z.m6 else .slice none 0 0] ∧ Blk V9 (b + 1 + 1) 44 #[.int .i64 0]) [24, 25, 26, 27, 28, 29, 30, 10007, 10008] (fun z => [dgV c A es.length m, .slice z.A1 na z.m1, .slice z.A2 na z.m2, looV t fc, .func (.func 106) #[looV t fc] #[], .slice z.A5 na z.m5, .slice z.A6 z.n6 z.m6, undef, undef]) (List.replicate 9 true) [1, 2, 5, 6, 7] (by kernel_rfl) (by kernel_rfl) (fun _ => rfl) (fun _ => rfl) (fun _ => rfl) ⟨none, 0, none, 0, none, 0, none, 0, 0⟩ ⟨(Only.refl _ V).drew, fun h => (by cases h), fun h => (by cases h), fun h => (by cases h), fun h => (by cases h), HRB.out.drew, HEB.out.drew⟩ (fun _ L L' _ e h => by simpa only [e 1 (by simp), e 2 (by simp), e 5 (by simp), e 6 (by simp), e 7 (by simp)] using h) ?_ ?_ ?_
 rotate_left
 ·intro z; simp only [List.zip_cons_cons, List.zip_nil_right, wrC, wrN, List.set_cons_zero, List.set_cons_succ, List.set_nil]; rfl
 ·repeat' (first | refine And.intro ?_ ?_ | exact trivial)
  all_goals intro z L a w9 hLi d hcl hM hO K hK
  all_goals have u := Blk.f (HDB.out.only hM.1 (by simp; omega)) rfl
  all_goals have c2 := Blk.f (HLB.out.only hM.1 (by simp; omega)) rfl
  all_goals try (go_simp; exact hK z _ _ (hO rfl) (fun _ _ => rfl) rfl)
  ·go_simp
   have n2 : L 2 = false := vac _ hcl (i := 2) rfl (by rfl) hLi
   have n5 : L 5 = false := vac _ hcl (i := 5) rfl (by rfl) n2
   have n6 : L 6 = false := vac _ hcl (i := 6) rfl (by rfl) n5
   have n7 : L 7 = false := vac _ hcl (i := 7) rfl (by rfl) n6
   have hc9 := vel c A m es w9 (HRO.out w9 hM.1) HWF.out hn
   rw [HN1.out] at hc9
   refine hc9.mono ?_
   rintro e9 wb ⟨A9, m9, rfl, hO9, KK⟩
   exact hK { z with A1 := A9, m1 := m9 } _ _ ⟨hM.1.trans (Only.of_kp KK), fun h => hO9.mono hM.1.size, fun h => (hM.2.2.1 (by simpa using h)).keep KK, fun h => (hM.2.2.2.1 (by simpa using h)).keep KK, fun h => by obtain ⟨qs, q1, q2⟩ := hM.2.2.2.2.1 (by simpa using h); exact ⟨qs, q1, q2.only (bs := []) (Only.of_kp KK) (by simp)⟩, by simpa [n7] using hM.2.2.2.2.2.1.keep KK, hM.2.2.2.2.2.2.keep KK⟩ (but1 hLi rfl) rfl
  ·have d1 := hM.2.1 (d 1 rfl)
   go_simp
   have n5 : L 5 = false := vac _ hcl (i := 5) rfl (by rfl) hLi
   have n6 : L 6 = false := vac _ hcl (i := 6) rfl (by rfl) n5
   have n7 : L 7 = false := vac _ hcl (i := 7) rfl (by rfl) n6
   have hc9 := vhy (·.1) z.A1 z.m1 (asksL es) w9 (d1.rdAt (by decide) vht) (fun x _ W _ => vkY x W) (by rw [HN1.out]; exact hna2)
   rw [HN1.out, HN2.out] at hc9
   refine hc9.mono ?_
   rintro e9 wb ⟨A9, m9, rfl, hO9, KK⟩
   exact hK { z with A2 := A9, m2 := m9 } _ _ ⟨hM.1.trans (Only.of_kp KK), fun h => (hM.2.1 (by simpa using h)).keep KK, fun h => hO9.mono hM.1.size, fun h => (hM.2.2.2.1 (by simpa using h)).keep KK, fun h => by obtain ⟨qs, q1, q2⟩ := hM.2.2.2.2.1 (by simpa using h); exact ⟨qs, q1, q2.only (bs := []) (Only.of_kp KK) (by simp)⟩, by simpa [n7] using hM.2.2.2.2.2.1.keep KK, hM.2.2.2.2.2.2.keep KK⟩ (but1 hLi rfl) rfl
  ·have d2 := hM.2.2.1 (d 2 rfl)
   go_simp
   have n6 : L 6 = false := vac _ hcl (i := 6) rfl (by rfl) hLi
   have n7 : L 7 = false := vac _ hcl (i := 7) rfl (by rfl) n6
   have hc9 := vhx t fc (ansE T fc) z.A2 z.m2 PL w9 (d2.rdAt (by decide) PI.len) (fun p hp W2 hW2 => vjd B t F T fc p W2 ((HTO.out w9 hM.1).keep hW2) ⟨(HPM.out p hp).1, by have := (HPM.out p hp).2; unfold wfI; omega⟩ HX.out.two) (by rw [HN5.out]; exact hna2)
   rw [HN5.out, HN3.out] at hc9
   refine hc9.mono ?_
   rintro e9 wb ⟨A9, m9, rfl, hO9, KK⟩
   exact hK { z with A5 := A9, m5 := m9 } _ _ ⟨hM.1.trans (Only.of_kp KK), fun h => (hM.2.1 (by simpa using h)).keep KK, fun h => (hM.2.2.1 (by simpa using h)).keep KK, fun h => hO9.mono hM.1.size, fun h => by obtain ⟨qs, q1, q2⟩ := hM.2.2.2.2.1 (by simpa using h); exact ⟨qs, q1, q2.only (bs := []) (Only.of_kp KK) (by simp)⟩, by simpa [n7] using hM.2.2.2.2.2.1.keep KK, hM.2.2.2.2.2.2.keep KK⟩ (but1 hLi rfl) rfl
  ·have d5 := hM.2.2.2.1 (d 5 rfl)
   go_simp
   have n7 : L 7 = false := vac _ hcl (i := 7) rfl (by rfl) hLi
   have hc9 := vfg z.A5 z.m5 EL w9 (HWO.out w9 hM.1) (d5.rdAt (by decide) En.enc_len) (fun e he => (HEM.out e he).1) (List.all_eq_true.2 (fun e he => (HEM.out e he).2)) (by rw [HN6.out]; exact hna2) (vex d5)
   rw [HN6.out, HN4.out] at hc9
   refine hc9.mono ?_
   rintro e9 wb ⟨v9, qs9, rfl, hP9⟩
   obtain ⟨A9, m9, hv9⟩ := hP9.own.form
   subst hv9
   have KK := hP9.kp
   have hP8 := hP9.n.mono hM.1.size
   exact hK { z with A6 := A9, n6 := qs9.length, m6 := m9 } _ _ ⟨hM.1.trans (Only.of_kp KK), fun h => (hM.2.1 (by simpa using h)).keep KK, fun h => (hM.2.2.1 (by simpa using h)).keep KK, fun h => (hM.2.2.2.1 (by simpa using h)).keep KK, fun h => ⟨qs9, rfl, hP8⟩, by simpa [n7] using hM.2.2.2.2.2.1.keep KK, hM.2.2.2.2.2.2.keep KK⟩ (but1 hLi rfl) rfl
  ·have d6 := hM.2.2.2.2.1 (d 6 rfl)
   have hR9 := hM.2.2.2.2.2.1
   rw [hLi] at hR9
   simp only [cond_false] at hR9
   have y := Blk.f (l := [.slice none 0 0]) hR9 rfl
   have f := Blk.frozen hR9
   have OS : Only [b + 1, b + 1 + 1] w9 (w9.setCell ⟨b + 1, 0, none⟩ (.slice z.A6 z.n6 z.m6)) := (Only.refl _ w9).setCell (p := ⟨b + 1, 0, none⟩) (.inl (by simp)) _
   have hfr : ∀ x ∈ [b + 1, b + 1 + 1], x < V.heap.size := by simp; omega
   go_simp
   exact hK z _ _ ⟨hM.1.trans OS, fun h => (hM.2.1 (by simpa using h)).only OS hfr, fun h => (hM.2.2.1 (by simpa using h)).only OS hfr, fun h => (hM.2.2.2.1 (by simpa using h)).only OS hfr, fun h => by (obtain ⟨qs, q1, q2⟩ := hM.2.2.2.2.1 (by simpa using h); exact ⟨qs, q1, q2.only OS hfr⟩), by simpa using hR9.set_ 0 (.slice z.A6 z.n6 z.m6), hM.2.2.2.2.2.2.far (p := ⟨b + 1, 0, none⟩) (by show b + 1 + 1 ≠ b + 1; omega) _⟩ (fun _ _ => rfl) rfl
  ·have y := Blk.f (l := [.int .i64 0]) hM.2.2.2.2.2.2 rfl
   have f := Blk.frozen hM.2.2.2.2.2.2
   have OS : Only [b + 1, b + 1 + 1] w9 (w9.setCell ⟨b + 1 + 1, 0, none⟩ (.int .i64 0)) := (Only.refl _ w9).setCell (p := ⟨b + 1 + 1, 0, none⟩) (.inl (by simp)) _
   have hfr : ∀ x ∈ [b + 1, b + 1 + 1], x < V.heap.size := by simp; omega
   go_simp
   exact hK z _ _ ⟨hM.1.trans OS, fun h => (hM.2.1 (by simpa using h)).only OS hfr, fun h => (hM.2.2.1 (by simpa using h)).only OS hfr, fun h => (hM.2.2.2.1 (by simpa using h)).only OS hfr, fun h => by (obtain ⟨qs, q1, q2⟩ := hM.2.2.2.2.1 (by simpa using h); exact ⟨qs, q1, q2.only OS hfr⟩), by simpa using hM.2.2.2.2.2.1.far (p := ⟨b + 1 + 1, 0, none⟩) (by show b + 1 ≠ b + 1 + 1; omega) _, hM.2.2.2.2.2.2.set_ 0 (.int .i64 0)⟩ (fun _ _ => rfl) rfl
 intro z L w9 hL hM
 (try simp only [Exit.then])
 obtain ⟨qs, hq1, hP⟩ := hM.2.2.2.2.1 (hL 6 (by decide))
 have R9 := hM.2.2.2.2.2.1
 rw [hL 7 (by decide)] at R9
 simp only [cond_true] at R9
 have E9 := hM.2.2.2.2.2.2
 have KQ : Kp w w9 := hM.1.kp (HKW.out.trans HKV.out) (fun x hx => by
  simp only [List.mem_cons, List.not_mem_nil, or_false] at hx
  rcases hx with rfl | rfl <;> omega)
 have HP := Lib.hid (hP.mono (Nat.le_trans HKW.out.size hsV))
 have HE9 := Lib.hid E9
 have HR9 := Lib.hid R9
 have HKQ := Lib.hid KQ
 obtain ⟨A6, n6, m6, hz⟩ : ∃ A6 n6 m6, z.A6 = A6 ∧ z.n6 = n6 ∧ z.m6 = m6 := ⟨_, _, _, rfl, rfl, rfl⟩
 clear hM hL hP R9 E9 KQ hz hq1
 go_wp2_with fail
 refine leaves_cons (f := 102) (args := #[.pointer (some ⟨b + 1, 0, none⟩), .pointer (some ⟨b + 1 + 1, 0, none⟩)]) (by simp) (by simp [go_sem]) ?_
 refine (vhN _ _ _).mono ?_
 rintro e u' wz ⟨rfl, rfl, rfl⟩
 have q0 : wz.cell? ⟨b + 1, 0, none⟩ = some (.slice z.A6 z.n6 z.m6) := HR9.out.cell 0
 have q1 : wz.cell? ⟨b + 1 + 1, 0, none⟩ = some (.int .i64 0) := HE9.out.cell 0
 show Leaves _ _ _ _ [] .returning _
 exact ⟨.tuple #[.slice z.A6 z.n6 z.m6, .int .i64 0], by simp [results, Tryz.results40, go_sem, q0, q1], _, _, rfl, by rw [HANS.out, HN4.out]; exact HP.out, HKQ.out⟩
attribute [local go_sem] Oper.semAt_some
structure AskM (bx : Nat) (A : Option Addr) (m : Nat) (xs : List (PI × Nat)) (W : World) : Prop where
 bk : Blk W bx 112 #[.slice A xs.length m]
 rd : Rd W 3 akE A xs
theorem AskM.keep {bx m : Nat} {A : Option Addr} {xs : List (PI × Nat)} {W W' : World} (h : AskM bx A m xs W) (k : Kp W W') : AskM bx A m xs W' := ⟨h.bk.keep k, h.rd.keep k⟩
def askV (bx : Nat) : Value := .func (.func 48) #[] #[.pointer (some ⟨bx, 0, none⟩)]
def askedL (c : Int) (es : List En) : List (PI × Nat) := if isReqB c es && !asksB c es then asksL es else []
set_option maxRecDepth 100000 in
theorem vhP (c : Int) (A : Option Addr) (m : Nat) (es : List En) (w : World) (hW : WidAt w) (hR : Rd w 6 En.enc A es) (hw : ∀ e ∈ es, e.wf) (hn : es.length ≤ 900000) : Calls Tryz.prog 12 #[dgV c A es.length m] w fun r w' => ∃ bx A2 m2, r = .returned (askV bx) ∧ AskM bx A2 m2 (askedL c es) w' ∧ w.heap.size ≤ bx ∧ (∀ a, A2 = some a → w.heap.size ≤ a.block) ∧ Kp w w' := by
 obtain ⟨b, hb⟩ : ∃ b, w.heap.size = b := ⟨_, rfl⟩
 obtain ⟨W, hWq, kW, B0, B1⟩ := Blk.al2 hb #[.int .i64 c, .slice A es.length m] 30 #[.slice none 0 0] 112
 have HQ := Lib.hid (vek c A m es W (hW.keep kW) (hR.keep kW) hw (by omega))
 have HB0 := Lib.hid B0
 have HB1 := Lib.hid B1
 have HRR := Lib.hid (hR.keep kW)
 have HK := Lib.hid kW
 have HWF := Lib.hid hw
 have u := Blk.f B0 rfl
 have hbs : w.heap.size ≤ b + 1 := by omega
 have hb1 : b + 1 < W.heap.size := B1.lt
 obtain ⟨q, hq⟩ : ∃ q, isReqB c es = q := ⟨_, rfl⟩
 obtain ⟨a, ha⟩ : ∃ a, asksB c es = a := ⟨_, rfl⟩
 have HL : Hid (askedL c es = if q && !a then asksL es else []) := Lib.hid (by unfold askedL; rw [hq, ha])
 have HAA := Lib.hid ha
 rw [hq] at HQ
 clear hW hR hw B0 B1 kW hq ha
 cases q
 ·have HZ : Hid (askedL c es = []) := Lib.hid (by rw [HL.out]; rfl)
  go_enter Tryz.func12, Tryz.ntmps12
  go_wp2_with (first | (go_at_call 45; refine HQ.out.mono ?_; rintro r w1 ⟨rfl, K1⟩; have HK1 := Lib.hid K1; clear u K1 hWq))
  go_ret
  exact ⟨b + 1, none, 0, rfl, ⟨by rw [HZ.out]; exact HB1.out.keep HK1.out, by rw [HZ.out]; exact Rd.nil _ _ _ _⟩, hbs, (fun a h => by cases h), HK.out.trans HK1.out⟩
 ·cases a
  ·have HZ : Hid (askedL c es = asksL es) := Lib.hid (by rw [HL.out]; rfl)
   go_enter Tryz.func12, Tryz.ntmps12
   go_upto_region 3 with (first | (go_at_call 45; refine HQ.out.mono ?_; rintro r w1 ⟨rfl, K1⟩; have HK1 := Lib.hid K1; have u1 := Blk.f (HB0.out.keep K1) rfl; clear u K1 hWq) | (go_at_call 46; refine (vdu c A m es w1 (HRR.out.keep HK1.out) (by omega)).mono ?_; rintro r w3 ⟨rfl, K3⟩; rw [HAA.out]; have HK3 := Lib.hid (HK1.out.trans K3); have u3 := Blk.f (HB0.out.keep HK3.out) rfl; clear u1 K3))
   have HAS := Lib.hid (vel c A m es w3 (HRR.out.keep HK3.out) HWF.out hn)
   go_wp2_with fail
   refine HAS.out.mono ?_
   rintro r w4 ⟨A2, m2, rfl, hO, K4⟩
   have k4 := HK3.out.trans K4
   have E1 := HB1.out.keep k4
   have y := Blk.f E1 rfl
   have f := Blk.frozen E1
   have hs3 := HK3.out.size
   obtain ⟨Q, hQ, Q1, KQ, OQ⟩ : ∃ R, w4.setCell ⟨b + 1, 0, none⟩ (.slice A2 (asksL es).length m2) = R ∧ Blk R (b + 1) 112 #[.slice A2 (asksL es).length m2] ∧ Kp w R ∧ Only [b + 1] w4 R := ⟨_, rfl, E1.set_ 0 _, (HK.out.trans k4).setCell (p := ⟨b + 1, 0, none⟩) hbs _, (Only.refl _ w4).setCell (p := ⟨b + 1, 0, none⟩) (.inl (by simp)) _⟩
   have hRd := (hO.rdAt (by decide) vht).onlyB OQ (fun a ha => by have := vds hO a ha; simp; omega)
   have HRd := Lib.hid hRd
   have HA2 : Hid (∀ a, A2 = some a → w.heap.size ≤ a.block) := Lib.hid (fun a ha => by have := vds hO a ha; omega)
   have HQ1 := Lib.hid Q1
   have HKQ := Lib.hid KQ
   clear k4 E1 hO OQ hRd Q1 KQ K4 u3
   go_wp2_with fail
   go_ret
   exact ⟨b + 1, A2, m2, rfl, ⟨by rw [HZ.out]; exact HQ1.out, by rw [HZ.out]; exact HRd.out⟩, hbs, HA2.out, HKQ.out⟩
  ·have HZ : Hid (askedL c es = []) := Lib.hid (by rw [HL.out]; rfl)
   go_enter Tryz.func12, Tryz.ntmps12
   go_wp2_with (first | (go_at_call 45; refine HQ.out.mono ?_; rintro r w1 ⟨rfl, K1⟩; have HK1 := Lib.hid K1; have u1 := Blk.f (HB0.out.keep K1) rfl; clear u K1 hWq) | (go_at_call 46; refine (vdu c A m es w1 (HRR.out.keep HK1.out) (by omega)).mono ?_; rintro r w3 ⟨rfl, K3⟩; rw [HAA.out]; have HK3 := Lib.hid (HK1.out.trans K3); clear u1 K3))
   go_ret
   exact ⟨b + 1, none, 0, rfl, ⟨by rw [HZ.out]; exact HB1.out.keep HK3.out, by rw [HZ.out]; exact Rd.nil _ _ _ _⟩, hbs, (fun a h => by cases h), HK.out.trans HK3.out⟩
def akAt (xs : List (PI × Nat)) (k : Nat) : PI × Nat := xs.getD k (⟨0, 0⟩, 0)
theorem vlb {xs : List (PI × Nat)} {k : Nat} (h : k < xs.length) : akAt xs k = xs[k] := by simp [akAt, List.getD, h]
theorem veJ (args : Array Value) (w : World) : (callFunc 48 args).run Tryz.prog w = .ok (.enter 48 args) w := by kernel_rfl
set_option maxRecDepth 100000 in
theorem veK (bx : Nat) (A : Option Addr) (m : Nat) (xs : List (PI × Nat)) (hn : xs.length ≤ 1000000) :
  Iter Tryz.prog 48 #[.pointer (some ⟨bx, 0, none⟩)] xs.length (fun k => #[.int .i64 ((akAt xs k).2 : Nat), .agg #[.int .u32 ((akAt xs k).1.a : Int), .int .i64 (akAt xs k).1.l]]) (AskM bx A m xs) := by
 intro l I Z W hI hZ hM hy h0
 have HI := Lib.hid hI; clear hI
 have HZ := Lib.hid hZ; clear hZ
 have HM := Lib.hid hM; clear hM
 have HY := Lib.hid hy; clear hy
 obtain ⟨N, hN⟩ : ∃ N, xs.length = N := ⟨_, rfl⟩
 have HN := Lib.hid hN
 have c0 := Blk.f (HM.out 0 W h0).bk rfl
 rw [hN] at HY hn c0 ⊢
 clear hN
 have H0 := Lib.hid h0; clear h0
 go_enter Tryz.func48, Tryz.ntmps48
 go_wp2_with fail
 refine vaa 0 rfl ?_
 go_wp2_with fail
 refine wp_label ?_
 go_wp2_with fail
 go_loopw [7] (fun i wr => ∃ k : Nat, k ≤ N ∧ i = .int .i64 k ∧ Hid (I k wr)) (fun i _ => N - (intOf i).toNat)
 case atStart => exact ⟨0, Nat.zero_le _, rfl, H0⟩
 case round =>
  obtain ⟨k, hk, rfl, hi⟩ := hrel
  have D := HM.out k wr hi.out
  by_cases hlt : k < N
  ·have hke : k < xs.length := by rw [HN.out]; exact hlt
   obtain ⟨b, off, hA, x0, x1, x2⟩ := ak_at D.rd hke
   subst hA
   rw [← vlb hke] at x0 x1 x2
   clear D c0
   obtain ⟨W2, hW2, k2, B2⟩ := Blk.al1 (w := wr) rfl #[.int .u32 ((akAt xs k).1.a : Int), .int .i64 (akAt xs k).1.l, .int .i64 ((akAt xs k).2 : Nat)] 116
   have Hi2 : Hid (I k W2) := Lib.hid (HI.out k _ _ hi.out k2)
   obtain ⟨fn, tmps, asg, bd, hrun, hround⟩ := HY.out k _ hlt Hi2.out
   obtain ⟨r, hr⟩ : ∃ r, akAt xs k = r := ⟨_, rfl⟩
   rw [hr] at x0 x1 x2 hrun hW2 B2
   have y := Blk.f B2 rfl
   clear hr
   go_upto_region 3 with (fail)
   clear hW2
   refine (wpIn_wide (n := 0)).1 ?_
   gi_wp2_with fail
   refine ⟨rfl, hround.mono ?_⟩
   clear hrun hround
   rintro e W' (⟨rfl, hi2⟩ | ⟨rfl, hz⟩)
   ·have Hi3 := Lib.hid hi2; clear hi2
    gi_wp2_with fail
    go_wp2_with fail
    go_roundw
    case rel => exact ⟨k + 1, by omega, by go_num, Hi3⟩
    case measure => simp [intOf]; omega
   ·have Hz := Lib.hid hz; clear hz
    gi_wp2_with fail
    go_wp2_with fail
    refine vcf ?_
    go_end0
    exact ⟨rfl, .inr ⟨k + 1, by omega, by omega, Hz.out⟩⟩
  ·obtain rfl : k = N := by omega
   go_wp2_with fail
   refine vcf ?_
   go_end0
   exact ⟨rfl, .inl hi.out⟩
set_option maxRecDepth 100000 in
theorem vbT (A B : Option Addr) (m n : Nat) (es fs : List En) (w : World) (hR : Rd w 6 En.enc A es) (hS : Rd w 6 En.enc B fs) (hn : es.length ≤ 1000000) (hq : es = fs) : Calls Tryz.prog 41 #[.slice A es.length m, .slice B fs.length n] w fun r w' => r = .returned (.bool true) ∧ Kp w w' := by
 subst hq
 have HR := Lib.hid hR
 have HS := Lib.hid hS
 clear hR hS
 go_enter Tryz.func41, Tryz.ntmps41
 go_wp2_with fail
 go_loopw [5] (fun i wr => ∃ j : Nat, j ≤ es.length ∧ i = .int .i64 j ∧ Kp w wr) (fun i _ => es.length - (intOf i).toNat)
 case atStart => exact ⟨0, Nat.zero_le _, rfl, Kp.refl _⟩
 case round =>
  obtain ⟨j, hj, rfl, hK⟩ := hrel
  by_cases hlt : j < es.length
  ·have hj1 : (j : Int) < (es.length : Int) := by omega
   have hj0 : (0 : Int) ≤ (j : Int) := by omega
   obtain ⟨g, off, hA, x0, x1, x2, x3, x4, x5⟩ := en_at (HR.out.keep hK) hlt
   obtain ⟨g2, off2, hB, y0, y1, y2, y3, y4, y5⟩ := en_at (HS.out.keep hK) hlt
   subst hA hB
   obtain ⟨e, he⟩ : ∃ e, es[j] = e := ⟨_, rfl⟩
   rw [he] at x0 x1 x2 x3 x4 x5 y0 y1 y2 y3 y4 y5
   have hne := vlt e e
   rw [decide_eq_true rfl] at hne
   have HX := Lib.hid (And.intro x0 (And.intro x1 (And.intro x2 (And.intro x3 (And.intro x4 x5)))))
   have HY := Lib.hid (And.intro y0 (And.intro y1 (And.intro y2 (And.intro y3 (And.intro y4 y5)))))
   clear he x0 x1 x2 x3 x4 x5 y0 y1 y2 y3 y4 y5
   go_upto_region 6 with (fail)
   refine' vau (fun (_ : Unit) _ V9 => Kp _ V9) [17, 18, 19, 20, 21, 22, 23, 24, 25] (fun (_ : Unit) => [.slice (some ⟨g, off, none⟩) es.length m, .int .i64 (j : Nat), .pointer (some ⟨g, off + j * 6, none⟩), .agg #[.int .i64 e.f, .int .i64 e.t, .int .u32 (e.a : Int), .int .u32 (e.m : Int), .int .u32 (e.n : Int), .int .u32 (e.k : Int)], .slice (some ⟨g2, off2, none⟩) es.length n, .int .i64 (j : Nat), .pointer (some ⟨g2, off2 + j * 6, none⟩), .agg #[.int .i64 e.f, .int .i64 e.t, .int .u32 (e.a : Int), .int .u32 (e.m : Int), .int .u32 (e.n : Int), .int .u32 (e.k : Int)], .bool false]) (List.replicate 9 true) [] (by kernel_rfl) (by kernel_rfl) (fun _ => rfl) (fun _ => rfl) (fun _ => rfl) () (Kp.refl _).drew (fun _ _ _ _ _ h => h) ?_ ?_ ?_
   rotate_left
   ·intro z; simp only [List.zip_cons_cons, List.zip_nil_right, wrC, wrN, List.set_cons_zero, List.set_cons_succ, List.set_nil]; rfl
   ·repeat' (first | refine And.intro ?_ ?_ | exact trivial)
    all_goals intro z L a w9 hLi d hcl hM hO K hK
    all_goals try (go_simp; exact hK z _ _ (hO rfl) (fun _ _ => rfl) rfl)
    ·have x0 := hM.cell HX.out.1
     have x1 := hM.cell HX.out.2.1
     have x2 := hM.cell HX.out.2.2.1
     have x3 := hM.cell HX.out.2.2.2.1
     have x4 := hM.cell HX.out.2.2.2.2.1
     have x5 := hM.cell HX.out.2.2.2.2.2
     go_simp
     exact hK z _ _ (hO rfl) (fun _ _ => rfl) rfl
    ·have y0 := hM.cell HY.out.1
     have y1 := hM.cell HY.out.2.1
     have y2 := hM.cell HY.out.2.2.1
     have y3 := hM.cell HY.out.2.2.2.1
     have y4 := hM.cell HY.out.2.2.2.2.1
     have y5 := hM.cell HY.out.2.2.2.2.2
     go_simp
     exact hK z _ _ (hO rfl) (fun _ _ => rfl) rfl
   intro z L w9 hL KV
   (try simp only [Exit.then])
   go_wp2_with fail
   go_roundw
   case rel => exact ⟨j + 1, by omega, by go_num, hK.trans KV⟩
   case measure => simp [intOf]; omega
  ·obtain rfl : j = es.length := by omega
   go_wp2_with fail
   go_ret
   exact ⟨rfl, hK⟩
end

end Go.Proofs.YtgopnfacklmkaaaGreatDoor
