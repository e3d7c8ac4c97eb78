/- Lemmas and contracts for the theorem of this claim: RbV. -/
import Derived.Test.YtgopnfacklmkaaaGreatDoorZzAr
import Derived.StillTailTactics
set_option linter.all false
set_option maxHeartbeats 16000000
namespace Go.Proofs.YtgopnfacklmkaaaGreatDoor
section
open Go.RowKit Go.Maps
theorem RTellP.split0 {n : Int} {x : Rt} {w w' : World} {e : Ending} (h : RTellP n x w e w') (hn : n = 0) : e = .returned (.tuple #[roV x, .int .i64 0]) ∧ Kp w w' := by
 subst hn
 obtain ⟨h1, h2⟩ := h
 rw [if_pos rfl] at h1
 exact ⟨h1, h2⟩
theorem RTellP.splitN {n k : Int} {x : Rt} {w w' : World} {e : Ending} (h : RTellP n x w e w') (hn : n = k) (hk : ¬ k = 0) : e = .returned (.tuple #[roV zeroR, .int .i64 k]) ∧ Kp w w' := by
 subst hn
 obtain ⟨h1, h2⟩ := h
 rw [if_neg hk] at h1
 exact ⟨h1, h2⟩
theorem Only.thenNew {F bs : List Nat} {w w1 w2 : World} (h : Only F w w1) (k : Only bs w1 w2) (hb : ∀ b ∈ bs, w.heap.size ≤ b) : Only F w w2 :=
 ⟨k.os.trans h.os, k.tape.trans h.tape, k.output.trans h.output, Nat.le_trans h.size k.size, fun i hi hn => (k.block i (Nat.lt_of_lt_of_le hi h.size) (fun e => by have := hb i e; omega)).trans (h.block i hi hn)⟩
theorem vjL {w : World} {B n c : Nat} {A : Option Addr} {ps : List PI} (h : Own w B 39 2 PI.enc (.slice A n c) ps) {g : Nat} {ty : TypeId} {cs : Array Value} (hB : Blk w g ty cs) (ht : ty ≠ 39) : ∀ a, A = some a → a.block ≠ g := by
 rintro a rfl e
 rcases h.2 with ⟨hv, _⟩ | ⟨g', cap, cur, hv, _, hc, _⟩
 ·cases hv
 ·injection hv with e1
  injection e1 with e1
  rw [e1] at e
  have e : g' = g := e
  rw [e] at hc
  unfold Blk at hB
  rw [hB] at hc
  injection hc with hc
  injection hc with _ hc
  exact ht hc
theorem TabM.turn {w w' : World} {B t : Nat} {F bs : List Nat} {T : Tb} (h : TabM w B t F T) (k : Only bs w w') (hb : ∀ b ∈ bs, b ∉ F ∧ ∃ ty cs, Blk w b ty cs ∧ ty ≠ 39) : TabM w' B t F T := by
 obtain ⟨q, mp, m, A, QF, l, rfl, X⟩ := h
 exact ⟨q, mp, m, A, QF, l, rfl, X.only k (fun b e => (hb b e).1) (fun a e z => by obtain ⟨_, ty, cs, h1, h2⟩ := hb _ z; exact vjL X.ow h1 h2 a e rfl)⟩
theorem TabT.stop {w Ws wz : World} {B t : Nat} {F F' bs : List Nat} {T : Tb} (hO : Only F w Ws) (h : TabM Ws B t F' T) (hF : ∀ b ∈ F', b ∈ F ∨ w.heap.size ≤ b) (k : Only bs Ws wz) (hb : ∀ b ∈ bs, w.heap.size ≤ b ∧ b ∉ F' ∧ ∃ ty cs, Blk Ws b ty cs ∧ ty ≠ 39) : TabT w wz B t F T :=
 ⟨F', h.turn k (fun b e => (hb b e).2), hO.thenNew k (fun b e => (hb b e).1), hF⟩
theorem voE {T : Tb} (h : TbOk T) {p : PI} (hp : toldB p = false) : okR (wasR p T.l) = false := by
 unfold wasR
 cases e : getR p T.l with
 | none =>
  show okR (noR p) = false
  unfold okR
  rw [show (noR p).p = p from rfl, hp, Bool.and_false]
 | some r =>
  obtain ⟨h1, h2⟩ := vaP e
  have := ((vaq r).1 (h.r r h1).1).1
  rw [h2, hp] at this
  cases this
theorem vjM {T : Tb} (h : TbOk T) (p : PI) (k : Hd) (now : Int) : askH T.c (wasR p T.l) k now = if toldB p && okHd k then (if okNow now then 0 else 170) else 2 := by
 unfold askH
 rw [h.c, Bool.true_and]
 cases hp : toldB p with
 | true => rw [(vcx h hp).1]
 | false => rw [voE h hp]
theorem vjN {T : Tb} (h : TbOk T) {p : PI} {k : Hd} {now a : Int} (ha : askH T.c (wasR p T.l) k now = a) (h0 : ¬ a = 0) : heardT T p k now = (T, zeroR, a) := by
 rw [vjM h] at ha
 unfold heardT
 cases e : toldB p && okHd k with
 | false => rw [e] at ha; simp only [Bool.false_eq_true, if_false] at ha ⊢; rw [← ha]
 | true =>
  rw [e] at ha
  simp only [if_true] at ha ⊢
  cases e2 : okNow now with
  | true => rw [e2] at ha; simp only [if_true] at ha; exact absurd ha.symm h0
  | false =>
   rw [e2] at ha
   simp only [Bool.false_eq_true, if_false] at ha
   have : timely T now = false := by unfold timely; rw [e2, Bool.false_and]
   rw [this]
   simp only [Bool.false_eq_true, if_false]
   rw [← ha]
theorem vib {T : Tb} (h : TbOk T) {p : PI} {k : Hd} {now : Int} (ha : askH T.c (wasR p T.l) k now = 0) : (toldB p && okHd k) = true ∧ okNow now = true := by
 rw [vjM h] at ha
 cases e : toldB p && okHd k with
 | false => rw [e] at ha; simp at ha
 | true =>
  rw [e] at ha
  cases e2 : okNow now with
  | true => exact ⟨rfl, rfl⟩
  | false => rw [e2] at ha; simp at ha
theorem vic {T : Tb} {p : PI} {k : Hd} {now : Int} (ha : (toldB p && okHd k) = true) (ht : timely T now = false) : heardT T p k now = (T, zeroR, 170) := by
 unfold heardT
 rw [ha, ht]
 rfl
theorem vid {T : Tb} {p : PI} {k : Hd} {now : Int} (ha : (toldB p && okHd k) = true) (ht : timely T now = true) (hf : fullB T p (hearR T.c (wasR p T.l) k now) = true) : heardT T p k now = (⟨T.c, T.l, now, min (T.rf + 1) 2147483647⟩, zeroR, 200) := by
 unfold heardT
 rw [ha, ht, hf]
 rfl
theorem vjO {T : Tb} {p : PI} {k : Hd} {now : Int} (ha : (toldB p && okHd k) = true) (ht : timely T now = true) (hf : fullB T p (hearR T.c (wasR p T.l) k now) = false) : heardT T p k now = (⟨T.c, setR (hearR T.c (wasR p T.l) k now) T.l, now, T.rf⟩, hearR T.c (wasR p T.l) k now, 0) := by
 unfold heardT
 rw [ha, ht, hf]
 rfl
def Hear4 (W : World) (r : Rt) (is : Bool) (s10 s11 : Value) (wx : World) : Prop := ∃ d f, s10 = .pointer (some ⟨d, 0, none⟩) ∧ s11 = .pointer (some ⟨f, 0, none⟩) ∧ Blk wx d 132 (roC r) ∧ Blk wx f 4 #[.bool is] ∧ Kp W wx ∧ W.heap.size ≤ d ∧ W.heap.size ≤ f ∧ d ≠ f
theorem Hear4.a (W : World) (r : Rt) (is : Bool) : Hear4 W r is (.pointer (some ⟨W.heap.size, 0, none⟩)) (.pointer (some ⟨W.heap.size + 1, 0, none⟩)) ((W.alloc (.cells (roC r) 132)).alloc (.cells #[.bool is] 4)).drew :=
 ⟨_, _, rfl, rfl, ((Blk.new _ _ _).alloc _).drew, (Blk.new1 _ _ _ _).drew, (((Kp.refl _).alloc _).alloc _).drew, Nat.le_refl _, by omega, by omega⟩
theorem Hear4.b (W : World) (r : Rt) (is : Bool) : Hear4 W r is (.pointer (some ⟨W.heap.size + 1, 0, none⟩)) (.pointer (some ⟨W.heap.size, 0, none⟩)) ((W.alloc (.cells #[.bool is] 4)).alloc (.cells (roC r) 132)).drew :=
 ⟨_, _, rfl, rfl, (Blk.new1 _ _ _ _).drew, ((Blk.new _ _ _).alloc _).drew, (((Kp.refl _).alloc _).alloc _).drew, by omega, Nat.le_refl _, by omega⟩
def HearP (B t : Nat) (F : List Nat) (T : Tb) (z : Tb × Rt × Int) (w : World) (e : Ending) (w' : World) : Prop := e = .returned (.tuple #[roV z.2.1, .int .i64 z.2.2]) ∧ TabT w w' B t F z.1
theorem HearP.mk {B t : Nat} {F : List Nat} {T T' : Tb} {z : Tb × Rt × Int} {r : Rt} {n : Int} {w w' : World} (h : z = (T', r, n)) (hT : TabT w w' B t F T') : HearP B t F T z w (.returned (.tuple #[roV r, .int .i64 n])) w' := by subst h; exact ⟨rfl, hT⟩
set_option maxRecDepth 100000 in
theorem vjP (B t : Nat) (F : List Nat) (T : Tb) (p : PI) (h : Hd) (now : Int) (w : World) (hM : TabM w B t F T) (hok : TbOk T) (hwf : ∀ r ∈ T.l, r.x < 4294967296) (hown : ∀ k (hk : k < T.c.own.length), T.c.own[k].a < 4294967296) (hC : CapAt w) (hp : wfP p) (hha : h.a < 4294967296) :
  Calls Tryz.prog 14 #[.pointer (some ⟨t, 0, none⟩), pfV p, .agg #[.int .i64 h.f, .int .u32 (h.a : Int), .int .i64 h.m], .int .i64 now] w (HearP B t F T (heardT T p h now) w) := by
 have HM := Lib.hid hM
 obtain ⟨q, mp, m, A, QF, l, hFe, X⟩ := hM
 have hFb : ∀ x ∈ F, x < w.heap.size := fun x hx => (HM.out.lo x hx).2
 have hu := X.u
 have hwp := X.wf
 obtain ⟨b, hb⟩ : ∃ b, w.heap.size = b := ⟨_, rfl⟩
 obtain ⟨W0, hW0, k0, B0, B1, B2⟩ := Blk.al3 hb #[.pointer (some ⟨t, 0, none⟩)] 43 #[.int .u32 (p.a : Int), .int .i64 p.l] 39 #[.int .i64 h.f, .int .u32 (h.a : Int), .int .i64 h.m] 57
 have hs0 : W0.heap.size = b + 1 + 1 + 1 := by rw [← hW0, ← hb]; simp
 obtain ⟨W, hW, kW, C0, C1, C2, C3, C4⟩ : ∃ W, (W0.alloc (.cells zero9 52)).alloc (.cells #[.int .i64 0] 44) = W ∧ Kp w W ∧ Blk W b 43 #[.pointer (some ⟨t, 0, none⟩)] ∧ Blk W (b + 1) 39 #[.int .u32 (p.a : Int), .int .i64 p.l] ∧ Blk W (b + 1 + 1) 57 #[.int .i64 h.f, .int .u32 (h.a : Int), .int .i64 h.m] ∧ Blk W (b + 1 + 1 + 1) 52 zero9 ∧ Blk W (b + 1 + 1 + 1 + 1) 44 #[.int .i64 0] := ⟨_, rfl, (k0.alloc _).alloc _, (B0.alloc _).alloc _, (B1.alloc _).alloc _, (B2.alloc _).alloc _, by rw [← hs0]; exact (Blk.new _ _ _).alloc _, by rw [← hs0]; exact Blk.new1 _ _ _ _⟩
 unfold zero9 at hW
 clear B0 B1 B2 k0
 have hlt := C4.lt
 have XW := X.keep kW
 have hm : W.cell? ⟨t, 10, none⟩ = some (.map (some mp)) := XW.bk.cell 10
 have hlk1 := vdI XW.mr hu hwp hp W.drew rfl
 have hlk2 := fun ob => vdI (XW.mr.keep ((Kp.refl W).alloc ob)) hu hwp hp (W.alloc ob).drew rfl
 have hlk3 := fun ob => vdI (XW.mr.keep ((Kp.refl W).alloc ob)) hu hwp hp (W.alloc ob) rfl
 have hlk4 := fun ob ob2 => vdI (XW.mr.keep (((Kp.refl W).alloc ob).alloc ob2)) hu hwp hp ((W.alloc ob).alloc ob2).drew rfl
 have hlk5 := fun ob ob2 => vdI (XW.mr.keep (((Kp.refl W).alloc ob).alloc ob2)) hu hwp hp ((W.alloc ob).alloc ob2) rfl
 have hm2 : ∀ ob, (W.alloc ob).cell? ⟨t, 10, none⟩ = some (.map (some mp)) := fun ob => ((Kp.refl W).alloc ob).cell hm
 have hm3 : ∀ ob ob2, ((W.alloc ob).alloc ob2).cell? ⟨t, 10, none⟩ = some (.map (some mp)) := fun ob ob2 => (((Kp.refl W).alloc ob).alloc ob2).cell hm
 obtain ⟨r, hr⟩ : ∃ r, (getR p T.l).getD zeroR = r := ⟨_, rfl⟩
 simp only [hr] at hlk1 hlk2 hlk3 hlk4 hlk5
 obtain ⟨is, his⟩ : ∃ is, (getR p T.l).isSome = is := ⟨_, rfl⟩
 simp only [his] at hlk1 hlk2 hlk3 hlk4 hlk5
 have HR := Lib.hid hr
 have HI := Lib.hid his
 have HX := Lib.hid X
 have HFb := Lib.hid hFb
 have HU := Lib.hid hu
 have HWP := Lib.hid hwp
 have HOK := Lib.hid hok
 have HXF := Lib.hid hwf
 have HOW := Lib.hid hown
 have HCA := Lib.hid hC
 have hbm : b < W.heap.size := by omega
 have HFE := Lib.hid hFe
 clear hr his XW X hFb hu hwp hok hwf hown hC hFe
 have c0 : W.cell? ⟨b, 0, none⟩ = some (.pointer (some ⟨t, 0, none⟩)) := C0.cell 0
 have x0 : W.cell? ⟨b + 1, 0, none⟩ = some (.int .u32 (p.a : Int)) := C1.cell 0
 have x1 : W.cell? ⟨b + 1, 1, none⟩ = some (.int .i64 p.l) := C1.cell 1
 have c0' : ∀ ob, (W.alloc ob).cell? ⟨b, 0, none⟩ = some (.pointer (some ⟨t, 0, none⟩)) := fun ob => ((Kp.refl W).alloc ob).cell c0
 have x0' : ∀ ob, (W.alloc ob).cell? ⟨b + 1, 0, none⟩ = some (.int .u32 (p.a : Int)) := fun ob => ((Kp.refl W).alloc ob).cell x0
 have x1' : ∀ ob, (W.alloc ob).cell? ⟨b + 1, 1, none⟩ = some (.int .i64 p.l) := fun ob => ((Kp.refl W).alloc ob).cell x1
 have c0'' : ∀ ob ob2, ((W.alloc ob).alloc ob2).cell? ⟨b, 0, none⟩ = some (.pointer (some ⟨t, 0, none⟩)) := fun ob ob2 => (((Kp.refl W).alloc ob).alloc ob2).cell c0
 have x0'' : ∀ ob ob2, ((W.alloc ob).alloc ob2).cell? ⟨b + 1, 0, none⟩ = some (.int .u32 (p.a : Int)) := fun ob ob2 => (((Kp.refl W).alloc ob).alloc ob2).cell x0
 have x1'' : ∀ ob ob2, ((W.alloc ob).alloc ob2).cell? ⟨b + 1, 1, none⟩ = some (.int .i64 p.l) := fun ob ob2 => (((Kp.refl W).alloc ob).alloc ob2).cell x1
 go_enter_defers Tryz.func14, Tryz.ntmps14
 go_upto_region 4 with (first | (go_at_call 55; refine (vdh t mp _ hm).mono ?_; rintro e w' ⟨rfl, hw'⟩; rw [hw']; clear hw' w'))
 go_cut [10, 11] from 16 (fun s10 s11 wx => Hear4 W r is s10 s11 wx)
 case first =>
  have K : Kp W W.drew := (Kp.refl W).drew
  go_region_held3 (fun w' => w'.cell? ⟨t, 10, none⟩ = some (.map (some mp)) ∧ w'.cell? ⟨b, 0, none⟩ = some (.pointer (some ⟨t, 0, none⟩)) ∧ w'.cell? ⟨b + 1, 0, none⟩ = some (.int .u32 (p.a : Int)) ∧ w'.cell? ⟨b + 1, 1, none⟩ = some (.int .i64 p.l) ∧ (Instr.lookup 123 (.map (some mp)) (pfV p) true).run Tryz.prog w' = .ok (.tuple #[roV r, .bool is]) w')
   (first | exact ⟨hm, c0, x0, x1, hlk1⟩ | exact ⟨hm2 _, c0' _, x0' _, x1' _, hlk2 _⟩ | exact ⟨hm2 _, c0' _, x0' _, x1' _, hlk3 _⟩ | exact ⟨hm3 _ _, c0'' _ _, x0'' _ _, x1'' _ _, hlk4 _ _⟩ | exact ⟨hm3 _ _, c0'' _ _, x0'' _ _, x1'' _ _, hlk5 _ _⟩ | go_keep)
   (fail)
  all_goals
   go_wp2_with fail
   go_meet
   case rel => first | exact Hear4.a W r is | exact Hear4.b W r is
 case rest =>
  obtain ⟨d, f, rfl, rfl, V1, V2, hKV, hd, hf, hdf⟩ := hcut
  clear hlk1 hlk2 hlk3 hlk4 hlk5 hm2 hm3 c0 x0 x1 c0' x0' x1' c0'' x0'' x1'' hm hW hW0
  obtain ⟨y, hy⟩ : ∃ y, wasR p T.l = y := ⟨_, rfl⟩
  have HY := Lib.hid hy
  have kV := kW.trans hKV
  have v0 : wc.cell? ⟨f, 0, none⟩ = some (.bool is) := V2.cell 0
  have E0 := C0.keep hKV
  have E1 := C1.keep hKV
  have E2 := C2.keep hKV
  have E3 := C3.keep hKV
  have E4 := C4.keep hKV
  have hyp : y.p.a < 4294967296 ∧ y.x < 4294967296 := by
   rw [← hy]
   unfold wasR
   cases e : getR p T.l with
   | none => exact ⟨hp.1, (by decide : 0 < 4294967296)⟩
   | some z => exact ⟨(HWP.out z (vaP e).1).1, HXF.out z (vaP e).1⟩
  have HYP := Lib.hid hyp
  clear C0 C1 C2 C3 C4 hy hyp
  rename_i hk9
  refine hk9 _ _ ?_
  clear hk9
  refine wp_seq_k (fun K9 hK9 => ?_)
  go_cut [] from 25 to 29 (fun wx => Blk wx d 132 (roC y) ∧ Blk wx f 4 #[.bool is] ∧ Blk wx b 43 #[.pointer (some ⟨t, 0, none⟩)] ∧ Blk wx (b + 1 + 1) 57 #[.int .i64 h.f, .int .u32 (h.a : Int), .int .i64 h.m] ∧ Blk wx (b + 1 + 1 + 1) 52 zero9 ∧ Blk wx (b + 1 + 1 + 1 + 1) 44 #[.int .i64 0] ∧ Kp w wx)
  case first =>
   cases his : is with
   | true =>
    have hry : r = y := by
     have h1 := HI.out
     rw [his] at h1
     rw [← HR.out, ← HY.out]
     unfold wasR
     cases e : getR p T.l with
     | none => rw [e] at h1; cases h1
     | some z => rfl
    rw [his] at v0 V2
    rw [hry] at V1
    clear hry
    go_wp2_with fail
    go_meet
    case rel => exact ⟨V1, by rw [his]; exact V2, E0, E2, E3, E4, kV⟩
   | false =>
    have hry : y = noR p := by
     have h1 := HI.out
     rw [his] at h1
     rw [← HY.out]
     unfold wasR
     cases e : getR p T.l with
     | none => rfl
     | some z => rw [e] at h1; cases h1
    rw [his] at v0 V2
    have xx0 := Blk.f E1 rfl
    have wd0 := Blk.f V1 rfl
    have wz0 := Blk.frozen V1
    obtain ⟨X9, hX9, N1, N2, J0, J2, J3, J4, kX9⟩ : ∃ X9, roSet wc d (noR p) = X9 ∧ Blk X9 d 132 (roC (noR p)) ∧ Blk X9 f 4 #[.bool false] ∧ Blk X9 b 43 #[.pointer (some ⟨t, 0, none⟩)] ∧ Blk X9 (b + 1 + 1) 57 #[.int .i64 h.f, .int .u32 (h.a : Int), .int .i64 h.m] ∧ Blk X9 (b + 1 + 1 + 1) 52 zero9 ∧ Blk X9 (b + 1 + 1 + 1 + 1) 44 #[.int .i64 0] ∧ Kp w X9 := ⟨_, rfl, Blk.putRo V1 (noR p), Blk.putRo_far V2 (fun z => hdf z.symm) (noR p), Blk.putRo_far E0 (by omega) (noR p), Blk.putRo_far E2 (by omega) (noR p), Blk.putRo_far E3 (by omega) (noR p), Blk.putRo_far E4 (by omega) (noR p), Kp.putRo kV (by omega) (noR p)⟩
    simp only [roSet, noR, Int.natCast_zero] at hX9
    rw [← hry] at N1
    clear hry
    go_wp2_with fail
    go_meet
    case rel => exact ⟨N1, by rw [his]; exact N2, J0, J2, J3, J4, kX9⟩
  case rest =>
   clear v0 V1 V2 E0 E1 E2 E3 E4 kV
   obtain ⟨V1, V2, E0, E2, E3, E4, kV⟩ := hcut
   have HIS := HI
   have XX := HX.out.keep kV
   have g0 := Blk.f XX.bk rfl
   have e0 := Blk.f V1 rfl
   have n0 := Blk.f E2 rfl
   have c0 := Blk.f E0 rfl
   have HSL := Lib.hid (SlPI.of_own XX.ow)
   have HCX := Lib.hid (HCA.out.keep kV)
   have HTB := Lib.hid XX.bk
   have HDB := Lib.hid V1
   have htl := HX.out.bk.lt
   have hn3 : t ≠ b + 1 + 1 + 1 ∧ d ≠ b + 1 + 1 + 1 := ⟨by omega, by omega⟩
   have HFB := Lib.hid V2
   have hn5 : f ≠ b + 1 + 1 + 1 ∧ f ≠ b + 1 + 1 + 1 + 1 := ⟨by omega, by omega⟩
   have hn4 : t ≠ b + 1 + 1 + 1 + 1 ∧ d ≠ b + 1 + 1 + 1 + 1 := ⟨by omega, by omega⟩
   clear XX
   by_cases ha0 : askH T.c y h now = 0
   ·have HA0 := Lib.hid ha0
    obtain ⟨x, hx⟩ : ∃ x, hearR T.c y h now = x := ⟨_, rfl⟩
    have HXX := Lib.hid hx
    clear ha0 hx
    go_wp2_with fail
    go_region_held3 (fun w' => (∀ i, w'.cell? ⟨t, i, none⟩ = (List.toArray [.pointer (some ⟨q, 0, none⟩), .int .i64 T.c.t0, .int .i64 T.c.t1, .int .i64 T.c.t2, .int .i64 T.c.t3, .int .i64 T.c.t4, .int .i64 T.c.t5, .int .i64 T.c.t6, .int .i64 T.c.cap, .slice A T.c.own.length m, .map (some mp), .int .i64 T.now, .int .i64 T.rf])[i]?) ∧ (∀ i, w'.cell? ⟨d, i, none⟩ = (List.toArray [.int .u32 (y.p.a : Int), .int .i64 y.p.l, .int .i64 y.s, .int .i64 y.m, .int .i64 y.l, .int .i64 y.f, .int .u32 (y.x : Int), .int .i64 y.d, .bool y.c])[i]?) ∧ (∀ i, w'.cell? ⟨b + 1 + 1, i, none⟩ = (List.toArray [.int .i64 h.f, .int .u32 (h.a : Int), .int .i64 h.m])[i]?) ∧ (∀ i, w'.cell? ⟨b, i, none⟩ = (List.toArray [.pointer (some ⟨t, 0, none⟩)])[i]?)) (first | exact ⟨Blk.f Rt_ rfl, Blk.f Rd_ rfl, Blk.f Rn_ rfl, Blk.f Rc_ rfl⟩ | exact ⟨Blk.f Pt rfl, Blk.f Pd rfl, Blk.f Pn rfl, Blk.f Pc rfl⟩ | exact ⟨Blk.f Gt rfl, Blk.f Gd rfl, Blk.f Gn rfl, Blk.f Gc rfl⟩ | exact ⟨Blk.f (HTB.out.keep (Kp.refl wc).drew) rfl, Blk.f (HDB.out.keep (Kp.refl wc).drew) rfl, Blk.f (E2.keep (Kp.refl wc).drew) rfl, Blk.f (E0.keep (Kp.refl wc).drew) rfl⟩ | go_keep) (first | (go_at_call 57; refine (vfI T.c A m y h now _ (HSL.out.keep (by first | exact (Kp.refl _).drew | exact (Kp.refl _).drewN _ | exact (Kp.refl _).drew.drew)) (HCX.out.keep (by first | exact (Kp.refl _).drew | exact (Kp.refl _).drewN _ | exact (Kp.refl _).drew.drew)) HOW.out HYP.out.1 HYP.out.2 hha).mono ?_; rintro e Y hE; obtain ⟨rfl, KY⟩ := hE.split0 HA0.out; rw [HXX.out]; have KXY : Kp wc Y := (by first | exact (Kp.refl wc).drew.trans KY | exact ((Kp.refl wc).drewN _).trans KY | exact (Kp.refl wc).drew.drew.trans KY); have G3 := E3.keep KXY; have G4 := E4.keep KXY; have kY := kV.trans KXY; have Gt := HTB.out.keep KXY; have Gd := HDB.out.keep KXY; have Gn := E2.keep KXY; have Gc := E0.keep KXY; have Gf := HFB.out.keep KXY; have q0 := Blk.f (l := [.int .u32 0, .int .i64 0, .int .i64 0, .int .i64 0, .int .i64 0, .int .i64 0, .int .u32 0, .int .i64 0, .bool false]) G3 rfl; have z0 := Blk.frozen G3; obtain ⟨Y9, hY9, P3, P4, Pt, Pd, Pn, Pc, Pf, kY9⟩ : ∃ R, roSet Y (b + 1 + 1 + 1) x = R ∧ Blk R (b + 1 + 1 + 1) 52 (roC x) ∧ Blk R (b + 1 + 1 + 1 + 1) 44 #[.int .i64 0] ∧ Blk R t 125 (tbC q T A m mp) ∧ Blk R d 132 (roC y) ∧ Blk R (b + 1 + 1) 57 #[.int .i64 h.f, .int .u32 (h.a : Int), .int .i64 h.m] ∧ Blk R b 43 #[.pointer (some ⟨t, 0, none⟩)] ∧ Blk R f 4 #[.bool is] ∧ Kp w R := ⟨_, rfl, Blk.putRo G3 x, Blk.putRo_far G4 (by omega) x, Blk.putRo_far Gt hn3.1 x, Blk.putRo_far Gd hn3.2 x, Blk.putRo_far Gn (by omega) x, Blk.putRo_far Gc (by omega) x, Blk.putRo_far Gf hn5.1 x, Kp.putRo kY (by omega) x⟩; unfold roSet at hY9; have d0 : Y9.cell? ⟨b + 1 + 1 + 1 + 1, 0, none⟩ = some (.int .i64 0) := P4.cell 0; have zd := P4.frozen 0; obtain ⟨R, hR, BR, BE, Rt_, Rd_, Rn_, Rc_, Rf_, kR⟩ : ∃ R, Y9.setCell ⟨b + 1 + 1 + 1 + 1, 0, none⟩ (.int .i64 0) = R ∧ Blk R (b + 1 + 1 + 1) 52 (roC x) ∧ Blk R (b + 1 + 1 + 1 + 1) 44 #[.int .i64 0] ∧ Blk R t 125 (tbC q T A m mp) ∧ Blk R d 132 (roC y) ∧ Blk R (b + 1 + 1) 57 #[.int .i64 h.f, .int .u32 (h.a : Int), .int .i64 h.m] ∧ Blk R b 43 #[.pointer (some ⟨t, 0, none⟩)] ∧ Blk R f 4 #[.bool is] ∧ Kp w R := ⟨_, rfl, P3.far (p := ⟨b + 1 + 1 + 1 + 1, 0, none⟩) (by show b + 1 + 1 + 1 ≠ b + 1 + 1 + 1 + 1; omega) _, P4.set_ 0 (.int .i64 0), Pt.far (p := ⟨b + 1 + 1 + 1 + 1, 0, none⟩) hn4.1 _, Pd.far (p := ⟨b + 1 + 1 + 1 + 1, 0, none⟩) hn4.2 _, Pn.far (p := ⟨b + 1 + 1 + 1 + 1, 0, none⟩) (by show b + 1 + 1 ≠ b + 1 + 1 + 1 + 1; omega) _, Pc.far (p := ⟨b + 1 + 1 + 1 + 1, 0, none⟩) (by show b ≠ b + 1 + 1 + 1 + 1; omega) _, Pf.far (p := ⟨b + 1 + 1 + 1 + 1, 0, none⟩) hn5.2 _, kY9.setCell (p := ⟨b + 1 + 1 + 1 + 1, 0, none⟩) (by show w.heap.size ≤ b + 1 + 1 + 1 + 1; omega) _⟩))
    clear g0 e0 n0 c0 q0 z0 d0 zd
    have hgood := vib HOK.out (p := p) (k := h) (now := now) (by rw [HY.out]; exact HA0.out)
    have HG := Lib.hid hgood
    have MR := Lib.hid (HM.out.keep kR)
    have m0 : R.cell? ⟨b + 1 + 1 + 1 + 1, 0, none⟩ = some (.int .i64 0) := BE.cell 0
    have mb : R.cell? ⟨b, 0, none⟩ = some (.pointer (some ⟨t, 0, none⟩)) := Rc_.cell 0
    clear hgood
    go_wp2_with (first | (go_at_call 56; refine (vjD _).mono ?_; rintro e w' ⟨rfl, hw'⟩; rw [hw']; clear hw' w'))
    cases ht : timely T now with
    | false =>
     refine (vjG B t F T now _ R MR.out HOK.out.t.1 ht).mono ?_
     rintro e w5 ⟨rfl, hw5⟩
     rw [hw5]
     clear hw5 w5 m0 mb
     go_wp2_with fail
     refine leaves_cons (f := 54) (args := #[.pointer (some ⟨b + 1 + 1 + 1, 0, none⟩), .pointer (some ⟨b + 1 + 1 + 1 + 1, 0, none⟩)]) (by simp) (by simp [go_sem]) ?_
     refine (vch (b + 1 + 1 + 1) (b + 1 + 1 + 1 + 1) _ _ _ _ _ _ _ _ _ _ 170 _ BR BE (by omega)).mono ?_
     rintro e u' wz ⟨rfl, rfl, Z3, Z4, hOz⟩
     have q0 : wz.cell? ⟨b + 1 + 1 + 1, 0, none⟩ = some (.int .u32 0) := Z3.cell 0
     have q1 : wz.cell? ⟨b + 1 + 1 + 1, 1, none⟩ = some (.int .i64 0) := Z3.cell 1
     have q2 : wz.cell? ⟨b + 1 + 1 + 1, 2, none⟩ = some (.int .i64 0) := Z3.cell 2
     have q3 : wz.cell? ⟨b + 1 + 1 + 1, 3, none⟩ = some (.int .i64 0) := Z3.cell 3
     have q4 : wz.cell? ⟨b + 1 + 1 + 1, 4, none⟩ = some (.int .i64 0) := Z3.cell 4
     have q5 : wz.cell? ⟨b + 1 + 1 + 1, 5, none⟩ = some (.int .i64 0) := Z3.cell 5
     have q6 : wz.cell? ⟨b + 1 + 1 + 1, 6, none⟩ = some (.int .u32 0) := Z3.cell 6
     have q7 : wz.cell? ⟨b + 1 + 1 + 1, 7, none⟩ = some (.int .i64 0) := Z3.cell 7
     have q8 : wz.cell? ⟨b + 1 + 1 + 1, 8, none⟩ = some (.bool false) := Z3.cell 8
     have q9 : wz.cell? ⟨b + 1 + 1 + 1 + 1, 0, none⟩ = some (.int .i64 170) := Z4.cell 0
     show Leaves _ _ _ _ [] .returning _
     exact ⟨.tuple #[roV zeroR, .int .i64 170], by simp [results, Tryz.results14, go_sem, zeroR, noR, q0, q1, q2, q3, q4, q5, q6, q7, q8, q9], HearP.mk (vic HG.out.1 ht) (TabT.stop (Only.of_kp kR) MR.out (fun _ z => .inl z) hOz (by
      intro x hx
      simp only [List.mem_cons, List.not_mem_nil, or_false] at hx
      rcases hx with rfl | rfl
      ·exact ⟨by omega, fun z => by have := HFb.out _ z; omega, _, _, BR, by decide⟩
      ·exact ⟨by omega, fun z => by have := HFb.out _ z; omega, _, _, BE, by decide⟩))⟩
    | true =>
     have hT1 := MR.out.now_ now
     have hto := (Bool.and_eq_true _ _ ▸ HG.out.1 : toldB p = true ∧ okHd h = true)
     have hyr := vcx HOK.out hto.1
     rw [HY.out] at hyr
     have hxr : okR x = true := by rw [← HXX.out]; exact vcN HOK.out.c hyr.1 hto.2 HG.out.2
     have hxp : x.p = p := by rw [← HXX.out, vjh, hyr.2]
     have hcap := vaO HOK.out.c
     have hln := HOK.out.n
     have tb3 : b + 1 + 1 + 1 ≠ t := by omega
     have tb4 : b + 1 + 1 + 1 + 1 ≠ t := by omega
     have HCL := vjK B t F ⟨T.c, T.l, now, T.rf⟩ f (b + 1 + 1 + 1) b p h now x (R.setCell ⟨t, 11, none⟩ (.int .i64 now)) hT1 (by show Blk _ f 4 #[.bool (getR p T.l).isSome]; rw [HIS.out]; exact Rf_.far (p := ⟨t, 11, none⟩) (by show f ≠ t; omega) _) (BR.far (p := ⟨t, 11, none⟩) tb3 _) (Rc_.far (p := ⟨t, 11, none⟩) (by show b ≠ t; omega) _) hxr (by rw [hxp]; exact hp.1) (by show T.l.length < 800000; omega) HOK.out.f (by show x = hearR T.c (wasR p T.l) h now; rw [HY.out, HXX.out])
     refine (vjF B t F T now 59 (fun args w => by kernel_rfl) _ _ _ R MR.out ht (fun e w' z => by cases hb : fullB T p x with | true => exact .inr ⟨_, (z.1 hb).1⟩ | false => exact .inl (z.2 hb).1) HCL).mono ?_
     rintro e w5 hE
     have D3 := BR.far (p := ⟨t, 11, none⟩) tb3 (.int .i64 now)
     have D4 := BE.far (p := ⟨t, 11, none⟩) tb4 (.int .i64 now)
     have hO1 : Only F w (R.setCell ⟨t, 11, none⟩ (.int .i64 now)) := (Only.of_kp kR).setCell (p := ⟨t, 11, none⟩) (.inl (by rw [HFE.out]; exact List.mem_cons_self)) _
     have hs1 : (R.setCell ⟨t, 11, none⟩ (.int .i64 now)).heap.size = R.heap.size := by simp
     have hRl := BE.lt
     clear HCL hT1 m0 mb hln hcap hxp hxr hyr hto
     cases hb : fullB T p x with
     | true =>
      obtain ⟨rfl, hT5, hO5⟩ := hE.1 hb
      have I3 := D3.only hO5 (by simpa using tb3)
      have I4 := D4.only hO5 (by simpa using tb4)
      have hO6 : Only F w w5 := hO1.trans ⟨hO5.os, hO5.tape, hO5.output, hO5.size, fun i hi hn => hO5.block i hi (by rw [HFE.out] at hn; simp only [List.mem_cons, not_or] at hn; simpa using hn.1)⟩
      have hfull := vid (k := h) HG.out.1 ht (by rw [HY.out, HXX.out]; exact hb)
      have HFU := Lib.hid hfull
      clear hE hfull
      go_wp2_with fail
      refine leaves_cons (f := 54) (args := #[.pointer (some ⟨b + 1 + 1 + 1, 0, none⟩), .pointer (some ⟨b + 1 + 1 + 1 + 1, 0, none⟩)]) (by simp) (by simp [go_sem]) ?_
      refine (vch (b + 1 + 1 + 1) (b + 1 + 1 + 1 + 1) _ _ _ _ _ _ _ _ _ _ 200 _ I3 I4 (by omega)).mono ?_
      rintro e u' wz ⟨rfl, rfl, Z3, Z4, hOz⟩
      have q0 : wz.cell? ⟨b + 1 + 1 + 1, 0, none⟩ = some (.int .u32 0) := Z3.cell 0
      have q1 : wz.cell? ⟨b + 1 + 1 + 1, 1, none⟩ = some (.int .i64 0) := Z3.cell 1
      have q2 : wz.cell? ⟨b + 1 + 1 + 1, 2, none⟩ = some (.int .i64 0) := Z3.cell 2
      have q3 : wz.cell? ⟨b + 1 + 1 + 1, 3, none⟩ = some (.int .i64 0) := Z3.cell 3
      have q4 : wz.cell? ⟨b + 1 + 1 + 1, 4, none⟩ = some (.int .i64 0) := Z3.cell 4
      have q5 : wz.cell? ⟨b + 1 + 1 + 1, 5, none⟩ = some (.int .i64 0) := Z3.cell 5
      have q6 : wz.cell? ⟨b + 1 + 1 + 1, 6, none⟩ = some (.int .u32 0) := Z3.cell 6
      have q7 : wz.cell? ⟨b + 1 + 1 + 1, 7, none⟩ = some (.int .i64 0) := Z3.cell 7
      have q8 : wz.cell? ⟨b + 1 + 1 + 1, 8, none⟩ = some (.bool false) := Z3.cell 8
      have q9 : wz.cell? ⟨b + 1 + 1 + 1 + 1, 0, none⟩ = some (.int .i64 200) := Z4.cell 0
      show Leaves _ _ _ _ [] .returning _
      exact ⟨.tuple #[roV zeroR, .int .i64 200], by simp [results, Tryz.results14, go_sem, zeroR, noR, q0, q1, q2, q3, q4, q5, q6, q7, q8, q9], HearP.mk HFU.out (TabT.stop hO6 hT5 (fun _ z => .inl z) hOz (by
       intro x hx
       simp only [List.mem_cons, List.not_mem_nil, or_false] at hx
       rcases hx with rfl | rfl
       ·exact ⟨by omega, fun z => by have := HFb.out _ z; omega, _, _, I3, by decide⟩
       ·exact ⟨by omega, fun z => by have := HFb.out _ z; omega, _, _, I4, by decide⟩))⟩
     | false =>
      obtain ⟨rfl, F', hT5, hO5, hF5⟩ := hE.2 hb
      have hb3 : b + 1 + 1 + 1 ∉ F := fun z => by have := HFb.out _ z; omega
      have hb4 : b + 1 + 1 + 1 + 1 ∉ F := fun z => by have := HFb.out _ z; omega
      have I3 := D3.only hO5 hb3
      have I4 := D4.only hO5 hb4
      have hput := vjO (k := h) HG.out.1 ht (by rw [HY.out, HXX.out]; exact hb)
      rw [HY.out, HXX.out] at hput
      have HPU := Lib.hid hput
      clear hE hput
      have q0 : w5.cell? ⟨b + 1 + 1 + 1, 0, none⟩ = some (.int .u32 (x.p.a : Int)) := I3.cell 0
      have q1 : w5.cell? ⟨b + 1 + 1 + 1, 1, none⟩ = some (.int .i64 x.p.l) := I3.cell 1
      have q2 : w5.cell? ⟨b + 1 + 1 + 1, 2, none⟩ = some (.int .i64 x.s) := I3.cell 2
      have q3 : w5.cell? ⟨b + 1 + 1 + 1, 3, none⟩ = some (.int .i64 x.m) := I3.cell 3
      have q4 : w5.cell? ⟨b + 1 + 1 + 1, 4, none⟩ = some (.int .i64 x.l) := I3.cell 4
      have q5 : w5.cell? ⟨b + 1 + 1 + 1, 5, none⟩ = some (.int .i64 x.f) := I3.cell 5
      have q6 : w5.cell? ⟨b + 1 + 1 + 1, 6, none⟩ = some (.int .u32 (x.x : Int)) := I3.cell 6
      have q7 : w5.cell? ⟨b + 1 + 1 + 1, 7, none⟩ = some (.int .i64 x.d) := I3.cell 7
      have q8 : w5.cell? ⟨b + 1 + 1 + 1, 8, none⟩ = some (.bool x.c) := I3.cell 8
      have z0 := I3.frozen 0
      have z1 := I3.frozen 1
      have z2 := I3.frozen 2
      have z3 := I3.frozen 3
      have z4 := I3.frozen 4
      have z5 := I3.frozen 5
      have z6 := I3.frozen 6
      have z7 := I3.frozen 7
      have z8 := I3.frozen 8
      have d0 : w5.cell? ⟨b + 1 + 1 + 1 + 1, 0, none⟩ = some (.int .i64 0) := I4.cell 0
      have zd := I4.frozen 0
      obtain ⟨Q, hQ, Q3, Q4, hOQ⟩ := Blk.putO I3 x I4 (by omega) (v := .int .i64 0)
      simp only [roSet] at hQ
      go_wp2_with fail
      clear q0 q1 q2 q3 q4 q5 q6 q7 q8
      obtain ⟨q0, q1, q2, q3, q4, q5, q6, q7, q8⟩ := vae Q3
      have q9 : Q.cell? ⟨b + 1 + 1 + 1 + 1, 0, none⟩ = some (.int .i64 0) := Q4.cell 0
      refine leaves_cons (f := 54) (args := #[.pointer (some ⟨b + 1 + 1 + 1, 0, none⟩), .pointer (some ⟨b + 1 + 1 + 1 + 1, 0, none⟩)]) (by simp) (by simp [go_sem]) ?_
      refine (vhZ _ _ _).mono ?_
      rintro e u' wz ⟨rfl, rfl, rfl⟩
      show Leaves _ _ _ _ [] .returning _
      exact ⟨.tuple #[roV x, .int .i64 0], by simp [results, Tryz.results14, go_sem, q0, q1, q2, q3, q4, q5, q6, q7, q8, q9], HearP.mk HPU.out (TabT.stop (hO1.trans hO5) hT5 (fun z hz => (hF5 z hz).imp id (fun k => by have := kR.size; omega)) hOQ (by
       intro z hz
       simp only [List.mem_cons, List.not_mem_nil, or_false] at hz
       rcases hz with rfl | rfl
       ·exact ⟨by omega, fun k => (hF5 _ k).elim hb3 (fun k => by omega), _, _, I3, by decide⟩
       ·exact ⟨by omega, fun k => (hF5 _ k).elim hb4 (fun k => by omega), _, _, I4, by decide⟩))⟩
   ·obtain ⟨a, hae⟩ : ∃ a, askH T.c y h now = a := ⟨_, rfl⟩
    rw [hae] at ha0
    have HA0 := Lib.hid hae
    have HA1 := Lib.hid ha0
    have hbad := vjN HOK.out (p := p) (k := h) (now := now) (a := a) (by rw [HY.out]; exact hae) ha0
    have HBD := Lib.hid hbad
    have ham : (a != 0) = true := by simp [ha0]
    obtain ⟨x, hxz⟩ : ∃ x, zeroR = x := ⟨_, rfl⟩
    have HXZ := Lib.hid hxz
    clear ha0 hae hbad hxz
    go_wp2_with fail
    go_region_held3 (fun w' => (∀ i, w'.cell? ⟨t, i, none⟩ = (List.toArray [.pointer (some ⟨q, 0, none⟩), .int .i64 T.c.t0, .int .i64 T.c.t1, .int .i64 T.c.t2, .int .i64 T.c.t3, .int .i64 T.c.t4, .int .i64 T.c.t5, .int .i64 T.c.t6, .int .i64 T.c.cap, .slice A T.c.own.length m, .map (some mp), .int .i64 T.now, .int .i64 T.rf])[i]?) ∧ (∀ i, w'.cell? ⟨d, i, none⟩ = (List.toArray [.int .u32 (y.p.a : Int), .int .i64 y.p.l, .int .i64 y.s, .int .i64 y.m, .int .i64 y.l, .int .i64 y.f, .int .u32 (y.x : Int), .int .i64 y.d, .bool y.c])[i]?) ∧ (∀ i, w'.cell? ⟨b + 1 + 1, i, none⟩ = (List.toArray [.int .i64 h.f, .int .u32 (h.a : Int), .int .i64 h.m])[i]?) ∧ (∀ i, w'.cell? ⟨b, i, none⟩ = (List.toArray [.pointer (some ⟨t, 0, none⟩)])[i]?)) (first | exact ⟨Blk.f Rt_ rfl, Blk.f Rd_ rfl, Blk.f Rn_ rfl, Blk.f Rc_ rfl⟩ | exact ⟨Blk.f Pt rfl, Blk.f Pd rfl, Blk.f Pn rfl, Blk.f Pc rfl⟩ | exact ⟨Blk.f Gt rfl, Blk.f Gd rfl, Blk.f Gn rfl, Blk.f Gc rfl⟩ | exact ⟨Blk.f (HTB.out.keep (Kp.refl wc).drew) rfl, Blk.f (HDB.out.keep (Kp.refl wc).drew) rfl, Blk.f (E2.keep (Kp.refl wc).drew) rfl, Blk.f (E0.keep (Kp.refl wc).drew) rfl⟩ | go_keep) (first | (go_at_call 57; refine (vfI T.c A m y h now _ (HSL.out.keep (by first | exact (Kp.refl _).drew | exact (Kp.refl _).drewN _ | exact (Kp.refl _).drew.drew)) (HCX.out.keep (by first | exact (Kp.refl _).drew | exact (Kp.refl _).drewN _ | exact (Kp.refl _).drew.drew)) HOW.out HYP.out.1 HYP.out.2 hha).mono ?_; rintro e Y hE; obtain ⟨rfl, KY⟩ := hE.splitN HA0.out HA1.out; rw [HXZ.out]; have KXY : Kp wc Y := (by first | exact (Kp.refl wc).drew.trans KY | exact ((Kp.refl wc).drewN _).trans KY | exact (Kp.refl wc).drew.drew.trans KY); have G3 := E3.keep KXY; have G4 := E4.keep KXY; have kY := kV.trans KXY; have Gt := HTB.out.keep KXY; have Gd := HDB.out.keep KXY; have Gn := E2.keep KXY; have Gc := E0.keep KXY; have Gf := HFB.out.keep KXY; have q0 := Blk.f (l := [.int .u32 0, .int .i64 0, .int .i64 0, .int .i64 0, .int .i64 0, .int .i64 0, .int .u32 0, .int .i64 0, .bool false]) G3 rfl; have z0 := Blk.frozen G3; obtain ⟨Y9, hY9, P3, P4, Pt, Pd, Pn, Pc, Pf, kY9⟩ : ∃ R, roSet Y (b + 1 + 1 + 1) x = R ∧ Blk R (b + 1 + 1 + 1) 52 (roC x) ∧ Blk R (b + 1 + 1 + 1 + 1) 44 #[.int .i64 0] ∧ Blk R t 125 (tbC q T A m mp) ∧ Blk R d 132 (roC y) ∧ Blk R (b + 1 + 1) 57 #[.int .i64 h.f, .int .u32 (h.a : Int), .int .i64 h.m] ∧ Blk R b 43 #[.pointer (some ⟨t, 0, none⟩)] ∧ Blk R f 4 #[.bool is] ∧ Kp w R := ⟨_, rfl, Blk.putRo G3 x, Blk.putRo_far G4 (by omega) x, Blk.putRo_far Gt hn3.1 x, Blk.putRo_far Gd hn3.2 x, Blk.putRo_far Gn (by omega) x, Blk.putRo_far Gc (by omega) x, Blk.putRo_far Gf hn5.1 x, Kp.putRo kY (by omega) x⟩; unfold roSet at hY9; have d0 : Y9.cell? ⟨b + 1 + 1 + 1 + 1, 0, none⟩ = some (.int .i64 0) := P4.cell 0; have zd := P4.frozen 0; obtain ⟨R, hR, BR, BE, Rt_, Rd_, Rn_, Rc_, Rf_, kR⟩ : ∃ R, Y9.setCell ⟨b + 1 + 1 + 1 + 1, 0, none⟩ (.int .i64 a) = R ∧ Blk R (b + 1 + 1 + 1) 52 (roC x) ∧ Blk R (b + 1 + 1 + 1 + 1) 44 #[.int .i64 a] ∧ Blk R t 125 (tbC q T A m mp) ∧ Blk R d 132 (roC y) ∧ Blk R (b + 1 + 1) 57 #[.int .i64 h.f, .int .u32 (h.a : Int), .int .i64 h.m] ∧ Blk R b 43 #[.pointer (some ⟨t, 0, none⟩)] ∧ Blk R f 4 #[.bool is] ∧ Kp w R := ⟨_, rfl, P3.far (p := ⟨b + 1 + 1 + 1 + 1, 0, none⟩) (by show b + 1 + 1 + 1 ≠ b + 1 + 1 + 1 + 1; omega) _, P4.set_ 0 (.int .i64 a), Pt.far (p := ⟨b + 1 + 1 + 1 + 1, 0, none⟩) hn4.1 _, Pd.far (p := ⟨b + 1 + 1 + 1 + 1, 0, none⟩) hn4.2 _, Pn.far (p := ⟨b + 1 + 1 + 1 + 1, 0, none⟩) (by show b + 1 + 1 ≠ b + 1 + 1 + 1 + 1; omega) _, Pc.far (p := ⟨b + 1 + 1 + 1 + 1, 0, none⟩) (by show b ≠ b + 1 + 1 + 1 + 1; omega) _, Pf.far (p := ⟨b + 1 + 1 + 1 + 1, 0, none⟩) hn5.2 _, kY9.setCell (p := ⟨b + 1 + 1 + 1 + 1, 0, none⟩) (by show w.heap.size ≤ b + 1 + 1 + 1 + 1; omega) _⟩))
    clear g0 e0 n0 c0 q0 z0 d0 zd
    have MR := Lib.hid (HM.out.keep kR)
    have m0 : R.cell? ⟨b + 1 + 1 + 1 + 1, 0, none⟩ = some (.int .i64 a) := BE.cell 0
    go_wp2_with (first | (go_at_call 56; refine (vdJ a HA1.out _).mono ?_; rintro e w' ⟨rfl, hw'⟩; rw [hw']; clear hw' w'))
    refine leaves_cons (f := 54) (args := #[.pointer (some ⟨b + 1 + 1 + 1, 0, none⟩), .pointer (some ⟨b + 1 + 1 + 1 + 1, 0, none⟩)]) (by simp) (by simp [go_sem]) ?_
    refine (vch (b + 1 + 1 + 1) (b + 1 + 1 + 1 + 1) _ _ _ _ _ _ _ _ _ _ a _ BR BE (by omega)).mono ?_
    rintro e u' wz ⟨rfl, rfl, Z3, Z4, hOz⟩
    have q0 : wz.cell? ⟨b + 1 + 1 + 1, 0, none⟩ = some (.int .u32 0) := Z3.cell 0
    have q1 : wz.cell? ⟨b + 1 + 1 + 1, 1, none⟩ = some (.int .i64 0) := Z3.cell 1
    have q2 : wz.cell? ⟨b + 1 + 1 + 1, 2, none⟩ = some (.int .i64 0) := Z3.cell 2
    have q3 : wz.cell? ⟨b + 1 + 1 + 1, 3, none⟩ = some (.int .i64 0) := Z3.cell 3
    have q4 : wz.cell? ⟨b + 1 + 1 + 1, 4, none⟩ = some (.int .i64 0) := Z3.cell 4
    have q5 : wz.cell? ⟨b + 1 + 1 + 1, 5, none⟩ = some (.int .i64 0) := Z3.cell 5
    have q6 : wz.cell? ⟨b + 1 + 1 + 1, 6, none⟩ = some (.int .u32 0) := Z3.cell 6
    have q7 : wz.cell? ⟨b + 1 + 1 + 1, 7, none⟩ = some (.int .i64 0) := Z3.cell 7
    have q8 : wz.cell? ⟨b + 1 + 1 + 1, 8, none⟩ = some (.bool false) := Z3.cell 8
    have q9 : wz.cell? ⟨b + 1 + 1 + 1 + 1, 0, none⟩ = some (.int .i64 a) := Z4.cell 0
    show Leaves _ _ _ _ [] .returning _
    exact ⟨.tuple #[roV zeroR, .int .i64 a], by simp [results, Tryz.results14, go_sem, zeroR, noR, q0, q1, q2, q3, q4, q5, q6, q7, q8, q9], HearP.mk HBD.out (TabT.stop (Only.of_kp kR) MR.out (fun _ z => .inl z) hOz (by
     intro x hx
     simp only [List.mem_cons, List.not_mem_nil, or_false] at hx
     rcases hx with rfl | rfl
     ·exact ⟨by omega, fun z => by have := HFb.out _ z; omega, _, _, BR, by decide⟩
     ·exact ⟨by omega, fun z => by have := HFb.out _ z; omega, _, _, BE, by decide⟩))⟩
end

end Go.Proofs.YtgopnfacklmkaaaGreatDoor
