/- Lemmas and contracts for the theorem of this claim: RxF, SoI, SoJ. -/
import Derived.Test.YtffckpkikdlbpaaGreatDoorZvBh
set_option linter.all false
set_option maxHeartbeats 16000000
namespace Go.Proofs.YtffckpkikdlbpaaGreatDoor
section
open Go.RowKit Go.Maps
def FacAt (w : World) : Prop := w.cell? ⟨0, 0, none⟩ = some (.int .i64 0) ∧ w.cell? ⟨0, 1, none⟩ = some (.int .i64 15)
theorem FacAt.keep {w w' : World} (h : FacAt w) (k : Kp w w') : FacAt w' := ⟨k.cell h.1, k.cell h.2⟩
set_option maxRecDepth 100000 in
theorem vlj (B t : Nat) (F : List Nat) (T : Tb) (now : Int) (f : FuncId) (hcf : ∀ args w, (callFunc f args).run Tryz.prog w = .ok (.enter f args) w) (x y z u : Value) (w : World) (h : TabM w B t F T) (ht : timely T now = true) {R : Ending → World → Prop} (hR : ∀ e w', R e w' → e = .returned (.tuple #[]) ∨ ∃ ch, e = .panicked ch)
  (HC : Calls Tryz.prog f #[x, y, z, u] (w.setCell ⟨t, 11, none⟩ (.int .i64 now)) R) : Calls Tryz.prog 62 #[.pointer (some ⟨t, 0, none⟩), .int .i64 now, .func (.func f) #[] #[x, y, z, u]] w R := by
 obtain ⟨h1, h2, h3⟩ := h.celln
 have hz := h3 11
 rw [vam] at ht
 have d1 : decide (now < T.now) = false := decide_eq_false (by omega)
 have d2 : decide (4611686018426387904 < now) = false := decide_eq_false (by omega)
 have HC' := Lib.hid HC
 have HR := Lib.hid hR
 clear HC hR h3
 go_enter Tryz.func62, Tryz.ntmps62
 go_wp2_with fail
 refine HC'.out.mono ?_
 rintro e w1 hE
 rcases HR.out _ _ hE with rfl | ⟨ch, rfl⟩
 ·go_wp2_with fail
  go_end0
  exact hE
 ·go_wp2_with fail
  exact ⟨rfl, hE⟩
set_option maxRecDepth 100000 in
theorem veZ (B t : Nat) (F : List Nat) (T : Tb) (f now : Int) (w : World) (hM : TabM w B t F T) (hok : TbOk T) (hwf : ∀ r ∈ T.l, r.x < 4294967296) (hown : ∀ k (hk : k < T.c.own.length), T.c.own[k].a < 4294967296) (hC : CapAt w) (hG : 1 < B) (hFa : FacAt w) :
  Calls Tryz.prog 26 #[.pointer (some ⟨t, 0, none⟩), .int .i64 f, .int .i64 now] w (CntP B t F (lostT T f now) w) := by
 obtain ⟨b, hb⟩ : ∃ b, w.heap.size = b := ⟨_, rfl⟩
 obtain ⟨W0, hW0, k0, B0, B2, B1⟩ := Blk.al3 hb #[.pointer (some ⟨t, 0, none⟩)] 36 #[.int .i64 f] 3 #[.int .i64 now] 2
 have hs0 : W0.heap.size = b + 1 + 1 + 1 := by rw [← hW0, ← hb]; simp
 obtain ⟨W, hW, kW, C0, C2, C1, C3, C4⟩ : ∃ W, (W0.alloc (.cells #[.int .i64 0] 3)).alloc (.cells #[.int .i64 0] 53) = W ∧ Kp w W ∧ Blk W b 36 #[.pointer (some ⟨t, 0, none⟩)] ∧ Blk W (b + 1) 3 #[.int .i64 f] ∧ Blk W (b + 1 + 1) 2 #[.int .i64 now] ∧ Blk W (b + 1 + 1 + 1) 3 #[.int .i64 0] ∧ Blk W (b + 1 + 1 + 1 + 1) 53 #[.int .i64 0] := ⟨_, rfl, (k0.alloc _).alloc _, (B0.alloc _).alloc _, (B2.alloc _).alloc _, (B1.alloc _).alloc _, by rw [← hs0]; exact (Blk.new _ _ _).alloc _, by rw [← hs0]; exact Blk.new1 _ _ _ _⟩
 have c2 : W.cell? ⟨b + 1, 0, none⟩ = some (.int .i64 f) := C2.cell 0
 have fa0 : W.cell? ⟨0, 0, none⟩ = some (.int .i64 0) := kW.cell hFa.1
 have fa1 : W.cell? ⟨0, 1, none⟩ = some (.int .i64 15) := kW.cell hFa.2
 have c0 : W.cell? ⟨b, 0, none⟩ = some (.pointer (some ⟨t, 0, none⟩)) := C0.cell 0
 have c1 : W.cell? ⟨b + 1 + 1, 0, none⟩ = some (.int .i64 now) := C1.cell 0
 have hMW := hM.keep kW
 obtain ⟨mp0, hm, _⟩ := hMW.cellm
 have hFb : ∀ x ∈ F, x < b := fun x hx => by rw [← hb]; exact (hM.lo x hx).2
 have hmf : ∀ (fn : Fn) (first cap : Array Value) (w : World), (Instr.makeFunc fn first cap).run Tryz.prog w = .ok (.func fn first cap) w := fun _ _ _ _ => rfl
 have HM := Lib.hid hM
 have HMW := Lib.hid hMW
 have HFb := Lib.hid hFb
 have HOK := Lib.hid hok
 have HWF := Lib.hid hwf
 have HOW := Lib.hid hown
 have HCA := Lib.hid hC
 have HB := Lib.hid hb
 clear hM hMW hFb hok hwf hown hC B0 B1 B2 k0 hFa
 by_cases hlo : f < 0
 ·have d1 : decide (f < 0) = true := decide_eq_true hlo
  have hf : withB 0 15 f = false := by simp only [withB, d1]; rfl
  clear hlo
  have HZ := Lib.hid (show lostT T f now = (T, 0, 2) by unfold lostT; rw [hf]; rfl)
  go_enter_defers Tryz.func26, Tryz.ntmps26
  go_wp2_with (first | (go_at_call 56; refine (vah t mp0 _ hm).mono ?_; rintro e w' ⟨rfl, hw'⟩; rw [hw']; clear hw' w') | (go_at_call 60; refine (vbT 2 (by decide) _).mono ?_; rintro e w' ⟨rfl, hw'⟩; rw [hw']; clear hw' w'))
  refine leaves_cons (f := 65) (args := #[.pointer (some ⟨b + 1 + 1 + 1, 0, none⟩), .pointer (some ⟨b + 1 + 1 + 1 + 1, 0, none⟩)]) (by simp) (by simp [go_sem]) ?_
  refine (vbV (b + 1 + 1 + 1) (b + 1 + 1 + 1 + 1) _ _ 2 _ C3 C4 (by omega)).mono ?_
  rintro e u' wz ⟨rfl, rfl, Z3, Z4, hOz⟩
  have q0 : wz.cell? ⟨b + 1 + 1 + 1, 0, none⟩ = some (.int .i64 0) := Z3.cell 0
  have q9 : wz.cell? ⟨b + 1 + 1 + 1 + 1, 0, none⟩ = some (.int .i64 2) := Z4.cell 0
  show Leaves _ _ _ _ [] .returning _
  exact ⟨.tuple #[.int .i64 0, .int .i64 2], by simp [results, Tryz.results26, go_sem, q0, q9], CntP.mk HZ.out (TabT.stop (Only.of_kp kW) HMW.out (fun _ z => .inl z) hOz (by
   intro x hx
   have hb := HB.out
   simp only [List.mem_cons, List.not_mem_nil, or_false] at hx
   rcases hx with rfl | rfl
   ·exact ⟨by omega, fun z => by have := HFb.out _ z; omega, _, _, C3, by decide⟩
   ·exact ⟨by omega, fun z => by have := HFb.out _ z; omega, _, _, C4, by decide⟩))⟩
 have d1 : decide (f < 0) = false := decide_eq_false hlo
 by_cases hhi : 15 < f
 ·have d2 : decide (15 < f) = true := decide_eq_true hhi
  have hf : withB 0 15 f = false := by simp only [withB, d1, d2]; rfl
  clear hlo hhi
  have HZ := Lib.hid (show lostT T f now = (T, 0, 2) by unfold lostT; rw [hf]; rfl)
  go_enter_defers Tryz.func26, Tryz.ntmps26
  go_wp2_with (first | (go_at_call 56; refine (vah t mp0 _ hm).mono ?_; rintro e w' ⟨rfl, hw'⟩; rw [hw']; clear hw' w') | (go_at_call 60; refine (vbT 2 (by decide) _).mono ?_; rintro e w' ⟨rfl, hw'⟩; rw [hw']; clear hw' w'))
  refine leaves_cons (f := 65) (args := #[.pointer (some ⟨b + 1 + 1 + 1, 0, none⟩), .pointer (some ⟨b + 1 + 1 + 1 + 1, 0, none⟩)]) (by simp) (by simp [go_sem]) ?_
  refine (vbV (b + 1 + 1 + 1) (b + 1 + 1 + 1 + 1) _ _ 2 _ C3 C4 (by omega)).mono ?_
  rintro e u' wz ⟨rfl, rfl, Z3, Z4, hOz⟩
  have q0 : wz.cell? ⟨b + 1 + 1 + 1, 0, none⟩ = some (.int .i64 0) := Z3.cell 0
  have q9 : wz.cell? ⟨b + 1 + 1 + 1 + 1, 0, none⟩ = some (.int .i64 2) := Z4.cell 0
  show Leaves _ _ _ _ [] .returning _
  exact ⟨.tuple #[.int .i64 0, .int .i64 2], by simp [results, Tryz.results26, go_sem, q0, q9], CntP.mk HZ.out (TabT.stop (Only.of_kp kW) HMW.out (fun _ z => .inl z) hOz (by
   intro x hx
   have hb := HB.out
   simp only [List.mem_cons, List.not_mem_nil, or_false] at hx
   rcases hx with rfl | rfl
   ·exact ⟨by omega, fun z => by have := HFb.out _ z; omega, _, _, C3, by decide⟩
   ·exact ⟨by omega, fun z => by have := HFb.out _ z; omega, _, _, C4, by decide⟩))⟩
 have d2 : decide (15 < f) = false := decide_eq_false hhi
 have hf := Lib.hid (show withB 0 15 f = true by simp only [withB, d1, d2]; rfl)
 clear hlo hhi
 go_enter_defers Tryz.func26, Tryz.ntmps26
 go_wp2_with (first | (go_at_call 56; refine (vah t mp0 _ hm).mono ?_; rintro e w' ⟨rfl, hw'⟩; rw [hw']; clear hw' w'))
 cases ht : timely T now with
 | false =>
  refine (vfy B t F T now _ W HMW.out HOK.out.t.1 ht).mono ?_
  rintro e w5 ⟨rfl, hw5⟩
  rw [hw5]
  clear hw5 w5
  have HZ := Lib.hid (show lostT T f now = (T, 0, 170) by unfold lostT; rw [hf.out, ht]; rfl)
  go_wp2_with fail
  refine leaves_cons (f := 65) (args := #[.pointer (some ⟨b + 1 + 1 + 1, 0, none⟩), .pointer (some ⟨b + 1 + 1 + 1 + 1, 0, none⟩)]) (by simp) (by simp [go_sem]) ?_
  refine (vbV (b + 1 + 1 + 1) (b + 1 + 1 + 1 + 1) _ _ 170 _ C3 C4 (by omega)).mono ?_
  rintro e u' wz ⟨rfl, rfl, Z3, Z4, hOz⟩
  have q0 : wz.cell? ⟨b + 1 + 1 + 1, 0, none⟩ = some (.int .i64 0) := Z3.cell 0
  have q9 : wz.cell? ⟨b + 1 + 1 + 1 + 1, 0, none⟩ = some (.int .i64 170) := Z4.cell 0
  show Leaves _ _ _ _ [] .returning _
  exact ⟨.tuple #[.int .i64 0, .int .i64 170], by simp [results, Tryz.results26, go_sem, q0, q9], CntP.mk HZ.out (TabT.stop (Only.of_kp kW) HMW.out (fun _ z => .inl z) hOz (by
   intro x hx
   have hb := HB.out
   simp only [List.mem_cons, List.not_mem_nil, or_false] at hx
   rcases hx with rfl | rfl
   ·exact ⟨by omega, fun z => by have := HFb.out _ z; omega, _, _, C3, by decide⟩
   ·exact ⟨by omega, fun z => by have := HFb.out _ z; omega, _, _, C4, by decide⟩))⟩
 | true =>
  have hT1 := HMW.out.now_ now
  have htl := vam.1 ht
  obtain ⟨q, mp, m, A, QF, l, hFe, X1⟩ := hT1
  have tF : t < b := HFb.out t (by rw [hFe]; exact List.mem_cons_self)
  have hbt : B ≤ t := X1.bt
  have hok1 : TbOk ⟨T.c, T.l, now, T.rf⟩ := ⟨HOK.out.c, HOK.out.u, HOK.out.r, HOK.out.n, ⟨htl.1, htl.2.1⟩, HOK.out.f⟩
  have hnF : ∀ i, b ≤ i → i ∉ t :: mp :: QF := fun i hi z => by
   rw [← hFe] at z
   have := HFb.out i z
   omega
  have D0 := C0.far (p := ⟨t, 11, none⟩) (by show b ≠ t; omega) (.int .i64 now)
  have D1 := C1.far (p := ⟨t, 11, none⟩) (by show b + 1 + 1 ≠ t; omega) (.int .i64 now)
  have D3 := C3.far (p := ⟨t, 11, none⟩) (by show b + 1 + 1 + 1 ≠ t; omega) (.int .i64 now)
  have D4 := C4.far (p := ⟨t, 11, none⟩) (by show b + 1 + 1 + 1 + 1 ≠ t; omega) (.int .i64 now)
  have D2 := C2.far (p := ⟨t, 11, none⟩) (by show b + 1 ≠ t; omega) (.int .i64 now)
  have hT2 := HMW.out.now_ now
  have HCL := vjk B t F ⟨T.c, T.l, now, T.rf⟩ f b (b + 1) (b + 1 + 1) (b + 1 + 1 + 1) _ hT2 hok1 HWF.out HOW.out ((HCA.out.keep kW).set (by omega)) hG D0 D2 D1 D3 (by rw [hFe]; exact hnF _ (Nat.le_refl _)) (by rw [hFe]; exact hnF _ (by omega)) (by rw [hFe]; exact hnF _ (by omega)) (by rw [hFe]; exact hnF _ (by omega)) (by omega) (by omega)
  refine (vlj B t F T now 66 (fun args w => by kernel_rfl) _ _ _ _ W HMW.out ht (fun e w' z => .inl z.1) HCL).mono ?_
  rintro e w5 ⟨rfl, F5, X5, P5, O5, N5⟩
  have HZ := Lib.hid (show lostT T f now = (⟨T.c, (lostA ⟨T.c, T.l, now, T.rf⟩ f (validL T.l).length).1, now, T.rf⟩, (lostA ⟨T.c, T.l, now, T.rf⟩ f (validL T.l).length).2, 0) by
   unfold lostT lostA
   rw [hf.out, ht, vbG, List.take_length]
   rfl)
  obtain ⟨n, hn⟩ : ∃ n, (lostA ⟨T.c, T.l, now, T.rf⟩ f (validL T.l).length).2 = n := ⟨_, rfl⟩
  have P5' : Blk w5 (b + 1 + 1 + 1) 3 #[.int .i64 n] := by rw [← hn]; exact P5
  rw [hn] at HZ
  have hO1 : Only F w (W.setCell ⟨t, 11, none⟩ (.int .i64 now)) := (Only.of_kp kW).setCell (p := ⟨t, 11, none⟩) (.inl (by rw [hFe]; exact List.mem_cons_self)) _
  have hO5 : Only F w w5 := hO1.joinF O5 (fun x hx => by
   have hb := HB.out
   rcases List.mem_cons.1 hx with rfl | hx
   ·exact .inr (by omega)
   ·exact .inl hx)
  have hs1 : (W.setCell ⟨t, 11, none⟩ (.int .i64 now)).heap.size = W.heap.size := by simp
  have P54 := D4.only O5 (by
   rw [hFe]
   simp only [List.mem_cons, not_or]
   have := hnF (b + 1 + 1 + 1 + 1) (by omega)
   simp only [List.mem_cons, not_or] at this
   exact ⟨by omega, this⟩)
  have hWl := C4.lt
  have HX5 := Lib.hid X5
  have HN5 := Lib.hid N5
  have HnF := Lib.hid hnF
  have HO5 := Lib.hid hO5
  have HFe := Lib.hid hFe
  have x0 : w5.cell? ⟨b + 1 + 1 + 1, 0, none⟩ = some (.int .i64 n) := P5'.cell 0
  have z0 := Blk.frozen P5'
  have x1 : w5.cell? ⟨b + 1 + 1 + 1 + 1, 0, none⟩ = some (.int .i64 0) := P54.cell 0
  have z1 := Blk.frozen P54
  obtain ⟨Q, hQ, Q3, Q4, hOQ⟩ : ∃ Q, (w5.setCell ⟨b + 1 + 1 + 1, 0, none⟩ (.int .i64 n)).setCell ⟨b + 1 + 1 + 1 + 1, 0, none⟩ (.int .i64 0) = Q ∧ Blk Q (b + 1 + 1 + 1) 3 #[.int .i64 n] ∧ Blk Q (b + 1 + 1 + 1 + 1) 53 #[.int .i64 0] ∧ Only [b + 1 + 1 + 1, b + 1 + 1 + 1 + 1] w5 Q := ⟨_, rfl, (P5'.set_ 0 (.int .i64 n)).far (p := ⟨b + 1 + 1 + 1 + 1, 0, none⟩) (by show b + 1 + 1 + 1 ≠ b + 1 + 1 + 1 + 1; omega) _, (P54.far (p := ⟨b + 1 + 1 + 1, 0, none⟩) (by show b + 1 + 1 + 1 + 1 ≠ b + 1 + 1 + 1; omega) _).set_ 0 (.int .i64 0), ((Only.refl _ w5).setCell (p := ⟨b + 1 + 1 + 1, 0, none⟩) (.inl (by simp)) _).setCell (p := ⟨b + 1 + 1 + 1 + 1, 0, none⟩) (.inl (by simp)) _⟩
  clear X5 N5 hnF hO5 hFe hn HCL X1 hs1 P5 hT2
  go_wp2_with fail
  clear x0 x1
  have q0 : Q.cell? ⟨b + 1 + 1 + 1, 0, none⟩ = some (.int .i64 n) := Q3.cell 0
  have q9 : Q.cell? ⟨b + 1 + 1 + 1 + 1, 0, none⟩ = some (.int .i64 0) := Q4.cell 0
  refine leaves_cons (f := 65) (args := #[.pointer (some ⟨b + 1 + 1 + 1, 0, none⟩), .pointer (some ⟨b + 1 + 1 + 1 + 1, 0, none⟩)]) (by simp) (by simp [go_sem]) ?_
  refine (vgX _ _ _).mono ?_
  rintro e u' wz ⟨rfl, rfl, rfl⟩
  show Leaves _ _ _ _ [] .returning _
  have hnew : ∀ z ∈ F5, z ∈ F ∨ w.heap.size ≤ z := fun z hz => by
   have hb := HB.out
   rcases HN5.out z hz with k | k
   ·exact .inl k
   ·have := kW.size
    simp at k
    exact .inr (by omega)
  have hno : ∀ z, b ≤ z → z < W.heap.size → z ∉ F5 := fun z hz hz2 hm => by
   rcases HN5.out z hm with k | k
   ·have h1 := HnF.out z hz
    rw [← HFe.out] at h1
    exact h1 k
   ·simp at k
    omega
  exact ⟨.tuple #[.int .i64 n, .int .i64 0], by simp [results, Tryz.results26, go_sem, q0, q9], CntP.mk HZ.out (TabT.stop HO5.out HX5.out hnew hOQ (by
   intro x hx
   have hb := HB.out
   simp only [List.mem_cons, List.not_mem_nil, or_false] at hx
   rcases hx with rfl | rfl
   ·exact ⟨by omega, hno _ (by omega) (by omega), _, _, P5', by decide⟩
   ·exact ⟨by omega, hno _ (by omega) (by omega), _, _, P54, by decide⟩))⟩
def seenA (L : List Rt) (i : Nat) : List Rt := ((newsL L).take i).foldl (fun M r => setR (seenR r) M) L
theorem vbI {L : List Rt} {i : Nat} (h : i < (newsL L).length) : seenA L (i + 1) = setR (seenR (newsL L)[i]) (seenA L i) := by
 unfold seenA
 rw [List.take_succ_eq_append_getElem h, List.foldl_append]
 rfl
theorem vaZ {L : List Rt} {r : Rt} : r ∈ newsL L ↔ r ∈ L ∧ r.c = true := by unfold newsL; rw [List.mem_filter]
theorem veq {L : List Rt} (u : UpR L) : ∀ i, UpR (seenA L i)
 | 0 => by unfold seenA; rw [List.take_zero]; exact u
 | i + 1 => by
  by_cases h : i < (newsL L).length
  ·rw [vbI h]; exact vaT _ (veq u i)
  ·have : seenA L (i + 1) = seenA L i := by unfold seenA; rw [List.take_of_length_le (by omega), List.take_of_length_le (by omega)]
   rw [this]; exact veq u i
theorem vcu {L : List Rt} (u : UpR L) (hs : ∀ x ∈ L, x.s ≠ 0) : ∀ i x, x ∈ seenA L i ↔ (x ∈ L ∧ x ∉ (newsL L).take i) ∨ ∃ r ∈ (newsL L).take i, x = seenR r
 | 0, x => by unfold seenA; rw [List.take_zero]; simp
 | i + 1, x => by
  by_cases h : i < (newsL L).length
  ·have hm := vaZ.1 (List.getElem_mem h)
   have hn : (newsL L)[i] ∉ (newsL L).take i := fun hz => by
    have hnd : (newsL L).Nodup := (List.pairwise_map.1 (u.filter _).nodup).imp (fun {x y} h e => h (by rw [e]))
    obtain ⟨j, hj, e⟩ := List.mem_take_iff_getElem.1 hz
    exact (List.pairwise_iff_getElem.1 hnd) j i (by omega) h (by omega) e
   rw [vbI h, vap, vcu u hs i x, List.take_succ_eq_append_getElem h]
   obtain ⟨y, hy⟩ : ∃ y, (newsL L)[i] = y := ⟨_, rfl⟩
   rw [hy] at hm hn ⊢
   have hsn : (seenR y).s ≠ 0 := hs y hm.1
   have hpn : (seenR y).p = y.p := rfl
   rw [hpn]
   have hsub : ∀ z ∈ (newsL L).take i, z ∈ L := fun z hz => (vaZ.1 (List.mem_of_mem_take hz)).1
   constructor
   ·rintro (⟨rfl, _⟩ | ⟨⟨h1, h2⟩ | ⟨r, h1, rfl⟩, h3⟩)
    ·exact .inr ⟨y, by simp, rfl⟩
    ·exact .inl ⟨h1, by
      rw [List.mem_append, List.mem_singleton, not_or]
      exact ⟨h2, fun e => h3 (by rw [e])⟩⟩
    ·exact .inr ⟨r, by simp [h1], rfl⟩
   ·rintro (⟨h1, h2⟩ | ⟨r, h1, rfl⟩)
    ·rw [List.mem_append, List.mem_singleton, not_or] at h2
     exact .inr ⟨.inl ⟨h1, h2.1⟩, fun e => h2.2 (u.inj h1 hm.1 e)⟩
    ·rw [List.mem_append, List.mem_singleton] at h1
     rcases h1 with h1 | rfl
     ·exact .inr ⟨.inr ⟨r, h1, rfl⟩, fun e => hn (by rw [← u.inj (hsub r h1) hm.1 e]; exact h1)⟩
     ·exact .inl ⟨rfl, hsn⟩
  ·have : seenA L (i + 1) = seenA L i := by unfold seenA; rw [List.take_of_length_le (by omega), List.take_of_length_le (by omega)]
   rw [this, vcu u hs i x, List.take_of_length_le (by omega), List.take_of_length_le (by omega)]
theorem vgu {r : Rt} (h : r.c = false) : seenR r = r := by cases r; simp only at h; subst h; rfl
theorem vjl {L : List Rt} (u : UpR L) (hs : ∀ x ∈ L, x.s ≠ 0) : seenA L (newsL L).length = L.map seenR := by
 refine (veq u _).eq ((viu L).2 u) (fun x => ?_)
 rw [vcu u hs, List.take_length, List.mem_map]
 constructor
 ·rintro (⟨h1, h2⟩ | ⟨r, h1, rfl⟩)
  ·refine ⟨x, h1, vgu ?_⟩
   cases e : x.c with
   | false => rfl
   | true => exact absurd (vaZ.2 ⟨h1, e⟩) h2
  ·exact ⟨r, (vaZ.1 h1).1, rfl⟩
 ·rintro ⟨r, h1, rfl⟩
  cases e : r.c with
  | true => exact .inr ⟨r, vaZ.2 ⟨h1, e⟩, rfl⟩
  | false =>
   rw [vgu e]
   exact .inl ⟨h1, fun h => by have := (vaZ.1 h).2; rw [e] at this; cases this⟩
theorem vlk (L : List Rt) : armL (L.map seenR) = armL L := by
 unfold armL
 rw [List.filter_map, List.map_map]
 rfl
theorem vnc {L : List Rt} (u : UpR L) (hs : ∀ x ∈ L, x.s ≠ 0) {i : Nat} {x : Rt} (h : x ∈ seenA L i) : ∃ y ∈ L, x.p = y.p := by
 rcases (vcu u hs i x).1 h with ⟨h1, _⟩ | ⟨r, h1, rfl⟩
 ·exact ⟨x, h1, rfl⟩
 ·exact ⟨r, (vaZ.1 (List.mem_of_mem_take h1)).1, rfl⟩
theorem vfa (L : List Rt) : ∀ i, (seenA L i).length ≤ L.length + i
 | 0 => by unfold seenA; rw [List.take_zero]; exact Nat.le_refl _
 | i + 1 => by
  have ih := vfa L i
  by_cases h : i < (newsL L).length
  ·rw [vbI h]
   have h1 := (vao (seenR (newsL L)[i]) (seenA L i)).length_eq
   have h2 : (offR (seenR (newsL L)[i]).p (seenA L i)).length ≤ (seenA L i).length := List.length_filter_le _ _
   rw [List.length_append] at h1
   have : (if (seenR (newsL L)[i]).s = 0 then [] else [seenR (newsL L)[i]]).length ≤ 1 := by split <;> simp
   omega
  ·have : seenA L (i + 1) = seenA L i := by unfold seenA; rw [List.take_of_length_le (by omega), List.take_of_length_le (by omega)]
   rw [this]
   omega
def SeenI (w : World) (mp : Nat) (L : List Rt) (A : Option Addr) (i : Nat) (wr : World) : Prop := MapR wr mp (seenA L i) ∧ Rd wr 9 Rt.enc A (newsL L) ∧ Only [mp] w wr ∧ ∀ a, A = some a → w.heap.size ≤ a.block
def SeenP (B t : Nat) (F : List Nat) (T : Tb) (w : World) (e : Ending) (w' : World) : Prop := e = .returned (.int .i64 (seenT T).2) ∧ TabT w w' B t F (seenT T).1
set_option maxRecDepth 100000 in
theorem vfb (B t : Nat) (F : List Nat) (T : Tb) (w : World) (h : TabM w B t F T) (hok : TbOk T) : Calls Tryz.prog 29 #[.pointer (some ⟨t, 0, none⟩)] w (SeenP B t F T w) := by
 have HS := vbF B t F T 43 (fun r => r.c) vbM vct w h
 obtain ⟨q, mp, m, A, QF, l, hFe, X⟩ := h
 have hs : ∀ x ∈ T.l, x.s ≠ 0 := fun x hx => (hok.r x hx).2
 have htl := X.bk.lt
 have htm : t ≠ mp := fun e => X.mt e.symm
 have hml := X.mr.lt
 have hTl := X.n
 obtain ⟨L, hL⟩ : ∃ L, newsL T.l = L := ⟨_, rfl⟩
 have hlen : L.length ≤ 900000 := by
  have h1 := List.length_filter_le (fun r : Rt => r.c) T.l
  have h3 : L.length = (T.l.filter (fun r => r.c)).length := by rw [← hL]; rfl
  omega
 have HS2 : Hid (Calls Tryz.prog 40 #[.pointer (some ⟨t, 0, none⟩), .func (.func 43) #[] #[]] w (SiftP L w)) := by rw [← hL]; exact Lib.hid HS
 have HL := Lib.hid hL
 have HX := Lib.hid X
 have HOK := Lib.hid hok
 have HSS := Lib.hid hs
 have HFe := Lib.hid hFe
 clear HS hL X hok hs hFe
 go_enter Tryz.func29, Tryz.ntmps29
 go_wp2_with fail
 refine HS2.out.mono ?_
 rintro e w1 ⟨v, rfl, hO, K1⟩
 obtain ⟨A1, c, rfl, hR⟩ := hO.rd (by decide) Rt.len
 have hAl := vgt hO
 have I0 : Hid (SeenI w mp T.l A1 0 w1) := Lib.hid ⟨by unfold seenA; rw [List.take_zero]; exact HX.out.mr.keep K1, by rw [HL.out]; exact hR, Only.of_kp K1, fun a e => (hAl a e).1⟩
 clear hO hR hAl HS2
 go_wp2_with fail
 go_loopw [10] (fun k wr => ∃ i : Nat, i ≤ L.length ∧ k = .int .i64 i ∧ Hid (SeenI w mp T.l A1 i wr)) (fun k _ => L.length - (intOf k).toNat)
 case atStart => exact ⟨0, Nat.zero_le _, rfl, I0⟩
 case round =>
  obtain ⟨i, hi, rfl, I⟩ := hrel
  have hsz0 := I.out.2.2.1.size
  by_cases hlt : i < L.length
  ·have hgi : (i : Int) < (L.length : Int) := by omega
   have hg0 : (0 : Int) ≤ (i : Int) := by omega
   have hrd := I.out.2.1
   rw [HL.out] at hrd
   obtain ⟨b, off, hA, s0, s1, s2, s3, s4, s5, s6, s7, s8⟩ := vaU hrd hlt
   subst hA
   have hnext := vbI (L := T.l) (i := i) (by rw [HL.out]; exact hlt)
   have hel : (newsL T.l)[i]'(by rw [HL.out]; exact hlt) = L[i] := by
    have := HL.out
    subst this
    rfl
   rw [hel] at hnext
   obtain ⟨r, hr⟩ : ∃ r, L[i] = r := ⟨_, rfl⟩
   rw [hr] at s0 s1 s2 s3 s4 s5 s6 s7 s8 hnext
   have hrm : r ∈ T.l := (vaZ.1 (by rw [HL.out, ← hr]; exact List.getElem_mem hlt)).1
   have hwr : wfP r.p := HX.out.wf r hrm
   have HNX := Lib.hid hnext
   have HRM := Lib.hid hrm
   have HWR := Lib.hid hwr
   obtain ⟨g, hg⟩ : ∃ g, wr.heap.size = g := ⟨_, rfl⟩
   obtain ⟨V, hV, bV, kV⟩ : ∃ V, wr.alloc (.cells (roC r) 87) = V ∧ Blk V g 87 (roC r) ∧ Kp wr V := ⟨_, rfl, by rw [← hg]; exact Blk.new _ _ _, (Kp.refl _).alloc _⟩
   have r8 := Blk.f bV rfl
   have z8 := bV.frozen 8
   obtain ⟨U, hU, bU, kU⟩ : ∃ U, V.setCell ⟨g, 8, none⟩ (.bool false) = U ∧ Blk U g 87 (roC (seenR r)) ∧ Kp wr U := ⟨_, rfl, by
    have := bV.set_ 8 (.bool false)
    unfold roC at this
    simp only [List.setIfInBounds_toArray, List.set_cons_zero, List.set_cons_succ] at this
    exact this, kV.setCell (p := ⟨g, 8, none⟩) (by show wr.heap.size ≤ g; omega) _⟩
   obtain ⟨u0, u1, u2, u3, u4, u5, u6, u7, u8⟩ := vab bU
   have tb : U.cell? ⟨t, 10, none⟩ = some (.map (some mp)) := kU.cell ((I.out.2.2.1).cell (HX.out.bk.cell 10) (by simpa using htm))
   unfold roC at hV
   obtain ⟨es, hD, hes⟩ := I.out.1.keep kU
   have hls := vfa T.l i
   have hwM : ∀ x ∈ seenA T.l i, wfP x.p := fun x hx => by
    obtain ⟨y, hy, e⟩ := vnc HX.out.u HSS.out hx
    rw [e]
    exact HX.out.wf y hy
   have HD := Lib.hid hD
   have HES := Lib.hid hes
   have HWM := Lib.hid hwM
   have HKU := Lib.hid kU
   simp only [seenR] at u0 u1 u2 u3 u4 u5 u6 u7 u8
   clear hr hnext hrm hwr hel hrd hD hes hwM bV bU kV kU
   go_upto_region 6 with (fail)
   try rw [hU]
   clear r8 z8 hV hU s0 s1 s2 s3 s4 s5 s6 s7 s8
   go_still_tail 8, (by kernel_rfl)
   change wpList _ _ _ _ _ U.drew
   refine wpList_mapUpdate_in U.drew rfl _ _ _ 105 rfl 29 87 keyedPf Tryz.underlying105 rdAll mp (seenA T.l i).length (.map es) rfl (vco HD.out rfl) (by simp only [maxLen]; omega) (pfV r.p) (roV (seenR r)) (pfKey r.p) rfl rfl (vbb HWR.out) (.held (roV (seenR r))) [] rfl ?_
   intro W1 hD1 hT1
   have hO1 : Only [mp] wr W1 := ((Only.of_kp HKU.out).drew).trans (Only.of_turned hT1)
   have M1 := (MapR.put_ (r := seenR r) HES.out HWM.out HWR.out hD1).perm (show (seenR r :: offR (seenR r).p (seenA T.l i)).Perm (setR (seenR r) (seenA T.l i)) from by
    have := (vao (seenR r) (seenA T.l i)).symm
    rw [if_neg (show ¬ (seenR r).s = 0 from HSS.out r HRM.out)] at this
    exact this)
   have I1 : Hid (SeenI w mp T.l (some ⟨b, off, none⟩) (i + 1) W1) := Lib.hid ⟨by rw [HNX.out]; exact M1, fun j hj => by
    obtain ⟨b', off', e', hc'⟩ := I.out.2.1 j hj
    refine ⟨b', off', e', fun jj uu hu => hO1.cell (hc' jj uu hu) ?_⟩
    have h1 := I.out.2.2.2 _ e'
    simp only [List.mem_cons, List.not_mem_nil, or_false]
    have h2 : w.heap.size ≤ b' := h1
    show ¬ b' = mp
    omega, I.out.2.2.1.trans hO1, I.out.2.2.2⟩
   clear hD1 hT1 hO1 M1 u0 u1 u2 u3 u4 u5 u6 u7 u8 tb hls
   go_wp2_with fail
   go_roundw
   case rel => exact ⟨i + 1, by omega, by go_num, I1⟩
   case measure => simp [intOf]; omega
  ·obtain rfl : i = L.length := by omega
   have hM := I.out.1
   have hO := I.out.2.2.1
   have hall := vjl HX.out.u HSS.out
   rw [HL.out] at hall
   rw [hall] at hM
   have hE : Hid (SeenP B t F T w (.returned (.int .i64 (L.length : Int))) wr) := by
    refine Lib.hid ⟨by unfold seenT; rw [HL.out], F, ⟨q, mp, m, A, QF, l, HFe.out, HX.out.bk.only hO (by simpa using htm), HX.out.qs.only hO (fun x hx => by simp only [List.mem_cons, List.not_mem_nil, or_false]; rintro rfl; exact HX.out.mq hx), by show l.Perm (armL (T.l.map seenR)); rw [vlk]; exact HX.out.pm, hM, vaQ HX.out.ow hO (fun a e => by simpa using (HX.out.an a e).2.2), HX.out.tq, HX.out.mq, HX.out.mt, HX.out.an, HX.out.bt, HX.out.bm, (viu _).2 HX.out.u, fun x hx => ?_, by show (T.l.map seenR).length ≤ _; rw [List.length_map]; exact HX.out.n⟩, hO.wider (fun x hx => by simp only [List.mem_cons, List.not_mem_nil, or_false] at hx; subst hx; rw [HFe.out]; simp), fun x hx => .inl hx⟩
    obtain ⟨y, hy, rfl⟩ := List.mem_map.1 hx
    exact HX.out.wf y hy
   clear hM hO hall
   go_wp2_with fail
   go_ret
   exact hE.out
end

section
open Go.RowKit Go.Maps Go.Shelf
def RClonP (w : World) (l : List Tw) (e : Ending) (w' : World) : Prop := ∃ A c, e = .returned (.slice A l.length c) ∧ Own w' w.heap.size 160 4 Tw.enc (.slice A l.length c) l ∧ Kp w w'
theorem vll (w : World) : (binOp .eql 148 (.slice none 0 0) (.slice none 0 0)).run Tryz.prog w = .ok (.bool true) w := by kernel_rfl
theorem vlm {α : Type} {w : World} {B e sz n c : Nat} {enc : α → List Value} {l : List α} (h : Own w B e sz enc (.slice none n c) l) : n = 0 ∧ c = 0 ∧ l = [] := by
 have h0 : n = 0 ∧ c = 0 := by
  rcases h.2 with ⟨h2, h3⟩ | ⟨g, cap, cur, hv, _⟩
  ·injection h2 with h4 h5 h6; exact ⟨h5, h6⟩
  ·injection hv with hv; cases hv
 refine ⟨h0.1, h0.2, ?_⟩
 obtain ⟨A', c', hv⟩ := h.form
 injection hv with _ hv
 exact List.length_eq_zero_iff.1 (by omega)
set_option maxRecDepth 100000 in
theorem vhw (B : Nat) (A : Option Addr) (c : Nat) (l : List Tw) (w : World) (hO : Own w B 160 4 Tw.enc (.slice A l.length c) l) (hn : l.length ≤ 900000) :
  Calls Tryz.prog 101 #[.slice A l.length c] w (RClonP w l) := by
 cases A with
 | none =>
  obtain ⟨_, rfl, rfl⟩ := vlm hO
  have h1 := vll
  simp only [List.length_nil]
  go_enter Tryz.func101, Tryz.ntmps101
  go_wp2_with fail
  go_ret
  exact ⟨none, 0, rfl, Own.nil _ _ _ _ _, Kp.refl _⟩
 | some g =>
  obtain ⟨A', c', hv, hR⟩ := hO.rd (by decide) Tw.len
  injection hv with e1 _ e3
  subst e1 e3
  have hE : Own (w.alloc (.cells #[] 160)) w.heap.size 160 4 Tw.enc (.slice (some ⟨w.heap.size, 0, none⟩) 0 0) [] := Own.empty (Nat.le_refl _) (Blk.new w _ _)
  have hnil : ∀ w : World, (binOp .eql 148 (.slice (some g) l.length c) (.slice none 0 0)).run Tryz.prog w = .ok (.bool false) w := fun _ => by kernel_rfl
  clear hO
  go_enter Tryz.func101, Tryz.ntmps101
  go_wp2_with (at_builtin; go_loud (refine vbO ERowT Tw.len Tw.one rfl _ _ rfl rfl rfl hE (hR.keep ((Kp.refl _).alloc _)) (by simp; omega) (by simp) ?_; intro v' w1 hown hg hat; rw [List.nil_append] at hown; have hK1 : Kp w w1 := ((Kp.refl w).alloc _).grown hg (fun q hq => (World.ownsRow.lt hE q hq).1); clear hg hat hE; obtain ⟨A', c', rfl⟩ := hown.form))
  go_ret
  exact ⟨_, _, rfl, hown, hK1⟩
theorem vhx (m n : Nat) (f : Tk → Option Nat) (w : World) (h : MpT w m n f) : Calls Tryz.prog 102 #[.map (some m)] w fun e w' => ∃ m', e = .returned (.map (some m')) ∧ w.heap.size ≤ m' ∧ m' < w'.heap.size ∧ MpT w' m' n f ∧ Kp w w' := by
 obtain ⟨D, h1, h2, h3⟩ := h
 refine (AnyW.maps_Clone_owns Tryz.cloneT 158 (plainElem Tryz.prog 3) m n D w h1).mono ?_
 rintro e w' ⟨rfl, k1, _, k3⟩
 exact ⟨_, rfl, Nat.le_refl _, k1.lt, ⟨D, k1, h2, h3⟩, k3⟩
theorem vhy (m : Nat) (L : List Rt) (w : World) (h : MapR w m L) : Calls Tryz.prog 58 #[.map (some m)] w fun e w' => ∃ m', e = .returned (.map (some m')) ∧ w.heap.size ≤ m' ∧ MapR w' m' L ∧ Kp w w' := by
 obtain ⟨es, h1, h2⟩ := h
 refine (AnyW.maps_Clone_owns Tryz.cloneH 29 rdAll m L.length (.map es) w h1).mono ?_
 rintro e w' ⟨rfl, k1, _, k3⟩
 exact ⟨_, rfl, Nat.le_refl _, ⟨es, k1, h2⟩, k3⟩
def MpS (w0 w : World) (m n : Nat) (f : Tk → Option Nat) : Prop := w0.heap.size ≤ m ∧ m < w.heap.size ∧ MpT w m n f
theorem MpS.mk {w0 w : World} {m n : Nat} {f : Tk → Option Nat} (h0 : w0.heap.size ≤ m) (h1 : m < w.heap.size) (h2 : MpT w m n f) : MpS w0 w m n f := ⟨h0, h1, h2⟩
def QCopyP (l : List Tw) (w : World) (e : Ending) (w' : World) : Prop := ∃ a bs, e = .returned (.pointer (some ⟨a, 0, none⟩)) ∧ QuS w' w.heap.size a bs l ∧ Kp w w'
theorem QCopyP.mk {l : List Tw} {w w4 : World} {v : Value} {m : Nat} {f : Tk → Option Nat} (O : Own w4 w.heap.size 160 4 Tw.enc v l) (M : MpT w4 m l.length f) (P : PlOf f l) (hm : w.heap.size ≤ m ∧ m < w4.heap.size) (k : Kp w w4) (wf : ∀ t ∈ l, t.tk.wf ∧ wfI t.d) (hp : Heap ltT (fT l) l.length) (k3 : ∀ y ∈ l, y.k = 3) :
  QCopyP l w (.returned (.pointer (some ⟨w4.heap.size + 1, 0, none⟩))) ((w4.alloc (.cells #[v, .map (some m)] 150)).alloc (.cells #[.pointer (some ⟨w4.heap.size, 0, none⟩)] 152)) := by
 have al : Kp w4 ((w4.alloc (.cells #[v, .map (some m)] 150)).alloc (.cells #[.pointer (some ⟨w4.heap.size, 0, none⟩)] 152)) := ((Kp.refl _).alloc _).alloc _
 have hs := k.size
 refine ⟨w4.heap.size + 1, (w4.heap.size + 1) :: w4.heap.size :: m :: v.ownBlock.toList, rfl, ⟨⟨w4.heap.size, m, v, Blk.new1 _ _ _ _, ⟨(Blk.new _ _ _).alloc _, O.keep al, ⟨f, ?_, P⟩, wf⟩, by simp, by simp, by simp, fun g hg => by simp [hg]⟩, fun b hb => ?_, hp, k3⟩, k.trans al⟩
 ·obtain ⟨D, ⟨es', clock, g1, g2⟩, h2, h3⟩ := M
  exact ⟨D, ⟨es', clock, (al.heap hm.2).trans g1, g2⟩, h2, h3⟩
 ·simp only [World.size_alloc]
  simp only [List.mem_cons, Option.mem_toList] at hb
  rcases hb with rfl | rfl | rfl | hb
  ·omega
  ·omega
  ·omega
  ·have := World.ownsRow.lt O b hb
   omega
set_option maxRecDepth 100000 in
theorem vnd (B a : Nat) (bs : List Nat) (l : List Tw) (w : World) (S : QuS w B a bs l) (hl : l.length ≤ 900000) : Calls Tryz.prog 57 #[.pointer (some ⟨a, 0, none⟩)] w (QCopyP l w) := by
 obtain ⟨⟨q, m, v, hA, Q, _⟩, hlo, hp, k3⟩ := S
 obtain ⟨A, c, hv⟩ := Q.own.form
 subst hv
 have c0 : w.cell? ⟨a, 0, none⟩ = some (.pointer (some ⟨q, 0, none⟩)) := hA.cell 0
 obtain ⟨c1, c2⟩ := Blk.v2 Q.bk (.slice A l.length c) (.map (some m)) rfl
 obtain ⟨f, hM, hP⟩ := Q.mp
 have HA := Lib.hid hA
 have HQ := Lib.hid Q
 have HM := Lib.hid hM
 have HP := Lib.hid hP
 have HH := Lib.hid hp
 have H3 := Lib.hid k3
 have HK := Lib.hid (fun (W : World) (k : Kp w W) => vhw B A c l W (Q.own.keep k) hl)
 have HT := Lib.hid (fun (W : World) (k : Kp w W) => vhx m l.length f W (by
  obtain ⟨D, ⟨es', clock, g1, g2⟩, h2, h3⟩ := hM
  exact ⟨D, ⟨es', clock, (k.heap (Array.getElem?_eq_some_iff.1 g1).1).trans g1, g2⟩, h2, h3⟩))
 clear hA Q hM hP hp k3 hlo
 go_enter Tryz.func57, Tryz.ntmps57
 go_upto_region 3 with (first | (go_at_call 100; refine (vbh a q _ HA.out).mono ?_; rintro e w' ⟨rfl, rfl⟩))
 have K : Kp w w.drew := (Kp.refl w).drew
 go_region_held3 (fun w' => w'.cell? ⟨a, 0, none⟩ = some (.pointer (some ⟨q, 0, none⟩)) ∧ w'.cell? ⟨q, 0, none⟩ = some (.slice A l.length c) ∧ w'.cell? ⟨q, 1, none⟩ = some (.map (some m)))
  (first | exact ⟨K.cell c0, K.cell c1, K.cell c2⟩ | exact ⟨(K.alloc _).cell c0, (K.alloc _).cell c1, (K.alloc _).cell c2⟩ | go_keep)
  (first
   | (go_at_call 101; refine (HK.out _ K).mono ?_; rintro e wo ⟨A2, c2', rfl, ho, hKo⟩; have ho := ho.mono (Kp.size K); (try (have hm := hm.keepM hKo)); have K := K.trans hKo)
   | (go_at_call 102; refine (HT.out _ K).mono ?_; rintro e wm ⟨m2, rfl, hm0, hm1, hm2, hKm⟩; have hm := MpS.mk (Nat.le_trans (Kp.size K) hm0) hm1 hm2; (try (have ho := ho.keep hKm)); have K := K.trans hKm))
 all_goals
  go_wp2_with fail
  go_ret
  exact QCopyP.mk ho hm.2.2 HP.out ⟨hm.1, hm.2.1⟩ K HQ.out.wf HH.out H3.out
end

end Go.Proofs.YtffckpkikdlbpaaGreatDoor
