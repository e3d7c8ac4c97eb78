/- Lemmas and contracts for the theorem of this claim: RxF, SoJ, SoK. -/
import Derived.Test.YtffckpkikdlbpaaGreatDoorZsBm
set_option linter.unusedSimpArgs false
set_option linter.unusedVariables false
namespace Go.Proofs.YtffckpkikdlbpaaGreatDoor
open Go.RowKit Go.Maps
def FacAt (w : World) : Prop := w.cell? ⟨0, 0, none⟩ = some (.int .i64 0) ∧ w.cell? ⟨0, 1, none⟩ = some (.int .i64 15)
theorem FacAt.keep {w w' : World} (h : FacAt w) (k : Kp w w') : FacAt w' := ⟨k.cell h.1, k.cell h.2⟩
set_option maxRecDepth 100000 in
theorem come_ok4 (B t : Nat) (F : List Nat) (T : Tb) (now : Int) (f : FuncId) (hcf : ∀ args w, (callFunc f args).run Tryz.prog w = .ok (.enter f args) w) (x y z u : Value) (w : World) (h : TabM w B t F T) (ht : timely T now = true) {R : Ending → World → Prop} (hR : ∀ e w', R e w' → e = .returned (.tuple #[]) ∨ ∃ ch, e = .panicked ch)
    (HC : Calls Tryz.prog f #[x, y, z, u] (w.setCell ⟨t, 11, none⟩ (.int .i64 now)) R) : Calls Tryz.prog 62 #[.pointer (some ⟨t, 0, none⟩), .int .i64 now, .func (.func f) #[] #[x, y, z, u]] w R := by
  obtain ⟨h1, h2, h3⟩ := h.celln
  have hz := h3 11
  rw [timely_iff] at ht
  have d1 : decide (now < T.now) = false := decide_eq_false (by omega)
  have d2 : decide (4611686018426387904 < now) = false := decide_eq_false (by omega)
  have HC' := Lib.hid HC
  have HR := Lib.hid hR
  clear HC hR h3
  go_enter Tryz.func62, Tryz.ntmps62
  go_wp2_with fail
  refine HC'.out.mono ?_
  rintro e w1 hE
  rcases HR.out _ _ hE with rfl | ⟨ch, rfl⟩
  · go_wp2_with fail
    go_end0
    exact hE
  · go_wp2_with fail
    exact ⟨rfl, hE⟩
set_option maxRecDepth 100000 in
set_option maxHeartbeats 4000000 in
theorem blose_any (B t : Nat) (F : List Nat) (T : Tb) (f now : Int) (w : World) (hM : TabM w B t F T) (hok : TbOk T) (hwf : ∀ r ∈ T.l, r.x < 4294967296) (hown : ∀ k (hk : k < T.c.own.length), T.c.own[k].a < 4294967296) (hC : CapAt w) (hG : 1 < B) (hFa : FacAt w) :
    Calls Tryz.prog 26 #[.pointer (some ⟨t, 0, none⟩), .int .i64 f, .int .i64 now] w (CntP B t F (lostT T f now) w) := by
  obtain ⟨b, hb⟩ : ∃ b, w.heap.size = b := ⟨_, rfl⟩
  obtain ⟨W0, hW0, k0, B0, B2, B1⟩ : ∃ W, ((w.alloc (.cells #[.pointer (some ⟨t, 0, none⟩)] 36)).alloc (.cells #[.int .i64 f] 3)).alloc (.cells #[.int .i64 now] 2) = W ∧ Kp w W ∧ Blk W b 36 #[.pointer (some ⟨t, 0, none⟩)] ∧ Blk W (b + 1) 3 #[.int .i64 f] ∧ Blk W (b + 1 + 1) 2 #[.int .i64 now] := ⟨_, rfl, ((((Kp.refl _).alloc _).alloc _).alloc _), by rw [← hb]; exact ((Blk.new w _ _).alloc _).alloc _, by rw [← hb]; exact (Blk.new1 w _ _ _).alloc _, by rw [← hb]; exact Blk.new2 w _ _ _ _⟩
  have hs0 : W0.heap.size = b + 1 + 1 + 1 := by rw [← hW0, ← hb]; simp
  obtain ⟨W, hW, kW, C0, C2, C1, C3, C4⟩ : ∃ W, (W0.alloc (.cells #[.int .i64 0] 3)).alloc (.cells #[.int .i64 0] 53) = W ∧ Kp w W ∧ Blk W b 36 #[.pointer (some ⟨t, 0, none⟩)] ∧ Blk W (b + 1) 3 #[.int .i64 f] ∧ Blk W (b + 1 + 1) 2 #[.int .i64 now] ∧ Blk W (b + 1 + 1 + 1) 3 #[.int .i64 0] ∧ Blk W (b + 1 + 1 + 1 + 1) 53 #[.int .i64 0] := ⟨_, rfl, (k0.alloc _).alloc _, (B0.alloc _).alloc _, (B2.alloc _).alloc _, (B1.alloc _).alloc _, by rw [← hs0]; exact (Blk.new _ _ _).alloc _, by rw [← hs0]; exact Blk.new1 _ _ _ _⟩
  have c2 : W.cell? ⟨b + 1, 0, none⟩ = some (.int .i64 f) := C2.cell 0
  have fa0 : W.cell? ⟨0, 0, none⟩ = some (.int .i64 0) := kW.cell hFa.1
  have fa1 : W.cell? ⟨0, 1, none⟩ = some (.int .i64 15) := kW.cell hFa.2
  have c0 : W.cell? ⟨b, 0, none⟩ = some (.pointer (some ⟨t, 0, none⟩)) := C0.cell 0
  have c1 : W.cell? ⟨b + 1 + 1, 0, none⟩ = some (.int .i64 now) := C1.cell 0
  have hMW := hM.keep kW
  obtain ⟨mp0, hm, _⟩ := hMW.cellm
  have hFb : ∀ x ∈ F, x < b := fun x hx => by rw [← hb]; exact (hM.lo x hx).2
  have hmf : ∀ (fn : Fn) (first cap : Array Value) (w : World), (Instr.makeFunc fn first cap).run Tryz.prog w = .ok (.func fn first cap) w := fun _ _ _ _ => rfl
  have HM := Lib.hid hM
  have HMW := Lib.hid hMW
  have HFb := Lib.hid hFb
  have HOK := Lib.hid hok
  have HWF := Lib.hid hwf
  have HOW := Lib.hid hown
  have HCA := Lib.hid hC
  have HB := Lib.hid hb
  clear hM hMW hFb hok hwf hown hC B0 B1 B2 k0 hFa
  by_cases hlo : f < 0
  · have d1 : decide (f < 0) = true := decide_eq_true hlo
    have hf : withB 0 15 f = false := by simp only [withB, d1]; rfl
    clear hlo
    have HZ := Lib.hid (show lostT T f now = (T, 0, 2) by unfold lostT; rw [hf]; rfl)
    go_enter_defers Tryz.func26, Tryz.ntmps26
    go_wp2_with (first | (go_at_call 56; refine (none_tab t mp0 _ hm).mono ?_; rintro e w' ⟨rfl, hw'⟩; rw [hw']; clear hw' w') | (go_at_call 60; refine (must_no 2 (by decide) _).mono ?_; rintro e w' ⟨rfl, hw'⟩; rw [hw']; clear hw' w'))
    refine leaves_cons (f := 65) (args := #[.pointer (some ⟨b + 1 + 1 + 1, 0, none⟩), .pointer (some ⟨b + 1 + 1 + 1 + 1, 0, none⟩)]) (by simp) (by simp [go_sem]) ?_
    refine (catch_blose (b + 1 + 1 + 1) (b + 1 + 1 + 1 + 1) _ _ 2 _ C3 C4 (by omega)).mono ?_
    rintro e u' wz ⟨rfl, rfl, Z3, Z4, hOz⟩
    have q0 : wz.cell? ⟨b + 1 + 1 + 1, 0, none⟩ = some (.int .i64 0) := Z3.cell 0
    have q9 : wz.cell? ⟨b + 1 + 1 + 1 + 1, 0, none⟩ = some (.int .i64 2) := Z4.cell 0
    show Leaves _ _ _ _ [] .returning _
    exact ⟨.tuple #[.int .i64 0, .int .i64 2], by simp [results, Tryz.results26, go_sem, q0, q9], CntP.mk HZ.out (TabT.stop (Only.of_kp kW) HMW.out (fun _ z => .inl z) hOz (by
      intro x hx
      have hb := HB.out
      simp only [List.mem_cons, List.not_mem_nil, or_false] at hx
      rcases hx with rfl | rfl
      · exact ⟨by omega, fun z => by have := HFb.out _ z; omega, _, _, C3, by decide⟩
      · exact ⟨by omega, fun z => by have := HFb.out _ z; omega, _, _, C4, by decide⟩))⟩
  have d1 : decide (f < 0) = false := decide_eq_false hlo
  by_cases hhi : 15 < f
  · have d2 : decide (15 < f) = true := decide_eq_true hhi
    have hf : withB 0 15 f = false := by simp only [withB, d1, d2]; rfl
    clear hlo hhi
    have HZ := Lib.hid (show lostT T f now = (T, 0, 2) by unfold lostT; rw [hf]; rfl)
    go_enter_defers Tryz.func26, Tryz.ntmps26
    go_wp2_with (first | (go_at_call 56; refine (none_tab t mp0 _ hm).mono ?_; rintro e w' ⟨rfl, hw'⟩; rw [hw']; clear hw' w') | (go_at_call 60; refine (must_no 2 (by decide) _).mono ?_; rintro e w' ⟨rfl, hw'⟩; rw [hw']; clear hw' w'))
    refine leaves_cons (f := 65) (args := #[.pointer (some ⟨b + 1 + 1 + 1, 0, none⟩), .pointer (some ⟨b + 1 + 1 + 1 + 1, 0, none⟩)]) (by simp) (by simp [go_sem]) ?_
    refine (catch_blose (b + 1 + 1 + 1) (b + 1 + 1 + 1 + 1) _ _ 2 _ C3 C4 (by omega)).mono ?_
    rintro e u' wz ⟨rfl, rfl, Z3, Z4, hOz⟩
    have q0 : wz.cell? ⟨b + 1 + 1 + 1, 0, none⟩ = some (.int .i64 0) := Z3.cell 0
    have q9 : wz.cell? ⟨b + 1 + 1 + 1 + 1, 0, none⟩ = some (.int .i64 2) := Z4.cell 0
    show Leaves _ _ _ _ [] .returning _
    exact ⟨.tuple #[.int .i64 0, .int .i64 2], by simp [results, Tryz.results26, go_sem, q0, q9], CntP.mk HZ.out (TabT.stop (Only.of_kp kW) HMW.out (fun _ z => .inl z) hOz (by
      intro x hx
      have hb := HB.out
      simp only [List.mem_cons, List.not_mem_nil, or_false] at hx
      rcases hx with rfl | rfl
      · exact ⟨by omega, fun z => by have := HFb.out _ z; omega, _, _, C3, by decide⟩
      · exact ⟨by omega, fun z => by have := HFb.out _ z; omega, _, _, C4, by decide⟩))⟩
  have d2 : decide (15 < f) = false := decide_eq_false hhi
  have hf := Lib.hid (show withB 0 15 f = true by simp only [withB, d1, d2]; rfl)
  clear hlo hhi
  go_enter_defers Tryz.func26, Tryz.ntmps26
  go_wp2_with (first | (go_at_call 56; refine (none_tab t mp0 _ hm).mono ?_; rintro e w' ⟨rfl, hw'⟩; rw [hw']; clear hw' w'))
  cases ht : timely T now with
  | false =>
    refine (come_no B t F T now _ W HMW.out HOK.out.t.1 ht).mono ?_
    rintro e w5 ⟨rfl, hw5⟩
    rw [hw5]
    clear hw5 w5
    have HZ := Lib.hid (show lostT T f now = (T, 0, 170) by unfold lostT; rw [hf.out, ht]; rfl)
    go_wp2_with fail
    refine leaves_cons (f := 65) (args := #[.pointer (some ⟨b + 1 + 1 + 1, 0, none⟩), .pointer (some ⟨b + 1 + 1 + 1 + 1, 0, none⟩)]) (by simp) (by simp [go_sem]) ?_
    refine (catch_blose (b + 1 + 1 + 1) (b + 1 + 1 + 1 + 1) _ _ 170 _ C3 C4 (by omega)).mono ?_
    rintro e u' wz ⟨rfl, rfl, Z3, Z4, hOz⟩
    have q0 : wz.cell? ⟨b + 1 + 1 + 1, 0, none⟩ = some (.int .i64 0) := Z3.cell 0
    have q9 : wz.cell? ⟨b + 1 + 1 + 1 + 1, 0, none⟩ = some (.int .i64 170) := Z4.cell 0
    show Leaves _ _ _ _ [] .returning _
    exact ⟨.tuple #[.int .i64 0, .int .i64 170], by simp [results, Tryz.results26, go_sem, q0, q9], CntP.mk HZ.out (TabT.stop (Only.of_kp kW) HMW.out (fun _ z => .inl z) hOz (by
      intro x hx
      have hb := HB.out
      simp only [List.mem_cons, List.not_mem_nil, or_false] at hx
      rcases hx with rfl | rfl
      · exact ⟨by omega, fun z => by have := HFb.out _ z; omega, _, _, C3, by decide⟩
      · exact ⟨by omega, fun z => by have := HFb.out _ z; omega, _, _, C4, by decide⟩))⟩
  | true =>
    have hT1 := HMW.out.now_ now
    have htl := timely_iff.1 ht
    obtain ⟨q, mp, m, A, QF, l, hFe, X1⟩ := hT1
    have tF : t < b := HFb.out t (by rw [hFe]; exact List.mem_cons_self)
    have hbt : B ≤ t := X1.bt
    have hok1 : TbOk ⟨T.c, T.l, now, T.rf⟩ := ⟨HOK.out.c, HOK.out.u, HOK.out.r, HOK.out.n, ⟨htl.1, htl.2.1⟩, HOK.out.f⟩
    have hnF : ∀ i, b ≤ i → i ∉ t :: mp :: QF := fun i hi z => by
      rw [← hFe] at z
      have := HFb.out i z
      omega
    have D0 := C0.far (p := ⟨t, 11, none⟩) (by show b ≠ t; omega) (.int .i64 now)
    have D1 := C1.far (p := ⟨t, 11, none⟩) (by show b + 1 + 1 ≠ t; omega) (.int .i64 now)
    have D3 := C3.far (p := ⟨t, 11, none⟩) (by show b + 1 + 1 + 1 ≠ t; omega) (.int .i64 now)
    have D4 := C4.far (p := ⟨t, 11, none⟩) (by show b + 1 + 1 + 1 + 1 ≠ t; omega) (.int .i64 now)
    have D2 := C2.far (p := ⟨t, 11, none⟩) (by show b + 1 ≠ t; omega) (.int .i64 now)
    have hT2 := HMW.out.now_ now
    have HCL := lose2_any B t F ⟨T.c, T.l, now, T.rf⟩ f b (b + 1) (b + 1 + 1) (b + 1 + 1 + 1) _ hT2 hok1 HWF.out HOW.out ((HCA.out.keep kW).set (by omega)) hG D0 D2 D1 D3 (by rw [hFe]; exact hnF _ (Nat.le_refl _)) (by rw [hFe]; exact hnF _ (by omega)) (by rw [hFe]; exact hnF _ (by omega)) (by rw [hFe]; exact hnF _ (by omega)) (by omega) (by omega)
    refine (come_ok4 B t F T now 66 (fun args w => by kernel_rfl) _ _ _ _ W HMW.out ht (fun e w' z => .inl z.1) HCL).mono ?_
    rintro e w5 ⟨rfl, F5, X5, P5, O5, N5⟩
    have HZ := Lib.hid (show lostT T f now = (⟨T.c, (lostA ⟨T.c, T.l, now, T.rf⟩ f (validL T.l).length).1, now, T.rf⟩, (lostA ⟨T.c, T.l, now, T.rf⟩ f (validL T.l).length).2, 0) by
      unfold lostT lostA
      rw [hf.out, ht, lose_valid, List.take_length]
      rfl)
    obtain ⟨n, hn⟩ : ∃ n, (lostA ⟨T.c, T.l, now, T.rf⟩ f (validL T.l).length).2 = n := ⟨_, rfl⟩
    have P5' : Blk w5 (b + 1 + 1 + 1) 3 #[.int .i64 n] := by rw [← hn]; exact P5
    rw [hn] at HZ
    have hO1 : Only F w (W.setCell ⟨t, 11, none⟩ (.int .i64 now)) := (Only.of_kp kW).setCell (p := ⟨t, 11, none⟩) (.inl (by rw [hFe]; exact List.mem_cons_self)) _
    have hO5 : Only F w w5 := hO1.joinF O5 (fun x hx => by
      have hb := HB.out
      rcases List.mem_cons.1 hx with rfl | hx
      · exact .inr (by omega)
      · exact .inl hx)
    have hs1 : (W.setCell ⟨t, 11, none⟩ (.int .i64 now)).heap.size = W.heap.size := by simp
    have P54 := D4.only O5 (by
      rw [hFe]
      simp only [List.mem_cons, not_or]
      have := hnF (b + 1 + 1 + 1 + 1) (by omega)
      simp only [List.mem_cons, not_or] at this
      exact ⟨by omega, this⟩)
    have hWl := C4.lt
    have HX5 := Lib.hid X5
    have HN5 := Lib.hid N5
    have HnF := Lib.hid hnF
    have HO5 := Lib.hid hO5
    have HFe := Lib.hid hFe
    have x0 : w5.cell? ⟨b + 1 + 1 + 1, 0, none⟩ = some (.int .i64 n) := P5'.cell 0
    have z0 := P5'.frozen 0
    have x1 : w5.cell? ⟨b + 1 + 1 + 1 + 1, 0, none⟩ = some (.int .i64 0) := P54.cell 0
    have z1 := P54.frozen 0
    obtain ⟨Q, hQ, Q3, Q4, hOQ⟩ : ∃ Q, (w5.setCell ⟨b + 1 + 1 + 1, 0, none⟩ (.int .i64 n)).setCell ⟨b + 1 + 1 + 1 + 1, 0, none⟩ (.int .i64 0) = Q ∧ Blk Q (b + 1 + 1 + 1) 3 #[.int .i64 n] ∧ Blk Q (b + 1 + 1 + 1 + 1) 53 #[.int .i64 0] ∧ Only [b + 1 + 1 + 1, b + 1 + 1 + 1 + 1] w5 Q := ⟨_, rfl, (P5'.set_ 0 (.int .i64 n)).far (p := ⟨b + 1 + 1 + 1 + 1, 0, none⟩) (by show b + 1 + 1 + 1 ≠ b + 1 + 1 + 1 + 1; omega) _, (P54.far (p := ⟨b + 1 + 1 + 1, 0, none⟩) (by show b + 1 + 1 + 1 + 1 ≠ b + 1 + 1 + 1; omega) _).set_ 0 (.int .i64 0), ((Only.refl _ w5).setCell (p := ⟨b + 1 + 1 + 1, 0, none⟩) (.inl (by simp)) _).setCell (p := ⟨b + 1 + 1 + 1 + 1, 0, none⟩) (.inl (by simp)) _⟩
    clear X5 N5 hnF hO5 hFe hn HCL X1 hs1 P5 hT2
    go_wp2_with fail
    clear x0 x1
    have q0 : Q.cell? ⟨b + 1 + 1 + 1, 0, none⟩ = some (.int .i64 n) := Q3.cell 0
    have q9 : Q.cell? ⟨b + 1 + 1 + 1 + 1, 0, none⟩ = some (.int .i64 0) := Q4.cell 0
    refine leaves_cons (f := 65) (args := #[.pointer (some ⟨b + 1 + 1 + 1, 0, none⟩), .pointer (some ⟨b + 1 + 1 + 1 + 1, 0, none⟩)]) (by simp) (by simp [go_sem]) ?_
    refine (idle_blose _ _ _).mono ?_
    rintro e u' wz ⟨rfl, rfl, rfl⟩
    show Leaves _ _ _ _ [] .returning _
    have hnew : ∀ z ∈ F5, z ∈ F ∨ w.heap.size ≤ z := fun z hz => by
      have hb := HB.out
      rcases HN5.out z hz with k | k
      · exact .inl k
      · have := kW.size
        simp at k
        exact .inr (by omega)
    have hno : ∀ z, b ≤ z → z < W.heap.size → z ∉ F5 := fun z hz hz2 hm => by
      rcases HN5.out z hm with k | k
      · have h1 := HnF.out z hz
        rw [← HFe.out] at h1
        exact h1 k
      · simp at k
        omega
    exact ⟨.tuple #[.int .i64 n, .int .i64 0], by simp [results, Tryz.results26, go_sem, q0, q9], CntP.mk HZ.out (TabT.stop HO5.out HX5.out hnew hOQ (by
      intro x hx
      have hb := HB.out
      simp only [List.mem_cons, List.not_mem_nil, or_false] at hx
      rcases hx with rfl | rfl
      · exact ⟨by omega, hno _ (by omega) (by omega), _, _, P5', by decide⟩
      · exact ⟨by omega, hno _ (by omega) (by omega), _, _, P54, by decide⟩))⟩
end Go.Proofs.YtffckpkikdlbpaaGreatDoor

namespace Go.Proofs.YtffckpkikdlbpaaGreatDoor
open Go.RowKit Go.Maps Go.Shelf
def RClonP (w : World) (l : List Tw) (e : Ending) (w' : World) : Prop := ∃ A c, e = .returned (.slice A l.length c) ∧ Own w' w.heap.size 160 4 Tw.enc (.slice A l.length c) l ∧ Kp w w'
theorem rows_nil (w : World) : (binOp .eql 148 (.slice none 0 0) (.slice none 0 0)).run Tryz.prog w = .ok (.bool true) w := by kernel_rfl
theorem own_none {α : Type} {w : World} {B e sz n c : Nat} {enc : α → List Value} {l : List α} (h : Own w B e sz enc (.slice none n c) l) : n = 0 ∧ c = 0 ∧ l = [] := by
  have h0 : n = 0 ∧ c = 0 := by
    rcases h.2 with ⟨h2, h3⟩ | ⟨g, cap, cur, hv, _⟩
    · injection h2 with h4 h5 h6; exact ⟨h5, h6⟩
    · injection hv with hv; cases hv
  refine ⟨h0.1, h0.2, ?_⟩
  obtain ⟨A', c', hv⟩ := h.form
  injection hv with _ hv
  exact List.length_eq_zero_iff.1 (by omega)
set_option maxRecDepth 100000 in
set_option maxHeartbeats 1000000 in
theorem rclone_any (B : Nat) (A : Option Addr) (c : Nat) (l : List Tw) (w : World) (hO : Own w B 160 4 Tw.enc (.slice A l.length c) l) (hn : l.length ≤ 900000) :
    Calls Tryz.prog 101 #[.slice A l.length c] w (RClonP w l) := by
  cases A with
  | none =>
    obtain ⟨_, rfl, rfl⟩ := own_none hO
    have h1 := rows_nil
    simp only [List.length_nil]
    go_enter Tryz.func101, Tryz.ntmps101
    go_wp2_with fail
    go_ret
    exact ⟨none, 0, rfl, Own.nil _ _ _ _ _, Kp.refl _⟩
  | some g =>
    obtain ⟨A', c', hv, hR⟩ := hO.rd (by decide) Tw.len
    injection hv with e1 _ e3
    subst e1 e3
    have hE : Own (w.alloc (.cells #[] 160)) w.heap.size 160 4 Tw.enc (.slice (some ⟨w.heap.size, 0, none⟩) 0 0) [] := Own.empty (Nat.le_refl _) (Blk.new w _ _)
    have hnil : ∀ w : World, (binOp .eql 148 (.slice (some g) l.length c) (.slice none 0 0)).run Tryz.prog w = .ok (.bool false) w := fun _ => by kernel_rfl
    clear hO
    go_enter Tryz.func101, Tryz.ntmps101
    go_wp2_with (at_builtin; go_loud (refine wpList_appl ERowT Tw.len Tw.one rfl _ _ rfl rfl rfl hE (hR.keep ((Kp.refl _).alloc _)) (by simp; omega) (by simp) ?_; intro v' w1 hown hg hat; rw [List.nil_append] at hown; have hK1 : Kp w w1 := ((Kp.refl w).alloc _).grown hg (fun q hq => (World.ownsRow.lt hE q hq).1); clear hg hat hE; obtain ⟨A', c', rfl⟩ := hown.form))
    go_ret
    exact ⟨_, _, rfl, hown, hK1⟩
theorem tclone_any (m n : Nat) (f : Tk → Option Nat) (w : World) (h : MpT w m n f) : Calls Tryz.prog 102 #[.map (some m)] w fun e w' => ∃ m', e = .returned (.map (some m')) ∧ w.heap.size ≤ m' ∧ m' < w'.heap.size ∧ MpT w' m' n f ∧ Kp w w' := by
  obtain ⟨D, h1, h2, h3⟩ := h
  refine (AnyW.maps_Clone_owns Tryz.cloneT 158 (plainElem Tryz.prog 3) m n D w h1).mono ?_
  rintro e w' ⟨rfl, k1, _, k3⟩
  exact ⟨_, rfl, Nat.le_refl _, k1.lt, ⟨D, k1, h2, h3⟩, k3⟩
theorem hclone_any (m : Nat) (L : List Rt) (w : World) (h : MapR w m L) : Calls Tryz.prog 58 #[.map (some m)] w fun e w' => ∃ m', e = .returned (.map (some m')) ∧ w.heap.size ≤ m' ∧ MapR w' m' L ∧ Kp w w' := by
  obtain ⟨es, h1, h2⟩ := h
  refine (AnyW.maps_Clone_owns Tryz.cloneH 29 rdAll m L.length (.map es) w h1).mono ?_
  rintro e w' ⟨rfl, k1, _, k3⟩
  exact ⟨_, rfl, Nat.le_refl _, ⟨es, k1, h2⟩, k3⟩
def MpS (w0 w : World) (m n : Nat) (f : Tk → Option Nat) : Prop := w0.heap.size ≤ m ∧ m < w.heap.size ∧ MpT w m n f
theorem MpS.mk {w0 w : World} {m n : Nat} {f : Tk → Option Nat} (h0 : w0.heap.size ≤ m) (h1 : m < w.heap.size) (h2 : MpT w m n f) : MpS w0 w m n f := ⟨h0, h1, h2⟩
def QCopyP (l : List Tw) (w : World) (e : Ending) (w' : World) : Prop := ∃ a bs, e = .returned (.pointer (some ⟨a, 0, none⟩)) ∧ QuS w' w.heap.size a bs l ∧ Kp w w'
theorem QCopyP.mk {l : List Tw} {w w4 : World} {v : Value} {m : Nat} {f : Tk → Option Nat} (O : Own w4 w.heap.size 160 4 Tw.enc v l) (M : MpT w4 m l.length f) (P : PlOf f l) (hm : w.heap.size ≤ m ∧ m < w4.heap.size) (k : Kp w w4) (wf : ∀ t ∈ l, t.tk.wf ∧ wfI t.d) (hp : Heap ltT (fT l) l.length) (k3 : ∀ y ∈ l, y.k = 3) :
    QCopyP l w (.returned (.pointer (some ⟨w4.heap.size + 1, 0, none⟩))) ((w4.alloc (.cells #[v, .map (some m)] 150)).alloc (.cells #[.pointer (some ⟨w4.heap.size, 0, none⟩)] 152)) := by
  have al : Kp w4 ((w4.alloc (.cells #[v, .map (some m)] 150)).alloc (.cells #[.pointer (some ⟨w4.heap.size, 0, none⟩)] 152)) := ((Kp.refl _).alloc _).alloc _
  have hs := k.size
  refine ⟨w4.heap.size + 1, (w4.heap.size + 1) :: w4.heap.size :: m :: v.ownBlock.toList, rfl, ⟨⟨w4.heap.size, m, v, Blk.new1 _ _ _ _, ⟨(Blk.new _ _ _).alloc _, O.keep al, ⟨f, ?_, P⟩, wf⟩, by simp, by simp, by simp, fun g hg => by simp [hg]⟩, fun b hb => ?_, hp, k3⟩, k.trans al⟩
  · obtain ⟨D, ⟨es', clock, g1, g2⟩, h2, h3⟩ := M
    exact ⟨D, ⟨es', clock, (al.heap hm.2).trans g1, g2⟩, h2, h3⟩
  · simp only [World.size_alloc]
    simp only [List.mem_cons, Option.mem_toList] at hb
    rcases hb with rfl | rfl | rfl | hb
    · omega
    · omega
    · omega
    · have := World.ownsRow.lt O b hb
      omega
set_option maxRecDepth 100000 in
set_option maxHeartbeats 4000000 in
theorem qCopy_S (B a : Nat) (bs : List Nat) (l : List Tw) (w : World) (S : QuS w B a bs l) (hl : l.length ≤ 900000) : Calls Tryz.prog 57 #[.pointer (some ⟨a, 0, none⟩)] w (QCopyP l w) := by
  obtain ⟨⟨q, m, v, hA, Q, _⟩, hlo, hp, k3⟩ := S
  obtain ⟨A, c, hv⟩ := Q.own.form
  subst hv
  have c0 : w.cell? ⟨a, 0, none⟩ = some (.pointer (some ⟨q, 0, none⟩)) := hA.cell 0
  have c1 : w.cell? ⟨q, 0, none⟩ = some (.slice A l.length c) := Q.bk.cell 0
  have c2 : w.cell? ⟨q, 1, none⟩ = some (.map (some m)) := Q.bk.cell 1
  obtain ⟨f, hM, hP⟩ := Q.mp
  have HA := Lib.hid hA
  have HQ := Lib.hid Q
  have HM := Lib.hid hM
  have HP := Lib.hid hP
  have HH := Lib.hid hp
  have H3 := Lib.hid k3
  have HK := Lib.hid (fun (W : World) (k : Kp w W) => rclone_any B A c l W (Q.own.keep k) hl)
  have HT := Lib.hid (fun (W : World) (k : Kp w W) => tclone_any m l.length f W (by
    obtain ⟨D, ⟨es', clock, g1, g2⟩, h2, h3⟩ := hM
    exact ⟨D, ⟨es', clock, (k.heap (Array.getElem?_eq_some_iff.1 g1).1).trans g1, g2⟩, h2, h3⟩))
  clear hA Q hM hP hp k3 hlo
  go_enter Tryz.func57, Tryz.ntmps57
  go_upto_region 3 with (first | (go_at_call 100; refine (qNone_is a q _ HA.out).mono ?_; rintro e w' ⟨rfl, rfl⟩))
  have K : Kp w w.drew := (Kp.refl w).drew
  go_region_held3 (fun w' => w'.cell? ⟨a, 0, none⟩ = some (.pointer (some ⟨q, 0, none⟩)) ∧ w'.cell? ⟨q, 0, none⟩ = some (.slice A l.length c) ∧ w'.cell? ⟨q, 1, none⟩ = some (.map (some m)))
    (first | exact ⟨K.cell c0, K.cell c1, K.cell c2⟩ | exact ⟨(K.alloc _).cell c0, (K.alloc _).cell c1, (K.alloc _).cell c2⟩ | go_keep)
    (first
      | (go_at_call 101; refine (HK.out _ K).mono ?_; rintro e wo ⟨A2, c2', rfl, ho, hKo⟩; have ho := ho.mono (Kp.size K); (try (have hm := hm.keepM hKo)); have K := K.trans hKo)
      | (go_at_call 102; refine (HT.out _ K).mono ?_; rintro e wm ⟨m2, rfl, hm0, hm1, hm2, hKm⟩; have hm := MpS.mk (Nat.le_trans (Kp.size K) hm0) hm1 hm2; (try (have ho := ho.keep hKm)); have K := K.trans hKm))
  all_goals
    go_wp2_with fail
    go_ret
    exact QCopyP.mk ho hm.2.2 HP.out ⟨hm.1, hm.2.1⟩ K HQ.out.wf HH.out H3.out
end Go.Proofs.YtffckpkikdlbpaaGreatDoor

namespace Go.Proofs.YtffckpkikdlbpaaGreatDoor
open Go.RowKit Go.Maps
def TCopyP (T : Tb) (w : World) (e : Ending) (w' : World) : Prop := ∃ t F, e = .returned (.pointer (some ⟨t, 0, none⟩)) ∧ TabM w' w.heap.size t F T ∧ Kp w w'
theorem TCopyP.mk {T : Tb} {w w4 : World} {q mp m : Nat} {A : Option Addr} {QF : List Nat} {l : List Tw} (S : QuS w4 w.heap.size q QF l) (O : Own w4 w.heap.size 29 2 PI.enc (.slice A T.c.own.length m) T.c.own) (M : MapR w4 mp T.l) (hm : w.heap.size ≤ mp) (pm : l.Perm (armL T.l))
    (hmq : mp ∉ QF) (han : ∀ a, A = some a → a.block ∉ QF ∧ a.block ≠ mp) (K : Kp w w4) (u : UpR T.l) (wf : ∀ r ∈ T.l, wfP r.p) (n : T.l.length ≤ 900000) : TCopyP T w (.returned (.pointer (some ⟨w4.heap.size, 0, none⟩))) (w4.alloc (.cells (tbC q T A m mp) 107)) := by
  have al : Kp w4 (w4.alloc (.cells (tbC q T A m mp) 107)) := (Kp.refl _).alloc _
  exact ⟨w4.heap.size, _, rfl, ⟨q, mp, m, A, QF, l, rfl, Blk.new _ _ _, S.keep al, pm, M.keep al, O.keep al, fun e => by have := (S.lo _ e).2; omega, hmq, fun e => by have := M.lt; omega, fun a e => ⟨(han a e).1, fun z => by have := (own_lt O a e).2; omega, (han a e).2⟩, K.size, hm, u, wf, n⟩, K.trans al⟩
set_option maxRecDepth 100000 in
set_option maxHeartbeats 4000000 in
theorem copy_any_ (B t : Nat) (F : List Nat) (T : Tb) (w : World) (h : TabM w B t F T) (hn : T.c.own.length ≤ 1000000) : Calls Tryz.prog 19 #[.pointer (some ⟨t, 0, none⟩)] w (TCopyP T w) := by
  obtain ⟨q, mp, m, A, QF, l, _, X⟩ := h
  obtain ⟨W, hWw⟩ : ∃ W, W = w := ⟨_, rfl⟩
  have XW : TabX W B t q mp m A QF l T := by rw [hWw]; exact X
  have gq : W.cell? ⟨t, 0, none⟩ = some (.pointer (some ⟨q, 0, none⟩)) := XW.bk.cell 0
  have g0 : W.cell? ⟨t, 1, none⟩ = some (.int .i64 T.c.t0) := XW.bk.cell 1
  have g1 : W.cell? ⟨t, 2, none⟩ = some (.int .i64 T.c.t1) := XW.bk.cell 2
  have g2 : W.cell? ⟨t, 3, none⟩ = some (.int .i64 T.c.t2) := XW.bk.cell 3
  have g3 : W.cell? ⟨t, 4, none⟩ = some (.int .i64 T.c.t3) := XW.bk.cell 4
  have g4 : W.cell? ⟨t, 5, none⟩ = some (.int .i64 T.c.t4) := XW.bk.cell 5
  have g5 : W.cell? ⟨t, 6, none⟩ = some (.int .i64 T.c.t5) := XW.bk.cell 6
  have g6 : W.cell? ⟨t, 7, none⟩ = some (.int .i64 T.c.t6) := XW.bk.cell 7
  have g7 : W.cell? ⟨t, 8, none⟩ = some (.int .i64 T.c.cap) := XW.bk.cell 8
  have g8 : W.cell? ⟨t, 9, none⟩ = some (.slice A T.c.own.length m) := XW.bk.cell 9
  have hm : W.cell? ⟨t, 10, none⟩ = some (.map (some mp)) := XW.bk.cell 10
  have gn : W.cell? ⟨t, 11, none⟩ = some (.int .i64 T.now) := XW.bk.cell 11
  have gf : W.cell? ⟨t, 12, none⟩ = some (.int .i64 T.rf) := XW.bk.cell 12
  subst hWw
  have hl := X.len
  have HX := Lib.hid X
  have HSL := Lib.hid (SlPI.of_own X.ow)
  clear X XW
  go_enter Tryz.func19, Tryz.ntmps19
  go_upto_region 3 with (first | (go_at_call 56; refine (none_tab t mp _ hm).mono ?_; rintro e w' ⟨rfl, hw'⟩; rw [hw']; clear hw' w'))
  have K : Kp W W.drew := (Kp.refl W).drew
  go_region_held3 (fun w' => w'.cell? ⟨t, 0, none⟩ = some (.pointer (some ⟨q, 0, none⟩)) ∧ w'.cell? ⟨t, 1, none⟩ = some (.int .i64 T.c.t0) ∧ w'.cell? ⟨t, 2, none⟩ = some (.int .i64 T.c.t1) ∧ w'.cell? ⟨t, 3, none⟩ = some (.int .i64 T.c.t2) ∧ w'.cell? ⟨t, 4, none⟩ = some (.int .i64 T.c.t3) ∧ w'.cell? ⟨t, 5, none⟩ = some (.int .i64 T.c.t4) ∧ w'.cell? ⟨t, 6, none⟩ = some (.int .i64 T.c.t5) ∧ w'.cell? ⟨t, 7, none⟩ = some (.int .i64 T.c.t6) ∧ w'.cell? ⟨t, 8, none⟩ = some (.int .i64 T.c.cap) ∧ w'.cell? ⟨t, 9, none⟩ = some (.slice A T.c.own.length m) ∧ w'.cell? ⟨t, 10, none⟩ = some (.map (some mp)) ∧ w'.cell? ⟨t, 11, none⟩ = some (.int .i64 T.now) ∧ w'.cell? ⟨t, 12, none⟩ = some (.int .i64 T.rf))
    (first | exact ⟨K.cell gq, K.cell g0, K.cell g1, K.cell g2, K.cell g3, K.cell g4, K.cell g5, K.cell g6, K.cell g7, K.cell g8, K.cell hm, K.cell gn, K.cell gf⟩ | go_keep)
    (first
      | (go_at_call 57; refine (qCopy_S B q QF l _ (HX.out.qs.keep K) hl).mono ?_; rintro e wq ⟨q2, QF2, rfl, hq, hKq⟩; have hlq := hq.lo; have hq := hq.mono (Kp.size K); (try (have ho := ho.keep hKq)); (try (have hr := hr.keep hKq)); have hzq := hKq.size; have K := K.trans hKq)
      | (go_at_call 53; refine (ccopy_any T.c A m _ (HSL.out.keep K) hn).mono ?_; rintro e wo ⟨A2, m2, rfl, ho, hKo⟩; have hlo := own_lt ho; have ho := ho.mono (Kp.size K); (try (have hq := hq.keep hKo)); (try (have hr := hr.keep hKo)); have hzo := hKo.size; have K := K.trans hKo)
      | (go_at_call 58; refine (hclone_any mp T.l _ (HX.out.mr.keep K)).mono ?_; rintro e wm ⟨mp2, rfl, hr0, hr, hKm⟩; have hr1 := hr.lt; (try (have hq := hq.keep hKm)); (try (have ho := ho.keep hKm)); have hzm := hKm.size; have K := K.trans hKm))
  all_goals
    have hdr : W.drew.heap.size = W.heap.size := rfl
    have HF := Lib.hid (TCopyP.mk (T := T) (w := W) hq ho hr (by omega) HX.out.pm (fun e => by have := hlq _ e; omega) (fun a e => ⟨fun z => by have := hlq _ z; have := hlo a e; omega, by have := hlo a e; omega⟩) K HX.out.u HX.out.wf HX.out.n)
    clear hlq hlo hzq hzo hzm hr0 hr1 hq ho hr hdr
    unfold tbC at HF
    go_wp2_with fail
    go_ret
    exact HF.out
end Go.Proofs.YtffckpkikdlbpaaGreatDoor
