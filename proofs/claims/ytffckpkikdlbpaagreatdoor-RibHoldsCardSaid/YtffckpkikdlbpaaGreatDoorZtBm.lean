/- Lemmas and contracts for the theorem of this claim: RxD. -/
import Derived.Test.YtffckpkikdlbpaaGreatDoorZtBl
set_option linter.unusedSimpArgs false
set_option linter.unusedVariables false
namespace Go.Proofs.YtffckpkikdlbpaaGreatDoor
open Go.RowKit Go.Maps
def CntP (B t : Nat) (F : List Nat) (z : Tb × Int × Int) (w : World) (e : Ending) (w' : World) : Prop := e = .returned (.tuple #[.int .i64 z.2.1, .int .i64 z.2.2]) ∧ TabT w w' B t F z.1
theorem CntP.mk {B t : Nat} {F : List Nat} {T' : Tb} {z : Tb × Int × Int} {k n : Int} {w w' : World} (h : z = (T', k, n)) (hT : TabT w w' B t F T') : CntP B t F z w (.returned (.tuple #[.int .i64 k, .int .i64 n])) w' := by subst h; exact ⟨rfl, hT⟩
theorem CapAt.set {w : World} (h : CapAt w) {t i : Nat} {v : Value} (ht : 1 ≠ t) : CapAt (w.setCell ⟨t, i, none⟩ v) :=
  ⟨((Only.refl [t] w).setCell (p := ⟨t, i, none⟩) (.inl (by simp)) v).cell h.1 (by simpa using ht), ((Only.refl [t] w).setCell (p := ⟨t, i, none⟩) (.inl (by simp)) v).cell h.2 (by simpa using ht)⟩
set_option maxRecDepth 100000 in
set_option maxHeartbeats 4000000 in
theorem bexp_any (B t : Nat) (F : List Nat) (T : Tb) (now : Int) (w : World) (hM : TabM w B t F T) (hok : TbOk T) (hwf : ∀ r ∈ T.l, r.x < 4294967296) (hown : ∀ k (hk : k < T.c.own.length), T.c.own[k].a < 4294967296) (hC : CapAt w) (hG : 1 < B) :
    Calls Tryz.prog 27 #[.pointer (some ⟨t, 0, none⟩), .int .i64 now] w (CntP B t F (expT T now) w) := by
  obtain ⟨b, hb⟩ : ∃ b, w.heap.size = b := ⟨_, rfl⟩
  obtain ⟨W0, hW0, k0, B0, B1⟩ : ∃ W, (w.alloc (.cells #[.pointer (some ⟨t, 0, none⟩)] 36)).alloc (.cells #[.int .i64 now] 2) = W ∧ Kp w W ∧ Blk W b 36 #[.pointer (some ⟨t, 0, none⟩)] ∧ Blk W (b + 1) 2 #[.int .i64 now] := ⟨_, rfl, (((Kp.refl _).alloc _).alloc _), by rw [← hb]; exact ((Blk.new w _ _).alloc _), by rw [← hb]; exact Blk.new1 w _ _ _⟩
  have hs0 : W0.heap.size = b + 1 + 1 := by rw [← hW0, ← hb]; simp
  obtain ⟨W, hW, kW, C0, C1, C3, C4⟩ : ∃ W, (W0.alloc (.cells #[.int .i64 0] 3)).alloc (.cells #[.int .i64 0] 53) = W ∧ Kp w W ∧ Blk W b 36 #[.pointer (some ⟨t, 0, none⟩)] ∧ Blk W (b + 1) 2 #[.int .i64 now] ∧ Blk W (b + 1 + 1) 3 #[.int .i64 0] ∧ Blk W (b + 1 + 1 + 1) 53 #[.int .i64 0] := ⟨_, rfl, (k0.alloc _).alloc _, (B0.alloc _).alloc _, (B1.alloc _).alloc _, by rw [← hs0]; exact (Blk.new _ _ _).alloc _, by rw [← hs0]; exact Blk.new1 _ _ _ _⟩
  have c0 : W.cell? ⟨b, 0, none⟩ = some (.pointer (some ⟨t, 0, none⟩)) := C0.cell 0
  have c1 : W.cell? ⟨b + 1, 0, none⟩ = some (.int .i64 now) := C1.cell 0
  have hMW := hM.keep kW
  obtain ⟨mp0, hm, _⟩ := hMW.cellm
  have hFb : ∀ x ∈ F, x < b := fun x hx => by rw [← hb]; exact (hM.lo x hx).2
  have hmf : ∀ (fn : Fn) (first cap : Array Value) (w : World), (Instr.makeFunc fn first cap).run Tryz.prog w = .ok (.func fn first cap) w := fun _ _ _ _ => rfl
  have HM := Lib.hid hM
  have HMW := Lib.hid hMW
  have HFb := Lib.hid hFb
  have HOK := Lib.hid hok
  have HWF := Lib.hid hwf
  have HOW := Lib.hid hown
  have HCA := Lib.hid hC
  have HB := Lib.hid hb
  clear hM hMW hFb hok hwf hown hC B0 B1 k0
  go_enter_defers Tryz.func27, Tryz.ntmps27
  go_wp2_with (first | (go_at_call 56; refine (none_tab t mp0 _ hm).mono ?_; rintro e w' ⟨rfl, hw'⟩; rw [hw']; clear hw' w'))
  cases ht : timely T now with
  | false =>
    refine (come_no B t F T now _ W HMW.out HOK.out.t.1 ht).mono ?_
    rintro e w5 ⟨rfl, hw5⟩
    rw [hw5]
    clear hw5 w5
    have HZ := Lib.hid (show expT T now = (T, 0, 170) by unfold expT; rw [ht]; rfl)
    go_wp2_with fail
    refine leaves_cons (f := 69) (args := #[.pointer (some ⟨b + 1 + 1, 0, none⟩), .pointer (some ⟨b + 1 + 1 + 1, 0, none⟩)]) (by simp) (by simp [go_sem]) ?_
    refine (catch_bexp (b + 1 + 1) (b + 1 + 1 + 1) _ _ 170 _ C3 C4 (by omega)).mono ?_
    rintro e u' wz ⟨rfl, rfl, Z3, Z4, hOz⟩
    have q0 : wz.cell? ⟨b + 1 + 1, 0, none⟩ = some (.int .i64 0) := Z3.cell 0
    have q9 : wz.cell? ⟨b + 1 + 1 + 1, 0, none⟩ = some (.int .i64 170) := Z4.cell 0
    show Leaves _ _ _ _ [] .returning _
    exact ⟨.tuple #[.int .i64 0, .int .i64 170], by simp [results, Tryz.results27, go_sem, q0, q9], CntP.mk HZ.out (TabT.stop (Only.of_kp kW) HMW.out (fun _ z => .inl z) hOz (by
      intro x hx
      have hb := HB.out
      simp only [List.mem_cons, List.not_mem_nil, or_false] at hx
      rcases hx with rfl | rfl
      · exact ⟨by omega, fun z => by have := HFb.out _ z; omega, _, _, C3, by decide⟩
      · exact ⟨by omega, fun z => by have := HFb.out _ z; omega, _, _, C4, by decide⟩))⟩
  | true =>
    have hT1 := HMW.out.now_ now
    have htl := timely_iff.1 ht
    obtain ⟨q, mp, m, A, QF, l, hFe, X1⟩ := hT1
    have tF : t < b := HFb.out t (by rw [hFe]; exact List.mem_cons_self)
    have hbt : B ≤ t := X1.bt
    have hok1 : TbOk ⟨T.c, T.l, now, T.rf⟩ := ⟨HOK.out.c, HOK.out.u, HOK.out.r, HOK.out.n, ⟨htl.1, htl.2.1⟩, HOK.out.f⟩
    have hnF : ∀ i, b ≤ i → i ∉ t :: mp :: QF := fun i hi z => by
      rw [← hFe] at z
      have := HFb.out i z
      omega
    have D0 := C0.far (p := ⟨t, 11, none⟩) (by show b ≠ t; omega) (.int .i64 now)
    have D1 := C1.far (p := ⟨t, 11, none⟩) (by show b + 1 ≠ t; omega) (.int .i64 now)
    have D3 := C3.far (p := ⟨t, 11, none⟩) (by show b + 1 + 1 ≠ t; omega) (.int .i64 now)
    have D4 := C4.far (p := ⟨t, 11, none⟩) (by show b + 1 + 1 + 1 ≠ t; omega) (.int .i64 now)
    have HCL := exp2_any B t q mp m A QF l ⟨T.c, T.l, now, T.rf⟩ b (b + 1) (b + 1 + 1) _ X1 hok1 HWF.out HOW.out ((HCA.out.keep kW).set (by omega)) hG D0 D1 D3 (hnF _ (Nat.le_refl _)) (hnF _ (by omega)) (hnF _ (by omega)) (by omega)
    refine (come_ok B t F T now 70 (fun args w => by kernel_rfl) _ _ _ W HMW.out ht (fun e w' z => .inl z.1) HCL).mono ?_
    rintro e w5 ⟨rfl, QF5, l5, X5, P5, O5, N5⟩
    have hall := expE_all HOK.out (now := now) (by rw [okNow, withB_iff]; exact ⟨htl.1, htl.2.1⟩)
    have HZ := Lib.hid (show expT T now = (⟨T.c, (expE T.c now T.l).1, now, T.rf⟩, (expE T.c now T.l).2, 0) by unfold expT; rw [ht, hall]; rfl)
    obtain ⟨n, hn⟩ : ∃ n, (expE T.c now T.l).2 = n := ⟨_, rfl⟩
    have P5' : Blk w5 (b + 1 + 1) 3 #[.int .i64 n] := by rw [← hn]; exact P5
    rw [hn] at HZ
    have hO1 : Only F w (W.setCell ⟨t, 11, none⟩ (.int .i64 now)) := (Only.of_kp kW).setCell (p := ⟨t, 11, none⟩) (.inl (by rw [hFe]; exact List.mem_cons_self)) _
    have hO5 : Only F w w5 := hO1.joinF O5 (fun x hx => by
      have hb := HB.out
      rcases List.mem_cons.1 hx with rfl | hx
      · exact .inr (by omega)
      · exact .inl (by rw [hFe]; exact hx))
    have hs1 : (W.setCell ⟨t, 11, none⟩ (.int .i64 now)).heap.size = W.heap.size := by simp
    have P54 := D4.only O5 (by
      simp only [List.mem_cons, not_or]
      have := hnF (b + 1 + 1 + 1) (by omega)
      simp only [List.mem_cons, not_or] at this
      exact ⟨by omega, this⟩)
    have hWl := C4.lt
    have HX5 := Lib.hid X5
    have HN5 := Lib.hid N5
    have HnF := Lib.hid hnF
    have HO5 := Lib.hid hO5
    have HFe := Lib.hid hFe
    have x0 : w5.cell? ⟨b + 1 + 1, 0, none⟩ = some (.int .i64 n) := P5'.cell 0
    have z0 := P5'.frozen 0
    have x1 : w5.cell? ⟨b + 1 + 1 + 1, 0, none⟩ = some (.int .i64 0) := P54.cell 0
    have z1 := P54.frozen 0
    obtain ⟨Q, hQ, Q3, Q4, hOQ⟩ : ∃ Q, (w5.setCell ⟨b + 1 + 1, 0, none⟩ (.int .i64 n)).setCell ⟨b + 1 + 1 + 1, 0, none⟩ (.int .i64 0) = Q ∧ Blk Q (b + 1 + 1) 3 #[.int .i64 n] ∧ Blk Q (b + 1 + 1 + 1) 53 #[.int .i64 0] ∧ Only [b + 1 + 1, b + 1 + 1 + 1] w5 Q := ⟨_, rfl, (P5'.set_ 0 (.int .i64 n)).far (p := ⟨b + 1 + 1 + 1, 0, none⟩) (by show b + 1 + 1 ≠ b + 1 + 1 + 1; omega) _, (P54.far (p := ⟨b + 1 + 1, 0, none⟩) (by show b + 1 + 1 + 1 ≠ b + 1 + 1; omega) _).set_ 0 (.int .i64 0), ((Only.refl _ w5).setCell (p := ⟨b + 1 + 1, 0, none⟩) (.inl (by simp)) _).setCell (p := ⟨b + 1 + 1 + 1, 0, none⟩) (.inl (by simp)) _⟩
    clear X5 N5 hnF hO5 hFe hn HCL X1 hall hs1 P5
    go_wp2_with fail
    clear x0 x1
    have q0 : Q.cell? ⟨b + 1 + 1, 0, none⟩ = some (.int .i64 n) := Q3.cell 0
    have q9 : Q.cell? ⟨b + 1 + 1 + 1, 0, none⟩ = some (.int .i64 0) := Q4.cell 0
    refine leaves_cons (f := 69) (args := #[.pointer (some ⟨b + 1 + 1, 0, none⟩), .pointer (some ⟨b + 1 + 1 + 1, 0, none⟩)]) (by simp) (by simp [go_sem]) ?_
    refine (idle_bexp _ _ _).mono ?_
    rintro e u' wz ⟨rfl, rfl, rfl⟩
    show Leaves _ _ _ _ [] .returning _
    have hnew : ∀ z ∈ t :: mp :: QF5, z ∈ F ∨ w.heap.size ≤ z := fun z hz => by
      have hb := HB.out
      rw [HFe.out]
      simp only [List.mem_cons] at hz ⊢
      rcases hz with hz | hz | hz
      · exact .inl (.inl hz)
      · exact .inl (.inr (.inl hz))
      · rcases HN5.out z hz with k | k
        · exact .inl (.inr (.inr k))
        · have := kW.size
          simp at k
          exact .inr (by omega)
    have hno : ∀ z, b ≤ z → z < W.heap.size → z ∉ t :: mp :: QF5 := fun z hz hz2 hm => by
      have h1 := HnF.out z hz
      simp only [List.mem_cons, not_or] at h1 hm
      rcases hm with hm | hm | hm
      · exact h1.1 hm
      · exact h1.2.1 hm
      · rcases HN5.out z hm with k | k
        · exact h1.2.2 k
        · simp at k
          omega
    exact ⟨.tuple #[.int .i64 n, .int .i64 0], by simp [results, Tryz.results27, go_sem, q0, q9], CntP.mk HZ.out (TabT.stop HO5.out (F' := t :: mp :: QF5) ⟨q, mp, m, A, QF5, l5, rfl, HX5.out⟩ hnew hOQ (by
      intro x hx
      have hb := HB.out
      simp only [List.mem_cons, List.not_mem_nil, or_false] at hx
      rcases hx with rfl | rfl
      · exact ⟨by omega, hno _ (by omega) (by omega), _, _, P5', by decide⟩
      · exact ⟨by omega, hno _ (by omega) (by omega), _, _, P54, by decide⟩))⟩
end Go.Proofs.YtffckpkikdlbpaaGreatDoor
