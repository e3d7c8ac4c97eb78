/- Lemmas and contracts for the theorem of this claim: RxD, RxF, SoI, SoJ, SoK, SoM, SoN, Ord. -/
import Derived.Test.YtffckpkikdlbpaaGreatDoorZrBj
import Derived.RegionTactic
set_option linter.unusedSimpArgs false
set_option linter.unusedVariables false
namespace Go.Proofs.YtffckpkikdlbpaaGreatDoor
open Go.RowKit Go.Maps
/-- What a call tells that counts: the table behind it, how many, the error. -/
def CntP (B t : Nat) (F : List Nat) (z : Tb × Int × Int) (w : World) (e : Ending) (w' : World) : Prop := e = .returned (.tuple #[.int .i64 z.2.1, .int .i64 z.2.2]) ∧ TabT w w' B t F z.1
theorem CntP.mk {B t : Nat} {F : List Nat} {T' : Tb} {z : Tb × Int × Int} {k n : Int} {w w' : World} (h : z = (T', k, n)) (hT : TabT w w' B t F T') : CntP B t F z w (.returned (.tuple #[.int .i64 k, .int .i64 n])) w' := by subst h; exact ⟨rfl, hT⟩
theorem CapAt.set {w : World} (h : CapAt w) {t i : Nat} {v : Value} (ht : 1 ≠ t) : CapAt (w.setCell ⟨t, i, none⟩ v) :=
  ⟨((Only.refl [t] w).setCell (p := ⟨t, i, none⟩) (.inl (by simp)) v).cell h.1 (by simpa using ht), ((Only.refl [t] w).setCell (p := ⟨t, i, none⟩) (.inl (by simp)) v).cell h.2 (by simpa using ht)⟩
set_option maxRecDepth 100000 in
set_option maxHeartbeats 4000000 in
theorem bexp_any (B t : Nat) (F : List Nat) (T : Tb) (now : Int) (w : World) (hM : TabM w B t F T) (hok : TbOk T) (hwf : ∀ r ∈ T.l, r.x < 4294967296) (hown : ∀ k (hk : k < T.c.own.length), T.c.own[k].a < 4294967296) (hC : CapAt w) (hG : 1 < B) :
    Calls Tryz.prog 27 #[.pointer (some ⟨t, 0, none⟩), .int .i64 now] w (CntP B t F (expT T now) w) := by
  obtain ⟨b, hb⟩ : ∃ b, w.heap.size = b := ⟨_, rfl⟩
  obtain ⟨W0, hW0, k0, B0, B1⟩ : ∃ W, (w.alloc (.cells #[.pointer (some ⟨t, 0, none⟩)] 36)).alloc (.cells #[.int .i64 now] 2) = W ∧ Kp w W ∧ Blk W b 36 #[.pointer (some ⟨t, 0, none⟩)] ∧ Blk W (b + 1) 2 #[.int .i64 now] := ⟨_, rfl, (((Kp.refl _).alloc _).alloc _), by rw [← hb]; exact ((Blk.new w _ _).alloc _), by rw [← hb]; exact Blk.new1 w _ _ _⟩
  have hs0 : W0.heap.size = b + 1 + 1 := by rw [← hW0, ← hb]; simp
  obtain ⟨W, hW, kW, C0, C1, C3, C4⟩ : ∃ W, (W0.alloc (.cells #[.int .i64 0] 3)).alloc (.cells #[.int .i64 0] 53) = W ∧ Kp w W ∧ Blk W b 36 #[.pointer (some ⟨t, 0, none⟩)] ∧ Blk W (b + 1) 2 #[.int .i64 now] ∧ Blk W (b + 1 + 1) 3 #[.int .i64 0] ∧ Blk W (b + 1 + 1 + 1) 53 #[.int .i64 0] := ⟨_, rfl, (k0.alloc _).alloc _, (B0.alloc _).alloc _, (B1.alloc _).alloc _, by rw [← hs0]; exact (Blk.new _ _ _).alloc _, by rw [← hs0]; exact Blk.new1 _ _ _ _⟩
  have c0 : W.cell? ⟨b, 0, none⟩ = some (.pointer (some ⟨t, 0, none⟩)) := C0.cell 0
  have c1 : W.cell? ⟨b + 1, 0, none⟩ = some (.int .i64 now) := C1.cell 0
  have hMW := hM.keep kW
  obtain ⟨mp0, hm, _⟩ := hMW.cellm
  have hFb : ∀ x ∈ F, x < b := fun x hx => by rw [← hb]; exact (hM.lo x hx).2
  have hmf : ∀ (fn : Fn) (first cap : Array Value) (w : World), (Instr.makeFunc fn first cap).run Tryz.prog w = .ok (.func fn first cap) w := fun _ _ _ _ => rfl
  have HM := Lib.hid hM
  have HMW := Lib.hid hMW
  have HFb := Lib.hid hFb
  have HOK := Lib.hid hok
  have HWF := Lib.hid hwf
  have HOW := Lib.hid hown
  have HCA := Lib.hid hC
  have HB := Lib.hid hb
  clear hM hMW hFb hok hwf hown hC B0 B1 k0
  go_enter_defers Tryz.func27, Tryz.ntmps27
  go_wp2_with (first | (go_at_call 56; refine (none_tab t mp0 _ hm).mono ?_; rintro e w' ⟨rfl, hw'⟩; rw [hw']; clear hw' w'))
  cases ht : timely T now with
  | false =>
    refine (come_no B t F T now _ W HMW.out HOK.out.t.1 ht).mono ?_
    rintro e w5 ⟨rfl, hw5⟩
    rw [hw5]
    clear hw5 w5
    have HZ := Lib.hid (show expT T now = (T, 0, 170) by unfold expT; rw [ht]; rfl)
    go_wp2_with fail
    refine leaves_cons (f := 69) (args := #[.pointer (some ⟨b + 1 + 1, 0, none⟩), .pointer (some ⟨b + 1 + 1 + 1, 0, none⟩)]) (by simp) (by simp [go_sem]) ?_
    refine (catch_bexp (b + 1 + 1) (b + 1 + 1 + 1) _ _ 170 _ C3 C4 (by omega)).mono ?_
    rintro e u' wz ⟨rfl, rfl, Z3, Z4, hOz⟩
    have q0 : wz.cell? ⟨b + 1 + 1, 0, none⟩ = some (.int .i64 0) := Z3.cell 0
    have q9 : wz.cell? ⟨b + 1 + 1 + 1, 0, none⟩ = some (.int .i64 170) := Z4.cell 0
    show Leaves _ _ _ _ [] .returning _
    exact ⟨.tuple #[.int .i64 0, .int .i64 170], by simp [results, Tryz.results27, go_sem, q0, q9], CntP.mk HZ.out (TabT.stop (Only.of_kp kW) HMW.out (fun _ z => .inl z) hOz (by
      intro x hx
      have hb := HB.out
      simp only [List.mem_cons, List.not_mem_nil, or_false] at hx
      rcases hx with rfl | rfl
      · exact ⟨by omega, fun z => by have := HFb.out _ z; omega, _, _, C3, by decide⟩
      · exact ⟨by omega, fun z => by have := HFb.out _ z; omega, _, _, C4, by decide⟩))⟩
  | true =>
    have hT1 := HMW.out.now_ now
    have htl := timely_iff.1 ht
    obtain ⟨q, mp, m, A, QF, l, hFe, X1⟩ := hT1
    have tF : t < b := HFb.out t (by rw [hFe]; exact List.mem_cons_self)
    have hbt : B ≤ t := X1.bt
    have hok1 : TbOk ⟨T.c, T.l, now, T.rf⟩ := ⟨HOK.out.c, HOK.out.u, HOK.out.r, HOK.out.n, ⟨htl.1, htl.2.1⟩, HOK.out.f⟩
    have hnF : ∀ i, b ≤ i → i ∉ t :: mp :: QF := fun i hi z => by
      rw [← hFe] at z
      have := HFb.out i z
      omega
    have D0 := C0.far (p := ⟨t, 11, none⟩) (by show b ≠ t; omega) (.int .i64 now)
    have D1 := C1.far (p := ⟨t, 11, none⟩) (by show b + 1 ≠ t; omega) (.int .i64 now)
    have D3 := C3.far (p := ⟨t, 11, none⟩) (by show b + 1 + 1 ≠ t; omega) (.int .i64 now)
    have D4 := C4.far (p := ⟨t, 11, none⟩) (by show b + 1 + 1 + 1 ≠ t; omega) (.int .i64 now)
    have HCL := exp2_any B t q mp m A QF l ⟨T.c, T.l, now, T.rf⟩ b (b + 1) (b + 1 + 1) _ X1 hok1 HWF.out HOW.out ((HCA.out.keep kW).set (by omega)) hG D0 D1 D3 (hnF _ (Nat.le_refl _)) (hnF _ (by omega)) (hnF _ (by omega)) (by omega)
    refine (come_ok B t F T now 70 (fun args w => by kernel_rfl) _ _ _ W HMW.out ht (fun e w' z => .inl z.1) HCL).mono ?_
    rintro e w5 ⟨rfl, QF5, l5, X5, P5, O5, N5⟩
    have hall := expE_all HOK.out (now := now) (by rw [okNow, withB_iff]; exact ⟨htl.1, htl.2.1⟩)
    have HZ := Lib.hid (show expT T now = (⟨T.c, (expE T.c now T.l).1, now, T.rf⟩, (expE T.c now T.l).2, 0) by unfold expT; rw [ht, hall]; rfl)
    obtain ⟨n, hn⟩ : ∃ n, (expE T.c now T.l).2 = n := ⟨_, rfl⟩
    have P5' : Blk w5 (b + 1 + 1) 3 #[.int .i64 n] := by rw [← hn]; exact P5
    rw [hn] at HZ
    have hO1 : Only F w (W.setCell ⟨t, 11, none⟩ (.int .i64 now)) := (Only.of_kp kW).setCell (p := ⟨t, 11, none⟩) (.inl (by rw [hFe]; exact List.mem_cons_self)) _
    have hO5 : Only F w w5 := hO1.joinF O5 (fun x hx => by
      have hb := HB.out
      rcases List.mem_cons.1 hx with rfl | hx
      · exact .inr (by omega)
      · exact .inl (by rw [hFe]; exact hx))
    have hs1 : (W.setCell ⟨t, 11, none⟩ (.int .i64 now)).heap.size = W.heap.size := by simp
    have P54 := D4.only O5 (by
      simp only [List.mem_cons, not_or]
      have := hnF (b + 1 + 1 + 1) (by omega)
      simp only [List.mem_cons, not_or] at this
      exact ⟨by omega, this⟩)
    have hWl := C4.lt
    have HX5 := Lib.hid X5
    have HN5 := Lib.hid N5
    have HnF := Lib.hid hnF
    have HO5 := Lib.hid hO5
    have HFe := Lib.hid hFe
    have x0 : w5.cell? ⟨b + 1 + 1, 0, none⟩ = some (.int .i64 n) := P5'.cell 0
    have z0 := P5'.frozen 0
    have x1 : w5.cell? ⟨b + 1 + 1 + 1, 0, none⟩ = some (.int .i64 0) := P54.cell 0
    have z1 := P54.frozen 0
    obtain ⟨Q, hQ, Q3, Q4, hOQ⟩ : ∃ Q, (w5.setCell ⟨b + 1 + 1, 0, none⟩ (.int .i64 n)).setCell ⟨b + 1 + 1 + 1, 0, none⟩ (.int .i64 0) = Q ∧ Blk Q (b + 1 + 1) 3 #[.int .i64 n] ∧ Blk Q (b + 1 + 1 + 1) 53 #[.int .i64 0] ∧ Only [b + 1 + 1, b + 1 + 1 + 1] w5 Q := ⟨_, rfl, (P5'.set_ 0 (.int .i64 n)).far (p := ⟨b + 1 + 1 + 1, 0, none⟩) (by show b + 1 + 1 ≠ b + 1 + 1 + 1; omega) _, (P54.far (p := ⟨b + 1 + 1, 0, none⟩) (by show b + 1 + 1 + 1 ≠ b + 1 + 1; omega) _).set_ 0 (.int .i64 0), ((Only.refl _ w5).setCell (p := ⟨b + 1 + 1, 0, none⟩) (.inl (by simp)) _).setCell (p := ⟨b + 1 + 1 + 1, 0, none⟩) (.inl (by simp)) _⟩
    clear X5 N5 hnF hO5 hFe hn HCL X1 hall hs1 P5
    go_wp2_with fail
    clear x0 x1
    have q0 : Q.cell? ⟨b + 1 + 1, 0, none⟩ = some (.int .i64 n) := Q3.cell 0
    have q9 : Q.cell? ⟨b + 1 + 1 + 1, 0, none⟩ = some (.int .i64 0) := Q4.cell 0
    refine leaves_cons (f := 69) (args := #[.pointer (some ⟨b + 1 + 1, 0, none⟩), .pointer (some ⟨b + 1 + 1 + 1, 0, none⟩)]) (by simp) (by simp [go_sem]) ?_
    refine (idle_bexp _ _ _).mono ?_
    rintro e u' wz ⟨rfl, rfl, rfl⟩
    show Leaves _ _ _ _ [] .returning _
    have hnew : ∀ z ∈ t :: mp :: QF5, z ∈ F ∨ w.heap.size ≤ z := fun z hz => by
      have hb := HB.out
      rw [HFe.out]
      simp only [List.mem_cons] at hz ⊢
      rcases hz with hz | hz | hz
      · exact .inl (.inl hz)
      · exact .inl (.inr (.inl hz))
      · rcases HN5.out z hz with k | k
        · exact .inl (.inr (.inr k))
        · have := kW.size
          simp at k
          exact .inr (by omega)
    have hno : ∀ z, b ≤ z → z < W.heap.size → z ∉ t :: mp :: QF5 := fun z hz hz2 hm => by
      have h1 := HnF.out z hz
      simp only [List.mem_cons, not_or] at h1 hm
      rcases hm with hm | hm | hm
      · exact h1.1 hm
      · exact h1.2.1 hm
      · rcases HN5.out z hm with k | k
        · exact h1.2.2 k
        · simp at k
          omega
    exact ⟨.tuple #[.int .i64 n, .int .i64 0], by simp [results, Tryz.results27, go_sem, q0, q9], CntP.mk HZ.out (TabT.stop HO5.out (F' := t :: mp :: QF5) ⟨q, mp, m, A, QF5, l5, rfl, HX5.out⟩ hnew hOQ (by
      intro x hx
      have hb := HB.out
      simp only [List.mem_cons, List.not_mem_nil, or_false] at hx
      rcases hx with rfl | rfl
      · exact ⟨by omega, hno _ (by omega) (by omega), _, _, P5', by decide⟩
      · exact ⟨by omega, hno _ (by omega) (by omega), _, _, P54, by decide⟩))⟩
end Go.Proofs.YtffckpkikdlbpaaGreatDoor

namespace Go.Proofs.YtffckpkikdlbpaaGreatDoor
open Go.RowKit Go.Maps
def FacAt (w : World) : Prop := w.cell? ⟨0, 0, none⟩ = some (.int .i64 0) ∧ w.cell? ⟨0, 1, none⟩ = some (.int .i64 15)
theorem FacAt.keep {w w' : World} (h : FacAt w) (k : Kp w w') : FacAt w' := ⟨k.cell h.1, k.cell h.2⟩
end Go.Proofs.YtffckpkikdlbpaaGreatDoor

namespace Go.Proofs.YtffckpkikdlbpaaGreatDoor
open Go.RowKit Go.Maps
set_option maxRecDepth 100000 in
theorem seen_nil_ (w : World) : Calls Tryz.prog 29 #[.pointer none] w fun e w' => e = .returned (.int .i64 0) ∧ w' = w := by
  have HS := Lib.hid (fun v w => sorted_nil_ v w)
  go_enter Tryz.func29, Tryz.ntmps29
  go_wp2_with (first | (go_at_call 40; refine (HS.out _ _).mono ?_; rintro e w' ⟨rfl, hw'⟩; rw [hw']; clear hw' w'))
  refine wp_loop_rounds 1 ?_
  rw [rounds_succ]
  go_wp2_with fail
  go_ret
  exact ⟨rfl, rfl⟩
end Go.Proofs.YtffckpkikdlbpaaGreatDoor

namespace Go.Proofs.YtffckpkikdlbpaaGreatDoor
open Go.RowKit Go.Maps Go.Shelf
def MpS (w0 w : World) (m n : Nat) (f : Tk → Option Nat) : Prop := w0.heap.size ≤ m ∧ m < w.heap.size ∧ MpT w m n f
theorem MpS.mk {w0 w : World} {m n : Nat} {f : Tk → Option Nat} (h0 : w0.heap.size ≤ m) (h1 : m < w.heap.size) (h2 : MpT w m n f) : MpS w0 w m n f := ⟨h0, h1, h2⟩
/-- A copied queue. -/
def QCopyP (l : List Tw) (w : World) (e : Ending) (w' : World) : Prop := ∃ a bs, e = .returned (.pointer (some ⟨a, 0, none⟩)) ∧ QuS w' w.heap.size a bs l ∧ Kp w w'
theorem QCopyP.mk {l : List Tw} {w w4 : World} {v : Value} {m : Nat} {f : Tk → Option Nat} (O : Own w4 w.heap.size 160 4 Tw.enc v l) (M : MpT w4 m l.length f) (P : PlOf f l) (hm : w.heap.size ≤ m ∧ m < w4.heap.size) (k : Kp w w4) (wf : ∀ t ∈ l, t.tk.wf ∧ wfI t.d) (hp : Heap ltT (fT l) l.length) (k3 : ∀ y ∈ l, y.k = 3) :
    QCopyP l w (.returned (.pointer (some ⟨w4.heap.size + 1, 0, none⟩))) ((w4.alloc (.cells #[v, .map (some m)] 150)).alloc (.cells #[.pointer (some ⟨w4.heap.size, 0, none⟩)] 152)) := by
  have al : Kp w4 ((w4.alloc (.cells #[v, .map (some m)] 150)).alloc (.cells #[.pointer (some ⟨w4.heap.size, 0, none⟩)] 152)) := ((Kp.refl _).alloc _).alloc _
  have hs := k.size
  refine ⟨w4.heap.size + 1, (w4.heap.size + 1) :: w4.heap.size :: m :: v.ownBlock.toList, rfl, ⟨⟨w4.heap.size, m, v, Blk.new1 _ _ _ _, ⟨(Blk.new _ _ _).alloc _, O.keep al, ⟨f, ?_, P⟩, wf⟩, by simp, by simp, by simp, fun g hg => by simp [hg]⟩, fun b hb => ?_, hp, k3⟩, k.trans al⟩
  · obtain ⟨D, ⟨es', clock, g1, g2⟩, h2, h3⟩ := M
    exact ⟨D, ⟨es', clock, (al.heap hm.2).trans g1, g2⟩, h2, h3⟩
  · simp only [World.size_alloc]
    simp only [List.mem_cons, Option.mem_toList] at hb
    rcases hb with rfl | rfl | rfl | hb
    · omega
    · omega
    · omega
    · have := World.ownsRow.lt O b hb
      omega
end Go.Proofs.YtffckpkikdlbpaaGreatDoor

namespace Go.Proofs.YtffckpkikdlbpaaGreatDoor
open Go.RowKit Go.Maps
def zeroC : Cf := ⟨0, 0, 0, 0, 0, 0, 0, 0, []⟩
set_option maxRecDepth 100000 in
theorem config_nil_ (w : World) : Calls Tryz.prog 36 #[.pointer none] w fun e w' => e = .returned (cfV zeroC none 0 0) ∧ Kp w w' := by
  obtain ⟨b, hb⟩ : ∃ b, w.heap.size = b := ⟨_, rfl⟩
  obtain ⟨W, hW, kW, B0⟩ : ∃ W, w.alloc (.cells #[.int .i64 0, .int .i64 0, .int .i64 0, .int .i64 0, .int .i64 0, .int .i64 0, .int .i64 0, .int .i64 0, .slice none 0 0] 24) = W ∧ Kp w W ∧ Blk W b 24 #[.int .i64 0, .int .i64 0, .int .i64 0, .int .i64 0, .int .i64 0, .int .i64 0, .int .i64 0, .int .i64 0, .slice none 0 0] := ⟨_, rfl, (Kp.refl _).alloc _, by rw [← hb]; exact Blk.new w _ _⟩
  have q0 : W.cell? ⟨b, 0, none⟩ = some (.int .i64 0) := B0.cell 0
  have z0 := B0.frozen 0
  have q1 : W.cell? ⟨b, 1, none⟩ = some (.int .i64 0) := B0.cell 1
  have z1 := B0.frozen 1
  have q2 : W.cell? ⟨b, 2, none⟩ = some (.int .i64 0) := B0.cell 2
  have z2 := B0.frozen 2
  have q3 : W.cell? ⟨b, 3, none⟩ = some (.int .i64 0) := B0.cell 3
  have z3 := B0.frozen 3
  have q4 : W.cell? ⟨b, 4, none⟩ = some (.int .i64 0) := B0.cell 4
  have z4 := B0.frozen 4
  have q5 : W.cell? ⟨b, 5, none⟩ = some (.int .i64 0) := B0.cell 5
  have z5 := B0.frozen 5
  have q6 : W.cell? ⟨b, 6, none⟩ = some (.int .i64 0) := B0.cell 6
  have z6 := B0.frozen 6
  have q7 : W.cell? ⟨b, 7, none⟩ = some (.int .i64 0) := B0.cell 7
  have z7 := B0.frozen 7
  have q8 : W.cell? ⟨b, 8, none⟩ = some (.slice none 0 0) := B0.cell 8
  have z8 := B0.frozen 8
  obtain ⟨R, hR, BR, kR⟩ : ∃ R, cfSet W b zeroC none 0 0 = R ∧ Blk R b 24 (cfC zeroC none 0 0) ∧ Kp w R := ⟨_, rfl, B0.putCf zeroC none 0 0, kW.putCf (by omega) zeroC none 0 0⟩
  unfold cfSet zeroC at hR
  obtain ⟨u0, u1, u2, u3, u4, u5, u6, u7, u8⟩ := cf_cells BR
  simp only [zeroC] at u0 u1 u2 u3 u4 u5 u6 u7 u8
  go_enter Tryz.func36, Tryz.ntmps36
  go_wp2_with (first | (go_at_call 56; refine (none_nil _).mono ?_; rintro e w' ⟨rfl, hw'⟩; rw [hw']; clear hw' w'))
  exact ⟨rfl, cfV zeroC none 0 0, by simp [results, Tryz.results36, go_sem, u0, u1, u2, u3, u4, u5, u6, u7, u8, zeroC], rfl, kR⟩
/-- A copied table. -/
def TCopyP (T : Tb) (w : World) (e : Ending) (w' : World) : Prop := ∃ t F, e = .returned (.pointer (some ⟨t, 0, none⟩)) ∧ TabM w' w.heap.size t F T ∧ Kp w w'
theorem TCopyP.mk {T : Tb} {w w4 : World} {q mp m : Nat} {A : Option Addr} {QF : List Nat} {l : List Tw} (S : QuS w4 w.heap.size q QF l) (O : Own w4 w.heap.size 29 2 PI.enc (.slice A T.c.own.length m) T.c.own) (M : MapR w4 mp T.l) (hm : w.heap.size ≤ mp) (pm : l.Perm (armL T.l))
    (hmq : mp ∉ QF) (han : ∀ a, A = some a → a.block ∉ QF ∧ a.block ≠ mp) (K : Kp w w4) (u : UpR T.l) (wf : ∀ r ∈ T.l, wfP r.p) (n : T.l.length ≤ 900000) : TCopyP T w (.returned (.pointer (some ⟨w4.heap.size, 0, none⟩))) (w4.alloc (.cells (tbC q T A m mp) 107)) := by
  have al : Kp w4 (w4.alloc (.cells (tbC q T A m mp) 107)) := (Kp.refl _).alloc _
  exact ⟨w4.heap.size, _, rfl, ⟨q, mp, m, A, QF, l, rfl, Blk.new _ _ _, S.keep al, pm, M.keep al, O.keep al, fun e => by have := (S.lo _ e).2; omega, hmq, fun e => by have := M.lt; omega, fun a e => ⟨(han a e).1, fun z => by have := (own_lt O a e).2; omega, (han a e).2⟩, K.size, hm, u, wf, n⟩, K.trans al⟩
end Go.Proofs.YtffckpkikdlbpaaGreatDoor

namespace Go.Proofs.YtffckpkikdlbpaaGreatDoor
open Go.RowKit
set_option maxRecDepth 100000 in
theorem pfx_neqv (w : World) (a l b k : Int) : (binOp .neq 29 (.agg #[.int .u32 a, .int .i64 l]) (.agg #[.int .u32 b, .int .i64 k])).run Tryz.prog w = .ok (.bool (!(a == b && l == k))) w := by
  rw [run_neq_struct, run_equalIn_agg w 9999 _ _ _ Tryz.underlying29 (by kernel_rfl)]
  simp [Op.eqFields, part, go_sem, Tryz.underlying3, Tryz.underlying27]
  by_cases h1 : a = b <;> by_cases h2 : l = k <;> simp [h1, h2]
theorem pi_beq (p q : PI) : ((p.a : Int) == (q.a : Int) && p.l == q.l) = decide (p = q) := by
  rw [Bool.eq_iff_iff]
  simp only [Bool.and_eq_true, beq_iff_eq, decide_eq_true_eq]
  exact ⟨fun h => PI.ext' (by omega) h.2, fun h => by subst h; exact ⟨rfl, rfl⟩⟩
end Go.Proofs.YtffckpkikdlbpaaGreatDoor

namespace Go.Proofs.YtffckpkikdlbpaaGreatDoor
open Go.RowKit
instance : DecidableEq Rt := fun a b => decidable_of_iff (a.p = b.p ∧ a.s = b.s ∧ a.m = b.m ∧ a.l = b.l ∧ a.f = b.f ∧ a.x = b.x ∧ a.d = b.d ∧ a.c = b.c) (by cases a; cases b; simp only [Rt.mk.injEq])
theorem rt_dec (r q : Rt) : decide (r = q) = (((r.p.a : Int) == q.p.a && r.p.l == q.p.l) && (r.s == q.s && (r.m == q.m && (r.l == q.l && (r.f == q.f && ((r.x : Int) == q.x && (r.d == q.d && r.c == q.c))))))) := by
  rw [pi_beq, Bool.eq_iff_iff]
  simp only [Bool.and_eq_true, beq_iff_eq, decide_eq_true_eq]
  constructor
  · rintro rfl
    exact ⟨rfl, rfl, rfl, rfl, rfl, rfl, rfl, rfl⟩
  · rintro ⟨h0, h1, h2, h3, h4, h5, h6, h7⟩
    cases r
    cases q
    simp only at h0 h1 h2 h3 h4 h5 h6 h7
    subst h0 h1 h2 h3 h4 h6 h7
    congr
    omega
set_option maxRecDepth 100000 in
theorem rt_neq (r q : Rt) (w : World) : (binOp .neq 48 (.agg #[.int .u32 r.p.a, .int .i64 r.p.l, .int .i64 r.s, .int .i64 r.m, .int .i64 r.l, .int .i64 r.f, .int .u32 r.x, .int .i64 r.d, .bool r.c]) (.agg #[.int .u32 q.p.a, .int .i64 q.p.l, .int .i64 q.s, .int .i64 q.m, .int .i64 q.l, .int .i64 q.f, .int .u32 q.x, .int .i64 q.d, .bool q.c])).run Tryz.prog w = .ok (.bool (!decide (r = q))) w := by
  rw [run_neq_struct, run_equalIn_agg w 9999 _ _ _ Tryz.underlying48 (by kernel_rfl), rt_dec]
  simp [Op.eqFields, part, go_sem, Tryz.underlying3, Tryz.underlying2, Tryz.underlying27, Tryz.underlying4, Tryz.underlying46]
  repeat (split; rotate_left; · simp [*])
  simp [*]
end Go.Proofs.YtffckpkikdlbpaaGreatDoor

namespace Go.Proofs.YtffckpkikdlbpaaGreatDoor
open Go.RowKit
/-- Every operation waits for earlier ones alone. -/
def backB (md : Region.Mode) (ops : Array Oper) : Bool :=
  (List.range ops.size).all fun i => match ops[i]? with | some o => o.after.all fun e => !Region.binds md e || decide (e.on < i) | none => true
theorem backB_at {md : Region.Mode} {ops : Array Oper} (h : backB md ops = true) {i : Nat} {o : Oper} (ho : ops[i]? = some o) : ∀ e ∈ o.after, Region.binds md e = true → e.on < i := by
  intro e he hb
  have hi := (Array.getElem?_eq_some_iff.1 ho).1
  have h1 := List.all_eq_true.1 h i (List.mem_range.2 hi)
  rw [ho] at h1
  simp only at h1
  have h2 := Array.all_eq_true_iff_forall_mem.1 h1 e he
  simpa [hb] using h2
section
variable {P : Program} {md : Region.Mode} {ops : Array Oper} {Q : Exit → Act → World → Prop}
theorem all_of_ready {listed : Array Bool} (hb : backB md ops = true) (hs : listed.size = ops.size) (hr : Region.ready md ops listed = []) : ∀ i, i < ops.size → listed.getD i false = true := by
  intro i
  induction i using Nat.strongRecOn with
  | _ i ih =>
    intro hi
    cases hl : listed.getD i false with
    | true => rfl
    | false =>
      have h1 : i ∈ Region.ready md ops listed := by
        refine mem_ready.2 ⟨?_, ops[i], Array.getElem?_eq_getElem hi, fun e he hbi => ?_⟩
        · have : i < listed.size := by omega
          simp only [Array.getD_eq_getD_getElem?, Array.getElem?_eq_getElem this, Option.getD_some] at hl ⊢
          exact hl
        · have h2 := backB_at hb (Array.getElem?_eq_getElem hi) e he hbi
          exact ih e.on h2 (by omega)
      rw [hr] at h1
      cases h1
/-- An invariant over the operations that have been done. -/
theorem wpAny_inv (G : (Nat → Bool) → Act → World → Prop) (hb : backB md ops = true)
    (step : ∀ (i : Nat) (o : Oper) (L : Nat → Bool) (a : Act) (w : World), ops[i]? = some o → L i = false → (∀ e ∈ o.after, Region.binds md e = true → L e.on = true) → G L a w →
      ∀ K : Act → World → Prop, (∀ a' w', G (fun j => j == i || L j) a' w' → K a' w') → if Region.wanted o (yielded ops a.tmps) = true then Oper.wp P o a w K Q else K (a.put o.dst undef) w)
    (fin : ∀ L a w, (∀ i, i < ops.size → L i = true) → G L a w → Q .normal a w) :
    ∀ (fuel : Nat) (listed : Array Bool) (a : Act) (w : World), listed.size = ops.size → listed.toList.countP (fun b => !b) ≤ fuel → G (fun j => listed.getD j false) a w → wpAny P md ops Q fuel listed a w := by
  intro fuel
  induction fuel with
  | zero =>
    intro listed a w hs hc hG
    have hall : ∀ i, i < ops.size → listed.getD i false = true := by
      intro i hi
      have h0 := List.countP_eq_zero.1 (Nat.le_zero.1 hc)
      have hi' : i < listed.size := by omega
      have := h0 listed[i] (by rw [Array.mem_toList_iff]; exact Array.getElem_mem hi')
      simp only [Array.getD_eq_getD_getElem?, Array.getElem?_eq_getElem hi', Option.getD_some]
      simpa using this
    refine ⟨?_, fin _ _ _ hall hG⟩
    refine List.eq_nil_iff_forall_not_mem.2 fun j hj => ?_
    obtain ⟨h1, o, ho, _⟩ := mem_ready.1 hj
    have hlt := (Array.getElem?_eq_some_iff.1 ho).1
    have h2 := hall j hlt
    have hj' : j < listed.size := by omega
    simp only [Array.getD_eq_getD_getElem?, Array.getElem?_eq_getElem hj', Option.getD_some] at h1 h2
    rw [h1] at h2
    cases h2
  | succ fuel ih =>
    intro listed a w hs hc hG
    refine ⟨fun hr => fin _ _ _ (all_of_ready hb hs hr) hG, fun i hi => ?_⟩
    obtain ⟨h1, o, ho, hdep⟩ := mem_ready.1 hi
    have hlt := (Array.getElem?_eq_some_iff.1 ho).1
    have hi' : i < listed.size := by omega
    have hli : listed[i] = false := by
      simpa only [Array.getD_eq_getD_getElem?, Array.getElem?_eq_getElem hi', Option.getD_some] using h1
    have hLi : (fun j => listed.getD j false) i = false := by
      simp only [Array.getD_eq_getD_getElem?, Array.getElem?_eq_getElem hi', Option.getD_some]; exact hli
    refine wpOp_step ho (fun K hK => step i o _ a w ho hLi hdep hG K (fun a' w' hG' => hK a' w' (ih _ a' w' (by simpa using hs) ?_ ?_)))
    · have hset : (listed.setIfInBounds i true).toList = listed.toList.set i true := by simp
      have hl2 : i < listed.toList.length := by simpa using hi'
      rw [hset, List.countP_set hl2]
      have : listed.toList[i] = false := by simpa using hli
      rw [this]
      have hpos : 0 < listed.toList.countP (fun b => !b) := List.countP_pos_iff.2 ⟨false, by rw [← this]; exact List.getElem_mem hl2, rfl⟩
      have hc2 := hc
      simp only [Bool.not_false, if_true, Bool.not_true]
      rw [if_neg (by simp)]
      omega
    · have e : (fun j => (listed.setIfInBounds i true).getD j false) = (fun j => j == i || listed.getD j false) := by
        funext j
        by_cases hj : j = i
        · subst hj
          simp [Array.getD_eq_getD_getElem?, hi']
        · have : (j == i) = false := by simpa using hj
          rw [this, Bool.false_or]
          simp only [Array.getD_eq_getD_getElem?]
          rw [Array.getElem?_setIfInBounds_ne (fun h => hj h.symm)]
      rw [e]
      exact hG'
end
/-- A region that draws its order, by what holds of the operations that have been done. -/
theorem wp_region_inv {P : Program} {id : Nat} {Q : Exit → Act → World → Prop} {a : Act} {w : World} {l : List Oper} (hm : P.follows .mixedOrders = true) (G : (Nat → Bool) → Act → World → Prop) (hb : backB .any l.toArray = true)
    (step : ∀ (i : Nat) (o : Oper) (L : Nat → Bool) (a : Act) (w : World), l[i]? = some o → L i = false → (∀ e ∈ o.after, Region.binds .any e = true → L e.on = true) → G L a w →
      ∀ K : Act → World → Prop, (∀ a' w', G (fun j => j == i || L j) a' w' → K a' w') → if Region.wanted o (yielded l.toArray a.tmps) = true then Oper.wp P o a w K Q else K (a.put o.dst undef) w)
    (fin : ∀ L a w, (∀ i, i < l.length → L i = true) → G L a w → Q .normal a w) (h0 : G (fun _ => false) a w.drew) : (Code.region id l.toArray true).wp P Q a w := by
  refine wp_region_any hm (wpAny_inv G hb (fun i o L a w ho => step i o L a w (by simpa using ho)) (fun L a w h => fin L a w (by simpa using h)) _ _ _ _ (by simp) ?_ ?_)
  · have : (Array.replicate l.toArray.size false).toList.countP (fun b => !b) ≤ (Array.replicate l.toArray.size false).toList.length := List.countP_le_length
    simpa using this
  · have e : (fun j => (Array.replicate l.toArray.size false).getD j false) = (fun _ => false) := by
      funext j
      simp only [Array.getD_eq_getD_getElem?]
      by_cases hj : j < l.toArray.size
      · rw [Array.getElem?_eq_getElem (by simpa using hj)]; simp
      · rw [Array.getElem?_eq_none (by simpa using hj)]; rfl
    rw [e]
    exact h0
end Go.Proofs.YtffckpkikdlbpaaGreatDoor
