/- Lemmas and contracts for the theorem of this claim: RxD, GdA, FHas, HopE. -/
import Derived.Test.YtgopnfacklmkaaaGreatDoorZzBd
import Derived.Test.YtgopnfacklmkaaaGreatDoorZzBf
set_option linter.all false
set_option maxHeartbeats 16000000
namespace Go.Proofs.YtgopnfacklmkaaaGreatDoor
section
open Go.RowKit Go.Maps
def CntP (B t : Nat) (F : List Nat) (z : Tb × Int × Int) (w : World) (e : Ending) (w' : World) : Prop := e = .returned (.tuple #[.int .i64 z.2.1, .int .i64 z.2.2]) ∧ TabT w w' B t F z.1
theorem CntP.mk {B t : Nat} {F : List Nat} {T' : Tb} {z : Tb × Int × Int} {k n : Int} {w w' : World} (h : z = (T', k, n)) (hT : TabT w w' B t F T') : CntP B t F z w (.returned (.tuple #[.int .i64 k, .int .i64 n])) w' := by subst h; exact ⟨rfl, hT⟩
theorem CapAt.set {w : World} (h : CapAt w) {t i : Nat} {v : Value} (ht : 1 ≠ t) : CapAt (w.setCell ⟨t, i, none⟩ v) :=
 ⟨((Only.refl [t] w).setCell (p := ⟨t, i, none⟩) (.inl (by simp)) v).cell h.1 (by simpa using ht), ((Only.refl [t] w).setCell (p := ⟨t, i, none⟩) (.inl (by simp)) v).cell h.2 (by simpa using ht)⟩
set_option maxRecDepth 100000 in
theorem vmC (B t : Nat) (F : List Nat) (T : Tb) (now : Int) (w : World) (hM : TabM w B t F T) (hok : TbOk T) (hwf : ∀ r ∈ T.l, r.x < 4294967296) (hown : ∀ k (hk : k < T.c.own.length), T.c.own[k].a < 4294967296) (hC : CapAt w) (hG : 1 < B) :
  Calls Tryz.prog 27 #[.pointer (some ⟨t, 0, none⟩), .int .i64 now] w (CntP B t F (expT T now) w) := by
 obtain ⟨b, hb⟩ : ∃ b, w.heap.size = b := ⟨_, rfl⟩
 obtain ⟨W0, hW0, k0, B0, B1⟩ := Blk.al2 hb #[.pointer (some ⟨t, 0, none⟩)] 43 #[.int .i64 now] 2
 have hs0 : W0.heap.size = b + 1 + 1 := by rw [← hW0, ← hb]; simp
 obtain ⟨W, hW, kW, C0, C1, C3, C4⟩ : ∃ W, (W0.alloc (.cells #[.int .i64 0] 3)).alloc (.cells #[.int .i64 0] 44) = W ∧ Kp w W ∧ Blk W b 43 #[.pointer (some ⟨t, 0, none⟩)] ∧ Blk W (b + 1) 2 #[.int .i64 now] ∧ Blk W (b + 1 + 1) 3 #[.int .i64 0] ∧ Blk W (b + 1 + 1 + 1) 44 #[.int .i64 0] := ⟨_, rfl, (k0.alloc _).alloc _, (B0.alloc _).alloc _, (B1.alloc _).alloc _, by rw [← hs0]; exact (Blk.new _ _ _).alloc _, by rw [← hs0]; exact Blk.new1 _ _ _ _⟩
 have c0 : W.cell? ⟨b, 0, none⟩ = some (.pointer (some ⟨t, 0, none⟩)) := C0.cell 0
 have c1 : W.cell? ⟨b + 1, 0, none⟩ = some (.int .i64 now) := C1.cell 0
 have hMW := hM.keep kW
 obtain ⟨mp0, hm, _⟩ := hMW.cellm
 have hFb : ∀ x ∈ F, x < b := fun x hx => by rw [← hb]; exact (hM.lo x hx).2
 have hmf : ∀ (fn : Fn) (first cap : Array Value) (w : World), (Instr.makeFunc fn first cap).run Tryz.prog w = .ok (.func fn first cap) w := fun _ _ _ _ => rfl
 have HM := Lib.hid hM
 have HMW := Lib.hid hMW
 have HFb := Lib.hid hFb
 have HOK := Lib.hid hok
 have HWF := Lib.hid hwf
 have HOW := Lib.hid hown
 have HCA := Lib.hid hC
 have HB := Lib.hid hb
 clear hM hMW hFb hok hwf hown hC B0 B1 k0
 go_enter_defers Tryz.func27, Tryz.ntmps27
 go_wp2_with (first | (go_at_call 55; refine (vdh t mp0 _ hm).mono ?_; rintro e w' ⟨rfl, hw'⟩; rw [hw']; clear hw' w'))
 cases ht : timely T now with
 | false =>
  refine (vjG B t F T now _ W HMW.out HOK.out.t.1 ht).mono ?_
  rintro e w5 ⟨rfl, hw5⟩
  rw [hw5]
  clear hw5 w5
  have HZ := Lib.hid (show expT T now = (T, 0, 170) by unfold expT; rw [ht]; rfl)
  go_wp2_with fail
  refine leaves_cons (f := 77) (args := #[.pointer (some ⟨b + 1 + 1, 0, none⟩), .pointer (some ⟨b + 1 + 1 + 1, 0, none⟩)]) (by simp) (by simp [go_sem]) ?_
  refine (via (b + 1 + 1) (b + 1 + 1 + 1) _ _ 170 _ C3 C4 (by omega)).mono ?_
  rintro e u' wz ⟨rfl, rfl, Z3, Z4, hOz⟩
  have q0 : wz.cell? ⟨b + 1 + 1, 0, none⟩ = some (.int .i64 0) := Z3.cell 0
  have q9 : wz.cell? ⟨b + 1 + 1 + 1, 0, none⟩ = some (.int .i64 170) := Z4.cell 0
  show Leaves _ _ _ _ [] .returning _
  exact ⟨.tuple #[.int .i64 0, .int .i64 170], by simp [results, Tryz.results27, go_sem, q0, q9], CntP.mk HZ.out (TabT.stop (Only.of_kp kW) HMW.out (fun _ z => .inl z) hOz (by
   intro x hx
   have hb := HB.out
   simp only [List.mem_cons, List.not_mem_nil, or_false] at hx
   rcases hx with rfl | rfl
   ·exact ⟨by omega, fun z => by have := HFb.out _ z; omega, _, _, C3, by decide⟩
   ·exact ⟨by omega, fun z => by have := HFb.out _ z; omega, _, _, C4, by decide⟩))⟩
 | true =>
  have hT1 := HMW.out.now_ now
  have htl := vaX.1 ht
  obtain ⟨q, mp, m, A, QF, l, hFe, X1⟩ := hT1
  have tF : t < b := HFb.out t (by rw [hFe]; exact List.mem_cons_self)
  have hbt : B ≤ t := X1.bt
  have hok1 : TbOk ⟨T.c, T.l, now, T.rf⟩ := ⟨HOK.out.c, HOK.out.u, HOK.out.r, HOK.out.n, ⟨htl.1, htl.2.1⟩, HOK.out.f⟩
  have hnF : ∀ i, b ≤ i → i ∉ t :: mp :: QF := fun i hi z => by
   rw [← hFe] at z
   have := HFb.out i z
   omega
  have D0 := C0.far (p := ⟨t, 11, none⟩) (by show b ≠ t; omega) (.int .i64 now)
  have D1 := C1.far (p := ⟨t, 11, none⟩) (by show b + 1 ≠ t; omega) (.int .i64 now)
  have D3 := C3.far (p := ⟨t, 11, none⟩) (by show b + 1 + 1 ≠ t; omega) (.int .i64 now)
  have D4 := C4.far (p := ⟨t, 11, none⟩) (by show b + 1 + 1 + 1 ≠ t; omega) (.int .i64 now)
  have HCL := vmB B t q mp m A QF l ⟨T.c, T.l, now, T.rf⟩ b (b + 1) (b + 1 + 1) _ X1 hok1 HWF.out HOW.out ((HCA.out.keep kW).set (by omega)) hG D0 D1 D3 (hnF _ (Nat.le_refl _)) (hnF _ (by omega)) (hnF _ (by omega)) (by omega)
  refine (vjF B t F T now 78 (fun args w => by kernel_rfl) _ _ _ W HMW.out ht (fun e w' z => .inl z.1) HCL).mono ?_
  rintro e w5 ⟨rfl, QF5, l5, X5, P5, O5, N5⟩
  have hall := vmc HOK.out (now := now) (by rw [okNow, vaa]; exact ⟨htl.1, htl.2.1⟩)
  have HZ := Lib.hid (show expT T now = (⟨T.c, (expE T.c now T.l).1, now, T.rf⟩, (expE T.c now T.l).2, 0) by unfold expT; rw [ht, hall]; rfl)
  obtain ⟨n, hn⟩ : ∃ n, (expE T.c now T.l).2 = n := ⟨_, rfl⟩
  have P5' : Blk w5 (b + 1 + 1) 3 #[.int .i64 n] := by rw [← hn]; exact P5
  rw [hn] at HZ
  have hO1 : Only F w (W.setCell ⟨t, 11, none⟩ (.int .i64 now)) := (Only.of_kp kW).setCell (p := ⟨t, 11, none⟩) (.inl (by rw [hFe]; exact List.mem_cons_self)) _
  have hO5 : Only F w w5 := hO1.joinF O5 (fun x hx => by
   have hb := HB.out
   rcases List.mem_cons.1 hx with rfl | hx
   ·exact .inr (by omega)
   ·exact .inl (by rw [hFe]; exact hx))
  have hs1 : (W.setCell ⟨t, 11, none⟩ (.int .i64 now)).heap.size = W.heap.size := by simp
  have P54 := D4.only O5 (by
   simp only [List.mem_cons, not_or]
   have := hnF (b + 1 + 1 + 1) (by omega)
   simp only [List.mem_cons, not_or] at this
   exact ⟨by omega, this⟩)
  have hWl := C4.lt
  have HX5 := Lib.hid X5
  have HN5 := Lib.hid N5
  have HnF := Lib.hid hnF
  have HO5 := Lib.hid hO5
  have HFe := Lib.hid hFe
  have x0 : w5.cell? ⟨b + 1 + 1, 0, none⟩ = some (.int .i64 n) := P5'.cell 0
  have z0 := Blk.frozen P5'
  have x1 : w5.cell? ⟨b + 1 + 1 + 1, 0, none⟩ = some (.int .i64 0) := P54.cell 0
  have z1 := Blk.frozen P54
  obtain ⟨Q, hQ, Q3, Q4, hOQ⟩ : ∃ Q, (w5.setCell ⟨b + 1 + 1, 0, none⟩ (.int .i64 n)).setCell ⟨b + 1 + 1 + 1, 0, none⟩ (.int .i64 0) = Q ∧ Blk Q (b + 1 + 1) 3 #[.int .i64 n] ∧ Blk Q (b + 1 + 1 + 1) 44 #[.int .i64 0] ∧ Only [b + 1 + 1, b + 1 + 1 + 1] w5 Q := ⟨_, rfl, (P5'.set_ 0 (.int .i64 n)).far (p := ⟨b + 1 + 1 + 1, 0, none⟩) (by show b + 1 + 1 ≠ b + 1 + 1 + 1; omega) _, (P54.far (p := ⟨b + 1 + 1, 0, none⟩) (by show b + 1 + 1 + 1 ≠ b + 1 + 1; omega) _).set_ 0 (.int .i64 0), ((Only.refl _ w5).setCell (p := ⟨b + 1 + 1, 0, none⟩) (.inl (by simp)) _).setCell (p := ⟨b + 1 + 1 + 1, 0, none⟩) (.inl (by simp)) _⟩
  clear X5 N5 hnF hO5 hFe hn HCL X1 hall hs1 P5
  go_wp2_with fail
  clear x0 x1
  have q0 : Q.cell? ⟨b + 1 + 1, 0, none⟩ = some (.int .i64 n) := Q3.cell 0
  have q9 : Q.cell? ⟨b + 1 + 1 + 1, 0, none⟩ = some (.int .i64 0) := Q4.cell 0
  refine leaves_cons (f := 77) (args := #[.pointer (some ⟨b + 1 + 1, 0, none⟩), .pointer (some ⟨b + 1 + 1 + 1, 0, none⟩)]) (by simp) (by simp [go_sem]) ?_
  refine (vjJ _ _ _).mono ?_
  rintro e u' wz ⟨rfl, rfl, rfl⟩
  show Leaves _ _ _ _ [] .returning _
  have hnew : ∀ z ∈ t :: mp :: QF5, z ∈ F ∨ w.heap.size ≤ z := fun z hz => by
   have hb := HB.out
   rw [HFe.out]
   simp only [List.mem_cons] at hz ⊢
   rcases hz with hz | hz | hz
   ·exact .inl (.inl hz)
   ·exact .inl (.inr (.inl hz))
   ·rcases HN5.out z hz with k | k
    ·exact .inl (.inr (.inr k))
    ·have := kW.size
     simp at k
     exact .inr (by omega)
  have hno : ∀ z, b ≤ z → z < W.heap.size → z ∉ t :: mp :: QF5 := fun z hz hz2 hm => by
   have h1 := HnF.out z hz
   simp only [List.mem_cons, not_or] at h1 hm
   rcases hm with hm | hm | hm
   ·exact h1.1 hm
   ·exact h1.2.1 hm
   ·rcases HN5.out z hm with k | k
    ·exact h1.2.2 k
    ·simp at k
     omega
  exact ⟨.tuple #[.int .i64 n, .int .i64 0], by simp [results, Tryz.results27, go_sem, q0, q9], CntP.mk HZ.out (TabT.stop HO5.out (F' := t :: mp :: QF5) ⟨q, mp, m, A, QF5, l5, rfl, HX5.out⟩ hnew hOQ (by
   intro x hx
   have hb := HB.out
   simp only [List.mem_cons, List.not_mem_nil, or_false] at hx
   rcases hx with rfl | rfl
   ·exact ⟨by omega, hno _ (by omega) (by omega), _, _, P5', by decide⟩
   ·exact ⟨by omega, hno _ (by omega) (by omega), _, _, P54, by decide⟩))⟩
end

section
open Go.RowKit
theorem vkF (x : Nat) : ((x : Int) / 2) = ((x / 2 : Nat) : Int) := by omega
theorem vmD (x : Nat) : ((x : Int) % 2) = ((x % 2 : Nat) : Int) := by omega
set_option maxRecDepth 100000 in
theorem vfh (a i : Nat) (w : World) (ha : a < 4294967296) (hi : i < 32) : Calls Tryz.prog 88 #[.int .u32 a, .int .i64 i] w fun e w' => e = .returned (.int .i64 (bitN a i)) ∧ w = w' := by
 obtain ⟨r, hr⟩ : ∃ r, bitN a i = r := ⟨_, rfl⟩
 rw [hr]
 have Hr := Lib.hid hr; clear hr
 have d1 : decide ((i : Int) < 0) = false := by simp
 have d2 : decide ((31 : Int) < i) = false := by simp; omega
 go_enter Tryz.func88, Tryz.ntmps88
 go_wp2_with fail
 go_loop [5, 6] (fun n k => ∃ m x : Nat, i ≤ m ∧ m ≤ 31 ∧ k = .int .i64 m ∧ n = .int .i64 x ∧ x < 4294967296 ∧ Hid (x = a / 2 ^ (31 - m))) (fun _ k => (intOf k).toNat)
 case atStart => exact ⟨31, a, by omega, by omega, rfl, rfl, ha, Lib.hid (by simp)⟩
 case round =>
  obtain ⟨m, x, him, hm, rfl, rfl, hx, hxe⟩ := hrel
  by_cases hlt : i < m
  ·have hd : decide ((i : Int) < m) = true := by simpa using hlt
   go_wp2_with fail
   go_round
   case rel =>
    refine ⟨m - 1, x / 2, by omega, by omega, ?_, by rw [← vkF], by omega, ?_⟩
    ·have e : ((m : Int) - 1) = ((m - 1 : Nat) : Int) := by omega
     rw [e]
    ·rw [hxe.out, vjT]; congr 2; omega
   case measure => simp [intOf]; omega
  ·obtain rfl : m = i := by omega
   have hd : decide ((m : Int) < m) = false := by simp
   go_wp2_with fail
   go_ret
   refine ⟨?_, rfl⟩
   rw [vmD, hxe.out, voH hi, Hr.out]
   rfl
set_option maxRecDepth 100000 in
theorem vkG (n : Nat) (w : World) (hn : n ≤ 32) : Calls Tryz.prog 69 #[.int .i64 n] w fun e w' => e = .returned (.int .u32 (maskN n)) ∧ w = w' := by
 have HR := Lib.hid (voc hn)
 go_enter Tryz.func69, Tryz.ntmps69
 go_wp2_with fail
 go_loop [3, 4] (fun v k => ∃ i : Nat, i ≤ 32 ∧ k = .int .i64 i ∧ v = .int .u32 (mskN n i)) (fun _ k => 32 - (intOf k).toNat)
 case atStart => exact ⟨0, by omega, rfl, by rw [vmd]; rfl⟩
 case round =>
  obtain ⟨i, hi, rfl, rfl⟩ := hrel
  by_cases hlt : i < 32
  ·have hd : decide ((i : Int) < 32) = true := by simp; omega
   have hb := voG n i
   have hb2 : 2 ^ i ≤ 2 ^ 31 := Nat.pow_le_pow_right (by omega) (by omega)
   have hb3 : mskN n i < 2147483648 := Nat.lt_of_lt_of_le hb (by simpa using hb2)
   clear hb hb2
   obtain ⟨x, hx⟩ : ∃ x, mskN n i = x := ⟨_, rfl⟩
   rw [hx] at hb3 ⊢
   have Hx := Lib.hid hx; clear hx
   by_cases hin : i < n
   ·have hd2 : decide ((i : Int) < n) = true := by simpa using hin
    have hd3 : decide (i < n) = true := by simpa using hin
    go_wp2_with fail
    go_round
    case rel => exact ⟨i + 1, by omega, by go_num, by rw [vme hin, Hx.out]; simp⟩
    case measure => simp [intOf]; omega
   ·have hd2 : decide ((i : Int) < n) = false := by simpa using hin
    have hd3 : decide (i < n) = false := by simpa using hin
    go_wp2_with fail
    go_round
    case rel => exact ⟨i + 1, by omega, by go_num, by rw [vmf hin, Hx.out]; simp⟩
    case measure => simp [intOf]; omega
  ·obtain rfl : i = 32 := by omega
   rw [HR.out]
   go_wp2_with fail
   go_ret
   exact ⟨rfl, rfl⟩
set_option maxRecDepth 100000 in
theorem vcU (p : PI) (w : World) (ha : p.a < 4294967296) : Calls Tryz.prog 87 #[.agg #[.int .u32 p.a, .int .i64 p.l]] w fun e w' => e = .returned (.bool p.okB) ∧ Kp w w' := by
 obtain ⟨W, hW, kW, B0⟩ := Blk.al1 (w := w) rfl #[.int .u32 p.a, .int .i64 p.l] 39
 obtain ⟨p0, p1⟩ := Blk.p2 B0
 obtain ⟨r, hr⟩ : ∃ r, p.okB = r := ⟨_, rfl⟩
 rw [hr]
 have Hr := Lib.hid hr; clear hr
 by_cases h0 : p.l < 0
 ·have d0 : decide (p.l < 0) = true := by simpa using h0
  obtain rfl : r = false := by rw [← Hr.out]; simp [PI.okB]; omega
  clear h0 Hr
  go_enter Tryz.func87, Tryz.ntmps87
  go_wp2_with fail
  go_ret
  exact ⟨rfl, kW⟩
 have d0 : decide (p.l < 0) = false := by simpa using h0
 by_cases h1 : 32 < p.l
 ·have d1 : decide (32 < p.l) = true := by simpa using h1
  obtain rfl : r = false := by rw [← Hr.out]; simp [PI.okB]; omega
  clear h0 h1 Hr
  go_enter Tryz.func87, Tryz.ntmps87
  go_wp2_with fail
  go_ret
  exact ⟨rfl, kW⟩
 have d1 : decide (32 < p.l) = false := by simpa using h1
 obtain ⟨n, hn⟩ : ∃ n : Nat, p.l = (n : Int) := ⟨p.l.toNat, by omega⟩
 have hn32 : n ≤ 32 := by omega
 have Hok : Hid (r = decide (cut p.a n = p.a)) := by
  rw [← Hr.out]
  have e : p.l.toNat = n := by omega
  unfold PI.okB
  rw [e]
  exact Lib.hid (by congr 1; simp; omega)
 rw [hn] at p1 d0 d1 hW ⊢
 clear h0 h1 hn Hr B0
 go_enter Tryz.func87, Tryz.ntmps87
 go_wp2_with fail
 go_loop [3] (fun k => ∃ i : Nat, n ≤ i ∧ i ≤ 32 ∧ k = .int .i64 i ∧ Hid (∀ j, n ≤ j → j < i → bitN p.a j = 0)) (fun k => 32 - (intOf k).toNat)
 case atStart => exact ⟨n, Nat.le_refl _, hn32, rfl, fun j h1 h2 => absurd h2 (by omega)⟩
 case round =>
  obtain ⟨i, hni, hi, rfl, hall⟩ := hrel
  by_cases hlt : i < 32
  ·have hd : decide ((i : Int) < 32) = true := by simp; omega
   have hbl := vcm p.a i
   go_wp2_with fail
   refine (vfh p.a i _ ha hlt).mono ?_
   rintro e w' ⟨rfl, rfl⟩
   by_cases hb : bitN p.a i = 0
   ·rw [hb]
    have Hb := Lib.hid hb; clear hb
    go_wp2_with fail
    go_round
    case rel =>
     refine ⟨i + 1, by omega, by omega, by go_num, fun j h1 h2 => ?_⟩
     rcases Nat.lt_or_ge j i with h3 | h3
     ·exact hall.out j h1 h3
     ·obtain rfl : j = i := by omega
      exact Hb.out
    case measure => simp [intOf]; omega
   ·obtain rfl : r = false := by
     rw [Hok.out]
     simp only [decide_eq_false_iff_not]
     intro hc
     exact hb ((vfs hn32).2 hc i hni hlt)
    obtain ⟨x, hx⟩ : ∃ x, bitN p.a i = x := ⟨_, rfl⟩
    rw [hx] at hb hbl ⊢
    obtain rfl : x = 1 := by omega
    clear hb hbl hx
    go_wp2_with fail
    go_ret
    exact ⟨rfl, kW⟩
  ·obtain rfl : i = 32 := by omega
   obtain rfl : r = true := by
    rw [Hok.out]
    simp only [decide_eq_true_eq]
    exact (vfs hn32).1 (fun j h1 h2 => hall.out j h1 h2)
   go_wp2_with fail
   go_ret
   exact ⟨rfl, kW⟩
def RPartsP (m : Nat) (w : World) (e : Ending) (w' : World) : Prop := ∃ y z u : Int, e = .returned (.agg #[.int .i64 m, .int .i64 y, .int .i64 z, .int .i64 u]) ∧ Kp w w'
set_option maxRecDepth 100000 in
theorem vgE (a m : Nat) (w : World) (ha : a < 4294967296) (hm : a / 16777216 = m) : Calls Tryz.prog 295 #[.int .u32 a] w (RPartsP m w) := by
 have Hm := Lib.hid hm; clear hm
 go_enter Tryz.func295, Tryz.ntmps295
 go_wp2_with fail
 exact bodyPost_ret (v := .agg #[.int .i64 ((a : Int) / 16777216), .int .i64 ((a : Int) / 65536 % 256), .int .i64 ((a : Int) / 256 % 256), .int .i64 ((a : Int) % 256)]) (by simp [results, Tryz.results295, go_sem]) rfl ⟨_, _, _, by rw [← Hm.out]; rfl, (Kp.refl _).alloc _⟩
set_option maxRecDepth 100000 in
theorem vkH (a : Nat) (w : World) (ha : a < 4294967296) : Calls Tryz.prog 231 #[.int .u32 a] w fun e w' => e = .returned (.int .i64 (kindAd a)) ∧ Kp w w' := by
 obtain ⟨r, hr⟩ : ∃ r, kindAd a = r := ⟨_, rfl⟩
 rw [hr]
 obtain ⟨m, hm⟩ : ∃ m, a / 16777216 = m := ⟨_, rfl⟩
 have hm2 : m < 256 := by omega
 unfold kindAd at hr
 rw [hm] at hr
 have Hm := Lib.hid hm; clear hm
 have hall : Hid ((a = 0 ∧ r = 1) ∨ (a ≠ 0 ∧ m = 0 ∧ r = 2) ∨ (a ≠ 0 ∧ m = 127 ∧ r = 3) ∨ (a ≠ 0 ∧ 224 ≤ m ∧ m ≤ 239 ∧ r = 4) ∨ (a ≠ 0 ∧ 240 ≤ m ∧ r = 5) ∨ (a ≠ 0 ∧ m ≠ 0 ∧ m ≠ 127 ∧ m < 224 ∧ r = 6)) := by
  revert hr
  by_cases h0 : a = 0
  ·rw [if_pos h0]; intro hr; exact .inl ⟨h0, hr.symm⟩
  rw [if_neg h0]
  by_cases h1 : m = 0
  ·rw [if_pos h1]; intro hr; exact .inr (.inl ⟨h0, h1, hr.symm⟩)
  rw [if_neg h1]
  by_cases h2 : m = 127
  ·rw [if_pos h2]; intro hr; exact .inr (.inr (.inl ⟨h0, h2, hr.symm⟩))
  rw [if_neg h2]
  by_cases h3 : 224 ≤ m ∧ m ≤ 239
  ·rw [if_pos h3]; intro hr; exact .inr (.inr (.inr (.inl ⟨h0, h3.1, h3.2, hr.symm⟩)))
  rw [if_neg h3]
  by_cases h4 : 240 ≤ m
  ·rw [if_pos h4]; intro hr; exact .inr (.inr (.inr (.inr (.inl ⟨h0, h4, hr.symm⟩))))
  rw [if_neg h4]
  intro hr
  exact .inr (.inr (.inr (.inr (.inr ⟨h0, h1, h2, by omega, hr.symm⟩))))
 clear hr
 go_enter Tryz.func231, Tryz.ntmps231
 go_wp2_with fail
 refine (vgE a m w ha Hm.out).mono ?_
 rintro e w1 ⟨y, z, u, rfl, hK⟩
 rcases hall.out with ⟨h0, rfl⟩ | ⟨h0, h1, rfl⟩ | ⟨h0, h1, rfl⟩ | ⟨h0, h1, h2, rfl⟩ | ⟨h0, h1, rfl⟩ | ⟨h0, h1, h2, h3, rfl⟩
 ·subst h0
  clear hall
  go_wp2_with fail
  go_ret
  exact ⟨rfl, hK.alloc _⟩
 ·have q0 : ((a : Int) == 0) = false := by simpa using h0
  subst h1
  clear hall h0
  go_wp2_with fail
  go_ret
  exact ⟨rfl, hK.alloc _⟩
 ·have q0 : ((a : Int) == 0) = false := by simpa using h0
  subst h1
  clear hall h0
  go_wp2_with fail
  go_ret
  exact ⟨rfl, hK.alloc _⟩
 ·have q0 : ((a : Int) == 0) = false := by simpa using h0
  have q1 : ((m : Int) == 0) = false := by simp; omega
  have q2 : ((m : Int) == 127) = false := by simp; omega
  have q3 : decide ((224 : Int) ≤ m) = true := by simp; omega
  have q4 : decide ((m : Int) ≤ 239) = true := by simp; omega
  clear hall h0
  go_wp2_with fail
  go_ret
  exact ⟨rfl, hK.alloc _⟩
 ·have q0 : ((a : Int) == 0) = false := by simpa using h0
  have q1 : ((m : Int) == 0) = false := by simp; omega
  have q2 : ((m : Int) == 127) = false := by simp; omega
  have q3 : decide ((224 : Int) ≤ m) = true := by simp; omega
  have q4 : decide ((m : Int) ≤ 239) = false := by simp; omega
  have q5 : decide ((240 : Int) ≤ m) = true := by simp; omega
  clear hall h0
  go_wp2_with fail
  go_ret
  exact ⟨rfl, hK.alloc _⟩
 ·have q0 : ((a : Int) == 0) = false := by simpa using h0
  have q1 : ((m : Int) == 0) = false := by simp; omega
  have q2 : ((m : Int) == 127) = false := by simp; omega
  have q3 : decide ((224 : Int) ≤ m) = false := by simp; omega
  have q5 : decide ((240 : Int) ≤ m) = false := by simp; omega
  clear hall h0
  go_wp2_with fail
  go_ret
  exact ⟨rfl, hK.alloc _⟩
set_option maxRecDepth 100000 in
theorem vmE (a n : Nat) (w : World) (ha : a < 4294967296) (hn : n ≤ 32) : Calls Tryz.prog 164 #[.int .u32 a, .int .u32 (maskN n)] w fun e w' => e = .returned (.bool (badKind a n)) ∧ Kp w w' := by
 obtain ⟨r, hr⟩ : ∃ r, badKind a n = r := ⟨_, rfl⟩
 rw [hr]
 have hk := vds a
 have hmm := viV n hn
 unfold badKind at hr
 have Hk := Lib.hid (vkH a w ha)
 obtain ⟨k, hkk⟩ : ∃ k, kindAd a = k := ⟨_, rfl⟩
 rw [hkk] at hr hk Hk
 obtain ⟨mm, hM⟩ : ∃ mm, maskN n = mm := ⟨_, rfl⟩
 rw [hM] at hmm ⊢
 clear hkk hM
 have Hmm := Lib.hid hmm; clear hmm
 have hcase : k = 1 ∨ k = 2 ∨ k = 3 ∨ k = 4 ∨ k = 5 ∨ k = 6 := by omega
 clear hk
 rcases hcase with rfl | rfl | rfl | rfl | rfl | rfl
 ·simp only [show ¬ (1 = 6) by omega, if_false, if_true] at hr
  rw [hr] at Hmm
  have hm := Hmm.out
  clear hr
  go_enter Tryz.func164, Tryz.ntmps164
  go_wp2_with fail
  refine Hk.out.mono ?_
  rintro e w1 ⟨rfl, hK⟩
  cases r
  all_goals
   go_wp2_with fail
   go_ret
   exact ⟨rfl, hK⟩
 all_goals
  simp at hr
  subst hr
  go_enter Tryz.func164, Tryz.ntmps164
  go_wp2_with fail
  refine Hk.out.mono ?_
  rintro e w1 ⟨rfl, hK⟩
  go_wp2_with fail
  go_ret
  exact ⟨rfl, hK⟩
set_option maxRecDepth 100000 in
theorem vfi (p : PI) (w : World) (ha : p.a < 4294967296) : Calls Tryz.prog 136 #[.agg #[.int .u32 p.a, .int .i64 p.l]] w fun e w' => e = .returned (.bool (toldB p)) ∧ Kp w w' := by
 obtain ⟨W, hW, kW, B0⟩ := Blk.al1 (w := w) rfl #[.int .u32 p.a, .int .i64 p.l] 39
 obtain ⟨p0, p1⟩ := Blk.p2 B0
 cases hok : p.okB with
 | false =>
  have Ht : Hid (toldB p = false) := Lib.hid (by simp [toldB, hok])
  have Hok := Lib.hid hok; clear hok
  go_enter Tryz.func136, Tryz.ntmps136
  go_wp2_with fail
  refine vjU (by kernel_rfl) (fun V hV => ?_)
  have KV : Kp W V := by rw [hV]; exact (Kp.refl _).drew
  clear hV
  have q0 := KV.cell p0
  have q1 := KV.cell p1
  clear p0 p1
  refine wpAny_ready (rs := [0]) (by kernel_rfl) (by simp) ?_
  refine AllReady.cons rfl (fun K hK => ?_) AllReady.nil
  go_simp
  refine hK _ _ ?_
  clear hK K
  refine wpAny_ready (rs := [1]) (by kernel_rfl) (by simp) ?_
  refine AllReady.cons rfl (fun K hK => ?_) AllReady.nil
  go_simp
  refine (vcU p _ ha).mono ?_
  rintro e wa ⟨rfl, hKa⟩
  rw [Hok.out]
  refine hK _ _ ?_
  clear hK K
  refine wpAny_take (i := 2) (v := .bool false) rfl (by kernel_rfl) (by kernel_rfl) (by kernel_rfl) (fun _ _ _ h => h) (Or.inl ⟨by rfl, fun w => by go_simp⟩) ?_
  refine wpAny_take (i := 3) (v := undef) rfl (by kernel_rfl) (by kernel_rfl) (by kernel_rfl) (fun _ _ _ h => h) (Or.inr ⟨by rfl, rfl⟩) ?_
  refine wpAny_take (i := 4) (v := undef) rfl (by kernel_rfl) (by kernel_rfl) (by kernel_rfl) (fun _ _ _ h => h) (Or.inr ⟨by rfl, rfl⟩) ?_
  refine wpAny_take (i := 5) (v := undef) rfl (by kernel_rfl) (by kernel_rfl) (by kernel_rfl) (fun _ _ _ h => h) (Or.inr ⟨by rfl, rfl⟩) ?_
  refine wpAny_take (i := 6) (v := undef) rfl (by kernel_rfl) (by kernel_rfl) (by kernel_rfl) (fun _ _ _ h => h) (Or.inr ⟨by rfl, rfl⟩) ?_
  refine wpAny_take (i := 7) (v := undef) rfl (by kernel_rfl) (by kernel_rfl) (by kernel_rfl) (fun _ _ _ h => h) (Or.inr ⟨by rfl, rfl⟩) ?_
  refine wpAny_take (i := 8) (v := undef) rfl (by kernel_rfl) (by kernel_rfl) (by kernel_rfl) (fun _ _ _ h => h) (Or.inr ⟨by rfl, rfl⟩) ?_
  refine wpAny_take (i := 9) (v := undef) rfl (by kernel_rfl) (by kernel_rfl) (by kernel_rfl) (fun _ _ _ h => h) (Or.inr ⟨by rfl, rfl⟩) ?_
  refine vam 10 rfl (by kernel_rfl) ?_
  simp only [List.drop_succ_cons, List.drop_zero]
  go_wp2_with fail
  go_ret
  exact ⟨by rw [Ht.out]; rfl, (kW.trans KV).trans hKa⟩
 | true =>
  have hq := of_decide_eq_true hok
  obtain ⟨n, hn⟩ : ∃ n : Nat, p.l = (n : Int) := ⟨p.l.toNat, by omega⟩
  have hn32 : n ≤ 32 := by omega
  have Ht : Hid (toldB p = !badKind p.a n) := Lib.hid (by simp [toldB, hok, hn])
  have Hok := Lib.hid hok; clear hok hq
  have HR := Lib.hid (fun w => vcU p w ha)
  rw [hn] at hW p1 B0 HR ⊢
  clear hn
  go_enter Tryz.func136, Tryz.ntmps136
  go_wp2_with fail
  go_region_held3 (fun w' => w'.cell? ⟨w.heap.size, 0, none⟩ = some (.int .u32 p.a) ∧ w'.cell? ⟨w.heap.size, 1, none⟩ = some (.int .i64 n)) (first | exact ⟨(Ka.trans Kb).cell p0, (Ka.trans Kb).cell p1⟩ | exact ⟨Ka.cell p0, Ka.cell p1⟩ | go_keep) (first | (go_at_call 87; refine (HR.out _).mono ?_; rintro e wa ⟨rfl, hKa⟩; rw [Hok.out]; have Ka : Kp W wa := (Kp.refl W).drew.trans hKa) | (go_at_call 69; refine (vkG n _ hn32).mono ?_; rintro e w' ⟨rfl, rfl⟩) | (go_at_call 164; refine (vmE p.a n _ ha hn32).mono ?_; rintro e wb ⟨rfl, Kb⟩))
  go_wp2_with fail
  go_ret
  exact ⟨by rw [Ht.out]; rfl, (kW.trans Ka).trans Kb⟩
def hasA (p : Pn) (a : Nat) : Bool := decide (p.holds ⟨a, 32⟩)
theorem vom {p : Pn} {a : Nat} (hp : p.ok) : hasA p a = decide (cut a p.l = p.a) := by
 unfold hasA Pn.holds
 have := hp.2.1
 congr 1
 simp only [eq_iff_iff]
 exact ⟨fun h => h.2, fun h => ⟨this, h⟩⟩
set_option maxRecDepth 100000 in
theorem vmF (p : Pn) (a : Nat) (w : World) (hp : p.ok) (ha : a < 4294967296) : Calls Tryz.prog 32 #[.agg #[.int .u32 p.a, .int .i64 p.l], .int .u32 a] w fun e w' => e = .returned (.bool (hasA p a)) ∧ Kp w w' := by
 obtain ⟨W, hW, kW, B0⟩ : ∃ W, w.alloc (.cells #[.int .u32 p.a, .int .i64 p.l] 39) = W ∧ Kp w W ∧ Blk W w.heap.size 39 #[.int .u32 p.a, .int .i64 p.l] := ⟨_, rfl, (Kp.refl _).alloc _, Blk.new w _ _⟩
 have p0 : W.cell? ⟨w.heap.size, 0, none⟩ = some (.int .u32 p.a) := B0.cell 0
 have p1 : W.cell? ⟨w.heap.size, 1, none⟩ = some (.int .i64 p.l) := B0.cell 1
 obtain ⟨R, hR⟩ : ∃ R, hasA p a = R := ⟨_, rfl⟩
 rw [hR]
 have HR : Hid (R = decide (cut a p.l = cut p.a p.l)) := by rw [← hR, vom hp, hp.2.2]; exact Lib.hid rfl
 have Hok := Lib.hid (pi_ok hp)
 have hpl := hp.2.1
 have hpa := hp.1
 have HRi := Lib.hid (fun w => vcU p.pi w hp.1)
 clear hR hp
 go_enter Tryz.func32, Tryz.ntmps32
 go_wp2_with fail
 refine (HRi.out _).mono ?_
 rintro e w1 ⟨rfl, hK⟩
 rw [Hok.out]
 have B1 := B0.keep hK
 have q0 : w1.cell? ⟨w.heap.size, 0, none⟩ = some (.int .u32 p.a) := B1.cell 0
 have q1 : w1.cell? ⟨w.heap.size, 1, none⟩ = some (.int .i64 p.l) := B1.cell 1
 have k1 := kW.trans hK
 clear hW p0 p1
 go_wp2_with fail
 go_loop [5] (fun k => ∃ i : Nat, i ≤ p.l ∧ k = .int .i64 i ∧ Hid (∀ j, j < i → bitN p.a j = bitN a j)) (fun k => p.l - (intOf k).toNat)
 case atStart => exact ⟨0, Nat.zero_le _, rfl, fun j h => absurd h (by omega)⟩
 case round =>
  obtain ⟨i, hi, rfl, hall⟩ := hrel
  by_cases hlt : i < p.l
  ·have hd : decide ((i : Int) < p.l) = true := by simpa using hlt
   have hi32 : i < 32 := by omega
   go_wp2_with fail
   refine (vfh p.a i _ hpa hi32).mono ?_
   rintro e w' ⟨rfl, rfl⟩
   go_wp2_with fail
   refine (vfh a i _ ha hi32).mono ?_
   rintro e w' ⟨rfl, rfl⟩
   by_cases hb : bitN p.a i = bitN a i
   ·rw [hb]
    have Hb := Lib.hid hb; clear hb
    go_wp2_with fail
    go_round
    case rel =>
     refine ⟨i + 1, by omega, by go_num, fun j h2 => ?_⟩
     rcases Nat.lt_or_ge j i with h3 | h3
     ·exact hall.out j h3
     ·obtain rfl : j = i := by omega
      exact Hb.out
    case measure => simp [intOf]; omega
   ·obtain rfl : R = false := by
     rw [HR.out]
     simp only [decide_eq_false_iff_not]
     intro hc
     exact hb ((vft hpa ha hpl).2 hc.symm i hlt)
    have hne : ((bitN p.a i : Int) != (bitN a i : Int)) = true := by simp; omega
    obtain ⟨x, hx⟩ : ∃ x, bitN p.a i = x := ⟨_, rfl⟩
    obtain ⟨y, hy⟩ : ∃ y, bitN a i = y := ⟨_, rfl⟩
    rw [hx, hy] at hne ⊢
    clear hb hx hy
    go_wp2_with fail
    go_ret
    exact ⟨rfl, k1⟩
  ·obtain rfl : i = p.l := by omega
   obtain rfl : R = true := by
    rw [HR.out]
    simp only [decide_eq_true_eq]
    exact ((vft hpa ha hpl).1 (fun j h => hall.out j h)).symm
   have hd : decide ((p.l : Int) < p.l) = false := by simp
   go_wp2_with fail
   go_ret
   exact ⟨rfl, k1⟩
set_option maxRecDepth 100000 in
theorem von (w : World) (a l f x m a' l' f' x' m' : Int) (d d' : Bool) : (binOp .neq 89 (.agg #[.int .u32 a, .int .i64 l, .bool d, .int .i64 f, .int .u32 x, .int .i64 m]) (.agg #[.int .u32 a', .int .i64 l', .bool d', .int .i64 f', .int .u32 x', .int .i64 m'])).run Tryz.prog w = .ok (.bool (!((a == a' && l == l') && (d == d') && (f == f') && (x == x') && (m == m')))) w := by
 rw [run_neq_struct, run_equalIn_agg w 9999 _ _ _ Tryz.underlying89 (by kernel_rfl)]
 simp [Op.eqFields, part, go_sem, Tryz.underlying3, Tryz.underlying37, Tryz.underlying4]
 repeat' split
 all_goals simp_all
theorem voO {h k : Hp} : ((((h.p.a : Int) == k.p.a && (h.p.l : Int) == k.p.l) && (h.d == k.d)) && (h.f == k.f) && ((h.x : Int) == k.x) && (h.m == k.m)) = decide (h = k) := by
 obtain ⟨⟨a, l⟩, d, f, x, m⟩ := h
 obtain ⟨⟨a', l'⟩, d', f', x', m'⟩ := k
 rw [Bool.eq_iff_iff]
 simp only [Bool.and_eq_true, beq_iff_eq, decide_eq_true_eq, Hp.mk.injEq, Pn.mk.injEq]
 constructor
 ·rintro ⟨⟨⟨⟨⟨h1, h2⟩, h3⟩, h4⟩, h5⟩, h6⟩
  exact ⟨⟨by omega, by omega⟩, h3, h4, by omega, h6⟩
 ·rintro ⟨⟨h1, h2⟩, h3, h4, h5, h6⟩
  exact ⟨⟨⟨⟨⟨by omega, by omega⟩, h3⟩, h4⟩, by omega⟩, h6⟩
theorem voo (w : World) (h k : Hp) : (binOp .neq 89 (hopV h) (hopV k)).run Tryz.prog w = .ok (.bool (!decide (h = k))) w := by
 unfold hopV
 rw [von, voO]
theorem FM.up {w : World} {f : Nat} {F : List Nat} {L : List Hp} (h : FM w f F L) : Up L ∧ L.length ≤ 512 := by
 obtain ⟨tr, t, A, c, H, _, m, u, pm⟩ := h
 exact ⟨u, by rw [← pm.length_eq]; exact m.room⟩
end

end Go.Proofs.YtgopnfacklmkaaaGreatDoor
