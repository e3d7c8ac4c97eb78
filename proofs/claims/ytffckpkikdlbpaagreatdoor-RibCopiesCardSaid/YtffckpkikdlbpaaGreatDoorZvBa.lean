/- Lemmas and contracts for the theorem of this claim: RxD, Law, SrtL, SoL, SoA, SoB. -/
import Derived.Test.YtffckpkikdlbpaaGreatDoorZvAw
import Derived.Test.YtffckpkikdlbpaaGreatDoorZvAz
import Derived.Test.YtffckpkikdlbpaaGreatDoorRows
import Derived.ProofKit
import Derived.Lib.SmallJoins
import Derived.Deep.Slices
import Derived.Deep.Fields
import Derived.ChangeSame
import Derived.Shelf.SlSortCmp.WholeK
import Derived.Maps.RangeWalk
set_option linter.all false
set_option maxHeartbeats 16000000
namespace Go.Proofs.YtffckpkikdlbpaaGreatDoor
section
open Go.RowKit Go.Maps
def CntP (B t : Nat) (F : List Nat) (z : Tb × Int × Int) (w : World) (e : Ending) (w' : World) : Prop := e = .returned (.tuple #[.int .i64 z.2.1, .int .i64 z.2.2]) ∧ TabT w w' B t F z.1
theorem CntP.mk {B t : Nat} {F : List Nat} {T' : Tb} {z : Tb × Int × Int} {k n : Int} {w w' : World} (h : z = (T', k, n)) (hT : TabT w w' B t F T') : CntP B t F z w (.returned (.tuple #[.int .i64 k, .int .i64 n])) w' := by subst h; exact ⟨rfl, hT⟩
theorem CapAt.set {w : World} (h : CapAt w) {t i : Nat} {v : Value} (ht : 1 ≠ t) : CapAt (w.setCell ⟨t, i, none⟩ v) :=
 ⟨((Only.refl [t] w).setCell (p := ⟨t, i, none⟩) (.inl (by simp)) v).cell h.1 (by simpa using ht), ((Only.refl [t] w).setCell (p := ⟨t, i, none⟩) (.inl (by simp)) v).cell h.2 (by simpa using ht)⟩
set_option maxRecDepth 100000 in
theorem veo (B t : Nat) (F : List Nat) (T : Tb) (now : Int) (w : World) (hM : TabM w B t F T) (hok : TbOk T) (hwf : ∀ r ∈ T.l, r.x < 4294967296) (hown : ∀ k (hk : k < T.c.own.length), T.c.own[k].a < 4294967296) (hC : CapAt w) (hG : 1 < B) :
  Calls Tryz.prog 27 #[.pointer (some ⟨t, 0, none⟩), .int .i64 now] w (CntP B t F (expT T now) w) := by
 obtain ⟨b, hb⟩ : ∃ b, w.heap.size = b := ⟨_, rfl⟩
 obtain ⟨W0, hW0, k0, B0, B1⟩ := Blk.al2 hb #[.pointer (some ⟨t, 0, none⟩)] 36 #[.int .i64 now] 2
 have hs0 : W0.heap.size = b + 1 + 1 := by rw [← hW0, ← hb]; simp
 obtain ⟨W, hW, kW, C0, C1, C3, C4⟩ : ∃ W, (W0.alloc (.cells #[.int .i64 0] 3)).alloc (.cells #[.int .i64 0] 53) = W ∧ Kp w W ∧ Blk W b 36 #[.pointer (some ⟨t, 0, none⟩)] ∧ Blk W (b + 1) 2 #[.int .i64 now] ∧ Blk W (b + 1 + 1) 3 #[.int .i64 0] ∧ Blk W (b + 1 + 1 + 1) 53 #[.int .i64 0] := ⟨_, rfl, (k0.alloc _).alloc _, (B0.alloc _).alloc _, (B1.alloc _).alloc _, by rw [← hs0]; exact (Blk.new _ _ _).alloc _, by rw [← hs0]; exact Blk.new1 _ _ _ _⟩
 have c0 : W.cell? ⟨b, 0, none⟩ = some (.pointer (some ⟨t, 0, none⟩)) := C0.cell 0
 have c1 : W.cell? ⟨b + 1, 0, none⟩ = some (.int .i64 now) := C1.cell 0
 have hMW := hM.keep kW
 obtain ⟨mp0, hm, _⟩ := hMW.cellm
 have hFb : ∀ x ∈ F, x < b := fun x hx => by rw [← hb]; exact (hM.lo x hx).2
 have hmf : ∀ (fn : Fn) (first cap : Array Value) (w : World), (Instr.makeFunc fn first cap).run Tryz.prog w = .ok (.func fn first cap) w := fun _ _ _ _ => rfl
 have HM := Lib.hid hM
 have HMW := Lib.hid hMW
 have HFb := Lib.hid hFb
 have HOK := Lib.hid hok
 have HWF := Lib.hid hwf
 have HOW := Lib.hid hown
 have HCA := Lib.hid hC
 have HB := Lib.hid hb
 clear hM hMW hFb hok hwf hown hC B0 B1 k0
 go_enter_defers Tryz.func27, Tryz.ntmps27
 go_wp2_with (first | (go_at_call 56; refine (vah t mp0 _ hm).mono ?_; rintro e w' ⟨rfl, hw'⟩; rw [hw']; clear hw' w'))
 cases ht : timely T now with
 | false =>
  refine (vfy B t F T now _ W HMW.out HOK.out.t.1 ht).mono ?_
  rintro e w5 ⟨rfl, hw5⟩
  rw [hw5]
  clear hw5 w5
  have HZ := Lib.hid (show expT T now = (T, 0, 170) by unfold expT; rw [ht]; rfl)
  go_wp2_with fail
  refine leaves_cons (f := 69) (args := #[.pointer (some ⟨b + 1 + 1, 0, none⟩), .pointer (some ⟨b + 1 + 1 + 1, 0, none⟩)]) (by simp) (by simp [go_sem]) ?_
  refine (vgY (b + 1 + 1) (b + 1 + 1 + 1) _ _ 170 _ C3 C4 (by omega)).mono ?_
  rintro e u' wz ⟨rfl, rfl, Z3, Z4, hOz⟩
  have q0 : wz.cell? ⟨b + 1 + 1, 0, none⟩ = some (.int .i64 0) := Z3.cell 0
  have q9 : wz.cell? ⟨b + 1 + 1 + 1, 0, none⟩ = some (.int .i64 170) := Z4.cell 0
  show Leaves _ _ _ _ [] .returning _
  exact ⟨.tuple #[.int .i64 0, .int .i64 170], by simp [results, Tryz.results27, go_sem, q0, q9], CntP.mk HZ.out (TabT.stop (Only.of_kp kW) HMW.out (fun _ z => .inl z) hOz (by
   intro x hx
   have hb := HB.out
   simp only [List.mem_cons, List.not_mem_nil, or_false] at hx
   rcases hx with rfl | rfl
   ·exact ⟨by omega, fun z => by have := HFb.out _ z; omega, _, _, C3, by decide⟩
   ·exact ⟨by omega, fun z => by have := HFb.out _ z; omega, _, _, C4, by decide⟩))⟩
 | true =>
  have hT1 := HMW.out.now_ now
  have htl := vam.1 ht
  obtain ⟨q, mp, m, A, QF, l, hFe, X1⟩ := hT1
  have tF : t < b := HFb.out t (by rw [hFe]; exact List.mem_cons_self)
  have hbt : B ≤ t := X1.bt
  have hok1 : TbOk ⟨T.c, T.l, now, T.rf⟩ := ⟨HOK.out.c, HOK.out.u, HOK.out.r, HOK.out.n, ⟨htl.1, htl.2.1⟩, HOK.out.f⟩
  have hnF : ∀ i, b ≤ i → i ∉ t :: mp :: QF := fun i hi z => by
   rw [← hFe] at z
   have := HFb.out i z
   omega
  have D0 := C0.far (p := ⟨t, 11, none⟩) (by show b ≠ t; omega) (.int .i64 now)
  have D1 := C1.far (p := ⟨t, 11, none⟩) (by show b + 1 ≠ t; omega) (.int .i64 now)
  have D3 := C3.far (p := ⟨t, 11, none⟩) (by show b + 1 + 1 ≠ t; omega) (.int .i64 now)
  have D4 := C4.far (p := ⟨t, 11, none⟩) (by show b + 1 + 1 + 1 ≠ t; omega) (.int .i64 now)
  have HCL := vkY B t q mp m A QF l ⟨T.c, T.l, now, T.rf⟩ b (b + 1) (b + 1 + 1) _ X1 hok1 HWF.out HOW.out ((HCA.out.keep kW).set (by omega)) hG D0 D1 D3 (hnF _ (Nat.le_refl _)) (hnF _ (by omega)) (hnF _ (by omega)) (by omega)
  refine (viD B t F T now 70 (fun args w => by kernel_rfl) _ _ _ W HMW.out ht (fun e w' z => .inl z.1) HCL).mono ?_
  rintro e w5 ⟨rfl, QF5, l5, X5, P5, O5, N5⟩
  have hall := vkR HOK.out (now := now) (by rw [okNow, vaa]; exact ⟨htl.1, htl.2.1⟩)
  have HZ := Lib.hid (show expT T now = (⟨T.c, (expE T.c now T.l).1, now, T.rf⟩, (expE T.c now T.l).2, 0) by unfold expT; rw [ht, hall]; rfl)
  obtain ⟨n, hn⟩ : ∃ n, (expE T.c now T.l).2 = n := ⟨_, rfl⟩
  have P5' : Blk w5 (b + 1 + 1) 3 #[.int .i64 n] := by rw [← hn]; exact P5
  rw [hn] at HZ
  have hO1 : Only F w (W.setCell ⟨t, 11, none⟩ (.int .i64 now)) := (Only.of_kp kW).setCell (p := ⟨t, 11, none⟩) (.inl (by rw [hFe]; exact List.mem_cons_self)) _
  have hO5 : Only F w w5 := hO1.joinF O5 (fun x hx => by
   have hb := HB.out
   rcases List.mem_cons.1 hx with rfl | hx
   ·exact .inr (by omega)
   ·exact .inl (by rw [hFe]; exact hx))
  have hs1 : (W.setCell ⟨t, 11, none⟩ (.int .i64 now)).heap.size = W.heap.size := by simp
  have P54 := D4.only O5 (by
   simp only [List.mem_cons, not_or]
   have := hnF (b + 1 + 1 + 1) (by omega)
   simp only [List.mem_cons, not_or] at this
   exact ⟨by omega, this⟩)
  have hWl := C4.lt
  have HX5 := Lib.hid X5
  have HN5 := Lib.hid N5
  have HnF := Lib.hid hnF
  have HO5 := Lib.hid hO5
  have HFe := Lib.hid hFe
  have x0 : w5.cell? ⟨b + 1 + 1, 0, none⟩ = some (.int .i64 n) := P5'.cell 0
  have z0 := Blk.frozen P5'
  have x1 : w5.cell? ⟨b + 1 + 1 + 1, 0, none⟩ = some (.int .i64 0) := P54.cell 0
  have z1 := Blk.frozen P54
  obtain ⟨Q, hQ, Q3, Q4, hOQ⟩ : ∃ Q, (w5.setCell ⟨b + 1 + 1, 0, none⟩ (.int .i64 n)).setCell ⟨b + 1 + 1 + 1, 0, none⟩ (.int .i64 0) = Q ∧ Blk Q (b + 1 + 1) 3 #[.int .i64 n] ∧ Blk Q (b + 1 + 1 + 1) 53 #[.int .i64 0] ∧ Only [b + 1 + 1, b + 1 + 1 + 1] w5 Q := ⟨_, rfl, (P5'.set_ 0 (.int .i64 n)).far (p := ⟨b + 1 + 1 + 1, 0, none⟩) (by show b + 1 + 1 ≠ b + 1 + 1 + 1; omega) _, (P54.far (p := ⟨b + 1 + 1, 0, none⟩) (by show b + 1 + 1 + 1 ≠ b + 1 + 1; omega) _).set_ 0 (.int .i64 0), ((Only.refl _ w5).setCell (p := ⟨b + 1 + 1, 0, none⟩) (.inl (by simp)) _).setCell (p := ⟨b + 1 + 1 + 1, 0, none⟩) (.inl (by simp)) _⟩
  clear X5 N5 hnF hO5 hFe hn HCL X1 hall hs1 P5
  go_wp2_with fail
  clear x0 x1
  have q0 : Q.cell? ⟨b + 1 + 1, 0, none⟩ = some (.int .i64 n) := Q3.cell 0
  have q9 : Q.cell? ⟨b + 1 + 1 + 1, 0, none⟩ = some (.int .i64 0) := Q4.cell 0
  refine leaves_cons (f := 69) (args := #[.pointer (some ⟨b + 1 + 1, 0, none⟩), .pointer (some ⟨b + 1 + 1 + 1, 0, none⟩)]) (by simp) (by simp [go_sem]) ?_
  refine (viE _ _ _).mono ?_
  rintro e u' wz ⟨rfl, rfl, rfl⟩
  show Leaves _ _ _ _ [] .returning _
  have hnew : ∀ z ∈ t :: mp :: QF5, z ∈ F ∨ w.heap.size ≤ z := fun z hz => by
   have hb := HB.out
   rw [HFe.out]
   simp only [List.mem_cons] at hz ⊢
   rcases hz with hz | hz | hz
   ·exact .inl (.inl hz)
   ·exact .inl (.inr (.inl hz))
   ·rcases HN5.out z hz with k | k
    ·exact .inl (.inr (.inr k))
    ·have := kW.size
     simp at k
     exact .inr (by omega)
  have hno : ∀ z, b ≤ z → z < W.heap.size → z ∉ t :: mp :: QF5 := fun z hz hz2 hm => by
   have h1 := HnF.out z hz
   simp only [List.mem_cons, not_or] at h1 hm
   rcases hm with hm | hm | hm
   ·exact h1.1 hm
   ·exact h1.2.1 hm
   ·rcases HN5.out z hm with k | k
    ·exact h1.2.2 k
    ·simp at k
     omega
  exact ⟨.tuple #[.int .i64 n, .int .i64 0], by simp [results, Tryz.results27, go_sem, q0, q9], CntP.mk HZ.out (TabT.stop HO5.out (F' := t :: mp :: QF5) ⟨q, mp, m, A, QF5, l5, rfl, HX5.out⟩ hnew hOQ (by
   intro x hx
   have hb := HB.out
   simp only [List.mem_cons, List.not_mem_nil, or_false] at hx
   rcases hx with rfl | rfl
   ·exact ⟨by omega, hno _ (by omega) (by omega), _, _, P5', by decide⟩
   ·exact ⟨by omega, hno _ (by omega) (by omega), _, _, P54, by decide⟩))⟩
end

section
open Go.ChangeShapes Go.WideShapes Go.ChangeAt Go.RowKit Go.Joins Go.Deep
theorem Tryz.own : ownKnob Tryz.prog.godebug = none := by kernel_rfl
theorem Tryz.laidOut : laidOutB Tryz.prog = true := by kernel_rfl
section
variable {H : Type} {enc : TypeId × Value → H}
theorem vdO {W W' : World} (hK : Kp W W') {sp : Nat → Bool} : ∀ {ts : List TypeId} {vs : List Value} {ds : List (DataW H)} {ps : List MemPlace},
  (∀ t ∈ ts, Tryz.prog.readableRec t = true ∧ t < Tryz.prog.types.size) → (∀ p ∈ ps, p.block < W.heap.size) → (∀ p ∈ ps, sp p.block = true) →
  DataW.TrodAll enc Tryz.prog W 0 (fun _ => true) true ts vs ds ps → DataW.TrodAll enc Tryz.prog W' 0 sp true ts vs ds ps
 | [], [], [], _, _, _, _, h => h
 | [], _ :: _, _, _, _, _, _, h => h.elim
 | [], [], _ :: _, _, _, _, _, h => h.elim
 | _ :: _, [], _, _, _, _, _, h => h.elim
 | _ :: _, _ :: _, [], _, _, _, _, h => h.elim
 | t :: ts, v :: vs, d :: ds, ps, hr, hlt, hsp, ⟨p, q, h1, h2, e⟩ => by
  subst e
  refine ⟨p, q, ?_, vdO hK (fun t ht => hr t (by simp [ht])) (fun x hx => hlt x (by simp [hx])) (fun x hx => hsp x (by simp [hx])) h2, rfl⟩
  exact WideElems.Trod_stays Tryz.laidOut (hr t (by simp)).1 (hr t (by simp)).2 h1 (fun x hx => Below.same hK (hlt x (by simp [hx]))) (fun x hx => hsp x (by simp [hx]))
set_option maxRecDepth 100000 in
theorem vkZ {f : Func} {s : ChangeSpec} {apart fresh handsOn again : Bool} {W W' : World} {args : Array Value} {ds : List (DataW H)} {before : List MemPlace}
  (hW : DataW.Whole enc Tryz.prog f.params.toList s.vars apart W args.toList ds [] before) (hv : s.vars = []) (hres : f.resultTypes = #[4])
  (h1 : (s.fn H (ds ++ [])).results = [.lit (.bool true)]) (h2 : (s.fn H (ds ++ [])).args = ds) (h3 : (s.fn H (ds ++ [])).vars = [])
  (hr : ∀ t ∈ f.params.toList, Tryz.prog.readableRec t = true ∧ t < Tryz.prog.types.size) (hK : Kp W W') :
  s.post enc Tryz.prog f apart fresh handsOn again W args (.bool true) W' := by
 have hW' := hW
 obtain ⟨p, q, hA, hV, he, hz, hn⟩ := hW'
 rw [hv] at hV
 obtain ⟨_, rfl⟩ := trodVars_none hV
 rw [List.append_nil] at he
 obtain rfl : p = before := he.symm
 have hlt : ∀ x ∈ p, x.block < W.heap.size := fun x hx => hW.lt x (by simpa using hx)
 have hold : ∀ x ∈ p, (fun b => decide (b < W.heap.size)) x.block = true := fun x hx => by simpa using hlt x hx
 have hresults : ∀ (b : Nat) (sp : Nat → Bool) (hd : Bool), DataW.TrodAll enc Tryz.prog W' b sp hd f.resultTypes.toList ((Value.bool true).resultList f.resultTypes.size) (s.fn H (ds ++ [])).results [] := by
  intro b sp hd
  rw [hres, h1]
  exact trodAll_mk1 (shut_bool Tryz.underlying4 true)
 have hargs : ∀ sp : Nat → Bool, (∀ x ∈ p, sp x.block = true) → DataW.TrodAll enc Tryz.prog W' 0 sp true f.params.toList args.toList (s.fn H (ds ++ [])).args p := by
  intro sp hsp
  rw [h2]
  exact vdO hK hr hlt hsp hA
 have hvars : ∀ sp : Nat → Bool, DataW.TrodVars enc Tryz.prog W' sp s.vars (s.fn H (ds ++ [])).vars [] := by
  intro sp; rw [hv, h3]; rfl
 refine ⟨ds, [], p, [], p, [], hW, hresults _ _ _, hargs _ hold, hvars _, World.keptBut_mono (fun x hx => ⟨hx, ?_⟩) (Below.frame hK (· ∈ p)), fun _ => ?_⟩
 ·exact Or.inr (by simpa using hx)
 ·refine ⟨?_, _, _, ([] ++ p) ++ [], ⟨[] ++ p, [], trodAll_append (hargs _ (fun _ _ => rfl)) (hresults _ _ _), hvars _, rfl, ?_, ?_⟩, ?_⟩
  ·exact ok_one hres rfl (okWide_bool_mk Tryz.underlying4 true)
  ·intro b off hp
   have hin : MemPlace.cell b off ∈ p := by simpa using hp
   rw [Below.frozen hK (hlt _ hin)]
   exact hz b off (by simpa using hin)
  ·intro ha
   simpa using hn ha
  ·intro x hx _
   simpa using hx
theorem vdr {α : Type} {W : World} {fuel : Nat} {v : Value} {x : DataW H × List MemPlace} {t e sz : Nat} (enc' : α → List Value) (good : α → Prop) (henc : ∀ y, (enc' y).length = sz) (ht : Tryz.prog.underlying t = some (.slice e)) (hsz : Tryz.prog.cellsOf e = sz) (hs0 : 0 < sz)
  (hel : ∀ (cs : List Value) (n : Nat) (x : DataW H × List MemPlace), DataW.trod enc Tryz.prog W 0 (fun _ => true) true n e cs = some x → ∃ y, cs = enc' y ∧ good y)
  (h : DataW.trod enc Tryz.prog W 0 (fun _ => true) true fuel t [v] = some x) : ∃ A c ys, v = .slice A ys.length c ∧ ys.length ≤ maxLen ∧ Rd W sz enc' A ys ∧ ∀ y ∈ ys, good y := by
 rcases open_slice ht h with ⟨hc, _⟩ | ⟨a, len, cap, m, n, D, Pl, hc, _, hl, hm, hmm, _, hi⟩
 ·exact ⟨none, 0, [], by simpa using hc, by simp, Rd.nil _ _ _ _, by simp⟩
 ·simp only [if_true] at hmm
  subst hmm
  rw [hsz] at hi
  by_cases h0 : len = 0
  ·subst h0
   exact ⟨some a, m, [], by simpa using hc, by simp, Rd.nil _ _ _ _, by simp⟩
  have key : ∀ i, i < len → ∃ y, good y ∧ ∀ j u, (enc' y)[j]? = some u → W.cell? (a.add (i * sz + j)) = some u := by
   intro i hi'
   obtain ⟨cs', hcs, htr⟩ := hi i (by omega)
   obtain ⟨y, rfl, hg⟩ := hel cs' n _ htr
   obtain ⟨_, hlen, hat⟩ := World.cells?_some hcs
   refine ⟨y, hg, fun j u hu => ?_⟩
   have hj : j < sz := by have := (List.getElem?_eq_some_iff.1 hu).1; rw [henc] at this; exact this
   have := hat j hj
   rw [Go.Deep.add_add] at this
   rw [this, hu]
  obtain ⟨y0, hg0, hy0⟩ := key 0 (by omega)
  have hf : ∃ f : Nat → α, ∀ i, i < len → good (f i) ∧ ∀ j u, (enc' (f i))[j]? = some u → W.cell? (a.add (i * sz + j)) = some u := by
   refine ⟨fun i => if hi' : i < len then Classical.choose (key i hi') else y0, fun i hi' => ?_⟩
   simp only [hi', dif_pos]
   exact Classical.choose_spec (key i hi')
  obtain ⟨f, hf⟩ := hf
  have hsp : ∃ b off, a = ⟨b, off, none⟩ := by
   have h1 : 0 < (enc' (f 0)).length := by rw [henc]; exact hs0
   have := (hf 0 (by omega)).2 0 _ (List.getElem?_eq_getElem h1)
   simp only [Nat.zero_mul, Nat.add_zero] at this
   have h2 := World.cell?_spot this
   obtain ⟨b, off, spot⟩ := a
   simp [Addr.add] at h2
   subst h2
   exact ⟨b, off, rfl⟩
  obtain ⟨b, off, rfl⟩ := hsp
  refine ⟨some ⟨b, off, none⟩, m, (List.range len).map f, by simpa using hc, by simp; omega, ?_, ?_⟩
  ·intro i hi'
   have hi2 : i < len := by simpa using hi'
   refine ⟨b, off, rfl, fun j u hu => ?_⟩
   have := (hf i hi2).2 j u (by simpa using hu)
   have hadd : (⟨b, off, none⟩ : Addr).add (i * sz + j) = ⟨b, off + i * sz + j, none⟩ := by
    unfold Addr.add; split <;> simp_all [Nat.add_assoc]
   rw [hadd] at this
   exact this
  ·intro y hy
   obtain ⟨i, hi', rfl⟩ := List.mem_map.1 hy
   exact (hf i (by simpa using hi')).1
end
end

section
open Go.RowKit
def UpP (S : List PI) : Prop := S.Pairwise ltP
theorem vnB {x p : PI} (h : ¬ ltP p x) (hn : x ≠ p) : ltP x p := by
 rcases vdh x p with h1 | h1 | h1
 ·exact h1
 ·exact absurd h1 hn
 ·exact absurd h1 h
theorem vnC {S : List PI} {p : PI} {k : Nat} (u : UpP S) (hl : ∀ x ∈ S.take k, ¬ ltP p x) (hn : p ∉ S.take k) (hr : ∀ x ∈ S.drop k, ltP p x) : UpP (S.take k ++ p :: S.drop k) := by
 have u2 : UpP (S.take k ++ S.drop k) := by rw [List.take_append_drop]; exact u
 unfold UpP at u2 ⊢
 rw [List.pairwise_append] at u2 ⊢
 refine ⟨u2.1, List.pairwise_cons.2 ⟨fun x hx => hr x hx, u2.2.1⟩, fun x hx y hy => ?_⟩
 rcases List.mem_cons.1 hy with rfl | hy
 ·exact vnB (hl x hx) (fun z => hn (z ▸ hx))
 ·exact u2.2.2 x hx y hy
theorem vmU {S : List PI} {p x : PI} {k : Nat} : x ∈ S.take k ++ p :: S.drop k ↔ x = p ∨ x ∈ S := by
 have : x ∈ S ↔ x ∈ S.take k ∨ x ∈ S.drop k := by rw [← List.mem_append, List.take_append_drop]
 rw [this, List.mem_append, List.mem_cons]
 constructor
 ·rintro (h | h | h)
  ·exact .inr (.inl h)
  ·exact .inl h
  ·exact .inr (.inr h)
 ·rintro (h | h | h)
  ·exact .inr (.inl h)
  ·exact .inl h
  ·exact .inr (.inr h)
theorem vmV {S : List PI} {p : PI} {k : Nat} (u : UpP S) (h : ∀ hk : k < S.length, ltP p S[k]) : ∀ x ∈ S.drop k, ltP p x := by
 intro x hx
 by_cases hk : k < S.length
 ·have e := List.drop_eq_getElem_cons hk
  rw [e] at hx
  rcases List.mem_cons.1 hx with rfl | hx
  ·exact h hk
  ·have u2 : (S.drop k).Pairwise ltP := List.Pairwise.sublist (List.drop_sublist k S) u
   rw [e] at u2
   exact vdi (h hk) ((List.pairwise_cons.1 u2).1 x hx)
 ·rw [List.drop_of_length_le (by omega)] at hx
  simp at hx
theorem vhn {c : Cf} {S : List PI} (u : UpP S) (h : ∀ x, x ∈ S ↔ x ∈ c.own) : S.map ownR = (newT c).l := by
 obtain ⟨h1, h2, -⟩ := vaS c.own [] List.Pairwise.nil
 refine UpR.eq ?_ h1 (fun x => ?_)
 ·unfold UpR
  rw [List.pairwise_map]
  exact u
 ·show x ∈ S.map ownR ↔ x ∈ putAll (c.own.map ownR) []
  rw [h2 x, List.mem_map]
  constructor
  ·rintro ⟨p, hp, rfl⟩
   exact .inl ⟨p, (h p).1 hp, rfl⟩
  ·rintro (⟨p, hp, rfl⟩ | ⟨hx, _⟩)
   ·exact ⟨p, (h p).2 hp, rfl⟩
   ·simp at hx
theorem vax {L : List PI} {i : Nat} (hi : i < L.length) (x : PI) : x ∈ L.take (i + 1) ↔ x = L[i] ∨ x ∈ L.take i := by
 rw [List.take_succ_eq_append_getElem hi, List.mem_append, List.mem_singleton]
 exact Or.comm
end

section
open Go.RowKit Go.Sort Go.Shelf
instance : Inhabited Rt := ⟨zeroR⟩
def cfR (x y : Rt) : Int := ordI x.p.a x.p.l y.p.a y.p.l
theorem vcV {x y : Rt} : ltOf cfR x y = true ↔ ltP x.p y.p := by
 unfold ltOf cfR
 rw [decide_eq_true_iff]
 exact vgd
theorem vbY {x y : Rt} : ltOf cfR x y = false ↔ ¬ ltP x.p y.p := by
 rw [← vcV]
 exact Bool.not_eq_true _ |>.symm ▸ Iff.rfl
theorem swoR : SWO (ltOf cfR) where
 irrefl x := vbY.2 (fun h => vbu h rfl)
 trans x y z h1 h2 := vcV.2 (vdi (vcV.1 h1) (vcV.1 h2))
 ntrans x y z h1 h2 := by
  rw [vbY] at *
  unfold ltP at *
  omega
theorem viT {L : List Rt} (u : UpR L) {d d' : Array Rt} (h0 : d.toList.Perm L) (hp : PermIn 0 d.size d d') (hs : SortedIn (ltOf cfR) 0 d.size d') : d'.toList = L := by
 obtain ⟨h1, _, h3⟩ := hp
 have e1 : d'.extract 0 d.size = d' := by rw [← h1]; simp
 have e2 : d.extract 0 d.size = d := by simp
 rw [e1, e2] at h3
 have hP := h3.trans h0
 have hn : (d'.toList.map Rt.p).Nodup := (hP.map Rt.p).nodup_iff.2 u.nodup
 refine UpR.eq_perm ?_ u hP
 unfold UpR
 rw [List.pairwise_iff_getElem]
 intro i j hi hj hij
 have hi' : i < d'.size := by simpa using hi
 have hj' : j < d'.size := by simpa using hj
 have h4 := hs i j (Nat.zero_le _) hij (by omega)
 rw [getElem!_pos d' i hi', getElem!_pos d' j hj', vbY] at h4
 rw [Array.getElem_toList, Array.getElem_toList]
 rcases vdh d'[i].p d'[j].p with h | h | h
 ·exact h
 ·exact absurd (by rw [List.getElem_map, List.getElem_map]; simpa using h) (List.pairwise_iff_getElem.1 hn i j (by simpa using hi) (by simpa using hj) hij)
 ·exact absurd h h4
theorem vho {w w' : World} (k : Kp w w') (h : w.drawn ≤ w'.drawn) : ∃ q os', w' = grow (w.drewN q) os' := by
 refine ⟨w'.drawn - w.drawn, w'.heap.extract w.heap.size w'.heap.size, ?_⟩
 have hs := k.size
 have hh : w'.heap = w.heap ++ w'.heap.extract w.heap.size w'.heap.size := by
  apply Array.ext_getElem?
  intro i
  by_cases hi : i < w.heap.size
  ·rw [Array.getElem?_append_left hi]
   exact k.heap hi
  ·rw [Array.getElem?_append_right (by omega), Array.getElem?_extract]
   by_cases hj : i < w'.heap.size
   ·rw [if_pos (by omega)]
    congr 1
    omega
   ·rw [if_neg (by omega), Array.getElem?_eq_none (by omega)]
 have ht := Below.tape k
 have ho := Below.os k
 have hu := Below.output k
 cases w with | mk h1 t1 d1 o1 u1 => cases w' with | mk h2 t2 d2 o2 u2 =>
 simp only at ht ho hu hh h hs ⊢
 subst ht ho hu
 unfold grow World.drewN
 simp only [World.mk.injEq, and_true, true_and]
 exact ⟨hh, by omega⟩
set_option maxRecDepth 100000 in
theorem vhp (a l b k : Int) (w : World) : Calls Tryz.prog 86 #[.agg #[.int .u32 a, .int .i64 l], .agg #[.int .u32 b, .int .i64 k]] w fun e w' => e = .returned (.int .i64 (ordI a l b k)) ∧ Kp w w' ∧ w.drawn ≤ w'.drawn := by
 obtain ⟨W, hW, kW, B0, B1⟩ : ∃ W, (w.alloc (.cells #[.int .u32 a, .int .i64 l] 29)).alloc (.cells #[.int .u32 b, .int .i64 k] 29) = W ∧ (Kp w W ∧ W.drawn = w.drawn) ∧ Blk W w.heap.size 29 #[.int .u32 a, .int .i64 l] ∧ Blk W (w.heap.size + 1) 29 #[.int .u32 b, .int .i64 k] := ⟨_, rfl, ⟨((Kp.refl _).alloc _).alloc _, rfl⟩, (Blk.new w _ _).alloc _, Blk.new1 w _ _ _⟩
 obtain ⟨x, hx⟩ : ∃ x, cmpI a b = x := ⟨_, rfl⟩
 obtain ⟨y, hy⟩ : ∃ y, cmpI l k = y := ⟨_, rfl⟩
 have Hx := Lib.hid hx
 have Hy := Lib.hid hy
 have Hr : Hid (ordI a l b k = if x = 0 then y else x) := by rw [← hx, ← hy]; exact Lib.hid rfl
 clear hx hy
 go_enter Tryz.func86, Tryz.ntmps86
 go_wp2_with fail
 refine vhH 10 (by kernel_rfl) (by kernel_rfl) (fun V hV => ?_)
 have KV : Kp W V := by rw [hV]; exact (Kp.refl _).drew
 have hdr : W.drawn ≤ V.drawn := by rw [hV]; exact Nat.le_succ _
 have HD := Lib.hid (show w.drawn ≤ V.drawn by rw [← kW.2]; exact hdr)
 clear hdr
 obtain ⟨p0, p1⟩ := Blk.v2 (B0.keep KV) (.int .u32 a) (.int .i64 l) rfl
 obtain ⟨q0, q1⟩ := Blk.v2 (B1.keep KV) (.int .u32 b) (.int .i64 k) rfl
 clear hV hW
 simp only [List.take_succ_cons, List.take_zero, List.drop_succ_cons, List.drop_zero]
 still_step
 still_step
 still_step
 still_step
 still_call (by refine (vfX a b _).mono ?_; rintro e w' ⟨rfl, rfl⟩; rw [Hx.out]; exact ⟨rfl, rfl⟩)
 still_step
 still_step
 still_step
 still_step
 still_call (by refine (vfY l k _).mono ?_; rintro e w' ⟨rfl, rfl⟩; rw [Hy.out]; exact ⟨rfl, rfl⟩)
 refine wpStill_nil ?_
 clear p0 p1 q0 q1
 go_wp2_with fail
 refine (vhX x y V.heap.size _ (Blk.new V _ _)).mono ?_
 rintro e w' ⟨rfl, rfl⟩
 rw [← Hr.out]
 go_wp2_with fail
 go_ret
 exact ⟨rfl, (kW.1.trans KV).alloc _, HD.out⟩
set_option maxRecDepth 100000 in
theorem vla (x y : Rt) (w : World) : Calls Tryz.prog 85 #[roV x, roV y] w fun e w' => e = .returned (.int .i64 (cfR x y)) ∧ Kp w w' ∧ w.drawn ≤ w'.drawn := by
 obtain ⟨W, hW, kW, B0, B1⟩ : ∃ W, (w.alloc (.cells (roC x) 87)).alloc (.cells (roC y) 87) = W ∧ (Kp w W ∧ W.drawn = w.drawn) ∧ Blk W w.heap.size 87 (roC x) ∧ Blk W (w.heap.size + 1) 87 (roC y) := ⟨_, rfl, ⟨((Kp.refl _).alloc _).alloc _, rfl⟩, (Blk.new w _ _).alloc _, Blk.new1 w _ _ _⟩
 obtain ⟨b, hb⟩ : ∃ b, w.heap.size = b := ⟨_, rfl⟩
 rw [hb] at B0 B1
 unfold roC at hW
 have x0 := Blk.f B0 rfl
 have y0 := Blk.f B1 rfl
 have HD := Lib.hid kW
 clear kW B0 B1
 go_enter Tryz.func85, Tryz.ntmps85
 go_wp2_with (first | (go_at_call 86; refine (vhp _ _ _ _ _).mono ?_; rintro e w2 ⟨rfl, k2, d2⟩))
 go_ret
 exact ⟨rfl, HD.out.1.trans k2, by rw [← HD.out.2]; exact d2⟩
end

section
open Go.RowKit Go.Maps Go.WideShapes Go.ChangeMaps
open Go.WideElems (rg)
def NxV (L : List Rt) (s : List Rt) (vs : Array Value) (s' : List Rt) : Prop := ∃ r ∈ L, r ∉ s ∧ vs = #[roV r] ∧ s' = s ++ [r]
def EnV (L : List Rt) (s : List Rt) : Prop := ∀ r ∈ L, r ∈ s
def RngV (w : World) (mp r : Nat) (L s : List Rt) (cnt : Nat) : Prop := ∃ es left, es.Perm (L.map entR) ∧ w.ranges Tryz.prog 29 rdAll mp r L.length (.map es) left cnt ∧ ∀ x ∈ L, left (pfKey x.p) = true ↔ x ∉ s
theorem RngV.lie {w w' : World} {mp r : Nat} {L s : List Rt} {cnt : Nat} (h : RngV w mp r L s cnt) (e1 : w'.heap[mp]? = w.heap[mp]?) (e2 : w'.heap[r]? = w.heap[r]?) : RngV w' mp r L s cnt := by
 obtain ⟨es, left, h1, ⟨es', clock, since, seen, c0, g1, g2, g3, g4, g5, g6⟩, h3⟩ := h
 exact ⟨es, left, h1, ⟨es', clock, since, seen, c0, e1.trans g1, g2, g3, g4, e2.trans g5, g6⟩, h3⟩
theorem RngV.start {w : World} {mp r : Nat} {L : List Rt} {es : List (Lit × DataW Value)} {cnt : Nat} (hes : es.Perm (L.map entR)) (hw : ∀ x ∈ L, wfP x.p) (h : w.ranges Tryz.prog 29 rdAll mp r L.length (.map es) (Maps.has (.map es)) cnt) : RngV w mp r L [] cnt := by
 refine ⟨es, _, hes, h, fun x hx => ⟨fun _ => by simp, fun _ => ?_⟩⟩
 exact List.any_eq_true.2 ⟨entR x, hes.mem_iff.2 (List.mem_map.2 ⟨x, hx, rfl⟩), by show (pfKey x.p).sameKey (pfKey x.p) = true; rw [vcE (hw x hx) (hw x hx), decide_eq_true rfl]⟩
theorem RngV.step {w w' : World} {mp r : Nat} {L s : List Rt} {es : List (Lit × DataW Value)} {left : Lit → Bool} {cnt cnt' : Nat} {kl : Lit} {c : Value} {y : DataW Value × List MemPlace} (u : UpR L) (hw : ∀ x ∈ L, wfP x.p)
  (hes : es.Perm (L.map entR)) (h : w.ranges Tryz.prog 29 rdAll mp r L.length (.map es) left cnt) (hl : ∀ x ∈ L, left (pfKey x.p) = true ↔ x ∉ s)
  (hk : left kl = true) (hv : rdAll c = some y) (hat : ∀ zd, DataW.atKey (.map es) kl zd = y.1) (h' : w'.ranges Tryz.prog 29 rdAll mp r L.length (.map es) (fun z => left z && !z.sameKey kl) cnt') :
  ∃ x ∈ L, x ∉ s ∧ c = roV x ∧ kl = pfKey x.p ∧ RngV w' mp r L (s ++ [x]) cnt' := by
 obtain ⟨x, hx, hxk⟩ : ∃ x ∈ L, pfKey x.p = kl := by
  obtain ⟨es', clock, since, seen, c0, g1, g2, g3, g4, g5, g6, g7, g8, g9, _⟩ := h
  obtain ⟨e, he, hek⟩ := g9 kl hk
  injection g4 with g4
  have hm : rg Tryz.prog 29 rdAll e ∈ es := by rw [g4]; exact mem_sorted.2 (List.mem_map.2 ⟨e, he, rfl⟩)
  obtain ⟨x, hx, hxe⟩ := List.mem_map.1 (hes.mem_iff.1 hm)
  exact ⟨x, hx, by rw [← hek, ← hxe]; rfl⟩
 subst hxk
 have hns := (hl x hx).1 hk
 refine ⟨x, hx, hns, ?_, rfl, es, _, hes, h', fun z hz => ?_⟩
 ·have h1 := (vel hes u hw (hw x hx)).1 (.held c)
  rw [hat, vay u hx] at h1
  unfold rdAll at hv
  injection hv with hv
  rw [← hv] at h1
  simp only at h1
  injection h1
 ·show (left (pfKey z.p) && !(pfKey z.p).sameKey (pfKey x.p)) = true ↔ _
  rw [Bool.and_eq_true, hl z hz, vcE (hw z hz) (hw x hx), Bool.not_eq_true', decide_eq_false_iff_not, List.mem_append, List.mem_singleton, not_or]
  refine and_congr Iff.rfl ?_
  exact ⟨fun h e => h (by rw [e]), fun h e => h (u.inj hz hx e)⟩
theorem RngV.done {w : World} {mp r : Nat} {L s : List Rt} {left : Lit → Bool} (hl : ∀ x ∈ L, left (pfKey x.p) = true ↔ x ∉ s) (h0 : ∀ kl, left kl = false) : EnV L s := fun x hx => by
 have h := mt (hl x hx).2 (by rw [h0]; simp)
 exact Classical.not_not.1 h
def valsV (bx : Nat) : Value := .func (.func 119) #[] #[.pointer (some ⟨bx, 0, none⟩)]
theorem vcp (fn : Fn) (first cap : Array Value) (w : World) : (Instr.makeFunc fn first cap).run Tryz.prog w = .ok (.func fn first cap) w := rfl
theorem vlb (mp : Nat) (w : World) :
  Calls Tryz.prog 83 #[.map (some mp)] w fun e w' => e = .returned (valsV w.heap.size) ∧ Blk w' w.heap.size 105 #[.map (some mp)] ∧ Kp w w' := by
 have hmf := vcp
 unfold valsV
 go_enter Tryz.func83, Tryz.ntmps83
 go_wp2_with fail
 go_ret
 exact ⟨rfl, Blk.new w _ _, (Kp.refl _).alloc _⟩
theorem vhq (args : Array Value) (w : World) : (callFunc 119 args).run Tryz.prog w = .ok (.enter 119 args) w := by kernel_rfl
set_option maxRecDepth 100000 in
theorem vhr (L : List Rt) (mp mb : Nat) (o : Obj) (u : UpR L) (hw : ∀ r ∈ L, wfP r.p) (hm : ∀ V : World, V.heap[mp]? = some o → MapR V mp L) :
  IterH Tryz.prog 119 #[.pointer (some ⟨mb, 0, none⟩)] [] (NxV L) (EnV L) (fun V => Blk V mb 105 #[.map (some mp)] ∧ V.heap[mp]? = some o) := by
 intro l W I hI hM hM0 h0 hy
 have c0 : W.cell? ⟨mb, 0, none⟩ = some (.map (some mp)) := hM0.1.cell 0
 obtain ⟨es, hown, hes⟩ := hm W hM0.2
 have HI := Lib.hid hI
 have HM := Lib.hid hM
 have H0 := Lib.hid h0
 have HY := Lib.hid hy
 have HU := Lib.hid u
 have HW := Lib.hid hw
 have HE := Lib.hid hes
 have mlt : mp < W.heap.size := (Array.getElem?_eq_some_iff.1 hM0.2).1
 have HML := Lib.hid mlt
 clear hI hM h0 hy hM0 u hw hes hm mlt
 go_enter Tryz.func119, Tryz.ntmps119
 go_wp2_with (at_range; refine wpList_range_own _ rfl _ 105 rfl 29 87 keyedPf Tryz.underlying105 rdAll mp L.length _ rfl hown ?_; intro w0 hrg0 hg0 hs0)
 have Hr0 := Lib.hid (RngV.start HE.out HW.out hrg0)
 have hk0 : Kp W w0 := (Kp.refl W).grown hg0 (by simp)
 have Hk0 := Lib.hid (H0.out (W.heap.size + 1) w0 hk0 (by omega) (by omega))
 have Hs0 := Lib.hid hs0
 clear hrg0 hg0 hk0 hs0 hown c0
 go_loopw [7] (fun _ wr => ∃ s cnt, RngV wr mp W.heap.size L s cnt ∧ W.heap.size < wr.heap.size ∧ I (W.heap.size + 1) s wr) (fun _ wr => wr.rangeLeft mp W.heap.size)
 case atStart => exact ⟨[], _, Hr0.out, by rw [Hs0.out]; omega, Hk0.out⟩
 case round =>
  obtain ⟨s, cnt, ⟨es', left, hes', hr, hl⟩, hsz, hi⟩ := hrel
  have HI1 := Lib.hid hi
  have HL := Lib.hid hl
  have HE1 := Lib.hid hes'
  clear hi hl hes'
  go_wp2_with (at_next; refine wpList_next_ranges _ rfl _ rfl 29 keyedPf rdAll id id (fun key _ _ => ⟨key, rfl⟩) (fun v _ _ => ⟨v, rfl⟩) mp W.heap.size L.length _ _ _ rfl hr ?_ ?_)
  ·intro _ hl0
   have HD := Lib.hid (RngV.done (w := wr) (mp := mp) (r := W.heap.size) HL.out hl0)
   clear hl0 hr
   go_wp2_with fail
   go_end0
   exact ⟨rfl, W.heap.size + 1, s, by omega, HD.out, HI1.out⟩
  ·intro x c kl yd yp w1 cnt1 hkey hlx hv hat hrg1 hlt hg1 hs1 hen
   obtain ⟨r, hrL, hrs, hc, _, hR1⟩ := RngV.step HU.out HW.out HE1.out hr HL.out hlx hv hat hrg1
   have hc' : c = roV r := hc
   subst hc'
   have hle := hr.left_eq
   have HLT := Lib.hid (show cnt1 < wr.rangeLeft mp W.heap.size by rw [hle]; exact hlt)
   have hT1 : Turn W.heap.size (W.heap.size + 1) wr w1 := ⟨hg1.os, hg1.tape, hg1.output, by omega, fun j hj hn => hg1.block j hj (by intro e; injection e with e; omega)⟩
   obtain ⟨V, hV, hKV⟩ : ∃ V, w1.alloc (.cells (roC r) 87) = V ∧ Kp w1 V := ⟨_, rfl, (Kp.refl _).alloc _⟩
   have HI2 := Lib.hid (HI.out _ _ _ _ (by omega) HI1.out (hT1.trans (Turn.of_kp hKV)))
   have HR2 := Lib.hid (hR1.lie (hKV.heap (k := mp) (by have := HML.out; omega)) (hKV.heap (k := W.heap.size) (by omega)))
   have HVS := Lib.hid hKV.size
   have b0 : Blk V w1.heap.size 87 (roC r) := by rw [← hV]; exact Blk.new _ _ _
   have HB := Lib.hid b0
   have HRL := Lib.hid hrL
   have HRS := Lib.hid hrs
   have HS1 := Lib.hid hs1
   unfold roC at hV
   clear hkey hlx hv hat hrg1 hlt hg1 hc hR1 hle hT1 hKV hr hrL hrs b0 hs1
   go_upto_region 3 with (fail)
   have hV1 := HVS.out
   have hV2 := HS1.out
   obtain ⟨fn, tmps, asg, bd, hrun, hround⟩ := HY.out (W.heap.size + 1) s V #[roV r] (s ++ [r]) ⟨r, HRL.out, HRS.out, rfl, rfl⟩ (by omega) (by omega) HI2.out
   have HM2 := Lib.hid (HM.out _ _ _ (by omega) HI2.out)
   have HRN := Lib.hid hrun
   have HRO := Lib.hid hround
   have HC := Lib.hid (vab HB.out)
   obtain ⟨r0, r1, r2, r3, r4, r5, r6, r7, r8⟩ := HC.out
   have HZ := Lib.hid (show W.heap.size + 1 ≤ V.heap.size by omega)
   clear hrun hround hV1 hV2
   refine (wpIn_wide (n := 0)).1 ?_
   gi_wp2_with fail
   rw [HRN.out, Oper.uponIn_round]
   refine ⟨(fun h => by cases h), HRO.out.mono ?_⟩
   rintro e W' ⟨hRg, rfl, hi2⟩
   have HI3 := Lib.hid hi2
   have HM3 := Lib.hid (HM.out _ _ _ (by omega) hi2)
   have HR3 := Lib.hid (HR2.out.lie (HM3.out.2.trans HM2.out.2.symm) (hRg.block W.heap.size (Nat.le_refl _) (by omega)))
   have HS3 := Lib.hid hRg.size
   clear hi2 hRg r0 r1 r2 r3 r4 r5 r6 r7 r8
   gi_wp2_with fail
   go_wp2_with fail
   go_roundw
   case rel => exact ⟨s ++ [r], cnt1, HR3.out, by have := HS3.out; have := HZ.out; omega, HI3.out⟩
   case measure =>
    obtain ⟨_, _, _, h, _⟩ := HR3.out
    rw [h.left_eq]
    exact HLT.out
end

end Go.Proofs.YtffckpkikdlbpaaGreatDoor
