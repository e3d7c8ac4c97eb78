/- Lemmas and contracts for the theorem of this claim: PkC, RngD, Range3. -/
import Derived.Test.YtgopnfacklmkaaaGreatDoorZyAg
import Derived.LoopN
import Derived.RangeFuncCalls
set_option linter.all false
set_option maxHeartbeats 16000000
namespace Go.Proofs.YtgopnfacklmkaaaGreatDoor
section
open Go.RowKit
abbrev rdrV (A : Option Addr) (n c : Nat) : Value := .agg #[.slice A n c]
def dmB (l : List Nat) : Nat → Bool
 | 0 => decide ((4 : Int) ≤ (l.length : Int))
 | 1 => decide ((l.length - 4) % 20 = 0 ∧ l.length - 4 ≤ 500)
 | 2 => (atN l 1 1 : Int) == 2
 | 3 => okC (atN l 0 1)
 | _ => (atN l 2 2 : Int) == 0
theorem vkf {l : List Nat} {k : Nat} (hk : k < 5) (h : ∀ j, j < k → dmB l j = true) (h1 : dmB l k = false) : chkD l = ((150 + k : Nat) : Int) := by
 have c : k = 0 ∨ k = 1 ∨ k = 2 ∨ k = 3 ∨ k = 4 := by omega
 have e0 : 0 < k → ¬ l.length < 4 := fun z => by have := h 0 z; simp only [dmB, decide_eq_true_eq] at this; omega
 have e1 : 1 < k → ¬ ((l.length - 4) % 20 ≠ 0 ∨ 500 < l.length - 4) := fun z => by have := h 1 z; simp only [dmB, decide_eq_true_eq] at this; omega
 have e2 : 2 < k → ¬ atN l 1 1 ≠ 2 := fun z => by have := h 2 z; simp only [dmB, beq_iff_eq] at this; omega
 have e3 : 3 < k → ¬ (atN l 0 1 ≠ 1 ∧ atN l 0 1 ≠ 2) := fun z => by have := h 3 z; simp only [dmB, okC, Bool.or_eq_true, beq_iff_eq] at this; omega
 unfold chkD
 rcases c with rfl | rfl | rfl | rfl | rfl
 ·simp only [dmB, decide_eq_false_iff_not] at h1
  rw [if_pos (by omega)]
  rfl
 ·simp only [dmB, decide_eq_false_iff_not] at h1
  rw [if_neg (e0 (by omega)), if_pos (by omega)]
  rfl
 ·simp only [dmB, beq_eq_false_iff_ne] at h1
  rw [if_neg (e0 (by omega)), if_neg (e1 (by omega)), if_pos (by omega)]
  rfl
 ·simp only [dmB, okC, Bool.or_eq_false_iff, beq_eq_false_iff_ne] at h1
  rw [if_neg (e0 (by omega)), if_neg (e1 (by omega)), if_neg (e2 (by omega)), if_pos (by omega)]
  rfl
 ·simp only [dmB, beq_eq_false_iff_ne] at h1
  rw [if_neg (e0 (by omega)), if_neg (e1 (by omega)), if_neg (e2 (by omega)), if_neg (e3 (by omega)), if_pos (by omega)]
  rfl
theorem vkg {l : List Nat} (h : ∀ j, j < 5 → dmB l j = true) : chkD l = 0 := by
 have h0 := h 0 (by decide)
 have h1 := h 1 (by decide)
 have h2 := h 2 (by decide)
 have h3 := h 3 (by decide)
 have h4 := h 4 (by decide)
 simp only [dmB, decide_eq_true_eq, beq_iff_eq, okC, Bool.or_eq_true] at h0 h1 h2 h3 h4
 unfold chkD
 rw [if_neg (by omega), if_neg (by omega), if_neg (by omega), if_neg (by omega), if_neg (by omega)]
structure ByS (w : World) (A : Option Addr) (c : Nat) (l : List Nat) : Prop where
 rd : Rd w 1 byN A l
 lt : ∀ x ∈ l, x < 256
 cap : l.length ≤ c
 n : l.length ≤ 1000000
 wd : WidAt w
theorem ByS.keep {w w' : World} {A : Option Addr} {c : Nat} {l : List Nat} (h : ByS w A c l) (k : Kp w w') : ByS w' A c l := ⟨h.rd.keep k, h.lt, h.cap, h.n, h.wd.keep k⟩
theorem ByS.some {w : World} {A : Option Addr} {c : Nat} {l : List Nat} (h : ByS w A c l) (h4 : 4 ≤ l.length) : ∃ g off, A = some ⟨g, off, none⟩ := by
 obtain ⟨g, off, e, _⟩ := h.rd 0 (by omega)
 exact ⟨g, off, e⟩
set_option maxRecDepth 100000 in
theorem vkh (A : Option Addr) (c : Nat) (l : List Nat) (w : World) (hB : ByS w A c l) : Calls Tryz.prog 186 #[rdrV A l.length c] w fun e w' => e = .returned (.bool (dmB l 0)) ∧ Kp w w' := by
 go_enter Tryz.func186, Tryz.ntmps186
 go_wp2_with fail
 go_ret
 exact ⟨rfl, (Kp.refl _).alloc _⟩
set_option maxRecDepth 100000 in
theorem vki (A : Option Addr) (c : Nat) (l : List Nat) (w : World) (hB : ByS w A c l) (h4 : 4 ≤ l.length) : Calls Tryz.prog 187 #[rdrV A l.length c] w fun e w' => e = .returned (.bool (dmB l 1)) ∧ Kp w w' := by
 obtain ⟨g, off, rfl⟩ := hB.some h4
 have HB := Lib.hid (hB.keep ((Kp.refl w).alloc (.cells #[.slice (some ⟨g, off, none⟩) l.length c] 148)))
 have hcap := hB.cap
 have hn := hB.n
 clear hB
 obtain ⟨n, hn2⟩ : ∃ n, l.length = n := ⟨_, rfl⟩
 have HQ : Hid (dmB l 1 = decide ((n - 4) % 20 = 0 ∧ n - 4 ≤ 500)) := Lib.hid (by rw [← hn2]; rfl)
 rw [hn2] at h4 hcap hn HB ⊢
 clear hn2
 by_cases h1 : (n - 4) % 20 = 0
 ·have e1 : (((n - 4 : Nat) : Int).tmod 20 == 0) = true := by rw [beq_iff_eq, Int.tmod_eq_emod_of_nonneg (by omega)]; omega
  by_cases h2 : n - 4 ≤ 500
  ·have e2 : decide (((n - 4 : Nat) : Int) ≤ 500) = true := decide_eq_true (by omega)
   have H : Hid (dmB l 1 = true) := Lib.hid (by rw [HQ.out]; exact decide_eq_true ⟨h1, h2⟩)
   go_enter Tryz.func187, Tryz.ntmps187
   go_wp2_with fail
   refine (vcg g off n c _ h4 hcap hn).mono ?_
   rintro e w' ⟨⟨off', -, rfl⟩, rfl⟩
   go_wp2_with fail
   go_ret
   exact ⟨by rw [H.out]; rfl, (Kp.refl _).alloc _⟩
  ·have e2 : decide (((n - 4 : Nat) : Int) ≤ 500) = false := decide_eq_false (by omega)
   have H : Hid (dmB l 1 = false) := Lib.hid (by rw [HQ.out]; exact decide_eq_false (fun z => h2 z.2))
   go_enter Tryz.func187, Tryz.ntmps187
   go_wp2_with fail
   refine (vcg g off n c _ h4 hcap hn).mono ?_
   rintro e w' ⟨⟨off', -, rfl⟩, rfl⟩
   go_wp2_with fail
   go_ret
   exact ⟨by rw [H.out]; rfl, (Kp.refl _).alloc _⟩
 ·have e1 : (((n - 4 : Nat) : Int).tmod 20 == 0) = false := by rw [beq_eq_false_iff_ne, Int.tmod_eq_emod_of_nonneg (by omega)]; omega
  have H : Hid (dmB l 1 = false) := Lib.hid (by rw [HQ.out]; exact decide_eq_false (fun z => h1 z.1))
  go_enter Tryz.func187, Tryz.ntmps187
  go_wp2_with fail
  refine (vcg g off n c _ h4 hcap hn).mono ?_
  rintro e w' ⟨⟨off', -, rfl⟩, rfl⟩
  go_wp2_with fail
  go_ret
  exact ⟨by rw [H.out]; rfl, (Kp.refl _).alloc _⟩
theorem numberI (a v : Int) (g off c at_ j : Nat) (wd : Nat) (ha : a = (at_ : Int)) (hv : v = (wd : Int)) (l : List Nat) (w : World) (hB : ByS w (some ⟨g, off, none⟩) c l) (hj : wid wd j) (h : at_ + wd ≤ l.length) : Calls Tryz.prog 66 #[.slice (some ⟨g, off, none⟩) l.length c, .int .i64 a, .int .i64 v] w fun e w' => e = .returned (.int .i64 (atN l at_ wd : Int)) ∧ w = w' := by
 subst ha hv
 exact vfu g off c at_ j wd l w hB.wd hj hB.rd hB.lt h hB.cap hB.n
set_option maxRecDepth 100000 in
theorem vkj (A : Option Addr) (c : Nat) (l : List Nat) (w : World) (hB : ByS w A c l) (h4 : 4 ≤ l.length) : Calls Tryz.prog 188 #[rdrV A l.length c] w fun e w' => e = .returned (.bool (dmB l 2)) ∧ Kp w w' := by
 obtain ⟨g, off, rfl⟩ := hB.some h4
 have HB := Lib.hid (hB.keep ((Kp.refl w).alloc (.cells #[.slice (some ⟨g, off, none⟩) l.length c] 148)))
 have hcap := hB.cap
 have hn := hB.n
 clear hB
 go_enter Tryz.func188, Tryz.ntmps188
 go_wp2_with fail
 refine (numberI 1 1 g off c 1 0 1 rfl rfl l _ HB.out (.inl ⟨rfl, rfl⟩) (by omega)).mono ?_
 rintro e w' ⟨rfl, rfl⟩
 go_wp2_with fail
 go_ret
 exact ⟨rfl, (Kp.refl _).alloc _⟩
set_option maxRecDepth 100000 in
theorem vkk (A : Option Addr) (c : Nat) (l : List Nat) (w : World) (hB : ByS w A c l) (h4 : 4 ≤ l.length) : Calls Tryz.prog 189 #[rdrV A l.length c] w fun e w' => e = .returned (.bool (dmB l 3)) ∧ Kp w w' := by
 obtain ⟨g, off, rfl⟩ := hB.some h4
 have HB := Lib.hid (hB.keep ((Kp.refl w).alloc (.cells #[.slice (some ⟨g, off, none⟩) l.length c] 148)))
 have hcap := hB.cap
 have hn := hB.n
 clear hB
 go_enter Tryz.func189, Tryz.ntmps189
 go_wp2_with fail
 refine (numberI 0 1 g off c 0 0 1 rfl rfl l _ HB.out (.inl ⟨rfl, rfl⟩) (by omega)).mono ?_
 rintro e w' ⟨rfl, rfl⟩
 go_wp2_with fail
 refine (vaJ _ _).mono ?_
 rintro e w' ⟨rfl, rfl⟩
 go_wp2_with fail
 go_ret
 exact ⟨rfl, (Kp.refl _).alloc _⟩
set_option maxRecDepth 100000 in
theorem vkl (A : Option Addr) (c : Nat) (l : List Nat) (w : World) (hB : ByS w A c l) (h4 : 4 ≤ l.length) : Calls Tryz.prog 190 #[rdrV A l.length c] w fun e w' => e = .returned (.bool (dmB l 4)) ∧ Kp w w' := by
 obtain ⟨g, off, rfl⟩ := hB.some h4
 have HB := Lib.hid (hB.keep ((Kp.refl w).alloc (.cells #[.slice (some ⟨g, off, none⟩) l.length c] 148)))
 have hcap := hB.cap
 have hn := hB.n
 clear hB
 go_enter Tryz.func190, Tryz.ntmps190
 go_wp2_with fail
 refine (numberI 2 2 g off c 2 1 2 rfl rfl l _ HB.out (.inr (.inl ⟨rfl, rfl⟩)) (by omega)).mono ?_
 rintro e w' ⟨rfl, rfl⟩
 go_wp2_with fail
 go_ret
 exact ⟨rfl, (Kp.refl _).alloc _⟩
def dmF : Nat → FuncId
 | 0 => 186
 | 1 => 187
 | 2 => 188
 | 3 => 189
 | _ => 190
theorem vlr (A : Option Addr) (c : Nat) (l : List Nat) : ∀ k, k < 5 → (0 < k → 4 ≤ l.length) → ∀ w, ByS w A c l → Calls Tryz.prog (dmF k) #[rdrV A l.length c] w fun e w' => e = .returned (.bool (dmB l k)) ∧ Kp w w'
 | 0, _, _ => fun w h => vkh A c l w h
 | 1, _, h4 => fun w h => vki A c l w h (h4 (by decide))
 | 2, _, h4 => fun w h => vkj A c l w h (h4 (by decide))
 | 3, _, h4 => fun w h => vkk A c l w h (h4 (by decide))
 | 4, _, h4 => fun w h => vkl A c l w h (h4 (by decide))
 | k + 5, h, _ => by omega
def dmC : Array Value := #[.int .i64 150, .func (.func 186) #[] #[], .int .i64 151, .func (.func 187) #[] #[], .int .i64 152, .func (.func 188) #[] #[], .int .i64 153, .func (.func 189) #[] #[], .int .i64 154, .func (.func 190) #[] #[]]
theorem vjq : ∀ k, k < 5 → dmC[k * 2]? = some (.int .i64 ((150 + k : Nat) : Int)) ∧ dmC[k * 2 + 1]? = some (.func (.func (dmF k)) #[] #[])
 | 0, _ => ⟨rfl, rfl⟩
 | 1, _ => ⟨rfl, rfl⟩
 | 2, _ => ⟨rfl, rfl⟩
 | 3, _ => ⟨rfl, rfl⟩
 | 4, _ => ⟨rfl, rfl⟩
 | k + 5, h => by omega
theorem vib : ∀ k, k < 5 → ∀ (args : Array Value) (w : World), (callFunc (dmF k) args).run Tryz.prog w = .ok (.enter (dmF k) args) w
 | 0, _ => fun _ _ => by kernel_rfl
 | 1, _ => fun _ _ => by kernel_rfl
 | 2, _ => fun _ _ => by kernel_rfl
 | 3, _ => fun _ _ => by kernel_rfl
 | 4, _ => fun _ _ => by kernel_rfl
 | k + 5, h => by omega
theorem vew (w : World) : Calls Tryz.prog 131 #[] w fun e w' => e = .returned (.slice (some ⟨w.heap.size, 0, none⟩) 5 5) ∧ Blk w' w.heap.size 237 dmC ∧ Kp w w' := by
 go_enter Tryz.func131, Tryz.ntmps131
 go_wp2_with fail
 go_ret
 exact ⟨rfl, Blk.new w _ _, (Kp.refl _).alloc _⟩
abbrev refV (e : Int) : Value := .iface 144 (.int .i64 e)
abbrev refE (e : Int) : Ending := .panicked [{ v := refV e, recovered := false }]
def MustP (l : List Nat) (w : World) (e : Ending) (w' : World) : Prop := (chkD l = 0 → e = .returned (.tuple #[])) ∧ (chkD l ≠ 0 → e = refE (chkD l)) ∧ Kp w w'
set_option maxRecDepth 100000 in
theorem vgB (A : Option Addr) (c : Nat) (l : List Nat) (w : World) (hB : ByS w A c l) : Calls Tryz.prog 65 #[rdrV A l.length c] w (MustP l w) := by
 obtain ⟨W, hW, kW, B0⟩ := Blk.al1 (w := w) rfl #[.slice A l.length c] 148
 have HB := Lib.hid (hB.keep kW)
 clear hB
 go_enter Tryz.func65, Tryz.ntmps65
 go_wp2_with fail
 clear hW
 refine (vew _).mono ?_
 obtain ⟨g, hg⟩ : ∃ g, W.heap.size = g := ⟨_, rfl⟩
 rw [hg]
 rintro r w1 ⟨rfl, hR, hK1⟩
 have hB := B0.keep hK1
 have HB1 := Lib.hid (HB.out.keep hK1)
 have hk1 : Kp w w1 := kW.trans hK1
 clear hK1 B0 kW hg
 go_wp2_with fail
 go_loopw [6] (fun i wr => ∃ k : Nat, k ≤ 5 ∧ i = .int .i64 k ∧ Hid (∀ j, j < k → dmB l j = true) ∧ Kp w1 wr) (fun i _ => 5 - (intOf i).toNat)
 case atStart => exact ⟨0, by omega, rfl, fun j h => absurd h (by omega), Kp.refl _⟩
 case round =>
  obtain ⟨k, hk, rfl, hall, hK⟩ := hrel
  have R := hR.keep hK
  have u := Blk.f (hB.keep hK) rfl
  have kw := hk1.trans hK
  have hlt := (hB.keep hK).lt
  by_cases hk5 : k < 5
  ·have hki : (k : Int) < 5 := by omega
   have hk0 : (0 : Int) ≤ (k : Int) := by omega
   have c0 : wr.cell? ⟨g, k * 2, none⟩ = some (.int .i64 ((150 + k : Nat) : Int)) := by rw [R.cell]; exact (vjq k hk5).1
   have c1 : wr.cell? ⟨g, k * 2 + 1, none⟩ = some (.func (.func (dmF k)) #[] #[]) := by rw [R.cell]; exact (vjq k hk5).2
   have hc := vib k hk5
   obtain ⟨fk, hfk⟩ : ∃ fk, dmF k = fk := ⟨_, rfl⟩
   have HC := Lib.hid (vlr A c l k hk5 (fun z => by have := hall.out 0 z; simp only [dmB, decide_eq_true_eq] at this; omega))
   rw [hfk] at c1 hc HC
   obtain ⟨n, hn⟩ : ∃ n : Int, ((150 + k : Nat) : Int) = n := ⟨_, rfl⟩
   rw [hn] at c0
   have HN := Lib.hid hn
   have D := Blk.new wr 237 #[.int .i64 n, .func (.func fk) #[] #[]]
   have HBr := Lib.hid (HB1.out.keep (hK.alloc (.cells #[.int .i64 n, .func (.func fk) #[] #[]] 237)))
   clear hfk hn
   go_wp2_with fail
   refine (HC.out _ HBr.out).mono ?_
   rintro r w2 ⟨rfl, hK2⟩
   have D2 := D.keep hK2
   have k2 : Kp w1 w2 := (hK.alloc _).trans hK2
   have d0 : w2.cell? ⟨wr.heap.size, 0, none⟩ = some (.int .i64 n) := D2.cell 0
   cases hb : dmB l k with
   | false =>
    have H : Hid (chkD l = n) := Lib.hid ((vkf hk5 hall.out hb).trans HN.out)
    have H0 : Hid (chkD l ≠ 0) := Lib.hid (by have h1 := H.out; have h2 := HN.out; omega)
    clear hb
    go_wp2_with fail
    exact ⟨rfl, fun z => absurd z H0.out, fun _ => by rw [H.out], hk1.trans k2⟩
   | true =>
    have H : Hid (∀ j, j < k + 1 → dmB l j = true) := Lib.hid (fun j hj => by
     by_cases hjk : j < k
     ·exact hall.out j hjk
     ·obtain rfl : j = k := by omega
      exact hb)
    clear hb
    go_wp2_with fail
    go_roundw
    case rel => exact ⟨k + 1, by omega, by go_num, H, k2⟩
    case measure => simp [intOf] <;> omega
  ·obtain rfl : k = 5 := by omega
   have H := Lib.hid (vkg hall.out)
   clear hall
   go_wp2_with fail
   go_end0
   exact ⟨fun _ => rfl, fun z => absurd H.out z, kw⟩
theorem vaT {P : Program} {K : World → Prop} : ∀ (ms ds : List Deferred) (fr : Frame) (cs : List Frame) (w : World), fr.mode = .returning → fr.defers = ms ++ ds → Takes ms w K →
  ∃ w', K w' ∧ Steps P (lone fr cs w) (lone { fr with defers := ds } cs w')
 | [], ds, fr, cs, w, _, hd, h => ⟨w, h, by
   have : ({ fr with defers := ds } : Frame) = fr := by cases fr; simp_all
   rw [this]; exact Steps.refl P _⟩
 | d :: ms, ds, fr, cs, w, hm, hd, ⟨r, ht, hr, h⟩ => by
  obtain ⟨w', hK, hs⟩ := vaT ms ds { fr with defers := [] ++ (ms ++ ds) } cs _ hm rfl h
  exact ⟨w', hK, Steps.head (step_collected (by rw [hm]; simp) hd ht (run_takeDeferred hr)) hs⟩
def bodyPostMD (P : Program) (fn : Func) (R : Ending → World → Prop) : Exit → Act → World → Prop
 | .normal, a, w | .ret, a, w => ∃ ms ds, a.defers = ms ++ ds ∧ Takes ms w (fun w' => Leaves P fn a.tmps R ds .returning w')
 | .panic chain, a, w => Leaves P fn a.tmps R a.defers (.panicking chain) w
 | .outgrown, _, w => R .outgrown w
 | _, _, _ => False
theorem vbw {P : Program} {f : FuncId} {fn : Func} {c : Code} {args : Array Value} {w : World} {R : Ending → World → Prop}
  (hf : P.funcs[f]? = some fn) (hb : fn.body = some c)
  (h : c.wp P (bodyPostMD P fn R) { tmps := args ++ Array.replicate (fn.ntmps - args.size) undef, defers := [] } w) : Calls P f args w R := by
 intro cs
 let b : Frame := { (default : Frame) with fn := f, kind := .normal }
 have henter : Frame.enter P f args .normal = b.at { tmps := args ++ Array.replicate (fn.ntmps - args.size) undef, defers := [] } [.code c] := by
  simp [Frame.enter, Frame.at, hf, hb, b]
 obtain ⟨e, a', w', hq, harr⟩ := h b [] cs
 rw [← henter] at harr
 cases e with
 | normal =>
  obtain ⟨ms, ds, hd, hT⟩ := hq
  obtain ⟨w1, hL, hs1⟩ := vaT (P := P) ms ds { b.at a' [] with mode := .returning } cs w' rfl hd hT
  obtain ⟨e', w'', fr', hR, hs, hfn, hl⟩ := leaves_steps ds .returning w1 { { b.at a' [] with mode := .returning } with defers := ds } cs rfl rfl rfl hf rfl hL
  exact ⟨e', w'', fr', hR, Comes.of_steps (Steps.trans (Steps.trans harr (.one step_end)) hs1) hs, hfn, hl⟩
 | ret =>
  obtain ⟨todo, hs₀⟩ := harr
  obtain ⟨ms, ds, hd, hT⟩ := hq
  obtain ⟨w1, hL, hs1⟩ := vaT (P := P) ms ds { b.at a' todo with mode := .returning } cs w' rfl hd hT
  obtain ⟨e', w'', fr', hR, hs, hfn, hl⟩ := leaves_steps ds .returning w1 { { b.at a' todo with mode := .returning } with defers := ds } cs rfl rfl rfl hf rfl hL
  exact ⟨e', w'', fr', hR, Comes.of_steps (Steps.trans hs₀ hs1) hs, hfn, hl⟩
 | panic chain =>
  obtain ⟨todo, hs₀⟩ := harr
  obtain ⟨e', w'', fr', hR, hs, hfn, hl⟩ := leaves_steps a'.defers (.panicking chain) w' { b.at a' todo with mode := .panicking chain } cs rfl rfl rfl hf rfl hq
  exact ⟨e', w'', fr', hR, Comes.of_steps hs₀ hs, hfn, hl⟩
 | exit id => exact hq.elim
 | goto l => exact hq.elim
 | outgrown => exact ⟨.outgrown, w', b, hq, harr.resolve_left (by simp [b]), rfl, trivial⟩
theorem vcU {P : Program} {g : Operand} {ps : Array Tmp} {assign body : Code} {Q : Exit → Act → World → Prop} {a : Act} {w : World} {gf : FuncId} {caps : Array Value} {N : Nat} {xs : Nat → Array Value} {M : World → Prop}
  (hg : a.eval g = .func (.func gf) #[] caps) (eg : ∀ args w, (callFunc gf args).run P w = .ok (.enter gf args) w) (hit : Iter P gf caps N xs M) (hps : ∀ k, k < N → (xs k).size = ps.size)
  (I : Nat → World → Prop) (Ix : Code → Nat → World → Prop)
  (hI : ∀ k W W', I k W → Only [w.heap.size, w.heap.size + 1] W W' → I k W') (hIx : ∀ c k W W', Ix c k W → Only [w.heap.size, w.heap.size + 1] W W' → Ix c k W')
  (hM : ∀ k W, I k W → M W) (h0 : I 0 w)
  (hround : ∀ l k W, k < N → I k W → w.heap.size + 1 < W.heap.size → assign.wpIn (Fence.wide.inRound l) 0 P (Exit.then (fun a' W' => Kept2 w W W' ∧ ∃ J : World → Prop, J W' ∧ (∀ V V', J V → Only [w.heap.size, w.heap.size + 1] V V' → J V') ∧ ∀ W2, J W2 → w.heap.size + 1 < W2.heap.size → body.wpIn (Fence.wide.inRound l) 0 P (rndPost w I Ix (k + 1) W2) a' W2) (fun _ _ _ => False))
   { tmps := (ps.zip (xs k)).foldl (fun t (p, v) => t.setIfInBounds p v) a.tmps, defers := [] } W)
  (hdone : ∀ W, I N W → W.heap[w.heap.size]? = some (.deferred (some [])) → Q .normal { a with defers := { target := .collected w.heap.size, args := #[] } :: a.defers } W)
  (hstop : ∀ c k W, 0 < k → k ≤ N → Ix c k W → W.heap[w.heap.size]? = some (.deferred (some [])) → c.wp P Q { a with defers := { target := .collected w.heap.size, args := #[] } :: a.defers } W) :
  (Code.rangeFunc g ps assign body).wp P Q a w := by
 refine (wpIn_wide (n := 0)).1 (wpIn_rangeFunc ?_)
 intro fn hfn
 obtain ⟨rec, hrec⟩ : ∃ rec : LoopState → Option Code → Loop, rec = fun st pe => { state := st, pending := pe, fn, tmps := a.tmps, params := ps, assign, body, defers := w.heap.size } := ⟨_, rfl⟩
 obtain ⟨W1, hW1⟩ : ∃ W1, (w.alloc (.deferred (some []))).alloc (.loop (rec .ready none)) = W1 := ⟨_, rfl⟩
 have hL1 : W1.heap[w.heap.size + 1]? = some (.loop (rec .ready none)) := by
  rw [← hW1]; have := World.alloc_heap_new (w.alloc (.deferred (some []))) (.loop (rec .ready none)); rwa [World.size_alloc] at this
 have hK1 : W1.heap[w.heap.size]? = some (.deferred (some [])) := by
  rw [← hW1]; exact (Below.heap_alloc _ _ _ (by simp)).trans (World.alloc_heap_new w _)
 have hI1 : I 0 W1 := by rw [← hW1]; exact hI 0 _ _ h0 (((Only.refl _ _).alloc _).alloc _)
 refine ⟨w.heap.size + 1, [{ target := .collected w.heap.size, args := #[] }], W1, { target := .fn (.func gf) caps, args := #[.func (.yield (w.heap.size + 1)) #[] #[]] }, W1, gf,
  #[.func (.yield (w.heap.size + 1)) #[] #[]] ++ caps, W1, ?_, ?_, fun _ _ => trivial, ?_, (fun h => by cases h), callsIn_wide.2 ?_⟩
 ·rw [← hW1, hrec]; exact run_enterLoop_outer _ _ _ _ _
 ·simp only [resolve, hg]
  simp [go_sem]
 ·simp [invoke, go_sem, eg]
 ·refine (hit (w.heap.size + 1)
   (fun k W => I k W ∧ W.heap[w.heap.size + 1]? = some (.loop (rec .ready none)) ∧ W.heap[w.heap.size]? = some (.deferred (some [])))
   (fun k W => ∃ c, Ix c k W ∧ W.heap[w.heap.size + 1]? = some (.loop (rec .done (some c))) ∧ W.heap[w.heap.size]? = some (.deferred (some [])))
   W1 ?_ ?_ (fun k W h => hM k W h.1) ?_ ⟨hI1, hL1, hK1⟩).mono ?_
  ·rintro k W W' ⟨h1, h2, h3⟩ hk
   exact ⟨hI k W W' h1 (Only.of_kp hk), (hk.heap (Array.getElem?_eq_some_iff.1 h2).1).trans h2, (hk.heap (Array.getElem?_eq_some_iff.1 h3).1).trans h3⟩
  ·rintro k W W' ⟨c, h1, h2, h3⟩ hk
   exact ⟨c, hIx c k W W' h1 (Only.of_kp hk), (hk.heap (Array.getElem?_eq_some_iff.1 h2).1).trans h2, (hk.heap (Array.getElem?_eq_some_iff.1 h3).1).trans h3⟩
  ·rintro k W hk ⟨hi, hl, hd⟩
   have hlt : w.heap.size + 1 < W.heap.size := (Array.getElem?_eq_some_iff.1 hl).1
   have hy := run_yield (P := P) (args := xs k) hl (by rw [hrec]; exact hps k hk)
   rw [hrec] at hy
   refine ⟨fn, _, assign, body, hy, roundIn_of_wpIn trivial (wpIn_mono (hround _ k W hk hi hlt) ?_)⟩
   rintro e₀ a' W' hq
   rcases e₀ with _ | id | t | _ | ch | _
   rotate_left
   ·exact hq.elim
   ·exact hq.elim
   ·exact hq.elim
   ·exact hq.elim
   ·exact hq.elim
   obtain ⟨hkp, J, hj, hJ, hbody⟩ := hq
   replace hl := hkp.2.trans hl
   replace hd := hkp.1.trans hd
   replace hlt : w.heap.size + 1 < W'.heap.size := (Array.getElem?_eq_some_iff.1 hl).1
   refine ⟨_, run_beginRound hl (by rw [hrec]), ?_⟩
   have hl2 : (W'.putObj (w.heap.size + 1) (.loop { rec .ready none with state := .busy })).heap[w.heap.size + 1]? = some (.loop { rec .ready none with state := .busy }) := World.putObj_heap_same hlt
   have hd2 : (W'.putObj (w.heap.size + 1) (.loop { rec .ready none with state := .busy })).heap[w.heap.size]? = some (.deferred (some [])) := (World.putObj_heap_other (by omega)).trans hd
   have hi2 : J (W'.putObj (w.heap.size + 1) (.loop { rec .ready none with state := .busy })) := hJ _ _ hj ((Only.refl _ _).putObj (by simp) _)
   refine wpIn_mono (hbody _ hi2 (by simpa using hlt)) ?_
   have fin : ∀ (jump : Option Code) (W3 : World), Kept2 w (W'.putObj (w.heap.size + 1) (.loop { rec .ready none with state := .busy })) W3 →
     (Instr.endRound (w.heap.size + 1) jump).run P W3 = .ok (.bool jump.isNone) (W3.putObj (w.heap.size + 1) (.loop (rec (if jump.isNone then .ready else .done) jump))) ∧
     (W3.putObj (w.heap.size + 1) (.loop (rec (if jump.isNone then .ready else .done) jump))).heap[w.heap.size + 1]? = some (.loop (rec (if jump.isNone then .ready else .done) jump)) ∧
     (W3.putObj (w.heap.size + 1) (.loop (rec (if jump.isNone then .ready else .done) jump))).heap[w.heap.size]? = some (.deferred (some [])) := fun jump W3 hk3 => by
    have hl3 := hk3.2.trans hl2
    have hd3 := hk3.1.trans hd2
    have := run_endRound (P := P) jump hl3
    rw [hrec] at this ⊢
    exact ⟨this, World.putObj_heap_same (Array.getElem?_eq_some_iff.1 hl3).1, (World.putObj_heap_other (by omega)).trans hd3⟩
   rintro e a3 W3 hp
   cases e with
   | normal =>
    obtain ⟨hr, hl4, hd4⟩ := fin none W3 hp.1
    exact ⟨_, _, hr, .inl ⟨rfl, hI _ _ _ hp.2 ((Only.refl _ _).putObj (by simp) _), hl4, hd4⟩⟩
   | ret =>
    obtain ⟨hr, hl4, hd4⟩ := fin (some .ret) W3 hp.1
    exact ⟨_, _, hr, .inr ⟨rfl, .ret, hIx _ _ _ _ hp.2 ((Only.refl _ _).putObj (by simp) _), hl4, hd4⟩⟩
   | exit id =>
    obtain ⟨hr, hl4, hd4⟩ := fin (some (.exit id)) W3 hp.1
    exact ⟨_, _, hr, .inr ⟨rfl, .exit id, hIx _ _ _ _ hp.2 ((Only.refl _ _).putObj (by simp) _), hl4, hd4⟩⟩
   | goto t =>
    obtain ⟨hr, hl4, hd4⟩ := fin (some (.goto t)) W3 hp.1
    exact ⟨_, _, hr, .inr ⟨rfl, .goto t, hIx _ _ _ _ hp.2 ((Only.refl _ _).putObj (by simp) _), hl4, hd4⟩⟩
   | panic ch => exact hp.elim
   | outgrown => exact hp.elim
  ·rintro e W3 ⟨rfl, h | ⟨k, hk0, hkN, c, hix, hl, hd⟩⟩
   ·obtain ⟨hi, hl, hd⟩ := h
    have hend := run_endLoop (P := P) hl (by rw [hrec]; simp)
    have hpn : (rec .ready none).pending = none := by rw [hrec]
    rw [hpn] at hend
    refine ⟨none, _, hend, ?_⟩
    exact hdone _ (hI _ _ _ hi ((Only.refl _ _).putObj (by simp) _)) ((World.putObj_heap_other (by omega)).trans hd)
   ·have hend := run_endLoop (P := P) hl (by rw [hrec]; simp)
    have hpn : (rec .done (some c)).pending = some c := by rw [hrec]
    rw [hpn] at hend
    refine ⟨some c, _, hend, ?_⟩
    refine (wpIn_wide (n := 0)).2 (hstop c k _ hk0 hkN (hIx _ _ _ _ hix ((Only.refl _ _).putObj (by simp) _)) ((World.putObj_heap_other (by omega)).trans hd))
theorem vaU {P : Program} {g : Operand} {ps : Array Tmp} {assign body : Code} {id : Nat} {Q : Exit → Act → World → Prop} {a : Act} {w : World} {gf : FuncId} {caps : Array Value} {N : Nat} {xs : Nat → Array Value} {M : World → Prop}
  (hg : a.eval g = .func (.func gf) #[] caps) (eg : ∀ args w, (callFunc gf args).run P w = .ok (.enter gf args) w) (hit : Iter P gf caps N xs M) (hps : ∀ k, k < N → (xs k).size = ps.size)
  (I Z : Nat → World → Prop) (S : World → Prop)
  (hI : ∀ k W W', I k W → Only [w.heap.size, w.heap.size + 1] W W' → I k W') (hZ : ∀ k W W', Z k W → Only [w.heap.size, w.heap.size + 1] W W' → Z k W')
  (hM : ∀ k W, I k W → M W) (h0 : I 0 w)
  (hIS : ∀ W, I N W → S W) (hZS : ∀ k W, 0 < k → k ≤ N → Z k W → S W)
  (hround : ∀ l k W, k < N → I k W → w.heap.size + 1 < W.heap.size → assign.wpIn (Fence.wide.inRound l) 0 P (Exit.then (fun a' W' => Kept2 w W W' ∧ ∃ J : World → Prop, J W' ∧ (∀ V V', J V → Only [w.heap.size, w.heap.size + 1] V V' → J V') ∧ ∀ W2, J W2 → w.heap.size + 1 < W2.heap.size → body.wpIn (Fence.wide.inRound l) 0 P (rndPost w I (fun c k W => c = .exit id ∧ Z k W) (k + 1) W2) a' W2) (fun _ _ _ => False))
   { tmps := (ps.zip (xs k)).foldl (fun t (p, v) => t.setIfInBounds p v) a.tmps, defers := [] } W)
  (rest : ∀ W, S W → W.heap[w.heap.size]? = some (.deferred (some [])) → Q .normal { a with defers := { target := .collected w.heap.size, args := #[] } :: a.defers } W) :
  (Code.rangeFunc g ps assign body).wp P (Exit.inBlock id Q) a w := by
 refine vcU hg eg hit hps I (fun c k W => c = .exit id ∧ Z k W) hI (fun c k W W' h hO => ⟨h.1, hZ k W W' h.2 hO⟩) hM h0 hround (fun W h hd => rest W (hIS W h) hd) ?_
 rintro c k W h1 h2 ⟨rfl, hz⟩ hd
 refine wp_exit ?_
 show (if id = id then Q .normal _ _ else Q (.exit id) _ _)
 rw [if_pos rfl]
 exact rest W (hZS k W h1 h2 hz) hd
end

end Go.Proofs.YtgopnfacklmkaaaGreatDoor
