/- Lemmas and contracts for the theorem of this claim: PfC, PfD, Range3, PfE, TrH. -/
import Derived.Test.YtgopnfacklmkaaaGreatDoorZzAv
import Derived.BigGuardIn
set_option linter.all false
set_option maxHeartbeats 16000000
namespace Go.Proofs.YtgopnfacklmkaaaGreatDoor
section
open Go.RowKit
attribute [local go_sem] Oper.semAt_some
theorem vfM (args : Array Value) (w : World) : (callFunc 330 args).run Tryz.prog w = .ok (.enter 330 args) w := by kernel_rfl
set_option maxRecDepth 100000 in
theorem vfN (px : Nat) (p : Pn) (hp : p.ok) :
  Iter Tryz.prog 330 #[.pointer (some ⟨px, 0, none⟩)] (p.l + 1) (fun k => #[.int .i64 k, .agg #[.int .u32 (cut p.a k), .int .i64 k]]) (fun W => Blk W px 39 #[.int .u32 p.a, .int .i64 p.l]) := by
 intro l I Z W hI hZ hM hy h0
 have HI := Lib.hid hI; clear hI
 have HZ := Lib.hid hZ; clear hZ
 have HM := Lib.hid hM; clear hM
 have HY := Lib.hid hy; clear hy
 have Hp := Lib.hid hp
 have hpl := hp.2.1
 have Hok := Lib.hid (pi_ok hp); clear hp
 have H0 := Lib.hid h0
 have B0 := HM.out 0 W h0; clear h0
 have c0 : W.cell? ⟨px, 0, none⟩ = some (.int .u32 p.a) := B0.cell 0
 have c1 : W.cell? ⟨px, 1, none⟩ = some (.int .i64 p.l) := B0.cell 1
 have hrd : Rd (W.alloc (.cells #[.int .u32 p.a, .int .i64 p.l] 39)) 2 PI.enc (some ⟨W.heap.size, 0, none⟩) [p.pi] := Rd.of_blk (Blk.new W _ _) (by omega) PI.len (by unfold maxLen; simp) rfl
 have Hrd := Lib.hid hrd; clear hrd
 go_enter Tryz.func330, Tryz.ntmps330
 go_wp2_with fail
 refine (vcp _ 1 [p.pi] _ Hrd.out (by simp) (fun k hk => by simp at hk; subst hk; exact Hp.out.1)).mono ?_
 rintro e w1 ⟨rfl, hK1⟩
 rw [show [p.pi].all PI.okB = true by simp [Hok.out]]
 have k1 : Kp W w1 := ((Kp.refl _).alloc _).trans hK1
 have I1 := Lib.hid (HI.out 0 W w1 H0.out k1)
 clear c0 c1 hK1 Hrd
 have B1 := B0.keep k1
 have c1 : w1.cell? ⟨px, 1, none⟩ = some (.int .i64 p.l) := B1.cell 1
 go_wp2_with fail
 go_loopg [11] (p.l + 1) (fun g i wr => ∃ (k : Nat), g = p.l + 1 - k ∧ k ≤ p.l + 1 ∧ i = .int .i64 k ∧ Hid (I k wr))
 case atStart => exact ⟨0, by omega, by omega, rfl, I1⟩
 case round =>
  obtain ⟨k, hg, hk, rfl, hi⟩ := hrel
  by_cases hlt : k < p.l + 1
  ·have d1 : decide ((k : Int) < (p.l : Int) + 1) = true := by simp; omega
   have hand := Lib.hid (show bits .and .u32 (p.a : Int) (maskN k : Int) = (cut p.a k : Int) by rw [vgi _ _ Hp.out.1 (vco k), vgQ Hp.out.1 (by omega)])
   have hk32 := Lib.hid (show k ≤ 32 by omega)
   have B := HM.out k wr hi.out
   have b0 : wr.cell? ⟨px, 0, none⟩ = some (.int .u32 p.a) := B.cell 0
   clear B
   go_upto_region 4 with (fail)
   obtain ⟨fn, tmps, asg, bd, hrun, hround⟩ := HY.out k wr.drew hlt (HI.out k wr wr.drew hi.out (Kp.refl _).drew)
   simp only [← hand.out] at hrun
   replace b0 : wr.drew.cell? ⟨px, 0, none⟩ = some (.int .u32 p.a) := b0
   refine (wpIn_wide (n := 0)).1 ?_
   refine wpIn_region_any (by kernel_rfl) ?_
   change wpAnyIn _ _ _ _ _ _ _ _ _ (World.drew _)
   refine wpAnyIn_take (i := 0) (v := .func (.yield l) #[] #[]) rfl rfl (by kernel_rfl) (by kernel_rfl) (by kernel_rfl) (fun _ _ _ h => h) ⟨Or.inl ⟨by rfl, fun w => by go_simp⟩, fun _ => rfl⟩ ?_
   refine wpAnyIn_take (i := 1) (v := .int .i64 k) rfl rfl (by kernel_rfl) (by kernel_rfl) (by kernel_rfl) (fun _ _ _ h => h) ⟨Or.inl ⟨by rfl, fun w => by go_simp⟩, fun _ => rfl⟩ ?_
   refine wpAnyIn_take (i := 2) (v := .pointer (some ⟨px, 0, none⟩)) rfl rfl (by kernel_rfl) (by kernel_rfl) (by kernel_rfl) (fun _ _ _ h => h) ⟨Or.inl ⟨by rfl, fun w => by go_simp⟩, fun _ => rfl⟩ ?_
   refine wpAnyIn_take (i := 4) (v := .int .i64 k) rfl rfl (by kernel_rfl) (by kernel_rfl) (by kernel_rfl) (fun _ _ _ h => h) ⟨Or.inl ⟨by rfl, fun w => by go_simp⟩, fun _ => rfl⟩ ?_
   refine wpAnyIn_take (i := 7) (v := .int .i64 k) rfl rfl (by kernel_rfl) (by kernel_rfl) (by kernel_rfl) (fun _ _ _ h => h) ⟨Or.inl ⟨by rfl, fun w => by go_simp⟩, fun _ => rfl⟩ ?_
   refine wpAnyIn_ready (rs := [3, 5]) (by kernel_rfl) (by simp) ?_
   refine AllReadyIn.cons rfl (fun K hK => ?_) (AllReadyIn.cons rfl (fun K hK => ?_) AllReadyIn.nil)
   ·go_simp
    refine hK _ _ ?_
    clear hK K
    refine wpAnyIn_ready (rs := [5]) (by kernel_rfl) (by simp) ?_
    refine AllReadyIn.cons rfl (fun K hK => ?_) AllReadyIn.nil
    go_simp
    refine ⟨trivial, rfl, callsIn_wide.2 ((vbt k _ hk32.out).mono ?_)⟩
    rintro e w' ⟨rfl, rfl⟩
    refine hK _ _ ?_
    clear hK K
    refine wpAnyIn_take (i := 6) (v := .int .u32 (bits .and .u32 p.a (maskN k))) rfl rfl (by kernel_rfl) (by kernel_rfl) (by kernel_rfl) (fun _ _ _ h => h) ⟨Or.inl ⟨by rfl, fun w => by go_simp⟩, fun _ => rfl⟩ ?_
    refine wpAnyIn_take (i := 8) (v := .agg #[.int .u32 (bits .and .u32 p.a (maskN k)), .int .i64 k]) rfl rfl (by kernel_rfl) (by kernel_rfl) (by kernel_rfl) (fun _ _ _ h => h) ⟨Or.inl ⟨by rfl, fun w => by go_simp⟩, fun _ => rfl⟩ ?_
    refine wpAnyIn_ready (rs := [9]) (by kernel_rfl) (by simp) ?_
    refine AllReadyIn.cons rfl (fun K hK => ?_) AllReadyIn.nil
    go_simp
    refine ⟨rfl, hround.mono ?_⟩
    clear hrun hround
    rintro e W' (⟨rfl, hi2⟩ | ⟨rfl, hz⟩)
    ·have Hi2 := Lib.hid hi2; clear hi2
     refine hK _ _ ?_
     clear hK K
     refine vaw 10 rfl rfl (by kernel_rfl) (by kernel_rfl) ?_
     simp only [List.drop_succ_cons, List.drop_zero]
     repeat (quiet_step_in (fail))
     refine wpQuietIn_nil ?_
     rintro w' ⟨nq, rfl⟩
     clear b0
     go_wp2_with fail
     go_roundg (p.l + 1 - (k + 1))
     case measure => omega
     case rel => exact ⟨k + 1, rfl, by omega, by go_num, HI.out _ _ _ Hi2.out ((Kp.refl _).drewN _)⟩
    ·have Hz := Lib.hid hz; clear hz
     refine hK _ _ ?_
     clear hK K
     refine vaw 10 rfl rfl (by kernel_rfl) (by kernel_rfl) ?_
     simp only [List.drop_succ_cons, List.drop_zero]
     repeat (quiet_step_in (fail))
     refine wpQuietIn_nil ?_
     rintro w' ⟨nq, rfl⟩
     clear b0
     go_wp2_with fail
     refine bodyPost_ret (v := .tuple #[]) (by simp [results, Tryz.results330, go_sem]) rfl ?_
     exact ⟨rfl, .inr ⟨k + 1, by omega, by omega, HZ.out _ _ _ Hz.out ((Kp.refl _).drewN _)⟩⟩
   ·go_simp
    refine ⟨trivial, rfl, callsIn_wide.2 ((vbt k _ hk32.out).mono ?_)⟩
    rintro e w' ⟨rfl, rfl⟩
    refine hK _ _ ?_
    clear hK K
    refine wpAnyIn_ready (rs := [3]) (by kernel_rfl) (by simp) ?_
    refine AllReadyIn.cons rfl (fun K hK => ?_) AllReadyIn.nil
    go_simp
    refine hK _ _ ?_
    clear hK K
    refine wpAnyIn_take (i := 6) (v := .int .u32 (bits .and .u32 p.a (maskN k))) rfl rfl (by kernel_rfl) (by kernel_rfl) (by kernel_rfl) (fun _ _ _ h => h) ⟨Or.inl ⟨by rfl, fun w => by go_simp⟩, fun _ => rfl⟩ ?_
    refine wpAnyIn_take (i := 8) (v := .agg #[.int .u32 (bits .and .u32 p.a (maskN k)), .int .i64 k]) rfl rfl (by kernel_rfl) (by kernel_rfl) (by kernel_rfl) (fun _ _ _ h => h) ⟨Or.inl ⟨by rfl, fun w => by go_simp⟩, fun _ => rfl⟩ ?_
    refine wpAnyIn_ready (rs := [9]) (by kernel_rfl) (by simp) ?_
    refine AllReadyIn.cons rfl (fun K hK => ?_) AllReadyIn.nil
    go_simp
    refine ⟨rfl, hround.mono ?_⟩
    clear hrun hround
    rintro e W' (⟨rfl, hi2⟩ | ⟨rfl, hz⟩)
    ·have Hi2 := Lib.hid hi2; clear hi2
     refine hK _ _ ?_
     clear hK K
     refine vaw 10 rfl rfl (by kernel_rfl) (by kernel_rfl) ?_
     simp only [List.drop_succ_cons, List.drop_zero]
     repeat (quiet_step_in (fail))
     refine wpQuietIn_nil ?_
     rintro w' ⟨nq, rfl⟩
     clear b0
     go_wp2_with fail
     go_roundg (p.l + 1 - (k + 1))
     case measure => omega
     case rel => exact ⟨k + 1, rfl, by omega, by go_num, HI.out _ _ _ Hi2.out ((Kp.refl _).drewN _)⟩
    ·have Hz := Lib.hid hz; clear hz
     refine hK _ _ ?_
     clear hK K
     refine vaw 10 rfl rfl (by kernel_rfl) (by kernel_rfl) ?_
     simp only [List.drop_succ_cons, List.drop_zero]
     repeat (quiet_step_in (fail))
     refine wpQuietIn_nil ?_
     rintro w' ⟨nq, rfl⟩
     clear b0
     go_wp2_with fail
     refine bodyPost_ret (v := .tuple #[]) (by simp [results, Tryz.results330, go_sem]) rfl ?_
     exact ⟨rfl, .inr ⟨k + 1, by omega, by omega, HZ.out _ _ _ Hz.out ((Kp.refl _).drewN _)⟩⟩
  ·obtain rfl : k = p.l + 1 := by omega
   have d1 : decide (((p.l + 1 : Nat) : Int) < (p.l : Int) + 1) = false := by simp
   go_wp2_with fail
   go_end0
   exact ⟨rfl, .inl (HI.out _ _ _ hi.out (Kp.refl _))⟩
attribute [local go_sem] Oper.semAt_some
theorem vii (p : Pn) (w : World) :
  Calls Tryz.prog 324 #[.agg #[.int .u32 p.a, .int .i64 p.l]] w fun e w' => e = .returned (.func (.func 330) #[] #[.pointer (some ⟨w.heap.size, 0, none⟩)]) ∧
   Blk w' w.heap.size 39 #[.int .u32 p.a, .int .i64 p.l] ∧ Kp w w' := by
 have hmf := vaE
 go_enter Tryz.func324, Tryz.ntmps324
 go_wp2_with fail
 go_ret
 exact ⟨rfl, Blk.new w _ _, (Kp.refl _).alloc _⟩
theorem take_zero {p : Pn} (hp : p.ok) : p.take 0 = ⟨0, 0⟩ := by
 have h1 := hp.1
 unfold Pn.take cut
 rw [Nat.div_eq_of_lt (by simpa using h1)]
 try simp
theorem vdQ {p q : Pn} (hp : p.ok) (hq : q.ok) : (p.take 0).holds q := vbf hp hq 0 (Nat.zero_le _)
theorem vjZ {p q : Pn} (hp : p.ok) {k m : Nat} (hk : k ≤ m) (hm : m ≤ p.l) (h : (p.take m).holds q) : (p.take k).holds q := by
 have hm32 : m ≤ 32 := Nat.le_trans hm hp.2.1
 refine ⟨Nat.le_trans hk h.1, ?_⟩
 have e : cut q.a m = cut p.a m := h.2
 show cut q.a k = cut p.a k
 rw [← vcd q.a hk hm32, e, vcd p.a hk hm32]
theorem vka {p q : Pn} (hp : p.ok) (hq : q.ok) {k : Nat} (hk : k ≤ p.l) (h1 : (p.take (k - 1)).holds q) (h2 : ¬ (p.take k).holds q) : p.com q = p.take (k - 1) := by
 have a := vbO p.l (k - 1) (by omega) h1
 have b : ¬ k ≤ comLen p q p.l := fun h => h2 (vjZ hp h (vbD p q p.l) (vbf hp hq p.l (Nat.le_refl _)))
 show p.take (comLen p q p.l) = _
 congr 1
 omega
theorem vkb {p q : Pn} (h1 : (p.take p.l).holds q) : p.com q = p.take p.l := by
 have a := vbO p.l p.l (Nat.le_refl _) h1
 have b := vbD p q p.l
 show p.take (comLen p q p.l) = _
 congr 1
 omega
theorem vij {P : Program} {g : Operand} {ps : Array Tmp} {assign body : Code} {Q : Exit → Act → World → Prop} {a : Act} {w : World} {gf : FuncId} {caps : Array Value} {N : Nat} {xs : Nat → Array Value} {M : World → Prop}
  (hg : a.eval g = .func (.func gf) #[] caps) (eg : ∀ args w, (callFunc gf args).run P w = .ok (.enter gf args) w) (hit : Iter P gf caps N xs M) (hps : ∀ k, k < N → (xs k).size = ps.size)
  (I : Nat → World → Prop) (Ix : Code → Nat → World → Prop)
  (hI : ∀ k W W', I k W → Only [w.heap.size, w.heap.size + 1] W W' → I k W') (hIx : ∀ c k W W', Ix c k W → Only [w.heap.size, w.heap.size + 1] W W' → Ix c k W')
  (hM : ∀ k W, I k W → M W) (h0 : I 0 w)
  (hround : ∀ l k W, k < N → I k W → w.heap.size + 1 < W.heap.size → assign.wpIn (Fence.wide.inRound l) 0 P (Exit.then (fun a' W' => Kept2 w W W' ∧ ∃ J : World → Prop, J W' ∧ (∀ V V', J V → Only [w.heap.size, w.heap.size + 1] V V' → J V') ∧ ∀ W2, J W2 → w.heap.size + 1 < W2.heap.size → body.wpIn (Fence.wide.inRound l) 0 P (rndPost w I Ix (k + 1) W2) a' W2) (fun _ _ _ => False))
   { tmps := (ps.zip (xs k)).foldl (fun t (p, v) => t.setIfInBounds p v) a.tmps, defers := [] } W)
  (hdone : ∀ W, I N W → W.heap[w.heap.size]? = some (.deferred (some [])) → Q .normal { a with defers := { target := .collected w.heap.size, args := #[] } :: a.defers } W)
  (hstop : ∀ c k W, 0 < k → k ≤ N → Ix c k W → W.heap[w.heap.size]? = some (.deferred (some [])) → c.wp P Q { a with defers := { target := .collected w.heap.size, args := #[] } :: a.defers } W) :
  (Code.rangeFunc g ps assign body).wp P Q a w := by
 refine (wpIn_wide (n := 0)).1 (wpIn_rangeFunc ?_)
 intro fn hfn
 obtain ⟨rec, hrec⟩ : ∃ rec : LoopState → Option Code → Loop, rec = fun st pe => { state := st, pending := pe, fn, tmps := a.tmps, params := ps, assign, body, defers := w.heap.size } := ⟨_, rfl⟩
 obtain ⟨W1, hW1⟩ : ∃ W1, (w.alloc (.deferred (some []))).alloc (.loop (rec .ready none)) = W1 := ⟨_, rfl⟩
 have hL1 : W1.heap[w.heap.size + 1]? = some (.loop (rec .ready none)) := by
  rw [← hW1]; have := World.alloc_heap_new (w.alloc (.deferred (some []))) (.loop (rec .ready none)); rwa [World.size_alloc] at this
 have hK1 : W1.heap[w.heap.size]? = some (.deferred (some [])) := by
  rw [← hW1]; exact (Below.heap_alloc _ _ _ (by simp)).trans (World.alloc_heap_new w _)
 have hI1 : I 0 W1 := by rw [← hW1]; exact hI 0 _ _ h0 (((Only.refl _ _).alloc _).alloc _)
 refine ⟨w.heap.size + 1, [{ target := .collected w.heap.size, args := #[] }], W1, { target := .fn (.func gf) caps, args := #[.func (.yield (w.heap.size + 1)) #[] #[]] }, W1, gf,
  #[.func (.yield (w.heap.size + 1)) #[] #[]] ++ caps, W1, ?_, ?_, fun _ _ => trivial, ?_, (fun h => by cases h), callsIn_wide.2 ?_⟩
 ·rw [← hW1, hrec]; exact run_enterLoop_outer _ _ _ _ _
 ·simp only [resolve, hg]
  simp [go_sem]
 ·simp [invoke, go_sem, eg]
 ·refine (hit (w.heap.size + 1)
   (fun k W => I k W ∧ W.heap[w.heap.size + 1]? = some (.loop (rec .ready none)) ∧ W.heap[w.heap.size]? = some (.deferred (some [])))
   (fun k W => ∃ c, Ix c k W ∧ W.heap[w.heap.size + 1]? = some (.loop (rec .done (some c))) ∧ W.heap[w.heap.size]? = some (.deferred (some [])))
   W1 ?_ ?_ (fun k W h => hM k W h.1) ?_ ⟨hI1, hL1, hK1⟩).mono ?_
  ·rintro k W W' ⟨h1, h2, h3⟩ hk
   exact ⟨hI k W W' h1 (Only.of_kp hk), (hk.heap (Array.getElem?_eq_some_iff.1 h2).1).trans h2, (hk.heap (Array.getElem?_eq_some_iff.1 h3).1).trans h3⟩
  ·rintro k W W' ⟨c, h1, h2, h3⟩ hk
   exact ⟨c, hIx c k W W' h1 (Only.of_kp hk), (hk.heap (Array.getElem?_eq_some_iff.1 h2).1).trans h2, (hk.heap (Array.getElem?_eq_some_iff.1 h3).1).trans h3⟩
  ·rintro k W hk ⟨hi, hl, hd⟩
   have hlt : w.heap.size + 1 < W.heap.size := (Array.getElem?_eq_some_iff.1 hl).1
   have hy := run_yield (P := P) (args := xs k) hl (by rw [hrec]; exact hps k hk)
   rw [hrec] at hy
   refine ⟨fn, _, assign, body, hy, roundIn_of_wpIn trivial (wpIn_mono (hround _ k W hk hi hlt) ?_)⟩
   rintro e₀ a' W' hq
   rcases e₀ with _ | id | t | _ | ch | _
   rotate_left
   ·exact hq.elim
   ·exact hq.elim
   ·exact hq.elim
   ·exact hq.elim
   ·exact hq.elim
   obtain ⟨hkp, J, hj, hJ, hbody⟩ := hq
   replace hl := hkp.2.trans hl
   replace hd := hkp.1.trans hd
   replace hlt : w.heap.size + 1 < W'.heap.size := (Array.getElem?_eq_some_iff.1 hl).1
   refine ⟨_, run_beginRound hl (by rw [hrec]), ?_⟩
   have hl2 : (W'.putObj (w.heap.size + 1) (.loop { rec .ready none with state := .busy })).heap[w.heap.size + 1]? = some (.loop { rec .ready none with state := .busy }) := World.putObj_heap_same hlt
   have hd2 : (W'.putObj (w.heap.size + 1) (.loop { rec .ready none with state := .busy })).heap[w.heap.size]? = some (.deferred (some [])) := (World.putObj_heap_other (by omega)).trans hd
   have hi2 : J (W'.putObj (w.heap.size + 1) (.loop { rec .ready none with state := .busy })) := hJ _ _ hj ((Only.refl _ _).putObj (by simp) _)
   refine wpIn_mono (hbody _ hi2 (by simpa using hlt)) ?_
   have fin : ∀ (jump : Option Code) (W3 : World), Kept2 w (W'.putObj (w.heap.size + 1) (.loop { rec .ready none with state := .busy })) W3 →
     (Instr.endRound (w.heap.size + 1) jump).run P W3 = .ok (.bool jump.isNone) (W3.putObj (w.heap.size + 1) (.loop (rec (if jump.isNone then .ready else .done) jump))) ∧
     (W3.putObj (w.heap.size + 1) (.loop (rec (if jump.isNone then .ready else .done) jump))).heap[w.heap.size + 1]? = some (.loop (rec (if jump.isNone then .ready else .done) jump)) ∧
     (W3.putObj (w.heap.size + 1) (.loop (rec (if jump.isNone then .ready else .done) jump))).heap[w.heap.size]? = some (.deferred (some [])) := fun jump W3 hk3 => by
    have hl3 := hk3.2.trans hl2
    have hd3 := hk3.1.trans hd2
    have := run_endRound (P := P) jump hl3
    rw [hrec] at this ⊢
    exact ⟨this, World.putObj_heap_same (Array.getElem?_eq_some_iff.1 hl3).1, (World.putObj_heap_other (by omega)).trans hd3⟩
   rintro e a3 W3 hp
   cases e with
   | normal =>
    obtain ⟨hr, hl4, hd4⟩ := fin none W3 hp.1
    exact ⟨_, _, hr, .inl ⟨rfl, hI _ _ _ hp.2 ((Only.refl _ _).putObj (by simp) _), hl4, hd4⟩⟩
   | ret =>
    obtain ⟨hr, hl4, hd4⟩ := fin (some .ret) W3 hp.1
    exact ⟨_, _, hr, .inr ⟨rfl, .ret, hIx _ _ _ _ hp.2 ((Only.refl _ _).putObj (by simp) _), hl4, hd4⟩⟩
   | exit id =>
    obtain ⟨hr, hl4, hd4⟩ := fin (some (.exit id)) W3 hp.1
    exact ⟨_, _, hr, .inr ⟨rfl, .exit id, hIx _ _ _ _ hp.2 ((Only.refl _ _).putObj (by simp) _), hl4, hd4⟩⟩
   | goto t =>
    obtain ⟨hr, hl4, hd4⟩ := fin (some (.goto t)) W3 hp.1
    exact ⟨_, _, hr, .inr ⟨rfl, .goto t, hIx _ _ _ _ hp.2 ((Only.refl _ _).putObj (by simp) _), hl4, hd4⟩⟩
   | panic ch => exact hp.elim
   | outgrown => exact hp.elim
  ·rintro e W3 ⟨rfl, h | ⟨k, hk0, hkN, c, hix, hl, hd⟩⟩
   ·obtain ⟨hi, hl, hd⟩ := h
    have hend := run_endLoop (P := P) hl (by rw [hrec]; simp)
    have hpn : (rec .ready none).pending = none := by rw [hrec]
    rw [hpn] at hend
    refine ⟨none, _, hend, ?_⟩
    exact hdone _ (hI _ _ _ hi ((Only.refl _ _).putObj (by simp) _)) ((World.putObj_heap_other (by omega)).trans hd)
   ·have hend := run_endLoop (P := P) hl (by rw [hrec]; simp)
    have hpn : (rec .done (some c)).pending = some c := by rw [hrec]
    rw [hpn] at hend
    refine ⟨some c, _, hend, ?_⟩
    refine (wpIn_wide (n := 0)).2 (hstop c k _ hk0 hkN (hIx _ _ _ _ hix ((Only.refl _ _).putObj (by simp) _)) ((World.putObj_heap_other (by omega)).trans hd))
theorem vbc {P : Program} {g : Operand} {ps : Array Tmp} {assign body : Code} {id : Nat} {Q : Exit → Act → World → Prop} {a : Act} {w : World} {gf : FuncId} {caps : Array Value} {N : Nat} {xs : Nat → Array Value} {M : World → Prop}
  (hg : a.eval g = .func (.func gf) #[] caps) (eg : ∀ args w, (callFunc gf args).run P w = .ok (.enter gf args) w) (hit : Iter P gf caps N xs M) (hps : ∀ k, k < N → (xs k).size = ps.size)
  (I Z : Nat → World → Prop) (S : World → Prop)
  (hI : ∀ k W W', I k W → Only [w.heap.size, w.heap.size + 1] W W' → I k W') (hZ : ∀ k W W', Z k W → Only [w.heap.size, w.heap.size + 1] W W' → Z k W')
  (hM : ∀ k W, I k W → M W) (h0 : I 0 w)
  (hIS : ∀ W, I N W → S W) (hZS : ∀ k W, 0 < k → k ≤ N → Z k W → S W)
  (hround : ∀ l k W, k < N → I k W → w.heap.size + 1 < W.heap.size → assign.wpIn (Fence.wide.inRound l) 0 P (Exit.then (fun a' W' => Kept2 w W W' ∧ ∃ J : World → Prop, J W' ∧ (∀ V V', J V → Only [w.heap.size, w.heap.size + 1] V V' → J V') ∧ ∀ W2, J W2 → w.heap.size + 1 < W2.heap.size → body.wpIn (Fence.wide.inRound l) 0 P (rndPost w I (fun c k W => c = .exit id ∧ Z k W) (k + 1) W2) a' W2) (fun _ _ _ => False))
   { tmps := (ps.zip (xs k)).foldl (fun t (p, v) => t.setIfInBounds p v) a.tmps, defers := [] } W)
  (rest : ∀ W, S W → W.heap[w.heap.size]? = some (.deferred (some [])) → Q .normal { a with defers := { target := .collected w.heap.size, args := #[] } :: a.defers } W) :
  (Code.rangeFunc g ps assign body).wp P (Exit.inBlock id Q) a w := by
 refine vij hg eg hit hps I (fun c k W => c = .exit id ∧ Z k W) hI (fun c k W W' h hO => ⟨h.1, hZ k W W' h.2 hO⟩) hM h0 hround (fun W h hd => rest W (hIS W h) hd) ?_
 rintro c k W h1 h2 ⟨rfl, hz⟩ hd
 refine wp_exit ?_
 show (if id = id then Q .normal _ _ else Q (.exit id) _ _)
 rw [if_pos rfl]
 exact rest W (hZS k W h1 h2 hz) hd
attribute [local go_sem] Oper.semAt_some
def CmI (w0 : World) (lo : Nat) (p q : Pn) (k : Nat) (W : World) : Prop :=
 Only [lo] w0 W ∧ (∀ j, j < k → (p.take j).holds q) ∧ Blk W lo 39 #[.int .u32 (p.take (k - 1)).a, .int .i64 (p.take (k - 1)).l]
def CmZ (w0 : World) (lo : Nat) (c : Pn) (W : World) : Prop := Only [lo] w0 W ∧ Blk W lo 39 #[.int .u32 c.a, .int .i64 c.l]
set_option maxRecDepth 100000 in
theorem vik (p q : Pn) (w : World) (hp : p.ok) (hq : q.ok) :
  Calls Tryz.prog 301 #[.agg #[.int .u32 p.a, .int .i64 p.l], .agg #[.int .u32 q.a, .int .i64 q.l]] w fun e w' => e = .returned (.tuple #[.agg #[.int .u32 (p.com q).a, .int .i64 (p.com q).l], .int .i64 0]) ∧ Kp w w' := by
 have Hp := Lib.hid hp
 have Hq := Lib.hid hq
 have hpl := hp.2.1
 have hql := hq.2.1
 clear hp hq
 obtain ⟨W, hW, kW, B0, B1, B2, B3, hsz⟩ : ∃ W, (((w.alloc (.cells #[.int .u32 p.a, .int .i64 p.l] 39)).alloc (.cells #[.int .u32 q.a, .int .i64 q.l] 39)).alloc (.cells #[.int .u32 0, .int .i64 0] 39)).alloc (.cells #[.int .u32 0, .int .i64 0] 39) = W ∧ Kp w W ∧
   Blk W w.heap.size 39 #[.int .u32 p.a, .int .i64 p.l] ∧ Blk W (w.heap.size + 1) 39 #[.int .u32 q.a, .int .i64 q.l] ∧ Blk W (w.heap.size + 1 + 1) 39 #[.int .u32 0, .int .i64 0] ∧ Blk W (w.heap.size + 1 + 1 + 1) 39 #[.int .u32 0, .int .i64 0] ∧ Hid (W.heap.size = w.heap.size + 4) :=
  ⟨_, rfl, ((((Kp.refl _).alloc _).alloc _).alloc _).alloc _, (((Blk.new w _ _).alloc _).alloc _).alloc _, ((Blk.new1 w _ _ _).alloc _).alloc _,
   by have := Blk.new1 (w.alloc (.cells #[.int .u32 p.a, .int .i64 p.l] 39)) (.cells #[.int .u32 q.a, .int .i64 q.l] 39) 39 #[.int .u32 0, .int .i64 0]; rw [World.size_alloc] at this; exact this.alloc _,
   by have := Blk.new1 ((w.alloc (.cells #[.int .u32 p.a, .int .i64 p.l] 39)).alloc (.cells #[.int .u32 q.a, .int .i64 q.l] 39)) (.cells #[.int .u32 0, .int .i64 0] 39) 39 #[.int .u32 0, .int .i64 0]; rw [World.size_alloc, World.size_alloc] at this; exact this,
   Lib.hid (by simp)⟩
 have p0 : W.cell? ⟨w.heap.size, 0, none⟩ = some (.int .u32 p.a) := B0.cell 0
 have p1 : W.cell? ⟨w.heap.size, 1, none⟩ = some (.int .i64 p.l) := B0.cell 1
 have q0 : W.cell? ⟨w.heap.size + 1, 0, none⟩ = some (.int .u32 q.a) := B1.cell 0
 have q1 : W.cell? ⟨w.heap.size + 1, 1, none⟩ = some (.int .i64 q.l) := B1.cell 1
 have hrd : Rd (W.alloc (.cells #[.int .u32 p.a, .int .i64 p.l, .int .u32 q.a, .int .i64 q.l] 39)) 2 PI.enc (some ⟨W.heap.size, 0, none⟩) [p.pi, q.pi] := Rd.of_blk (Blk.new W _ _) (by omega) PI.len (by unfold maxLen; simp) rfl
 have Hrd := Lib.hid hrd; clear hrd
 refine calls_of_wp_marks Tryz.func301 rfl ?_; simp only [Tryz.ntmps301, List.size_toArray, List.length_cons, List.length_nil, Nat.reduceAdd, Nat.reduceSub, Array.replicate_succ, Array.replicate_zero, List.push_toArray, List.append_toArray, List.nil_append, List.cons_append]
 go_wp2_with fail
 refine vac 0 rfl ?_
 go_wp2_with fail
 refine (vcp _ 2 [p.pi, q.pi] _ Hrd.out (by simp) (fun k hk => by
  have hk2 : k = 0 ∨ k = 1 := by simp at hk; omega
  rcases hk2 with rfl | rfl
  ·exact Hp.out.1
  ·exact Hq.out.1)).mono ?_
 rintro e w1 ⟨rfl, hK1⟩
 rw [show [p.pi, q.pi].all PI.okB = true by simp [pi_ok Hp.out, pi_ok Hq.out]]
 have k1 : Kp W w1 := ((Kp.refl _).alloc _).trans hK1
 have C0 := B0.keep k1
 clear p0 p1 q0 q1 hW hK1 Hrd
 have p0 : w1.cell? ⟨w.heap.size, 0, none⟩ = some (.int .u32 p.a) := C0.cell 0
 have p1 : w1.cell? ⟨w.heap.size, 1, none⟩ = some (.int .i64 p.l) := C0.cell 1
 go_wp2_with fail
 go_step3
 go_wp2_with fail
 refine (vii p _).mono ?_
 rintro e w2 ⟨rfl, A2, hK2⟩
 have k2 : Kp W w2 := k1.trans hK2
 have D1 := B1.keep k2
 have D2 := B2.keep k2
 have D3 := B3.keep k2
 have kw := kW.trans k2
 have hA := A2.lt
 have hs1 := k1.size
 have hsW := hsz.out
 clear hK2 C0 p0 p1 B0 B1 B2 B3
 have lift : Hid (∀ V V', Only [w.heap.size + 1 + 1 + 1] w2 V → Only [w2.heap.size, w2.heap.size + 1] V V' → Only [w.heap.size + 1 + 1 + 1] w2 V') := fun V V' h1 hO =>
  ⟨hO.os.trans h1.os, hO.tape.trans h1.tape, hO.output.trans h1.output, Nat.le_trans h1.size hO.size, fun i hi hn => (hO.block i (Nat.lt_of_lt_of_le hi h1.size) (by simp; omega)).trans (h1.block i hi hn)⟩
 have hlo : w.heap.size + 1 + 1 + 1 < w1.heap.size := by omega
 have Hs := Lib.hid hsW; clear hsW
 go_wp2_with fail
 refine vbc (N := p.l + 1) rfl vfM (vfN w1.heap.size p Hp.out) (fun _ _ => rfl)
  (CmI w2 (w.heap.size + 1 + 1 + 1) p q) (fun _ V => CmZ w2 (w.heap.size + 1 + 1 + 1) (p.com q) V) (CmZ w2 (w.heap.size + 1 + 1 + 1) (p.com q)) ?_ ?_ ?_ ?_ ?_ (fun _ _ _ _ h => h) ?_ ?_
 ·rintro k V V' ⟨h1, h2, B⟩ hO
  exact ⟨lift.out V V' h1 hO, h2, B.only hO (by simp; omega)⟩
 ·rintro k V V' ⟨h1, B⟩ hO
  exact ⟨lift.out V V' h1 hO, B.only hO (by simp; omega)⟩
 ·rintro k V ⟨h1, _, _⟩
  exact A2.only h1 (by simp; omega)
 ·exact ⟨Only.refl _ _, fun j hj => by omega, by rw [show 0 - 1 = 0 from rfl, take_zero Hp.out]; exact D3⟩
 ·rintro V ⟨h1, h2, B⟩
  exact ⟨h1, by rw [vkb (h2 p.l (by omega))]; exact B⟩
 ·intro l k V hk ⟨h1, h2, B⟩ hV
  gi_wp2_with fail
  refine ⟨⟨Below.heap_alloc V _ _ (by omega), Below.heap_alloc V _ _ (by omega)⟩, fun U => Only [w.heap.size + 1 + 1 + 1] w2 U ∧ Blk U (w.heap.size + 1 + 1 + 1) 39 #[.int .u32 (p.take (k - 1)).a, .int .i64 (p.take (k - 1)).l] ∧ Blk U V.heap.size 39 #[.int .u32 (cut p.a k), .int .i64 k], ⟨h1.alloc _, B.alloc _, Blk.new V _ _⟩, ?_, ?_⟩
  ·rintro U U' ⟨j1, j2, j3⟩ hO
   exact ⟨lift.out U U' j1 hO, j2.only hO (by simp; omega), j3.only hO (by simp; omega)⟩
  rintro U ⟨j1, j2, j3⟩ hU
  have E1 := D1.only j1 (by simp)
  have u0 : U.cell? ⟨V.heap.size, 0, none⟩ = some (.int .u32 (cut p.a k)) := j3.cell 0
  have u1 : U.cell? ⟨V.heap.size, 1, none⟩ = some (.int .i64 k) := j3.cell 1
  have q0 : U.cell? ⟨w.heap.size + 1, 0, none⟩ = some (.int .u32 q.a) := E1.cell 0
  have q1 : U.cell? ⟨w.heap.size + 1, 1, none⟩ = some (.int .i64 q.l) := E1.cell 1
  have H2 := Lib.hid h2; clear h2
  have hok := Lib.hid (viM Hp.out (show k ≤ p.l by omega))
  gi_wp2_with fail
  refine ⟨trivial, rfl, vdq l ((vdK (p.take k) q _ hok.out.1 Hq.out.1 hok.out.2.1 hql).mono ?_)⟩
  rintro e U2 ⟨rfl, hKU⟩
  have j1' : Only [w.heap.size + 1 + 1 + 1] w2 U2 := j1.trans (Only.of_kp hKU)
  have kept : Kept2 w2 U U2 := ⟨hKU.heap (by omega), hKU.heap (by omega)⟩
  by_cases hh : (p.take k).holds q
  ·rw [show holdsI (p.take k) q = 1 by simp [holdsI, hh]]
   have F3 := j3.keep hKU
   have F2 := j2.keep hKU
   clear u0 u1 q0 q1
   have u0 : U2.cell? ⟨V.heap.size, 0, none⟩ = some (.int .u32 (cut p.a k)) := F3.cell 0
   have u1 : U2.cell? ⟨V.heap.size, 1, none⟩ = some (.int .i64 k) := F3.cell 1
   have x0 : U2.cell? ⟨w.heap.size + 1 + 1 + 1, 0, none⟩ = some (.int .u32 (p.take (k - 1)).a) := F2.cell 0
   have x1 : U2.cell? ⟨w.heap.size + 1 + 1 + 1, 1, none⟩ = some (.int .i64 (p.take (k - 1)).l) := F2.cell 1
   have z0 := F2.frozen 0
   have z1 := F2.frozen 1
   have Hh := Lib.hid hh; clear hh
   gi_wp2_with fail
   refine ⟨⟨((Below.heap_setCell _ _ _ _ (by simp; omega)).trans (Below.heap_setCell _ _ _ _ (by simp; omega))).trans kept.1, ((Below.heap_setCell _ _ _ _ (by simp; omega)).trans (Below.heap_setCell _ _ _ _ (by simp; omega))).trans kept.2⟩, (j1'.setCell (.inl (by simp)) _).setCell (.inl (by simp)) _, fun j hj => ?_, ?_⟩
   ·by_cases e : j = k
    ·subst e; exact Hh.out
    ·exact H2.out j (by omega)
   ·rw [Nat.add_sub_cancel]; exact (F2.set_ 0 _).set_ 1 _
  ·rw [show holdsI (p.take k) q = 0 by simp [holdsI, hh]]
   have F2 := j2.keep hKU
   have Hh := Lib.hid hh; clear hh
   gi_wp2_with fail
   have hk1 : 0 < k := by
    rcases Nat.eq_zero_or_pos k with rfl | h
    ·exact absurd (vdQ Hp.out Hq.out) Hh.out
    ·exact h
   exact ⟨kept, rfl, j1', by rw [vka Hp.out Hq.out (show k ≤ p.l by omega) (H2.out (k - 1) (by omega)) Hh.out]; exact F2⟩
 ·rintro V ⟨h1, B⟩ hd
  have c0 : V.cell? ⟨w.heap.size + 1 + 1 + 1, 0, none⟩ = some (.int .u32 (p.com q).a) := B.cell 0
  have c1 : V.cell? ⟨w.heap.size + 1 + 1 + 1, 1, none⟩ = some (.int .i64 (p.com q).l) := B.cell 1
  have D2' := D2.only h1 (by simp)
  have z0 := D2'.frozen 0
  have z1 := D2'.frozen 1
  have y0 : V.cell? ⟨w.heap.size + 1 + 1, 0, none⟩ = some (.int .u32 0) := D2'.cell 0
  have y1 : V.cell? ⟨w.heap.size + 1 + 1, 1, none⟩ = some (.int .i64 0) := D2'.cell 1
  go_wp2_with fail
  have R := (D2'.set_ 0 (.int .u32 (p.com q).a)).set_ 1 (.int .i64 (p.com q).l)
  have hd' : ((V.setCell ⟨w.heap.size + 1 + 1, 0, none⟩ (.int .u32 (p.com q).a)).setCell ⟨w.heap.size + 1 + 1, 1, none⟩ (.int .i64 (p.com q).l)).heap[w2.heap.size]? = some (.deferred (some [])) :=
   ((Below.heap_setCell _ _ _ _ (by simp; omega)).trans (Below.heap_setCell _ _ _ _ (by simp; omega))).trans hd
  have k3 : Kp w ((V.setCell ⟨w.heap.size + 1 + 1, 0, none⟩ (.int .u32 (p.com q).a)).setCell ⟨w.heap.size + 1 + 1, 1, none⟩ (.int .i64 (p.com q).l)) :=
   (((Only.refl [w.heap.size + 1 + 1] V).setCell (.inl (by simp)) _).setCell (.inl (by simp)) _).kp (h1.kp kw (by simp; omega)) (by simp; omega)
  refine vak ?_
  refine vbp hd' (fun V' hO => ⟨.tuple #[.agg #[.int .u32 (p.com q).a, .int .i64 (p.com q).l], .int .i64 0], ?_, rfl, hO.kp k3 (by simp; omega)⟩)
  have r0 : V'.cell? ⟨w.heap.size + 1 + 1, 0, none⟩ = some (.int .u32 (p.com q).a) := (R.only hO (by simp; omega)).cell 0
  have r1 : V'.cell? ⟨w.heap.size + 1 + 1, 1, none⟩ = some (.int .i64 (p.com q).l) := (R.only hO (by simp; omega)).cell 1
  simp [results, Tryz.results301, go_sem, r0, r1]
set_option maxRecDepth 100000 in
theorem vkc (w : World) (a l b k : Int) : (binOp .neq 39 (.agg #[.int .u32 a, .int .i64 l]) (.agg #[.int .u32 b, .int .i64 k])).run Tryz.prog w = .ok (.bool (!(a == b && l == k))) w := by
 rw [run_neq_struct, run_equalIn_agg w 9999 _ _ _ Tryz.underlying39 (by kernel_rfl)]
 simp [Op.eqFields, part, go_sem, Tryz.underlying3, Tryz.underlying37]
 by_cases h1 : a = b <;> by_cases h2 : l = k <;> simp [h1, h2]
theorem voI {p q : Pn} : (((p.a : Int) == (q.a : Int)) && ((p.l : Int) == (q.l : Int))) = decide (p = q) := by
 by_cases h : p = q
 ·subst h; simp
 ·have : ¬ (p.a = q.a ∧ p.l = q.l) := fun e => h (by cases p; cases q; simp at e ⊢; exact e)
  simp only [h, decide_false]
  cases hh : (((p.a : Int) == (q.a : Int)) && ((p.l : Int) == (q.l : Int))) with
  | false => rfl
  | true =>
   simp at hh
   exact absurd (by omega) this
theorem voJ (w : World) (p q : Pn) : (binOp .neq 39 (.agg #[.int .u32 p.a, .int .i64 p.l]) (.agg #[.int .u32 q.a, .int .i64 q.l])).run Tryz.prog w = .ok (.bool (!decide (p = q))) w := by
 rw [vkc, voI]
theorem vil {cs : Array Value} {i : Nat} {u : Value} (hu : cs[i]? = some u) : cs.setIfInBounds i u = cs := by
 apply Array.ext_getElem?
 intro k
 rw [Array.getElem?_setIfInBounds]
 by_cases e : i = k
 ·subst e
  obtain ⟨h1, h2⟩ := Array.getElem?_eq_some_iff.1 hu
  simp [h1, h2]
 ·simp [e]
theorem voK {w : World} {g : Nat} {t : TypeId} {cs : Array Value} (h : Blk w g t cs) {i : Nat} {u : Value} (hu : cs[i]? = some u) : (w.setCell ⟨g, i, none⟩ u).heap = w.heap := by
 apply Array.ext_getElem?
 intro j
 by_cases e : j = g
 ·subst e
  have h2 := h.set_ i u
  rw [vil hu] at h2
  unfold Blk at h h2
  rw [h, h2]
 ·exact Below.heap_setCell _ _ _ _ (by simpa using e)
end

end Go.Proofs.YtgopnfacklmkaaaGreatDoor
