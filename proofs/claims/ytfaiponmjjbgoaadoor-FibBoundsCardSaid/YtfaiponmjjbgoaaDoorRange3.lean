/- A range over a function whose variables are boxed anew each round (the assignment allocates). -/
import Derived.Test.YtfaiponmjjbgoaaDoorRange2
namespace Go.Proofs.YtfaiponmjjbgoaaDoor
open Go.RowKit

theorem wp_range_a {P : Program} {g : Operand} {ps : Array Tmp} {assign body : Code} {Q : Exit → Act → World → Prop} {a : Act} {w : World} {gf : FuncId} {caps : Array Value} {N : Nat} {xs : Nat → Array Value} {M : World → Prop}
    (hg : a.eval g = .func (.func gf) #[] caps) (eg : ∀ args w, (callFunc gf args).run P w = .ok (.enter gf args) w) (hit : Iter P gf caps N xs M) (hps : ∀ k, k < N → (xs k).size = ps.size)
    (I : Nat → World → Prop) (Ix : Code → Nat → World → Prop)
    (hI : ∀ k W W', I k W → Only [w.heap.size, w.heap.size + 1] W W' → I k W') (hIx : ∀ c k W W', Ix c k W → Only [w.heap.size, w.heap.size + 1] W W' → Ix c k W')
    (hM : ∀ k W, I k W → M W) (h0 : I 0 w)
    (hround : ∀ l k W, k < N → I k W → w.heap.size + 1 < W.heap.size → assign.wpIn (Fence.wide.inRound l) 0 P (Exit.then (fun a' W' => Kept2 w W W' ∧ ∃ J : World → Prop, J W' ∧ (∀ V V', J V → Only [w.heap.size, w.heap.size + 1] V V' → J V') ∧ ∀ W2, J W2 → w.heap.size + 1 < W2.heap.size → body.wpIn (Fence.wide.inRound l) 0 P (rndPost w I Ix (k + 1) W2) a' W2) (fun _ _ _ => False))
      { tmps := (ps.zip (xs k)).foldl (fun t (p, v) => t.setIfInBounds p v) a.tmps, defers := [] } W)
    (hdone : ∀ W, I N W → W.heap[w.heap.size]? = some (.deferred (some [])) → Q .normal { a with defers := { target := .collected w.heap.size, args := #[] } :: a.defers } W)
    (hstop : ∀ c k W, 0 < k → k ≤ N → Ix c k W → W.heap[w.heap.size]? = some (.deferred (some [])) → c.wp P Q { a with defers := { target := .collected w.heap.size, args := #[] } :: a.defers } W) :
    (Code.rangeFunc g ps assign body).wp P Q a w := by
  refine (wpIn_wide (n := 0)).1 (wpIn_rangeFunc ?_)
  intro fn hfn
  obtain ⟨rec, hrec⟩ : ∃ rec : LoopState → Option Code → Loop, rec = fun st pe => { state := st, pending := pe, fn, tmps := a.tmps, params := ps, assign, body, defers := w.heap.size } := ⟨_, rfl⟩
  obtain ⟨W1, hW1⟩ : ∃ W1, (w.alloc (.deferred (some []))).alloc (.loop (rec .ready none)) = W1 := ⟨_, rfl⟩
  have hL1 : W1.heap[w.heap.size + 1]? = some (.loop (rec .ready none)) := by
    rw [← hW1]; have := World.alloc_heap_new (w.alloc (.deferred (some []))) (.loop (rec .ready none)); rwa [World.size_alloc] at this
  have hK1 : W1.heap[w.heap.size]? = some (.deferred (some [])) := by
    rw [← hW1]; exact (Below.heap_alloc _ _ _ (by simp)).trans (World.alloc_heap_new w _)
  have hI1 : I 0 W1 := by rw [← hW1]; exact hI 0 _ _ h0 (((Only.refl _ _).alloc _).alloc _)
  refine ⟨w.heap.size + 1, [{ target := .collected w.heap.size, args := #[] }], W1, { target := .fn (.func gf) caps, args := #[.func (.yield (w.heap.size + 1)) #[] #[]] }, W1, gf,
    #[.func (.yield (w.heap.size + 1)) #[] #[]] ++ caps, W1, ?_, ?_, fun _ _ => trivial, ?_, (fun h => by cases h), callsIn_wide.2 ?_⟩
  · rw [← hW1, hrec]; exact run_enterLoop_outer _ _ _ _ _
  · simp only [resolve, hg]
    simp [go_sem]
  · simp [invoke, go_sem, eg]
  · refine (hit (w.heap.size + 1)
      (fun k W => I k W ∧ W.heap[w.heap.size + 1]? = some (.loop (rec .ready none)) ∧ W.heap[w.heap.size]? = some (.deferred (some [])))
      (fun k W => ∃ c, Ix c k W ∧ W.heap[w.heap.size + 1]? = some (.loop (rec .done (some c))) ∧ W.heap[w.heap.size]? = some (.deferred (some [])))
      W1 ?_ ?_ (fun k W h => hM k W h.1) ?_ ⟨hI1, hL1, hK1⟩).mono ?_
    · rintro k W W' ⟨h1, h2, h3⟩ hk
      exact ⟨hI k W W' h1 (Only.of_kp hk), (hk.heap (Array.getElem?_eq_some_iff.1 h2).1).trans h2, (hk.heap (Array.getElem?_eq_some_iff.1 h3).1).trans h3⟩
    · rintro k W W' ⟨c, h1, h2, h3⟩ hk
      exact ⟨c, hIx c k W W' h1 (Only.of_kp hk), (hk.heap (Array.getElem?_eq_some_iff.1 h2).1).trans h2, (hk.heap (Array.getElem?_eq_some_iff.1 h3).1).trans h3⟩
    · rintro k W hk ⟨hi, hl, hd⟩
      have hlt : w.heap.size + 1 < W.heap.size := (Array.getElem?_eq_some_iff.1 hl).1
      have hy := run_yield (P := P) (args := xs k) hl (by rw [hrec]; exact hps k hk)
      rw [hrec] at hy
      refine ⟨fn, _, assign, body, hy, roundIn_of_wpIn trivial (wpIn_mono (hround _ k W hk hi hlt) ?_)⟩
      rintro e₀ a' W' hq
      rcases e₀ with _ | id | t | _ | ch | _
      rotate_left
      · exact hq.elim
      · exact hq.elim
      · exact hq.elim
      · exact hq.elim
      · exact hq.elim
      obtain ⟨hkp, J, hj, hJ, hbody⟩ := hq
      replace hl := hkp.2.trans hl
      replace hd := hkp.1.trans hd
      replace hlt : w.heap.size + 1 < W'.heap.size := (Array.getElem?_eq_some_iff.1 hl).1
      refine ⟨_, run_beginRound hl (by rw [hrec]), ?_⟩
      have hl2 : (W'.putObj (w.heap.size + 1) (.loop { rec .ready none with state := .busy })).heap[w.heap.size + 1]? = some (.loop { rec .ready none with state := .busy }) := World.putObj_heap_same hlt
      have hd2 : (W'.putObj (w.heap.size + 1) (.loop { rec .ready none with state := .busy })).heap[w.heap.size]? = some (.deferred (some [])) := (World.putObj_heap_other (by omega)).trans hd
      have hi2 : J (W'.putObj (w.heap.size + 1) (.loop { rec .ready none with state := .busy })) := hJ _ _ hj ((Only.refl _ _).putObj (by simp) _)
      refine wpIn_mono (hbody _ hi2 (by simpa using hlt)) ?_
      have fin : ∀ (jump : Option Code) (W3 : World), Kept2 w (W'.putObj (w.heap.size + 1) (.loop { rec .ready none with state := .busy })) W3 →
          (Instr.endRound (w.heap.size + 1) jump).run P W3 = .ok (.bool jump.isNone) (W3.putObj (w.heap.size + 1) (.loop (rec (if jump.isNone then .ready else .done) jump))) ∧
          (W3.putObj (w.heap.size + 1) (.loop (rec (if jump.isNone then .ready else .done) jump))).heap[w.heap.size + 1]? = some (.loop (rec (if jump.isNone then .ready else .done) jump)) ∧
          (W3.putObj (w.heap.size + 1) (.loop (rec (if jump.isNone then .ready else .done) jump))).heap[w.heap.size]? = some (.deferred (some [])) := fun jump W3 hk3 => by
        have hl3 := hk3.2.trans hl2
        have hd3 := hk3.1.trans hd2
        have := run_endRound (P := P) jump hl3
        rw [hrec] at this ⊢
        exact ⟨this, World.putObj_heap_same (Array.getElem?_eq_some_iff.1 hl3).1, (World.putObj_heap_other (by omega)).trans hd3⟩
      rintro e a3 W3 hp
      cases e with
      | normal =>
        obtain ⟨hr, hl4, hd4⟩ := fin none W3 hp.1
        exact ⟨_, _, hr, .inl ⟨rfl, hI _ _ _ hp.2 ((Only.refl _ _).putObj (by simp) _), hl4, hd4⟩⟩
      | ret =>
        obtain ⟨hr, hl4, hd4⟩ := fin (some .ret) W3 hp.1
        exact ⟨_, _, hr, .inr ⟨rfl, .ret, hIx _ _ _ _ hp.2 ((Only.refl _ _).putObj (by simp) _), hl4, hd4⟩⟩
      | exit id =>
        obtain ⟨hr, hl4, hd4⟩ := fin (some (.exit id)) W3 hp.1
        exact ⟨_, _, hr, .inr ⟨rfl, .exit id, hIx _ _ _ _ hp.2 ((Only.refl _ _).putObj (by simp) _), hl4, hd4⟩⟩
      | goto t =>
        obtain ⟨hr, hl4, hd4⟩ := fin (some (.goto t)) W3 hp.1
        exact ⟨_, _, hr, .inr ⟨rfl, .goto t, hIx _ _ _ _ hp.2 ((Only.refl _ _).putObj (by simp) _), hl4, hd4⟩⟩
      | panic ch => exact hp.elim
      | outgrown => exact hp.elim
    · rintro e W3 ⟨rfl, h | ⟨k, hk0, hkN, c, hix, hl, hd⟩⟩
      · obtain ⟨hi, hl, hd⟩ := h
        have hend := run_endLoop (P := P) hl (by rw [hrec]; simp)
        have hpn : (rec .ready none).pending = none := by rw [hrec]
        rw [hpn] at hend
        refine ⟨none, _, hend, ?_⟩
        exact hdone _ (hI _ _ _ hi ((Only.refl _ _).putObj (by simp) _)) ((World.putObj_heap_other (by omega)).trans hd)
      · have hend := run_endLoop (P := P) hl (by rw [hrec]; simp)
        have hpn : (rec .done (some c)).pending = some c := by rw [hrec]
        rw [hpn] at hend
        refine ⟨some c, _, hend, ?_⟩
        refine (wpIn_wide (n := 0)).2 (hstop c k _ hk0 hkN (hIx _ _ _ _ hix ((Only.refl _ _).putObj (by simp) _)) ((World.putObj_heap_other (by omega)).trans hd))


theorem wp_range_join_a {P : Program} {g : Operand} {ps : Array Tmp} {assign body : Code} {id : Nat} {Q : Exit → Act → World → Prop} {a : Act} {w : World} {gf : FuncId} {caps : Array Value} {N : Nat} {xs : Nat → Array Value} {M : World → Prop}
    (hg : a.eval g = .func (.func gf) #[] caps) (eg : ∀ args w, (callFunc gf args).run P w = .ok (.enter gf args) w) (hit : Iter P gf caps N xs M) (hps : ∀ k, k < N → (xs k).size = ps.size)
    (I Z : Nat → World → Prop) (S : World → Prop)
    (hI : ∀ k W W', I k W → Only [w.heap.size, w.heap.size + 1] W W' → I k W') (hZ : ∀ k W W', Z k W → Only [w.heap.size, w.heap.size + 1] W W' → Z k W')
    (hM : ∀ k W, I k W → M W) (h0 : I 0 w)
    (hIS : ∀ W, I N W → S W) (hZS : ∀ k W, 0 < k → k ≤ N → Z k W → S W)
    (hround : ∀ l k W, k < N → I k W → w.heap.size + 1 < W.heap.size → assign.wpIn (Fence.wide.inRound l) 0 P (Exit.then (fun a' W' => Kept2 w W W' ∧ ∃ J : World → Prop, J W' ∧ (∀ V V', J V → Only [w.heap.size, w.heap.size + 1] V V' → J V') ∧ ∀ W2, J W2 → w.heap.size + 1 < W2.heap.size → body.wpIn (Fence.wide.inRound l) 0 P (rndPost w I (fun c k W => c = .exit id ∧ Z k W) (k + 1) W2) a' W2) (fun _ _ _ => False))
      { tmps := (ps.zip (xs k)).foldl (fun t (p, v) => t.setIfInBounds p v) a.tmps, defers := [] } W)
    (rest : ∀ W, S W → W.heap[w.heap.size]? = some (.deferred (some [])) → Q .normal { a with defers := { target := .collected w.heap.size, args := #[] } :: a.defers } W) :
    (Code.rangeFunc g ps assign body).wp P (Exit.inBlock id Q) a w := by
  refine wp_range_a hg eg hit hps I (fun c k W => c = .exit id ∧ Z k W) hI (fun c k W W' h hO => ⟨h.1, hZ k W W' h.2 hO⟩) hM h0 hround (fun W h hd => rest W (hIS W h) hd) ?_
  rintro c k W h1 h2 ⟨rfl, hz⟩ hd
  refine wp_exit ?_
  show (if id = id then Q .normal _ _ else Q (.exit id) _ _)
  rw [if_pos rfl]
  exact rest W (hZS k W h1 h2 hz) hd


end Go.Proofs.YtfaiponmjjbgoaaDoor
