/- Ranges over functions, in plain walks: an iterator's contract, the statement, a function's end behind it. No condition. -/
import Derived.Test.YtfaiponmjjbgoaaDoorRec
import Derived.RangeFuncOwn
import Derived.RangeFuncLeaves
namespace Go.Proofs.YtfaiponmjjbgoaaDoor
open Go.RowKit

/-- An iterator that hands over the rows xs 0 .. xs (N - 1), till its yield says no. M: what it reads. -/
def Iter (P : Program) (gf : FuncId) (caps : Array Value) (N : Nat) (xs : Nat → Array Value) (M : World → Prop) : Prop :=
  ∀ (l : Nat) (I Z : Nat → World → Prop) (W : World),
    (∀ k W W', I k W → Kp W W' → I k W') → (∀ k W W', Z k W → Kp W W' → Z k W') → (∀ k W, I k W → M W) →
    (∀ k W, k < N → I k W → ∃ fn tmps assign body, (Instr.yield l (xs k)).run P W = .ok (.round l fn tmps assign body) W ∧
      RoundIn Fence.wide 0 P l fn tmps assign body W (fun e W' => (e = .returned (.bool true) ∧ I (k + 1) W') ∨ (e = .returned (.bool false) ∧ Z (k + 1) W'))) →
    I 0 W → Calls P gf (#[.func (.yield l) #[] #[]] ++ caps) W (fun e W' => e = .returned (.tuple #[]) ∧ (I N W' ∨ ∃ k, 0 < k ∧ k ≤ N ∧ Z k W'))

def Kept2 (w W W' : World) : Prop := W'.heap[w.heap.size]? = W.heap[w.heap.size]? ∧ W'.heap[w.heap.size + 1]? = W.heap[w.heap.size + 1]?

/-- How a round's body may be left. -/
def rndPost (w : World) (I : Nat → World → Prop) (Ix : Code → Nat → World → Prop) (k : Nat) (W : World) : Exit → Act → World → Prop
  | .normal, _, W' => Kept2 w W W' ∧ I k W'
  | .ret, _, W' => Kept2 w W W' ∧ Ix .ret k W'
  | .exit id, _, W' => Kept2 w W W' ∧ Ix (.exit id) k W'
  | .goto t, _, W' => Kept2 w W W' ∧ Ix (.goto t) k W'
  | .panic _, _, _ => False
  | .outgrown, _, _ => False

theorem Only.putObj {bs : List Nat} {a w : World} (h : Only bs a w) {r : Nat} (hr : r ∈ bs) (o : Obj) : Only bs a (w.putObj r o) :=
  ⟨h.os, h.tape, h.output, by simpa using h.size, fun k hk hn => (World.putObj_heap_other (fun e => hn (by rw [e]; exact hr))).trans (h.block k hk hn)⟩

theorem wp_range {P : Program} {g : Operand} {ps : Array Tmp} {assign body : Code} {Q : Exit → Act → World → Prop} {a : Act} {w : World} {gf : FuncId} {caps : Array Value} {N : Nat} {xs : Nat → Array Value} {M : World → Prop}
    (hg : a.eval g = .func (.func gf) #[] caps) (eg : ∀ args w, (callFunc gf args).run P w = .ok (.enter gf args) w) (hit : Iter P gf caps N xs M) (hps : ∀ k, k < N → (xs k).size = ps.size)
    (I : Nat → World → Prop) (Ix : Code → Nat → World → Prop)
    (hI : ∀ k W W', I k W → Only [w.heap.size, w.heap.size + 1] W W' → I k W') (hIx : ∀ c k W W', Ix c k W → Only [w.heap.size, w.heap.size + 1] W W' → Ix c k W')
    (hM : ∀ k W, I k W → M W) (h0 : I 0 w)
    (hround : ∀ l k W, k < N → I k W → assign.wpIn (Fence.wide.inRound l) 0 P (Exit.then (fun a' W' => W = W' ∧ ∀ W2, I k W2 → w.heap.size + 1 < W2.heap.size → body.wpIn (Fence.wide.inRound l) 0 P (rndPost w I Ix (k + 1) W2) a' W2) (fun _ _ _ => False))
      { tmps := (ps.zip (xs k)).foldl (fun t (p, v) => t.setIfInBounds p v) a.tmps, defers := [] } W)
    (hdone : ∀ W, I N W → W.heap[w.heap.size]? = some (.deferred (some [])) → Q .normal { a with defers := { target := .collected w.heap.size, args := #[] } :: a.defers } W)
    (hstop : ∀ c k W, 0 < k → k ≤ N → Ix c k W → W.heap[w.heap.size]? = some (.deferred (some [])) → c.wp P Q { a with defers := { target := .collected w.heap.size, args := #[] } :: a.defers } W) :
    (Code.rangeFunc g ps assign body).wp P Q a w := by
  refine (wpIn_wide (n := 0)).1 (wpIn_rangeFunc ?_)
  intro fn hfn
  obtain ⟨rec, hrec⟩ : ∃ rec : LoopState → Option Code → Loop, rec = fun st pe => { state := st, pending := pe, fn, tmps := a.tmps, params := ps, assign, body, defers := w.heap.size } := ⟨_, rfl⟩
  obtain ⟨W1, hW1⟩ : ∃ W1, (w.alloc (.deferred (some []))).alloc (.loop (rec .ready none)) = W1 := ⟨_, rfl⟩
  have hL1 : W1.heap[w.heap.size + 1]? = some (.loop (rec .ready none)) := by
    rw [← hW1]; have := World.alloc_heap_new (w.alloc (.deferred (some []))) (.loop (rec .ready none)); rwa [World.size_alloc] at this
  have hK1 : W1.heap[w.heap.size]? = some (.deferred (some [])) := by
    rw [← hW1]; exact (Below.heap_alloc _ _ _ (by simp)).trans (World.alloc_heap_new w _)
  have hI1 : I 0 W1 := by rw [← hW1]; exact hI 0 _ _ h0 (((Only.refl _ _).alloc _).alloc _)
  refine ⟨w.heap.size + 1, [{ target := .collected w.heap.size, args := #[] }], W1, { target := .fn (.func gf) caps, args := #[.func (.yield (w.heap.size + 1)) #[] #[]] }, W1, gf,
    #[.func (.yield (w.heap.size + 1)) #[] #[]] ++ caps, W1, ?_, ?_, fun _ _ => trivial, ?_, (fun h => by cases h), callsIn_wide.2 ?_⟩
  · rw [← hW1, hrec]; exact run_enterLoop_outer _ _ _ _ _
  · simp only [resolve, hg]
    simp [go_sem]
  · simp [invoke, go_sem, eg]
  · refine (hit (w.heap.size + 1)
      (fun k W => I k W ∧ W.heap[w.heap.size + 1]? = some (.loop (rec .ready none)) ∧ W.heap[w.heap.size]? = some (.deferred (some [])))
      (fun k W => ∃ c, Ix c k W ∧ W.heap[w.heap.size + 1]? = some (.loop (rec .done (some c))) ∧ W.heap[w.heap.size]? = some (.deferred (some [])))
      W1 ?_ ?_ (fun k W h => hM k W h.1) ?_ ⟨hI1, hL1, hK1⟩).mono ?_
    · rintro k W W' ⟨h1, h2, h3⟩ hk
      exact ⟨hI k W W' h1 (Only.of_kp hk), (hk.heap (Array.getElem?_eq_some_iff.1 h2).1).trans h2, (hk.heap (Array.getElem?_eq_some_iff.1 h3).1).trans h3⟩
    · rintro k W W' ⟨c, h1, h2, h3⟩ hk
      exact ⟨c, hIx c k W W' h1 (Only.of_kp hk), (hk.heap (Array.getElem?_eq_some_iff.1 h2).1).trans h2, (hk.heap (Array.getElem?_eq_some_iff.1 h3).1).trans h3⟩
    · rintro k W hk ⟨hi, hl, hd⟩
      have hlt : w.heap.size + 1 < W.heap.size := (Array.getElem?_eq_some_iff.1 hl).1
      have hy := run_yield (P := P) (args := xs k) hl (by rw [hrec]; exact hps k hk)
      rw [hrec] at hy
      refine ⟨fn, _, assign, body, hy, roundIn_of_wpIn trivial (wpIn_mono (hround _ k W hk hi) ?_)⟩
      rintro e₀ a' W' hq
      rcases e₀ with _ | id | t | _ | ch | _
      rotate_left
      · exact hq.elim
      · exact hq.elim
      · exact hq.elim
      · exact hq.elim
      · exact hq.elim
      obtain ⟨rfl, hbody⟩ := hq
      refine ⟨_, run_beginRound hl (by rw [hrec]), ?_⟩
      have hl2 : (W.putObj (w.heap.size + 1) (.loop { rec .ready none with state := .busy })).heap[w.heap.size + 1]? = some (.loop { rec .ready none with state := .busy }) := World.putObj_heap_same hlt
      have hd2 : (W.putObj (w.heap.size + 1) (.loop { rec .ready none with state := .busy })).heap[w.heap.size]? = some (.deferred (some [])) := (World.putObj_heap_other (by omega)).trans hd
      have hi2 : I k (W.putObj (w.heap.size + 1) (.loop { rec .ready none with state := .busy })) := hI k _ _ hi ((Only.refl _ _).putObj (by simp) _)
      refine wpIn_mono (hbody _ hi2 (by simpa using hlt)) ?_
      have fin : ∀ (jump : Option Code) (W3 : World), Kept2 w (W.putObj (w.heap.size + 1) (.loop { rec .ready none with state := .busy })) W3 →
          (Instr.endRound (w.heap.size + 1) jump).run P W3 = .ok (.bool jump.isNone) (W3.putObj (w.heap.size + 1) (.loop (rec (if jump.isNone then .ready else .done) jump))) ∧
          (W3.putObj (w.heap.size + 1) (.loop (rec (if jump.isNone then .ready else .done) jump))).heap[w.heap.size + 1]? = some (.loop (rec (if jump.isNone then .ready else .done) jump)) ∧
          (W3.putObj (w.heap.size + 1) (.loop (rec (if jump.isNone then .ready else .done) jump))).heap[w.heap.size]? = some (.deferred (some [])) := fun jump W3 hk3 => by
        have hl3 := hk3.2.trans hl2
        have hd3 := hk3.1.trans hd2
        have := run_endRound (P := P) jump hl3
        rw [hrec] at this ⊢
        exact ⟨this, World.putObj_heap_same (Array.getElem?_eq_some_iff.1 hl3).1, (World.putObj_heap_other (by omega)).trans hd3⟩
      rintro e a3 W3 hp
      cases e with
      | normal =>
        obtain ⟨hr, hl4, hd4⟩ := fin none W3 hp.1
        exact ⟨_, _, hr, .inl ⟨rfl, hI _ _ _ hp.2 ((Only.refl _ _).putObj (by simp) _), hl4, hd4⟩⟩
      | ret =>
        obtain ⟨hr, hl4, hd4⟩ := fin (some .ret) W3 hp.1
        exact ⟨_, _, hr, .inr ⟨rfl, .ret, hIx _ _ _ _ hp.2 ((Only.refl _ _).putObj (by simp) _), hl4, hd4⟩⟩
      | exit id =>
        obtain ⟨hr, hl4, hd4⟩ := fin (some (.exit id)) W3 hp.1
        exact ⟨_, _, hr, .inr ⟨rfl, .exit id, hIx _ _ _ _ hp.2 ((Only.refl _ _).putObj (by simp) _), hl4, hd4⟩⟩
      | goto t =>
        obtain ⟨hr, hl4, hd4⟩ := fin (some (.goto t)) W3 hp.1
        exact ⟨_, _, hr, .inr ⟨rfl, .goto t, hIx _ _ _ _ hp.2 ((Only.refl _ _).putObj (by simp) _), hl4, hd4⟩⟩
      | panic ch => exact hp.elim
      | outgrown => exact hp.elim
    · rintro e W3 ⟨rfl, h | ⟨k, hk0, hkN, c, hix, hl, hd⟩⟩
      · obtain ⟨hi, hl, hd⟩ := h
        have hend := run_endLoop (P := P) hl (by rw [hrec]; simp)
        have hpn : (rec .ready none).pending = none := by rw [hrec]
        rw [hpn] at hend
        refine ⟨none, _, hend, ?_⟩
        exact hdone _ (hI _ _ _ hi ((Only.refl _ _).putObj (by simp) _)) ((World.putObj_heap_other (by omega)).trans hd)
      · have hend := run_endLoop (P := P) hl (by rw [hrec]; simp)
        have hpn : (rec .done (some c)).pending = some c := by rw [hrec]
        rw [hpn] at hend
        refine ⟨some c, _, hend, ?_⟩
        refine (wpIn_wide (n := 0)).2 (hstop c k _ hk0 hkN (hIx _ _ _ _ hix ((Only.refl _ _).putObj (by simp) _)) ((World.putObj_heap_other (by omega)).trans hd))

/-- The marks of loops over functions are taken off, one by one. -/
def Takes : List Deferred → World → (World → Prop) → Prop
  | [], w, K => K w
  | d :: ds, w, K => ∃ r, d.target = .collected r ∧ w.heap[r]? = some (.deferred (some [])) ∧ Takes ds (w.putObj r (.deferred none)) K

theorem takes_steps {P : Program} {K : World → Prop} : ∀ (ds : List Deferred) (fr : Frame) (cs : List Frame) (w : World), fr.mode = .returning → fr.defers = ds → Takes ds w K →
    ∃ w', K w' ∧ Steps P (lone fr cs w) (lone { fr with defers := [] } cs w')
  | [], fr, cs, w, _, hd, h => ⟨w, h, by
      have : ({ fr with defers := [] } : Frame) = fr := by cases fr; simp_all
      rw [this]; exact Steps.refl P _⟩
  | d :: ds, fr, cs, w, hm, hd, ⟨r, ht, hr, h⟩ => by
    obtain ⟨w', hK, hs⟩ := takes_steps ds { fr with defers := [] ++ ds } cs _ hm rfl h
    exact ⟨w', hK, Steps.head (step_collected (by rw [hm]; simp) hd ht (run_takeDeferred hr)) hs⟩

/-- A body's end, with marks among what is deferred. -/
def bodyPostM (P : Program) (fn : Func) (R : Ending → World → Prop) : Exit → Act → World → Prop
  | .normal, a, w | .ret, a, w => Takes a.defers w (fun w' => ∃ v, (results fn a.tmps).run P w' = .ok v w' ∧ R (.returned v) w')
  | .outgrown, _, w => R .outgrown w
  | _, _, _ => False

theorem calls_of_wp_marks {P : Program} {f : FuncId} {fn : Func} {c : Code} {args : Array Value} {w : World} {R : Ending → World → Prop}
    (hf : P.funcs[f]? = some fn) (hb : fn.body = some c)
    (h : c.wp P (bodyPostM P fn R) { tmps := args ++ Array.replicate (fn.ntmps - args.size) undef, defers := [] } w) : Calls P f args w R := by
  intro cs
  let b : Frame := { (default : Frame) with fn := f, kind := .normal }
  have henter : Frame.enter P f args .normal = b.at { tmps := args ++ Array.replicate (fn.ntmps - args.size) undef, defers := [] } [.code c] := by
    simp [Frame.enter, Frame.at, hf, hb, b]
  obtain ⟨e, a', w', hq, harr⟩ := h b [] cs
  rw [← henter] at harr
  cases e with
  | normal =>
    obtain ⟨w2, ⟨v, hr, hR⟩, hs⟩ := takes_steps (P := P) a'.defers { b.at a' [] with mode := .returning } cs w' rfl rfl hq
    exact ⟨.returned v, w2, _, hR, Steps.trans harr (.head step_end hs), rfl, rfl, rfl, rfl, fn, hf, hr⟩
  | ret =>
    obtain ⟨todo, hs0⟩ := harr
    obtain ⟨w2, ⟨v, hr, hR⟩, hs⟩ := takes_steps (P := P) a'.defers { b.at a' todo with mode := .returning } cs w' rfl rfl hq
    exact ⟨.returned v, w2, _, hR, Steps.trans hs0 hs, rfl, rfl, rfl, rfl, fn, hf, hr⟩
  | panic chain => exact hq.elim
  | exit id => exact hq.elim
  | goto l => exact hq.elim
  | outgrown => exact ⟨.outgrown, w', b, hq, harr.resolve_left (by simp [b]), rfl, trivial⟩
theorem noGoto_normal {Q : Exit → Act → World → Prop} {a : Act} {w : World} (h : Q .normal a w) : Exit.noGoto Q .normal a w := h
end Go.Proofs.YtfaiponmjjbgoaaDoor
