/- Lemmas and contracts for the theorem of this claim: Range3, Range4, RangeH, SoB. -/
import Derived.Test.YtffckpkikdlbpaaGreatDoorZuAx
import Derived.LoopN
import Derived.RangeFuncCalls
import Derived.Maps.RangeWalk
set_option linter.all false
set_option maxHeartbeats 16000000
namespace Go.Proofs.YtffckpkikdlbpaaGreatDoor
section
open Go.RowKit
theorem vhf {P : Program} {g : Operand} {ps : Array Tmp} {assign body : Code} {Q : Exit → Act → World → Prop} {a : Act} {w : World} {gf : FuncId} {caps : Array Value} {N : Nat} {xs : Nat → Array Value} {M : World → Prop}
  (hg : a.eval g = .func (.func gf) #[] caps) (eg : ∀ args w, (callFunc gf args).run P w = .ok (.enter gf args) w) (hit : Iter P gf caps N xs M) (hps : ∀ k, k < N → (xs k).size = ps.size)
  (I : Nat → World → Prop) (Ix : Code → Nat → World → Prop)
  (hI : ∀ k W W', I k W → Only [w.heap.size, w.heap.size + 1] W W' → I k W') (hIx : ∀ c k W W', Ix c k W → Only [w.heap.size, w.heap.size + 1] W W' → Ix c k W')
  (hM : ∀ k W, I k W → M W) (h0 : I 0 w)
  (hround : ∀ l k W, k < N → I k W → w.heap.size + 1 < W.heap.size → assign.wpIn (Fence.wide.inRound l) 0 P (Exit.then (fun a' W' => Kept2 w W W' ∧ ∃ J : World → Prop, J W' ∧ (∀ V V', J V → Only [w.heap.size, w.heap.size + 1] V V' → J V') ∧ ∀ W2, J W2 → w.heap.size + 1 < W2.heap.size → body.wpIn (Fence.wide.inRound l) 0 P (rndPost w I Ix (k + 1) W2) a' W2) (fun _ _ _ => False))
   { tmps := (ps.zip (xs k)).foldl (fun t (p, v) => t.setIfInBounds p v) a.tmps, defers := [] } W)
  (hdone : ∀ W, I N W → W.heap[w.heap.size]? = some (.deferred (some [])) → Q .normal { a with defers := { target := .collected w.heap.size, args := #[] } :: a.defers } W)
  (hstop : ∀ c k W, 0 < k → k ≤ N → Ix c k W → W.heap[w.heap.size]? = some (.deferred (some [])) → c.wp P Q { a with defers := { target := .collected w.heap.size, args := #[] } :: a.defers } W) :
  (Code.rangeFunc g ps assign body).wp P Q a w := by
 refine (wpIn_wide (n := 0)).1 (wpIn_rangeFunc ?_)
 intro fn hfn
 obtain ⟨rec, hrec⟩ : ∃ rec : LoopState → Option Code → Loop, rec = fun st pe => { state := st, pending := pe, fn, tmps := a.tmps, params := ps, assign, body, defers := w.heap.size } := ⟨_, rfl⟩
 obtain ⟨W1, hW1⟩ : ∃ W1, (w.alloc (.deferred (some []))).alloc (.loop (rec .ready none)) = W1 := ⟨_, rfl⟩
 have hL1 : W1.heap[w.heap.size + 1]? = some (.loop (rec .ready none)) := by
  rw [← hW1]; have := World.alloc_heap_new (w.alloc (.deferred (some []))) (.loop (rec .ready none)); rwa [World.size_alloc] at this
 have hK1 : W1.heap[w.heap.size]? = some (.deferred (some [])) := by
  rw [← hW1]; exact (Below.heap_alloc _ _ _ (by simp)).trans (World.alloc_heap_new w _)
 have hI1 : I 0 W1 := by rw [← hW1]; exact hI 0 _ _ h0 (((Only.refl _ _).alloc _).alloc _)
 refine ⟨w.heap.size + 1, [{ target := .collected w.heap.size, args := #[] }], W1, { target := .fn (.func gf) caps, args := #[.func (.yield (w.heap.size + 1)) #[] #[]] }, W1, gf,
  #[.func (.yield (w.heap.size + 1)) #[] #[]] ++ caps, W1, ?_, ?_, fun _ _ => trivial, ?_, (fun h => by cases h), callsIn_wide.2 ?_⟩
 ·rw [← hW1, hrec]; exact run_enterLoop_outer _ _ _ _ _
 ·simp only [resolve, hg]
  simp [go_sem]
 ·simp [invoke, go_sem, eg]
 ·refine (hit (w.heap.size + 1)
   (fun k W => I k W ∧ W.heap[w.heap.size + 1]? = some (.loop (rec .ready none)) ∧ W.heap[w.heap.size]? = some (.deferred (some [])))
   (fun k W => ∃ c, Ix c k W ∧ W.heap[w.heap.size + 1]? = some (.loop (rec .done (some c))) ∧ W.heap[w.heap.size]? = some (.deferred (some [])))
   W1 ?_ ?_ (fun k W h => hM k W h.1) ?_ ⟨hI1, hL1, hK1⟩).mono ?_
  ·rintro k W W' ⟨h1, h2, h3⟩ hk
   exact ⟨hI k W W' h1 (Only.of_kp hk), (hk.heap (Array.getElem?_eq_some_iff.1 h2).1).trans h2, (hk.heap (Array.getElem?_eq_some_iff.1 h3).1).trans h3⟩
  ·rintro k W W' ⟨c, h1, h2, h3⟩ hk
   exact ⟨c, hIx c k W W' h1 (Only.of_kp hk), (hk.heap (Array.getElem?_eq_some_iff.1 h2).1).trans h2, (hk.heap (Array.getElem?_eq_some_iff.1 h3).1).trans h3⟩
  ·rintro k W hk ⟨hi, hl, hd⟩
   have hlt : w.heap.size + 1 < W.heap.size := (Array.getElem?_eq_some_iff.1 hl).1
   have hy := run_yield (P := P) (args := xs k) hl (by rw [hrec]; exact hps k hk)
   rw [hrec] at hy
   refine ⟨fn, _, assign, body, hy, roundIn_of_wpIn trivial (wpIn_mono (hround _ k W hk hi hlt) ?_)⟩
   rintro e₀ a' W' hq
   rcases e₀ with _ | id | t | _ | ch | _
   rotate_left
   ·exact hq.elim
   ·exact hq.elim
   ·exact hq.elim
   ·exact hq.elim
   ·exact hq.elim
   obtain ⟨hkp, J, hj, hJ, hbody⟩ := hq
   replace hl := hkp.2.trans hl
   replace hd := hkp.1.trans hd
   replace hlt : w.heap.size + 1 < W'.heap.size := (Array.getElem?_eq_some_iff.1 hl).1
   refine ⟨_, run_beginRound hl (by rw [hrec]), ?_⟩
   have hl2 : (W'.putObj (w.heap.size + 1) (.loop { rec .ready none with state := .busy })).heap[w.heap.size + 1]? = some (.loop { rec .ready none with state := .busy }) := World.putObj_heap_same hlt
   have hd2 : (W'.putObj (w.heap.size + 1) (.loop { rec .ready none with state := .busy })).heap[w.heap.size]? = some (.deferred (some [])) := (World.putObj_heap_other (by omega)).trans hd
   have hi2 : J (W'.putObj (w.heap.size + 1) (.loop { rec .ready none with state := .busy })) := hJ _ _ hj ((Only.refl _ _).putObj (by simp) _)
   refine wpIn_mono (hbody _ hi2 (by simpa using hlt)) ?_
   have fin : ∀ (jump : Option Code) (W3 : World), Kept2 w (W'.putObj (w.heap.size + 1) (.loop { rec .ready none with state := .busy })) W3 →
     (Instr.endRound (w.heap.size + 1) jump).run P W3 = .ok (.bool jump.isNone) (W3.putObj (w.heap.size + 1) (.loop (rec (if jump.isNone then .ready else .done) jump))) ∧
     (W3.putObj (w.heap.size + 1) (.loop (rec (if jump.isNone then .ready else .done) jump))).heap[w.heap.size + 1]? = some (.loop (rec (if jump.isNone then .ready else .done) jump)) ∧
     (W3.putObj (w.heap.size + 1) (.loop (rec (if jump.isNone then .ready else .done) jump))).heap[w.heap.size]? = some (.deferred (some [])) := fun jump W3 hk3 => by
    have hl3 := hk3.2.trans hl2
    have hd3 := hk3.1.trans hd2
    have := run_endRound (P := P) jump hl3
    rw [hrec] at this ⊢
    exact ⟨this, World.putObj_heap_same (Array.getElem?_eq_some_iff.1 hl3).1, (World.putObj_heap_other (by omega)).trans hd3⟩
   rintro e a3 W3 hp
   cases e with
   | normal =>
    obtain ⟨hr, hl4, hd4⟩ := fin none W3 hp.1
    exact ⟨_, _, hr, .inl ⟨rfl, hI _ _ _ hp.2 ((Only.refl _ _).putObj (by simp) _), hl4, hd4⟩⟩
   | ret =>
    obtain ⟨hr, hl4, hd4⟩ := fin (some .ret) W3 hp.1
    exact ⟨_, _, hr, .inr ⟨rfl, .ret, hIx _ _ _ _ hp.2 ((Only.refl _ _).putObj (by simp) _), hl4, hd4⟩⟩
   | exit id =>
    obtain ⟨hr, hl4, hd4⟩ := fin (some (.exit id)) W3 hp.1
    exact ⟨_, _, hr, .inr ⟨rfl, .exit id, hIx _ _ _ _ hp.2 ((Only.refl _ _).putObj (by simp) _), hl4, hd4⟩⟩
   | goto t =>
    obtain ⟨hr, hl4, hd4⟩ := fin (some (.goto t)) W3 hp.1
    exact ⟨_, _, hr, .inr ⟨rfl, .goto t, hIx _ _ _ _ hp.2 ((Only.refl _ _).putObj (by simp) _), hl4, hd4⟩⟩
   | panic ch => exact hp.elim
   | outgrown => exact hp.elim
  ·rintro e W3 ⟨rfl, h | ⟨k, hk0, hkN, c, hix, hl, hd⟩⟩
   ·obtain ⟨hi, hl, hd⟩ := h
    have hend := run_endLoop (P := P) hl (by rw [hrec]; simp)
    have hpn : (rec .ready none).pending = none := by rw [hrec]
    rw [hpn] at hend
    refine ⟨none, _, hend, ?_⟩
    exact hdone _ (hI _ _ _ hi ((Only.refl _ _).putObj (by simp) _)) ((World.putObj_heap_other (by omega)).trans hd)
   ·have hend := run_endLoop (P := P) hl (by rw [hrec]; simp)
    have hpn : (rec .done (some c)).pending = some c := by rw [hrec]
    rw [hpn] at hend
    refine ⟨some c, _, hend, ?_⟩
    refine (wpIn_wide (n := 0)).2 (hstop c k _ hk0 hkN (hIx _ _ _ _ hix ((Only.refl _ _).putObj (by simp) _)) ((World.putObj_heap_other (by omega)).trans hd))
theorem vdm {P : Program} {g : Operand} {ps : Array Tmp} {assign body : Code} {id : Nat} {Q : Exit → Act → World → Prop} {a : Act} {w : World} {gf : FuncId} {caps : Array Value} {N : Nat} {xs : Nat → Array Value} {M : World → Prop}
  (hg : a.eval g = .func (.func gf) #[] caps) (eg : ∀ args w, (callFunc gf args).run P w = .ok (.enter gf args) w) (hit : Iter P gf caps N xs M) (hps : ∀ k, k < N → (xs k).size = ps.size)
  (I Z : Nat → World → Prop) (S : World → Prop)
  (hI : ∀ k W W', I k W → Only [w.heap.size, w.heap.size + 1] W W' → I k W') (hZ : ∀ k W W', Z k W → Only [w.heap.size, w.heap.size + 1] W W' → Z k W')
  (hM : ∀ k W, I k W → M W) (h0 : I 0 w)
  (hIS : ∀ W, I N W → S W) (hZS : ∀ k W, 0 < k → k ≤ N → Z k W → S W)
  (hround : ∀ l k W, k < N → I k W → w.heap.size + 1 < W.heap.size → assign.wpIn (Fence.wide.inRound l) 0 P (Exit.then (fun a' W' => Kept2 w W W' ∧ ∃ J : World → Prop, J W' ∧ (∀ V V', J V → Only [w.heap.size, w.heap.size + 1] V V' → J V') ∧ ∀ W2, J W2 → w.heap.size + 1 < W2.heap.size → body.wpIn (Fence.wide.inRound l) 0 P (rndPost w I (fun c k W => c = .exit id ∧ Z k W) (k + 1) W2) a' W2) (fun _ _ _ => False))
   { tmps := (ps.zip (xs k)).foldl (fun t (p, v) => t.setIfInBounds p v) a.tmps, defers := [] } W)
  (rest : ∀ W, S W → W.heap[w.heap.size]? = some (.deferred (some [])) → Q .normal { a with defers := { target := .collected w.heap.size, args := #[] } :: a.defers } W) :
  (Code.rangeFunc g ps assign body).wp P (Exit.inBlock id Q) a w := by
 refine vhf hg eg hit hps I (fun c k W => c = .exit id ∧ Z k W) hI (fun c k W W' h hO => ⟨h.1, hZ k W W' h.2 hO⟩) hM h0 hround (fun W h hd => rest W (hIS W h) hd) ?_
 rintro c k W h1 h2 ⟨rfl, hz⟩ hd
 refine wp_exit ?_
 show (if id = id then Q .normal _ _ else Q (.exit id) _ _)
 rw [if_pos rfl]
 exact rest W (hZS k W h1 h2 hz) hd
end

section
open Go.RowKit
structure Turn (b B : Nat) (V V' : World) : Prop where
 os : V'.os = V.os
 tape : V'.tape = V.tape
 output : V'.output = V.output
 size : V.heap.size ≤ V'.heap.size
 block : ∀ j, j < V.heap.size → (j < b ∨ B ≤ j) → V'.heap[j]? = V.heap[j]?
structure Ring (b B : Nat) (V V' : World) : Prop where
 size : V.heap.size ≤ V'.heap.size
 block : ∀ j, b ≤ j → j < B → V'.heap[j]? = V.heap[j]?
section
variable {b B : Nat} {U V W : World}
theorem Turn.trans (h : Turn b B U V) (k : Turn b B V W) : Turn b B U W :=
 ⟨k.os.trans h.os, k.tape.trans h.tape, k.output.trans h.output, Nat.le_trans h.size k.size, fun j hj hn => (k.block j (Nat.lt_of_lt_of_le hj h.size) hn).trans (h.block j hj hn)⟩
theorem Turn.of_kp (h : Kp V W) : Turn b B V W := ⟨Below.os h, Below.tape h, Below.output h, Below.size h, fun j hj _ => Below.block h j hj⟩
theorem Turn.of_only {bs : List Nat} (h : Only bs V W) (hb : ∀ x ∈ bs, b ≤ x ∧ x < B) : Turn b B V W :=
 ⟨h.os, h.tape, h.output, h.size, fun j hj hn => h.block j hj (fun hm => by have := hb j hm; omega)⟩
theorem Turn.wide {b' B' : Nat} (h : Turn b B V W) (hb : b' ≤ b) (hB : B ≤ B') : Turn b' B' V W :=
 ⟨h.os, h.tape, h.output, h.size, fun j hj hn => h.block j hj (by omega)⟩
theorem Turn.heap (h : Turn b B V W) {j : Nat} (hj : j < V.heap.size) (hn : j < b ∨ B ≤ j) : W.heap[j]? = V.heap[j]? := h.block j hj hn
theorem Blk.turn {g : Nat} {t : TypeId} {cs : Array Value} (h : Blk V g t cs) (k : Turn b B V W) (hn : g < b ∨ B ≤ g) : Blk W g t cs := (k.block g h.lt hn).trans h
theorem Turn.kp (h : Turn b B V W) (k : Kp U V) (hU : U.heap.size ≤ b) : Kp U W :=
 Below.trans k ⟨h.os, h.tape, h.output, h.size, fun j hj => h.block j (Nat.lt_of_lt_of_le hj k.size) (.inl (Nat.lt_of_lt_of_le hj hU))⟩
theorem Turn.own {α : Type} {base e sz : Nat} {enc : α → List Value} {v : Value} {xs : List α} (h : Own V base e sz enc v xs) (k : Turn b B V W) (hb : B ≤ base) : Own W base e sz enc v xs := by
 refine ⟨h.1, ?_⟩
 rcases h.2 with h2 | ⟨g, cap, cur, hv, hg, hh, r⟩
 ·exact .inl h2
 ·exact .inr ⟨g, cap, cur, hv, hg, (k.block g (Array.getElem?_eq_some_iff.1 hh).1 (.inr (by omega))).trans hh, r⟩
theorem Ring.refl (b B : Nat) (V : World) : Ring b B V V := ⟨Nat.le_refl _, fun _ _ _ => rfl⟩
theorem Ring.trans (h : Ring b B U V) (k : Ring b B V W) : Ring b B U W := ⟨Nat.le_trans h.size k.size, fun j h1 h2 => (k.block j h1 h2).trans (h.block j h1 h2)⟩
theorem Ring.of_kp (h : Kp V W) (hB : B ≤ V.heap.size) : Ring b B V W := ⟨Below.size h, fun j _ h2 => Below.block h j (by omega)⟩
theorem Ring.of_only {bs : List Nat} (h : Only bs V W) (hB : B ≤ V.heap.size) (hb : ∀ x ∈ bs, x < b ∨ B ≤ x) : Ring b B V W :=
 ⟨h.size, fun j h1 h2 => h.block j (by omega) (fun hm => by have := hb j hm; omega)⟩
theorem Ring.setCell (h : Ring b B U V) {p : Addr} (hp : p.block < b ∨ B ≤ p.block) (u : Value) : Ring b B U (V.setCell p u) :=
 h.trans ⟨by simp [World.setCell], fun j h1 h2 => Below.heap_setCell V p u j (by rintro rfl; omega)⟩
theorem Ring.alloc (h : Ring b B U V) (hB : B ≤ V.heap.size) (o : Obj) : Ring b B U (V.alloc o) := h.trans (Ring.of_kp ((Kp.refl V).alloc o) hB)
theorem Ring.grown {row : Option Nat} (h : Ring b B U V) (hB : B ≤ V.heap.size) (hg : V.grownBy W row) (hr : ∀ k, row = some k → k < b ∨ B ≤ k) : Ring b B U W :=
 h.trans ⟨hg.size, fun j h1 h2 => hg.block j (by omega) (fun e => by have := hr j e.symm; omega)⟩
end
theorem Turn.putObj {b B r : Nat} (V : World) (h1 : b ≤ r) (h2 : r < B) (o : Obj) : Turn b B V (V.putObj r o) :=
 Turn.of_only ((Only.refl [r] V).putObj (by simp) o) (by simpa using ⟨h1, h2⟩)
end

section
open Go.RowKit
def IterH {σ : Type} (P : Program) (gf : FuncId) (caps : Array Value) (s0 : σ) (Nx : σ → Array Value → σ → Prop) (En : σ → Prop) (M : World → Prop) : Prop :=
 ∀ (l : Nat) (W : World) (I : Nat → σ → World → Prop),
  (∀ B s V V', W.heap.size ≤ B → I B s V → Turn W.heap.size B V V' → I B s V') →
  (∀ B s V, W.heap.size ≤ B → I B s V → M V) → M W →
  (∀ B V, Kp W V → W.heap.size ≤ B → V.heap.size ≤ B → I B s0 V) →
  (∀ B s V vs s', Nx s vs s' → W.heap.size ≤ B → B ≤ V.heap.size → I B s V → ∃ fn tmps assign body, (Instr.yield l vs).run P V = .ok (.round l fn tmps assign body) V ∧
   RoundIn Fence.wide 0 P l fn tmps assign body V (fun e V' => Ring W.heap.size B V V' ∧ e = .returned (.bool true) ∧ I B s' V')) →
  Calls P gf (#[.func (.yield l) #[] #[]] ++ caps) W (fun e W' => e = .returned (.tuple #[]) ∧ ∃ B s, W.heap.size ≤ B ∧ En s ∧ I B s W')
def rndPostH (w : World) (I : World → Prop) (B : Nat) (W : World) : Exit → Act → World → Prop
 | .normal, _, W' => Ring w.heap.size B W W' ∧ I W'
 | _, _, _ => False
theorem viJ {σ : Type} {P : Program} {g : Operand} {ps : Array Tmp} {assign body : Code} {Q : Exit → Act → World → Prop} {a : Act} {w : World} {gf : FuncId} {caps : Array Value} {s0 : σ} {Nx : σ → Array Value → σ → Prop} {En : σ → Prop} {M : World → Prop}
  (hg : a.eval g = .func (.func gf) #[] caps) (eg : ∀ args w, (callFunc gf args).run P w = .ok (.enter gf args) w) (hit : IterH P gf caps s0 Nx En M) (hps : ∀ s vs s', Nx s vs s' → vs.size = ps.size)
  (I : Nat → σ → World → Prop)
  (hI : ∀ B s V V', w.heap.size + 2 ≤ B → I B s V → Turn w.heap.size B V V' → I B s V')
  (hM : ∀ B s V, w.heap.size + 2 ≤ B → I B s V → M V) (h0 : ∀ B V, Kp w V → w.heap.size + 2 ≤ B → V.heap.size ≤ B → I B s0 V)
  (hround : ∀ l B s V vs s', Nx s vs s' → w.heap.size + 2 ≤ B → B ≤ V.heap.size → I B s V → assign.wpIn (Fence.wide.inRound l) 0 P (Exit.then (fun a' V' => Ring w.heap.size B V V' ∧ ∃ J : World → Prop, J V' ∧ (∀ U U', J U → Turn w.heap.size B U U' → J U') ∧ ∀ W2, J W2 → B ≤ W2.heap.size → body.wpIn (Fence.wide.inRound l) 0 P (rndPostH w (I B s') B W2) a' W2) (fun _ _ _ => False))
   { tmps := (ps.zip vs).foldl (fun t (p, v) => t.setIfInBounds p v) a.tmps, defers := [] } V)
  (hdone : ∀ B s W, w.heap.size + 2 ≤ B → En s → I B s W → W.heap[w.heap.size]? = some (.deferred (some [])) → Q .normal { a with defers := { target := .collected w.heap.size, args := #[] } :: a.defers } W) :
  (Code.rangeFunc g ps assign body).wp P Q a w := by
 refine (wpIn_wide (n := 0)).1 (wpIn_rangeFunc ?_)
 intro fn hfn
 obtain ⟨rec, hrec⟩ : ∃ rec : LoopState → Option Code → Loop, rec = fun st pe => { state := st, pending := pe, fn, tmps := a.tmps, params := ps, assign, body, defers := w.heap.size } := ⟨_, rfl⟩
 obtain ⟨W1, hW1⟩ : ∃ W1, (w.alloc (.deferred (some []))).alloc (.loop (rec .ready none)) = W1 := ⟨_, rfl⟩
 have hL1 : W1.heap[w.heap.size + 1]? = some (.loop (rec .ready none)) := by
  rw [← hW1]; have := World.alloc_heap_new (w.alloc (.deferred (some []))) (.loop (rec .ready none)); rwa [World.size_alloc] at this
 have hK1 : W1.heap[w.heap.size]? = some (.deferred (some [])) := by
  rw [← hW1]; exact (Below.heap_alloc _ _ _ (by simp)).trans (World.alloc_heap_new w _)
 have hKW : Kp w W1 := by rw [← hW1]; exact ((Kp.refl _).alloc _).alloc _
 have hsz : W1.heap.size = w.heap.size + 2 := by rw [← hW1]; simp
 have tw : ∀ {B V V'}, Turn W1.heap.size B V V' → Turn w.heap.size B V V' := fun h => h.wide (by omega) (Nat.le_refl _)
 refine ⟨w.heap.size + 1, [{ target := .collected w.heap.size, args := #[] }], W1, { target := .fn (.func gf) caps, args := #[.func (.yield (w.heap.size + 1)) #[] #[]] }, W1, gf,
  #[.func (.yield (w.heap.size + 1)) #[] #[]] ++ caps, W1, ?_, ?_, fun _ _ => trivial, ?_, (fun h => by cases h), callsIn_wide.2 ?_⟩
 ·rw [← hW1, hrec]; exact run_enterLoop_outer _ _ _ _ _
 ·simp only [resolve, hg]
  simp [go_sem]
 ·simp [invoke, go_sem, eg]
 ·refine (hit (w.heap.size + 1) W1
   (fun B k W => I B k W ∧ W.heap[w.heap.size + 1]? = some (.loop (rec .ready none)) ∧ W.heap[w.heap.size]? = some (.deferred (some [])))
   ?_ (fun B k W hB h => hM B k W (by omega) h.1) (hM W1.heap.size s0 W1 (by omega) (h0 _ _ hKW (by omega) (Nat.le_refl _))) ?_ ?_).mono ?_
  ·rintro B k W W' hB ⟨h1, h2, h3⟩ hk
   exact ⟨hI B k W W' (by omega) h1 (tw hk), (hk.heap (Array.getElem?_eq_some_iff.1 h2).1 (.inl (by omega))).trans h2, (hk.heap (Array.getElem?_eq_some_iff.1 h3).1 (.inl (by omega))).trans h3⟩
  ·rintro B V hV hB hVB
   exact ⟨h0 B V (hKW.trans hV) (by omega) hVB, (hV.heap (by omega)).trans hL1, (hV.heap (by omega)).trans hK1⟩
  ·rintro B k W vs k' hk hB hBW ⟨hi, hl, hd⟩
   have hlt : w.heap.size + 1 < W.heap.size := (Array.getElem?_eq_some_iff.1 hl).1
   have hy := run_yield (P := P) (args := vs) hl (by rw [hrec]; exact hps k vs k' hk)
   rw [hrec] at hy
   refine ⟨fn, _, assign, body, hy, roundIn_of_wpIn trivial (wpIn_mono (hround _ B k W vs k' hk (by omega) hBW hi) ?_)⟩
   rintro e₀ a' W' hq
   rcases e₀ with _ | id | t | _ | ch | _
   rotate_left
   ·exact hq.elim
   ·exact hq.elim
   ·exact hq.elim
   ·exact hq.elim
   ·exact hq.elim
   obtain ⟨hkp, J, hj, hJ, hbody⟩ := hq
   replace hl := (hkp.block (w.heap.size + 1) (by omega) (by omega)).trans hl
   replace hd := (hkp.block w.heap.size (by omega) (by omega)).trans hd
   replace hlt : w.heap.size + 1 < W'.heap.size := (Array.getElem?_eq_some_iff.1 hl).1
   refine ⟨_, run_beginRound hl (by rw [hrec]), ?_⟩
   have hl2 : (W'.putObj (w.heap.size + 1) (.loop { rec .ready none with state := .busy })).heap[w.heap.size + 1]? = some (.loop { rec .ready none with state := .busy }) := World.putObj_heap_same hlt
   have hd2 : (W'.putObj (w.heap.size + 1) (.loop { rec .ready none with state := .busy })).heap[w.heap.size]? = some (.deferred (some [])) := (World.putObj_heap_other (by omega)).trans hd
   have hi2 : J (W'.putObj (w.heap.size + 1) (.loop { rec .ready none with state := .busy })) := hJ _ _ hj (Turn.putObj _ (by omega) (by omega) _)
   have hs2 : B ≤ (W'.putObj (w.heap.size + 1) (.loop { rec .ready none with state := .busy })).heap.size := by
    have := hkp.size
    simp; omega
   have hr0 : Ring W1.heap.size B W (W'.putObj (w.heap.size + 1) (.loop { rec .ready none with state := .busy })) :=
    ⟨by have := hkp.size; simpa using this, fun j h1 h2 => (World.putObj_heap_other (by omega)).trans (hkp.block j (by omega) h2)⟩
   refine wpIn_mono (hbody _ hi2 hs2) ?_
   have fin : ∀ (jump : Option Code) (W3 : World), Ring w.heap.size B (W'.putObj (w.heap.size + 1) (.loop { rec .ready none with state := .busy })) W3 →
     (Instr.endRound (w.heap.size + 1) jump).run P W3 = .ok (.bool jump.isNone) (W3.putObj (w.heap.size + 1) (.loop (rec (if jump.isNone then .ready else .done) jump))) ∧
     (W3.putObj (w.heap.size + 1) (.loop (rec (if jump.isNone then .ready else .done) jump))).heap[w.heap.size + 1]? = some (.loop (rec (if jump.isNone then .ready else .done) jump)) ∧
     (W3.putObj (w.heap.size + 1) (.loop (rec (if jump.isNone then .ready else .done) jump))).heap[w.heap.size]? = some (.deferred (some [])) ∧
     Ring W1.heap.size B W (W3.putObj (w.heap.size + 1) (.loop (rec (if jump.isNone then .ready else .done) jump))) := fun jump W3 hk3 => by
    have hl3 := (hk3.block (w.heap.size + 1) (by omega) (by omega)).trans hl2
    have hd3 := (hk3.block w.heap.size (by omega) (by omega)).trans hd2
    have := run_endRound (P := P) jump hl3
    rw [hrec] at this ⊢
    refine ⟨this, World.putObj_heap_same (Array.getElem?_eq_some_iff.1 hl3).1, (World.putObj_heap_other (by omega)).trans hd3, ?_⟩
    refine ⟨by have h1 := hr0.size; have h2 := hk3.size; simp at h1 h2 ⊢; omega, fun j h1 h2 => (World.putObj_heap_other (show j ≠ w.heap.size + 1 by omega)).trans ((hk3.block j (by omega) h2).trans (hr0.block j h1 h2))⟩
   rintro e a3 W3 hp
   cases e with
   | normal =>
    obtain ⟨hr, hl4, hd4, hri⟩ := fin none W3 hp.1
    exact ⟨_, _, hr, hri, rfl, hI B _ _ _ (by omega) hp.2 (Turn.putObj _ (by omega) (by omega) _), hl4, hd4⟩
   | ret => exact hp.elim
   | exit id => exact hp.elim
   | goto t => exact hp.elim
   | panic ch => exact hp.elim
   | outgrown => exact hp.elim
  ·rintro e W3 ⟨rfl, B, s, hB, hE, hi, hl, hd⟩
   have hend := run_endLoop (P := P) hl (by rw [hrec]; simp)
   have hpn : (rec .ready none).pending = none := by rw [hrec]
   rw [hpn] at hend
   refine ⟨none, _, hend, ?_⟩
   exact hdone B s _ (by omega) hE (hI B _ _ _ (by omega) hi (Turn.putObj _ (by omega) (by omega) _)) ((World.putObj_heap_other (by omega)).trans hd)
end

section
open Go.RowKit Go.Maps Go.WideShapes Go.ChangeMaps
open Go.WideElems (rg)
def NxV (L : List Rt) (s : List Rt) (vs : Array Value) (s' : List Rt) : Prop := ∃ r ∈ L, r ∉ s ∧ vs = #[roV r] ∧ s' = s ++ [r]
def EnV (L : List Rt) (s : List Rt) : Prop := ∀ r ∈ L, r ∈ s
def RngV (w : World) (mp r : Nat) (L s : List Rt) (cnt : Nat) : Prop := ∃ es left, es.Perm (L.map entR) ∧ w.ranges Tryz.prog 29 rdAll mp r L.length (.map es) left cnt ∧ ∀ x ∈ L, left (pfKey x.p) = true ↔ x ∉ s
theorem RngV.lie {w w' : World} {mp r : Nat} {L s : List Rt} {cnt : Nat} (h : RngV w mp r L s cnt) (e1 : w'.heap[mp]? = w.heap[mp]?) (e2 : w'.heap[r]? = w.heap[r]?) : RngV w' mp r L s cnt := by
 obtain ⟨es, left, h1, ⟨es', clock, since, seen, c0, g1, g2, g3, g4, g5, g6⟩, h3⟩ := h
 exact ⟨es, left, h1, ⟨es', clock, since, seen, c0, e1.trans g1, g2, g3, g4, e2.trans g5, g6⟩, h3⟩
theorem RngV.start {w : World} {mp r : Nat} {L : List Rt} {es : List (Lit × DataW Value)} {cnt : Nat} (hes : es.Perm (L.map entR)) (hw : ∀ x ∈ L, wfP x.p) (h : w.ranges Tryz.prog 29 rdAll mp r L.length (.map es) (Maps.has (.map es)) cnt) : RngV w mp r L [] cnt := by
 refine ⟨es, _, hes, h, fun x hx => ⟨fun _ => by simp, fun _ => ?_⟩⟩
 exact List.any_eq_true.2 ⟨entR x, hes.mem_iff.2 (List.mem_map.2 ⟨x, hx, rfl⟩), by show (pfKey x.p).sameKey (pfKey x.p) = true; rw [vcD (hw x hx) (hw x hx), decide_eq_true rfl]⟩
theorem RngV.step {w w' : World} {mp r : Nat} {L s : List Rt} {es : List (Lit × DataW Value)} {left : Lit → Bool} {cnt cnt' : Nat} {kl : Lit} {c : Value} {y : DataW Value × List MemPlace} (u : UpR L) (hw : ∀ x ∈ L, wfP x.p)
  (hes : es.Perm (L.map entR)) (h : w.ranges Tryz.prog 29 rdAll mp r L.length (.map es) left cnt) (hl : ∀ x ∈ L, left (pfKey x.p) = true ↔ x ∉ s)
  (hk : left kl = true) (hv : rdAll c = some y) (hat : ∀ zd, DataW.atKey (.map es) kl zd = y.1) (h' : w'.ranges Tryz.prog 29 rdAll mp r L.length (.map es) (fun z => left z && !z.sameKey kl) cnt') :
  ∃ x ∈ L, x ∉ s ∧ c = roV x ∧ kl = pfKey x.p ∧ RngV w' mp r L (s ++ [x]) cnt' := by
 obtain ⟨x, hx, hxk⟩ : ∃ x ∈ L, pfKey x.p = kl := by
  obtain ⟨es', clock, since, seen, c0, g1, g2, g3, g4, g5, g6, g7, g8, g9, _⟩ := h
  obtain ⟨e, he, hek⟩ := g9 kl hk
  injection g4 with g4
  have hm : rg Tryz.prog 29 rdAll e ∈ es := by rw [g4]; exact mem_sorted.2 (List.mem_map.2 ⟨e, he, rfl⟩)
  obtain ⟨x, hx, hxe⟩ := List.mem_map.1 (hes.mem_iff.1 hm)
  exact ⟨x, hx, by rw [← hek, ← hxe]; rfl⟩
 subst hxk
 have hns := (hl x hx).1 hk
 refine ⟨x, hx, hns, ?_, rfl, es, _, hes, h', fun z hz => ?_⟩
 ·have h1 := (vef hes u hw (hw x hx)).1 (.held c)
  rw [hat, vaO u hx] at h1
  unfold rdAll at hv
  injection hv with hv
  rw [← hv] at h1
  simp only at h1
  injection h1
 ·show (left (pfKey z.p) && !(pfKey z.p).sameKey (pfKey x.p)) = true ↔ _
  rw [Bool.and_eq_true, hl z hz, vcD (hw z hz) (hw x hx), Bool.not_eq_true', decide_eq_false_iff_not, List.mem_append, List.mem_singleton, not_or]
  refine and_congr Iff.rfl ?_
  exact ⟨fun h e => h (by rw [e]), fun h e => h (u.inj hz hx e)⟩
theorem RngV.done {w : World} {mp r : Nat} {L s : List Rt} {left : Lit → Bool} (hl : ∀ x ∈ L, left (pfKey x.p) = true ↔ x ∉ s) (h0 : ∀ kl, left kl = false) : EnV L s := fun x hx => by
 have h := mt (hl x hx).2 (by rw [h0]; simp)
 exact Classical.not_not.1 h
def valsV (bx : Nat) : Value := .func (.func 119) #[] #[.pointer (some ⟨bx, 0, none⟩)]
theorem vcs (fn : Fn) (first cap : Array Value) (w : World) : (Instr.makeFunc fn first cap).run Tryz.prog w = .ok (.func fn first cap) w := rfl
theorem vkO (mp : Nat) (w : World) :
  Calls Tryz.prog 83 #[.map (some mp)] w fun e w' => e = .returned (valsV w.heap.size) ∧ Blk w' w.heap.size 105 #[.map (some mp)] ∧ Kp w w' := by
 have hmf := vcs
 unfold valsV
 go_enter Tryz.func83, Tryz.ntmps83
 go_wp2_with fail
 go_ret
 exact ⟨rfl, Blk.new w _ _, (Kp.refl _).alloc _⟩
theorem vhg (args : Array Value) (w : World) : (callFunc 119 args).run Tryz.prog w = .ok (.enter 119 args) w := by kernel_rfl
set_option maxRecDepth 100000 in
theorem vhh (L : List Rt) (mp mb : Nat) (o : Obj) (u : UpR L) (hw : ∀ r ∈ L, wfP r.p) (hm : ∀ V : World, V.heap[mp]? = some o → MapR V mp L) :
  IterH Tryz.prog 119 #[.pointer (some ⟨mb, 0, none⟩)] [] (NxV L) (EnV L) (fun V => Blk V mb 105 #[.map (some mp)] ∧ V.heap[mp]? = some o) := by
 intro l W I hI hM hM0 h0 hy
 have c0 : W.cell? ⟨mb, 0, none⟩ = some (.map (some mp)) := hM0.1.cell 0
 obtain ⟨es, hown, hes⟩ := hm W hM0.2
 have HI := Lib.hid hI
 have HM := Lib.hid hM
 have H0 := Lib.hid h0
 have HY := Lib.hid hy
 have HU := Lib.hid u
 have HW := Lib.hid hw
 have HE := Lib.hid hes
 have mlt : mp < W.heap.size := (Array.getElem?_eq_some_iff.1 hM0.2).1
 have HML := Lib.hid mlt
 clear hI hM h0 hy hM0 u hw hes hm mlt
 go_enter Tryz.func119, Tryz.ntmps119
 go_wp2_with (at_range; refine wpList_range_own _ rfl _ 105 rfl 29 87 keyedPf Tryz.underlying105 rdAll mp L.length _ rfl hown ?_; intro w0 hrg0 hg0 hs0)
 have Hr0 := Lib.hid (RngV.start HE.out HW.out hrg0)
 have hk0 : Kp W w0 := (Kp.refl W).grown hg0 (by simp)
 have Hk0 := Lib.hid (H0.out (W.heap.size + 1) w0 hk0 (by omega) (by omega))
 have Hs0 := Lib.hid hs0
 clear hrg0 hg0 hk0 hs0 hown c0
 go_loopw [7] (fun _ wr => ∃ s cnt, RngV wr mp W.heap.size L s cnt ∧ W.heap.size < wr.heap.size ∧ I (W.heap.size + 1) s wr) (fun _ wr => wr.rangeLeft mp W.heap.size)
 case atStart => exact ⟨[], _, Hr0.out, by rw [Hs0.out]; omega, Hk0.out⟩
 case round =>
  obtain ⟨s, cnt, ⟨es', left, hes', hr, hl⟩, hsz, hi⟩ := hrel
  have HI1 := Lib.hid hi
  have HL := Lib.hid hl
  have HE1 := Lib.hid hes'
  clear hi hl hes'
  go_wp2_with (at_next; refine wpList_next_ranges _ rfl _ rfl 29 keyedPf rdAll id id (fun key _ _ => ⟨key, rfl⟩) (fun v _ _ => ⟨v, rfl⟩) mp W.heap.size L.length _ _ _ rfl hr ?_ ?_)
  ·intro _ hl0
   have HD := Lib.hid (RngV.done (w := wr) (mp := mp) (r := W.heap.size) HL.out hl0)
   clear hl0 hr
   go_wp2_with fail
   go_end0
   exact ⟨rfl, W.heap.size + 1, s, by omega, HD.out, HI1.out⟩
  ·intro x c kl yd yp w1 cnt1 hkey hlx hv hat hrg1 hlt hg1 hs1 hen
   obtain ⟨r, hrL, hrs, hc, _, hR1⟩ := RngV.step HU.out HW.out HE1.out hr HL.out hlx hv hat hrg1
   have hc' : c = roV r := hc
   subst hc'
   have hle := hr.left_eq
   have HLT := Lib.hid (show cnt1 < wr.rangeLeft mp W.heap.size by rw [hle]; exact hlt)
   have hT1 : Turn W.heap.size (W.heap.size + 1) wr w1 := ⟨hg1.os, hg1.tape, hg1.output, by omega, fun j hj hn => hg1.block j hj (by intro e; injection e with e; omega)⟩
   obtain ⟨V, hV, hKV⟩ : ∃ V, w1.alloc (.cells (roC r) 87) = V ∧ Kp w1 V := ⟨_, rfl, (Kp.refl _).alloc _⟩
   have HI2 := Lib.hid (HI.out _ _ _ _ (by omega) HI1.out (hT1.trans (Turn.of_kp hKV)))
   have HR2 := Lib.hid (hR1.lie (hKV.heap (k := mp) (by have := HML.out; omega)) (hKV.heap (k := W.heap.size) (by omega)))
   have HVS := Lib.hid hKV.size
   have b0 : Blk V w1.heap.size 87 (roC r) := by rw [← hV]; exact Blk.new _ _ _
   have HB := Lib.hid b0
   have HRL := Lib.hid hrL
   have HRS := Lib.hid hrs
   have HS1 := Lib.hid hs1
   unfold roC at hV
   clear hkey hlx hv hat hrg1 hlt hg1 hc hR1 hle hT1 hKV hr hrL hrs b0 hs1
   go_upto_region 3 with (fail)
   have hV1 := HVS.out
   have hV2 := HS1.out
   obtain ⟨fn, tmps, asg, bd, hrun, hround⟩ := HY.out (W.heap.size + 1) s V #[roV r] (s ++ [r]) ⟨r, HRL.out, HRS.out, rfl, rfl⟩ (by omega) (by omega) HI2.out
   have HM2 := Lib.hid (HM.out _ _ _ (by omega) HI2.out)
   have HRN := Lib.hid hrun
   have HRO := Lib.hid hround
   have HC := Lib.hid (vab HB.out)
   obtain ⟨r0, r1, r2, r3, r4, r5, r6, r7, r8⟩ := HC.out
   have HZ := Lib.hid (show W.heap.size + 1 ≤ V.heap.size by omega)
   clear hrun hround hV1 hV2
   refine (wpIn_wide (n := 0)).1 ?_
   gi_wp2_with fail
   rw [HRN.out, Oper.uponIn_round]
   refine ⟨(fun h => by cases h), HRO.out.mono ?_⟩
   rintro e W' ⟨hRg, rfl, hi2⟩
   have HI3 := Lib.hid hi2
   have HM3 := Lib.hid (HM.out _ _ _ (by omega) hi2)
   have HR3 := Lib.hid (HR2.out.lie (HM3.out.2.trans HM2.out.2.symm) (hRg.block W.heap.size (Nat.le_refl _) (by omega)))
   have HS3 := Lib.hid hRg.size
   clear hi2 hRg r0 r1 r2 r3 r4 r5 r6 r7 r8
   gi_wp2_with fail
   go_wp2_with fail
   go_roundw
   case rel => exact ⟨s ++ [r], cnt1, HR3.out, by have := HS3.out; have := HZ.out; omega, HI3.out⟩
   case measure =>
    obtain ⟨_, _, _, h, _⟩ := HR3.out
    rw [h.left_eq]
    exact HLT.out
end

end Go.Proofs.YtffckpkikdlbpaaGreatDoor
