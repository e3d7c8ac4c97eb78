/- Lemmas and contracts for the theorem of this claim: Range4, RangeH. -/
import Derived.Test.YtgopnfacklmkaaaGreatDoorZzAw
set_option linter.all false
set_option maxHeartbeats 16000000
namespace Go.Proofs.YtgopnfacklmkaaaGreatDoor
section
open Go.RowKit
structure Turn (b B : Nat) (V V' : World) : Prop where
 os : V'.os = V.os
 tape : V'.tape = V.tape
 output : V'.output = V.output
 size : V.heap.size ≤ V'.heap.size
 block : ∀ j, j < V.heap.size → (j < b ∨ B ≤ j) → V'.heap[j]? = V.heap[j]?
structure Ring (b B : Nat) (V V' : World) : Prop where
 size : V.heap.size ≤ V'.heap.size
 block : ∀ j, b ≤ j → j < B → V'.heap[j]? = V.heap[j]?
section
variable {b B : Nat} {U V W : World}
theorem Turn.trans (h : Turn b B U V) (k : Turn b B V W) : Turn b B U W :=
 ⟨k.os.trans h.os, k.tape.trans h.tape, k.output.trans h.output, Nat.le_trans h.size k.size, fun j hj hn => (k.block j (Nat.lt_of_lt_of_le hj h.size) hn).trans (h.block j hj hn)⟩
theorem Turn.of_kp (h : Kp V W) : Turn b B V W := ⟨Below.os h, Below.tape h, Below.output h, Below.size h, fun j hj _ => Below.block h j hj⟩
theorem Turn.of_only {bs : List Nat} (h : Only bs V W) (hb : ∀ x ∈ bs, b ≤ x ∧ x < B) : Turn b B V W :=
 ⟨h.os, h.tape, h.output, h.size, fun j hj hn => h.block j hj (fun hm => by have := hb j hm; omega)⟩
theorem Turn.wide {b' B' : Nat} (h : Turn b B V W) (hb : b' ≤ b) (hB : B ≤ B') : Turn b' B' V W :=
 ⟨h.os, h.tape, h.output, h.size, fun j hj hn => h.block j hj (by omega)⟩
theorem Turn.setCell (h : Turn b B U V) {p : Addr} (h1 : b ≤ p.block) (h2 : p.block < B) (u : Value) : Turn b B U (V.setCell p u) :=
 h.trans (Turn.of_only ((Only.refl [p.block] V).setCell (.inl (by simp)) u) (by simpa using ⟨h1, h2⟩))
theorem Turn.heap (h : Turn b B V W) {j : Nat} (hj : j < V.heap.size) (hn : j < b ∨ B ≤ j) : W.heap[j]? = V.heap[j]? := h.block j hj hn
theorem Blk.turn {g : Nat} {t : TypeId} {cs : Array Value} (h : Blk V g t cs) (k : Turn b B V W) (hn : g < b ∨ B ≤ g) : Blk W g t cs := (k.block g h.lt hn).trans h
theorem Turn.cell (h : Turn b B V W) {p : Addr} {v : Value} (hc : V.cell? p = some v) (hp : p.block < b ∨ B ≤ p.block) : W.cell? p = some v :=
 (World.cell?_of_block (w := V) (h.block p.block (World.block_lt_of_cell? V p hc) hp)).trans hc
theorem Turn.kp (h : Turn b B V W) (k : Kp U V) (hU : U.heap.size ≤ b) : Kp U W :=
 Below.trans k ⟨h.os, h.tape, h.output, h.size, fun j hj => h.block j (Nat.lt_of_lt_of_le hj k.size) (.inl (Nat.lt_of_lt_of_le hj hU))⟩
theorem Turn.own {α : Type} {base e sz : Nat} {enc : α → List Value} {v : Value} {xs : List α} (h : Own V base e sz enc v xs) (k : Turn b B V W) (hb : B ≤ base) : Own W base e sz enc v xs := by
 refine ⟨h.1, ?_⟩
 rcases h.2 with h2 | ⟨g, cap, cur, hv, hg, hh, r⟩
 ·exact .inl h2
 ·exact .inr ⟨g, cap, cur, hv, hg, (k.block g (Array.getElem?_eq_some_iff.1 hh).1 (.inr (by omega))).trans hh, r⟩
theorem Ring.refl (b B : Nat) (V : World) : Ring b B V V := ⟨Nat.le_refl _, fun _ _ _ => rfl⟩
theorem Ring.trans (h : Ring b B U V) (k : Ring b B V W) : Ring b B U W := ⟨Nat.le_trans h.size k.size, fun j h1 h2 => (k.block j h1 h2).trans (h.block j h1 h2)⟩
theorem Ring.of_kp (h : Kp V W) (hB : B ≤ V.heap.size) : Ring b B V W := ⟨Below.size h, fun j _ h2 => Below.block h j (by omega)⟩
theorem Ring.of_only {bs : List Nat} (h : Only bs V W) (hB : B ≤ V.heap.size) (hb : ∀ x ∈ bs, x < b ∨ B ≤ x) : Ring b B V W :=
 ⟨h.size, fun j h1 h2 => h.block j (by omega) (fun hm => by have := hb j hm; omega)⟩
theorem Ring.setCell (h : Ring b B U V) {p : Addr} (hp : p.block < b ∨ B ≤ p.block) (u : Value) : Ring b B U (V.setCell p u) :=
 h.trans ⟨by simp [World.setCell], fun j h1 h2 => Below.heap_setCell V p u j (by rintro rfl; omega)⟩
theorem Ring.alloc (h : Ring b B U V) (hB : B ≤ V.heap.size) (o : Obj) : Ring b B U (V.alloc o) := h.trans (Ring.of_kp ((Kp.refl V).alloc o) hB)
theorem Ring.grown {row : Option Nat} (h : Ring b B U V) (hB : B ≤ V.heap.size) (hg : V.grownBy W row) (hr : ∀ k, row = some k → k < b ∨ B ≤ k) : Ring b B U W :=
 h.trans ⟨hg.size, fun j h1 h2 => hg.block j (by omega) (fun e => by have := hr j e.symm; omega)⟩
end
theorem Turn.putObj {b B r : Nat} (V : World) (h1 : b ≤ r) (h2 : r < B) (o : Obj) : Turn b B V (V.putObj r o) :=
 Turn.of_only ((Only.refl [r] V).putObj (by simp) o) (by simpa using ⟨h1, h2⟩)
end

section
open Go.RowKit
def IterH {σ : Type} (P : Program) (gf : FuncId) (caps : Array Value) (s0 : σ) (Nx : σ → Array Value → σ → Prop) (En : σ → Prop) (M : World → Prop) : Prop :=
 ∀ (l : Nat) (W : World) (I : Nat → σ → World → Prop),
  (∀ B s V V', W.heap.size ≤ B → I B s V → Turn W.heap.size B V V' → I B s V') →
  (∀ B s V, W.heap.size ≤ B → I B s V → M V) → M W →
  (∀ B V, Kp W V → W.heap.size ≤ B → V.heap.size ≤ B → I B s0 V) →
  (∀ B s V vs s', Nx s vs s' → W.heap.size ≤ B → B ≤ V.heap.size → I B s V → ∃ fn tmps assign body, (Instr.yield l vs).run P V = .ok (.round l fn tmps assign body) V ∧
   RoundIn Fence.wide 0 P l fn tmps assign body V (fun e V' => Ring W.heap.size B V V' ∧ e = .returned (.bool true) ∧ I B s' V')) →
  Calls P gf (#[.func (.yield l) #[] #[]] ++ caps) W (fun e W' => e = .returned (.tuple #[]) ∧ ∃ B s, W.heap.size ≤ B ∧ En s ∧ I B s W')
def rndPostH (w : World) (I : World → Prop) (B : Nat) (W : World) : Exit → Act → World → Prop
 | .normal, _, W' => Ring w.heap.size B W W' ∧ I W'
 | _, _, _ => False
theorem vkE {σ : Type} {P : Program} {g : Operand} {ps : Array Tmp} {assign body : Code} {Q : Exit → Act → World → Prop} {a : Act} {w : World} {gf : FuncId} {caps : Array Value} {s0 : σ} {Nx : σ → Array Value → σ → Prop} {En : σ → Prop} {M : World → Prop}
  (hg : a.eval g = .func (.func gf) #[] caps) (eg : ∀ args w, (callFunc gf args).run P w = .ok (.enter gf args) w) (hit : IterH P gf caps s0 Nx En M) (hps : ∀ s vs s', Nx s vs s' → vs.size = ps.size)
  (I : Nat → σ → World → Prop)
  (hI : ∀ B s V V', w.heap.size + 2 ≤ B → I B s V → Turn w.heap.size B V V' → I B s V')
  (hM : ∀ B s V, w.heap.size + 2 ≤ B → I B s V → M V) (h0 : ∀ B V, Kp w V → w.heap.size + 2 ≤ B → V.heap.size ≤ B → I B s0 V)
  (hround : ∀ l B s V vs s', Nx s vs s' → w.heap.size + 2 ≤ B → B ≤ V.heap.size → I B s V → assign.wpIn (Fence.wide.inRound l) 0 P (Exit.then (fun a' V' => Ring w.heap.size B V V' ∧ ∃ J : World → Prop, J V' ∧ (∀ U U', J U → Turn w.heap.size B U U' → J U') ∧ ∀ W2, J W2 → B ≤ W2.heap.size → body.wpIn (Fence.wide.inRound l) 0 P (rndPostH w (I B s') B W2) a' W2) (fun _ _ _ => False))
   { tmps := (ps.zip vs).foldl (fun t (p, v) => t.setIfInBounds p v) a.tmps, defers := [] } V)
  (hdone : ∀ B s W, w.heap.size + 2 ≤ B → En s → I B s W → W.heap[w.heap.size]? = some (.deferred (some [])) → Q .normal { a with defers := { target := .collected w.heap.size, args := #[] } :: a.defers } W) :
  (Code.rangeFunc g ps assign body).wp P Q a w := by
 refine (wpIn_wide (n := 0)).1 (wpIn_rangeFunc ?_)
 intro fn hfn
 obtain ⟨rec, hrec⟩ : ∃ rec : LoopState → Option Code → Loop, rec = fun st pe => { state := st, pending := pe, fn, tmps := a.tmps, params := ps, assign, body, defers := w.heap.size } := ⟨_, rfl⟩
 obtain ⟨W1, hW1⟩ : ∃ W1, (w.alloc (.deferred (some []))).alloc (.loop (rec .ready none)) = W1 := ⟨_, rfl⟩
 have hL1 : W1.heap[w.heap.size + 1]? = some (.loop (rec .ready none)) := by
  rw [← hW1]; have := World.alloc_heap_new (w.alloc (.deferred (some []))) (.loop (rec .ready none)); rwa [World.size_alloc] at this
 have hK1 : W1.heap[w.heap.size]? = some (.deferred (some [])) := by
  rw [← hW1]; exact (Below.heap_alloc _ _ _ (by simp)).trans (World.alloc_heap_new w _)
 have hKW : Kp w W1 := by rw [← hW1]; exact ((Kp.refl _).alloc _).alloc _
 have hsz : W1.heap.size = w.heap.size + 2 := by rw [← hW1]; simp
 have tw : ∀ {B V V'}, Turn W1.heap.size B V V' → Turn w.heap.size B V V' := fun h => h.wide (by omega) (Nat.le_refl _)
 refine ⟨w.heap.size + 1, [{ target := .collected w.heap.size, args := #[] }], W1, { target := .fn (.func gf) caps, args := #[.func (.yield (w.heap.size + 1)) #[] #[]] }, W1, gf,
  #[.func (.yield (w.heap.size + 1)) #[] #[]] ++ caps, W1, ?_, ?_, fun _ _ => trivial, ?_, (fun h => by cases h), callsIn_wide.2 ?_⟩
 ·rw [← hW1, hrec]; exact run_enterLoop_outer _ _ _ _ _
 ·simp only [resolve, hg]
  simp [go_sem]
 ·simp [invoke, go_sem, eg]
 ·refine (hit (w.heap.size + 1) W1
   (fun B k W => I B k W ∧ W.heap[w.heap.size + 1]? = some (.loop (rec .ready none)) ∧ W.heap[w.heap.size]? = some (.deferred (some [])))
   ?_ (fun B k W hB h => hM B k W (by omega) h.1) (hM W1.heap.size s0 W1 (by omega) (h0 _ _ hKW (by omega) (Nat.le_refl _))) ?_ ?_).mono ?_
  ·rintro B k W W' hB ⟨h1, h2, h3⟩ hk
   exact ⟨hI B k W W' (by omega) h1 (tw hk), (hk.heap (Array.getElem?_eq_some_iff.1 h2).1 (.inl (by omega))).trans h2, (hk.heap (Array.getElem?_eq_some_iff.1 h3).1 (.inl (by omega))).trans h3⟩
  ·rintro B V hV hB hVB
   exact ⟨h0 B V (hKW.trans hV) (by omega) hVB, (hV.heap (by omega)).trans hL1, (hV.heap (by omega)).trans hK1⟩
  ·rintro B k W vs k' hk hB hBW ⟨hi, hl, hd⟩
   have hlt : w.heap.size + 1 < W.heap.size := (Array.getElem?_eq_some_iff.1 hl).1
   have hy := run_yield (P := P) (args := vs) hl (by rw [hrec]; exact hps k vs k' hk)
   rw [hrec] at hy
   refine ⟨fn, _, assign, body, hy, roundIn_of_wpIn trivial (wpIn_mono (hround _ B k W vs k' hk (by omega) hBW hi) ?_)⟩
   rintro e₀ a' W' hq
   rcases e₀ with _ | id | t | _ | ch | _
   rotate_left
   ·exact hq.elim
   ·exact hq.elim
   ·exact hq.elim
   ·exact hq.elim
   ·exact hq.elim
   obtain ⟨hkp, J, hj, hJ, hbody⟩ := hq
   replace hl := (hkp.block (w.heap.size + 1) (by omega) (by omega)).trans hl
   replace hd := (hkp.block w.heap.size (by omega) (by omega)).trans hd
   replace hlt : w.heap.size + 1 < W'.heap.size := (Array.getElem?_eq_some_iff.1 hl).1
   refine ⟨_, run_beginRound hl (by rw [hrec]), ?_⟩
   have hl2 : (W'.putObj (w.heap.size + 1) (.loop { rec .ready none with state := .busy })).heap[w.heap.size + 1]? = some (.loop { rec .ready none with state := .busy }) := World.putObj_heap_same hlt
   have hd2 : (W'.putObj (w.heap.size + 1) (.loop { rec .ready none with state := .busy })).heap[w.heap.size]? = some (.deferred (some [])) := (World.putObj_heap_other (by omega)).trans hd
   have hi2 : J (W'.putObj (w.heap.size + 1) (.loop { rec .ready none with state := .busy })) := hJ _ _ hj (Turn.putObj _ (by omega) (by omega) _)
   have hs2 : B ≤ (W'.putObj (w.heap.size + 1) (.loop { rec .ready none with state := .busy })).heap.size := by
    have := hkp.size
    simp; omega
   have hr0 : Ring W1.heap.size B W (W'.putObj (w.heap.size + 1) (.loop { rec .ready none with state := .busy })) :=
    ⟨by have := hkp.size; simpa using this, fun j h1 h2 => (World.putObj_heap_other (by omega)).trans (hkp.block j (by omega) h2)⟩
   refine wpIn_mono (hbody _ hi2 hs2) ?_
   have fin : ∀ (jump : Option Code) (W3 : World), Ring w.heap.size B (W'.putObj (w.heap.size + 1) (.loop { rec .ready none with state := .busy })) W3 →
     (Instr.endRound (w.heap.size + 1) jump).run P W3 = .ok (.bool jump.isNone) (W3.putObj (w.heap.size + 1) (.loop (rec (if jump.isNone then .ready else .done) jump))) ∧
     (W3.putObj (w.heap.size + 1) (.loop (rec (if jump.isNone then .ready else .done) jump))).heap[w.heap.size + 1]? = some (.loop (rec (if jump.isNone then .ready else .done) jump)) ∧
     (W3.putObj (w.heap.size + 1) (.loop (rec (if jump.isNone then .ready else .done) jump))).heap[w.heap.size]? = some (.deferred (some [])) ∧
     Ring W1.heap.size B W (W3.putObj (w.heap.size + 1) (.loop (rec (if jump.isNone then .ready else .done) jump))) := fun jump W3 hk3 => by
    have hl3 := (hk3.block (w.heap.size + 1) (by omega) (by omega)).trans hl2
    have hd3 := (hk3.block w.heap.size (by omega) (by omega)).trans hd2
    have := run_endRound (P := P) jump hl3
    rw [hrec] at this ⊢
    refine ⟨this, World.putObj_heap_same (Array.getElem?_eq_some_iff.1 hl3).1, (World.putObj_heap_other (by omega)).trans hd3, ?_⟩
    refine ⟨by have h1 := hr0.size; have h2 := hk3.size; simp at h1 h2 ⊢; omega, fun j h1 h2 => (World.putObj_heap_other (show j ≠ w.heap.size + 1 by omega)).trans ((hk3.block j (by omega) h2).trans (hr0.block j h1 h2))⟩
   rintro e a3 W3 hp
   cases e with
   | normal =>
    obtain ⟨hr, hl4, hd4, hri⟩ := fin none W3 hp.1
    exact ⟨_, _, hr, hri, rfl, hI B _ _ _ (by omega) hp.2 (Turn.putObj _ (by omega) (by omega) _), hl4, hd4⟩
   | ret => exact hp.elim
   | exit id => exact hp.elim
   | goto t => exact hp.elim
   | panic ch => exact hp.elim
   | outgrown => exact hp.elim
  ·rintro e W3 ⟨rfl, B, s, hB, hE, hi, hl, hd⟩
   have hend := run_endLoop (P := P) hl (by rw [hrec]; simp)
   have hpn : (rec .ready none).pending = none := by rw [hrec]
   rw [hpn] at hend
   refine ⟨none, _, hend, ?_⟩
   exact hdone B s _ (by omega) hE (hI B _ _ _ (by omega) hi (Turn.putObj _ (by omega) (by omega) _)) ((World.putObj_heap_other (by omega)).trans hd)
end

end Go.Proofs.YtgopnfacklmkaaaGreatDoor
