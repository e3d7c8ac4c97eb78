/- Lemmas and contracts for the theorem of this claim: Range4, RangeH, LfE, LfG0, LfG1. -/
import Derived.Test.YtffckpkikdlbpaaGreatDoorZvAv
set_option linter.all false
set_option maxHeartbeats 16000000
namespace Go.Proofs.YtffckpkikdlbpaaGreatDoor
section
open Go.RowKit
structure Turn (b B : Nat) (V V' : World) : Prop where
 os : V'.os = V.os
 tape : V'.tape = V.tape
 output : V'.output = V.output
 size : V.heap.size ≤ V'.heap.size
 block : ∀ j, j < V.heap.size → (j < b ∨ B ≤ j) → V'.heap[j]? = V.heap[j]?
structure Ring (b B : Nat) (V V' : World) : Prop where
 size : V.heap.size ≤ V'.heap.size
 block : ∀ j, b ≤ j → j < B → V'.heap[j]? = V.heap[j]?
section
variable {b B : Nat} {U V W : World}
theorem Turn.trans (h : Turn b B U V) (k : Turn b B V W) : Turn b B U W :=
 ⟨k.os.trans h.os, k.tape.trans h.tape, k.output.trans h.output, Nat.le_trans h.size k.size, fun j hj hn => (k.block j (Nat.lt_of_lt_of_le hj h.size) hn).trans (h.block j hj hn)⟩
theorem Turn.of_kp (h : Kp V W) : Turn b B V W := ⟨Below.os h, Below.tape h, Below.output h, Below.size h, fun j hj _ => Below.block h j hj⟩
theorem Turn.of_only {bs : List Nat} (h : Only bs V W) (hb : ∀ x ∈ bs, b ≤ x ∧ x < B) : Turn b B V W :=
 ⟨h.os, h.tape, h.output, h.size, fun j hj hn => h.block j hj (fun hm => by have := hb j hm; omega)⟩
theorem Turn.wide {b' B' : Nat} (h : Turn b B V W) (hb : b' ≤ b) (hB : B ≤ B') : Turn b' B' V W :=
 ⟨h.os, h.tape, h.output, h.size, fun j hj hn => h.block j hj (by omega)⟩
theorem Turn.heap (h : Turn b B V W) {j : Nat} (hj : j < V.heap.size) (hn : j < b ∨ B ≤ j) : W.heap[j]? = V.heap[j]? := h.block j hj hn
theorem Blk.turn {g : Nat} {t : TypeId} {cs : Array Value} (h : Blk V g t cs) (k : Turn b B V W) (hn : g < b ∨ B ≤ g) : Blk W g t cs := (k.block g h.lt hn).trans h
theorem Turn.kp (h : Turn b B V W) (k : Kp U V) (hU : U.heap.size ≤ b) : Kp U W :=
 Below.trans k ⟨h.os, h.tape, h.output, h.size, fun j hj => h.block j (Nat.lt_of_lt_of_le hj k.size) (.inl (Nat.lt_of_lt_of_le hj hU))⟩
theorem Turn.own {α : Type} {base e sz : Nat} {enc : α → List Value} {v : Value} {xs : List α} (h : Own V base e sz enc v xs) (k : Turn b B V W) (hb : B ≤ base) : Own W base e sz enc v xs := by
 refine ⟨h.1, ?_⟩
 rcases h.2 with h2 | ⟨g, cap, cur, hv, hg, hh, r⟩
 ·exact .inl h2
 ·exact .inr ⟨g, cap, cur, hv, hg, (k.block g (Array.getElem?_eq_some_iff.1 hh).1 (.inr (by omega))).trans hh, r⟩
theorem Ring.refl (b B : Nat) (V : World) : Ring b B V V := ⟨Nat.le_refl _, fun _ _ _ => rfl⟩
theorem Ring.trans (h : Ring b B U V) (k : Ring b B V W) : Ring b B U W := ⟨Nat.le_trans h.size k.size, fun j h1 h2 => (k.block j h1 h2).trans (h.block j h1 h2)⟩
theorem Ring.of_kp (h : Kp V W) (hB : B ≤ V.heap.size) : Ring b B V W := ⟨Below.size h, fun j _ h2 => Below.block h j (by omega)⟩
theorem Ring.of_only {bs : List Nat} (h : Only bs V W) (hB : B ≤ V.heap.size) (hb : ∀ x ∈ bs, x < b ∨ B ≤ x) : Ring b B V W :=
 ⟨h.size, fun j h1 h2 => h.block j (by omega) (fun hm => by have := hb j hm; omega)⟩
theorem Ring.setCell (h : Ring b B U V) {p : Addr} (hp : p.block < b ∨ B ≤ p.block) (u : Value) : Ring b B U (V.setCell p u) :=
 h.trans ⟨by simp [World.setCell], fun j h1 h2 => Below.heap_setCell V p u j (by rintro rfl; omega)⟩
theorem Ring.alloc (h : Ring b B U V) (hB : B ≤ V.heap.size) (o : Obj) : Ring b B U (V.alloc o) := h.trans (Ring.of_kp ((Kp.refl V).alloc o) hB)
theorem Ring.grown {row : Option Nat} (h : Ring b B U V) (hB : B ≤ V.heap.size) (hg : V.grownBy W row) (hr : ∀ k, row = some k → k < b ∨ B ≤ k) : Ring b B U W :=
 h.trans ⟨hg.size, fun j h1 h2 => hg.block j (by omega) (fun e => by have := hr j e.symm; omega)⟩
end
theorem Turn.putObj {b B r : Nat} (V : World) (h1 : b ≤ r) (h2 : r < B) (o : Obj) : Turn b B V (V.putObj r o) :=
 Turn.of_only ((Only.refl [r] V).putObj (by simp) o) (by simpa using ⟨h1, h2⟩)
end

section
open Go.RowKit
def IterH {σ : Type} (P : Program) (gf : FuncId) (caps : Array Value) (s0 : σ) (Nx : σ → Array Value → σ → Prop) (En : σ → Prop) (M : World → Prop) : Prop :=
 ∀ (l : Nat) (W : World) (I : Nat → σ → World → Prop),
  (∀ B s V V', W.heap.size ≤ B → I B s V → Turn W.heap.size B V V' → I B s V') →
  (∀ B s V, W.heap.size ≤ B → I B s V → M V) → M W →
  (∀ B V, Kp W V → W.heap.size ≤ B → V.heap.size ≤ B → I B s0 V) →
  (∀ B s V vs s', Nx s vs s' → W.heap.size ≤ B → B ≤ V.heap.size → I B s V → ∃ fn tmps assign body, (Instr.yield l vs).run P V = .ok (.round l fn tmps assign body) V ∧
   RoundIn Fence.wide 0 P l fn tmps assign body V (fun e V' => Ring W.heap.size B V V' ∧ e = .returned (.bool true) ∧ I B s' V')) →
  Calls P gf (#[.func (.yield l) #[] #[]] ++ caps) W (fun e W' => e = .returned (.tuple #[]) ∧ ∃ B s, W.heap.size ≤ B ∧ En s ∧ I B s W')
def rndPostH (w : World) (I : World → Prop) (B : Nat) (W : World) : Exit → Act → World → Prop
 | .normal, _, W' => Ring w.heap.size B W W' ∧ I W'
 | _, _, _ => False
theorem viR {σ : Type} {P : Program} {g : Operand} {ps : Array Tmp} {assign body : Code} {Q : Exit → Act → World → Prop} {a : Act} {w : World} {gf : FuncId} {caps : Array Value} {s0 : σ} {Nx : σ → Array Value → σ → Prop} {En : σ → Prop} {M : World → Prop}
  (hg : a.eval g = .func (.func gf) #[] caps) (eg : ∀ args w, (callFunc gf args).run P w = .ok (.enter gf args) w) (hit : IterH P gf caps s0 Nx En M) (hps : ∀ s vs s', Nx s vs s' → vs.size = ps.size)
  (I : Nat → σ → World → Prop)
  (hI : ∀ B s V V', w.heap.size + 2 ≤ B → I B s V → Turn w.heap.size B V V' → I B s V')
  (hM : ∀ B s V, w.heap.size + 2 ≤ B → I B s V → M V) (h0 : ∀ B V, Kp w V → w.heap.size + 2 ≤ B → V.heap.size ≤ B → I B s0 V)
  (hround : ∀ l B s V vs s', Nx s vs s' → w.heap.size + 2 ≤ B → B ≤ V.heap.size → I B s V → assign.wpIn (Fence.wide.inRound l) 0 P (Exit.then (fun a' V' => Ring w.heap.size B V V' ∧ ∃ J : World → Prop, J V' ∧ (∀ U U', J U → Turn w.heap.size B U U' → J U') ∧ ∀ W2, J W2 → B ≤ W2.heap.size → body.wpIn (Fence.wide.inRound l) 0 P (rndPostH w (I B s') B W2) a' W2) (fun _ _ _ => False))
   { tmps := (ps.zip vs).foldl (fun t (p, v) => t.setIfInBounds p v) a.tmps, defers := [] } V)
  (hdone : ∀ B s W, w.heap.size + 2 ≤ B → En s → I B s W → W.heap[w.heap.size]? = some (.deferred (some [])) → Q .normal { a with defers := { target := .collected w.heap.size, args := #[] } :: a.defers } W) :
  (Code.rangeFunc g ps assign body).wp P Q a w := by
 refine (wpIn_wide (n := 0)).1 (wpIn_rangeFunc ?_)
 intro fn hfn
 obtain ⟨rec, hrec⟩ : ∃ rec : LoopState → Option Code → Loop, rec = fun st pe => { state := st, pending := pe, fn, tmps := a.tmps, params := ps, assign, body, defers := w.heap.size } := ⟨_, rfl⟩
 obtain ⟨W1, hW1⟩ : ∃ W1, (w.alloc (.deferred (some []))).alloc (.loop (rec .ready none)) = W1 := ⟨_, rfl⟩
 have hL1 : W1.heap[w.heap.size + 1]? = some (.loop (rec .ready none)) := by
  rw [← hW1]; have := World.alloc_heap_new (w.alloc (.deferred (some []))) (.loop (rec .ready none)); rwa [World.size_alloc] at this
 have hK1 : W1.heap[w.heap.size]? = some (.deferred (some [])) := by
  rw [← hW1]; exact (Below.heap_alloc _ _ _ (by simp)).trans (World.alloc_heap_new w _)
 have hKW : Kp w W1 := by rw [← hW1]; exact ((Kp.refl _).alloc _).alloc _
 have hsz : W1.heap.size = w.heap.size + 2 := by rw [← hW1]; simp
 have tw : ∀ {B V V'}, Turn W1.heap.size B V V' → Turn w.heap.size B V V' := fun h => h.wide (by omega) (Nat.le_refl _)
 refine ⟨w.heap.size + 1, [{ target := .collected w.heap.size, args := #[] }], W1, { target := .fn (.func gf) caps, args := #[.func (.yield (w.heap.size + 1)) #[] #[]] }, W1, gf,
  #[.func (.yield (w.heap.size + 1)) #[] #[]] ++ caps, W1, ?_, ?_, fun _ _ => trivial, ?_, (fun h => by cases h), callsIn_wide.2 ?_⟩
 ·rw [← hW1, hrec]; exact run_enterLoop_outer _ _ _ _ _
 ·simp only [resolve, hg]
  simp [go_sem]
 ·simp [invoke, go_sem, eg]
 ·refine (hit (w.heap.size + 1) W1
   (fun B k W => I B k W ∧ W.heap[w.heap.size + 1]? = some (.loop (rec .ready none)) ∧ W.heap[w.heap.size]? = some (.deferred (some [])))
   ?_ (fun B k W hB h => hM B k W (by omega) h.1) (hM W1.heap.size s0 W1 (by omega) (h0 _ _ hKW (by omega) (Nat.le_refl _))) ?_ ?_).mono ?_
  ·rintro B k W W' hB ⟨h1, h2, h3⟩ hk
   exact ⟨hI B k W W' (by omega) h1 (tw hk), (hk.heap (Array.getElem?_eq_some_iff.1 h2).1 (.inl (by omega))).trans h2, (hk.heap (Array.getElem?_eq_some_iff.1 h3).1 (.inl (by omega))).trans h3⟩
  ·rintro B V hV hB hVB
   exact ⟨h0 B V (hKW.trans hV) (by omega) hVB, (hV.heap (by omega)).trans hL1, (hV.heap (by omega)).trans hK1⟩
  ·rintro B k W vs k' hk hB hBW ⟨hi, hl, hd⟩
   have hlt : w.heap.size + 1 < W.heap.size := (Array.getElem?_eq_some_iff.1 hl).1
   have hy := run_yield (P := P) (args := vs) hl (by rw [hrec]; exact hps k vs k' hk)
   rw [hrec] at hy
   refine ⟨fn, _, assign, body, hy, roundIn_of_wpIn trivial (wpIn_mono (hround _ B k W vs k' hk (by omega) hBW hi) ?_)⟩
   rintro e₀ a' W' hq
   rcases e₀ with _ | id | t | _ | ch | _
   rotate_left
   ·exact hq.elim
   ·exact hq.elim
   ·exact hq.elim
   ·exact hq.elim
   ·exact hq.elim
   obtain ⟨hkp, J, hj, hJ, hbody⟩ := hq
   replace hl := (hkp.block (w.heap.size + 1) (by omega) (by omega)).trans hl
   replace hd := (hkp.block w.heap.size (by omega) (by omega)).trans hd
   replace hlt : w.heap.size + 1 < W'.heap.size := (Array.getElem?_eq_some_iff.1 hl).1
   refine ⟨_, run_beginRound hl (by rw [hrec]), ?_⟩
   have hl2 : (W'.putObj (w.heap.size + 1) (.loop { rec .ready none with state := .busy })).heap[w.heap.size + 1]? = some (.loop { rec .ready none with state := .busy }) := World.putObj_heap_same hlt
   have hd2 : (W'.putObj (w.heap.size + 1) (.loop { rec .ready none with state := .busy })).heap[w.heap.size]? = some (.deferred (some [])) := (World.putObj_heap_other (by omega)).trans hd
   have hi2 : J (W'.putObj (w.heap.size + 1) (.loop { rec .ready none with state := .busy })) := hJ _ _ hj (Turn.putObj _ (by omega) (by omega) _)
   have hs2 : B ≤ (W'.putObj (w.heap.size + 1) (.loop { rec .ready none with state := .busy })).heap.size := by
    have := hkp.size
    simp; omega
   have hr0 : Ring W1.heap.size B W (W'.putObj (w.heap.size + 1) (.loop { rec .ready none with state := .busy })) :=
    ⟨by have := hkp.size; simpa using this, fun j h1 h2 => (World.putObj_heap_other (by omega)).trans (hkp.block j (by omega) h2)⟩
   refine wpIn_mono (hbody _ hi2 hs2) ?_
   have fin : ∀ (jump : Option Code) (W3 : World), Ring w.heap.size B (W'.putObj (w.heap.size + 1) (.loop { rec .ready none with state := .busy })) W3 →
     (Instr.endRound (w.heap.size + 1) jump).run P W3 = .ok (.bool jump.isNone) (W3.putObj (w.heap.size + 1) (.loop (rec (if jump.isNone then .ready else .done) jump))) ∧
     (W3.putObj (w.heap.size + 1) (.loop (rec (if jump.isNone then .ready else .done) jump))).heap[w.heap.size + 1]? = some (.loop (rec (if jump.isNone then .ready else .done) jump)) ∧
     (W3.putObj (w.heap.size + 1) (.loop (rec (if jump.isNone then .ready else .done) jump))).heap[w.heap.size]? = some (.deferred (some [])) ∧
     Ring W1.heap.size B W (W3.putObj (w.heap.size + 1) (.loop (rec (if jump.isNone then .ready else .done) jump))) := fun jump W3 hk3 => by
    have hl3 := (hk3.block (w.heap.size + 1) (by omega) (by omega)).trans hl2
    have hd3 := (hk3.block w.heap.size (by omega) (by omega)).trans hd2
    have := run_endRound (P := P) jump hl3
    rw [hrec] at this ⊢
    refine ⟨this, World.putObj_heap_same (Array.getElem?_eq_some_iff.1 hl3).1, (World.putObj_heap_other (by omega)).trans hd3, ?_⟩
    refine ⟨by have h1 := hr0.size; have h2 := hk3.size; simp at h1 h2 ⊢; omega, fun j h1 h2 => (World.putObj_heap_other (show j ≠ w.heap.size + 1 by omega)).trans ((hk3.block j (by omega) h2).trans (hr0.block j h1 h2))⟩
   rintro e a3 W3 hp
   cases e with
   | normal =>
    obtain ⟨hr, hl4, hd4, hri⟩ := fin none W3 hp.1
    exact ⟨_, _, hr, hri, rfl, hI B _ _ _ (by omega) hp.2 (Turn.putObj _ (by omega) (by omega) _), hl4, hd4⟩
   | ret => exact hp.elim
   | exit id => exact hp.elim
   | goto t => exact hp.elim
   | panic ch => exact hp.elim
   | outgrown => exact hp.elim
  ·rintro e W3 ⟨rfl, B, s, hB, hE, hi, hl, hd⟩
   have hend := run_endLoop (P := P) hl (by rw [hrec]; simp)
   have hpn : (rec .ready none).pending = none := by rw [hrec]
   rw [hpn] at hend
   refine ⟨none, _, hend, ?_⟩
   exact hdone B s _ (by omega) hE (hI B _ _ _ (by omega) hi (Turn.putObj _ (by omega) (by omega) _)) ((World.putObj_heap_other (by omega)).trans hd)
def GoR (w : World) (c : Cf) (A : Option Addr) (n m b : Nat) (r : Rt) (now : Int) (L : Nat → Bool) (W : World) : Prop := Kp w W ∧ Blk W b 24 (cfC c A n m) ∧ Blk W (b + 1) 48 #[.int .u32 (r.p.a : Int), .int .i64 r.p.l, .int .i64 (if L 5 then 4 else r.s), .int .i64 r.m, .int .i64 (if L 7 then 0 else r.l), .int .i64 r.f, .int .u32 (r.x : Int), .int .i64 (if L 9 then now + c.t4 else r.d), .bool r.c] ∧ Blk W (b + 1 + 1) 48 (roC zeroR)
set_option maxRecDepth 100000 in
theorem vhg (c : Cf) (A : Option Addr) (n m : Nat) (r : Rt) (now : Int) (w : World) (hs : r.s = 0 ∨ r.s = 1 ∨ r.s = 2 ∨ r.s = 3 ∨ r.s = 4) (hn0 : 0 ≤ now) (hn1 : now ≤ 4611686018426387904) (hu0 : 0 ≤ c.t3) (hu1 : c.t3 ≤ 1000000) (ht0 : 0 ≤ c.t4) (ht1 : c.t4 ≤ 1000000) :
  Calls Tryz.prog 93 #[cfV c A n m, roV r, .int .i64 now] w fun e w' => e = .returned (roV (expR c r now)) ∧ Kp w w' := by
 have HT := Lib.hid (And.intro hn0 (And.intro hn1 (And.intro hu0 (And.intro hu1 (And.intro ht0 ht1)))))
 by_cases h2 : r.s < 2
 ·have d2 : decide (r.s < 2) = true := decide_eq_true h2
  have H := Lib.hid (show expR c r now = r by unfold expR; rw [if_pos (.inl h2)])
  rw [H.out]
  clear H h2 hs hn0 hn1 hu0 hu1 ht0 ht1
  go_enter Tryz.func93, Tryz.ntmps93
  go_wp2_with fail
  exact bodyPost_ret (vad (g := w.heap.size + 1 + 1) (R := r) rfl rfl (Blk.new2 w _ _ _ _)) rfl ⟨rfl, (((Kp.refl _).alloc _).alloc _).alloc _⟩
 ·have d2 : decide (r.s < 2) = false := decide_eq_false h2
  by_cases hd : now < r.d
  ·have dd : decide (now < r.d) = true := decide_eq_true hd
   have H := Lib.hid (show expR c r now = r by unfold expR; rw [if_pos (.inr hd)])
   rw [H.out]
   clear H h2 hd hs hn0 hn1 hu0 hu1 ht0 ht1
   go_enter Tryz.func93, Tryz.ntmps93
   go_wp2_with fail
   exact bodyPost_ret (vad (g := w.heap.size + 1 + 1) (R := r) rfl rfl (Blk.new2 w _ _ _ _)) rfl ⟨rfl, (((Kp.refl _).alloc _).alloc _).alloc _⟩
  ·have dd : decide (now < r.d) = false := decide_eq_false hd
   have hno : ¬ (r.s < 2 ∨ now < r.d) := fun z => z.elim h2 hd
   by_cases e2 : r.s = 2
   ·have b2 : (r.s == 2) = true := by simp [e2]
    have H := Lib.hid (show expR c r now = loseR c r now by unfold expR loseR; rw [if_neg hno, if_pos e2, if_pos e2])
    rw [H.out]
    clear H h2 hd hs hno e2 hn0 hn1 hu0 hu1 ht0 ht1
    go_enter Tryz.func93, Tryz.ntmps93
    go_wp2_with fail
    refine (vbX c A n m r now _ (by have := HT.out; omega) (by have := HT.out; omega) (by have := HT.out; omega) (by have := HT.out; omega)).mono ?_
    rintro e w1 ⟨rfl, K1⟩
    have B3 := (Blk.new2 w _ _ 48 (roC zeroR)).keep K1
    have KW := (((Kp.refl w).alloc _).alloc _).alloc _ |>.trans K1
    obtain ⟨g, hg⟩ : ∃ g, w.heap.size + 1 + 1 = g := ⟨_, rfl⟩
    have hgw : w.heap.size ≤ g := by omega
    rw [hg] at B3
    try rw [hg]
    clear hg K1
    obtain ⟨R, hR⟩ : ∃ R, loseR c r now = R := ⟨_, rfl⟩
    rw [hR]
    have HRR := Lib.hid hR
    clear hR
    have q0 := Blk.f B3 rfl
    have z0 := Blk.frozen B3
    go_wp2_with fail
    exact bodyPost_ret (vad (g := g) (R := R) rfl rfl (Blk.set9 B3)) rfl ⟨by rw [HRR.out], Kp.set9 KW hgw⟩
   ·have b2 : (r.s == 2) = false := by simp [e2]
    by_cases e3 : r.s = 3
    ·have b3 : (r.s == 3) = true := by simp [e3]
     have H := Lib.hid (show expR c r now = ⟨r.p, 4, r.m, 0, r.f, r.x, now + c.t4, r.c⟩ by unfold expR; rw [if_neg hno, if_neg e2, if_pos e3])
     rw [H.out]
     obtain ⟨b, hb⟩ : ∃ b, w.heap.size = b := ⟨_, rfl⟩
     obtain ⟨W, hW, kW, C0, C1, B3⟩ : ∃ W, ((w.alloc (.cells (cfC c A n m) 24)).alloc (.cells (roC r) 48)).alloc (.cells zero9 48) = W ∧ Kp w W ∧ Blk W b 24 (cfC c A n m) ∧ Blk W (b + 1) 48 (roC r) ∧ Blk W (b + 1 + 1) 48 (roC zeroR) := ⟨_, rfl, (((Kp.refl _).alloc _).alloc _).alloc _, by rw [← hb]; exact ((Blk.new w _ _).alloc _).alloc _, by rw [← hb]; exact (Blk.new1 w _ _ _).alloc _, by rw [← hb]; exact Blk.new2 w _ _ _ _⟩
     unfold cfC roC zero9 at hW
     have p0 := Blk.f C1 rfl
     have HG0 := Lib.hid (show GoR w c A n m b r now (fun _ => false) W.drew from ⟨kW.drew, C0.drew, C1.drew, B3.drew⟩)
     have Hb := Lib.hid hb
     have m1 : -9223372036854775808 ≤ now + c.t4 := by omega
     have m2 : now + c.t4 ≤ 9223372036854775807 := by omega
     clear C0 C1 B3 kW H h2 hd hs hno e2 e3 hn0 hn1 hu0 hu1 ht0 ht1
     go_enter Tryz.func93, Tryz.ntmps93
     go_upto_region 8 with (fail)
     clear hW
     refine vlS (GoR w c A n m b r now) [28, 29, 30, 31, 32, 1005, 33, 1007, 34, 1009] [.int .i64 now, .pointer (some ⟨b, 4, none⟩), .int .i64 c.t4, .int .i64 (now + c.t4), .pointer (some ⟨b + 1, 2, none⟩), undef, .pointer (some ⟨b + 1, 4, none⟩), undef, .pointer (some ⟨b + 1, 7, none⟩), undef] (by kernel_rfl) (by kernel_rfl) HG0.out ?_ ?_
     ·intro i o L a w9 ho hd hG K hK
      have hi : i < 10 := by have := (List.getElem?_eq_some_iff.1 ho).1; simpa using this
      have hcs : i = 0 ∨ i = 1 ∨ i = 2 ∨ i = 3 ∨ i = 4 ∨ i = 5 ∨ i = 6 ∨ i = 7 ∨ i = 8 ∨ i = 9 := by omega
      clear hi
      rcases hcs with rfl | rfl | rfl | rfl | rfl | rfl | rfl | rfl | rfl | rfl
      all_goals
       first | simp only [List.getElem?_cons_zero, List.getElem?_cons_succ, Option.some.injEq] at ho | replace ho := Option.some.inj ho
       subst ho
      ·rw [if_pos (vak rfl)]
       have t2 : a.tmps[2]?.getD undef = .int .i64 now := vaA (hG.old 2 (by decide))
       unfold Oper.wp
       simp only [execOp, Act.eval, Array.getD_eq_getD_getElem?]
       go_simp
       exact hK _ _ (hG.put 0 28 rfl (by decide) (by simp) (by have := hG.m; unfold GoR at this ⊢; simpa using this) rfl)
      ·rw [if_pos (vak rfl)]
       have t3 : a.tmps[3]?.getD undef = .pointer (some ⟨b, 0, none⟩) := vaA (hG.old 3 (by decide))
       unfold Oper.wp
       simp only [execOp, Act.eval, Array.getD_eq_getD_getElem?]
       go_simp
       exact hK _ _ (hG.put 1 29 rfl (by decide) (by simp) (by have := hG.m; unfold GoR at this ⊢; simpa using this) rfl)
      ·rw [if_pos (vak rfl)]
       have t29 : a.tmps[29]?.getD undef = .pointer (some ⟨b, 4, none⟩) := vaA (hG.new 1 (hd 1 (by decide) (by decide)) 29 rfl)
       have y4 := Blk.f hG.m.2.1 rfl
       unfold Oper.wp
       simp only [execOp, Act.eval, Array.getD_eq_getD_getElem?]
       go_simp
       exact hK _ _ (hG.put 2 30 rfl (by decide) (by simp) (by have := hG.m; unfold GoR at this ⊢; simpa using this) rfl)
      ·rw [if_pos (vak rfl)]
       have t28 : a.tmps[28]?.getD undef = .int .i64 now := vaA (hG.new 0 (hd 0 (by decide) (by decide)) 28 rfl)
       have t30 : a.tmps[30]?.getD undef = .int .i64 c.t4 := vaA (hG.new 2 (hd 2 (by decide) (by decide)) 30 rfl)
       unfold Oper.wp
       simp only [execOp, Act.eval, Array.getD_eq_getD_getElem?]
       go_simp
       try go_bits
       exact hK _ _ (hG.put 3 31 rfl (by decide) (by simp) (by have := hG.m; unfold GoR at this ⊢; simpa using this) rfl)
      ·rw [if_pos (vak rfl)]
       have t4 : a.tmps[4]?.getD undef = .pointer (some ⟨b + 1, 0, none⟩) := vaA (hG.old 4 (by decide))
       unfold Oper.wp
       simp only [execOp, Act.eval, Array.getD_eq_getD_getElem?]
       go_simp
       exact hK _ _ (hG.put 4 32 rfl (by decide) (by simp) (by have := hG.m; unfold GoR at this ⊢; simpa using this) rfl)
      ·rw [if_pos (vak rfl)]
       have t32 : a.tmps[32]?.getD undef = .pointer (some ⟨b + 1, 2, none⟩) := vaA (hG.new 4 (hd 4 (by decide) (by decide)) 32 rfl)
       have cc := hG.m.2.2.1.cell 2
       have zc := hG.m.2.2.1.frozen 2
       simp only [List.getElem?_toArray, List.getElem?_cons_zero, List.getElem?_cons_succ] at cc
       unfold Oper.wp
       simp only [execOp, Act.eval, Array.getD_eq_getD_getElem?]
       go_simp
       exact hK _ _ (hG.done 5 1005 rfl (by decide) (by simp) ⟨hG.m.1.setCell (by have := Hb.out; simp <;> omega) _, hG.m.2.1.far (by simp) _, by simpa using hG.m.2.2.1.set_ 2 (.int .i64 4), hG.m.2.2.2.far (by simp) _⟩ rfl)
      ·rw [if_pos (vak rfl)]
       have t4 : a.tmps[4]?.getD undef = .pointer (some ⟨b + 1, 0, none⟩) := vaA (hG.old 4 (by decide))
       unfold Oper.wp
       simp only [execOp, Act.eval, Array.getD_eq_getD_getElem?]
       go_simp
       exact hK _ _ (hG.put 6 33 rfl (by decide) (by simp) (by have := hG.m; unfold GoR at this ⊢; simpa using this) rfl)
      ·rw [if_pos (vak rfl)]
       have t33 : a.tmps[33]?.getD undef = .pointer (some ⟨b + 1, 4, none⟩) := vaA (hG.new 6 (hd 6 (by decide) (by decide)) 33 rfl)
       have cc := hG.m.2.2.1.cell 4
       have zc := hG.m.2.2.1.frozen 4
       simp only [List.getElem?_toArray, List.getElem?_cons_zero, List.getElem?_cons_succ] at cc
       unfold Oper.wp
       simp only [execOp, Act.eval, Array.getD_eq_getD_getElem?]
       go_simp
       exact hK _ _ (hG.done 7 1007 rfl (by decide) (by simp) ⟨hG.m.1.setCell (by have := Hb.out; simp <;> omega) _, hG.m.2.1.far (by simp) _, by simpa using hG.m.2.2.1.set_ 4 (.int .i64 0), hG.m.2.2.2.far (by simp) _⟩ rfl)
      ·rw [if_pos (vak rfl)]
       have t4 : a.tmps[4]?.getD undef = .pointer (some ⟨b + 1, 0, none⟩) := vaA (hG.old 4 (by decide))
       unfold Oper.wp
       simp only [execOp, Act.eval, Array.getD_eq_getD_getElem?]
       go_simp
       exact hK _ _ (hG.put 8 34 rfl (by decide) (by simp) (by have := hG.m; unfold GoR at this ⊢; simpa using this) rfl)
      ·rw [if_pos (vak rfl)]
       have t31 : a.tmps[31]?.getD undef = .int .i64 (now + c.t4) := vaA (hG.new 3 (hd 3 (by decide) (by decide)) 31 rfl)
       have t34 : a.tmps[34]?.getD undef = .pointer (some ⟨b + 1, 7, none⟩) := vaA (hG.new 8 (hd 8 (by decide) (by decide)) 34 rfl)
       have cc := hG.m.2.2.1.cell 7
       have zc := hG.m.2.2.1.frozen 7
       simp only [List.getElem?_toArray, List.getElem?_cons_zero, List.getElem?_cons_succ] at cc
       unfold Oper.wp
       simp only [execOp, Act.eval, Array.getD_eq_getD_getElem?]
       go_simp
       exact hK _ _ (hG.done 9 1009 rfl (by decide) (by simp) ⟨hG.m.1.setCell (by have := Hb.out; simp <;> omega) _, hG.m.2.1.far (by simp) _, by simpa using hG.m.2.2.1.set_ 7 (.int .i64 (now + c.t4)), hG.m.2.2.2.far (by simp) _⟩ rfl)
     ·intro L a w9 hL hM hdf hsz hold hnew
      obtain ⟨k9, -, C9, B9⟩ := hM
      rw [hL 5 (by decide), hL 7 (by decide), hL 9 (by decide)] at C9
      simp only [if_true] at C9
      (try simp only [Exit.then])
      (try rename_i hk9)
      (try refine hk9 a w9 ?_)
      rw [vly rfl (by decide) hdf hsz hold hnew]
      clear hold hnew hdf hsz
      (try clear hk9)
      clear p0 hL
      simp only [wrS, List.zip_cons_cons, List.zip_nil_right, List.foldl_cons, List.foldl_nil, List.setIfInBounds_toArray, List.set_cons_zero, List.set_cons_succ]
      have C9c : Blk w9 (b + 1) 48 (roC ⟨r.p, 4, r.m, 0, r.f, r.x, now + c.t4, r.c⟩) := C9
      have p0 := Blk.f C9c rfl
      have q0 := Blk.f B9 rfl
      have z0 := Blk.frozen B9
      have hgw : w.heap.size ≤ b + 1 + 1 := by have := Hb.out; omega
      clear C9
      go_wp2_with fail
      exact bodyPost_ret (vad (g := b + 1 + 1) (R := ⟨r.p, 4, r.m, 0, r.f, r.x, now + c.t4, r.c⟩) rfl rfl (Blk.set9 B9)) rfl ⟨rfl, Kp.set9 k9 hgw⟩
    ·have b3 : (r.s == 3) = false := by simp [e3]
     have H := Lib.hid (show expR c r now = noR r.p by unfold expR; rw [if_neg hno, if_neg e2, if_neg e3])
     rw [H.out]
     clear H h2 hd hs hno e2 e3 hn0 hn1 hu0 hu1 ht0 ht1
     go_enter Tryz.func93, Tryz.ntmps93
     go_wp2_with fail
     exact bodyPost_ret (vad (g := w.heap.size + 1 + 1) (R := noR r.p) rfl rfl (Blk.new2 w _ _ _ _)) rfl ⟨rfl, (((Kp.refl _).alloc _).alloc _).alloc _⟩
set_option maxRecDepth 100000 in
theorem vhh (c : Cf) (A : Option Addr) (n m : Nat) (r : Rt) (h : Hd) (now : Int) (w : World) (hs : r.s = 0) (hm0 : 1 ≤ h.m) (hm1 : h.m ≤ 16) (hn0 : 0 ≤ now) (hn1 : now ≤ 4611686018426387904) (ht0 : 0 ≤ c.t2) (ht1 : c.t2 ≤ 1000000) (hu0 : 0 ≤ c.t3) (hu1 : c.t3 ≤ 1000000) :
  Calls Tryz.prog 90 #[cfV c A n m, roV r, .agg #[.int .i64 h.f, .int .u32 (h.a : Int), .int .i64 h.m], .int .i64 now] w fun e w' => e = .returned (roV (hearR c r h now)) ∧ Kp w w' := by
 have HT := Lib.hid (And.intro hn0 (And.intro hn1 (And.intro ht0 (And.intro ht1 (And.intro hu0 hu1)))))
 have e0 : (r.s == 0) = true := by simp [hs]
 have e4 : (r.s == 4) = false := by simp [hs]
 have e2 : (r.s == 2) = false := by simp [hs]
 have e3 : (r.s == 3) = false := by simp [hs]
 by_cases hc : h.m < 15
 ·have hM : min (h.m + 1) 16 = h.m + 1 := by omega
  have h16 : ¬ (16 ≤ h.m + 1) := by omega
  have hnew : newR c r h now = ⟨r.p, 2, h.m + 1, 0, h.f, h.a, now + c.t2, true⟩ := by unfold newR; rw [hM]
  by_cases hf : r.f = h.f
  ·have ef : (r.f == h.f) = true := by simp [hf]
   by_cases hx : r.x = h.a
   ·have ex : ((r.x : Int) == (h.a : Int)) = true := by simp [hx]
    have hsame : h.f = r.f ∧ h.a = r.x := ⟨hf.symm, hx.symm⟩
    have d : decide (h.m + 1 < 16) = true := decide_eq_true (by omega)
    have H := Lib.hid (show hearR c r h now = newR c r h now by unfold hearR; rw [if_neg (by omega), if_neg (by omega), if_neg (by omega), hM, if_pos (by omega)])
    rw [H.out]
    clear H
    try clear hsame
    try clear hf
    try clear hx
    try clear hs
    try clear hq
    try clear hl
    try clear hM
    rw [hnew]
    go_enter Tryz.func90, Tryz.ntmps90
    go_wp2_with fail
    refine (vae c A n m r h (h.m + 1) now _ HT.out.1 HT.out.2.1 HT.out.2.2.1 HT.out.2.2.2.1).mono ?_
    rintro e w1 ⟨rfl, K1⟩
    have B3 := (Blk.new3 w _ _ _ 48 (roC zeroR)).keep K1
    have KW := ((((Kp.refl w).alloc _).alloc _).alloc _).alloc _ |>.trans K1
    obtain ⟨g, hg⟩ : ∃ g, w.heap.size + 1 + 1 + 1 = g := ⟨_, rfl⟩
    have hgw : w.heap.size ≤ g := by omega
    rw [hg] at B3
    try rw [hg]
    clear hg K1
    have q0 := Blk.f B3 rfl
    have z0 := Blk.frozen B3
    go_wp2_with fail
    refine bodyPost_ret (vad (g := g) (R := ⟨r.p, 2, h.m + 1, 0, h.f, h.a, now + c.t2, true⟩) rfl rfl (Blk.set9 B3)) rfl ⟨rfl, Kp.set9 KW hgw⟩
   ·have ex : ((r.x : Int) == (h.a : Int)) = false := by simp; omega
    have hsame : ¬ (h.f = r.f ∧ h.a = r.x) := fun z => hx z.2.symm
    have d : decide (h.m + 1 < 16) = true := decide_eq_true (by omega)
    have H := Lib.hid (show hearR c r h now = newR c r h now by unfold hearR; rw [if_neg (by omega), if_neg (by omega), if_neg (by omega), hM, if_pos (by omega)])
    rw [H.out]
    clear H
    try clear hsame
    try clear hf
    try clear hx
    try clear hs
    try clear hq
    try clear hl
    try clear hM
    rw [hnew]
    go_enter Tryz.func90, Tryz.ntmps90
    go_wp2_with fail
    refine (vae c A n m r h (h.m + 1) now _ HT.out.1 HT.out.2.1 HT.out.2.2.1 HT.out.2.2.2.1).mono ?_
    rintro e w1 ⟨rfl, K1⟩
    have B3 := (Blk.new3 w _ _ _ 48 (roC zeroR)).keep K1
    have KW := ((((Kp.refl w).alloc _).alloc _).alloc _).alloc _ |>.trans K1
    obtain ⟨g, hg⟩ : ∃ g, w.heap.size + 1 + 1 + 1 = g := ⟨_, rfl⟩
    have hgw : w.heap.size ≤ g := by omega
    rw [hg] at B3
    try rw [hg]
    clear hg K1
    have q0 := Blk.f B3 rfl
    have z0 := Blk.frozen B3
    go_wp2_with fail
    refine bodyPost_ret (vad (g := g) (R := ⟨r.p, 2, h.m + 1, 0, h.f, h.a, now + c.t2, true⟩) rfl rfl (Blk.set9 B3)) rfl ⟨rfl, Kp.set9 KW hgw⟩
  ·have ef : (r.f == h.f) = false := by simp [hf]
   have hsame : ¬ (h.f = r.f ∧ h.a = r.x) := fun z => hf z.1.symm
   have d : decide (h.m + 1 < 16) = true := decide_eq_true (by omega)
   have H := Lib.hid (show hearR c r h now = newR c r h now by unfold hearR; rw [if_neg (by omega), if_neg (by omega), if_neg (by omega), hM, if_pos (by omega)])
   rw [H.out]
   clear H
   try clear hsame
   try clear hf
   try clear hx
   try clear hs
   try clear hq
   try clear hl
   try clear hM
   rw [hnew]
   go_enter Tryz.func90, Tryz.ntmps90
   go_wp2_with fail
   refine (vae c A n m r h (h.m + 1) now _ HT.out.1 HT.out.2.1 HT.out.2.2.1 HT.out.2.2.2.1).mono ?_
   rintro e w1 ⟨rfl, K1⟩
   have B3 := (Blk.new3 w _ _ _ 48 (roC zeroR)).keep K1
   have KW := ((((Kp.refl w).alloc _).alloc _).alloc _).alloc _ |>.trans K1
   obtain ⟨g, hg⟩ : ∃ g, w.heap.size + 1 + 1 + 1 = g := ⟨_, rfl⟩
   have hgw : w.heap.size ≤ g := by omega
   rw [hg] at B3
   try rw [hg]
   clear hg K1
   have q0 := Blk.f B3 rfl
   have z0 := Blk.frozen B3
   go_wp2_with fail
   refine bodyPost_ret (vad (g := g) (R := ⟨r.p, 2, h.m + 1, 0, h.f, h.a, now + c.t2, true⟩) rfl rfl (Blk.set9 B3)) rfl ⟨rfl, Kp.set9 KW hgw⟩
 ·have hM : min (h.m + 1) 16 = 16 := by omega
  have h16 : 16 ≤ h.m + 1 := by omega
  have hnew : newR c r h now = ⟨r.p, 2, 16, 0, h.f, h.a, now + c.t2, true⟩ := by unfold newR; rw [hM]
  by_cases hf : r.f = h.f
  ·have ef : (r.f == h.f) = true := by simp [hf]
   by_cases hx : r.x = h.a
   ·have ex : ((r.x : Int) == (h.a : Int)) = true := by simp [hx]
    have hsame : h.f = r.f ∧ h.a = r.x := ⟨hf.symm, hx.symm⟩
    have H := Lib.hid (show hearR c r h now = r by unfold hearR; rw [if_neg (by omega), if_neg (by omega), if_neg (by omega), hM, if_neg (by omega)])
    rw [H.out]
    clear H
    try clear hsame
    try clear hf
    try clear hx
    try clear hs
    try clear hq
    try clear hl
    try clear hM
    go_enter Tryz.func90, Tryz.ntmps90
    go_wp2_with fail
    refine bodyPost_ret (vad (g := w.heap.size + 1 + 1 + 1) (R := r) rfl rfl (Blk.new3 w _ _ _ _ _)) rfl ⟨rfl, ((((Kp.refl _).alloc _).alloc _).alloc _).alloc _⟩
   ·have ex : ((r.x : Int) == (h.a : Int)) = false := by simp; omega
    have hsame : ¬ (h.f = r.f ∧ h.a = r.x) := fun z => hx z.2.symm
    have H := Lib.hid (show hearR c r h now = r by unfold hearR; rw [if_neg (by omega), if_neg (by omega), if_neg (by omega), hM, if_neg (by omega)])
    rw [H.out]
    clear H
    try clear hsame
    try clear hf
    try clear hx
    try clear hs
    try clear hq
    try clear hl
    try clear hM
    go_enter Tryz.func90, Tryz.ntmps90
    go_wp2_with fail
    refine bodyPost_ret (vad (g := w.heap.size + 1 + 1 + 1) (R := r) rfl rfl (Blk.new3 w _ _ _ _ _)) rfl ⟨rfl, ((((Kp.refl _).alloc _).alloc _).alloc _).alloc _⟩
  ·have ef : (r.f == h.f) = false := by simp [hf]
   have hsame : ¬ (h.f = r.f ∧ h.a = r.x) := fun z => hf z.1.symm
   have H := Lib.hid (show hearR c r h now = r by unfold hearR; rw [if_neg (by omega), if_neg (by omega), if_neg (by omega), hM, if_neg (by omega)])
   rw [H.out]
   clear H
   try clear hsame
   try clear hf
   try clear hx
   try clear hs
   try clear hq
   try clear hl
   try clear hM
   go_enter Tryz.func90, Tryz.ntmps90
   go_wp2_with fail
   refine bodyPost_ret (vad (g := w.heap.size + 1 + 1 + 1) (R := r) rfl rfl (Blk.new3 w _ _ _ _ _)) rfl ⟨rfl, ((((Kp.refl _).alloc _).alloc _).alloc _).alloc _⟩
set_option maxRecDepth 100000 in
theorem vhi (c : Cf) (A : Option Addr) (n m : Nat) (r : Rt) (h : Hd) (now : Int) (w : World) (hs : r.s = 1) (hm0 : 1 ≤ h.m) (hm1 : h.m ≤ 16) (hn0 : 0 ≤ now) (hn1 : now ≤ 4611686018426387904) (ht0 : 0 ≤ c.t2) (ht1 : c.t2 ≤ 1000000) (hu0 : 0 ≤ c.t3) (hu1 : c.t3 ≤ 1000000) :
  Calls Tryz.prog 90 #[cfV c A n m, roV r, .agg #[.int .i64 h.f, .int .u32 (h.a : Int), .int .i64 h.m], .int .i64 now] w fun e w' => e = .returned (roV (hearR c r h now)) ∧ Kp w w' := by
 have HT := Lib.hid (And.intro hn0 (And.intro hn1 (And.intro ht0 (And.intro ht1 (And.intro hu0 hu1)))))
 have e0 : (r.s == 0) = false := by simp [hs]
 have e4 : (r.s == 4) = false := by simp [hs]
 have e2 : (r.s == 2) = false := by simp [hs]
 have e3 : (r.s == 3) = false := by simp [hs]
 by_cases hc : h.m < 15
 ·have hM : min (h.m + 1) 16 = h.m + 1 := by omega
  have h16 : ¬ (16 ≤ h.m + 1) := by omega
  have hnew : newR c r h now = ⟨r.p, 2, h.m + 1, 0, h.f, h.a, now + c.t2, true⟩ := by unfold newR; rw [hM]
  by_cases hf : r.f = h.f
  ·have ef : (r.f == h.f) = true := by simp [hf]
   by_cases hx : r.x = h.a
   ·have ex : ((r.x : Int) == (h.a : Int)) = true := by simp [hx]
    have hsame : h.f = r.f ∧ h.a = r.x := ⟨hf.symm, hx.symm⟩
    have H := Lib.hid (show hearR c r h now = r by unfold hearR; rw [if_pos hs])
    rw [H.out]
    clear H
    try clear hsame
    try clear hf
    try clear hx
    try clear hs
    try clear hq
    try clear hl
    try clear hM
    go_enter Tryz.func90, Tryz.ntmps90
    go_wp2_with fail
    refine bodyPost_ret (vad (g := w.heap.size + 1 + 1 + 1) (R := r) rfl rfl (Blk.new3 w _ _ _ _ _)) rfl ⟨rfl, ((((Kp.refl _).alloc _).alloc _).alloc _).alloc _⟩
   ·have ex : ((r.x : Int) == (h.a : Int)) = false := by simp; omega
    have hsame : ¬ (h.f = r.f ∧ h.a = r.x) := fun z => hx z.2.symm
    have H := Lib.hid (show hearR c r h now = r by unfold hearR; rw [if_pos hs])
    rw [H.out]
    clear H
    try clear hsame
    try clear hf
    try clear hx
    try clear hs
    try clear hq
    try clear hl
    try clear hM
    go_enter Tryz.func90, Tryz.ntmps90
    go_wp2_with fail
    refine bodyPost_ret (vad (g := w.heap.size + 1 + 1 + 1) (R := r) rfl rfl (Blk.new3 w _ _ _ _ _)) rfl ⟨rfl, ((((Kp.refl _).alloc _).alloc _).alloc _).alloc _⟩
  ·have ef : (r.f == h.f) = false := by simp [hf]
   have hsame : ¬ (h.f = r.f ∧ h.a = r.x) := fun z => hf z.1.symm
   have H := Lib.hid (show hearR c r h now = r by unfold hearR; rw [if_pos hs])
   rw [H.out]
   clear H
   try clear hsame
   try clear hf
   try clear hx
   try clear hs
   try clear hq
   try clear hl
   try clear hM
   go_enter Tryz.func90, Tryz.ntmps90
   go_wp2_with fail
   refine bodyPost_ret (vad (g := w.heap.size + 1 + 1 + 1) (R := r) rfl rfl (Blk.new3 w _ _ _ _ _)) rfl ⟨rfl, ((((Kp.refl _).alloc _).alloc _).alloc _).alloc _⟩
 ·have hM : min (h.m + 1) 16 = 16 := by omega
  have h16 : 16 ≤ h.m + 1 := by omega
  have hnew : newR c r h now = ⟨r.p, 2, 16, 0, h.f, h.a, now + c.t2, true⟩ := by unfold newR; rw [hM]
  by_cases hf : r.f = h.f
  ·have ef : (r.f == h.f) = true := by simp [hf]
   by_cases hx : r.x = h.a
   ·have ex : ((r.x : Int) == (h.a : Int)) = true := by simp [hx]
    have hsame : h.f = r.f ∧ h.a = r.x := ⟨hf.symm, hx.symm⟩
    have H := Lib.hid (show hearR c r h now = r by unfold hearR; rw [if_pos hs])
    rw [H.out]
    clear H
    try clear hsame
    try clear hf
    try clear hx
    try clear hs
    try clear hq
    try clear hl
    try clear hM
    go_enter Tryz.func90, Tryz.ntmps90
    go_wp2_with fail
    refine bodyPost_ret (vad (g := w.heap.size + 1 + 1 + 1) (R := r) rfl rfl (Blk.new3 w _ _ _ _ _)) rfl ⟨rfl, ((((Kp.refl _).alloc _).alloc _).alloc _).alloc _⟩
   ·have ex : ((r.x : Int) == (h.a : Int)) = false := by simp; omega
    have hsame : ¬ (h.f = r.f ∧ h.a = r.x) := fun z => hx z.2.symm
    have H := Lib.hid (show hearR c r h now = r by unfold hearR; rw [if_pos hs])
    rw [H.out]
    clear H
    try clear hsame
    try clear hf
    try clear hx
    try clear hs
    try clear hq
    try clear hl
    try clear hM
    go_enter Tryz.func90, Tryz.ntmps90
    go_wp2_with fail
    refine bodyPost_ret (vad (g := w.heap.size + 1 + 1 + 1) (R := r) rfl rfl (Blk.new3 w _ _ _ _ _)) rfl ⟨rfl, ((((Kp.refl _).alloc _).alloc _).alloc _).alloc _⟩
  ·have ef : (r.f == h.f) = false := by simp [hf]
   have hsame : ¬ (h.f = r.f ∧ h.a = r.x) := fun z => hf z.1.symm
   have H := Lib.hid (show hearR c r h now = r by unfold hearR; rw [if_pos hs])
   rw [H.out]
   clear H
   try clear hsame
   try clear hf
   try clear hx
   try clear hs
   try clear hq
   try clear hl
   try clear hM
   go_enter Tryz.func90, Tryz.ntmps90
   go_wp2_with fail
   refine bodyPost_ret (vad (g := w.heap.size + 1 + 1 + 1) (R := r) rfl rfl (Blk.new3 w _ _ _ _ _)) rfl ⟨rfl, ((((Kp.refl _).alloc _).alloc _).alloc _).alloc _⟩
end

end Go.Proofs.YtffckpkikdlbpaaGreatDoor
