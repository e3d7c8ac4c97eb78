/- Lemmas and contracts for the theorem of this claim: RbW, RxA, Range4, RangeH, RxB, Ret, AuA, NtL, RpA, VGen3, GdA, RpB. -/
import Derived.Test.YtgopnfacklmkaaaGreatDoorZwAu
import Derived.StillTailTactics
import Derived.OwnWalkIn
import Derived.Test.YtgopnfacklmkaaaGreatDoorProg
set_option linter.all false
set_option maxHeartbeats 16000000
namespace Go.Proofs.YtgopnfacklmkaaaGreatDoor
section
open Go.RowKit Go.Maps
structure TabZ (p : PI) (w : World) (B t q mp m : Nat) (A : Option Addr) (QF : List Nat) (l : List Tw) (T : Tb) : Prop where
 bk : Blk w t 125 (tbC q T A m mp)
 qs : QuS w B q QF l
 pm : (offP p l).Perm (offP p (armL T.l))
 ln : l.length ≤ 900000
 mr : MapR w mp T.l
 ow : Own w B 39 2 PI.enc (.slice A T.c.own.length m) T.c.own
 tq : t ∉ QF
 mq : mp ∉ QF
 mt : mp ≠ t
 an : ∀ a, A = some a → a.block ∉ QF ∧ a.block ≠ t ∧ a.block ≠ mp
 bt : B ≤ t
 bm : B ≤ mp
 u : UpR T.l
 wf : ∀ r ∈ T.l, wfP r.p
 n : T.l.length ≤ 900000
theorem TabZ.lo {p : PI} {w : World} {B t q mp m : Nat} {A : Option Addr} {QF : List Nat} {l : List Tw} {T : Tb} (h : TabZ p w B t q mp m A QF l T) : ∀ b ∈ t :: mp :: QF, B ≤ b ∧ b < w.heap.size := by
 intro b hb
 rcases List.mem_cons.1 hb with rfl | hb
 ·exact ⟨h.bt, h.bk.lt⟩
 ·rcases List.mem_cons.1 hb with rfl | hb
  ·exact ⟨h.bm, h.mr.lt⟩
  ·exact h.qs.lo b hb
theorem TabZ.only {p : PI} {w w' : World} {B t q mp m : Nat} {A : Option Addr} {QF bs : List Nat} {l : List Tw} {T : Tb} (h : TabZ p w B t q mp m A QF l T) (k : Only bs w w') (hb : ∀ b ∈ bs, b ∉ t :: mp :: QF) (hA : ∀ a, A = some a → a.block ∉ bs) : TabZ p w' B t q mp m A QF l T where
 bk := h.bk.only k (fun e => hb t e List.mem_cons_self)
 qs := h.qs.only k (fun b e z => hb b z (by simp [e]))
 pm := h.pm
 ln := h.ln
 mr := h.mr.only k (fun e => hb mp e (by simp))
 ow := vbr h.ow k hA
 tq := h.tq
 mq := h.mq
 mt := h.mt
 an := h.an
 bt := h.bt
 bm := h.bm
 u := h.u
 wf := h.wf
 n := h.n
theorem TabX.len {w : World} {B t q mp m : Nat} {A : Option Addr} {QF : List Nat} {l : List Tw} {T : Tb} (X : TabX w B t q mp m A QF l T) : l.length ≤ 900000 := by
 have h1 := X.pm.length_eq
 have h2 : (armL T.l).length ≤ T.l.length := by unfold armL; rw [List.length_map]; exact List.length_filter_le _ _
 have := X.n
 omega
end

section
open Go.RowKit
structure Turn (b B : Nat) (V V' : World) : Prop where
 os : V'.os = V.os
 tape : V'.tape = V.tape
 output : V'.output = V.output
 size : V.heap.size ≤ V'.heap.size
 block : ∀ j, j < V.heap.size → (j < b ∨ B ≤ j) → V'.heap[j]? = V.heap[j]?
structure Ring (b B : Nat) (V V' : World) : Prop where
 size : V.heap.size ≤ V'.heap.size
 block : ∀ j, b ≤ j → j < B → V'.heap[j]? = V.heap[j]?
section
variable {b B : Nat} {U V W : World}
theorem Turn.trans (h : Turn b B U V) (k : Turn b B V W) : Turn b B U W :=
 ⟨k.os.trans h.os, k.tape.trans h.tape, k.output.trans h.output, Nat.le_trans h.size k.size, fun j hj hn => (k.block j (Nat.lt_of_lt_of_le hj h.size) hn).trans (h.block j hj hn)⟩
theorem Turn.of_kp (h : Kp V W) : Turn b B V W := ⟨Below.os h, Below.tape h, Below.output h, Below.size h, fun j hj _ => Below.block h j hj⟩
theorem Turn.of_only {bs : List Nat} (h : Only bs V W) (hb : ∀ x ∈ bs, b ≤ x ∧ x < B) : Turn b B V W :=
 ⟨h.os, h.tape, h.output, h.size, fun j hj hn => h.block j hj (fun hm => by have := hb j hm; omega)⟩
theorem Turn.wide {b' B' : Nat} (h : Turn b B V W) (hb : b' ≤ b) (hB : B ≤ B') : Turn b' B' V W :=
 ⟨h.os, h.tape, h.output, h.size, fun j hj hn => h.block j hj (by omega)⟩
theorem Turn.heap (h : Turn b B V W) {j : Nat} (hj : j < V.heap.size) (hn : j < b ∨ B ≤ j) : W.heap[j]? = V.heap[j]? := h.block j hj hn
theorem Blk.turn {g : Nat} {t : TypeId} {cs : Array Value} (h : Blk V g t cs) (k : Turn b B V W) (hn : g < b ∨ B ≤ g) : Blk W g t cs := (k.block g h.lt hn).trans h
theorem Turn.kp (h : Turn b B V W) (k : Kp U V) (hU : U.heap.size ≤ b) : Kp U W :=
 Below.trans k ⟨h.os, h.tape, h.output, h.size, fun j hj => h.block j (Nat.lt_of_lt_of_le hj k.size) (.inl (Nat.lt_of_lt_of_le hj hU))⟩
theorem Turn.own {α : Type} {base e sz : Nat} {enc : α → List Value} {v : Value} {xs : List α} (h : Own V base e sz enc v xs) (k : Turn b B V W) (hb : B ≤ base) : Own W base e sz enc v xs := by
 refine ⟨h.1, ?_⟩
 rcases h.2 with h2 | ⟨g, cap, cur, hv, hg, hh, r⟩
 ·exact .inl h2
 ·exact .inr ⟨g, cap, cur, hv, hg, (k.block g (Array.getElem?_eq_some_iff.1 hh).1 (.inr (by omega))).trans hh, r⟩
theorem Ring.refl (b B : Nat) (V : World) : Ring b B V V := ⟨Nat.le_refl _, fun _ _ _ => rfl⟩
theorem Ring.trans (h : Ring b B U V) (k : Ring b B V W) : Ring b B U W := ⟨Nat.le_trans h.size k.size, fun j h1 h2 => (k.block j h1 h2).trans (h.block j h1 h2)⟩
theorem Ring.of_kp (h : Kp V W) (hB : B ≤ V.heap.size) : Ring b B V W := ⟨Below.size h, fun j _ h2 => Below.block h j (by omega)⟩
theorem Ring.of_only {bs : List Nat} (h : Only bs V W) (hB : B ≤ V.heap.size) (hb : ∀ x ∈ bs, x < b ∨ B ≤ x) : Ring b B V W :=
 ⟨h.size, fun j h1 h2 => h.block j (by omega) (fun hm => by have := hb j hm; omega)⟩
theorem Ring.setCell (h : Ring b B U V) {p : Addr} (hp : p.block < b ∨ B ≤ p.block) (u : Value) : Ring b B U (V.setCell p u) :=
 h.trans ⟨by simp [World.setCell], fun j h1 h2 => Below.heap_setCell V p u j (by rintro rfl; omega)⟩
theorem Ring.alloc (h : Ring b B U V) (hB : B ≤ V.heap.size) (o : Obj) : Ring b B U (V.alloc o) := h.trans (Ring.of_kp ((Kp.refl V).alloc o) hB)
theorem Ring.grown {row : Option Nat} (h : Ring b B U V) (hB : B ≤ V.heap.size) (hg : V.grownBy W row) (hr : ∀ k, row = some k → k < b ∨ B ≤ k) : Ring b B U W :=
 h.trans ⟨hg.size, fun j h1 h2 => hg.block j (by omega) (fun e => by have := hr j e.symm; omega)⟩
end
theorem Turn.putObj {b B r : Nat} (V : World) (h1 : b ≤ r) (h2 : r < B) (o : Obj) : Turn b B V (V.putObj r o) :=
 Turn.of_only ((Only.refl [r] V).putObj (by simp) o) (by simpa using ⟨h1, h2⟩)
end

section
open Go.RowKit
def IterH {σ : Type} (P : Program) (gf : FuncId) (caps : Array Value) (s0 : σ) (Nx : σ → Array Value → σ → Prop) (En : σ → Prop) (M : World → Prop) : Prop :=
 ∀ (l : Nat) (W : World) (I : Nat → σ → World → Prop),
  (∀ B s V V', W.heap.size ≤ B → I B s V → Turn W.heap.size B V V' → I B s V') →
  (∀ B s V, W.heap.size ≤ B → I B s V → M V) → M W →
  (∀ B V, Kp W V → W.heap.size ≤ B → V.heap.size ≤ B → I B s0 V) →
  (∀ B s V vs s', Nx s vs s' → W.heap.size ≤ B → B ≤ V.heap.size → I B s V → ∃ fn tmps assign body, (Instr.yield l vs).run P V = .ok (.round l fn tmps assign body) V ∧
   RoundIn Fence.wide 0 P l fn tmps assign body V (fun e V' => Ring W.heap.size B V V' ∧ e = .returned (.bool true) ∧ I B s' V')) →
  Calls P gf (#[.func (.yield l) #[] #[]] ++ caps) W (fun e W' => e = .returned (.tuple #[]) ∧ ∃ B s, W.heap.size ≤ B ∧ En s ∧ I B s W')
def rndPostH (w : World) (I : World → Prop) (B : Nat) (W : World) : Exit → Act → World → Prop
 | .normal, _, W' => Ring w.heap.size B W W' ∧ I W'
 | _, _, _ => False
theorem vgL {σ : Type} {P : Program} {g : Operand} {ps : Array Tmp} {assign body : Code} {Q : Exit → Act → World → Prop} {a : Act} {w : World} {gf : FuncId} {caps : Array Value} {s0 : σ} {Nx : σ → Array Value → σ → Prop} {En : σ → Prop} {M : World → Prop}
  (hg : a.eval g = .func (.func gf) #[] caps) (eg : ∀ args w, (callFunc gf args).run P w = .ok (.enter gf args) w) (hit : IterH P gf caps s0 Nx En M) (hps : ∀ s vs s', Nx s vs s' → vs.size = ps.size)
  (I : Nat → σ → World → Prop)
  (hI : ∀ B s V V', w.heap.size + 2 ≤ B → I B s V → Turn w.heap.size B V V' → I B s V')
  (hM : ∀ B s V, w.heap.size + 2 ≤ B → I B s V → M V) (h0 : ∀ B V, Kp w V → w.heap.size + 2 ≤ B → V.heap.size ≤ B → I B s0 V)
  (hround : ∀ l B s V vs s', Nx s vs s' → w.heap.size + 2 ≤ B → B ≤ V.heap.size → I B s V → assign.wpIn (Fence.wide.inRound l) 0 P (Exit.then (fun a' V' => Ring w.heap.size B V V' ∧ ∃ J : World → Prop, J V' ∧ (∀ U U', J U → Turn w.heap.size B U U' → J U') ∧ ∀ W2, J W2 → B ≤ W2.heap.size → body.wpIn (Fence.wide.inRound l) 0 P (rndPostH w (I B s') B W2) a' W2) (fun _ _ _ => False))
   { tmps := (ps.zip vs).foldl (fun t (p, v) => t.setIfInBounds p v) a.tmps, defers := [] } V)
  (hdone : ∀ B s W, w.heap.size + 2 ≤ B → En s → I B s W → W.heap[w.heap.size]? = some (.deferred (some [])) → Q .normal { a with defers := { target := .collected w.heap.size, args := #[] } :: a.defers } W) :
  (Code.rangeFunc g ps assign body).wp P Q a w := by
 refine (wpIn_wide (n := 0)).1 (wpIn_rangeFunc ?_)
 intro fn hfn
 obtain ⟨rec, hrec⟩ : ∃ rec : LoopState → Option Code → Loop, rec = fun st pe => { state := st, pending := pe, fn, tmps := a.tmps, params := ps, assign, body, defers := w.heap.size } := ⟨_, rfl⟩
 obtain ⟨W1, hW1⟩ : ∃ W1, (w.alloc (.deferred (some []))).alloc (.loop (rec .ready none)) = W1 := ⟨_, rfl⟩
 have hL1 : W1.heap[w.heap.size + 1]? = some (.loop (rec .ready none)) := by
  rw [← hW1]; have := World.alloc_heap_new (w.alloc (.deferred (some []))) (.loop (rec .ready none)); rwa [World.size_alloc] at this
 have hK1 : W1.heap[w.heap.size]? = some (.deferred (some [])) := by
  rw [← hW1]; exact (Below.heap_alloc _ _ _ (by simp)).trans (World.alloc_heap_new w _)
 have hKW : Kp w W1 := by rw [← hW1]; exact ((Kp.refl _).alloc _).alloc _
 have hsz : W1.heap.size = w.heap.size + 2 := by rw [← hW1]; simp
 have tw : ∀ {B V V'}, Turn W1.heap.size B V V' → Turn w.heap.size B V V' := fun h => h.wide (by omega) (Nat.le_refl _)
 refine ⟨w.heap.size + 1, [{ target := .collected w.heap.size, args := #[] }], W1, { target := .fn (.func gf) caps, args := #[.func (.yield (w.heap.size + 1)) #[] #[]] }, W1, gf,
  #[.func (.yield (w.heap.size + 1)) #[] #[]] ++ caps, W1, ?_, ?_, fun _ _ => trivial, ?_, (fun h => by cases h), callsIn_wide.2 ?_⟩
 ·rw [← hW1, hrec]; exact run_enterLoop_outer _ _ _ _ _
 ·simp only [resolve, hg]
  simp [go_sem]
 ·simp [invoke, go_sem, eg]
 ·refine (hit (w.heap.size + 1) W1
   (fun B k W => I B k W ∧ W.heap[w.heap.size + 1]? = some (.loop (rec .ready none)) ∧ W.heap[w.heap.size]? = some (.deferred (some [])))
   ?_ (fun B k W hB h => hM B k W (by omega) h.1) (hM W1.heap.size s0 W1 (by omega) (h0 _ _ hKW (by omega) (Nat.le_refl _))) ?_ ?_).mono ?_
  ·rintro B k W W' hB ⟨h1, h2, h3⟩ hk
   exact ⟨hI B k W W' (by omega) h1 (tw hk), (hk.heap (Array.getElem?_eq_some_iff.1 h2).1 (.inl (by omega))).trans h2, (hk.heap (Array.getElem?_eq_some_iff.1 h3).1 (.inl (by omega))).trans h3⟩
  ·rintro B V hV hB hVB
   exact ⟨h0 B V (hKW.trans hV) (by omega) hVB, (hV.heap (by omega)).trans hL1, (hV.heap (by omega)).trans hK1⟩
  ·rintro B k W vs k' hk hB hBW ⟨hi, hl, hd⟩
   have hlt : w.heap.size + 1 < W.heap.size := (Array.getElem?_eq_some_iff.1 hl).1
   have hy := run_yield (P := P) (args := vs) hl (by rw [hrec]; exact hps k vs k' hk)
   rw [hrec] at hy
   refine ⟨fn, _, assign, body, hy, roundIn_of_wpIn trivial (wpIn_mono (hround _ B k W vs k' hk (by omega) hBW hi) ?_)⟩
   rintro e₀ a' W' hq
   rcases e₀ with _ | id | t | _ | ch | _
   rotate_left
   ·exact hq.elim
   ·exact hq.elim
   ·exact hq.elim
   ·exact hq.elim
   ·exact hq.elim
   obtain ⟨hkp, J, hj, hJ, hbody⟩ := hq
   replace hl := (hkp.block (w.heap.size + 1) (by omega) (by omega)).trans hl
   replace hd := (hkp.block w.heap.size (by omega) (by omega)).trans hd
   replace hlt : w.heap.size + 1 < W'.heap.size := (Array.getElem?_eq_some_iff.1 hl).1
   refine ⟨_, run_beginRound hl (by rw [hrec]), ?_⟩
   have hl2 : (W'.putObj (w.heap.size + 1) (.loop { rec .ready none with state := .busy })).heap[w.heap.size + 1]? = some (.loop { rec .ready none with state := .busy }) := World.putObj_heap_same hlt
   have hd2 : (W'.putObj (w.heap.size + 1) (.loop { rec .ready none with state := .busy })).heap[w.heap.size]? = some (.deferred (some [])) := (World.putObj_heap_other (by omega)).trans hd
   have hi2 : J (W'.putObj (w.heap.size + 1) (.loop { rec .ready none with state := .busy })) := hJ _ _ hj (Turn.putObj _ (by omega) (by omega) _)
   have hs2 : B ≤ (W'.putObj (w.heap.size + 1) (.loop { rec .ready none with state := .busy })).heap.size := by
    have := hkp.size
    simp; omega
   have hr0 : Ring W1.heap.size B W (W'.putObj (w.heap.size + 1) (.loop { rec .ready none with state := .busy })) :=
    ⟨by have := hkp.size; simpa using this, fun j h1 h2 => (World.putObj_heap_other (by omega)).trans (hkp.block j (by omega) h2)⟩
   refine wpIn_mono (hbody _ hi2 hs2) ?_
   have fin : ∀ (jump : Option Code) (W3 : World), Ring w.heap.size B (W'.putObj (w.heap.size + 1) (.loop { rec .ready none with state := .busy })) W3 →
     (Instr.endRound (w.heap.size + 1) jump).run P W3 = .ok (.bool jump.isNone) (W3.putObj (w.heap.size + 1) (.loop (rec (if jump.isNone then .ready else .done) jump))) ∧
     (W3.putObj (w.heap.size + 1) (.loop (rec (if jump.isNone then .ready else .done) jump))).heap[w.heap.size + 1]? = some (.loop (rec (if jump.isNone then .ready else .done) jump)) ∧
     (W3.putObj (w.heap.size + 1) (.loop (rec (if jump.isNone then .ready else .done) jump))).heap[w.heap.size]? = some (.deferred (some [])) ∧
     Ring W1.heap.size B W (W3.putObj (w.heap.size + 1) (.loop (rec (if jump.isNone then .ready else .done) jump))) := fun jump W3 hk3 => by
    have hl3 := (hk3.block (w.heap.size + 1) (by omega) (by omega)).trans hl2
    have hd3 := (hk3.block w.heap.size (by omega) (by omega)).trans hd2
    have := run_endRound (P := P) jump hl3
    rw [hrec] at this ⊢
    refine ⟨this, World.putObj_heap_same (Array.getElem?_eq_some_iff.1 hl3).1, (World.putObj_heap_other (by omega)).trans hd3, ?_⟩
    refine ⟨by have h1 := hr0.size; have h2 := hk3.size; simp at h1 h2 ⊢; omega, fun j h1 h2 => (World.putObj_heap_other (show j ≠ w.heap.size + 1 by omega)).trans ((hk3.block j (by omega) h2).trans (hr0.block j h1 h2))⟩
   rintro e a3 W3 hp
   cases e with
   | normal =>
    obtain ⟨hr, hl4, hd4, hri⟩ := fin none W3 hp.1
    exact ⟨_, _, hr, hri, rfl, hI B _ _ _ (by omega) hp.2 (Turn.putObj _ (by omega) (by omega) _), hl4, hd4⟩
   | ret => exact hp.elim
   | exit id => exact hp.elim
   | goto t => exact hp.elim
   | panic ch => exact hp.elim
   | outgrown => exact hp.elim
  ·rintro e W3 ⟨rfl, B, s, hB, hE, hi, hl, hd⟩
   have hend := run_endLoop (P := P) hl (by rw [hrec]; simp)
   have hpn : (rec .ready none).pending = none := by rw [hrec]
   rw [hpn] at hend
   refine ⟨none, _, hend, ?_⟩
   exact hdone B s _ (by omega) hE (hI B _ _ _ (by omega) hi (Turn.putObj _ (by omega) (by omega) _)) ((World.putObj_heap_other (by omega)).trans hd)
end

section
open Go.RowKit Go.Maps
def DueSt (w : World) (B t q mp m : Nat) (A : Option Addr) (QF : List Nat) (l : List Tw) (T : Tb) (p : PI) (is : Bool) : Prop :=
 (is = false ∧ TabX w B t q mp m A QF l T ∧ ∀ y ∈ armL T.l, T.now < y.d) ∨ (is = true ∧ ∃ r, p = r.p ∧ firstR T.l = some r ∧ r ∈ T.l ∧ 2 ≤ r.s ∧ r.d ≤ T.now ∧ TabZ r.p w B t q mp m A QF l T)
theorem DueSt.only {w w' : World} {B t q mp m : Nat} {A : Option Addr} {QF bs : List Nat} {l : List Tw} {T : Tb} {p : PI} {is : Bool} (h : DueSt w B t q mp m A QF l T p is) (k : Only bs w w') (hb : ∀ b ∈ bs, b ∉ t :: mp :: QF) (hA : ∀ a, A = some a → a.block ∉ bs) : DueSt w' B t q mp m A QF l T p is := by
 rcases h with ⟨h1, h2, h3⟩ | ⟨h1, r, h2, h3, h4, h5, h6, h7⟩
 ·exact .inl ⟨h1, h2.only k hb hA, h3⟩
 ·exact .inr ⟨h1, r, h2, h3, h4, h5, h6, h7.only k hb hA⟩
theorem DueSt.lo {w : World} {B t q mp m : Nat} {A : Option Addr} {QF : List Nat} {l : List Tw} {T : Tb} {p : PI} {is : Bool} (h : DueSt w B t q mp m A QF l T p is) : ∀ b ∈ t :: mp :: QF, B ≤ b ∧ b < w.heap.size := by
 rcases h with ⟨_, h2, _⟩ | ⟨_, r, _, _, _, _, _, h7⟩
 ·exact h2.lo
 ·exact h7.lo
end

section
open Go.RowKit
section
variable {P : Program} {o : Oper} {a : Act} {w : World} {K : Act → World → Prop} {Q : Exit → Act → World → Prop} {T : TypeId}
end
structure RetG (V0 : World) (C : List (Nat × TypeId × Nat × Value × Value)) (F : List (Nat × Value)) (T : List (Nat × Nat × Value)) (D : List Deferred) (S : Nat) (L : Nat → Bool) (a : Act) (V : World) : Prop where
 only : Only (C.map (·.1)) V0 V
 df : a.defers = D
 sz : a.tmps.size = S
 fx : ∀ e ∈ F, a.tmps.getD e.1 undef = e.2
 tm : ∀ e ∈ T, L e.1 = true → a.tmps.getD e.2.1 undef = e.2.2
 cs : ∀ e ∈ C, Blk V e.1 e.2.1 #[if L e.2.2.1 = true then e.2.2.2.2 else e.2.2.2.1]
section
variable {V0 : World} {C : List (Nat × TypeId × Nat × Value × Value)} {F : List (Nat × Value)} {T : List (Nat × Nat × Value)} {D : List Deferred} {S : Nat} {L : Nat → Bool} {a : Act} {V : World}
theorem RetG.st (h : RetG V0 C F T D S L a V) {b t i : Nat} {v u : Value} (hm : (b, t, i, v, u) ∈ C) (hC : ∀ e ∈ C, e.2.2.1 = i → e = (b, t, i, v, u)) (hB : ∀ e ∈ C, e.2.2.1 ≠ i → e.1 ≠ b) (hT : ∀ e ∈ T, e.1 ≠ i) :
  RetG V0 C F T D S (fun j => j == i || L j) a (V.setCell ⟨b, 0, none⟩ u) := by
 refine ⟨h.only.setCell (.inl (List.mem_map.2 ⟨_, hm, rfl⟩)) u, h.df, h.sz, h.fx, fun e he hl => h.tm e he ?_, fun e he => ?_⟩
 ·have hn : (e.1 == i) = false := by simpa using hT e he
  simpa [hn] using hl
 ·by_cases hi : e.2.2.1 = i
  ·have he2 := hC e he hi
   subst he2
   have := (h.cs _ hm).set_ 0 u
   simpa using this
  ·have hn : (e.2.2.1 == i) = false := by simpa using hi
   have := (h.cs e he).far (p := ⟨b, 0, none⟩) (hB e he hi) u
   simpa [hn] using this
end
theorem vbt {α : Type} {enc : α → List Value} {F : Fence} {nn : Nat} {P : Program} {t e e' : TypeId} {z : Value} {size bytes : Nat} (E : ElemOf P t e z size bytes) (henc : ∀ x, (enc x).length = size) (hone : ∀ x, ∀ u ∈ enc x, u.oneCell' = true)
  {W : World} {ops : Array Oper} {rest : List Oper} {o : Oper} {a : Act} {Q : Exit → Act → World → Prop}
  (hgd : o.guard = none) (s x : Operand) (ho : o.op = .call { callee := .builtin .append, args := #[s, x], argTypes := #[t, t] })
  {base : Nat} {v : Value} {xs : List α} {news : List Value} (y : α) (hs : a.eval s = v) (hown : Own W base e size enc v xs) (hbase : base ≤ W.heap.size)
  {N : Nat} (hx : a.eval x = .slice (some ⟨N, 0, none⟩) 1 1) (hN : N = W.heap.size) (hnews : news = enc y) (hfit : (xs.length + 1) * (bytes + 1) ≤ 140737488355328)
  (h : ∀ v' w', Own w' base e size enc v' (xs ++ [y]) → W.grownBy w' v.ownBlock → (v'.ownBlock = v.ownBlock ∨ v'.ownBlock = some (W.heap.size + 1)) → wpListIn F nn P ops Q rest (a.put o.dst v') w') : wpListIn F nn P ops Q (o :: rest) a (W.alloc (.cells news.toArray e')) := by
 subst hN
 have hrd : Rd (W.alloc (.cells news.toArray e')) size enc (some ⟨W.heap.size, 0, none⟩) [y] :=
  Rd.of_blk (Blk.new W e' news.toArray) E.2.2.2 henc (by simp [maxLen]) (by simp [hnews])
 refine wpListIn_plain hgd fun K hK' => ?_
 obtain ⟨v', w', hrun, r1, r2, r3⟩ := vbN E o.type henc hone (hown.alloc (.cells news.toArray e')) hrd (by simpa using hfit) (by simp; omega)
 unfold Oper.wpIn
 refine ⟨?_, ?_⟩
 ·simp [Oper.about, ho, resolve, Target.leads, Sem.run_pure]
 ·rw [Oper.semAt_plain F _ _ (by rw [ho]; intro c hc'; cases hc')]
  have hx1 : a.eval x = .slice (some ⟨W.heap.size, 0, none⟩) [y].length 1 := hx
  simp [execOp, ho, resolve, invoke, builtin, hs, hx, Result.andThen]
  simp only [List.length_singleton] at hrun
  rw [hrun]
  refine hK' _ _ (h v' w' r1 (vcb r2) ?_)
  simpa using r3
end

section
open Go.RowKit
def nameF (f : Int) : ByteArray := if f = 0 then ⟨#[110, 111, 110, 101]⟩ else if f = 1 then ⟨#[98, 121, 116, 101, 115]⟩ else if f = 2 then ⟨#[97, 115, 107]⟩ else if f = 3 then ⟨#[101, 109, 112, 116, 121]⟩ else if f = 4 then ⟨#[101, 110, 116, 114, 121]⟩ else if f = 5 then ⟨#[112, 111, 105, 115, 111, 110]⟩ else if f = 6 then ⟨#[109, 101, 116, 114, 105, 99]⟩ else ⟨#[]⟩
set_option maxRecDepth 100000 in
theorem vdI (f : Int) (w : World) : Calls Tryz.prog 7 #[.int .i64 f] w fun e w' => e = .returned (.string (nameF f)) ∧ Kp w w' := by
 by_cases h : 0 ≤ f ∧ f ≤ 6
 ·have hc : f = 0 ∨ f = 1 ∨ f = 2 ∨ f = 3 ∨ f = 4 ∨ f = 5 ∨ f = 6 := by omega
  clear h
  rcases hc with rfl | rfl | rfl | rfl | rfl | rfl | rfl
  all_goals
   go_enter Tryz.func7, Tryz.ntmps7
   go_wp2_with fail
   go_ret
   exact ⟨rfl, (Kp.refl _).alloc _⟩
 ·have H : Hid (nameF f = ⟨#[]⟩) := Lib.hid (by
   unfold nameF
   rw [if_neg (by omega), if_neg (by omega), if_neg (by omega), if_neg (by omega), if_neg (by omega), if_neg (by omega), if_neg (by omega)])
  by_cases h0 : f < 0
  ·have d0 := decide_eq_true h0
   clear h h0
   go_enter Tryz.func7, Tryz.ntmps7
   go_wp2_with fail
   go_ret
   exact ⟨by rw [H.out]; rfl, (Kp.refl _).alloc _⟩
  ·have d0 := decide_eq_false h0
   have d1 : decide ((7 : Int) ≤ f) = true := decide_eq_true (by omega)
   clear h h0
   go_enter Tryz.func7, Tryz.ntmps7
   go_wp2_with fail
   go_ret
   exact ⟨by rw [H.out]; rfl, (Kp.refl _).alloc _⟩
set_option maxRecDepth 100000 in
theorem vgM (f : Int) (w : World) : Calls Tryz.prog 8 #[.int .i64 f] w fun e w' => e = .returned (.string (nameF f)) ∧ Kp w w' := by
 by_cases h : 0 ≤ f ∧ f ≤ 6
 ·have hc : f = 0 ∨ f = 1 ∨ f = 2 ∨ f = 3 ∨ f = 4 ∨ f = 5 ∨ f = 6 := by omega
  clear h
  rcases hc with rfl | rfl | rfl | rfl | rfl | rfl | rfl
  all_goals
   go_enter Tryz.func8, Tryz.ntmps8
   go_wp2_with fail
   go_ret
   exact ⟨rfl, (Kp.refl _).alloc _⟩
 ·have H : Hid (nameF f = ⟨#[]⟩) := Lib.hid (by
   unfold nameF
   rw [if_neg (by omega), if_neg (by omega), if_neg (by omega), if_neg (by omega), if_neg (by omega), if_neg (by omega), if_neg (by omega)])
  by_cases h0 : f < 0
  ·have d0 := decide_eq_true h0
   clear h h0
   go_enter Tryz.func8, Tryz.ntmps8
   go_wp2_with fail
   go_ret
   exact ⟨by rw [H.out]; rfl, Kp.refl _⟩
  ·have d0 := decide_eq_false h0
   have d1 : decide ((6 : Int) < f) = true := decide_eq_true (by omega)
   clear h h0
   go_enter Tryz.func8, Tryz.ntmps8
   go_wp2_with fail
   go_ret
   exact ⟨by rw [H.out]; rfl, Kp.refl _⟩
end

section
open Go.RowKit Go.Maps
def netQ (n : Nat) : PI := ⟨167772160 + n * 65536, 16⟩
def auC : Cf := ⟨1, 0, 6, 0, 3, 0, 0, 2, [netQ 1]⟩
def auH : Hd := ⟨0, 167772418, 2⟩
def au5 : Rt := ⟨netQ 5, 2, 3, 0, 0, 167772418, 7, true⟩
def auT : Tb := ⟨auC, [ownR (netQ 1), au5], 1, 0⟩
theorem au_ok : okCf auC = true := by decide +kernel
theorem vkM : newT auC = ⟨auC, [ownR (netQ 1)], 0, 0⟩ := by kernel_rfl
theorem au_1 : heardT (newT auC) (netQ 5) auH 1 = (auT, au5, 0) := by kernel_rfl
theorem vgN : ∀ k (hk : k < auC.own.length), auC.own[k].a < 4294967296 := by decide
end

section
open Go.RowKit
set_option maxRecDepth 100000 in
theorem vip (w : World) : Calls Tryz.prog 314 #[.int .i64 2] w fun e w' => e = .returned (.bool true) ∧ w = w' := by
 go_enter Tryz.func314, Tryz.ntmps314
 go_wp2_with fail
 go_ret
 exact ⟨rfl, rfl⟩
set_option maxRecDepth 100000 in
theorem viq (w : World) : Calls Tryz.prog 314 #[.int .i64 4] w fun e w' => e = .returned (.bool true) ∧ w = w' := by
 go_enter Tryz.func314, Tryz.ntmps314
 go_wp2_with fail
 go_ret
 exact ⟨rfl, rfl⟩
set_option maxRecDepth 100000 in
theorem vkN (n0 : Nat) (w : World) (hn : n0 < 65536) : Calls Tryz.prog 281 #[.int .u32 (n0 : Int), .int .i64 2] w (PutP n0 2 w) := by
 obtain ⟨g, hg⟩ : ∃ g, w.heap.size = g := ⟨_, rfl⟩
 obtain ⟨W, hW, kW, B0⟩ := Blk.al1 hg #[.int .u8 0, .int .u8 0] 5
 have hm := mk2
 obtain ⟨n1, h1⟩ : ∃ n1, n0 / 256 = n1 := ⟨_, rfl⟩
 obtain ⟨n2, h2⟩ : ∃ n2, n1 / 256 = n2 := ⟨_, rfl⟩
 have q1 : (n0 : Int) / 256 = (n1 : Int) := by omega
 have q2 : (n1 : Int) / 256 = (n2 : Int) := by omega
 have z2 : n2 = 0 := by omega
 have HE : Hid (bysC (beN n0 2) = #[.int .u8 ((n1 : Int) % 256), .int .u8 ((n0 : Int) % 256)]) := Lib.hid (by
  subst h1 h2
  simp only [bysC, beN]
  refine congrArg List.toArray ?_
  simp only [List.map_cons, List.map_nil]
  congr 2
  all_goals first | omega | skip
  all_goals simp
  all_goals omega)
 clear h1 h2
 go_enter Tryz.func281, Tryz.ntmps281
 go_wp2_with fail
 refine (vip _).mono ?_
 rintro e w' ⟨rfl, rfl⟩
 go_wp2_with fail
 clear hW
 go_loopw [0, 7] (fun s i wr => ((i = .int .i64 1 ∧ s = .int .u32 (n0 : Int) ∧ Blk wr g 5 #[.int .u8 0, .int .u8 0]) ∨ (i = .int .i64 0 ∧ s = .int .u32 (n1 : Int) ∧ Blk wr g 5 #[.int .u8 0, .int .u8 ((n0 : Int) % 256)]) ∨ (i = .int .i64 (-1) ∧ s = .int .u32 0 ∧ Blk wr g 5 #[.int .u8 ((n1 : Int) % 256), .int .u8 ((n0 : Int) % 256)])) ∧ Kp w wr) (fun _ i _ => (intOf i + 1).toNat)
 case atStart => exact ⟨.inl ⟨rfl, rfl, B0⟩, kW⟩
 case round =>
  obtain ⟨hB, hK⟩ := hrel
  rcases hB with ⟨rfl, rfl, B⟩ | ⟨rfl, rfl, B⟩ | ⟨rfl, rfl, B⟩
  ·have u := Blk.f B rfl
   have z := Blk.frozen B
   go_wp2_with fail
   go_roundw
   case rel => exact ⟨.inr <| .inl ⟨rfl, rfl, B.set_ 1 _⟩, hK.setCell (p := ⟨g, 1, none⟩) (by show w.heap.size ≤ g; omega) _⟩
   case measure => simp [intOf]
  ·have u := Blk.f B rfl
   have z := Blk.frozen B
   go_wp2_with fail
   go_roundw
   case rel => exact ⟨.inr <| .inr <| ⟨rfl, rfl, B.set_ 0 _⟩, hK.setCell (p := ⟨g, 0, none⟩) (by show w.heap.size ≤ g; omega) _⟩
   case measure => simp [intOf]
  ·go_wp2_with fail
   go_ret2
   exact ⟨by rw [hg]; rfl, by rw [HE.out, hg]; exact B, hK⟩
set_option maxRecDepth 100000 in
theorem veB (n : Nat) (w : World) (hn : n < 65536) : Calls Tryz.prog 214 #[.int .u32 (n : Int), .int .i64 2] w fun e w' => e = .returned (.slice (some ⟨w.heap.size, 0, none⟩) 2 2) ∧ Blk w' w.heap.size 5 (bysC (beN n 2)) ∧ Kp w w' := by
 go_enter Tryz.func214, Tryz.ntmps214
 go_wp2_with fail
 refine (vkN n _ hn).mono ?_
 rintro e w1 ⟨rfl, hB, hK⟩
 go_wp2_with fail
 go_ret
 exact ⟨rfl, hB, hK⟩
set_option maxRecDepth 100000 in
theorem vkO (n0 : Nat) (w : World) (hn : n0 < 4294967296) : Calls Tryz.prog 281 #[.int .u32 (n0 : Int), .int .i64 4] w (PutP n0 4 w) := by
 obtain ⟨g, hg⟩ : ∃ g, w.heap.size = g := ⟨_, rfl⟩
 obtain ⟨W, hW, kW, B0⟩ := Blk.al1 hg #[.int .u8 0, .int .u8 0, .int .u8 0, .int .u8 0] 5
 have hm := mk4
 obtain ⟨n1, h1⟩ : ∃ n1, n0 / 256 = n1 := ⟨_, rfl⟩
 obtain ⟨n2, h2⟩ : ∃ n2, n1 / 256 = n2 := ⟨_, rfl⟩
 obtain ⟨n3, h3⟩ : ∃ n3, n2 / 256 = n3 := ⟨_, rfl⟩
 obtain ⟨n4, h4⟩ : ∃ n4, n3 / 256 = n4 := ⟨_, rfl⟩
 have q1 : (n0 : Int) / 256 = (n1 : Int) := by omega
 have q2 : (n1 : Int) / 256 = (n2 : Int) := by omega
 have q3 : (n2 : Int) / 256 = (n3 : Int) := by omega
 have q4 : (n3 : Int) / 256 = (n4 : Int) := by omega
 have z4 : n4 = 0 := by omega
 have HE : Hid (bysC (beN n0 4) = #[.int .u8 ((n3 : Int) % 256), .int .u8 ((n2 : Int) % 256), .int .u8 ((n1 : Int) % 256), .int .u8 ((n0 : Int) % 256)]) := Lib.hid (by
  subst h1 h2 h3 h4
  simp only [bysC, beN]
  refine congrArg List.toArray ?_
  simp only [List.map_cons, List.map_nil]
  congr 2
  all_goals first | omega | skip
  all_goals simp
  all_goals omega)
 clear h1 h2 h3 h4
 go_enter Tryz.func281, Tryz.ntmps281
 go_wp2_with fail
 refine (viq _).mono ?_
 rintro e w' ⟨rfl, rfl⟩
 go_wp2_with fail
 clear hW
 go_loopw [0, 7] (fun s i wr => ((i = .int .i64 3 ∧ s = .int .u32 (n0 : Int) ∧ Blk wr g 5 #[.int .u8 0, .int .u8 0, .int .u8 0, .int .u8 0]) ∨ (i = .int .i64 2 ∧ s = .int .u32 (n1 : Int) ∧ Blk wr g 5 #[.int .u8 0, .int .u8 0, .int .u8 0, .int .u8 ((n0 : Int) % 256)]) ∨ (i = .int .i64 1 ∧ s = .int .u32 (n2 : Int) ∧ Blk wr g 5 #[.int .u8 0, .int .u8 0, .int .u8 ((n1 : Int) % 256), .int .u8 ((n0 : Int) % 256)]) ∨ (i = .int .i64 0 ∧ s = .int .u32 (n3 : Int) ∧ Blk wr g 5 #[.int .u8 0, .int .u8 ((n2 : Int) % 256), .int .u8 ((n1 : Int) % 256), .int .u8 ((n0 : Int) % 256)]) ∨ (i = .int .i64 (-1) ∧ s = .int .u32 0 ∧ Blk wr g 5 #[.int .u8 ((n3 : Int) % 256), .int .u8 ((n2 : Int) % 256), .int .u8 ((n1 : Int) % 256), .int .u8 ((n0 : Int) % 256)])) ∧ Kp w wr) (fun _ i _ => (intOf i + 1).toNat)
 case atStart => exact ⟨.inl ⟨rfl, rfl, B0⟩, kW⟩
 case round =>
  obtain ⟨hB, hK⟩ := hrel
  rcases hB with ⟨rfl, rfl, B⟩ | ⟨rfl, rfl, B⟩ | ⟨rfl, rfl, B⟩ | ⟨rfl, rfl, B⟩ | ⟨rfl, rfl, B⟩
  ·have u := Blk.f B rfl
   have z := Blk.frozen B
   go_wp2_with fail
   go_roundw
   case rel => exact ⟨.inr <| .inl ⟨rfl, rfl, B.set_ 3 _⟩, hK.setCell (p := ⟨g, 3, none⟩) (by show w.heap.size ≤ g; omega) _⟩
   case measure => simp [intOf]
  ·have u := Blk.f B rfl
   have z := Blk.frozen B
   go_wp2_with fail
   go_roundw
   case rel => exact ⟨.inr <| .inr <| .inl ⟨rfl, rfl, B.set_ 2 _⟩, hK.setCell (p := ⟨g, 2, none⟩) (by show w.heap.size ≤ g; omega) _⟩
   case measure => simp [intOf]
  ·have u := Blk.f B rfl
   have z := Blk.frozen B
   go_wp2_with fail
   go_roundw
   case rel => exact ⟨.inr <| .inr <| .inr <| .inl ⟨rfl, rfl, B.set_ 1 _⟩, hK.setCell (p := ⟨g, 1, none⟩) (by show w.heap.size ≤ g; omega) _⟩
   case measure => simp [intOf]
  ·have u := Blk.f B rfl
   have z := Blk.frozen B
   go_wp2_with fail
   go_roundw
   case rel => exact ⟨.inr <| .inr <| .inr <| .inr <| ⟨rfl, rfl, B.set_ 0 _⟩, hK.setCell (p := ⟨g, 0, none⟩) (by show w.heap.size ≤ g; omega) _⟩
   case measure => simp [intOf]
  ·go_wp2_with fail
   go_ret2
   exact ⟨by rw [hg]; rfl, by rw [HE.out, hg]; exact B, hK⟩
set_option maxRecDepth 100000 in
theorem vbY (n : Nat) (w : World) (hn : n < 4294967296) : Calls Tryz.prog 214 #[.int .u32 (n : Int), .int .i64 4] w fun e w' => e = .returned (.slice (some ⟨w.heap.size, 0, none⟩) 4 4) ∧ Blk w' w.heap.size 5 (bysC (beN n 4)) ∧ Kp w w' := by
 go_enter Tryz.func214, Tryz.ntmps214
 go_wp2_with fail
 refine (vkO n _ hn).mono ?_
 rintro e w1 ⟨rfl, hB, hK⟩
 go_wp2_with fail
 go_ret
 exact ⟨rfl, hB, hK⟩
end

section
def mskN (n i : Nat) : Nat := (2 ^ min i n - 1) * 2 ^ (i - min i n)
theorem vir (n : Nat) : mskN n 0 = 0 := by simp [mskN]
theorem vkP (n i : Nat) : mskN n i < 2 ^ i := by
 unfold mskN
 have h1 : 2 ^ i = 2 ^ min i n * 2 ^ (i - min i n) := by rw [← Nat.pow_add]; congr 1; omega
 have h2 : 0 < 2 ^ min i n := Nat.pow_pos (by decide)
 have h3 : 0 < 2 ^ (i - min i n) := Nat.pow_pos (by decide)
 rw [h1]
 exact Nat.mul_lt_mul_of_pos_right (by omega) h3
theorem vis {n i : Nat} (h : i < n) : mskN n (i + 1) = 2 * mskN n i + 1 := by
 unfold mskN
 have e1 : min (i + 1) n = i + 1 := by omega
 have e2 : min i n = i := by omega
 rw [e1, e2]
 have h2 : 0 < 2 ^ i := Nat.pow_pos (by decide)
 simp only [Nat.sub_self, Nat.pow_zero, Nat.mul_one, Nat.pow_succ]
 omega
theorem vit {n i : Nat} (h : ¬ i < n) : mskN n (i + 1) = 2 * mskN n i := by
 unfold mskN
 have e1 : min (i + 1) n = n := by omega
 have e2 : min i n = n := by omega
 rw [e1, e2, show i + 1 - n = (i - n) + 1 by omega, Nat.pow_succ]
 generalize 2 ^ (i - n) = x
 generalize 2 ^ n - 1 = y
 rw [Nat.mul_comm x 2, Nat.mul_left_comm]
theorem vkm {n : Nat} (h : n ≤ 32) : mskN n 32 = maskN n := by
 unfold mskN maskN
 have e1 : min 32 n = n := by omega
 rw [e1, Nat.sub_mul, ← Nat.pow_add, show n + (32 - n) = 32 by omega]
 simp
end

section
open Go.RowKit
set_option maxRecDepth 100000 in
theorem vgO (n : Nat) (w : World) (hn : n ≤ 32) : Calls Tryz.prog 69 #[.int .i64 n] w fun e w' => e = .returned (.int .u32 (maskN n)) ∧ w = w' := by
 have HR := Lib.hid (vkm hn)
 go_enter Tryz.func69, Tryz.ntmps69
 go_wp2_with fail
 go_loop [3, 4] (fun v k => ∃ i : Nat, i ≤ 32 ∧ k = .int .i64 i ∧ v = .int .u32 (mskN n i)) (fun _ k => 32 - (intOf k).toNat)
 case atStart => exact ⟨0, by omega, rfl, by rw [vir]; rfl⟩
 case round =>
  obtain ⟨i, hi, rfl, rfl⟩ := hrel
  by_cases hlt : i < 32
  ·have hd : decide ((i : Int) < 32) = true := by simp; omega
   have hb := vkP n i
   have hb2 : 2 ^ i ≤ 2 ^ 31 := Nat.pow_le_pow_right (by omega) (by omega)
   have hb3 : mskN n i < 2147483648 := Nat.lt_of_lt_of_le hb (by simpa using hb2)
   clear hb hb2
   obtain ⟨x, hx⟩ : ∃ x, mskN n i = x := ⟨_, rfl⟩
   rw [hx] at hb3 ⊢
   have Hx := Lib.hid hx; clear hx
   by_cases hin : i < n
   ·have hd2 : decide ((i : Int) < n) = true := by simpa using hin
    have hd3 : decide (i < n) = true := by simpa using hin
    go_wp2_with fail
    go_round
    case rel => exact ⟨i + 1, by omega, by go_num, by rw [vis hin, Hx.out]; simp⟩
    case measure => simp [intOf]; omega
   ·have hd2 : decide ((i : Int) < n) = false := by simpa using hin
    have hd3 : decide (i < n) = false := by simpa using hin
    go_wp2_with fail
    go_round
    case rel => exact ⟨i + 1, by omega, by go_num, by rw [vit hin, Hx.out]; simp⟩
    case measure => simp [intOf]; omega
  ·obtain rfl : i = 32 := by omega
   rw [HR.out]
   go_wp2_with fail
   go_ret
   exact ⟨rfl, rfl⟩
def OneM (wc : World) (g : Nat) (e : En) (_ : Unit) (L : Nat → Bool) (W : World) : Prop := (L 8 = false → Kp wc W) ∧ (L 8 = true → ∃ V, Kp wc V ∧ enSet V g e = W)
set_option maxRecDepth 100000 in
theorem vaM (p : PI) (k : Nat) (w : World) (hl : 0 ≤ p.l ∧ p.l ≤ 32) (hk : k < 4294967296) : Calls Tryz.prog 19 #[.agg #[.int .u32 (p.a : Int), .int .i64 p.l], .int .i64 (k : Int)] w fun e w' => e = .returned (enV (oneE p k)) ∧ Kp w w' := by
 obtain ⟨b, hb⟩ : ∃ b, w.heap.size = b := ⟨_, rfl⟩
 obtain ⟨W, hW, kW, B0, B1⟩ := Blk.al2 hb #[.int .u32 (p.a : Int), .int .i64 p.l] 39 zeroEC 66
 unfold zeroEC at hW
 obtain ⟨n, hn⟩ := Int.eq_ofNat_of_zero_le hl.1
 have hn32 : n ≤ 32 := by omega
 have HP := Lib.hid hn
 have HE : Hid (oneE p k = ⟨2, 0, p.a, maskN n, 0, k⟩) := Lib.hid (by unfold oneE; rw [hn]; rfl)
 have hm : IntKind.u32.wrap (k : Int) = (k : Int) := by show (k : Int) % 4294967296 = _; omega
 have HB0 := Lib.hid B0
 have HB1 := Lib.hid B1
 clear hn hl B0 B1
 go_enter Tryz.func19, Tryz.ntmps19
 go_upto_region 1 with (fail)
 clear hW
 refine' vaz (OneM W (b + 1) ⟨2, 0, p.a, maskN n, 0, k⟩) [5, 6, 7, 8, 9, 10, 11, 12, 10008] (fun (_ : Unit) => [.pointer (some ⟨b, 0, none⟩), .int .u32 (p.a : Int), .pointer (some ⟨b, 1, none⟩), .int .i64 (n : Int), .int .u32 (maskN n : Int), .int .i64 (k : Int), .int .u32 (k : Int), .agg #[.int .i64 2, .int .i64 0, .int .u32 (p.a : Int), .int .u32 (maskN n : Int), .int .u32 0, .int .u32 (k : Int)], undef]) (List.replicate 9 true) [8] (by kernel_rfl) (by kernel_rfl) (fun _ => rfl) (fun _ => rfl) (fun _ => rfl) () ⟨(fun _ => (Kp.refl _).drew), (fun h => by cases h)⟩ (fun _ _ _ _ q h => ⟨fun d => h.1 ((q 8 (by simp)) ▸ d), fun d => h.2 ((q 8 (by simp)) ▸ d)⟩) ?_ ?_ ?_
 rotate_left
 ·intro z; simp only [List.zip_cons_cons, List.zip_nil_right, wrC, wrN, List.set_cons_zero, List.set_cons_succ, List.set_nil]; rfl
 ·repeat' (first | refine And.intro ?_ ?_ | exact trivial)
  all_goals intro z L a w9 hLi d hcl hM hO K hK
  all_goals try (go_simp; exact hK z _ _ (hO rfl) (fun _ _ => rfl) rfl)
  ·have n8 : L 8 = false := vai _ hcl (i := 8) (j := 1) rfl rfl hLi
   have u := Blk.f (HB0.out.keep (hM.1 n8)) rfl
   go_simp
   exact hK z _ _ (hO rfl) (fun _ _ => rfl) rfl
  ·have n8 : L 8 = false := vai _ hcl (i := 8) (j := 3) rfl rfl hLi
   have c1 : w9.cell? ⟨b, 1, none⟩ = some (.int .i64 (n : Int)) := by rw [← HP.out]; exact (HB0.out.keep (hM.1 n8)).cell 1
   go_simp
   exact hK z _ _ (hO rfl) (fun _ _ => rfl) rfl
  ·have n8 : L 8 = false := vai _ hcl (i := 8) (j := 4) rfl rfl hLi
   go_simp
   refine (vgO n _ hn32).mono ?_
   rintro e9 wb ⟨rfl, rfl⟩
   exact hK z _ _ (hO rfl) (fun _ _ => rfl) rfl
  ·have B9 := HB1.out.keep (hM.1 hLi)
   have y := Blk.f B9 rfl
   have yz := Blk.frozen B9
   obtain ⟨R, hR⟩ : ∃ R, enSet w9 (b + 1) ⟨2, 0, p.a, maskN n, 0, k⟩ = R := ⟨_, rfl⟩
   have hR2 := hR
   simp only [enSet, Int.natCast_zero] at hR
   go_simp
   exact hK z _ _ ⟨(fun h => by cases h), (fun _ => ⟨w9, hM.1 hLi, hR2⟩)⟩ (fun _ _ => rfl) rfl
 intro z L w9 hL hM
 (try simp only [Exit.then])
 obtain ⟨V9, kV, hV⟩ := hM.2 (hL 8 (by decide))
 obtain ⟨R, hR, BR, kR⟩ := Blk.putEn (HB1.out.keep kV) ⟨2, 0, p.a, maskN n, 0, k⟩ (kW.trans kV) (by omega)
 rw [hV] at hR
 subst hR
 have r := Blk.f BR rfl
 go_wp2_with fail
 exact bodyPost_ret (v := .agg #[.int .i64 2, .int .i64 0, .int .u32 (p.a : Int), .int .u32 (maskN n : Int), .int .u32 0, .int .u32 (k : Int)]) (by simp [results, Tryz.results19, go_sem, r]) rfl ⟨by rw [HE.out]; rfl, kR⟩
end

end Go.Proofs.YtgopnfacklmkaaaGreatDoor
