/- Lemmas and contracts for the theorem of this claim: RbW, RxA, Range4, RangeH, RxB, RxD, NtL, Law, Lay14, SoL, SoA. -/
import Derived.Test.YtgopnfacklmkaaaGreatDoorZyAh
import Derived.Test.YtgopnfacklmkaaaGreatDoorZyAw
import Derived.StillTailTactics
import Derived.Test.YtgopnfacklmkaaaGreatDoorRows
import Derived.ProofKit
import Derived.Lib.SmallJoins
import Derived.Deep.Slices
import Derived.Deep.Fields
import Derived.ChangeSame
import Derived.LaidMore
import Derived.OpenShut
import Derived.Stop.Joined
import Derived.Shelf.SlSortCmp.WholeK
set_option linter.all false
set_option maxHeartbeats 16000000
namespace Go.Proofs.YtgopnfacklmkaaaGreatDoor
section
open Go.RowKit Go.Maps
structure TabZ (p : PI) (w : World) (B t q mp m : Nat) (A : Option Addr) (QF : List Nat) (l : List Tw) (T : Tb) : Prop where
 bk : Blk w t 125 (tbC q T A m mp)
 qs : QuS w B q QF l
 pm : (offP p l).Perm (offP p (armL T.l))
 ln : l.length ≤ 900000
 mr : MapR w mp T.l
 ow : Own w B 39 2 PI.enc (.slice A T.c.own.length m) T.c.own
 tq : t ∉ QF
 mq : mp ∉ QF
 mt : mp ≠ t
 an : ∀ a, A = some a → a.block ∉ QF ∧ a.block ≠ t ∧ a.block ≠ mp
 bt : B ≤ t
 bm : B ≤ mp
 u : UpR T.l
 wf : ∀ r ∈ T.l, wfP r.p
 n : T.l.length ≤ 900000
theorem TabZ.lo {p : PI} {w : World} {B t q mp m : Nat} {A : Option Addr} {QF : List Nat} {l : List Tw} {T : Tb} (h : TabZ p w B t q mp m A QF l T) : ∀ b ∈ t :: mp :: QF, B ≤ b ∧ b < w.heap.size := by
 intro b hb
 rcases List.mem_cons.1 hb with rfl | hb
 ·exact ⟨h.bt, h.bk.lt⟩
 ·rcases List.mem_cons.1 hb with rfl | hb
  ·exact ⟨h.bm, h.mr.lt⟩
  ·exact h.qs.lo b hb
theorem TabZ.only {p : PI} {w w' : World} {B t q mp m : Nat} {A : Option Addr} {QF bs : List Nat} {l : List Tw} {T : Tb} (h : TabZ p w B t q mp m A QF l T) (k : Only bs w w') (hb : ∀ b ∈ bs, b ∉ t :: mp :: QF) (hA : ∀ a, A = some a → a.block ∉ bs) : TabZ p w' B t q mp m A QF l T where
 bk := h.bk.only k (fun e => hb t e List.mem_cons_self)
 qs := h.qs.only k (fun b e z => hb b z (by simp [e]))
 pm := h.pm
 ln := h.ln
 mr := h.mr.only k (fun e => hb mp e (by simp))
 ow := vbD h.ow k hA
 tq := h.tq
 mq := h.mq
 mt := h.mt
 an := h.an
 bt := h.bt
 bm := h.bm
 u := h.u
 wf := h.wf
 n := h.n
theorem TabX.len {w : World} {B t q mp m : Nat} {A : Option Addr} {QF : List Nat} {l : List Tw} {T : Tb} (X : TabX w B t q mp m A QF l T) : l.length ≤ 900000 := by
 have h1 := X.pm.length_eq
 have h2 : (armL T.l).length ≤ T.l.length := by unfold armL; rw [List.length_map]; exact List.length_filter_le _ _
 have := X.n
 omega
end

section
open Go.RowKit
structure Turn (b B : Nat) (V V' : World) : Prop where
 os : V'.os = V.os
 tape : V'.tape = V.tape
 output : V'.output = V.output
 size : V.heap.size ≤ V'.heap.size
 block : ∀ j, j < V.heap.size → (j < b ∨ B ≤ j) → V'.heap[j]? = V.heap[j]?
structure Ring (b B : Nat) (V V' : World) : Prop where
 size : V.heap.size ≤ V'.heap.size
 block : ∀ j, b ≤ j → j < B → V'.heap[j]? = V.heap[j]?
section
variable {b B : Nat} {U V W : World}
theorem Turn.trans (h : Turn b B U V) (k : Turn b B V W) : Turn b B U W :=
 ⟨k.os.trans h.os, k.tape.trans h.tape, k.output.trans h.output, Nat.le_trans h.size k.size, fun j hj hn => (k.block j (Nat.lt_of_lt_of_le hj h.size) hn).trans (h.block j hj hn)⟩
theorem Turn.of_kp (h : Kp V W) : Turn b B V W := ⟨Below.os h, Below.tape h, Below.output h, Below.size h, fun j hj _ => Below.block h j hj⟩
theorem Turn.of_only {bs : List Nat} (h : Only bs V W) (hb : ∀ x ∈ bs, b ≤ x ∧ x < B) : Turn b B V W :=
 ⟨h.os, h.tape, h.output, h.size, fun j hj hn => h.block j hj (fun hm => by have := hb j hm; omega)⟩
theorem Turn.wide {b' B' : Nat} (h : Turn b B V W) (hb : b' ≤ b) (hB : B ≤ B') : Turn b' B' V W :=
 ⟨h.os, h.tape, h.output, h.size, fun j hj hn => h.block j hj (by omega)⟩
theorem Turn.heap (h : Turn b B V W) {j : Nat} (hj : j < V.heap.size) (hn : j < b ∨ B ≤ j) : W.heap[j]? = V.heap[j]? := h.block j hj hn
theorem Blk.turn {g : Nat} {t : TypeId} {cs : Array Value} (h : Blk V g t cs) (k : Turn b B V W) (hn : g < b ∨ B ≤ g) : Blk W g t cs := (k.block g h.lt hn).trans h
theorem Turn.kp (h : Turn b B V W) (k : Kp U V) (hU : U.heap.size ≤ b) : Kp U W :=
 Below.trans k ⟨h.os, h.tape, h.output, h.size, fun j hj => h.block j (Nat.lt_of_lt_of_le hj k.size) (.inl (Nat.lt_of_lt_of_le hj hU))⟩
theorem Turn.own {α : Type} {base e sz : Nat} {enc : α → List Value} {v : Value} {xs : List α} (h : Own V base e sz enc v xs) (k : Turn b B V W) (hb : B ≤ base) : Own W base e sz enc v xs := by
 refine ⟨h.1, ?_⟩
 rcases h.2 with h2 | ⟨g, cap, cur, hv, hg, hh, r⟩
 ·exact .inl h2
 ·exact .inr ⟨g, cap, cur, hv, hg, (k.block g (Array.getElem?_eq_some_iff.1 hh).1 (.inr (by omega))).trans hh, r⟩
theorem Ring.refl (b B : Nat) (V : World) : Ring b B V V := ⟨Nat.le_refl _, fun _ _ _ => rfl⟩
theorem Ring.trans (h : Ring b B U V) (k : Ring b B V W) : Ring b B U W := ⟨Nat.le_trans h.size k.size, fun j h1 h2 => (k.block j h1 h2).trans (h.block j h1 h2)⟩
theorem Ring.of_kp (h : Kp V W) (hB : B ≤ V.heap.size) : Ring b B V W := ⟨Below.size h, fun j _ h2 => Below.block h j (by omega)⟩
theorem Ring.of_only {bs : List Nat} (h : Only bs V W) (hB : B ≤ V.heap.size) (hb : ∀ x ∈ bs, x < b ∨ B ≤ x) : Ring b B V W :=
 ⟨h.size, fun j h1 h2 => h.block j (by omega) (fun hm => by have := hb j hm; omega)⟩
theorem Ring.setCell (h : Ring b B U V) {p : Addr} (hp : p.block < b ∨ B ≤ p.block) (u : Value) : Ring b B U (V.setCell p u) :=
 h.trans ⟨by simp [World.setCell], fun j h1 h2 => Below.heap_setCell V p u j (by rintro rfl; omega)⟩
theorem Ring.alloc (h : Ring b B U V) (hB : B ≤ V.heap.size) (o : Obj) : Ring b B U (V.alloc o) := h.trans (Ring.of_kp ((Kp.refl V).alloc o) hB)
theorem Ring.grown {row : Option Nat} (h : Ring b B U V) (hB : B ≤ V.heap.size) (hg : V.grownBy W row) (hr : ∀ k, row = some k → k < b ∨ B ≤ k) : Ring b B U W :=
 h.trans ⟨hg.size, fun j h1 h2 => hg.block j (by omega) (fun e => by have := hr j e.symm; omega)⟩
end
theorem Turn.putObj {b B r : Nat} (V : World) (h1 : b ≤ r) (h2 : r < B) (o : Obj) : Turn b B V (V.putObj r o) :=
 Turn.of_only ((Only.refl [r] V).putObj (by simp) o) (by simpa using ⟨h1, h2⟩)
end

section
open Go.RowKit
def IterH {σ : Type} (P : Program) (gf : FuncId) (caps : Array Value) (s0 : σ) (Nx : σ → Array Value → σ → Prop) (En : σ → Prop) (M : World → Prop) : Prop :=
 ∀ (l : Nat) (W : World) (I : Nat → σ → World → Prop),
  (∀ B s V V', W.heap.size ≤ B → I B s V → Turn W.heap.size B V V' → I B s V') →
  (∀ B s V, W.heap.size ≤ B → I B s V → M V) → M W →
  (∀ B V, Kp W V → W.heap.size ≤ B → V.heap.size ≤ B → I B s0 V) →
  (∀ B s V vs s', Nx s vs s' → W.heap.size ≤ B → B ≤ V.heap.size → I B s V → ∃ fn tmps assign body, (Instr.yield l vs).run P V = .ok (.round l fn tmps assign body) V ∧
   RoundIn Fence.wide 0 P l fn tmps assign body V (fun e V' => Ring W.heap.size B V V' ∧ e = .returned (.bool true) ∧ I B s' V')) →
  Calls P gf (#[.func (.yield l) #[] #[]] ++ caps) W (fun e W' => e = .returned (.tuple #[]) ∧ ∃ B s, W.heap.size ≤ B ∧ En s ∧ I B s W')
def rndPostH (w : World) (I : World → Prop) (B : Nat) (W : World) : Exit → Act → World → Prop
 | .normal, _, W' => Ring w.heap.size B W W' ∧ I W'
 | _, _, _ => False
theorem vhm {σ : Type} {P : Program} {g : Operand} {ps : Array Tmp} {assign body : Code} {Q : Exit → Act → World → Prop} {a : Act} {w : World} {gf : FuncId} {caps : Array Value} {s0 : σ} {Nx : σ → Array Value → σ → Prop} {En : σ → Prop} {M : World → Prop}
  (hg : a.eval g = .func (.func gf) #[] caps) (eg : ∀ args w, (callFunc gf args).run P w = .ok (.enter gf args) w) (hit : IterH P gf caps s0 Nx En M) (hps : ∀ s vs s', Nx s vs s' → vs.size = ps.size)
  (I : Nat → σ → World → Prop)
  (hI : ∀ B s V V', w.heap.size + 2 ≤ B → I B s V → Turn w.heap.size B V V' → I B s V')
  (hM : ∀ B s V, w.heap.size + 2 ≤ B → I B s V → M V) (h0 : ∀ B V, Kp w V → w.heap.size + 2 ≤ B → V.heap.size ≤ B → I B s0 V)
  (hround : ∀ l B s V vs s', Nx s vs s' → w.heap.size + 2 ≤ B → B ≤ V.heap.size → I B s V → assign.wpIn (Fence.wide.inRound l) 0 P (Exit.then (fun a' V' => Ring w.heap.size B V V' ∧ ∃ J : World → Prop, J V' ∧ (∀ U U', J U → Turn w.heap.size B U U' → J U') ∧ ∀ W2, J W2 → B ≤ W2.heap.size → body.wpIn (Fence.wide.inRound l) 0 P (rndPostH w (I B s') B W2) a' W2) (fun _ _ _ => False))
   { tmps := (ps.zip vs).foldl (fun t (p, v) => t.setIfInBounds p v) a.tmps, defers := [] } V)
  (hdone : ∀ B s W, w.heap.size + 2 ≤ B → En s → I B s W → W.heap[w.heap.size]? = some (.deferred (some [])) → Q .normal { a with defers := { target := .collected w.heap.size, args := #[] } :: a.defers } W) :
  (Code.rangeFunc g ps assign body).wp P Q a w := by
 refine (wpIn_wide (n := 0)).1 (wpIn_rangeFunc ?_)
 intro fn hfn
 obtain ⟨rec, hrec⟩ : ∃ rec : LoopState → Option Code → Loop, rec = fun st pe => { state := st, pending := pe, fn, tmps := a.tmps, params := ps, assign, body, defers := w.heap.size } := ⟨_, rfl⟩
 obtain ⟨W1, hW1⟩ : ∃ W1, (w.alloc (.deferred (some []))).alloc (.loop (rec .ready none)) = W1 := ⟨_, rfl⟩
 have hL1 : W1.heap[w.heap.size + 1]? = some (.loop (rec .ready none)) := by
  rw [← hW1]; have := World.alloc_heap_new (w.alloc (.deferred (some []))) (.loop (rec .ready none)); rwa [World.size_alloc] at this
 have hK1 : W1.heap[w.heap.size]? = some (.deferred (some [])) := by
  rw [← hW1]; exact (Below.heap_alloc _ _ _ (by simp)).trans (World.alloc_heap_new w _)
 have hKW : Kp w W1 := by rw [← hW1]; exact ((Kp.refl _).alloc _).alloc _
 have hsz : W1.heap.size = w.heap.size + 2 := by rw [← hW1]; simp
 have tw : ∀ {B V V'}, Turn W1.heap.size B V V' → Turn w.heap.size B V V' := fun h => h.wide (by omega) (Nat.le_refl _)
 refine ⟨w.heap.size + 1, [{ target := .collected w.heap.size, args := #[] }], W1, { target := .fn (.func gf) caps, args := #[.func (.yield (w.heap.size + 1)) #[] #[]] }, W1, gf,
  #[.func (.yield (w.heap.size + 1)) #[] #[]] ++ caps, W1, ?_, ?_, fun _ _ => trivial, ?_, (fun h => by cases h), callsIn_wide.2 ?_⟩
 ·rw [← hW1, hrec]; exact run_enterLoop_outer _ _ _ _ _
 ·simp only [resolve, hg]
  simp [go_sem]
 ·simp [invoke, go_sem, eg]
 ·refine (hit (w.heap.size + 1) W1
   (fun B k W => I B k W ∧ W.heap[w.heap.size + 1]? = some (.loop (rec .ready none)) ∧ W.heap[w.heap.size]? = some (.deferred (some [])))
   ?_ (fun B k W hB h => hM B k W (by omega) h.1) (hM W1.heap.size s0 W1 (by omega) (h0 _ _ hKW (by omega) (Nat.le_refl _))) ?_ ?_).mono ?_
  ·rintro B k W W' hB ⟨h1, h2, h3⟩ hk
   exact ⟨hI B k W W' (by omega) h1 (tw hk), (hk.heap (Array.getElem?_eq_some_iff.1 h2).1 (.inl (by omega))).trans h2, (hk.heap (Array.getElem?_eq_some_iff.1 h3).1 (.inl (by omega))).trans h3⟩
  ·rintro B V hV hB hVB
   exact ⟨h0 B V (hKW.trans hV) (by omega) hVB, (hV.heap (by omega)).trans hL1, (hV.heap (by omega)).trans hK1⟩
  ·rintro B k W vs k' hk hB hBW ⟨hi, hl, hd⟩
   have hlt : w.heap.size + 1 < W.heap.size := (Array.getElem?_eq_some_iff.1 hl).1
   have hy := run_yield (P := P) (args := vs) hl (by rw [hrec]; exact hps k vs k' hk)
   rw [hrec] at hy
   refine ⟨fn, _, assign, body, hy, roundIn_of_wpIn trivial (wpIn_mono (hround _ B k W vs k' hk (by omega) hBW hi) ?_)⟩
   rintro e₀ a' W' hq
   rcases e₀ with _ | id | t | _ | ch | _
   rotate_left
   ·exact hq.elim
   ·exact hq.elim
   ·exact hq.elim
   ·exact hq.elim
   ·exact hq.elim
   obtain ⟨hkp, J, hj, hJ, hbody⟩ := hq
   replace hl := (hkp.block (w.heap.size + 1) (by omega) (by omega)).trans hl
   replace hd := (hkp.block w.heap.size (by omega) (by omega)).trans hd
   replace hlt : w.heap.size + 1 < W'.heap.size := (Array.getElem?_eq_some_iff.1 hl).1
   refine ⟨_, run_beginRound hl (by rw [hrec]), ?_⟩
   have hl2 : (W'.putObj (w.heap.size + 1) (.loop { rec .ready none with state := .busy })).heap[w.heap.size + 1]? = some (.loop { rec .ready none with state := .busy }) := World.putObj_heap_same hlt
   have hd2 : (W'.putObj (w.heap.size + 1) (.loop { rec .ready none with state := .busy })).heap[w.heap.size]? = some (.deferred (some [])) := (World.putObj_heap_other (by omega)).trans hd
   have hi2 : J (W'.putObj (w.heap.size + 1) (.loop { rec .ready none with state := .busy })) := hJ _ _ hj (Turn.putObj _ (by omega) (by omega) _)
   have hs2 : B ≤ (W'.putObj (w.heap.size + 1) (.loop { rec .ready none with state := .busy })).heap.size := by
    have := hkp.size
    simp; omega
   have hr0 : Ring W1.heap.size B W (W'.putObj (w.heap.size + 1) (.loop { rec .ready none with state := .busy })) :=
    ⟨by have := hkp.size; simpa using this, fun j h1 h2 => (World.putObj_heap_other (by omega)).trans (hkp.block j (by omega) h2)⟩
   refine wpIn_mono (hbody _ hi2 hs2) ?_
   have fin : ∀ (jump : Option Code) (W3 : World), Ring w.heap.size B (W'.putObj (w.heap.size + 1) (.loop { rec .ready none with state := .busy })) W3 →
     (Instr.endRound (w.heap.size + 1) jump).run P W3 = .ok (.bool jump.isNone) (W3.putObj (w.heap.size + 1) (.loop (rec (if jump.isNone then .ready else .done) jump))) ∧
     (W3.putObj (w.heap.size + 1) (.loop (rec (if jump.isNone then .ready else .done) jump))).heap[w.heap.size + 1]? = some (.loop (rec (if jump.isNone then .ready else .done) jump)) ∧
     (W3.putObj (w.heap.size + 1) (.loop (rec (if jump.isNone then .ready else .done) jump))).heap[w.heap.size]? = some (.deferred (some [])) ∧
     Ring W1.heap.size B W (W3.putObj (w.heap.size + 1) (.loop (rec (if jump.isNone then .ready else .done) jump))) := fun jump W3 hk3 => by
    have hl3 := (hk3.block (w.heap.size + 1) (by omega) (by omega)).trans hl2
    have hd3 := (hk3.block w.heap.size (by omega) (by omega)).trans hd2
    have := run_endRound (P := P) jump hl3
    rw [hrec] at this ⊢
    refine ⟨this, World.putObj_heap_same (Array.getElem?_eq_some_iff.1 hl3).1, (World.putObj_heap_other (by omega)).trans hd3, ?_⟩
    refine ⟨by have h1 := hr0.size; have h2 := hk3.size; simp at h1 h2 ⊢; omega, fun j h1 h2 => (World.putObj_heap_other (show j ≠ w.heap.size + 1 by omega)).trans ((hk3.block j (by omega) h2).trans (hr0.block j h1 h2))⟩
   rintro e a3 W3 hp
   cases e with
   | normal =>
    obtain ⟨hr, hl4, hd4, hri⟩ := fin none W3 hp.1
    exact ⟨_, _, hr, hri, rfl, hI B _ _ _ (by omega) hp.2 (Turn.putObj _ (by omega) (by omega) _), hl4, hd4⟩
   | ret => exact hp.elim
   | exit id => exact hp.elim
   | goto t => exact hp.elim
   | panic ch => exact hp.elim
   | outgrown => exact hp.elim
  ·rintro e W3 ⟨rfl, B, s, hB, hE, hi, hl, hd⟩
   have hend := run_endLoop (P := P) hl (by rw [hrec]; simp)
   have hpn : (rec .ready none).pending = none := by rw [hrec]
   rw [hpn] at hend
   refine ⟨none, _, hend, ?_⟩
   exact hdone B s _ (by omega) hE (hI B _ _ _ (by omega) hi (Turn.putObj _ (by omega) (by omega) _)) ((World.putObj_heap_other (by omega)).trans hd)
end

section
open Go.RowKit Go.Maps
def DueSt (w : World) (B t q mp m : Nat) (A : Option Addr) (QF : List Nat) (l : List Tw) (T : Tb) (p : PI) (is : Bool) : Prop :=
 (is = false ∧ TabX w B t q mp m A QF l T ∧ ∀ y ∈ armL T.l, T.now < y.d) ∨ (is = true ∧ ∃ r, p = r.p ∧ firstR T.l = some r ∧ r ∈ T.l ∧ 2 ≤ r.s ∧ r.d ≤ T.now ∧ TabZ r.p w B t q mp m A QF l T)
theorem DueSt.only {w w' : World} {B t q mp m : Nat} {A : Option Addr} {QF bs : List Nat} {l : List Tw} {T : Tb} {p : PI} {is : Bool} (h : DueSt w B t q mp m A QF l T p is) (k : Only bs w w') (hb : ∀ b ∈ bs, b ∉ t :: mp :: QF) (hA : ∀ a, A = some a → a.block ∉ bs) : DueSt w' B t q mp m A QF l T p is := by
 rcases h with ⟨h1, h2, h3⟩ | ⟨h1, r, h2, h3, h4, h5, h6, h7⟩
 ·exact .inl ⟨h1, h2.only k hb hA, h3⟩
 ·exact .inr ⟨h1, r, h2, h3, h4, h5, h6, h7.only k hb hA⟩
theorem DueSt.lo {w : World} {B t q mp m : Nat} {A : Option Addr} {QF : List Nat} {l : List Tw} {T : Tb} {p : PI} {is : Bool} (h : DueSt w B t q mp m A QF l T p is) : ∀ b ∈ t :: mp :: QF, B ≤ b ∧ b < w.heap.size := by
 rcases h with ⟨_, h2, _⟩ | ⟨_, r, _, _, _, _, _, h7⟩
 ·exact h2.lo
 ·exact h7.lo
def CntP (B t : Nat) (F : List Nat) (z : Tb × Int × Int) (w : World) (e : Ending) (w' : World) : Prop := e = .returned (.tuple #[.int .i64 z.2.1, .int .i64 z.2.2]) ∧ TabT w w' B t F z.1
theorem CntP.mk {B t : Nat} {F : List Nat} {T' : Tb} {z : Tb × Int × Int} {k n : Int} {w w' : World} (h : z = (T', k, n)) (hT : TabT w w' B t F T') : CntP B t F z w (.returned (.tuple #[.int .i64 k, .int .i64 n])) w' := by subst h; exact ⟨rfl, hT⟩
def netQ (n : Nat) : PI := ⟨167772160 + n * 65536, 16⟩
def auC : Cf := ⟨1, 0, 6, 0, 3, 0, 0, 2, [netQ 1]⟩
def auH : Hd := ⟨0, 167772418, 2⟩
def au5 : Rt := ⟨netQ 5, 2, 3, 0, 0, 167772418, 7, true⟩
def auT : Tb := ⟨auC, [ownR (netQ 1), au5], 1, 0⟩
theorem au_ok : okCf auC = true := by decide +kernel
theorem vlB : newT auC = ⟨auC, [ownR (netQ 1)], 0, 0⟩ := by kernel_rfl
theorem au_1 : heardT (newT auC) (netQ 5) auH 1 = (auT, au5, 0) := by kernel_rfl
theorem vhn : ∀ k (hk : k < auC.own.length), auC.own[k].a < 4294967296 := by decide
end

section
open Go.ChangeShapes Go.WideShapes Go.ChangeAt Go.RowKit Go.Joins Go.Deep
theorem Tryz.own : ownKnob Tryz.prog.godebug = none := by kernel_rfl
theorem Tryz.laidOut : laidOutB Tryz.prog = true := by kernel_rfl
section
variable {H : Type} {enc : TypeId × Value → H}
theorem vdf {W W' : World} (hK : Kp W W') {sp : Nat → Bool} : ∀ {ts : List TypeId} {vs : List Value} {ds : List (DataW H)} {ps : List MemPlace},
  (∀ t ∈ ts, Tryz.prog.readableRec t = true ∧ t < Tryz.prog.types.size) → (∀ p ∈ ps, p.block < W.heap.size) → (∀ p ∈ ps, sp p.block = true) →
  DataW.TrodAll enc Tryz.prog W 0 (fun _ => true) true ts vs ds ps → DataW.TrodAll enc Tryz.prog W' 0 sp true ts vs ds ps
 | [], [], [], _, _, _, _, h => h
 | [], _ :: _, _, _, _, _, _, h => h.elim
 | [], [], _ :: _, _, _, _, _, h => h.elim
 | _ :: _, [], _, _, _, _, _, h => h.elim
 | _ :: _, _ :: _, [], _, _, _, _, h => h.elim
 | t :: ts, v :: vs, d :: ds, ps, hr, hlt, hsp, ⟨p, q, h1, h2, e⟩ => by
  subst e
  refine ⟨p, q, ?_, vdf hK (fun t ht => hr t (by simp [ht])) (fun x hx => hlt x (by simp [hx])) (fun x hx => hsp x (by simp [hx])) h2, rfl⟩
  exact WideElems.Trod_stays Tryz.laidOut (hr t (by simp)).1 (hr t (by simp)).2 h1 (fun x hx => Below.same hK (hlt x (by simp [hx]))) (fun x hx => hsp x (by simp [hx]))
set_option maxRecDepth 100000 in
theorem viY {f : Func} {s : ChangeSpec} {apart fresh handsOn again : Bool} {W W' : World} {args : Array Value} {ds : List (DataW H)} {before : List MemPlace}
  (hW : DataW.Whole enc Tryz.prog f.params.toList s.vars apart W args.toList ds [] before) (hv : s.vars = []) (hres : f.resultTypes = #[4])
  (h1 : (s.fn H (ds ++ [])).results = [.lit (.bool true)]) (h2 : (s.fn H (ds ++ [])).args = ds) (h3 : (s.fn H (ds ++ [])).vars = [])
  (hr : ∀ t ∈ f.params.toList, Tryz.prog.readableRec t = true ∧ t < Tryz.prog.types.size) (hK : Kp W W') :
  s.post enc Tryz.prog f apart fresh handsOn again W args (.bool true) W' := by
 have hW' := hW
 obtain ⟨p, q, hA, hV, he, hz, hn⟩ := hW'
 rw [hv] at hV
 obtain ⟨_, rfl⟩ := trodVars_none hV
 rw [List.append_nil] at he
 obtain rfl : p = before := he.symm
 have hlt : ∀ x ∈ p, x.block < W.heap.size := fun x hx => hW.lt x (by simpa using hx)
 have hold : ∀ x ∈ p, (fun b => decide (b < W.heap.size)) x.block = true := fun x hx => by simpa using hlt x hx
 have hresults : ∀ (b : Nat) (sp : Nat → Bool) (hd : Bool), DataW.TrodAll enc Tryz.prog W' b sp hd f.resultTypes.toList ((Value.bool true).resultList f.resultTypes.size) (s.fn H (ds ++ [])).results [] := by
  intro b sp hd
  rw [hres, h1]
  exact trodAll_mk1 (shut_bool Tryz.underlying4 true)
 have hargs : ∀ sp : Nat → Bool, (∀ x ∈ p, sp x.block = true) → DataW.TrodAll enc Tryz.prog W' 0 sp true f.params.toList args.toList (s.fn H (ds ++ [])).args p := by
  intro sp hsp
  rw [h2]
  exact vdf hK hr hlt hsp hA
 have hvars : ∀ sp : Nat → Bool, DataW.TrodVars enc Tryz.prog W' sp s.vars (s.fn H (ds ++ [])).vars [] := by
  intro sp; rw [hv, h3]; rfl
 refine ⟨ds, [], p, [], p, [], hW, hresults _ _ _, hargs _ hold, hvars _, World.keptBut_mono (fun x hx => ⟨hx, ?_⟩) (Below.frame hK (· ∈ p)), fun _ => ?_⟩
 ·exact Or.inr (by simpa using hx)
 ·refine ⟨?_, _, _, ([] ++ p) ++ [], ⟨[] ++ p, [], trodAll_append (hargs _ (fun _ _ => rfl)) (hresults _ _ _), hvars _, rfl, ?_, ?_⟩, ?_⟩
  ·exact ok_one hres rfl (okWide_bool_mk Tryz.underlying4 true)
  ·intro b off hp
   have hin : MemPlace.cell b off ∈ p := by simpa using hp
   rw [Below.frozen hK (hlt _ hin)]
   exact hz b off (by simpa using hin)
  ·intro ha
   simpa using hn ha
  ·intro x hx _
   simpa using hx
end
end

section
open Go.ChangeShapes Go.WideShapes Go.ChangeAt Go.RowKit
theorem gCap : Tryz.prog.globalNamed "waywarden/config.capBounds" = some 1 := by kernel_rfl
theorem tCap : (Tryz.prog.globals[1]?).map (·.type) = some 230 := by kernel_rfl
theorem gWid : Tryz.prog.globalNamed "waywarden/octet.widths" = some 2 := by kernel_rfl
theorem tWid : (Tryz.prog.globals[2]?).map (·.type) = some 372 := by kernel_rfl
theorem vcH {H : Type} {enc : TypeId × Value → H} {W : World} {base fuel : Nat} {sp : Nat → Bool} {held : Bool} {c : List Value} {p : List MemPlace} {a : Int}
  (h : DataW.trod enc Tryz.prog W base sp held fuel 3 c = some (.lit (.int .i64 a), p)) : c = [.int .i64 a] := by
 obtain ⟨n, e1, e2, _⟩ := DataW.trod_int Tryz.underlying3 h
 simp only [Prod.mk.injEq, DataW.lit.injEq, Lit.int.injEq] at e2
 rw [e1, e2.1.2]
theorem len2b {l : List Value} (h : l.length = 2) : ∃ a b, l = [a, b] := by
 match l, h with
 | [a, b], _ => exact ⟨a, b, rfl⟩
theorem len3b {l : List Value} (h : l.length = 3) : ∃ a b c, l = [a, b, c] := by
 match l, h with
 | [a, b, c], _ => exact ⟨a, b, c, rfl⟩
set_option maxRecDepth 100000 in
theorem vho {H : Type} {enc : TypeId × Value → H} {W : World} {base fuel : Nat} {sp : Nat → Bool} {held : Bool} {c : List Value} {p : List MemPlace} {a b : Int}
  (h : DataW.trod enc Tryz.prog W base sp held fuel 230 c = some (.agg [.lit (.int .i64 a), .lit (.int .i64 b)], p)) : c = [.int .i64 a, .int .i64 b] := by
 obtain ⟨xs, m, rfl, hx, hlen, hn, hel⟩ := DataW.trod_array Tryz.underlying230 h
 have c1 : Tryz.prog.cellsOf 3 = 1 := by kernel_rfl
 have c2 : Tryz.prog.cellsOf 230 = 2 := by kernel_rfl
 rw [c2] at hlen
 rw [c1] at hel
 have h0 := hel 0 (by decide)
 have h1 := hel 1 (by decide)
 match xs, hn, hx, h0, h1 with
 | [(x0, p0), (x1, p1)], _, hx, h0, h1 =>
  simp only [List.map_cons, List.map_nil, Prod.mk.injEq, DataW.agg.injEq, List.cons.injEq, and_true] at hx
  obtain ⟨⟨rfl, rfl⟩, _⟩ := hx
  have e0 := vcH (show DataW.trod _ Tryz.prog W _ _ _ m _ _ = some (_, p0) from h0)
  have e1 := vcH (show DataW.trod _ Tryz.prog W _ _ _ m _ _ = some (_, p1) from h1)
  obtain ⟨u, v, rfl⟩ := len2b hlen
  simp at e0 e1
  rw [e0, e1]
set_option maxRecDepth 100000 in
theorem vkX {H : Type} {enc : TypeId × Value → H} {W : World} {base fuel : Nat} {sp : Nat → Bool} {held : Bool} {c : List Value} {p : List MemPlace} {a b d : Int}
  (h : DataW.trod enc Tryz.prog W base sp held fuel 372 c = some (.agg [.lit (.int .i64 a), .lit (.int .i64 b), .lit (.int .i64 d)], p)) : c = [.int .i64 a, .int .i64 b, .int .i64 d] := by
 obtain ⟨xs, m, rfl, hx, hlen, hn, hel⟩ := DataW.trod_array Tryz.underlying372 h
 have c1 : Tryz.prog.cellsOf 3 = 1 := by kernel_rfl
 have c2 : Tryz.prog.cellsOf 372 = 3 := by kernel_rfl
 rw [c2] at hlen
 rw [c1] at hel
 have h0 := hel 0 (by decide)
 have h1 := hel 1 (by decide)
 have h2 := hel 2 (by decide)
 match xs, hn, hx, h0, h1, h2 with
 | [(x0, p0), (x1, p1), (x2, p2)], _, hx, h0, h1, h2 =>
  simp only [List.map_cons, List.map_nil, Prod.mk.injEq, DataW.agg.injEq, List.cons.injEq, and_true] at hx
  obtain ⟨⟨rfl, rfl, rfl⟩, _⟩ := hx
  have e0 := vcH (show DataW.trod _ Tryz.prog W _ _ _ m _ _ = some (_, p0) from h0)
  have e1 := vcH (show DataW.trod _ Tryz.prog W _ _ _ m _ _ = some (_, p1) from h1)
  have e2 := vcH (show DataW.trod _ Tryz.prog W _ _ _ m _ _ = some (_, p2) from h2)
  obtain ⟨u, v, y, rfl⟩ := len3b hlen
  simp at e0 e1 e2
  rw [e0, e1, e2]
end

section
open Go.RowKit Go.Sort Go.Shelf
instance : Inhabited Rt := ⟨zeroR⟩
def cfR (x y : Rt) : Int := ordI x.p.a x.p.l y.p.a y.p.l
theorem vco {x y : Rt} : ltOf cfR x y = true ↔ ltP x.p y.p := by
 unfold ltOf cfR
 rw [decide_eq_true_iff]
 exact veV
theorem vbp {x y : Rt} : ltOf cfR x y = false ↔ ¬ ltP x.p y.p := by
 rw [← vco]
 exact Bool.not_eq_true _ |>.symm ▸ Iff.rfl
theorem swoR : SWO (ltOf cfR) where
 irrefl x := vbp.2 (fun h => vbB h rfl)
 trans x y z h1 h2 := vco.2 (vee (vco.1 h1) (vco.1 h2))
 ntrans x y z h1 h2 := by
  rw [vbp] at *
  unfold ltP at *
  omega
theorem vhp {L : List Rt} (u : UpR L) {d d' : Array Rt} (h0 : d.toList.Perm L) (hp : PermIn 0 d.size d d') (hs : SortedIn (ltOf cfR) 0 d.size d') : d'.toList = L := by
 obtain ⟨h1, _, h3⟩ := hp
 have e1 : d'.extract 0 d.size = d' := by rw [← h1]; simp
 have e2 : d.extract 0 d.size = d := by simp
 rw [e1, e2] at h3
 have hP := h3.trans h0
 have hn : (d'.toList.map Rt.p).Nodup := (hP.map Rt.p).nodup_iff.2 u.nodup
 refine UpR.eq_perm ?_ u hP
 unfold UpR
 rw [List.pairwise_iff_getElem]
 intro i j hi hj hij
 have hi' : i < d'.size := by simpa using hi
 have hj' : j < d'.size := by simpa using hj
 have h4 := hs i j (Nat.zero_le _) hij (by omega)
 rw [getElem!_pos d' i hi', getElem!_pos d' j hj', vbp] at h4
 rw [Array.getElem_toList, Array.getElem_toList]
 rcases vdB d'[i].p d'[j].p with h | h | h
 ·exact h
 ·exact absurd (by rw [List.getElem_map, List.getElem_map]; simpa using h) (List.pairwise_iff_getElem.1 hn i j (by simpa using hi) (by simpa using hj) hij)
 ·exact absurd h h4
theorem vfU {w w' : World} (k : Kp w w') (h : w.drawn ≤ w'.drawn) : ∃ q os', w' = grow (w.drewN q) os' := by
 refine ⟨w'.drawn - w.drawn, w'.heap.extract w.heap.size w'.heap.size, ?_⟩
 have hs := k.size
 have hh : w'.heap = w.heap ++ w'.heap.extract w.heap.size w'.heap.size := by
  apply Array.ext_getElem?
  intro i
  by_cases hi : i < w.heap.size
  ·rw [Array.getElem?_append_left hi]
   exact k.heap hi
  ·rw [Array.getElem?_append_right (by omega), Array.getElem?_extract]
   by_cases hj : i < w'.heap.size
   ·rw [if_pos (by omega)]
    congr 1
    omega
   ·rw [if_neg (by omega), Array.getElem?_eq_none (by omega)]
 have ht := Below.tape k
 have ho := Below.os k
 have hu := Below.output k
 cases w with | mk h1 t1 d1 o1 u1 => cases w' with | mk h2 t2 d2 o2 u2 =>
 simp only at ht ho hu hh h hs ⊢
 subst ht ho hu
 unfold grow World.drewN
 simp only [World.mk.injEq, and_true, true_and]
 exact ⟨hh, by omega⟩
set_option maxRecDepth 100000 in
theorem vfV (a l b k : Int) (w : World) : Calls Tryz.prog 152 #[.agg #[.int .u32 a, .int .i64 l], .agg #[.int .u32 b, .int .i64 k]] w fun e w' => e = .returned (.int .i64 (ordI a l b k)) ∧ Kp w w' ∧ w.drawn ≤ w'.drawn := by
 obtain ⟨W, hW, kW, B0, B1⟩ : ∃ W, (w.alloc (.cells #[.int .u32 a, .int .i64 l] 39)).alloc (.cells #[.int .u32 b, .int .i64 k] 39) = W ∧ (Kp w W ∧ W.drawn = w.drawn) ∧ Blk W w.heap.size 39 #[.int .u32 a, .int .i64 l] ∧ Blk W (w.heap.size + 1) 39 #[.int .u32 b, .int .i64 k] := ⟨_, rfl, ⟨((Kp.refl _).alloc _).alloc _, rfl⟩, (Blk.new w _ _).alloc _, Blk.new1 w _ _ _⟩
 obtain ⟨x, hx⟩ : ∃ x, cmpI a b = x := ⟨_, rfl⟩
 obtain ⟨y, hy⟩ : ∃ y, cmpI l k = y := ⟨_, rfl⟩
 have Hx := Lib.hid hx
 have Hy := Lib.hid hy
 have Hr : Hid (ordI a l b k = if x = 0 then y else x) := by rw [← hx, ← hy]; exact Lib.hid rfl
 clear hx hy
 go_enter Tryz.func152, Tryz.ntmps152
 go_wp2_with fail
 refine vgg 10 (by kernel_rfl) (by kernel_rfl) (fun V hV => ?_)
 have KV : Kp W V := by rw [hV]; exact (Kp.refl _).drew
 have hdr : W.drawn ≤ V.drawn := by rw [hV]; exact Nat.le_succ _
 have HD := Lib.hid (show w.drawn ≤ V.drawn by rw [← kW.2]; exact hdr)
 clear hdr
 obtain ⟨p0, p1⟩ := Blk.v2 (B0.keep KV) (.int .u32 a) (.int .i64 l) rfl
 obtain ⟨q0, q1⟩ := Blk.v2 (B1.keep KV) (.int .u32 b) (.int .i64 k) rfl
 clear hV hW
 simp only [List.take_succ_cons, List.take_zero, List.drop_succ_cons, List.drop_zero]
 still_step
 still_step
 still_step
 still_step
 still_call (by refine (veR a b _).mono ?_; rintro e w' ⟨rfl, rfl⟩; rw [Hx.out]; exact ⟨rfl, rfl⟩)
 still_step
 still_step
 still_step
 still_step
 still_call (by refine (veS l k _).mono ?_; rintro e w' ⟨rfl, rfl⟩; rw [Hy.out]; exact ⟨rfl, rfl⟩)
 refine wpStill_nil ?_
 clear p0 p1 q0 q1
 go_wp2_with fail
 refine (vgO x y V.heap.size _ (Blk.new V _ _)).mono ?_
 rintro e w' ⟨rfl, rfl⟩
 rw [← Hr.out]
 go_wp2_with fail
 go_ret
 exact ⟨rfl, (kW.1.trans KV).alloc _, HD.out⟩
set_option maxRecDepth 100000 in
theorem viZ (x y : Rt) (w : World) : Calls Tryz.prog 151 #[roV x, roV y] w fun e w' => e = .returned (.int .i64 (cfR x y)) ∧ Kp w w' ∧ w.drawn ≤ w'.drawn := by
 obtain ⟨W, hW, kW, B0, B1⟩ : ∃ W, (w.alloc (.cells (roC x) 132)).alloc (.cells (roC y) 132) = W ∧ (Kp w W ∧ W.drawn = w.drawn) ∧ Blk W w.heap.size 132 (roC x) ∧ Blk W (w.heap.size + 1) 132 (roC y) := ⟨_, rfl, ⟨((Kp.refl _).alloc _).alloc _, rfl⟩, (Blk.new w _ _).alloc _, Blk.new1 w _ _ _⟩
 obtain ⟨b, hb⟩ : ∃ b, w.heap.size = b := ⟨_, rfl⟩
 rw [hb] at B0 B1
 unfold roC at hW
 have x0 := Blk.f B0 rfl
 have y0 := Blk.f B1 rfl
 have HD := Lib.hid kW
 clear kW B0 B1
 go_enter Tryz.func151, Tryz.ntmps151
 go_wp2_with (first | (go_at_call 152; refine (vfV _ _ _ _ _).mono ?_; rintro e w2 ⟨rfl, k2, d2⟩))
 go_ret
 exact ⟨rfl, HD.out.1.trans k2, by rw [← HD.out.2]; exact d2⟩
end

end Go.Proofs.YtgopnfacklmkaaaGreatDoor
