/- Lemmas and contracts for the theorem of this claim: VPfA, VPfB, Range, Range2, Yield, Round, VGen, VKdA. -/
import Derived.Test.YtgopnfacklmkaaaGreatDoorZzAb
import Derived.Test.YtgopnfacklmkaaaGreatDoorRows
import Derived.Deep.RegionHeld3
import Derived.RangeFuncOwn
import Derived.RangeFuncLeaves
import Derived.LoopN
import Derived.RangeFuncCalls
import Derived.Sort.QuietTacIn
import Derived.BigFrameIn
import Derived.BigGuardIn
import Derived.TacticsIn
import Derived.TacticsInMore
import Derived.Deep.Cut
import Derived.OwnWalkIn
import Derived.Deep.LoopGhost
import Derived.Deep.DeepCutAuto
import Derived.RegionTactic
set_option linter.all false
set_option maxHeartbeats 16000000
namespace Go.Proofs.YtgopnfacklmkaaaGreatDoor
section
open Go.RowKit
theorem vnj {n : Nat} (h : n ≤ 32) : (4294967295 : Int) * 2 ^ (32 - n) % 4294967296 = (maskN n : Int) := by
 have h1 := vdd n
 have h2 : 0 < 2 ^ (32 - n) := Nat.two_pow_pos _
 unfold maskN
 generalize hs : 2 ^ (32 - n) = s at *
 have hc : ((2 : Int) ^ (32 - n)) = (s : Int) := by rw [← hs]; simp
 rw [hc]
 omega
theorem vgi (a b : Nat) (ha : a < 4294967296) (hb : b < 4294967296) : bits .and .u32 (a : Int) (b : Int) = ((a &&& b : Nat) : Int) := by
 have hx : a &&& b < 2 ^ 32 := Nat.and_lt_two_pow _ (by omega)
 have h1 : (BitVec.ofInt 32 (a : Int)).toNat = a := by
  rw [BitVec.ofInt_natCast, BitVec.toNat_ofNat]; exact Nat.mod_eq_of_lt (by omega)
 have h2 : (BitVec.ofInt 32 (b : Int)).toNat = b := by
  rw [BitVec.ofInt_natCast, BitVec.toNat_ofNat]; exact Nat.mod_eq_of_lt (by omega)
 show IntKind.u32.wrap ((BitVec.ofInt 32 (a : Int) &&& BitVec.ofInt 32 (b : Int)).toNat : Int) = _
 rw [BitVec.toNat_and, h1, h2]
 show ((a &&& b : Nat) : Int) % 4294967296 = _
 omega
theorem vhF (a b : Nat) (ha : a < 4294967296) (hb : b < 4294967296) : bits .andNot .u32 (a : Int) (b : Int) = ((a &&& (4294967295 - b) : Nat) : Int) := by
 have hx : a &&& (4294967295 - b) < 2 ^ 32 := Nat.and_lt_two_pow _ (by omega)
 have h1 : (BitVec.ofInt 32 (a : Int)).toNat = a := by
  rw [BitVec.ofInt_natCast, BitVec.toNat_ofNat]; exact Nat.mod_eq_of_lt (by omega)
 have h2 : (BitVec.ofInt 32 (b : Int)).toNat = b := by
  rw [BitVec.ofInt_natCast, BitVec.toNat_ofNat]; exact Nat.mod_eq_of_lt (by omega)
 show IntKind.u32.wrap ((BitVec.ofInt 32 (a : Int) &&& ~~~ BitVec.ofInt 32 (b : Int)).toNat : Int) = _
 rw [BitVec.toNat_and, BitVec.toNat_not, h1, h2]
 show ((a &&& (2 ^ 32 - 1 - b) : Nat) : Int) % 4294967296 = _
 rw [show (2 ^ 32 - 1 - b) = 4294967295 - b by omega]
 omega
theorem vco (n : Nat) : maskN n < 4294967296 := by have := Nat.two_pow_pos (32 - n); unfold maskN; omega
theorem vbt (n : Nat) (w : World) (h1 : n ≤ 32) :
  Calls Tryz.prog 293 #[.int .i64 n] w fun e w' => e = .returned (.int .u32 (maskN n)) ∧ w = w' := by
 have H := Lib.hid (vnj h1)
 go_enter Tryz.func293, Tryz.ntmps293
 go_wp2
 go_ret
 exact ⟨by rw [← H.out]; rfl, rfl⟩
def holdsI (p q : Pn) : Nat := if p.holds q then 1 else 0
structure PI where
 a : Nat
 l : Int
def PI.enc (p : PI) : List Value := [.int .u32 p.a, .int .i64 p.l]
def PI.okB (p : PI) : Bool := decide (0 ≤ p.l ∧ p.l ≤ 32 ∧ cut p.a p.l.toNat = p.a)
theorem PI.len (p : PI) : p.enc.length = 2 := rfl
def PI.pn (p : PI) : Pn := ⟨p.a, p.l.toNat⟩
def Pn.pi (p : Pn) : PI := ⟨p.a, p.l⟩
theorem pn_ok {p : PI} (h : p.okB = true) (ha : p.a < 4294967296) : p.pn.ok ∧ p.l = (p.pn.l : Int) := by
 have := of_decide_eq_true h
 exact ⟨⟨ha, by simp [PI.pn]; omega, this.2.2⟩, by simp [PI.pn]; omega⟩
theorem pi_ok {p : Pn} (h : p.ok) : p.pi.okB = true := by
 have h1 := h.2.1
 exact decide_eq_true (show 0 ≤ (p.l : Int) ∧ (p.l : Int) ≤ 32 ∧ cut p.a (p.l : Int).toNat = p.a from ⟨by omega, by omega, by rw [Int.toNat_natCast]; exact h.2.2⟩)
theorem pi_at {w : World} {A : Option Addr} {ps : List PI} (h : Rd w 2 PI.enc A ps) {k : Nat} (hk : k < ps.length) :
  ∃ b off : Nat, A = some ⟨b, off, none⟩ ∧ w.cell? ⟨b, off + k * 2, none⟩ = some (.int .u32 ps[k].a) ∧ w.cell? ⟨b, off + k * 2 + 1, none⟩ = some (.int .i64 ps[k].l) := by
 obtain ⟨b, off, e, hc⟩ := h k hk
 exact ⟨b, off, e, hc 0 _ rfl, hc 1 _ rfl⟩
theorem vcX {a n : Nat} (ha : a < 4294967296) (hn : n ≤ 32) : (bits .andNot .u32 (a : Int) (maskN n : Int) != 0) = !decide (cut a n = a) := by
 rw [vhF a _ ha (vco n), vgh ha hn]
 have := vel a n
 by_cases h : cut a n = a
 ·simp [h]
 ·simp [h]; omega
set_option maxRecDepth 100000 in
theorem vcp (A : Option Addr) (c : Nat) (ps : List PI) (w : World) (hR : Rd w 2 PI.enc A ps) (hn : ps.length ≤ 1000000) (ha : ∀ k (hk : k < ps.length), ps[k].a < 4294967296) :
  Calls Tryz.prog 294 #[.slice A ps.length c] w fun e w' => e = .returned (.bool (ps.all PI.okB)) ∧ Kp w w' := by
 have Ha := Lib.hid ha; clear ha
 go_enter Tryz.func294, Tryz.ntmps294
 go_wp2_with fail
 go_loopw [7] (fun i wr => ∃ k : Nat, k ≤ ps.length ∧ i = .int .i64 k ∧ Hid (∀ j (hj : j < ps.length), j < k → ps[j].okB = true) ∧ Kp w wr) (fun i _ => ps.length - (intOf i).toNat)
 case atStart => exact ⟨0, Nat.zero_le _, rfl, fun _ _ h => absurd h (by omega), Kp.refl _⟩
 case round =>
  obtain ⟨k, hk, rfl, hall, hK⟩ := hrel
  by_cases hlt : k < ps.length
  ·obtain ⟨b, off, rfl, c0, c1⟩ := pi_at (hR.keep hK) hlt
   have hak := Ha.out k hlt
   have hno : ps[k].okB = false → ps.all PI.okB = false := fun h => by rw [List.all_eq_false]; exact ⟨ps[k], List.getElem_mem hlt, by simp [h]⟩
   have Hno := Lib.hid hno; clear hno
   obtain ⟨W, hW, kW, B0⟩ : ∃ W, wr.alloc (.cells #[.int .u32 ps[k].a, .int .i64 ps[k].l] 39) = W ∧ Kp w W ∧ Blk W wr.heap.size 39 #[.int .u32 ps[k].a, .int .i64 ps[k].l] := ⟨_, rfl, hK.alloc _, Blk.new wr _ _⟩
   obtain ⟨p0, p1⟩ := Blk.v2 B0 (.int .u32 ps[k].a) (.int .i64 ps[k].l) rfl
   by_cases h0 : ps[k].l < 0
   ·have H := Lib.hid (Hno.out (by simp [PI.okB]; omega))
    have d0 : decide (ps[k].l < 0) = true := by simpa using h0
    clear h0
    go_wp2_with fail
    go_quiet (fail)
    go_wp2_with fail
    go_ret
    exact ⟨by rw [H.out]; rfl, kW.drewN _⟩
   ·have d0 : decide (ps[k].l < 0) = false := by simpa using h0
    by_cases h1 : 32 < ps[k].l
    ·have H := Lib.hid (Hno.out (by simp [PI.okB]; omega))
     have d1 : decide (32 < ps[k].l) = true := by simpa using h1
     clear h0 h1
     go_wp2_with fail
     go_quiet (fail)
     go_wp2_with fail
     go_ret
     exact ⟨by rw [H.out]; rfl, kW.drewN _⟩
    ·have d1 : decide (32 < ps[k].l) = false := by simpa using h1
     obtain ⟨n, hnl⟩ := Int.eq_ofNat_of_zero_le (show 0 ≤ ps[k].l by omega)
     have hn32 : n ≤ 32 := by omega
     have hz := vcX hak hn32
     have Hl := Lib.hid hnl
     rw [hnl] at c1 p1 d0 d1 hW
     clear h0 h1 hnl
     by_cases hc : cut ps[k].a n = ps[k].a
     ·have hok := Lib.hid (show ps[k].okB = true by simp only [PI.okB, Hl.out, Int.toNat_natCast, decide_eq_true_eq]; exact ⟨by omega, by omega, hc⟩)
      rw [show (!decide (cut ps[k].a n = ps[k].a)) = false by simp [hc]] at hz
      clear hc
      go_wp2_with fail
      go_region_held3 (fun w' => w'.cell? ⟨wr.heap.size, 0, none⟩ = some (.int .u32 ps[k].a) ∧ w'.cell? ⟨wr.heap.size, 1, none⟩ = some (.int .i64 n)) (go_keep)
       (first | (go_at_call 293; refine (vbt _ _ hn32).mono ?_; rintro e w' ⟨rfl, rfl⟩))
      go_wp2_with fail
      go_roundw
      case rel =>
       refine ⟨k + 1, by omega, by go_num, fun j hj hjk => ?_, kW.drew⟩
       by_cases hj' : j < k
       ·exact hall.out j hj hj'
       ·obtain rfl : j = k := by omega
        exact hok.out
      case measure => simp [intOf]; omega
     ·have H := Lib.hid (Hno.out (by simp only [PI.okB, Hl.out, Int.toNat_natCast, decide_eq_false_iff_not]; rintro ⟨_, _, h⟩; exact hc h))
      rw [show (!decide (cut ps[k].a n = ps[k].a)) = true by simp [hc]] at hz
      clear hc
      go_wp2_with fail
      go_region_held3 (fun w' => w'.cell? ⟨wr.heap.size, 0, none⟩ = some (.int .u32 ps[k].a) ∧ w'.cell? ⟨wr.heap.size, 1, none⟩ = some (.int .i64 n)) (go_keep)
       (first | (go_at_call 293; refine (vbt _ _ hn32).mono ?_; rintro e w' ⟨rfl, rfl⟩))
      go_wp2_with fail
      go_ret
      exact ⟨by rw [H.out]; rfl, kW.drew⟩
  ·obtain rfl : k = ps.length := by omega
   have H := Lib.hid (show ps.all PI.okB = true by
    rw [List.all_eq_true]; intro x hx
    obtain ⟨j, hj, rfl⟩ := List.getElem_of_mem hx
    exact hall.out j hj hj)
   clear hall
   go_wp2_with fail
   go_ret
   exact ⟨by rw [H.out]; rfl, hK⟩
def checkP (p : PI) : Int := if p.okB then 0 else 2
set_option maxRecDepth 100000 in
theorem vax (p : PI) (w : World) (ha : p.a < 4294967296) :
  Calls Tryz.prog 230 #[.agg #[.int .u32 p.a, .int .i64 p.l]] w fun e w' => e = .returned (.int .i64 (checkP p)) ∧ Kp w w' := by
 have hrd : Rd ((w.alloc (.cells #[.int .u32 p.a, .int .i64 p.l] 39)).alloc (.cells #[.int .u32 p.a, .int .i64 p.l] 39)) 2 PI.enc (some ⟨w.heap.size + 1, 0, none⟩) [p] := Rd.of_blk (Blk.new1 w _ _ _) (by omega) PI.len (by unfold maxLen; simp) rfl
 have Hrd := Lib.hid hrd; clear hrd
 go_enter Tryz.func230, Tryz.ntmps230
 go_wp2_with fail
 refine vac 0 rfl ?_
 go_wp2_with fail
 refine (vcp _ 1 [p] _ Hrd.out (by simp) (fun k hk => by simp at hk; subst hk; exact ha)).mono ?_
 rintro e w1 ⟨rfl, hK1⟩
 have hk1 : Kp w w1 := (((Kp.refl _).alloc _).alloc _).trans hK1
 rw [show [p].all PI.okB = p.okB by simp]
 cases hok : p.okB with
 | true =>
  have H := Lib.hid (show checkP p = 0 by simp [checkP, hok]); clear hok
  go_wp2_with fail
  refine vak ?_
  go_ret
  exact ⟨by rw [H.out]; rfl, hk1⟩
 | false =>
  have H := Lib.hid (show checkP p = 2 by simp [checkP, hok]); clear hok
  go_wp2_with fail
  go_step3
  refine ⟨rfl, ?_⟩
  go_wp2_with fail
  refine vbl ?_
  go_ret
  exact ⟨by rw [H.out]; rfl, hk1⟩
def relI (p q : Pn) : Int := if p.holds q then (if q.holds p then 1 else 3) else (if q.holds p then 2 else 4)
theorem vhG (p n : Pn) : (n.holds p → (relI p n == 1) = true ∨ ((relI p n == 1) = false ∧ (relI p n == 2) = true)) ∧ (¬ n.holds p → (relI p n == 1) = false ∧ (relI p n == 2) = false) := by
 unfold relI
 by_cases a : p.holds n <;> by_cases b : n.holds p <;> simp [a, b]
def Iter (P : Program) (gf : FuncId) (caps : Array Value) (N : Nat) (xs : Nat → Array Value) (M : World → Prop) : Prop :=
 ∀ (l : Nat) (I Z : Nat → World → Prop) (W : World),
  (∀ k W W', I k W → Kp W W' → I k W') → (∀ k W W', Z k W → Kp W W' → Z k W') → (∀ k W, I k W → M W) →
  (∀ k W, k < N → I k W → ∃ fn tmps assign body, (Instr.yield l (xs k)).run P W = .ok (.round l fn tmps assign body) W ∧
   RoundIn Fence.wide 0 P l fn tmps assign body W (fun e W' => (e = .returned (.bool true) ∧ I (k + 1) W') ∨ (e = .returned (.bool false) ∧ Z (k + 1) W'))) →
  I 0 W → Calls P gf (#[.func (.yield l) #[] #[]] ++ caps) W (fun e W' => e = .returned (.tuple #[]) ∧ (I N W' ∨ ∃ k, 0 < k ∧ k ≤ N ∧ Z k W'))
def Kept2 (w W W' : World) : Prop := W'.heap[w.heap.size]? = W.heap[w.heap.size]? ∧ W'.heap[w.heap.size + 1]? = W.heap[w.heap.size + 1]?
def rndPost (w : World) (I : Nat → World → Prop) (Ix : Code → Nat → World → Prop) (k : Nat) (W : World) : Exit → Act → World → Prop
 | .normal, _, W' => Kept2 w W W' ∧ I k W'
 | .ret, _, W' => Kept2 w W W' ∧ Ix .ret k W'
 | .exit id, _, W' => Kept2 w W W' ∧ Ix (.exit id) k W'
 | .goto t, _, W' => Kept2 w W W' ∧ Ix (.goto t) k W'
 | .panic _, _, _ => False
 | .outgrown, _, _ => False
theorem Only.putObj {bs : List Nat} {a w : World} (h : Only bs a w) {r : Nat} (hr : r ∈ bs) (o : Obj) : Only bs a (w.putObj r o) :=
 ⟨h.os, h.tape, h.output, by simpa using h.size, fun k hk hn => (World.putObj_heap_other (fun e => hn (by rw [e]; exact hr))).trans (h.block k hk hn)⟩
theorem vcq {P : Program} {g : Operand} {ps : Array Tmp} {assign body : Code} {Q : Exit → Act → World → Prop} {a : Act} {w : World} {gf : FuncId} {caps : Array Value} {N : Nat} {xs : Nat → Array Value} {M : World → Prop}
  (hg : a.eval g = .func (.func gf) #[] caps) (eg : ∀ args w, (callFunc gf args).run P w = .ok (.enter gf args) w) (hit : Iter P gf caps N xs M) (hps : ∀ k, k < N → (xs k).size = ps.size)
  (I : Nat → World → Prop) (Ix : Code → Nat → World → Prop)
  (hI : ∀ k W W', I k W → Only [w.heap.size, w.heap.size + 1] W W' → I k W') (hIx : ∀ c k W W', Ix c k W → Only [w.heap.size, w.heap.size + 1] W W' → Ix c k W')
  (hM : ∀ k W, I k W → M W) (h0 : I 0 w)
  (hround : ∀ l k W, k < N → I k W → assign.wpIn (Fence.wide.inRound l) 0 P (Exit.then (fun a' W' => W = W' ∧ ∀ W2, I k W2 → w.heap.size + 1 < W2.heap.size → body.wpIn (Fence.wide.inRound l) 0 P (rndPost w I Ix (k + 1) W2) a' W2) (fun _ _ _ => False))
   { tmps := (ps.zip (xs k)).foldl (fun t (p, v) => t.setIfInBounds p v) a.tmps, defers := [] } W)
  (hdone : ∀ W, I N W → W.heap[w.heap.size]? = some (.deferred (some [])) → Q .normal { a with defers := { target := .collected w.heap.size, args := #[] } :: a.defers } W)
  (hstop : ∀ c k W, 0 < k → k ≤ N → Ix c k W → W.heap[w.heap.size]? = some (.deferred (some [])) → c.wp P Q { a with defers := { target := .collected w.heap.size, args := #[] } :: a.defers } W) :
  (Code.rangeFunc g ps assign body).wp P Q a w := by
 refine (wpIn_wide (n := 0)).1 (wpIn_rangeFunc ?_)
 intro fn hfn
 obtain ⟨rec, hrec⟩ : ∃ rec : LoopState → Option Code → Loop, rec = fun st pe => { state := st, pending := pe, fn, tmps := a.tmps, params := ps, assign, body, defers := w.heap.size } := ⟨_, rfl⟩
 obtain ⟨W1, hW1⟩ : ∃ W1, (w.alloc (.deferred (some []))).alloc (.loop (rec .ready none)) = W1 := ⟨_, rfl⟩
 have hL1 : W1.heap[w.heap.size + 1]? = some (.loop (rec .ready none)) := by
  rw [← hW1]; have := World.alloc_heap_new (w.alloc (.deferred (some []))) (.loop (rec .ready none)); rwa [World.size_alloc] at this
 have hK1 : W1.heap[w.heap.size]? = some (.deferred (some [])) := by
  rw [← hW1]; exact (Below.heap_alloc _ _ _ (by simp)).trans (World.alloc_heap_new w _)
 have hI1 : I 0 W1 := by rw [← hW1]; exact hI 0 _ _ h0 (((Only.refl _ _).alloc _).alloc _)
 refine ⟨w.heap.size + 1, [{ target := .collected w.heap.size, args := #[] }], W1, { target := .fn (.func gf) caps, args := #[.func (.yield (w.heap.size + 1)) #[] #[]] }, W1, gf,
  #[.func (.yield (w.heap.size + 1)) #[] #[]] ++ caps, W1, ?_, ?_, fun _ _ => trivial, ?_, (fun h => by cases h), callsIn_wide.2 ?_⟩
 ·rw [← hW1, hrec]; exact run_enterLoop_outer _ _ _ _ _
 ·simp only [resolve, hg]
  simp [go_sem]
 ·simp [invoke, go_sem, eg]
 ·refine (hit (w.heap.size + 1)
   (fun k W => I k W ∧ W.heap[w.heap.size + 1]? = some (.loop (rec .ready none)) ∧ W.heap[w.heap.size]? = some (.deferred (some [])))
   (fun k W => ∃ c, Ix c k W ∧ W.heap[w.heap.size + 1]? = some (.loop (rec .done (some c))) ∧ W.heap[w.heap.size]? = some (.deferred (some [])))
   W1 ?_ ?_ (fun k W h => hM k W h.1) ?_ ⟨hI1, hL1, hK1⟩).mono ?_
  ·rintro k W W' ⟨h1, h2, h3⟩ hk
   exact ⟨hI k W W' h1 (Only.of_kp hk), (hk.heap (Array.getElem?_eq_some_iff.1 h2).1).trans h2, (hk.heap (Array.getElem?_eq_some_iff.1 h3).1).trans h3⟩
  ·rintro k W W' ⟨c, h1, h2, h3⟩ hk
   exact ⟨c, hIx c k W W' h1 (Only.of_kp hk), (hk.heap (Array.getElem?_eq_some_iff.1 h2).1).trans h2, (hk.heap (Array.getElem?_eq_some_iff.1 h3).1).trans h3⟩
  ·rintro k W hk ⟨hi, hl, hd⟩
   have hlt : w.heap.size + 1 < W.heap.size := (Array.getElem?_eq_some_iff.1 hl).1
   have hy := run_yield (P := P) (args := xs k) hl (by rw [hrec]; exact hps k hk)
   rw [hrec] at hy
   refine ⟨fn, _, assign, body, hy, roundIn_of_wpIn trivial (wpIn_mono (hround _ k W hk hi) ?_)⟩
   rintro e₀ a' W' hq
   rcases e₀ with _ | id | t | _ | ch | _
   rotate_left
   ·exact hq.elim
   ·exact hq.elim
   ·exact hq.elim
   ·exact hq.elim
   ·exact hq.elim
   obtain ⟨rfl, hbody⟩ := hq
   refine ⟨_, run_beginRound hl (by rw [hrec]), ?_⟩
   have hl2 : (W.putObj (w.heap.size + 1) (.loop { rec .ready none with state := .busy })).heap[w.heap.size + 1]? = some (.loop { rec .ready none with state := .busy }) := World.putObj_heap_same hlt
   have hd2 : (W.putObj (w.heap.size + 1) (.loop { rec .ready none with state := .busy })).heap[w.heap.size]? = some (.deferred (some [])) := (World.putObj_heap_other (by omega)).trans hd
   have hi2 : I k (W.putObj (w.heap.size + 1) (.loop { rec .ready none with state := .busy })) := hI k _ _ hi ((Only.refl _ _).putObj (by simp) _)
   refine wpIn_mono (hbody _ hi2 (by simpa using hlt)) ?_
   have fin : ∀ (jump : Option Code) (W3 : World), Kept2 w (W.putObj (w.heap.size + 1) (.loop { rec .ready none with state := .busy })) W3 →
     (Instr.endRound (w.heap.size + 1) jump).run P W3 = .ok (.bool jump.isNone) (W3.putObj (w.heap.size + 1) (.loop (rec (if jump.isNone then .ready else .done) jump))) ∧
     (W3.putObj (w.heap.size + 1) (.loop (rec (if jump.isNone then .ready else .done) jump))).heap[w.heap.size + 1]? = some (.loop (rec (if jump.isNone then .ready else .done) jump)) ∧
     (W3.putObj (w.heap.size + 1) (.loop (rec (if jump.isNone then .ready else .done) jump))).heap[w.heap.size]? = some (.deferred (some [])) := fun jump W3 hk3 => by
    have hl3 := hk3.2.trans hl2
    have hd3 := hk3.1.trans hd2
    have := run_endRound (P := P) jump hl3
    rw [hrec] at this ⊢
    exact ⟨this, World.putObj_heap_same (Array.getElem?_eq_some_iff.1 hl3).1, (World.putObj_heap_other (by omega)).trans hd3⟩
   rintro e a3 W3 hp
   cases e with
   | normal =>
    obtain ⟨hr, hl4, hd4⟩ := fin none W3 hp.1
    exact ⟨_, _, hr, .inl ⟨rfl, hI _ _ _ hp.2 ((Only.refl _ _).putObj (by simp) _), hl4, hd4⟩⟩
   | ret =>
    obtain ⟨hr, hl4, hd4⟩ := fin (some .ret) W3 hp.1
    exact ⟨_, _, hr, .inr ⟨rfl, .ret, hIx _ _ _ _ hp.2 ((Only.refl _ _).putObj (by simp) _), hl4, hd4⟩⟩
   | exit id =>
    obtain ⟨hr, hl4, hd4⟩ := fin (some (.exit id)) W3 hp.1
    exact ⟨_, _, hr, .inr ⟨rfl, .exit id, hIx _ _ _ _ hp.2 ((Only.refl _ _).putObj (by simp) _), hl4, hd4⟩⟩
   | goto t =>
    obtain ⟨hr, hl4, hd4⟩ := fin (some (.goto t)) W3 hp.1
    exact ⟨_, _, hr, .inr ⟨rfl, .goto t, hIx _ _ _ _ hp.2 ((Only.refl _ _).putObj (by simp) _), hl4, hd4⟩⟩
   | panic ch => exact hp.elim
   | outgrown => exact hp.elim
  ·rintro e W3 ⟨rfl, h | ⟨k, hk0, hkN, c, hix, hl, hd⟩⟩
   ·obtain ⟨hi, hl, hd⟩ := h
    have hend := run_endLoop (P := P) hl (by rw [hrec]; simp)
    have hpn : (rec .ready none).pending = none := by rw [hrec]
    rw [hpn] at hend
    refine ⟨none, _, hend, ?_⟩
    exact hdone _ (hI _ _ _ hi ((Only.refl _ _).putObj (by simp) _)) ((World.putObj_heap_other (by omega)).trans hd)
   ·have hend := run_endLoop (P := P) hl (by rw [hrec]; simp)
    have hpn : (rec .done (some c)).pending = some c := by rw [hrec]
    rw [hpn] at hend
    refine ⟨some c, _, hend, ?_⟩
    refine (wpIn_wide (n := 0)).2 (hstop c k _ hk0 hkN (hIx _ _ _ _ hix ((Only.refl _ _).putObj (by simp) _)) ((World.putObj_heap_other (by omega)).trans hd))
def Takes : List Deferred → World → (World → Prop) → Prop
 | [], w, K => K w
 | d :: ds, w, K => ∃ r, d.target = .collected r ∧ w.heap[r]? = some (.deferred (some [])) ∧ Takes ds (w.putObj r (.deferred none)) K
theorem vce {P : Program} {K : World → Prop} : ∀ (ds : List Deferred) (fr : Frame) (cs : List Frame) (w : World), fr.mode = .returning → fr.defers = ds → Takes ds w K →
  ∃ w', K w' ∧ Steps P (lone fr cs w) (lone { fr with defers := [] } cs w')
 | [], fr, cs, w, _, hd, h => ⟨w, h, by
   have : ({ fr with defers := [] } : Frame) = fr := by cases fr; simp_all
   rw [this]; exact Steps.refl P _⟩
 | d :: ds, fr, cs, w, hm, hd, ⟨r, ht, hr, h⟩ => by
  obtain ⟨w', hK, hs⟩ := vce ds { fr with defers := [] ++ ds } cs _ hm rfl h
  exact ⟨w', hK, Steps.head (step_collected (by rw [hm]; simp) hd ht (run_takeDeferred hr)) hs⟩
def bodyPostM (P : Program) (fn : Func) (R : Ending → World → Prop) : Exit → Act → World → Prop
 | .normal, a, w | .ret, a, w => Takes a.defers w (fun w' => ∃ v, (results fn a.tmps).run P w' = .ok v w' ∧ R (.returned v) w')
 | .outgrown, _, w => R .outgrown w
 | _, _, _ => False
theorem calls_of_wp_marks {P : Program} {f : FuncId} {fn : Func} {c : Code} {args : Array Value} {w : World} {R : Ending → World → Prop}
  (hf : P.funcs[f]? = some fn) (hb : fn.body = some c)
  (h : c.wp P (bodyPostM P fn R) { tmps := args ++ Array.replicate (fn.ntmps - args.size) undef, defers := [] } w) : Calls P f args w R := by
 intro cs
 let b : Frame := { (default : Frame) with fn := f, kind := .normal }
 have henter : Frame.enter P f args .normal = b.at { tmps := args ++ Array.replicate (fn.ntmps - args.size) undef, defers := [] } [.code c] := by
  simp [Frame.enter, Frame.at, hf, hb, b]
 obtain ⟨e, a', w', hq, harr⟩ := h b [] cs
 rw [← henter] at harr
 cases e with
 | normal =>
  obtain ⟨w2, ⟨v, hr, hR⟩, hs⟩ := vce (P := P) a'.defers { b.at a' [] with mode := .returning } cs w' rfl rfl hq
  exact ⟨.returned v, w2, _, hR, Steps.trans harr (.head step_end hs), rfl, rfl, rfl, rfl, fn, hf, hr⟩
 | ret =>
  obtain ⟨todo, hs0⟩ := harr
  obtain ⟨w2, ⟨v, hr, hR⟩, hs⟩ := vce (P := P) a'.defers { b.at a' todo with mode := .returning } cs w' rfl rfl hq
  exact ⟨.returned v, w2, _, hR, Steps.trans hs0 hs, rfl, rfl, rfl, rfl, fn, hf, hr⟩
 | panic chain => exact hq.elim
 | exit id => exact hq.elim
 | goto l => exact hq.elim
 | outgrown => exact ⟨.outgrown, w', b, hq, harr.resolve_left (by simp [b]), rfl, trivial⟩
theorem veG {P : Program} {g : Operand} {ps : Array Tmp} {assign body : Code} {id : Nat} {Q : Exit → Act → World → Prop} {a : Act} {w : World} {gf : FuncId} {caps : Array Value} {N : Nat} {xs : Nat → Array Value} {M : World → Prop}
  (hg : a.eval g = .func (.func gf) #[] caps) (eg : ∀ args w, (callFunc gf args).run P w = .ok (.enter gf args) w) (hit : Iter P gf caps N xs M) (hps : ∀ k, k < N → (xs k).size = ps.size)
  (I Z : Nat → World → Prop) (S : World → Prop)
  (hI : ∀ k W W', I k W → Only [w.heap.size, w.heap.size + 1] W W' → I k W') (hZ : ∀ k W W', Z k W → Only [w.heap.size, w.heap.size + 1] W W' → Z k W')
  (hM : ∀ k W, I k W → M W) (h0 : I 0 w)
  (hIS : ∀ W, I N W → S W) (hZS : ∀ k W, 0 < k → k ≤ N → Z k W → S W)
  (hround : ∀ l k W, k < N → I k W → assign.wpIn (Fence.wide.inRound l) 0 P (Exit.then (fun a' W' => W = W' ∧ ∀ W2, I k W2 → w.heap.size + 1 < W2.heap.size → body.wpIn (Fence.wide.inRound l) 0 P (rndPost w I (fun c k W => c = .exit id ∧ Z k W) (k + 1) W2) a' W2) (fun _ _ _ => False))
   { tmps := (ps.zip (xs k)).foldl (fun t (p, v) => t.setIfInBounds p v) a.tmps, defers := [] } W)
  (rest : ∀ W, S W → W.heap[w.heap.size]? = some (.deferred (some [])) → Q .normal { a with defers := { target := .collected w.heap.size, args := #[] } :: a.defers } W) :
  (Code.rangeFunc g ps assign body).wp P (Exit.inBlock id Q) a w := by
 refine vcq hg eg hit hps I (fun c k W => c = .exit id ∧ Z k W) hI (fun c k W W' h hO => ⟨h.1, hZ k W W' h.2 hO⟩) hM h0 hround (fun W h hd => rest W (hIS W h) hd) ?_
 rintro c k W h1 h2 ⟨rfl, hz⟩ hd
 refine wp_exit ?_
 show (if id = id then Q .normal _ _ else Q (.exit id) _ _)
 rw [if_pos rfl]
 exact rest W (hZS k W h1 h2 hz) hd
theorem vdq {P : Program} {f : FuncId} {args : Array Value} {w : World} {R : Ending → World → Prop} (l : Nat) (h : Calls P f args w R) : CallsIn (Fence.wide.inRound l) 0 P f args w R := CallsIn.inRound l (callsIn_wide.2 h)
theorem vaw {F : Fence} {n : Nat} {P : Program} {Q : Exit → Act → World → Prop} {a : Act} {w : World} {fuel : Nat} {L : List Oper} {listed : Array Bool} (k : Nat) (hro : F.round = none) (hf : fuel = (L.drop k).length)
  (hs : Region.noSelect L.toArray = true) (hB : Region.lexFrom .any L.toArray (L.drop k).length k listed = true)
  (h : wpQuietIn F n P L.toArray (fun w' => ∃ n, w' = w.drewN n) (fun a' => ∀ w', (∃ n, w' = w.drewN n) → Q .normal a' w') (L.drop k) a) : wpAnyIn F n P .any L.toArray Q fuel listed a w := by
 subst hf
 refine wpAnyIn_of_quiet (C := fun w' => ∃ n, w' = w.drewN n) (Q := fun a' => ∀ w', (∃ n, w' = w.drewN n) → Q .normal a' w') hro (fun _ w' hw' h => h w' hw') _ _ _ _ ⟨0, rfl⟩ ?_
 exact wpAnyQIn_lex hs (L.drop k) k listed a (fun j => by simp) hB h
def noDefer (ops : Array Oper) : Bool := ops.toList.all (fun o => match o.op with | .defer _ => false | _ => true)
theorem vfu {ops : Array Oper} (h : noDefer ops = true) {i : Nat} {o : Oper} (hi : ops[i]? = some o) : ∀ c, o.op ≠ .defer c := by
 intro c hc
 have hm : o ∈ ops.toList := by
  rw [Array.mem_toList_iff]
  exact Array.mem_of_getElem? hi
 have := List.all_eq_true.1 h o hm
 rw [hc] at this
 cases this
theorem vee {l : Nat} {P : Program} {ops : Array Oper} {Q : Exit → Act → World → Prop} (hQ : ¬ LetsOut Q) (hnd : noDefer ops = true) {i : Nat} {K : Act → World → Prop} {a : Act} {w : World}
  (h : wpOp P ops Q i K a w) : wpOpIn (Fence.wide.inRound l) 0 P ops Q i K a w := by
 unfold wpOp at h
 unfold wpOpIn
 cases ho : ops[i]? with
 | none => rw [ho] at h; exact h
 | some o =>
  rw [ho] at h
  simp only at h ⊢
  split
  ·rename_i hw
   rw [if_pos hw] at h
   rcases h with h | h
   ·refine ⟨fun _ _ => trivial, ?_⟩
    rw [Oper.semAt_eq _ _ _ (vfu hnd ho)]
    unfold Oper.wp at h
    generalize (execOp a.eval o).run P w = r at h
    unfold Oper.upon at h
    unfold Oper.uponIn
    split at h
    ·exact h
    ·exact h
    ·exact h
    ·exact ⟨(fun h => by cases h), CallsIn.inRound l (callsIn_wide.2 (h.mono fun e w'' hh => by cases e <;> exact hh))⟩
    ·exact ⟨(fun h => by cases h), fun c cs _ => let ⟨v, w', r, s⟩ := h c cs; ⟨v, w', r, stepsIn_wide.2 s⟩⟩
    ·exact h
    ·exact h.elim
   ·exact absurd h.2 hQ
  ·rename_i hw
   rw [if_neg hw] at h
   exact ⟨fun _ _ => trivial, h⟩
theorem vay {l : Nat} {P : Program} {ops : Array Oper} {Q : Exit → Act → World → Prop} (hQ : ¬ LetsOut Q) (hnd : noDefer ops = true) {md : Region.Mode} : ∀ (fuel : Nat) (listed : Array Bool) (a : Act) (w : World),
  wpAny P md ops Q fuel listed a w → wpAnyIn (Fence.wide.inRound l) 0 P md ops Q fuel listed a w
 | 0, _, _, _, h => h
 | fuel + 1, listed, a, w, h => ⟨h.1, fun i hi => wpOpIn_mono (fun a w hh => vay hQ hnd fuel _ a w hh) (vee hQ hnd (h.2 i hi))⟩
theorem vhH {P : Program} {Q : Exit → Act → World → Prop} {a : Act} {W : World} {l : List Oper} (n : Nat) (hB : Region.lexTailB .any l.toArray n = true)
  (h : wpStill P l.toArray W (fun a' => wpList P l.toArray Q (l.drop n) a' W) (l.take n) a) : wpAny P .any l.toArray Q l.toArray.size (Array.replicate l.toArray.size false) a W := by
 simp only [Region.lexTailB, Bool.and_eq_true, decide_eq_true_eq] at hB
 obtain ⟨⟨⟨⟨h1, h2⟩, h3⟩, h4⟩, h5⟩ := hB
 have e0 : n < l.length := by simpa using h2
 have e1 : (l.take n).length = n := by rw [List.length_take]; omega
 have e2 : (l.drop n).length = l.toArray.size - n := by rw [List.length_drop, List.size_toArray]
 have start : HeadInv .any l.toArray n (Array.replicate l.toArray.size false) := ⟨by simp, fun j _ _ hl => (by rw [getD_replicate_false] at hl; cases hl), fun t _ ht => getD_in (by simpa using ht) (getD_replicate_false _ _)⟩
 have hl : ∀ j, j < (l.take n).length → (l.take n)[j]? = l.toArray[0 + j]? := fun j hj => by
  rw [e1] at hj; simp [hj]
 have head := wpAnyL_lex (md := .any) (g := l.toArray.size - n) h1 h3 h4 h2 (l.take n) 0 _ a hl (by omega) start (by rw [e1]; exact h5) h
 have all := wpAny_of_head (Q' := Q) (g := l.toArray.size - n) (fun listed a' hL => by
  have t := wpAny_of_seq (md := .any) (Q' := Q) (l.drop n) n listed a' W (fun j => by simp [List.getElem?_drop]) (by rw [e2]; exact hL.1) hL.2
  rw [e2] at t; exact t) _ _ _ head
 rw [e1, show n + (l.toArray.size - n) = l.toArray.size by omega] at all
 exact all
theorem vbm {r id : Nat} {P : Program} {Q : Exit → Act → World → Prop} {a : Act} {w : World} {l : List Oper} (n : Nat) (hm : P.follows .mixedOrders = true) (hB : Region.lexTailB .any l.toArray n = true) (hnd : noDefer l.toArray = true) (hQ : ¬ LetsOut Q)
  (h : ∀ W, W = w.drew → wpStill P l.toArray W (fun a' => wpList P l.toArray Q (l.drop n) a' W) (l.take n) a) : (Code.region id l.toArray true).wpIn (Fence.wide.inRound r) 0 P Q a w :=
 wpIn_region_any hm (vay hQ hnd _ _ _ _ (vhH n hB (h _ rfl)))
theorem veo {Q : Exit → Act → World → Prop} {K : Act → World → Prop} (h : ¬ LetsOut Q) : ¬ LetsOut (Exit.then K Q) := fun ⟨a, w, hh⟩ => h ⟨a, w, hh⟩
theorem vaj {Q : Exit → Act → World → Prop} {id : Nat} (h : ¬ LetsOut Q) : ¬ LetsOut (Exit.inBlock id Q) := fun ⟨a, w, hh⟩ => h ⟨a, w, hh⟩
theorem van {w : World} {I : Nat → World → Prop} {Ix : Code → Nat → World → Prop} {k : Nat} {W : World} : ¬ LetsOut (rndPost w I Ix k W) := fun ⟨_, _, hh⟩ => hh
end

section
theorem veH (fn : Fn) (first cap : Array Value) (w : World) : (Instr.makeFunc fn first cap).run Tryz.prog w = .ok (.func fn first cap) w := rfl
end

section
open Go.RowKit
def kindAB : Nat → Nat → Bool
 | 0, a => decide (a = 0)
 | 1, a => decide (a / 16777216 = 0)
 | 2, a => decide (a / 16777216 = 127)
 | 3, a => decide (224 ≤ a / 16777216) && decide (a / 16777216 ≤ 239)
 | 4, a => decide (240 ≤ a / 16777216)
 | _, _ => true
def kindAd (a : Nat) : Nat := if a = 0 then 1 else if a / 16777216 = 0 then 2 else if a / 16777216 = 127 then 3 else if 224 ≤ a / 16777216 ∧ a / 16777216 ≤ 239 then 4 else if 240 ≤ a / 16777216 then 5 else 6
theorem vnk {a k : Nat} (hk : k < 6) (h : ∀ j, j < k → kindAB j a = false) (h1 : kindAB k a = true) : kindAd a = k + 1 := by
 have hk2 : k = 0 ∨ k = 1 ∨ k = 2 ∨ k = 3 ∨ k = 4 ∨ k = 5 := by omega
 unfold kindAd
 rcases hk2 with rfl | rfl | rfl | rfl | rfl | rfl
 ·simp [kindAB] at h1; simp [h1]
 all_goals
  have g0 := h 0 (by omega)
  simp only [kindAB, decide_eq_false_iff_not] at g0
  rw [if_neg g0]
 ·simp [kindAB] at h1; rw [if_pos (by omega)]
 all_goals
  have g1 := h 1 (by omega)
  simp only [kindAB, decide_eq_false_iff_not] at g1
  rw [if_neg g1]
 ·simp [kindAB] at h1; rw [if_pos h1]
 all_goals
  have g2 := h 2 (by omega)
  simp only [kindAB, decide_eq_false_iff_not] at g2
  rw [if_neg g2]
 ·simp [kindAB] at h1; rw [if_pos h1]
 all_goals
  have g3 := h 3 (by omega)
  simp [kindAB] at g3
  rw [if_neg (by omega)]
 ·simp [kindAB] at h1; rw [if_pos h1]
 ·have g4 := h 4 (by omega)
  simp [kindAB] at g4
  rw [if_neg (by omega)]
theorem idx4 (x y z u : Value) (w : World) : (Instr.index 437 (.agg #[x, y, z, u]) (.int .i64 0)).run Tryz.prog w = .ok x w := by kernel_rfl
def PartsPost (m : Nat) (w : World) (e : Ending) (w' : World) : Prop := ∃ y z u : Int, e = .returned (.agg #[.int .u8 m, .int .u8 y, .int .u8 z, .int .u8 u]) ∧ Kp w w'
set_option maxRecDepth 100000 in
theorem viP (a m : Nat) (w : World) (ha : a < 4294967296) (hm : a / 16777216 = m) : Calls Tryz.prog 317 #[.int .u32 a] w (PartsPost m w) := by
 have Hm := Lib.hid hm; clear hm
 go_enter Tryz.func317, Tryz.ntmps317
 go_wp2_with fail
 all_goals first
  | omega
  | exact bodyPost_ret (v := .agg #[.int .u8 ((a : Int) / 16777216), .int .u8 ((a : Int) / 65536 % 256), .int .u8 ((a : Int) / 256 % 256), .int .u8 ((a : Int) % 256)]) (by simp [results, Tryz.results317, go_sem]) rfl ⟨_, _, _, by rw [← Hm.out]; rfl, (Kp.refl _).alloc _⟩
set_option maxRecDepth 100000 in
theorem vbn (a m : Nat) (w : World) (ha : a < 4294967296) (hm : a / 16777216 = m) :
  Calls Tryz.prog 316 #[.int .u32 a] w fun e w' => e = .returned (.int .u8 m) ∧ Kp w w' := by
 have h4 := idx4
 have Hm := Lib.hid hm; clear hm
 go_enter Tryz.func316, Tryz.ntmps316
 go_wp2_with fail
 refine (viP a m _ ha Hm.out).mono ?_
 rintro e w' ⟨y, z, u, rfl, hK⟩
 go_wp2_with fail
 go_ret
 exact ⟨rfl, hK⟩
theorem vnl (a : Nat) (w : World) : Calls Tryz.prog 318 #[.int .u32 a] w fun e w' => e = .returned (.bool (kindAB 0 a)) ∧ Kp w w' := by
 have H := Lib.hid (show kindAB 0 a = ((a : Int) == 0) by simp only [kindAB]; rw [Bool.eq_iff_iff]; simp)
 go_enter Tryz.func318, Tryz.ntmps318
 go_wp2_with fail
 go_ret
 exact ⟨by rw [H.out]; rfl, Kp.refl _⟩
theorem vnm (a : Nat) (w : World) : Calls Tryz.prog 323 #[.int .u32 a] w fun e w' => e = .returned (.bool (kindAB 5 a)) ∧ Kp w w' := by
 go_enter Tryz.func323, Tryz.ntmps323
 go_wp2_with fail
 go_ret
 exact ⟨rfl, Kp.refl _⟩
set_option maxRecDepth 100000 in
theorem vnn (a c : Nat) (w : World) (ha : a < 4294967296) (hc : Blk w c 439 #[.func (.func 316) #[] #[]]) : Calls Tryz.prog 319 #[.int .u32 a, .pointer (some ⟨c, 0, none⟩)] w fun e w' => e = .returned (.bool (kindAB 1 a)) ∧ Kp w w' := by
 have c0 : w.cell? ⟨c, 0, none⟩ = some (.func (.func 316) #[] #[]) := hc.cell 0
 obtain ⟨m, hm⟩ : ∃ m, a / 16777216 = m := ⟨_, rfl⟩
 have H := Lib.hid (show kindAB 1 a = ((m : Int) == 0) by simp only [kindAB, hm]; rw [Bool.eq_iff_iff]; simp <;> omega)
 have Hm := Lib.hid hm; clear hm
 go_enter Tryz.func319, Tryz.ntmps319
 go_wp2_with fail
 refine (vbn a m _ ha Hm.out).mono ?_
 rintro e w' ⟨rfl, hK⟩
 go_wp2_with fail
 go_ret
 exact ⟨by rw [H.out]; rfl, hK⟩
set_option maxRecDepth 100000 in
theorem vno (a c : Nat) (w : World) (ha : a < 4294967296) (hc : Blk w c 439 #[.func (.func 316) #[] #[]]) : Calls Tryz.prog 320 #[.int .u32 a, .pointer (some ⟨c, 0, none⟩)] w fun e w' => e = .returned (.bool (kindAB 2 a)) ∧ Kp w w' := by
 have c0 : w.cell? ⟨c, 0, none⟩ = some (.func (.func 316) #[] #[]) := hc.cell 0
 obtain ⟨m, hm⟩ : ∃ m, a / 16777216 = m := ⟨_, rfl⟩
 have H := Lib.hid (show kindAB 2 a = ((m : Int) == 127) by simp only [kindAB, hm]; rw [Bool.eq_iff_iff]; simp <;> omega)
 have Hm := Lib.hid hm; clear hm
 go_enter Tryz.func320, Tryz.ntmps320
 go_wp2_with fail
 refine (vbn a m _ ha Hm.out).mono ?_
 rintro e w' ⟨rfl, hK⟩
 go_wp2_with fail
 go_ret
 exact ⟨by rw [H.out]; rfl, hK⟩
set_option maxRecDepth 100000 in
theorem vnp (a c : Nat) (w : World) (ha : a < 4294967296) (hc : Blk w c 439 #[.func (.func 316) #[] #[]]) : Calls Tryz.prog 322 #[.int .u32 a, .pointer (some ⟨c, 0, none⟩)] w fun e w' => e = .returned (.bool (kindAB 4 a)) ∧ Kp w w' := by
 have c0 : w.cell? ⟨c, 0, none⟩ = some (.func (.func 316) #[] #[]) := hc.cell 0
 obtain ⟨m, hm⟩ : ∃ m, a / 16777216 = m := ⟨_, rfl⟩
 have H := Lib.hid (show kindAB 4 a = decide ((240 : Int) ≤ (m : Int)) by simp only [kindAB, hm]; rw [Bool.eq_iff_iff]; simp <;> omega)
 have Hm := Lib.hid hm; clear hm
 go_enter Tryz.func322, Tryz.ntmps322
 go_wp2_with fail
 refine (vbn a m _ ha Hm.out).mono ?_
 rintro e w' ⟨rfl, hK⟩
 go_wp2_with fail
 go_ret
 exact ⟨by rw [H.out]; rfl, hK⟩
set_option maxRecDepth 100000 in
theorem vnq (a c : Nat) (w : World) (ha : a < 4294967296) (hc : Blk w c 439 #[.func (.func 316) #[] #[]]) : Calls Tryz.prog 321 #[.int .u32 a, .pointer (some ⟨c, 0, none⟩)] w fun e w' => e = .returned (.bool (kindAB 3 a)) ∧ Kp w w' := by
 have c0 : w.cell? ⟨c, 0, none⟩ = some (.func (.func 316) #[] #[]) := hc.cell 0
 have Hc := Lib.hid hc; clear hc
 obtain ⟨m, hm⟩ : ∃ m, a / 16777216 = m := ⟨_, rfl⟩
 have H := Lib.hid (show kindAB 3 a = (decide (224 ≤ m) && decide (m ≤ 239)) by simp only [kindAB, hm])
 have Hm := Lib.hid hm; clear hm
 by_cases h : 224 ≤ m
 ·have hd : decide ((224 : Int) ≤ (m : Int)) = true := by simp; omega
  have hd2 : decide (224 ≤ m) = true := by simpa using h
  have hk := Lib.hid (show kindAB 3 a = decide ((m : Int) ≤ 239) by rw [H.out, hd2, Bool.true_and, Bool.eq_iff_iff]; simp; omega)
  have Hh := Lib.hid h; clear h
  go_enter Tryz.func321, Tryz.ntmps321
  go_wp2_with fail
  refine (vbn a m _ ha Hm.out).mono ?_
  rintro e w1 ⟨rfl, hK⟩
  have c1 : w1.cell? ⟨c, 0, none⟩ = some (.func (.func 316) #[] #[]) := hK.cell c0
  go_wp2_with fail
  refine (vbn a m _ ha Hm.out).mono ?_
  rintro e w2 ⟨rfl, hK2⟩
  go_wp2_with fail
  go_ret
  exact ⟨by rw [hk.out]; rfl, hK.trans hK2⟩
 ·have hd : decide ((224 : Int) ≤ (m : Int)) = false := by simp; omega
  have hd2 : decide (224 ≤ m) = false := by simpa using h
  have hk := Lib.hid (show kindAB 3 a = false by rw [H.out, hd2, Bool.false_and])
  have Hh := Lib.hid h; clear h
  go_enter Tryz.func321, Tryz.ntmps321
  go_wp2_with fail
  refine (vbn a m _ ha Hm.out).mono ?_
  rintro e w1 ⟨rfl, hK⟩
  go_wp2_with fail
  go_ret
  exact ⟨by rw [hk.out]; rfl, hK⟩
def kindCells (c : Nat) : Array Value := #[.int .i64 1, .func (.func 318) #[] #[], .int .i64 2, .func (.func 319) #[] #[.pointer (some ⟨c, 0, none⟩)], .int .i64 3, .func (.func 320) #[] #[.pointer (some ⟨c, 0, none⟩)], .int .i64 4, .func (.func 321) #[] #[.pointer (some ⟨c, 0, none⟩)], .int .i64 5, .func (.func 322) #[] #[.pointer (some ⟨c, 0, none⟩)], .int .i64 6, .func (.func 323) #[] #[]]
theorem veI (w : World) : Calls Tryz.prog 299 #[] w fun e w' => e = .returned (.slice (some ⟨w.heap.size + 1, 0, none⟩) 6 6) ∧ Blk w' w.heap.size 439 #[.func (.func 316) #[] #[]] ∧ Blk w' (w.heap.size + 1) 417 (kindCells w.heap.size) ∧ Kp w w' := by
 have hmf := veH
 go_enter Tryz.func299, Tryz.ntmps299
 go_wp2_with fail
 go_ret
 exact ⟨rfl, (Blk.new w _ _).alloc _, Blk.new1 w _ _ _, ((Kp.refl _).alloc _).alloc _⟩
end

end Go.Proofs.YtgopnfacklmkaaaGreatDoor
