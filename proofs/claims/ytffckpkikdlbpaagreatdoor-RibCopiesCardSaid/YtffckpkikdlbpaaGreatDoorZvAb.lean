/- Lemmas and contracts for the theorem of this claim: OrdX, Range, Reg, Round, Round2, OrdZ, OrdU, OrdL. -/
import Derived.Test.YtffckpkikdlbpaaGreatDoorZvAa
import Derived.RangeFuncOwn
import Derived.RangeFuncLeaves
import Derived.StillTailTactics
import Derived.Deep.DeepCutAuto
import Derived.Deep.RegionHeld3
import Derived.Deep.AppendLies
import Derived.Sort.QuietTacIn
import Derived.LoopN
import Derived.RangeFuncCalls
import Derived.Orders
set_option linter.all false
set_option maxHeartbeats 16000000
namespace Go.Proofs.YtffckpkikdlbpaaGreatDoor
section
open Go.RowKit
structure RX (M : (Nat → Bool) → World → Prop) (a0 : Act) (sl : List Nat) (v : List Value) (L : Nat → Bool) (a : Act) (w : World) : Prop where
 m : M L w
 df : a.defers = a0.defers
 sz : a.tmps.size = a0.tmps.size
 old : ∀ j, j ∉ sl → a.tmps.getD j undef = a0.tmps.getD j undef
 new : ∀ i, L i = true → ∀ k, sl[i]? = some k → a.tmps.getD k undef = v.getD i undef
theorem RX.put {M : (Nat → Bool) → World → Prop} {w w' : World} {a0 a : Act} {sl : List Nat} {v : List Value} {L : Nat → Bool} (h : RX M a0 sl v L a w) (i k : Nat) (hi : sl[i]? = some k) (hn : sl.Nodup) (hk : k < a0.tmps.size) (hm : M (fun j => j == i || L j) w') {u : Value} (hu : v.getD i undef = u) : RX M a0 sl v (fun j => j == i || L j) (a.put (some k) u) w' := by
 have r : RV w a0 sl v L a w := ⟨Kp.refl _, h.df, h.sz, h.old, h.new⟩
 have r2 := r.put i k hi hn hk (Kp.refl _) hu
 exact ⟨hm, r2.df, r2.sz, r2.old, r2.new⟩
theorem RX.done {M : (Nat → Bool) → World → Prop} {w w' : World} {a0 a : Act} {sl : List Nat} {v : List Value} {L : Nat → Bool} (h : RX M a0 sl v L a w) (i k : Nat) (hi : sl[i]? = some k) (hn : sl.Nodup) (hk : a0.tmps.size ≤ k) (hm : M (fun j => j == i || L j) w') (hu : v.getD i undef = undef) : RX M a0 sl v (fun j => j == i || L j) (a.put none undef) w' := by
 refine ⟨hm, h.df, h.sz, h.old, fun j hj m hj2 => ?_⟩
 show a.tmps.getD m undef = _
 by_cases e : j = i
 ·subst e
  rw [hi] at hj2
  injection hj2 with hj2
  subst hj2
  rw [hu, Array.getD_eq_getD_getElem?, Array.getElem?_eq_none (by rw [h.sz]; exact hk)]
  rfl
 ·refine h.new j ?_ m hj2
  simpa [e] using hj
theorem vlS {id : Nat} {P : Program} {Q : Exit → Act → World → Prop} {a0 : Act} {w : World} {l : List Oper} (M : (Nat → Bool) → World → Prop) (sl : List Nat) (v : List Value) (hm : P.follows .mixedOrders = true) (hb : backB .any l.toArray = true) (h0 : M (fun _ => false) w.drew)
  (step : ∀ (i : Nat) (o : Oper) (L : Nat → Bool) (a : Act) (w' : World), l[i]? = some o → (∀ j, j ∈ o.after.toList.map (·.on) → (∀ e ∈ o.after.toList, e.on = j → Region.binds .any e = true) → L j = true) → RX M a0 sl v L a w' →
   ∀ K : Act → World → Prop, (∀ a' w', RX M a0 sl v (fun j => j == i || L j) a' w' → K a' w') → if Region.wanted o (yielded l.toArray a.tmps) = true then Oper.wp P o a w' K Q else K (a.put o.dst undef) w')
  (fin : ∀ L a w', (∀ i, i < l.length → L i = true) → M L w' → a.defers = a0.defers → a.tmps.size = a0.tmps.size → (∀ j, j ∉ sl → a.tmps.getD j undef = a0.tmps.getD j undef) → (∀ i, i < l.length → ∀ k, sl[i]? = some k → a.tmps.getD k undef = v.getD i undef) → Q .normal a w') : (Code.region id l.toArray true).wp P Q a0 w :=
 vca hm (RX M a0 sl v) hb (fun i o L a w' ho _ hd hG K hK => step i o L a w' ho (fun j hj hb => by
  obtain ⟨e, he, rfl⟩ := List.mem_map.1 hj
  exact hd e (Array.mem_toList_iff.1 he) (hb e he rfl)) hG K hK) (fun L a w' hL hG => fin L a w' hL hG.m hG.df hG.sz hG.old (fun i hi => hG.new i (hL i hi))) ⟨h0, rfl, rfl, fun _ _ => rfl, fun _ h => by cases h⟩
def Iter (P : Program) (gf : FuncId) (caps : Array Value) (N : Nat) (xs : Nat → Array Value) (M : World → Prop) : Prop :=
 ∀ (l : Nat) (I Z : Nat → World → Prop) (W : World),
  (∀ k W W', I k W → Kp W W' → I k W') → (∀ k W W', Z k W → Kp W W' → Z k W') → (∀ k W, I k W → M W) →
  (∀ k W, k < N → I k W → ∃ fn tmps assign body, (Instr.yield l (xs k)).run P W = .ok (.round l fn tmps assign body) W ∧
   RoundIn Fence.wide 0 P l fn tmps assign body W (fun e W' => (e = .returned (.bool true) ∧ I (k + 1) W') ∨ (e = .returned (.bool false) ∧ Z (k + 1) W'))) →
  I 0 W → Calls P gf (#[.func (.yield l) #[] #[]] ++ caps) W (fun e W' => e = .returned (.tuple #[]) ∧ (I N W' ∨ ∃ k, 0 < k ∧ k ≤ N ∧ Z k W'))
def Kept2 (w W W' : World) : Prop := W'.heap[w.heap.size]? = W.heap[w.heap.size]? ∧ W'.heap[w.heap.size + 1]? = W.heap[w.heap.size + 1]?
def rndPost (w : World) (I : Nat → World → Prop) (Ix : Code → Nat → World → Prop) (k : Nat) (W : World) : Exit → Act → World → Prop
 | .normal, _, W' => Kept2 w W W' ∧ I k W'
 | .ret, _, W' => Kept2 w W W' ∧ Ix .ret k W'
 | .exit id, _, W' => Kept2 w W W' ∧ Ix (.exit id) k W'
 | .goto t, _, W' => Kept2 w W W' ∧ Ix (.goto t) k W'
 | .panic _, _, _ => False
 | .outgrown, _, _ => False
theorem Only.putObj {bs : List Nat} {a w : World} (h : Only bs a w) {r : Nat} (hr : r ∈ bs) (o : Obj) : Only bs a (w.putObj r o) :=
 ⟨h.os, h.tape, h.output, by simpa using h.size, fun k hk hn => (World.putObj_heap_other (fun e => hn (by rw [e]; exact hr))).trans (h.block k hk hn)⟩
def Takes : List Deferred → World → (World → Prop) → Prop
 | [], w, K => K w
 | d :: ds, w, K => ∃ r, d.target = .collected r ∧ w.heap[r]? = some (.deferred (some [])) ∧ Takes ds (w.putObj r (.deferred none)) K
theorem vbN {P : Program} {K : World → Prop} : ∀ (ds : List Deferred) (fr : Frame) (cs : List Frame) (w : World), fr.mode = .returning → fr.defers = ds → Takes ds w K →
  ∃ w', K w' ∧ Steps P (lone fr cs w) (lone { fr with defers := [] } cs w')
 | [], fr, cs, w, _, hd, h => ⟨w, h, by
   have : ({ fr with defers := [] } : Frame) = fr := by cases fr; simp_all
   rw [this]; exact Steps.refl P _⟩
 | d :: ds, fr, cs, w, hm, hd, ⟨r, ht, hr, h⟩ => by
  obtain ⟨w', hK, hs⟩ := vbN ds { fr with defers := [] ++ ds } cs _ hm rfl h
  exact ⟨w', hK, Steps.head (step_collected (by rw [hm]; simp) hd ht (run_takeDeferred hr)) hs⟩
def bodyPostM (P : Program) (fn : Func) (R : Ending → World → Prop) : Exit → Act → World → Prop
 | .normal, a, w | .ret, a, w => Takes a.defers w (fun w' => ∃ v, (results fn a.tmps).run P w' = .ok v w' ∧ R (.returned v) w')
 | .outgrown, _, w => R .outgrown w
 | _, _, _ => False
theorem calls_of_wp_marks {P : Program} {f : FuncId} {fn : Func} {c : Code} {args : Array Value} {w : World} {R : Ending → World → Prop}
  (hf : P.funcs[f]? = some fn) (hb : fn.body = some c)
  (h : c.wp P (bodyPostM P fn R) { tmps := args ++ Array.replicate (fn.ntmps - args.size) undef, defers := [] } w) : Calls P f args w R := by
 intro cs
 let b : Frame := { (default : Frame) with fn := f, kind := .normal }
 have henter : Frame.enter P f args .normal = b.at { tmps := args ++ Array.replicate (fn.ntmps - args.size) undef, defers := [] } [.code c] := by
  simp [Frame.enter, Frame.at, hf, hb, b]
 obtain ⟨e, a', w', hq, harr⟩ := h b [] cs
 rw [← henter] at harr
 cases e with
 | normal =>
  obtain ⟨w2, ⟨v, hr, hR⟩, hs⟩ := vbN (P := P) a'.defers { b.at a' [] with mode := .returning } cs w' rfl rfl hq
  exact ⟨.returned v, w2, _, hR, Steps.trans harr (.head step_end hs), rfl, rfl, rfl, rfl, fn, hf, hr⟩
 | ret =>
  obtain ⟨todo, hs0⟩ := harr
  obtain ⟨w2, ⟨v, hr, hR⟩, hs⟩ := vbN (P := P) a'.defers { b.at a' todo with mode := .returning } cs w' rfl rfl hq
  exact ⟨.returned v, w2, _, hR, Steps.trans hs0 hs, rfl, rfl, rfl, rfl, fn, hf, hr⟩
 | panic chain => exact hq.elim
 | exit id => exact hq.elim
 | goto l => exact hq.elim
 | outgrown => exact ⟨.outgrown, w', b, hq, harr.resolve_left (by simp [b]), rfl, trivial⟩
theorem vhH {P : Program} {id : Nat} {Q : Exit → Act → World → Prop} {a : Act} {w : World} {l : List Oper} (n : Nat) (hm : P.follows .mixedOrders = true) (hB : Region.lexTailB .any l.toArray n = true)
  (h : ∀ W, W = w.drew → wpStill P l.toArray W (fun a' => wpList P l.toArray Q (l.drop n) a' W) (l.take n) a) : (Code.region id l.toArray true).wp P Q a w :=
 wp_region_still_tail n hm hB (h _ rfl)
theorem vhI {α : Type} {enc : α → List Value} {P : Program} {t e e' : TypeId} {z : Value} {size bytes : Nat} (E : ElemOf P t e z size bytes) {w : World} {ops : Array Oper} {o : Oper} {a : Act} {K : Act → World → Prop} {Q : Exit → Act → World → Prop} {X : Prop}
  (hgd : o.guard = none) (s x : Operand) (ho : o.op = .call { callee := .builtin .append, args := #[s, x], argTypes := #[t, t] })
  {base : Nat} {v : Value} {xs : List α} {news : List Value} (y : α) (hs : a.eval s = v) (hown : Own w base e size enc v xs) (hbase : base ≤ w.heap.size)
  {N : Nat} (hx : a.eval x = .slice (some ⟨N, 0, none⟩) 1 1) (hB : Blk w N e' news.toArray) (hnews : news = enc y) (hl : news.length = size) (h1 : news.all (fun u => u.oneCell') = true) (hfit : (xs.length + 1) * (bytes + 1) ≤ 140737488355328)
  (h : ∀ g cap w', Own w' base e size enc (.slice (some ⟨g, 0, none⟩) (xs.length + 1) cap) (xs ++ [y]) → w.grownBy w' v.ownBlock → (v.ownBlock = some g ∨ g = w.heap.size) → K (a.put o.dst (.slice (some ⟨g, 0, none⟩) (xs.length + 1) cap)) w') :
  if Region.wanted o (yielded ops a.tmps) = true then Oper.wp P o a w K Q else X := by
 obtain ⟨ht, hinfo, hzs, hsz⟩ := E
 obtain ⟨i, hi, hz, hsize, hby⟩ := info_parts hinfo
 have hb2 : (xs.length + 1) * (bytes + 1) = (xs.length + 1) * bytes + (xs.length + 1) := by rw [Nat.mul_add, Nat.mul_one]
 refine step_append_lies _ hgd s x t ho base e i z size bytes ht hi hz hsize hby hzs hsz v xs.length (xs.flatMap enc) hs hown ⟨N, 0, none⟩ 1 1 news hx (by omega) (fun j u hu => World.news_of_block hB j u (by simpa using hu)) (by simpa using h1) (by omega) (by simp only [maxLen]; omega) (by omega) hbase _ rfl ?_
 intro g cap w' ho' hg hat _
 refine h g cap w' ?_ hg hat
 unfold Own
 rw [List.length_append, List.flatMap_append, List.length_singleton, List.flatMap_cons, List.flatMap_nil, List.append_nil, ← hnews]
 exact ho'
def noDefer (ops : Array Oper) : Bool := ops.toList.all (fun o => match o.op with | .defer _ => false | _ => true)
theorem vey {ops : Array Oper} (h : noDefer ops = true) {i : Nat} {o : Oper} (hi : ops[i]? = some o) : ∀ c, o.op ≠ .defer c := by
 intro c hc
 have hm : o ∈ ops.toList := by
  rw [Array.mem_toList_iff]
  exact Array.mem_of_getElem? hi
 have := List.all_eq_true.1 h o hm
 rw [hc] at this
 cases this
theorem vdw {l : Nat} {P : Program} {ops : Array Oper} {Q : Exit → Act → World → Prop} (hQ : ¬ LetsOut Q) (hnd : noDefer ops = true) {i : Nat} {K : Act → World → Prop} {a : Act} {w : World}
  (h : wpOp P ops Q i K a w) : wpOpIn (Fence.wide.inRound l) 0 P ops Q i K a w := by
 unfold wpOp at h
 unfold wpOpIn
 cases ho : ops[i]? with
 | none => rw [ho] at h; exact h
 | some o =>
  rw [ho] at h
  simp only at h ⊢
  split
  ·rename_i hw
   rw [if_pos hw] at h
   rcases h with h | h
   ·refine ⟨fun _ _ => trivial, ?_⟩
    rw [Oper.semAt_eq _ _ _ (vey hnd ho)]
    unfold Oper.wp at h
    generalize (execOp a.eval o).run P w = r at h
    unfold Oper.upon at h
    unfold Oper.uponIn
    split at h
    ·exact h
    ·exact h
    ·exact h
    ·exact ⟨(fun h => by cases h), CallsIn.inRound l (callsIn_wide.2 (h.mono fun e w'' hh => by cases e <;> exact hh))⟩
    ·exact ⟨(fun h => by cases h), fun c cs _ => let ⟨v, w', r, s⟩ := h c cs; ⟨v, w', r, stepsIn_wide.2 s⟩⟩
    ·exact h
    ·exact h.elim
   ·exact absurd h.2 hQ
  ·rename_i hw
   rw [if_neg hw] at h
   exact ⟨fun _ _ => trivial, h⟩
theorem vbm {l : Nat} {P : Program} {ops : Array Oper} {Q : Exit → Act → World → Prop} (hQ : ¬ LetsOut Q) (hnd : noDefer ops = true) {md : Region.Mode} : ∀ (fuel : Nat) (listed : Array Bool) (a : Act) (w : World),
  wpAny P md ops Q fuel listed a w → wpAnyIn (Fence.wide.inRound l) 0 P md ops Q fuel listed a w
 | 0, _, _, _, h => h
 | fuel + 1, listed, a, w, h => ⟨h.1, fun i hi => wpOpIn_mono (fun a w hh => vbm hQ hnd fuel _ a w hh) (vdw hQ hnd (h.2 i hi))⟩
theorem vgA {P : Program} {Q : Exit → Act → World → Prop} {a : Act} {W : World} {l : List Oper} (n : Nat) (hB : Region.lexTailB .any l.toArray n = true)
  (h : wpStill P l.toArray W (fun a' => wpList P l.toArray Q (l.drop n) a' W) (l.take n) a) : wpAny P .any l.toArray Q l.toArray.size (Array.replicate l.toArray.size false) a W := by
 simp only [Region.lexTailB, Bool.and_eq_true, decide_eq_true_eq] at hB
 obtain ⟨⟨⟨⟨h1, h2⟩, h3⟩, h4⟩, h5⟩ := hB
 have e0 : n < l.length := by simpa using h2
 have e1 : (l.take n).length = n := by rw [List.length_take]; omega
 have e2 : (l.drop n).length = l.toArray.size - n := by rw [List.length_drop, List.size_toArray]
 have start : HeadInv .any l.toArray n (Array.replicate l.toArray.size false) := ⟨by simp, fun j _ _ hl => (by rw [getD_replicate_false] at hl; cases hl), fun t _ ht => getD_in (by simpa using ht) (getD_replicate_false _ _)⟩
 have hl : ∀ j, j < (l.take n).length → (l.take n)[j]? = l.toArray[0 + j]? := fun j hj => by
  rw [e1] at hj; simp [hj]
 have head := wpAnyL_lex (md := .any) (g := l.toArray.size - n) h1 h3 h4 h2 (l.take n) 0 _ a hl (by omega) start (by rw [e1]; exact h5) h
 have all := wpAny_of_head (Q' := Q) (g := l.toArray.size - n) (fun listed a' hL => by
  have t := wpAny_of_seq (md := .any) (Q' := Q) (l.drop n) n listed a' W (fun j => by simp [List.getElem?_drop]) (by rw [e2]; exact hL.1) hL.2
  rw [e2] at t; exact t) _ _ _ head
 rw [e1, show n + (l.toArray.size - n) = l.toArray.size by omega] at all
 exact all
theorem vgB {r id : Nat} {P : Program} {Q : Exit → Act → World → Prop} {a : Act} {w : World} {l : List Oper} (n : Nat) (hm : P.follows .mixedOrders = true) (hB : Region.lexTailB .any l.toArray n = true) (hnd : noDefer l.toArray = true) (hQ : ¬ LetsOut Q)
  (h : ∀ W, W = w.drew → wpStill P l.toArray W (fun a' => wpList P l.toArray Q (l.drop n) a' W) (l.take n) a) : (Code.region id l.toArray true).wpIn (Fence.wide.inRound r) 0 P Q a w :=
 wpIn_region_any hm (vbm hQ hnd _ _ _ _ (vgA n hB (h _ rfl)))
theorem vlz {Q : Exit → Act → World → Prop} {K : Act → World → Prop} (h : ¬ LetsOut Q) : ¬ LetsOut (Exit.then K Q) := fun ⟨a, w, hh⟩ => h ⟨a, w, hh⟩
theorem vcK {Q : Exit → Act → World → Prop} {id : Nat} (h : ¬ LetsOut Q) : ¬ LetsOut (Exit.inBlock id Q) := fun ⟨a, w, hh⟩ => h ⟨a, w, hh⟩
theorem vez {w : World} {I : Nat → World → Prop} {Ix : Code → Nat → World → Prop} {k : Nat} {W : World} : ¬ LetsOut (rndPost w I Ix k W) := fun ⟨_, _, hh⟩ => hh
theorem vaf {l : Nat} {P : Program} {ops : Array Oper} {Q : Exit → Act → World → Prop} (hQ : ¬ LetsOut Q) : ∀ (rest : List Oper) (a : Act) (w : World), rest.all (fun o => match o.op with | .defer _ => false | _ => true) = true →
  wpList P ops Q rest a w → wpListIn (Fence.wide.inRound l) 0 P ops Q rest a w
 | [], _, _, _, h => h
 | o :: rest, a, w, hnd, h => by
  have hnd' := List.all_eq_true.1 hnd
  have hr : rest.all (fun o => match o.op with | .defer _ => false | _ => true) = true := List.all_eq_true.2 (fun x hx => hnd' x (List.mem_cons_of_mem _ hx))
  have ho : ∀ c, o.op ≠ .defer c := fun c hc => by
   have := hnd' o (by simp)
   rw [hc] at this; cases this
  unfold wpList at h
  unfold wpListIn
  split
  ·rename_i hw
   rw [if_pos hw] at h
   rcases h with h | h
   ·refine ⟨fun _ _ => trivial, ?_⟩
    rw [Oper.semAt_eq _ _ _ ho]
    unfold Oper.wp at h
    generalize (execOp a.eval o).run P w = r at h
    unfold Oper.upon at h
    unfold Oper.uponIn
    split at h
    ·exact vaf hQ rest _ _ hr h
    ·exact vaf hQ rest _ _ hr h
    ·exact vaf hQ rest _ _ hr h
    ·refine ⟨(fun h => by cases h), CallsIn.inRound l (callsIn_wide.2 (h.mono fun e w'' hh => ?_))⟩
     cases e with
     | returned v => exact vaf hQ rest _ _ hr hh
     | panicked ch => exact hh
     | outgrown => exact hh
    ·refine ⟨(fun h => by cases h), fun c cs _ => ?_⟩
     obtain ⟨v, w', r, s⟩ := h c cs
     exact ⟨v, w', vaf hQ rest _ _ hr r, stepsIn_wide.2 s⟩
    ·exact h
    ·exact h.elim
   ·exact absurd h.2 hQ
  ·rename_i hw
   rw [if_neg hw] at h
   exact ⟨fun _ _ => trivial, vaf hQ rest _ _ hr h⟩
theorem vgC {r id : Nat} {P : Program} {Q : Exit → Act → World → Prop} {a : Act} {w : World} {l : List Oper} (hnd : l.all (fun o => match o.op with | .defer _ => false | _ => true) = true) (hQ : ¬ LetsOut Q)
  (h : wpList P l.toArray Q l a w) : (Code.region id l.toArray false).wpIn (Fence.wide.inRound r) 0 P Q a w :=
 wpIn_region_lit (vaf hQ l a w hnd h)
def boolIs (x : Value) (b : Bool) : Bool := match x with
 | .bool c => c == b
 | _ => false
def wantV (v : List Value) (o : Oper) : Bool := match o.guard with
 | none => true
 | some (g, b) => boolIs (v.getD g undef) b
def depsB (o : Oper) (j : Nat) : Bool := o.after.toList.any (fun e => e.on == j) && o.after.toList.all (fun e => e.on != j || Region.binds .any e)
def guardB (o : Oper) : Bool := match o.guard with
 | none => true
 | some (g, _) => depsB o g
theorem vcx {o : Oper} {j : Nat} (h : depsB o j = true) : j ∈ o.after.toList.map (·.on) ∧ ∀ e ∈ o.after.toList, e.on = j → Region.binds .any e = true := by
 unfold depsB at h
 rw [Bool.and_eq_true, List.any_eq_true, List.all_eq_true] at h
 obtain ⟨⟨e, he, h1⟩, h2⟩ := h
 refine ⟨List.mem_map.2 ⟨e, he, by simpa using h1⟩, fun e he hj => ?_⟩
 have := h2 e he
 rw [hj] at this
 simpa using this
theorem vhJ {ops : Array Oper} {o : Oper} {t : Array Value} {g k : Nat} {b : Bool} {x : Value} (hg : o.guard = some (g, b)) (hk : (ops[g]?).bind (·.dst) = some k) (ht : t.getD k undef = x) : Region.wanted o (yielded ops t) = boolIs x b := by
 have e : (t[k]? = none ∧ x = undef) ∨ t[k]? = some x := by
  rw [Array.getD_eq_getD_getElem?] at ht
  cases e : t[k]? with
  | none => rw [e] at ht; exact .inl ⟨rfl, ht.symm⟩
  | some y => rw [e] at ht; exact .inr (by rw [← ht]; rfl)
 unfold Region.wanted yielded
 rw [hg]
 simp only [hk, Option.bind_some]
 rcases e with ⟨e, rfl⟩ | e
 ·rw [e]
  rfl
 ·rw [e]
  cases x <;> first | rfl | simp [boolIs]
theorem but1 {v v' : List Value} {L : Nat → Bool} {i : Nat} {u : Value} (hi : L i = false) (e : v' = v.set i u) : ∀ j, L j = true → v'.getD j undef = v.getD j undef := fun j hj => by
 have hne : i ≠ j := fun z => by rw [← z, hi] at hj; cases hj
 rw [e, List.getD_eq_getElem?_getD, List.getD_eq_getElem?_getD, List.getElem?_set_ne hne]
theorem but2 {v v' : List Value} {L : Nat → Bool} {i k : Nat} {u u2 : Value} (hi : L i = false) (hk : L k = false) (e : v' = (v.set i u).set k u2) : ∀ j, L j = true → v'.getD j undef = v.getD j undef := fun j hj => by
 have hne : i ≠ j := fun z => by rw [← z, hi] at hj; cases hj
 have hne2 : k ≠ j := fun z => by rw [← z, hk] at hj; cases hj
 rw [e, List.getD_eq_getElem?_getD, List.getD_eq_getElem?_getD, List.getElem?_set_ne hne2, List.getElem?_set_ne hne]
theorem vac {l : List Oper} {L : Nat → Bool} {i j : Nat} (o : Oper) (hcl : ∀ i2 o2 j, l[i2]? = some o2 → L i2 = true → depsB o2 j = true → L j = true) (ho : l[i]? = some o) (hd : depsB o j = true) (hj : L j = false) : L i = false := by
 cases e : L i with
 | false => rfl
 | true => rw [hcl i o j ho e hd] at hj; cases hj
structure RU (M : (Nat → Bool) → World → Prop) (a0 : Act) (sl : List Nat) (v : List Value) (L : Nat → Bool) (a : Act) (w : World) : Prop where
 x : RX M a0 sl v L a w
 und : ∀ i, L i = false → ∀ k, sl[i]? = some k → a.tmps.getD k undef = a0.tmps.getD k undef
def dstB (n : Nat) (d : Option Nat) (s : Nat) : Bool := match d with
 | some k => k == s && decide (s < n)
 | none => decide (n ≤ s)
theorem RU.to {M M' : (Nat → Bool) → World → Prop} {w w' : World} {a0 a : Act} {sl : List Nat} {v v' : List Value} {L : Nat → Bool} (h : RU M a0 sl v L a w) (i k : Nat) (d : Option Nat) (hi : sl[i]? = some k) (hn : sl.Nodup) (hd : dstB a0.tmps.size d k = true) (hm : M' (fun j => j == i || L j) w') (hv : ∀ j, L j = true → v'.getD j undef = v.getD j undef) {u : Value} (hu : v'.getD i undef = u) (h0 : d = none → v'.getD i undef = undef) : RU M' a0 sl v' (fun j => j == i || L j) (a.put d u) w' := by
 have r0 : RX (fun _ _ => True) a0 sl v' L a w := ⟨trivial, h.x.df, h.x.sz, h.x.old, fun j hj m hm => (h.x.new j hj m hm).trans (hv j hj).symm⟩
 cases d with
 | none =>
  have hk : a0.tmps.size ≤ k := of_decide_eq_true hd
  have r1 := r0.done i k hi hn hk (w' := w') trivial (h0 rfl)
  refine ⟨⟨hm, r1.df, r1.sz, r1.old, r1.new⟩, fun j hj m hm => ?_⟩
  have hj2 : L j = false := by
   rw [Bool.or_eq_false_iff] at hj
   exact hj.2
  exact h.und j hj2 m hm
 | some q =>
  have hd2 : q = k ∧ k < a0.tmps.size := by
   have : (q == k && decide (k < a0.tmps.size)) = true := hd
   simpa using this
  obtain ⟨rfl, hk⟩ := hd2
  have r1 := r0.put i q hi hn hk (w' := w') trivial hu
  refine ⟨⟨hm, r1.df, r1.sz, r1.old, r1.new⟩, fun j hj m hm => ?_⟩
  have hj2 : j ≠ i ∧ L j = false := by simpa using hj
  have hne : m ≠ q := fun z => by
   subst z
   obtain ⟨h1, h2⟩ := List.getElem?_eq_some_iff.1 hi
   obtain ⟨h3, h4⟩ := List.getElem?_eq_some_iff.1 hm
   have hp := List.pairwise_iff_getElem.1 hn
   rcases Nat.lt_or_ge j i with hl | hl
   ·exact hp j i h3 h1 hl (by rw [h2, h4])
   ·exact hp i j h1 h3 (by have := hj2.1; omega) (by rw [h2, h4])
  show (a.tmps.setIfInBounds q u).getD m undef = _
  rw [← h.und j hj2.2 m hm]
  simp only [Array.getD_eq_getD_getElem?]
  rw [Array.getElem?_setIfInBounds_ne (fun z => hne z.symm)]
theorem vdU {Z : Type} {id : Nat} {P : Program} {Q : Exit → Act → World → Prop} {a0 : Act} {w : World} {l : List Oper} (M : Z → (Nat → Bool) → World → Prop) (sl : List Nat) (v : Z → List Value) (U : List Bool) (hm : P.follows .mixedOrders = true) (hb : backB .any l.toArray = true) (hg : l.all guardB = true) (hd : (List.zipWith (dstB a0.tmps.size) (l.map (·.dst)) sl).all (fun b => b) = true) (hl : sl.length = l.length) (hvl : ∀ z, sl.length = (v z).length) (hn : sl.Nodup) (hU : ∀ z, l.map (wantV (v z)) = U) (hV : ∀ z, List.zipWith (fun b x => if b = true then undef else x) (List.zipWith (fun (o : Oper) b => b && o.dst.isSome) l U) (v z) = List.replicate l.length undef) (z0 : Z) (h0 : M z0 (fun _ => false) w.drew)
  (skip : ∀ z i L w', i < l.length → U.getD i true = false → L i = false → M z L w' → M z (fun j => j == i || L j) w')
  (step : ∀ (z : Z) (i : Nat) (o : Oper) (L : Nat → Bool) (a : Act) (w' : World), l[i]? = some o → wantV (v z) o = true → L i = false → (∀ j, depsB o j = true → L j = true) → (∀ i2 o2 j, l[i2]? = some o2 → L i2 = true → depsB o2 j = true → L j = true) →
   (∀ j, depsB o j = true → a.tmps[sl.getD j 0]?.getD undef = (v z).getD j undef) → (∀ j, j ∉ sl → a.tmps[j]?.getD undef = a0.tmps.getD j undef) → (∀ j, j < sl.length → L j = false → a.tmps[sl.getD j 0]?.getD undef = a0.tmps.getD (sl.getD j 0) undef) → M z L w' →
   ∀ K : Act → World → Prop, (∀ z' u w'', M z' (fun j => j == i || L j) w'' → (∀ j, L j = true → (v z').getD j undef = (v z).getD j undef) → (v z').getD i undef = u → K (a.put o.dst u) w'') → Oper.wp P o a w' K Q)
  (fin : ∀ z L w', (∀ i, i < l.length → L i = true) → M z L w' → Q .normal { tmps := wrS a0.tmps (sl.zip (v z)), defers := a0.defers } w') : (Code.region id l.toArray true).wp P Q a0 w := by
 have hslot : ∀ (i : Nat) (o : Oper), l[i]? = some o → ∃ k, sl[i]? = some k ∧ dstB a0.tmps.size o.dst k = true := fun i o ho => by
  have hil := (List.getElem?_eq_some_iff.1 ho).1
  have hsl : i < sl.length := by omega
  refine ⟨sl[i], List.getElem?_eq_getElem hsl, ?_⟩
  have h1 : (List.zipWith (dstB a0.tmps.size) (l.map (·.dst)) sl)[i]? = some (dstB a0.tmps.size o.dst sl[i]) := by
   rw [List.getElem?_zipWith, List.getElem?_map, ho, List.getElem?_eq_getElem hsl]
   rfl
  exact List.all_eq_true.1 hd _ (List.mem_of_getElem? h1)
 have hUi : ∀ z (i : Nat) (o : Oper), l[i]? = some o → U[i]? = some (wantV (v z) o) := fun z i o ho => by rw [← hU z, List.getElem?_map, ho]; rfl
 have hund : ∀ z (i : Nat) (o : Oper), l[i]? = some o → (wantV (v z) o && o.dst.isSome) = false → (v z).getD i undef = undef := fun z i o ho hf => by
  have hil := (List.getElem?_eq_some_iff.1 ho).1
  have h1 := congrArg (fun t => t[i]?) (hV z)
  simp only [List.getElem?_zipWith, ho, hUi z i o ho] at h1
  have hiv : i < (v z).length := by have := hvl z; omega
  rw [List.getElem?_eq_getElem hiv] at h1
  simp [hf, hil] at h1
  simp [hiv, h1]
 refine vca hm (fun L a w' => (∀ i o, l[i]? = some o → L i = true → ∀ e ∈ o.after.toList, Region.binds .any e = true → L e.on = true) ∧ ∃ z, RU (M z) a0 sl (v z) L a w') hb (fun i o L a w' ho hLi hdep hG K hK => ?_) (fun L a w' hL hG => ?_) ⟨fun _ _ _ h => (by cases h), z0, ⟨⟨h0, rfl, rfl, fun _ _ => rfl, fun _ h => (by cases h)⟩, fun _ _ _ _ => rfl⟩⟩
 ·obtain ⟨hc, z, hR⟩ := hG
  obtain ⟨k, hk, hok⟩ := hslot i o ho
  have hc2 : ∀ i2 o2, l[i2]? = some o2 → (i2 == i || L i2) = true → ∀ e ∈ o2.after.toList, Region.binds .any e = true → (e.on == i || L e.on) = true := fun i2 o2 ho2 hL2 e he hbd => by
   by_cases e2 : i2 = i
   ·subst e2
    rw [ho] at ho2
    cases ho2
    simp [hdep e (Array.mem_toList_iff.1 he) hbd]
   ·have : L i2 = true := by simpa [e2] using hL2
    simp [hc i2 o2 ho2 this e he hbd]
  have hdeps : ∀ j, depsB o j = true → L j = true := fun j hj => by
   obtain ⟨d1, d2⟩ := vcx hj
   obtain ⟨e, he, rfl⟩ := List.mem_map.1 d1
   exact hdep e (Array.mem_toList_iff.1 he) (d2 e he rfl)
  have hjl : ∀ j, depsB o j = true → j < sl.length := fun j hj => by
   obtain ⟨d1, d2⟩ := vcx hj
   obtain ⟨e, he, hj2⟩ := List.mem_map.1 d1
   have h3 := vfS hb (i := i) (o := o) (by simpa using ho) e (Array.mem_toList_iff.1 he) (d2 e he hj2)
   have h4 := (List.getElem?_eq_some_iff.1 ho).1
   omega
  have hgo := List.all_eq_true.1 hg o (List.mem_of_getElem? ho)
  have hwant : Region.wanted o (yielded l.toArray a.tmps) = wantV (v z) o := by
   cases eg : o.guard with
   | none =>
    rw [vak eg]
    unfold wantV
    rw [eg]
   | some gb =>
    obtain ⟨g, b⟩ := gb
    unfold guardB at hgo
    rw [eg] at hgo
    have hgl := hjl g hgo
    have hgl2 : g < l.length := by omega
    obtain ⟨kg, hkg, hog⟩ := hslot g l[g] (List.getElem?_eq_getElem hgl2)
    cases ed : (l[g]).dst with
    | none =>
     have hvu := hund z g l[g] (List.getElem?_eq_getElem hgl2) (by rw [ed]; simp)
     have hk2 : (l.toArray[g]?).bind (·.dst) = none := by simp [hgl2, ed]
     unfold Region.wanted yielded wantV
     rw [eg]
     simp only [hk2, Option.bind_none]
     rw [hvu]
     rfl
    | some q =>
     have hq : q = kg := by
      rw [ed] at hog
      have : (q == kg && decide (kg < a0.tmps.size)) = true := hog
      simp only [Bool.and_eq_true, beq_iff_eq] at this
      exact this.1
     subst hq
     have hk2 : (l.toArray[g]?).bind (·.dst) = some q := by simp [hgl2, ed]
     rw [vhJ eg hk2 (hR.x.new g (hdeps g hgo) q hkg)]
     unfold wantV
     rw [eg]
  rw [hwant]
  cases hw : wantV (v z) o with
  | true =>
   rw [if_pos rfl]
   refine step z i o L a w' ho hw hLi hdeps (fun i2 o2 j ho2 hL2 hj => ?_) (fun j hj => ?_) (fun j hj => vaA (hR.x.old j hj)) (fun j hj hLj => ?_) hR.x.m K (fun z' u w'' hm2 hv hu => ?_)
   ·obtain ⟨d1, d2⟩ := vcx hj
    obtain ⟨e, he, rfl⟩ := List.mem_map.1 d1
    exact hc i2 o2 ho2 hL2 e he (d2 e he rfl)
   ·have hsj : sl[j]? = some (sl.getD j 0) := by rw [List.getD_eq_getElem?_getD, List.getElem?_eq_getElem (hjl j hj)]; rfl
    exact vaA (hR.x.new j (hdeps j hj) _ hsj)
   ·have hsj : sl[j]? = some (sl.getD j 0) := by rw [List.getD_eq_getElem?_getD, List.getElem?_eq_getElem hj]; rfl
    exact vaA (hR.und j hLj _ hsj)
   ·exact hK _ _ ⟨hc2, z', hR.to i k o.dst hk hn hok hm2 hv hu (fun e => hund z' i o ho (by rw [e]; simp))⟩
  | false =>
   rw [if_neg (by simp)]
   have hil := (List.getElem?_eq_some_iff.1 ho).1
   have hz := hund z i o ho (by rw [hw]; rfl)
   exact hK _ _ ⟨hc2, z, hR.to i k o.dst hk hn hok (skip z i L w' hil (by rw [List.getD_eq_getElem?_getD, hUi z i o ho, hw]; rfl) hLi hR.x.m) (fun _ _ => rfl) hz (fun _ => hz)⟩
 ·obtain ⟨_, z, hR⟩ := hG
  rw [vly (hvl z) hn hR.x.df hR.x.sz hR.x.old (fun i hi => hR.x.new i (hL i (by omega)))]
  exact fin z L w' hL hR.x.m
def readB (n : Nat) (sl : List Nat) (o : Oper) : Operand → Bool
 | .tmp k => decide (k < n) && (List.range sl.length).all (fun j => sl.getD j 0 != k || depsB o j)
 | _ => true
def notSel (o : Oper) : Bool := match o.op with
 | .select _ _ => false
 | _ => true
def readsB (n : Nat) (sl : List Nat) (l : List Oper) (U : List Bool) : Bool := (l.zip U).all (fun p => !p.2 || (notSel p.1 && p.1.op.operands.toList.all (readB n sl p.1)))
theorem wrC (t : List Value) (k : Nat) (v : Value) (zs : List (Nat × Value)) : wrS t.toArray ((k, v) :: zs) = wrS (t.set k v).toArray zs := by
 show wrS (t.toArray.setIfInBounds k v) zs = _
 rw [List.setIfInBounds_toArray]
theorem wrN (t : Array Value) : wrS t [] = t := rfl
def allSt (St : Nat → Oper → Prop) : Nat → List Oper → List Bool → Prop
 | i, o :: l, true :: U => St i o ∧ allSt St (i + 1) l U
 | i, _ :: l, false :: U => allSt St (i + 1) l U
 | _, _, _ => True
theorem vdV {St : Nat → Oper → Prop} : ∀ (l : List Oper) (U : List Bool) (n i : Nat) (o : Oper), allSt St n l U → l[i]? = some o → U[i]? = some true → St (n + i) o
 | [], _, _, _, _, _, h, _ => by simp at h
 | _ :: _, [], _, _, _, _, _, h => by simp at h
 | x :: l, b :: U, n, 0, o, h, h1, h2 => by
  simp only [List.getElem?_cons_zero, Option.some.injEq] at h1 h2
  subst h1 h2
  exact h.1
 | x :: l, b :: U, n, i + 1, o, h, h1, h2 => by
  simp only [List.getElem?_cons_succ] at h1 h2
  have e : n + (i + 1) = n + 1 + i := by omega
  rw [e]
  cases b with
  | true => exact vdV l U (n + 1) i o h.2 h1 h2
  | false => exact vdV l U (n + 1) i o h h1 h2
theorem vag {Z : Type} {id : Nat} {P : Program} {Q : Exit → Act → World → Prop} {a0 : Act} {w : World} {l : List Oper} (M : Z → (Nat → Bool) → World → Prop) (sl : List Nat) (v : Z → List Value) (U : List Bool) (sp : List Nat) (hm : P.follows .mixedOrders = true) (hc : (backB .any l.toArray && (l.all guardB && ((List.zipWith (dstB a0.tmps.size) (l.map (·.dst)) sl).all (fun b => b) && (decide (sl.length = l.length) && (decide sl.Nodup && (readsB a0.tmps.size sl l U && sp.all (fun i => U.getD i true))))))) = true) (hvl : ∀ z, sl.length = (v z).length) (hU : ∀ z, l.map (wantV (v z)) = U) (hV : ∀ z, List.zipWith (fun b x => if b = true then undef else x) (List.zipWith (fun (o : Oper) b => b && o.dst.isSome) l U) (v z) = List.replicate l.length undef) (z0 : Z) (h0 : M z0 (fun _ => false) w.drew)
  (oth : ∀ z L L' w', (∀ j ∈ sp, L' j = L j) → M z L w' → M z L' w') {A : Z → Array Value} (hA : ∀ z, wrS a0.tmps (sl.zip (v z)) = A z)
  (step : allSt (fun i o => ∀ z L a w', L i = false → (∀ j, depsB o j = true → L j = true) → (∀ i2 o2 j, l[i2]? = some o2 → L i2 = true → depsB o2 j = true → L j = true) → M z L w' → (sp.contains i = false → M z (fun j => j == i || L j) w') → ∀ K : Act → World → Prop, (∀ z' u w'', M z' (fun j => j == i || L j) w'' → (∀ j, L j = true → (v z').getD j undef = (v z).getD j undef) → (v z').getD i undef = u → K (a.put o.dst u) w'') → o.upon P a K Q ((execOp (Act.eval { tmps := A z, defers := a0.defers }) o).run P w')) 0 l U)
  (fin : ∀ z L w', (∀ i, i < l.length → L i = true) → M z L w' → Q .normal { tmps := A z, defers := a0.defers } w') : (Code.region id l.toArray true).wp P Q a0 w := by
 simp only [Bool.and_eq_true] at hc
 obtain ⟨hb, hg, hd, hl, hn, hr, hsp⟩ := hc
 have hl := of_decide_eq_true hl
 have hn := of_decide_eq_true hn
 have keepM : ∀ z L w' i, i ∉ sp → M z L w' → M z (fun j => j == i || L j) w' := fun z L w' i hi hM => oth z L _ w' (fun j hj => by
  have : (j == i) = false := by simpa using fun e : j = i => hi (e ▸ hj)
  simp [this]) hM
 refine vdU M sl v U hm hb hg hd hl hvl hn hU hV z0 h0 (fun z i L w' hi hu hLi hM => ?_) (fun z i o L a w' ho hw hLi d hcl f hgo _ hM K hK => ?_) (fun z L w' hL hM => ?_)
 ·refine keepM z L w' i (fun hs => ?_) hM
  have := List.all_eq_true.1 hsp i hs
  rw [hu] at this
  cases this
 ·have hUi : U[i]? = some true := by rw [← hU z, List.getElem?_map, ho]; exact congrArg some hw
  have hS := vdV l U 0 i o step ho hUi
  rw [Nat.zero_add] at hS
  have hz : (o, true) ∈ l.zip U := by
   obtain ⟨h1, h2⟩ := List.getElem?_eq_some_iff.1 ho
   obtain ⟨h3, h4⟩ := List.getElem?_eq_some_iff.1 hUi
   exact List.mem_iff_getElem.2 ⟨i, by rw [List.length_zip]; omega, by rw [List.getElem_zip, h2, h4]⟩
  have hq := List.all_eq_true.1 hr _ hz
  simp only [Bool.not_true, Bool.false_or, Bool.and_eq_true] at hq
  obtain ⟨hns, hrd⟩ := hq
  have he : execOp a.eval o = execOp (Act.eval { tmps := A z, defers := a0.defers }) o := execOp_congr o (fun cs b e => by
   unfold notSel at hns
   rw [e] at hns
   cases hns) (fun x hx => by
   have h1 := List.all_eq_true.1 hrd x (Array.mem_toList_iff.2 hx)
   cases x with
   | tmp k =>
    unfold readB at h1
    rw [Bool.and_eq_true] at h1
    obtain ⟨h2, h3⟩ := h1
    have h2 := of_decide_eq_true h2
    show a.tmps.getD k undef = (A z).getD k undef
    rw [← hA z]
    simp only [Array.getD_eq_getD_getElem?]
    by_cases hk : k ∈ sl
    ·obtain ⟨j, hj, e⟩ := List.mem_iff_getElem.1 hk
     have h4 := List.all_eq_true.1 h3 j (List.mem_range.2 hj)
     have hgj : sl.getD j 0 = k := by rw [List.getD_eq_getElem?_getD, List.getElem?_eq_getElem hj, e]; rfl
     rw [hgj] at h4
     have h5 : depsB o j = true := by simpa using h4
     have h6 := f j h5
     rw [hgj] at h6
     have hjv : j < (v z).length := by rw [← hvl z]; exact hj
     have hm2 : (k, (v z)[j]) ∈ sl.zip (v z) := List.mem_iff_getElem.2 ⟨j, by rw [List.length_zip]; omega, by rw [List.getElem_zip, e]⟩
     have h7 := vhG (sl.zip (v z)) a0.tmps (by rw [List.map_fst_zip (by rw [hvl z]; exact Nat.le_refl _)]; exact hn) _ hm2 h2
     simp only at h7
     rw [h7, h6, List.getD_eq_getElem?_getD, List.getElem?_eq_getElem hjv]
    ·rw [vcb (sl.zip (v z)) a0.tmps (fun y hy e => hk (by subst e; exact (List.of_mem_zip hy).1)), hgo k hk, Array.getD_eq_getD_getElem?]
   | const _ => rfl
   | global _ => rfl
   | func _ => rfl)
  unfold Oper.wp
  rw [he]
  exact hS z L a w' hLi d hcl hM (fun hc => keepM z L w' i (fun hs => by
   rw [List.contains_iff_mem.2 hs] at hc
   cases hc) hM) K hK
 ·rw [hA z]
  exact fin z L w' hL hM
end

end Go.Proofs.YtffckpkikdlbpaaGreatDoor
