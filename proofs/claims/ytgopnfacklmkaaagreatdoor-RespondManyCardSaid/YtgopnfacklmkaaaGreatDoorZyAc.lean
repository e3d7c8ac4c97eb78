/- Lemmas and contracts for the theorem of this claim: Round2, OrdI, OrdZ, OrdU, OrdL, OctD, EnA. -/
import Derived.Test.YtgopnfacklmkaaaGreatDoorZyAb
import Derived.Orders
set_option linter.all false
set_option maxHeartbeats 16000000
namespace Go.Proofs.YtgopnfacklmkaaaGreatDoor
section
open Go.RowKit
theorem vad {l : Nat} {P : Program} {ops : Array Oper} {Q : Exit → Act → World → Prop} (hQ : ¬ LetsOut Q) : ∀ (rest : List Oper) (a : Act) (w : World), rest.all (fun o => match o.op with | .defer _ => false | _ => true) = true →
  wpList P ops Q rest a w → wpListIn (Fence.wide.inRound l) 0 P ops Q rest a w
 | [], _, _, _, h => h
 | o :: rest, a, w, hnd, h => by
  have hnd' := List.all_eq_true.1 hnd
  have hr : rest.all (fun o => match o.op with | .defer _ => false | _ => true) = true := List.all_eq_true.2 (fun x hx => hnd' x (List.mem_cons_of_mem _ hx))
  have ho : ∀ c, o.op ≠ .defer c := fun c hc => by
   have := hnd' o (by simp)
   rw [hc] at this; cases this
  unfold wpList at h
  unfold wpListIn
  split
  ·rename_i hw
   rw [if_pos hw] at h
   rcases h with h | h
   ·refine ⟨fun _ _ => trivial, ?_⟩
    rw [Oper.semAt_eq _ _ _ ho]
    unfold Oper.wp at h
    generalize (execOp a.eval o).run P w = r at h
    unfold Oper.upon at h
    unfold Oper.uponIn
    split at h
    ·exact vad hQ rest _ _ hr h
    ·exact vad hQ rest _ _ hr h
    ·exact vad hQ rest _ _ hr h
    ·refine ⟨(fun h => by cases h), CallsIn.inRound l (callsIn_wide.2 (h.mono fun e w'' hh => ?_))⟩
     cases e with
     | returned v => exact vad hQ rest _ _ hr hh
     | panicked ch => exact hh
     | outgrown => exact hh
    ·refine ⟨(fun h => by cases h), fun c cs _ => ?_⟩
     obtain ⟨v, w', r, s⟩ := h c cs
     exact ⟨v, w', vad hQ rest _ _ hr r, stepsIn_wide.2 s⟩
    ·exact h
    ·exact h.elim
   ·exact absurd h.2 hQ
  ·rename_i hw
   rw [if_neg hw] at h
   exact ⟨fun _ _ => trivial, vad hQ rest _ _ hr h⟩
theorem vcP {r id : Nat} {P : Program} {Q : Exit → Act → World → Prop} {a : Act} {w : World} {l : List Oper} (hnd : l.all (fun o => match o.op with | .defer _ => false | _ => true) = true) (hQ : ¬ LetsOut Q)
  (h : wpList P l.toArray Q l a w) : (Code.region id l.toArray false).wpIn (Fence.wide.inRound r) 0 P Q a w :=
 wpIn_region_lit (vad hQ l a w hnd h)
theorem vfn {r id : Nat} {P : Program} {Q : Exit → Act → World → Prop} {a0 : Act} {w : World} {l : List Oper} (sl : List Nat) (v : List Value) (hm : P.follows .mixedOrders = true) (hb : backB .any l.toArray = true) (hnd : noDefer l.toArray = true) (hQ : ¬ LetsOut Q)
  (step : ∀ (i : Nat) (o : Oper) (L : Nat → Bool) (a : Act) (w' : World), l[i]? = some o → (∀ j, j ∈ o.after.toList.map (·.on) → (∀ e ∈ o.after.toList, e.on = j → Region.binds .any e = true) → L j = true) → RV w a0 sl v L a w' →
   ∀ K : Act → World → Prop, (∀ a' w', RV w a0 sl v (fun j => j == i || L j) a' w' → K a' w') → if Region.wanted o (yielded l.toArray a.tmps) = true then Oper.wp P o a w' K Q else K (a.put o.dst undef) w')
  (fin : ∀ a w', Kp w w' → a.defers = a0.defers → a.tmps.size = a0.tmps.size → (∀ j, j ∉ sl → a.tmps.getD j undef = a0.tmps.getD j undef) → (∀ i, i < l.length → ∀ k, sl[i]? = some k → a.tmps.getD k undef = v.getD i undef) → Q .normal a w') : (Code.region id l.toArray true).wpIn (Fence.wide.inRound r) 0 P Q a0 w := by
 refine wpIn_region_any hm (vaQ hQ hnd _ _ _ _ ?_)
 refine vdR (RV w a0 sl v) hb (fun i o L a w' ho _ hd hG K hK => step i o L a w' (by simpa using ho) (fun j hj hb => by
  obtain ⟨e, he, rfl⟩ := List.mem_map.1 hj
  exact hd e (Array.mem_toList_iff.1 he) (hb e he rfl)) hG K hK) (fun L a w' hL hG => ?_) _ _ _ _ (by simp) ?_ ?_
 ·exact fin a w' hG.kp hG.df hG.sz hG.old (fun i hi => hG.new i (hL i (by simpa using hi)))
 ·have : (Array.replicate l.toArray.size false).toList.countP (fun b => !b) ≤ (Array.replicate l.toArray.size false).toList.length := List.countP_le_length
  simpa using this
 ·have e : (fun j => (Array.replicate l.toArray.size false).getD j false) = (fun _ => false) := by
   funext j
   simp only [Array.getD_eq_getD_getElem?]
   by_cases hj : j < l.toArray.size
   ·rw [Array.getElem?_eq_getElem (by simpa using hj)]; simp
   ·rw [Array.getElem?_eq_none (by simpa using hj)]; rfl
  rw [e]
  exact RV.start w a0 sl v
def boolIs (x : Value) (b : Bool) : Bool := match x with
 | .bool c => c == b
 | _ => false
def wantV (v : List Value) (o : Oper) : Bool := match o.guard with
 | none => true
 | some (g, b) => boolIs (v.getD g undef) b
def depsB (o : Oper) (j : Nat) : Bool := o.after.toList.any (fun e => e.on == j) && o.after.toList.all (fun e => e.on != j || Region.binds .any e)
def guardB (o : Oper) : Bool := match o.guard with
 | none => true
 | some (g, _) => depsB o g
theorem vaH {o : Oper} {j : Nat} (h : depsB o j = true) : j ∈ o.after.toList.map (·.on) ∧ ∀ e ∈ o.after.toList, e.on = j → Region.binds .any e = true := by
 unfold depsB at h
 rw [Bool.and_eq_true, List.any_eq_true, List.all_eq_true] at h
 obtain ⟨⟨e, he, h1⟩, h2⟩ := h
 refine ⟨List.mem_map.2 ⟨e, he, by simpa using h1⟩, fun e he hj => ?_⟩
 have := h2 e he
 rw [hj] at this
 simpa using this
theorem vdT {ops : Array Oper} {o : Oper} {t : Array Value} {g k : Nat} {b : Bool} {x : Value} (hg : o.guard = some (g, b)) (hk : (ops[g]?).bind (·.dst) = some k) (ht : t.getD k undef = x) : Region.wanted o (yielded ops t) = boolIs x b := by
 have e : (t[k]? = none ∧ x = undef) ∨ t[k]? = some x := by
  rw [Array.getD_eq_getD_getElem?] at ht
  cases e : t[k]? with
  | none => rw [e] at ht; exact .inl ⟨rfl, ht.symm⟩
  | some y => rw [e] at ht; exact .inr (by rw [← ht]; rfl)
 unfold Region.wanted yielded
 rw [hg]
 simp only [hk, Option.bind_some]
 rcases e with ⟨e, rfl⟩ | e
 ·rw [e]
  rfl
 ·rw [e]
  cases x <;> first | rfl | simp [boolIs]
theorem stepZ {P : Program} {Q : Exit → Act → World → Prop} {a0 : Act} {w : World} {l : List Oper} (sl : List Nat) (v : List Value) (U : List Bool) (hb : backB .any l.toArray = true) (hg : l.all guardB = true) (hd : l.map (·.dst) = sl.map some) (hl : sl.length = v.length) (hn : sl.Nodup) (hs : sl.all (fun k => decide (k < a0.tmps.size)) = true) (hU : l.map (wantV v) = U) (hV : List.zipWith (fun b x => if b = true then undef else x) U v = List.replicate U.length undef)
  (step : ∀ (i : Nat) (o : Oper) (a : Act) (w' : World), l[i]? = some o → wantV v o = true → (∀ j, depsB o j = true → a.tmps[sl.getD j 0]?.getD undef = v.getD j undef) → (∀ j, j ∉ sl → a.tmps[j]?.getD undef = a0.tmps.getD j undef) → Kp w w' →
   ∀ K : Act → World → Prop, (∀ u w'', Kp w' w'' → v.getD i undef = u → K (a.put o.dst u) w'') → Oper.wp P o a w' K Q)
  (i : Nat) (o : Oper) (L : Nat → Bool) (a : Act) (w' : World) (ho : l[i]? = some o) (hdep : ∀ j, j ∈ o.after.toList.map (·.on) → (∀ e ∈ o.after.toList, e.on = j → Region.binds .any e = true) → L j = true) (hG : RV w a0 sl v L a w')
  (K : Act → World → Prop) (hK : ∀ a' w', RV w a0 sl v (fun j => j == i || L j) a' w' → K a' w') : if Region.wanted o (yielded l.toArray a.tmps) = true then Oper.wp P o a w' K Q else K (a.put o.dst undef) w' := by
 have hdst : ∀ (i : Nat) (o : Oper), l[i]? = some o → ∃ k, sl[i]? = some k ∧ o.dst = some k := fun i o ho => by
  have h1 : (l.map (·.dst))[i]? = some o.dst := by rw [List.getElem?_map, ho]; rfl
  rw [hd, List.getElem?_map] at h1
  cases e : sl[i]? with
  | none => rw [e] at h1; cases h1
  | some k => rw [e] at h1; exact ⟨k, rfl, (Option.some.inj h1).symm⟩
 have hlen : l.length = sl.length := by have := congrArg List.length hd; simpa using this
 obtain ⟨k, hk, hok⟩ := hdst i o ho
 have hks : k < a0.tmps.size := of_decide_eq_true (List.all_eq_true.1 hs k (List.mem_of_getElem? hk))
 have hgo := List.all_eq_true.1 hg o (List.mem_of_getElem? ho)
 have hwant : Region.wanted o (yielded l.toArray a.tmps) = wantV v o := by
  cases eg : o.guard with
  | none =>
   rw [vcO eg]
   unfold wantV
   rw [eg]
  | some gb =>
   obtain ⟨g, b⟩ := gb
   unfold guardB at hgo
   rw [eg] at hgo
   obtain ⟨d1, d2⟩ := vaH hgo
   have hLg := hdep g d1 d2
   have hgl : g < l.length := by
    obtain ⟨e, he, hj⟩ := List.mem_map.1 d1
    have h3 := vcd hb (i := i) (o := o) (by simpa using ho) e (Array.mem_toList_iff.1 he) (d2 e he hj)
    have h4 := (List.getElem?_eq_some_iff.1 ho).1
    omega
   obtain ⟨kg, hkg, hog⟩ := hdst g l[g] (List.getElem?_eq_getElem hgl)
   have hk2 : (l.toArray[g]?).bind (·.dst) = some kg := by simp [hgl, hog]
   rw [vdT eg hk2 (hG.new g hLg kg hkg)]
   unfold wantV
   rw [eg]
 rw [hwant]
 cases hw : wantV v o with
 | true =>
  rw [if_pos rfl]
  refine step i o a w' ho hw (fun j hj => ?_) (fun j hj => ?_) hG.kp K (fun u w'' kp hu => ?_)
  ·obtain ⟨d1, d2⟩ := vaH hj
   have hjl : j < sl.length := by
    obtain ⟨e, he, hj2⟩ := List.mem_map.1 d1
    have h3 := vcd hb (i := i) (o := o) (by simpa using ho) e (Array.mem_toList_iff.1 he) (d2 e he hj2)
    have h4 := (List.getElem?_eq_some_iff.1 ho).1
    omega
   have hsj : sl[j]? = some (sl.getD j 0) := by rw [List.getD_eq_getElem?_getD, List.getElem?_eq_getElem hjl]; rfl
   exact vcq (hG.new j (hdep j d1 d2) _ hsj)
  ·exact vcq (hG.old j hj)
  ·rw [hok]
   exact hK _ _ (hG.put i k hk hn hks kp hu)
 | false =>
  rw [if_neg (by simp), hok]
  refine hK _ _ (hG.put i k hk hn hks (Kp.refl _) ?_)
  have hUi : U[i]? = some false := by rw [← hU, List.getElem?_map, ho]; simp [hw]
  have h1 := congrArg (fun t => t[i]?) hV
  simp only [List.getElem?_zipWith, hUi] at h1
  have hil : i < v.length := by have := (List.getElem?_eq_some_iff.1 ho).1; omega
  rw [List.getElem?_eq_getElem hil] at h1
  have hiU : i < U.length := (List.getElem?_eq_some_iff.1 hUi).1
  simp [hiU] at h1
  simp [hil, h1]
theorem vlF {id : Nat} {P : Program} {Q : Exit → Act → World → Prop} {a0 : Act} {w : World} {l : List Oper} (sl : List Nat) (v : List Value) (U : List Bool) (hm : P.follows .mixedOrders = true) (hb : backB .any l.toArray = true) (hg : l.all guardB = true) (hd : l.map (·.dst) = sl.map some) (hl : sl.length = v.length) (hn : sl.Nodup) (hs : sl.all (fun k => decide (k < a0.tmps.size)) = true) (hU : l.map (wantV v) = U) (hV : List.zipWith (fun b x => if b = true then undef else x) U v = List.replicate U.length undef)
  (step : ∀ (i : Nat) (o : Oper) (a : Act) (w' : World), l[i]? = some o → wantV v o = true → (∀ j, depsB o j = true → a.tmps[sl.getD j 0]?.getD undef = v.getD j undef) → (∀ j, j ∉ sl → a.tmps[j]?.getD undef = a0.tmps.getD j undef) → Kp w w' →
   ∀ K : Act → World → Prop, (∀ u w'', Kp w' w'' → v.getD i undef = u → K (a.put o.dst u) w'') → Oper.wp P o a w' K Q)
  (fin : ∀ w', Kp w w' → Q .normal { tmps := wrS a0.tmps (sl.zip v), defers := a0.defers } w') : (Code.region id l.toArray true).wp P Q a0 w := by
 refine vjB sl v hm hb (stepZ sl v U hb hg hd hl hn hs hU hV step) (fun a w' kp df sz old new => ?_)
 have hlen : l.length = sl.length := by have := congrArg List.length hd; simpa using this
 rw [vgk hl hn df sz old (fun i hi k hk => new i (by omega) k hk)]
 exact fin w' kp
theorem vfo {r id : Nat} {P : Program} {Q : Exit → Act → World → Prop} {a0 : Act} {w : World} {l : List Oper} (sl : List Nat) (v : List Value) (U : List Bool) (hm : P.follows .mixedOrders = true) (hb : backB .any l.toArray = true) (hnd : noDefer l.toArray = true) (hQ : ¬ LetsOut Q) (hg : l.all guardB = true) (hd : l.map (·.dst) = sl.map some) (hl : sl.length = v.length) (hn : sl.Nodup) (hs : sl.all (fun k => decide (k < a0.tmps.size)) = true) (hU : l.map (wantV v) = U) (hV : List.zipWith (fun b x => if b = true then undef else x) U v = List.replicate U.length undef)
  (step : ∀ (i : Nat) (o : Oper) (a : Act) (w' : World), l[i]? = some o → wantV v o = true → (∀ j, depsB o j = true → a.tmps[sl.getD j 0]?.getD undef = v.getD j undef) → (∀ j, j ∉ sl → a.tmps[j]?.getD undef = a0.tmps.getD j undef) → Kp w w' →
   ∀ K : Act → World → Prop, (∀ u w'', Kp w' w'' → v.getD i undef = u → K (a.put o.dst u) w'') → Oper.wp P o a w' K Q)
  (fin : ∀ w', Kp w w' → Q .normal { tmps := wrS a0.tmps (sl.zip v), defers := a0.defers } w') : (Code.region id l.toArray true).wpIn (Fence.wide.inRound r) 0 P Q a0 w := by
 refine vfn sl v hm hb hnd hQ (stepZ sl v U hb hg hd hl hn hs hU hV step) (fun a w' kp df sz old new => ?_)
 have hlen : l.length = sl.length := by have := congrArg List.length hd; simpa using this
 rw [vgk hl hn df sz old (fun i hi k hk => new i (by omega) k hk)]
 exact fin w' kp
theorem but1 {v v' : List Value} {L : Nat → Bool} {i : Nat} {u : Value} (hi : L i = false) (e : v' = v.set i u) : ∀ j, L j = true → v'.getD j undef = v.getD j undef := fun j hj => by
 have hne : i ≠ j := fun z => by rw [← z, hi] at hj; cases hj
 rw [e, List.getD_eq_getElem?_getD, List.getD_eq_getElem?_getD, List.getElem?_set_ne hne]
theorem but2 {v v' : List Value} {L : Nat → Bool} {i k : Nat} {u u2 : Value} (hi : L i = false) (hk : L k = false) (e : v' = (v.set i u).set k u2) : ∀ j, L j = true → v'.getD j undef = v.getD j undef := fun j hj => by
 have hne : i ≠ j := fun z => by rw [← z, hi] at hj; cases hj
 have hne2 : k ≠ j := fun z => by rw [← z, hk] at hj; cases hj
 rw [e, List.getD_eq_getElem?_getD, List.getD_eq_getElem?_getD, List.getElem?_set_ne hne2, List.getElem?_set_ne hne]
theorem vac {l : List Oper} {L : Nat → Bool} {i j : Nat} (o : Oper) (hcl : ∀ i2 o2 j, l[i2]? = some o2 → L i2 = true → depsB o2 j = true → L j = true) (ho : l[i]? = some o) (hd : depsB o j = true) (hj : L j = false) : L i = false := by
 cases e : L i with
 | false => rfl
 | true => rw [hcl i o j ho e hd] at hj; cases hj
structure RU (M : (Nat → Bool) → World → Prop) (a0 : Act) (sl : List Nat) (v : List Value) (L : Nat → Bool) (a : Act) (w : World) : Prop where
 x : RX M a0 sl v L a w
 und : ∀ i, L i = false → ∀ k, sl[i]? = some k → a.tmps.getD k undef = a0.tmps.getD k undef
def dstB (n : Nat) (d : Option Nat) (s : Nat) : Bool := match d with
 | some k => k == s && decide (s < n)
 | none => decide (n ≤ s)
theorem RU.to {M M' : (Nat → Bool) → World → Prop} {w w' : World} {a0 a : Act} {sl : List Nat} {v v' : List Value} {L : Nat → Bool} (h : RU M a0 sl v L a w) (i k : Nat) (d : Option Nat) (hi : sl[i]? = some k) (hn : sl.Nodup) (hd : dstB a0.tmps.size d k = true) (hm : M' (fun j => j == i || L j) w') (hv : ∀ j, L j = true → v'.getD j undef = v.getD j undef) {u : Value} (hu : v'.getD i undef = u) (h0 : d = none → v'.getD i undef = undef) : RU M' a0 sl v' (fun j => j == i || L j) (a.put d u) w' := by
 have r0 : RX (fun _ _ => True) a0 sl v' L a w := ⟨trivial, h.x.df, h.x.sz, h.x.old, fun j hj m hm => (h.x.new j hj m hm).trans (hv j hj).symm⟩
 cases d with
 | none =>
  have hk : a0.tmps.size ≤ k := of_decide_eq_true hd
  have r1 := r0.done i k hi hn hk (w' := w') trivial (h0 rfl)
  refine ⟨⟨hm, r1.df, r1.sz, r1.old, r1.new⟩, fun j hj m hm => ?_⟩
  have hj2 : L j = false := by
   rw [Bool.or_eq_false_iff] at hj
   exact hj.2
  exact h.und j hj2 m hm
 | some q =>
  have hd2 : q = k ∧ k < a0.tmps.size := by
   have : (q == k && decide (k < a0.tmps.size)) = true := hd
   simpa using this
  obtain ⟨rfl, hk⟩ := hd2
  have r1 := r0.put i q hi hn hk (w' := w') trivial hu
  refine ⟨⟨hm, r1.df, r1.sz, r1.old, r1.new⟩, fun j hj m hm => ?_⟩
  have hj2 : j ≠ i ∧ L j = false := by simpa using hj
  have hne : m ≠ q := fun z => by
   subst z
   obtain ⟨h1, h2⟩ := List.getElem?_eq_some_iff.1 hi
   obtain ⟨h3, h4⟩ := List.getElem?_eq_some_iff.1 hm
   have hp := List.pairwise_iff_getElem.1 hn
   rcases Nat.lt_or_ge j i with hl | hl
   ·exact hp j i h3 h1 hl (by rw [h2, h4])
   ·exact hp i j h1 h3 (by have := hj2.1; omega) (by rw [h2, h4])
  show (a.tmps.setIfInBounds q u).getD m undef = _
  rw [← h.und j hj2.2 m hm]
  simp only [Array.getD_eq_getD_getElem?]
  rw [Array.getElem?_setIfInBounds_ne (fun z => hne z.symm)]
theorem vjC {Z : Type} {id : Nat} {P : Program} {Q : Exit → Act → World → Prop} {a0 : Act} {w : World} {l : List Oper} (M : Z → (Nat → Bool) → World → Prop) (sl : List Nat) (v : Z → List Value) (U : List Bool) (hm : P.follows .mixedOrders = true) (hb : backB .any l.toArray = true) (hg : l.all guardB = true) (hd : (List.zipWith (dstB a0.tmps.size) (l.map (·.dst)) sl).all (fun b => b) = true) (hl : sl.length = l.length) (hvl : ∀ z, sl.length = (v z).length) (hn : sl.Nodup) (hU : ∀ z, l.map (wantV (v z)) = U) (hV : ∀ z, List.zipWith (fun b x => if b = true then undef else x) (List.zipWith (fun (o : Oper) b => b && o.dst.isSome) l U) (v z) = List.replicate l.length undef) (z0 : Z) (h0 : M z0 (fun _ => false) w.drew)
  (skip : ∀ z i L w', i < l.length → U.getD i true = false → L i = false → M z L w' → M z (fun j => j == i || L j) w')
  (step : ∀ (z : Z) (i : Nat) (o : Oper) (L : Nat → Bool) (a : Act) (w' : World), l[i]? = some o → wantV (v z) o = true → L i = false → (∀ j, depsB o j = true → L j = true) → (∀ i2 o2 j, l[i2]? = some o2 → L i2 = true → depsB o2 j = true → L j = true) →
   (∀ j, depsB o j = true → a.tmps[sl.getD j 0]?.getD undef = (v z).getD j undef) → (∀ j, j ∉ sl → a.tmps[j]?.getD undef = a0.tmps.getD j undef) → (∀ j, j < sl.length → L j = false → a.tmps[sl.getD j 0]?.getD undef = a0.tmps.getD (sl.getD j 0) undef) → M z L w' →
   ∀ K : Act → World → Prop, (∀ z' u w'', M z' (fun j => j == i || L j) w'' → (∀ j, L j = true → (v z').getD j undef = (v z).getD j undef) → (v z').getD i undef = u → K (a.put o.dst u) w'') → Oper.wp P o a w' K Q)
  (fin : ∀ z L w', (∀ i, i < l.length → L i = true) → M z L w' → Q .normal { tmps := wrS a0.tmps (sl.zip (v z)), defers := a0.defers } w') : (Code.region id l.toArray true).wp P Q a0 w := by
 have hslot : ∀ (i : Nat) (o : Oper), l[i]? = some o → ∃ k, sl[i]? = some k ∧ dstB a0.tmps.size o.dst k = true := fun i o ho => by
  have hil := (List.getElem?_eq_some_iff.1 ho).1
  have hsl : i < sl.length := by omega
  refine ⟨sl[i], List.getElem?_eq_getElem hsl, ?_⟩
  have h1 : (List.zipWith (dstB a0.tmps.size) (l.map (·.dst)) sl)[i]? = some (dstB a0.tmps.size o.dst sl[i]) := by
   rw [List.getElem?_zipWith, List.getElem?_map, ho, List.getElem?_eq_getElem hsl]
   rfl
  exact List.all_eq_true.1 hd _ (List.mem_of_getElem? h1)
 have hUi : ∀ z (i : Nat) (o : Oper), l[i]? = some o → U[i]? = some (wantV (v z) o) := fun z i o ho => by rw [← hU z, List.getElem?_map, ho]; rfl
 have hund : ∀ z (i : Nat) (o : Oper), l[i]? = some o → (wantV (v z) o && o.dst.isSome) = false → (v z).getD i undef = undef := fun z i o ho hf => by
  have hil := (List.getElem?_eq_some_iff.1 ho).1
  have h1 := congrArg (fun t => t[i]?) (hV z)
  simp only [List.getElem?_zipWith, ho, hUi z i o ho] at h1
  have hiv : i < (v z).length := by have := hvl z; omega
  rw [List.getElem?_eq_getElem hiv] at h1
  simp [hf, hil] at h1
  simp [hiv, h1]
 refine vbt hm (fun L a w' => (∀ i o, l[i]? = some o → L i = true → ∀ e ∈ o.after.toList, Region.binds .any e = true → L e.on = true) ∧ ∃ z, RU (M z) a0 sl (v z) L a w') hb (fun i o L a w' ho hLi hdep hG K hK => ?_) (fun L a w' hL hG => ?_) ⟨fun _ _ _ h => (by cases h), z0, ⟨⟨h0, rfl, rfl, fun _ _ => rfl, fun _ h => (by cases h)⟩, fun _ _ _ _ => rfl⟩⟩
 ·obtain ⟨hc, z, hR⟩ := hG
  obtain ⟨k, hk, hok⟩ := hslot i o ho
  have hc2 : ∀ i2 o2, l[i2]? = some o2 → (i2 == i || L i2) = true → ∀ e ∈ o2.after.toList, Region.binds .any e = true → (e.on == i || L e.on) = true := fun i2 o2 ho2 hL2 e he hbd => by
   by_cases e2 : i2 = i
   ·subst e2
    rw [ho] at ho2
    cases ho2
    simp [hdep e (Array.mem_toList_iff.1 he) hbd]
   ·have : L i2 = true := by simpa [e2] using hL2
    simp [hc i2 o2 ho2 this e he hbd]
  have hdeps : ∀ j, depsB o j = true → L j = true := fun j hj => by
   obtain ⟨d1, d2⟩ := vaH hj
   obtain ⟨e, he, rfl⟩ := List.mem_map.1 d1
   exact hdep e (Array.mem_toList_iff.1 he) (d2 e he rfl)
  have hjl : ∀ j, depsB o j = true → j < sl.length := fun j hj => by
   obtain ⟨d1, d2⟩ := vaH hj
   obtain ⟨e, he, hj2⟩ := List.mem_map.1 d1
   have h3 := vcd hb (i := i) (o := o) (by simpa using ho) e (Array.mem_toList_iff.1 he) (d2 e he hj2)
   have h4 := (List.getElem?_eq_some_iff.1 ho).1
   omega
  have hgo := List.all_eq_true.1 hg o (List.mem_of_getElem? ho)
  have hwant : Region.wanted o (yielded l.toArray a.tmps) = wantV (v z) o := by
   cases eg : o.guard with
   | none =>
    rw [vcO eg]
    unfold wantV
    rw [eg]
   | some gb =>
    obtain ⟨g, b⟩ := gb
    unfold guardB at hgo
    rw [eg] at hgo
    have hgl := hjl g hgo
    have hgl2 : g < l.length := by omega
    obtain ⟨kg, hkg, hog⟩ := hslot g l[g] (List.getElem?_eq_getElem hgl2)
    cases ed : (l[g]).dst with
    | none =>
     have hvu := hund z g l[g] (List.getElem?_eq_getElem hgl2) (by rw [ed]; simp)
     have hk2 : (l.toArray[g]?).bind (·.dst) = none := by simp [hgl2, ed]
     unfold Region.wanted yielded wantV
     rw [eg]
     simp only [hk2, Option.bind_none]
     rw [hvu]
     rfl
    | some q =>
     have hq : q = kg := by
      rw [ed] at hog
      have : (q == kg && decide (kg < a0.tmps.size)) = true := hog
      simp only [Bool.and_eq_true, beq_iff_eq] at this
      exact this.1
     subst hq
     have hk2 : (l.toArray[g]?).bind (·.dst) = some q := by simp [hgl2, ed]
     rw [vdT eg hk2 (hR.x.new g (hdeps g hgo) q hkg)]
     unfold wantV
     rw [eg]
  rw [hwant]
  cases hw : wantV (v z) o with
  | true =>
   rw [if_pos rfl]
   refine step z i o L a w' ho hw hLi hdeps (fun i2 o2 j ho2 hL2 hj => ?_) (fun j hj => ?_) (fun j hj => vcq (hR.x.old j hj)) (fun j hj hLj => ?_) hR.x.m K (fun z' u w'' hm2 hv hu => ?_)
   ·obtain ⟨d1, d2⟩ := vaH hj
    obtain ⟨e, he, rfl⟩ := List.mem_map.1 d1
    exact hc i2 o2 ho2 hL2 e he (d2 e he rfl)
   ·have hsj : sl[j]? = some (sl.getD j 0) := by rw [List.getD_eq_getElem?_getD, List.getElem?_eq_getElem (hjl j hj)]; rfl
    exact vcq (hR.x.new j (hdeps j hj) _ hsj)
   ·have hsj : sl[j]? = some (sl.getD j 0) := by rw [List.getD_eq_getElem?_getD, List.getElem?_eq_getElem hj]; rfl
    exact vcq (hR.und j hLj _ hsj)
   ·exact hK _ _ ⟨hc2, z', hR.to i k o.dst hk hn hok hm2 hv hu (fun e => hund z' i o ho (by rw [e]; simp))⟩
  | false =>
   rw [if_neg (by simp)]
   have hil := (List.getElem?_eq_some_iff.1 ho).1
   have hz := hund z i o ho (by rw [hw]; rfl)
   exact hK _ _ ⟨hc2, z, hR.to i k o.dst hk hn hok (skip z i L w' hil (by rw [List.getD_eq_getElem?_getD, hUi z i o ho, hw]; rfl) hLi hR.x.m) (fun _ _ => rfl) hz (fun _ => hz)⟩
 ·obtain ⟨_, z, hR⟩ := hG
  rw [vgk (hvl z) hn hR.x.df hR.x.sz hR.x.old (fun i hi => hR.x.new i (hL i (by omega)))]
  exact fin z L w' hL hR.x.m
def readB (n : Nat) (sl : List Nat) (o : Oper) : Operand → Bool
 | .tmp k => decide (k < n) && (List.range sl.length).all (fun j => sl.getD j 0 != k || depsB o j)
 | _ => true
def notSel (o : Oper) : Bool := match o.op with
 | .select _ _ => false
 | _ => true
def readsB (n : Nat) (sl : List Nat) (l : List Oper) (U : List Bool) : Bool := (l.zip U).all (fun p => !p.2 || (notSel p.1 && p.1.op.operands.toList.all (readB n sl p.1)))
theorem wrC (t : List Value) (k : Nat) (v : Value) (zs : List (Nat × Value)) : wrS t.toArray ((k, v) :: zs) = wrS (t.set k v).toArray zs := by
 show wrS (t.toArray.setIfInBounds k v) zs = _
 rw [List.setIfInBounds_toArray]
theorem wrN (t : Array Value) : wrS t [] = t := rfl
def allSt (St : Nat → Oper → Prop) : Nat → List Oper → List Bool → Prop
 | i, o :: l, true :: U => St i o ∧ allSt St (i + 1) l U
 | i, _ :: l, false :: U => allSt St (i + 1) l U
 | _, _, _ => True
theorem vdm {St : Nat → Oper → Prop} : ∀ (l : List Oper) (U : List Bool) (n i : Nat) (o : Oper), allSt St n l U → l[i]? = some o → U[i]? = some true → St (n + i) o
 | [], _, _, _, _, _, h, _ => by simp at h
 | _ :: _, [], _, _, _, _, _, h => by simp at h
 | x :: l, b :: U, n, 0, o, h, h1, h2 => by
  simp only [List.getElem?_cons_zero, Option.some.injEq] at h1 h2
  subst h1 h2
  exact h.1
 | x :: l, b :: U, n, i + 1, o, h, h1, h2 => by
  simp only [List.getElem?_cons_succ] at h1 h2
  have e : n + (i + 1) = n + 1 + i := by omega
  rw [e]
  cases b with
  | true => exact vdm l U (n + 1) i o h.2 h1 h2
  | false => exact vdm l U (n + 1) i o h h1 h2
theorem vau {Z : Type} {id : Nat} {P : Program} {Q : Exit → Act → World → Prop} {a0 : Act} {w : World} {l : List Oper} (M : Z → (Nat → Bool) → World → Prop) (sl : List Nat) (v : Z → List Value) (U : List Bool) (sp : List Nat) (hm : P.follows .mixedOrders = true) (hc : (backB .any l.toArray && (l.all guardB && ((List.zipWith (dstB a0.tmps.size) (l.map (·.dst)) sl).all (fun b => b) && (decide (sl.length = l.length) && (decide sl.Nodup && (readsB a0.tmps.size sl l U && sp.all (fun i => U.getD i true))))))) = true) (hvl : ∀ z, sl.length = (v z).length) (hU : ∀ z, l.map (wantV (v z)) = U) (hV : ∀ z, List.zipWith (fun b x => if b = true then undef else x) (List.zipWith (fun (o : Oper) b => b && o.dst.isSome) l U) (v z) = List.replicate l.length undef) (z0 : Z) (h0 : M z0 (fun _ => false) w.drew)
  (oth : ∀ z L L' w', (∀ j ∈ sp, L' j = L j) → M z L w' → M z L' w') {A : Z → Array Value} (hA : ∀ z, wrS a0.tmps (sl.zip (v z)) = A z)
  (step : allSt (fun i o => ∀ z L a w', L i = false → (∀ j, depsB o j = true → L j = true) → (∀ i2 o2 j, l[i2]? = some o2 → L i2 = true → depsB o2 j = true → L j = true) → M z L w' → (sp.contains i = false → M z (fun j => j == i || L j) w') → ∀ K : Act → World → Prop, (∀ z' u w'', M z' (fun j => j == i || L j) w'' → (∀ j, L j = true → (v z').getD j undef = (v z).getD j undef) → (v z').getD i undef = u → K (a.put o.dst u) w'') → o.upon P a K Q ((execOp (Act.eval { tmps := A z, defers := a0.defers }) o).run P w')) 0 l U)
  (fin : ∀ z L w', (∀ i, i < l.length → L i = true) → M z L w' → Q .normal { tmps := A z, defers := a0.defers } w') : (Code.region id l.toArray true).wp P Q a0 w := by
 simp only [Bool.and_eq_true] at hc
 obtain ⟨hb, hg, hd, hl, hn, hr, hsp⟩ := hc
 have hl := of_decide_eq_true hl
 have hn := of_decide_eq_true hn
 have keepM : ∀ z L w' i, i ∉ sp → M z L w' → M z (fun j => j == i || L j) w' := fun z L w' i hi hM => oth z L _ w' (fun j hj => by
  have : (j == i) = false := by simpa using fun e : j = i => hi (e ▸ hj)
  simp [this]) hM
 refine vjC M sl v U hm hb hg hd hl hvl hn hU hV z0 h0 (fun z i L w' hi hu hLi hM => ?_) (fun z i o L a w' ho hw hLi d hcl f hgo _ hM K hK => ?_) (fun z L w' hL hM => ?_)
 ·refine keepM z L w' i (fun hs => ?_) hM
  have := List.all_eq_true.1 hsp i hs
  rw [hu] at this
  cases this
 ·have hUi : U[i]? = some true := by rw [← hU z, List.getElem?_map, ho]; exact congrArg some hw
  have hS := vdm l U 0 i o step ho hUi
  rw [Nat.zero_add] at hS
  have hz : (o, true) ∈ l.zip U := by
   obtain ⟨h1, h2⟩ := List.getElem?_eq_some_iff.1 ho
   obtain ⟨h3, h4⟩ := List.getElem?_eq_some_iff.1 hUi
   exact List.mem_iff_getElem.2 ⟨i, by rw [List.length_zip]; omega, by rw [List.getElem_zip, h2, h4]⟩
  have hq := List.all_eq_true.1 hr _ hz
  simp only [Bool.not_true, Bool.false_or, Bool.and_eq_true] at hq
  obtain ⟨hns, hrd⟩ := hq
  have he : execOp a.eval o = execOp (Act.eval { tmps := A z, defers := a0.defers }) o := execOp_congr o (fun cs b e => by
   unfold notSel at hns
   rw [e] at hns
   cases hns) (fun x hx => by
   have h1 := List.all_eq_true.1 hrd x (Array.mem_toList_iff.2 hx)
   cases x with
   | tmp k =>
    unfold readB at h1
    rw [Bool.and_eq_true] at h1
    obtain ⟨h2, h3⟩ := h1
    have h2 := of_decide_eq_true h2
    show a.tmps.getD k undef = (A z).getD k undef
    rw [← hA z]
    simp only [Array.getD_eq_getD_getElem?]
    by_cases hk : k ∈ sl
    ·obtain ⟨j, hj, e⟩ := List.mem_iff_getElem.1 hk
     have h4 := List.all_eq_true.1 h3 j (List.mem_range.2 hj)
     have hgj : sl.getD j 0 = k := by rw [List.getD_eq_getElem?_getD, List.getElem?_eq_getElem hj, e]; rfl
     rw [hgj] at h4
     have h5 : depsB o j = true := by simpa using h4
     have h6 := f j h5
     rw [hgj] at h6
     have hjv : j < (v z).length := by rw [← hvl z]; exact hj
     have hm2 : (k, (v z)[j]) ∈ sl.zip (v z) := List.mem_iff_getElem.2 ⟨j, by rw [List.length_zip]; omega, by rw [List.getElem_zip, e]⟩
     have h7 := vgj (sl.zip (v z)) a0.tmps (by rw [List.map_fst_zip (by rw [hvl z]; exact Nat.le_refl _)]; exact hn) _ hm2 h2
     simp only at h7
     rw [h7, h6, List.getD_eq_getElem?_getD, List.getElem?_eq_getElem hjv]
    ·rw [vbu (sl.zip (v z)) a0.tmps (fun y hy e => hk (by subst e; exact (List.of_mem_zip hy).1)), hgo k hk, Array.getD_eq_getD_getElem?]
   | const _ => rfl
   | global _ => rfl
   | func _ => rfl)
  unfold Oper.wp
  rw [he]
  exact hS z L a w' hLi d hcl hM (fun hc => keepM z L w' i (fun hs => by
   rw [List.contains_iff_mem.2 hs] at hc
   cases hc) hM) K hK
 ·rw [hA z]
  exact fin z L w' hL hM
set_option maxRecDepth 100000 in
theorem vcQ (g off c : Nat) (l : List Nat) (w : World) (hR : Rd w 1 byN (some ⟨g, off, none⟩) l) (hn : l.length ≤ 1000000) : Calls Tryz.prog 133 #[.slice (some ⟨g, off, none⟩) l.length c] w fun e w' => ∃ v, e = .returned v ∧ Own w' w.heap.size 5 1 byN v l ∧ Kp w w' := by
 have hE : Own (w.alloc (.cells #[] 5)) w.heap.size 5 1 byN (.slice (some ⟨w.heap.size, 0, none⟩) 0 0) [] := Own.empty (Nat.le_refl _) (Blk.new w _ _)
 have hnil : ∀ w : World, (binOp .eql 64 (.slice (some ⟨g, off, none⟩) l.length c) (.slice none 0 0)).run Tryz.prog w = .ok (.bool false) w := fun _ => by kernel_rfl
 go_enter Tryz.func133, Tryz.ntmps133
 go_wp2_with (at_builtin; go_loud (refine vat EByt vaN vep rfl _ _ rfl rfl rfl hE (hR.keep ((Kp.refl _).alloc _)) (by simp; omega) (by simp) ?_; intro v' w1 hown hg hat; rw [List.nil_append] at hown; have hK1 : Kp w w1 := ((Kp.refl w).alloc _).grown hg (fun q hq => (World.ownsRow.lt hE q hq).1); clear hg hat hE; obtain ⟨A', c', rfl⟩ := hown.form))
 go_ret
 exact ⟨_, rfl, hown, hK1⟩
def rdrC (A : Option Addr) (n c : Nat) (at_ : Int) : Array Value := #[.slice A n c, .int .i64 at_, .bool true]
set_option maxRecDepth 100000 in
theorem vgl (g n c : Nat) (A : Option Addr) (at_ : Int) (w : World) (hB : Blk w g 374 (rdrC A n c at_)) : Calls Tryz.prog 258 #[.pointer (some ⟨g, 0, none⟩)] w fun e w' => e = .returned (.bool false) ∧ w = w' := by
 have u := Blk.f hB rfl
 go_enter Tryz.func258, Tryz.ntmps258
 go_wp2_with fail
 go_ret
 exact ⟨rfl, rfl⟩
set_option maxRecDepth 100000 in
theorem vhS (g b off c at_ wd j : Nat) (l : List Nat) (w : World) (hW : WidAt w) (hj : wid wd j) (hB : Blk w g 374 (rdrC (some ⟨b, off, none⟩) l.length c at_)) (hR : Rd w 1 byN (some ⟨b, off, none⟩) l) (hl : ∀ x ∈ l, x < 256) (h : at_ + wd ≤ l.length) (hc : l.length ≤ c) (hn : l.length ≤ 1000000) :
  Calls Tryz.prog 198 #[.pointer (some ⟨g, 0, none⟩), .int .i64 wd] w fun e w' => e = .returned (.tuple #[.int .u32 (atN l at_ wd : Int), .int .i64 0]) ∧ Only [g] w w' ∧ Blk w' g 374 (rdrC (some ⟨b, off, none⟩) l.length c ((at_ + wd : Nat) : Int)) := by
 have HB := Lib.hid hB
 have HJ := Lib.hid hj
 have HW := Lib.hid hW
 have HR := Lib.hid hR
 have HL := Lib.hid hl
 have u := Blk.f hB rfl
 have z := Blk.frozen hB
 clear hB hj hW hR hl
 go_enter Tryz.func198, Tryz.ntmps198
 go_wp2_with fail
 refine vaa 0 rfl ?_
 go_wp2_with fail
 refine (vgl g _ c _ _ _ HB.out).mono ?_
 rintro e w' ⟨rfl, rfl⟩
 go_wp2_with fail
 refine' vau (fun (_ : Unit) _ V9 => Kp _ V9) [11, 12, 13, 14, 15, 16, 17, 18, 19, 20, 10, 21, 22, 6, 7] (fun (_ : Unit) => [.pointer (some ⟨g, 0, none⟩), .pointer (some ⟨g, 0, none⟩), .pointer (some ⟨g, 0, none⟩), .slice (some ⟨b, off, none⟩) l.length c, .pointer (some ⟨g, 0, none⟩), .pointer (some ⟨g, 0, none⟩), .pointer (some ⟨g, 1, none⟩), .int .i64 at_, .int .i64 wd, .tuple #[.int .u32 (atN l at_ wd : Int), .int .i64 0], .tuple #[.int .u32 (atN l at_ wd : Int), .int .i64 0], .int .u32 (atN l at_ wd : Int), .int .i64 0, .int .u32 (atN l at_ wd : Int), .int .i64 0]) (List.replicate 15 true) [] (by kernel_rfl) (by kernel_rfl) (fun _ => rfl) (fun _ => rfl) (fun _ => rfl) () (Kp.refl _).drew (fun _ _ _ _ _ h => h) ?_ ?_ ?_
 rotate_left
 ·intro z; simp only [List.zip_cons_cons, List.zip_nil_right, wrC, wrN, List.set_cons_zero, List.set_cons_succ, List.set_nil]; rfl
 ·repeat' (first | refine And.intro ?_ ?_ | exact trivial)
  all_goals intro z L a w9 hLi d hcl hM hO K hK
  all_goals try (go_simp; exact hK z _ _ (hO rfl) (fun _ _ => rfl) rfl)
  ·have u := Blk.f (HB.out.keep hM) rfl
   go_simp
   exact hK z _ _ (hO rfl) (fun _ _ => rfl) rfl
  ·have u := Blk.f (HB.out.keep hM) rfl
   go_simp
   exact hK z _ _ (hO rfl) (fun _ _ => rfl) rfl
  ·go_simp
   refine (vdP b off c at_ j wd l _ (HW.out.keep hM) HJ.out (HR.out.keep hM) HL.out h hc hn).mono ?_
   rintro e9 wb ⟨rfl, rfl⟩
   exact hK z _ _ hM (fun _ _ => rfl) rfl
 intro z L w9 hL KV
 (try simp only [Exit.then])
 have u := Blk.f (HB.out.keep KV) rfl
 have z := Blk.frozen (HB.out.keep KV)
 go_wp2_with fail
 refine vam ?_
 go_ret2
 refine ⟨rfl, (Only.of_kp KV).setCell (p := ⟨g, 1, none⟩) (.inl (by simp)) _, ?_⟩
 have B := (HB.out.keep KV).set_ 1 (.int .i64 ((at_ : Int) + (wd : Int)))
 rw [Int.natCast_add]
 exact B
theorem vlm {w : World} {B : Nat} {v : Value} {l : List Nat} (h : Own w B 5 1 byN v l) (hl : 0 < l.length) : ∃ g c, v = .slice (some ⟨g, 0, none⟩) l.length c ∧ B ≤ g ∧ l.length ≤ c ∧ Rd w 1 byN (some ⟨g, 0, none⟩) l := by
 have h2 := h
 rcases h.2 with ⟨_, h0⟩ | ⟨g, c, cur, e, hg, _, hc, _⟩
 ·omega
 ·exact ⟨g, c, e, hg, hc, Own.rdAt (by decide) vaN (by rw [e] at h2; exact h2)⟩
set_option maxRecDepth 100000 in
theorem vhT (g off c : Nat) (l : List Nat) (w : World) (hR : Rd w 1 byN (some ⟨g, off, none⟩) l) (h0 : 0 < l.length) (hn : l.length ≤ 1000000) : Calls Tryz.prog 196 #[.slice (some ⟨g, off, none⟩) l.length c] w fun e w' => ∃ r b c', e = .returned (.pointer (some ⟨r, 0, none⟩)) ∧ Blk w' r 374 (rdrC (some ⟨b, 0, none⟩) l.length c' 0) ∧ Rd w' 1 byN (some ⟨b, 0, none⟩) l ∧ l.length ≤ c' ∧ w.heap.size ≤ r ∧ w.heap.size ≤ b ∧ b ≠ r ∧ Kp w w' := by
 go_enter Tryz.func196, Tryz.ntmps196
 go_wp2_with fail
 refine (vcQ g off c l _ hR hn).mono ?_
 rintro e w1 ⟨v, rfl, hO, K1⟩
 obtain ⟨b, c', rfl, hb, hc, hR1⟩ := vlm hO h0
 have hlt : b < w1.heap.size := (World.ownsRow.lt hO b rfl).2
 go_wp2_with fail
 go_ret
 exact ⟨_, b, c', rfl, Blk.new _ _ _, hR1.keep ((Kp.refl _).alloc _), hc, K1.size, hb, by omega, K1.alloc _⟩
structure RdM (w : World) (r b c : Nat) (l : List Nat) (at_ : Nat) : Prop where
 bk : Blk w r 374 (rdrC (some ⟨b, 0, none⟩) l.length c (at_ : Int))
 rd : Rd w 1 byN (some ⟨b, 0, none⟩) l
 cap : l.length ≤ c
 ne : b ≠ r
theorem RdM.only {w w' : World} {r b c at_ : Nat} {l : List Nat} (h : RdM w r b c l at_) {bs : List Nat} (k : Only bs w w') (hr : r ∉ bs) (hb : b ∉ bs) (h0 : 0 < l.length) : RdM w' r b c l at_ :=
 ⟨h.bk.only k hr, fun i hi => by
  obtain ⟨b2, off, e, hc⟩ := h.rd i hi
  injection e with e
  injection e with e1 e2
  subst e1 e2
  exact ⟨b, 0, rfl, fun j u hu => k.cell (hc j u hu) hb⟩, h.cap, h.ne⟩
set_option maxRecDepth 100000 in
theorem vgm (k r b c at_ wd j : Nat) (l : List Nat) (w : World) (hW : WidAt w) (hj : wid wd j) (hK : Blk w k 325 #[.pointer (some ⟨r, 0, none⟩)]) (hM : RdM w r b c l at_) (hl : ∀ x ∈ l, x < 256) (h : at_ + wd ≤ l.length) (hn : l.length ≤ 1000000) :
  Calls Tryz.prog 197 #[.int .i64 wd, .pointer (some ⟨k, 0, none⟩)] w fun e w' => e = .returned (.int .u32 (atN l at_ wd : Int)) ∧ Only [r] w w' ∧ RdM w' r b c l (at_ + wd) := by
 have u := Blk.f hK rfl
 have HM := Lib.hid hM
 have HW := Lib.hid hW
 have HJ := Lib.hid hj
 have HL := Lib.hid hl
 clear hM hW hj hl hK
 go_enter Tryz.func197, Tryz.ntmps197
 go_wp2_with fail
 refine (vhS r b 0 c at_ wd j l _ HW.out HJ.out HM.out.bk HM.out.rd HL.out h HM.out.cap hn).mono ?_
 rintro e w1 ⟨rfl, hO, hB⟩
 go_wp2_with fail
 go_ret
 refine ⟨rfl, hO, hB, fun i hi => ?_, HM.out.cap, HM.out.ne⟩
 obtain ⟨b2, off, e, hc⟩ := HM.out.rd i hi
 injection e with e
 injection e with e1 e2
 subst e1 e2
 exact ⟨b, 0, rfl, fun j u hu => hO.cell (hc j u hu) (by simpa using HM.out.ne)⟩
theorem rnextI (v : Int) (k r b c at_ wd j : Nat) (hv : v = (wd : Int)) (l : List Nat) (w : World) (hW : WidAt w) (hj : wid wd j) (hK : Blk w k 325 #[.pointer (some ⟨r, 0, none⟩)]) (hM : RdM w r b c l at_) (hl : ∀ x ∈ l, x < 256) (h : at_ + wd ≤ l.length) (hn : l.length ≤ 1000000) :
  Calls Tryz.prog 197 #[.int .i64 v, .pointer (some ⟨k, 0, none⟩)] w fun e w' => e = .returned (.int .u32 (atN l at_ wd : Int)) ∧ Only [r] w w' ∧ RdM w' r b c l (at_ + wd) := by
 subst hv
 exact vgm k r b c at_ wd j l w hW hj hK hM hl h hn
end

end Go.Proofs.YtgopnfacklmkaaaGreatDoor
