/- Lemmas and contracts for the theorem of this claim: OrdZ, OrdU, OrdL, Law, Laid, Lay13. -/
import Derived.Test.YtgopnfacklmkaaaGreatDoorZzBi
import Derived.Orders
import Derived.Test.YtgopnfacklmkaaaGreatDoorRows
import Derived.ProofKit
import Derived.Lib.SmallJoins
import Derived.Deep.Slices
import Derived.Deep.Fields
import Derived.ChangeSame
import Derived.LaidMore
import Derived.OpenShut
import Derived.Stop.Joined
set_option linter.all false
set_option maxHeartbeats 16000000
namespace Go.Proofs.YtgopnfacklmkaaaGreatDoor
section
open Go.RowKit
def boolIs (x : Value) (b : Bool) : Bool := match x with
 | .bool c => c == b
 | _ => false
def wantV (v : List Value) (o : Oper) : Bool := match o.guard with
 | none => true
 | some (g, b) => boolIs (v.getD g undef) b
def depsB (o : Oper) (j : Nat) : Bool := o.after.toList.any (fun e => e.on == j) && o.after.toList.all (fun e => e.on != j || Region.binds .any e)
def guardB (o : Oper) : Bool := match o.guard with
 | none => true
 | some (g, _) => depsB o g
theorem vbr {o : Oper} {j : Nat} (h : depsB o j = true) : j ∈ o.after.toList.map (·.on) ∧ ∀ e ∈ o.after.toList, e.on = j → Region.binds .any e = true := by
 unfold depsB at h
 rw [Bool.and_eq_true, List.any_eq_true, List.all_eq_true] at h
 obtain ⟨⟨e, he, h1⟩, h2⟩ := h
 refine ⟨List.mem_map.2 ⟨e, he, by simpa using h1⟩, fun e he hj => ?_⟩
 have := h2 e he
 rw [hj] at this
 simpa using this
theorem vfW {ops : Array Oper} {o : Oper} {t : Array Value} {g k : Nat} {b : Bool} {x : Value} (hg : o.guard = some (g, b)) (hk : (ops[g]?).bind (·.dst) = some k) (ht : t.getD k undef = x) : Region.wanted o (yielded ops t) = boolIs x b := by
 have e : (t[k]? = none ∧ x = undef) ∨ t[k]? = some x := by
  rw [Array.getD_eq_getD_getElem?] at ht
  cases e : t[k]? with
  | none => rw [e] at ht; exact .inl ⟨rfl, ht.symm⟩
  | some y => rw [e] at ht; exact .inr (by rw [← ht]; rfl)
 unfold Region.wanted yielded
 rw [hg]
 simp only [hk, Option.bind_some]
 rcases e with ⟨e, rfl⟩ | e
 ·rw [e]
  rfl
 ·rw [e]
  cases x <;> first | rfl | simp [boolIs]
theorem stepZ {P : Program} {Q : Exit → Act → World → Prop} {a0 : Act} {w : World} {l : List Oper} (sl : List Nat) (v : List Value) (U : List Bool) (hb : backB .any l.toArray = true) (hg : l.all guardB = true) (hd : l.map (·.dst) = sl.map some) (hl : sl.length = v.length) (hn : sl.Nodup) (hs : sl.all (fun k => decide (k < a0.tmps.size)) = true) (hU : l.map (wantV v) = U) (hV : List.zipWith (fun b x => if b = true then undef else x) U v = List.replicate U.length undef)
  (step : ∀ (i : Nat) (o : Oper) (a : Act) (w' : World), l[i]? = some o → wantV v o = true → (∀ j, depsB o j = true → a.tmps[sl.getD j 0]?.getD undef = v.getD j undef) → (∀ j, j ∉ sl → a.tmps[j]?.getD undef = a0.tmps.getD j undef) → Kp w w' →
   ∀ K : Act → World → Prop, (∀ u w'', Kp w' w'' → v.getD i undef = u → K (a.put o.dst u) w'') → Oper.wp P o a w' K Q)
  (i : Nat) (o : Oper) (L : Nat → Bool) (a : Act) (w' : World) (ho : l[i]? = some o) (hdep : ∀ j, j ∈ o.after.toList.map (·.on) → (∀ e ∈ o.after.toList, e.on = j → Region.binds .any e = true) → L j = true) (hG : RV w a0 sl v L a w')
  (K : Act → World → Prop) (hK : ∀ a' w', RV w a0 sl v (fun j => j == i || L j) a' w' → K a' w') : if Region.wanted o (yielded l.toArray a.tmps) = true then Oper.wp P o a w' K Q else K (a.put o.dst undef) w' := by
 have hdst : ∀ (i : Nat) (o : Oper), l[i]? = some o → ∃ k, sl[i]? = some k ∧ o.dst = some k := fun i o ho => by
  have h1 : (l.map (·.dst))[i]? = some o.dst := by rw [List.getElem?_map, ho]; rfl
  rw [hd, List.getElem?_map] at h1
  cases e : sl[i]? with
  | none => rw [e] at h1; cases h1
  | some k => rw [e] at h1; exact ⟨k, rfl, (Option.some.inj h1).symm⟩
 have hlen : l.length = sl.length := by have := congrArg List.length hd; simpa using this
 obtain ⟨k, hk, hok⟩ := hdst i o ho
 have hks : k < a0.tmps.size := of_decide_eq_true (List.all_eq_true.1 hs k (List.mem_of_getElem? hk))
 have hgo := List.all_eq_true.1 hg o (List.mem_of_getElem? ho)
 have hwant : Region.wanted o (yielded l.toArray a.tmps) = wantV v o := by
  cases eg : o.guard with
  | none =>
   rw [vez eg]
   unfold wantV
   rw [eg]
  | some gb =>
   obtain ⟨g, b⟩ := gb
   unfold guardB at hgo
   rw [eg] at hgo
   obtain ⟨d1, d2⟩ := vbr hgo
   have hLg := hdep g d1 d2
   have hgl : g < l.length := by
    obtain ⟨e, he, hj⟩ := List.mem_map.1 d1
    have h3 := vdn hb (i := i) (o := o) (by simpa using ho) e (Array.mem_toList_iff.1 he) (d2 e he hj)
    have h4 := (List.getElem?_eq_some_iff.1 ho).1
    omega
   obtain ⟨kg, hkg, hog⟩ := hdst g l[g] (List.getElem?_eq_getElem hgl)
   have hk2 : (l.toArray[g]?).bind (·.dst) = some kg := by simp [hgl, hog]
   rw [vfW eg hk2 (hG.new g hLg kg hkg)]
   unfold wantV
   rw [eg]
 rw [hwant]
 cases hw : wantV v o with
 | true =>
  rw [if_pos rfl]
  refine step i o a w' ho hw (fun j hj => ?_) (fun j hj => ?_) hG.kp K (fun u w'' kp hu => ?_)
  ·obtain ⟨d1, d2⟩ := vbr hj
   have hjl : j < sl.length := by
    obtain ⟨e, he, hj2⟩ := List.mem_map.1 d1
    have h3 := vdn hb (i := i) (o := o) (by simpa using ho) e (Array.mem_toList_iff.1 he) (d2 e he hj2)
    have h4 := (List.getElem?_eq_some_iff.1 ho).1
    omega
   have hsj : sl[j]? = some (sl.getD j 0) := by rw [List.getD_eq_getElem?_getD, List.getElem?_eq_getElem hjl]; rfl
   exact vdZ (hG.new j (hdep j d1 d2) _ hsj)
  ·exact vdZ (hG.old j hj)
  ·rw [hok]
   exact hK _ _ (hG.put i k hk hn hks kp hu)
 | false =>
  rw [if_neg (by simp), hok]
  refine hK _ _ (hG.put i k hk hn hks (Kp.refl _) ?_)
  have hUi : U[i]? = some false := by rw [← hU, List.getElem?_map, ho]; simp [hw]
  have h1 := congrArg (fun t => t[i]?) hV
  simp only [List.getElem?_zipWith, hUi] at h1
  have hil : i < v.length := by have := (List.getElem?_eq_some_iff.1 ho).1; omega
  rw [List.getElem?_eq_getElem hil] at h1
  have hiU : i < U.length := (List.getElem?_eq_some_iff.1 hUi).1
  simp [hiU] at h1
  simp [hil, h1]
theorem voU {id : Nat} {P : Program} {Q : Exit → Act → World → Prop} {a0 : Act} {w : World} {l : List Oper} (sl : List Nat) (v : List Value) (U : List Bool) (hm : P.follows .mixedOrders = true) (hb : backB .any l.toArray = true) (hg : l.all guardB = true) (hd : l.map (·.dst) = sl.map some) (hl : sl.length = v.length) (hn : sl.Nodup) (hs : sl.all (fun k => decide (k < a0.tmps.size)) = true) (hU : l.map (wantV v) = U) (hV : List.zipWith (fun b x => if b = true then undef else x) U v = List.replicate U.length undef)
  (step : ∀ (i : Nat) (o : Oper) (a : Act) (w' : World), l[i]? = some o → wantV v o = true → (∀ j, depsB o j = true → a.tmps[sl.getD j 0]?.getD undef = v.getD j undef) → (∀ j, j ∉ sl → a.tmps[j]?.getD undef = a0.tmps.getD j undef) → Kp w w' →
   ∀ K : Act → World → Prop, (∀ u w'', Kp w' w'' → v.getD i undef = u → K (a.put o.dst u) w'') → Oper.wp P o a w' K Q)
  (fin : ∀ w', Kp w w' → Q .normal { tmps := wrS a0.tmps (sl.zip v), defers := a0.defers } w') : (Code.region id l.toArray true).wp P Q a0 w := by
 refine vos sl v hm hb (stepZ sl v U hb hg hd hl hn hs hU hV step) (fun a w' kp df sz old new => ?_)
 have hlen : l.length = sl.length := by have := congrArg List.length hd; simpa using this
 rw [vkN hl hn df sz old (fun i hi k hk => new i (by omega) k hk)]
 exact fin w' kp
theorem viv {r id : Nat} {P : Program} {Q : Exit → Act → World → Prop} {a0 : Act} {w : World} {l : List Oper} (sl : List Nat) (v : List Value) (U : List Bool) (hm : P.follows .mixedOrders = true) (hb : backB .any l.toArray = true) (hnd : noDefer l.toArray = true) (hQ : ¬ LetsOut Q) (hg : l.all guardB = true) (hd : l.map (·.dst) = sl.map some) (hl : sl.length = v.length) (hn : sl.Nodup) (hs : sl.all (fun k => decide (k < a0.tmps.size)) = true) (hU : l.map (wantV v) = U) (hV : List.zipWith (fun b x => if b = true then undef else x) U v = List.replicate U.length undef)
  (step : ∀ (i : Nat) (o : Oper) (a : Act) (w' : World), l[i]? = some o → wantV v o = true → (∀ j, depsB o j = true → a.tmps[sl.getD j 0]?.getD undef = v.getD j undef) → (∀ j, j ∉ sl → a.tmps[j]?.getD undef = a0.tmps.getD j undef) → Kp w w' →
   ∀ K : Act → World → Prop, (∀ u w'', Kp w' w'' → v.getD i undef = u → K (a.put o.dst u) w'') → Oper.wp P o a w' K Q)
  (fin : ∀ w', Kp w w' → Q .normal { tmps := wrS a0.tmps (sl.zip v), defers := a0.defers } w') : (Code.region id l.toArray true).wpIn (Fence.wide.inRound r) 0 P Q a0 w := by
 refine viu sl v hm hb hnd hQ (stepZ sl v U hb hg hd hl hn hs hU hV step) (fun a w' kp df sz old new => ?_)
 have hlen : l.length = sl.length := by have := congrArg List.length hd; simpa using this
 rw [vkN hl hn df sz old (fun i hi k hk => new i (by omega) k hk)]
 exact fin w' kp
theorem but1 {v v' : List Value} {L : Nat → Bool} {i : Nat} {u : Value} (hi : L i = false) (e : v' = v.set i u) : ∀ j, L j = true → v'.getD j undef = v.getD j undef := fun j hj => by
 have hne : i ≠ j := fun z => by rw [← z, hi] at hj; cases hj
 rw [e, List.getD_eq_getElem?_getD, List.getD_eq_getElem?_getD, List.getElem?_set_ne hne]
theorem vea {l : List Oper} {L : Nat → Bool} {i j : Nat} (o : Oper) (hcl : ∀ i2 o2 j, l[i2]? = some o2 → L i2 = true → depsB o2 j = true → L j = true) (ho : l[i]? = some o) (hd : depsB o j = true) (hj : L j = false) : L i = false := by
 cases e : L i with
 | false => rfl
 | true => rw [hcl i o j ho e hd] at hj; cases hj
structure RU (M : (Nat → Bool) → World → Prop) (a0 : Act) (sl : List Nat) (v : List Value) (L : Nat → Bool) (a : Act) (w : World) : Prop where
 x : RX M a0 sl v L a w
 und : ∀ i, L i = false → ∀ k, sl[i]? = some k → a.tmps.getD k undef = a0.tmps.getD k undef
def dstB (n : Nat) (d : Option Nat) (s : Nat) : Bool := match d with
 | some k => k == s && decide (s < n)
 | none => decide (n ≤ s)
theorem RU.to {M M' : (Nat → Bool) → World → Prop} {w w' : World} {a0 a : Act} {sl : List Nat} {v v' : List Value} {L : Nat → Bool} (h : RU M a0 sl v L a w) (i k : Nat) (d : Option Nat) (hi : sl[i]? = some k) (hn : sl.Nodup) (hd : dstB a0.tmps.size d k = true) (hm : M' (fun j => j == i || L j) w') (hv : ∀ j, L j = true → v'.getD j undef = v.getD j undef) {u : Value} (hu : v'.getD i undef = u) (h0 : d = none → v'.getD i undef = undef) : RU M' a0 sl v' (fun j => j == i || L j) (a.put d u) w' := by
 have r0 : RX (fun _ _ => True) a0 sl v' L a w := ⟨trivial, h.x.df, h.x.sz, h.x.old, fun j hj m hm => (h.x.new j hj m hm).trans (hv j hj).symm⟩
 cases d with
 | none =>
  have hk : a0.tmps.size ≤ k := of_decide_eq_true hd
  have r1 := r0.done i k hi hn hk (w' := w') trivial (h0 rfl)
  refine ⟨⟨hm, r1.df, r1.sz, r1.old, r1.new⟩, fun j hj m hm => ?_⟩
  have hj2 : L j = false := by
   rw [Bool.or_eq_false_iff] at hj
   exact hj.2
  exact h.und j hj2 m hm
 | some q =>
  have hd2 : q = k ∧ k < a0.tmps.size := by
   have : (q == k && decide (k < a0.tmps.size)) = true := hd
   simpa using this
  obtain ⟨rfl, hk⟩ := hd2
  have r1 := r0.put i q hi hn hk (w' := w') trivial hu
  refine ⟨⟨hm, r1.df, r1.sz, r1.old, r1.new⟩, fun j hj m hm => ?_⟩
  have hj2 : j ≠ i ∧ L j = false := by simpa using hj
  have hne : m ≠ q := fun z => by
   subst z
   obtain ⟨h1, h2⟩ := List.getElem?_eq_some_iff.1 hi
   obtain ⟨h3, h4⟩ := List.getElem?_eq_some_iff.1 hm
   have hp := List.pairwise_iff_getElem.1 hn
   rcases Nat.lt_or_ge j i with hl | hl
   ·exact hp j i h3 h1 hl (by rw [h2, h4])
   ·exact hp i j h1 h3 (by have := hj2.1; omega) (by rw [h2, h4])
  show (a.tmps.setIfInBounds q u).getD m undef = _
  rw [← h.und j hj2.2 m hm]
  simp only [Array.getD_eq_getD_getElem?]
  rw [Array.getElem?_setIfInBounds_ne (fun z => hne z.symm)]
theorem vot {Z : Type} {id : Nat} {P : Program} {Q : Exit → Act → World → Prop} {a0 : Act} {w : World} {l : List Oper} (M : Z → (Nat → Bool) → World → Prop) (sl : List Nat) (v : Z → List Value) (U : List Bool) (hm : P.follows .mixedOrders = true) (hb : backB .any l.toArray = true) (hg : l.all guardB = true) (hd : (List.zipWith (dstB a0.tmps.size) (l.map (·.dst)) sl).all (fun b => b) = true) (hl : sl.length = l.length) (hvl : ∀ z, sl.length = (v z).length) (hn : sl.Nodup) (hU : ∀ z, l.map (wantV (v z)) = U) (hV : ∀ z, List.zipWith (fun b x => if b = true then undef else x) (List.zipWith (fun (o : Oper) b => b && o.dst.isSome) l U) (v z) = List.replicate l.length undef) (z0 : Z) (h0 : M z0 (fun _ => false) w.drew)
  (skip : ∀ z i L w', i < l.length → U.getD i true = false → L i = false → M z L w' → M z (fun j => j == i || L j) w')
  (step : ∀ (z : Z) (i : Nat) (o : Oper) (L : Nat → Bool) (a : Act) (w' : World), l[i]? = some o → wantV (v z) o = true → L i = false → (∀ j, depsB o j = true → L j = true) → (∀ i2 o2 j, l[i2]? = some o2 → L i2 = true → depsB o2 j = true → L j = true) →
   (∀ j, depsB o j = true → a.tmps[sl.getD j 0]?.getD undef = (v z).getD j undef) → (∀ j, j ∉ sl → a.tmps[j]?.getD undef = a0.tmps.getD j undef) → (∀ j, j < sl.length → L j = false → a.tmps[sl.getD j 0]?.getD undef = a0.tmps.getD (sl.getD j 0) undef) → M z L w' →
   ∀ K : Act → World → Prop, (∀ z' u w'', M z' (fun j => j == i || L j) w'' → (∀ j, L j = true → (v z').getD j undef = (v z).getD j undef) → (v z').getD i undef = u → K (a.put o.dst u) w'') → Oper.wp P o a w' K Q)
  (fin : ∀ z L w', (∀ i, i < l.length → L i = true) → M z L w' → Q .normal { tmps := wrS a0.tmps (sl.zip (v z)), defers := a0.defers } w') : (Code.region id l.toArray true).wp P Q a0 w := by
 have hslot : ∀ (i : Nat) (o : Oper), l[i]? = some o → ∃ k, sl[i]? = some k ∧ dstB a0.tmps.size o.dst k = true := fun i o ho => by
  have hil := (List.getElem?_eq_some_iff.1 ho).1
  have hsl : i < sl.length := by omega
  refine ⟨sl[i], List.getElem?_eq_getElem hsl, ?_⟩
  have h1 : (List.zipWith (dstB a0.tmps.size) (l.map (·.dst)) sl)[i]? = some (dstB a0.tmps.size o.dst sl[i]) := by
   rw [List.getElem?_zipWith, List.getElem?_map, ho, List.getElem?_eq_getElem hsl]
   rfl
  exact List.all_eq_true.1 hd _ (List.mem_of_getElem? h1)
 have hUi : ∀ z (i : Nat) (o : Oper), l[i]? = some o → U[i]? = some (wantV (v z) o) := fun z i o ho => by rw [← hU z, List.getElem?_map, ho]; rfl
 have hund : ∀ z (i : Nat) (o : Oper), l[i]? = some o → (wantV (v z) o && o.dst.isSome) = false → (v z).getD i undef = undef := fun z i o ho hf => by
  have hil := (List.getElem?_eq_some_iff.1 ho).1
  have h1 := congrArg (fun t => t[i]?) (hV z)
  simp only [List.getElem?_zipWith, ho, hUi z i o ho] at h1
  have hiv : i < (v z).length := by have := hvl z; omega
  rw [List.getElem?_eq_getElem hiv] at h1
  simp [hf, hil] at h1
  simp [hiv, h1]
 refine vcF hm (fun L a w' => (∀ i o, l[i]? = some o → L i = true → ∀ e ∈ o.after.toList, Region.binds .any e = true → L e.on = true) ∧ ∃ z, RU (M z) a0 sl (v z) L a w') hb (fun i o L a w' ho hLi hdep hG K hK => ?_) (fun L a w' hL hG => ?_) ⟨fun _ _ _ h => (by cases h), z0, ⟨⟨h0, rfl, rfl, fun _ _ => rfl, fun _ h => (by cases h)⟩, fun _ _ _ _ => rfl⟩⟩
 ·obtain ⟨hc, z, hR⟩ := hG
  obtain ⟨k, hk, hok⟩ := hslot i o ho
  have hc2 : ∀ i2 o2, l[i2]? = some o2 → (i2 == i || L i2) = true → ∀ e ∈ o2.after.toList, Region.binds .any e = true → (e.on == i || L e.on) = true := fun i2 o2 ho2 hL2 e he hbd => by
   by_cases e2 : i2 = i
   ·subst e2
    rw [ho] at ho2
    cases ho2
    simp [hdep e (Array.mem_toList_iff.1 he) hbd]
   ·have : L i2 = true := by simpa [e2] using hL2
    simp [hc i2 o2 ho2 this e he hbd]
  have hdeps : ∀ j, depsB o j = true → L j = true := fun j hj => by
   obtain ⟨d1, d2⟩ := vbr hj
   obtain ⟨e, he, rfl⟩ := List.mem_map.1 d1
   exact hdep e (Array.mem_toList_iff.1 he) (d2 e he rfl)
  have hjl : ∀ j, depsB o j = true → j < sl.length := fun j hj => by
   obtain ⟨d1, d2⟩ := vbr hj
   obtain ⟨e, he, hj2⟩ := List.mem_map.1 d1
   have h3 := vdn hb (i := i) (o := o) (by simpa using ho) e (Array.mem_toList_iff.1 he) (d2 e he hj2)
   have h4 := (List.getElem?_eq_some_iff.1 ho).1
   omega
  have hgo := List.all_eq_true.1 hg o (List.mem_of_getElem? ho)
  have hwant : Region.wanted o (yielded l.toArray a.tmps) = wantV (v z) o := by
   cases eg : o.guard with
   | none =>
    rw [vez eg]
    unfold wantV
    rw [eg]
   | some gb =>
    obtain ⟨g, b⟩ := gb
    unfold guardB at hgo
    rw [eg] at hgo
    have hgl := hjl g hgo
    have hgl2 : g < l.length := by omega
    obtain ⟨kg, hkg, hog⟩ := hslot g l[g] (List.getElem?_eq_getElem hgl2)
    cases ed : (l[g]).dst with
    | none =>
     have hvu := hund z g l[g] (List.getElem?_eq_getElem hgl2) (by rw [ed]; simp)
     have hk2 : (l.toArray[g]?).bind (·.dst) = none := by simp [hgl2, ed]
     unfold Region.wanted yielded wantV
     rw [eg]
     simp only [hk2, Option.bind_none]
     rw [hvu]
     rfl
    | some q =>
     have hq : q = kg := by
      rw [ed] at hog
      have : (q == kg && decide (kg < a0.tmps.size)) = true := hog
      simp only [Bool.and_eq_true, beq_iff_eq] at this
      exact this.1
     subst hq
     have hk2 : (l.toArray[g]?).bind (·.dst) = some q := by simp [hgl2, ed]
     rw [vfW eg hk2 (hR.x.new g (hdeps g hgo) q hkg)]
     unfold wantV
     rw [eg]
  rw [hwant]
  cases hw : wantV (v z) o with
  | true =>
   rw [if_pos rfl]
   refine step z i o L a w' ho hw hLi hdeps (fun i2 o2 j ho2 hL2 hj => ?_) (fun j hj => ?_) (fun j hj => vdZ (hR.x.old j hj)) (fun j hj hLj => ?_) hR.x.m K (fun z' u w'' hm2 hv hu => ?_)
   ·obtain ⟨d1, d2⟩ := vbr hj
    obtain ⟨e, he, rfl⟩ := List.mem_map.1 d1
    exact hc i2 o2 ho2 hL2 e he (d2 e he rfl)
   ·have hsj : sl[j]? = some (sl.getD j 0) := by rw [List.getD_eq_getElem?_getD, List.getElem?_eq_getElem (hjl j hj)]; rfl
    exact vdZ (hR.x.new j (hdeps j hj) _ hsj)
   ·have hsj : sl[j]? = some (sl.getD j 0) := by rw [List.getD_eq_getElem?_getD, List.getElem?_eq_getElem hj]; rfl
    exact vdZ (hR.und j hLj _ hsj)
   ·exact hK _ _ ⟨hc2, z', hR.to i k o.dst hk hn hok hm2 hv hu (fun e => hund z' i o ho (by rw [e]; simp))⟩
  | false =>
   rw [if_neg (by simp)]
   have hil := (List.getElem?_eq_some_iff.1 ho).1
   have hz := hund z i o ho (by rw [hw]; rfl)
   exact hK _ _ ⟨hc2, z, hR.to i k o.dst hk hn hok (skip z i L w' hil (by rw [List.getD_eq_getElem?_getD, hUi z i o ho, hw]; rfl) hLi hR.x.m) (fun _ _ => rfl) hz (fun _ => hz)⟩
 ·obtain ⟨_, z, hR⟩ := hG
  rw [vkN (hvl z) hn hR.x.df hR.x.sz hR.x.old (fun i hi => hR.x.new i (hL i (by omega)))]
  exact fin z L w' hL hR.x.m
def readB (n : Nat) (sl : List Nat) (o : Oper) : Operand → Bool
 | .tmp k => decide (k < n) && (List.range sl.length).all (fun j => sl.getD j 0 != k || depsB o j)
 | _ => true
def notSel (o : Oper) : Bool := match o.op with
 | .select _ _ => false
 | _ => true
def readsB (n : Nat) (sl : List Nat) (l : List Oper) (U : List Bool) : Bool := (l.zip U).all (fun p => !p.2 || (notSel p.1 && p.1.op.operands.toList.all (readB n sl p.1)))
theorem wrC (t : List Value) (k : Nat) (v : Value) (zs : List (Nat × Value)) : wrS t.toArray ((k, v) :: zs) = wrS (t.set k v).toArray zs := by
 show wrS (t.toArray.setIfInBounds k v) zs = _
 rw [List.setIfInBounds_toArray]
theorem wrN (t : Array Value) : wrS t [] = t := rfl
def allSt (St : Nat → Oper → Prop) : Nat → List Oper → List Bool → Prop
 | i, o :: l, true :: U => St i o ∧ allSt St (i + 1) l U
 | i, _ :: l, false :: U => allSt St (i + 1) l U
 | _, _, _ => True
theorem vfk {St : Nat → Oper → Prop} : ∀ (l : List Oper) (U : List Bool) (n i : Nat) (o : Oper), allSt St n l U → l[i]? = some o → U[i]? = some true → St (n + i) o
 | [], _, _, _, _, _, h, _ => by simp at h
 | _ :: _, [], _, _, _, _, _, h => by simp at h
 | x :: l, b :: U, n, 0, o, h, h1, h2 => by
  simp only [List.getElem?_cons_zero, Option.some.injEq] at h1 h2
  subst h1 h2
  exact h.1
 | x :: l, b :: U, n, i + 1, o, h, h1, h2 => by
  simp only [List.getElem?_cons_succ] at h1 h2
  have e : n + (i + 1) = n + 1 + i := by omega
  rw [e]
  cases b with
  | true => exact vfk l U (n + 1) i o h.2 h1 h2
  | false => exact vfk l U (n + 1) i o h h1 h2
theorem vcV {Z : Type} {id : Nat} {P : Program} {Q : Exit → Act → World → Prop} {a0 : Act} {w : World} {l : List Oper} (M : Z → (Nat → Bool) → World → Prop) (sl : List Nat) (v : Z → List Value) (U : List Bool) (sp : List Nat) (hm : P.follows .mixedOrders = true) (hc : (backB .any l.toArray && (l.all guardB && ((List.zipWith (dstB a0.tmps.size) (l.map (·.dst)) sl).all (fun b => b) && (decide (sl.length = l.length) && (decide sl.Nodup && (readsB a0.tmps.size sl l U && sp.all (fun i => U.getD i true))))))) = true) (hvl : ∀ z, sl.length = (v z).length) (hU : ∀ z, l.map (wantV (v z)) = U) (hV : ∀ z, List.zipWith (fun b x => if b = true then undef else x) (List.zipWith (fun (o : Oper) b => b && o.dst.isSome) l U) (v z) = List.replicate l.length undef) (z0 : Z) (h0 : M z0 (fun _ => false) w.drew)
  (oth : ∀ z L L' w', (∀ j ∈ sp, L' j = L j) → M z L w' → M z L' w') {A : Z → Array Value} (hA : ∀ z, wrS a0.tmps (sl.zip (v z)) = A z)
  (step : allSt (fun i o => ∀ z L a w', L i = false → (∀ j, depsB o j = true → L j = true) → (∀ i2 o2 j, l[i2]? = some o2 → L i2 = true → depsB o2 j = true → L j = true) → M z L w' → (sp.contains i = false → M z (fun j => j == i || L j) w') → ∀ K : Act → World → Prop, (∀ z' u w'', M z' (fun j => j == i || L j) w'' → (∀ j, L j = true → (v z').getD j undef = (v z).getD j undef) → (v z').getD i undef = u → K (a.put o.dst u) w'') → o.upon P a K Q ((execOp (Act.eval { tmps := A z, defers := a0.defers }) o).run P w')) 0 l U)
  (fin : ∀ z L w', (∀ i, i < l.length → L i = true) → M z L w' → Q .normal { tmps := A z, defers := a0.defers } w') : (Code.region id l.toArray true).wp P Q a0 w := by
 simp only [Bool.and_eq_true] at hc
 obtain ⟨hb, hg, hd, hl, hn, hr, hsp⟩ := hc
 have hl := of_decide_eq_true hl
 have hn := of_decide_eq_true hn
 have keepM : ∀ z L w' i, i ∉ sp → M z L w' → M z (fun j => j == i || L j) w' := fun z L w' i hi hM => oth z L _ w' (fun j hj => by
  have : (j == i) = false := by simpa using fun e : j = i => hi (e ▸ hj)
  simp [this]) hM
 refine vot M sl v U hm hb hg hd hl hvl hn hU hV z0 h0 (fun z i L w' hi hu hLi hM => ?_) (fun z i o L a w' ho hw hLi d hcl f hgo _ hM K hK => ?_) (fun z L w' hL hM => ?_)
 ·refine keepM z L w' i (fun hs => ?_) hM
  have := List.all_eq_true.1 hsp i hs
  rw [hu] at this
  cases this
 ·have hUi : U[i]? = some true := by rw [← hU z, List.getElem?_map, ho]; exact congrArg some hw
  have hS := vfk l U 0 i o step ho hUi
  rw [Nat.zero_add] at hS
  have hz : (o, true) ∈ l.zip U := by
   obtain ⟨h1, h2⟩ := List.getElem?_eq_some_iff.1 ho
   obtain ⟨h3, h4⟩ := List.getElem?_eq_some_iff.1 hUi
   exact List.mem_iff_getElem.2 ⟨i, by rw [List.length_zip]; omega, by rw [List.getElem_zip, h2, h4]⟩
  have hq := List.all_eq_true.1 hr _ hz
  simp only [Bool.not_true, Bool.false_or, Bool.and_eq_true] at hq
  obtain ⟨hns, hrd⟩ := hq
  have he : execOp a.eval o = execOp (Act.eval { tmps := A z, defers := a0.defers }) o := execOp_congr o (fun cs b e => by
   unfold notSel at hns
   rw [e] at hns
   cases hns) (fun x hx => by
   have h1 := List.all_eq_true.1 hrd x (Array.mem_toList_iff.2 hx)
   cases x with
   | tmp k =>
    unfold readB at h1
    rw [Bool.and_eq_true] at h1
    obtain ⟨h2, h3⟩ := h1
    have h2 := of_decide_eq_true h2
    show a.tmps.getD k undef = (A z).getD k undef
    rw [← hA z]
    simp only [Array.getD_eq_getD_getElem?]
    by_cases hk : k ∈ sl
    ·obtain ⟨j, hj, e⟩ := List.mem_iff_getElem.1 hk
     have h4 := List.all_eq_true.1 h3 j (List.mem_range.2 hj)
     have hgj : sl.getD j 0 = k := by rw [List.getD_eq_getElem?_getD, List.getElem?_eq_getElem hj, e]; rfl
     rw [hgj] at h4
     have h5 : depsB o j = true := by simpa using h4
     have h6 := f j h5
     rw [hgj] at h6
     have hjv : j < (v z).length := by rw [← hvl z]; exact hj
     have hm2 : (k, (v z)[j]) ∈ sl.zip (v z) := List.mem_iff_getElem.2 ⟨j, by rw [List.length_zip]; omega, by rw [List.getElem_zip, e]⟩
     have h7 := vkM (sl.zip (v z)) a0.tmps (by rw [List.map_fst_zip (by rw [hvl z]; exact Nat.le_refl _)]; exact hn) _ hm2 h2
     simp only at h7
     rw [h7, h6, List.getD_eq_getElem?_getD, List.getElem?_eq_getElem hjv]
    ·rw [vcG (sl.zip (v z)) a0.tmps (fun y hy e => hk (by subst e; exact (List.of_mem_zip hy).1)), hgo k hk, Array.getD_eq_getD_getElem?]
   | const _ => rfl
   | global _ => rfl
   | func _ => rfl)
  unfold Oper.wp
  rw [he]
  exact hS z L a w' hLi d hcl hM (fun hc => keepM z L w' i (fun hs => by
   rw [List.contains_iff_mem.2 hs] at hc
   cases hc) hM) K hK
 ·rw [hA z]
  exact fin z L w' hL hM
end

section
open Go.ChangeShapes Go.WideShapes Go.ChangeAt Go.RowKit Go.Joins Go.Deep
theorem Tryz.own : ownKnob Tryz.prog.godebug = none := by kernel_rfl
theorem Tryz.laidOut : laidOutB Tryz.prog = true := by kernel_rfl
section
variable {H : Type} {enc : TypeId × Value → H}
theorem veA {W W' : World} (hK : Kp W W') {sp : Nat → Bool} : ∀ {ts : List TypeId} {vs : List Value} {ds : List (DataW H)} {ps : List MemPlace},
  (∀ t ∈ ts, Tryz.prog.readableRec t = true ∧ t < Tryz.prog.types.size) → (∀ p ∈ ps, p.block < W.heap.size) → (∀ p ∈ ps, sp p.block = true) →
  DataW.TrodAll enc Tryz.prog W 0 (fun _ => true) true ts vs ds ps → DataW.TrodAll enc Tryz.prog W' 0 sp true ts vs ds ps
 | [], [], [], _, _, _, _, h => h
 | [], _ :: _, _, _, _, _, _, h => h.elim
 | [], [], _ :: _, _, _, _, _, h => h.elim
 | _ :: _, [], _, _, _, _, _, h => h.elim
 | _ :: _, _ :: _, [], _, _, _, _, h => h.elim
 | t :: ts, v :: vs, d :: ds, ps, hr, hlt, hsp, ⟨p, q, h1, h2, e⟩ => by
  subst e
  refine ⟨p, q, ?_, veA hK (fun t ht => hr t (by simp [ht])) (fun x hx => hlt x (by simp [hx])) (fun x hx => hsp x (by simp [hx])) h2, rfl⟩
  exact WideElems.Trod_stays Tryz.laidOut (hr t (by simp)).1 (hr t (by simp)).2 h1 (fun x hx => Below.same hK (hlt x (by simp [hx]))) (fun x hx => hsp x (by simp [hx]))
set_option maxRecDepth 100000 in
theorem vmL {f : Func} {s : ChangeSpec} {apart fresh handsOn again : Bool} {W W' : World} {args : Array Value} {ds : List (DataW H)} {before : List MemPlace}
  (hW : DataW.Whole enc Tryz.prog f.params.toList s.vars apart W args.toList ds [] before) (hv : s.vars = []) (hres : f.resultTypes = #[4])
  (h1 : (s.fn H (ds ++ [])).results = [.lit (.bool true)]) (h2 : (s.fn H (ds ++ [])).args = ds) (h3 : (s.fn H (ds ++ [])).vars = [])
  (hr : ∀ t ∈ f.params.toList, Tryz.prog.readableRec t = true ∧ t < Tryz.prog.types.size) (hK : Kp W W') :
  s.post enc Tryz.prog f apart fresh handsOn again W args (.bool true) W' := by
 have hW' := hW
 obtain ⟨p, q, hA, hV, he, hz, hn⟩ := hW'
 rw [hv] at hV
 obtain ⟨_, rfl⟩ := trodVars_none hV
 rw [List.append_nil] at he
 obtain rfl : p = before := he.symm
 have hlt : ∀ x ∈ p, x.block < W.heap.size := fun x hx => hW.lt x (by simpa using hx)
 have hold : ∀ x ∈ p, (fun b => decide (b < W.heap.size)) x.block = true := fun x hx => by simpa using hlt x hx
 have hresults : ∀ (b : Nat) (sp : Nat → Bool) (hd : Bool), DataW.TrodAll enc Tryz.prog W' b sp hd f.resultTypes.toList ((Value.bool true).resultList f.resultTypes.size) (s.fn H (ds ++ [])).results [] := by
  intro b sp hd
  rw [hres, h1]
  exact trodAll_mk1 (shut_bool Tryz.underlying4 true)
 have hargs : ∀ sp : Nat → Bool, (∀ x ∈ p, sp x.block = true) → DataW.TrodAll enc Tryz.prog W' 0 sp true f.params.toList args.toList (s.fn H (ds ++ [])).args p := by
  intro sp hsp
  rw [h2]
  exact veA hK hr hlt hsp hA
 have hvars : ∀ sp : Nat → Bool, DataW.TrodVars enc Tryz.prog W' sp s.vars (s.fn H (ds ++ [])).vars [] := by
  intro sp; rw [hv, h3]; rfl
 refine ⟨ds, [], p, [], p, [], hW, hresults _ _ _, hargs _ hold, hvars _, World.keptBut_mono (fun x hx => ⟨hx, ?_⟩) (Below.frame hK (· ∈ p)), fun _ => ?_⟩
 ·exact Or.inr (by simpa using hx)
 ·refine ⟨?_, _, _, ([] ++ p) ++ [], ⟨[] ++ p, [], trodAll_append (hargs _ (fun _ _ => rfl)) (hresults _ _ _), hvars _, rfl, ?_, ?_⟩, ?_⟩
  ·exact ok_one hres rfl (okWide_bool_mk Tryz.underlying4 true)
  ·intro b off hp
   have hin : MemPlace.cell b off ∈ p := by simpa using hp
   rw [Below.frozen hK (hlt _ hin)]
   exact hz b off (by simpa using hin)
  ·intro ha
   simpa using hn ha
  ·intro x hx _
   simpa using hx
theorem vck {α : Type} {W : World} {fuel : Nat} {v : Value} {x : DataW H × List MemPlace} {t e sz : Nat} (enc' : α → List Value) (good : α → Prop) (henc : ∀ y, (enc' y).length = sz) (ht : Tryz.prog.underlying t = some (.slice e)) (hsz : Tryz.prog.cellsOf e = sz) (hs0 : 0 < sz)
  (hel : ∀ (cs : List Value) (n : Nat) (x : DataW H × List MemPlace), DataW.trod enc Tryz.prog W 0 (fun _ => true) true n e cs = some x → ∃ y, cs = enc' y ∧ good y)
  (h : DataW.trod enc Tryz.prog W 0 (fun _ => true) true fuel t [v] = some x) : ∃ A c ys, v = .slice A ys.length c ∧ ys.length ≤ maxLen ∧ Rd W sz enc' A ys ∧ ∀ y ∈ ys, good y := by
 rcases open_slice ht h with ⟨hc, _⟩ | ⟨a, len, cap, m, n, D, Pl, hc, _, hl, hm, hmm, _, hi⟩
 ·exact ⟨none, 0, [], by simpa using hc, by simp, Rd.nil _ _ _ _, by simp⟩
 ·simp only [if_true] at hmm
  subst hmm
  rw [hsz] at hi
  by_cases h0 : len = 0
  ·subst h0
   exact ⟨some a, m, [], by simpa using hc, by simp, Rd.nil _ _ _ _, by simp⟩
  have key : ∀ i, i < len → ∃ y, good y ∧ ∀ j u, (enc' y)[j]? = some u → W.cell? (a.add (i * sz + j)) = some u := by
   intro i hi'
   obtain ⟨cs', hcs, htr⟩ := hi i (by omega)
   obtain ⟨y, rfl, hg⟩ := hel cs' n _ htr
   obtain ⟨_, hlen, hat⟩ := World.cells?_some hcs
   refine ⟨y, hg, fun j u hu => ?_⟩
   have hj : j < sz := by have := (List.getElem?_eq_some_iff.1 hu).1; rw [henc] at this; exact this
   have := hat j hj
   rw [Go.Deep.add_add] at this
   rw [this, hu]
  obtain ⟨y0, hg0, hy0⟩ := key 0 (by omega)
  have hf : ∃ f : Nat → α, ∀ i, i < len → good (f i) ∧ ∀ j u, (enc' (f i))[j]? = some u → W.cell? (a.add (i * sz + j)) = some u := by
   refine ⟨fun i => if hi' : i < len then Classical.choose (key i hi') else y0, fun i hi' => ?_⟩
   simp only [hi', dif_pos]
   exact Classical.choose_spec (key i hi')
  obtain ⟨f, hf⟩ := hf
  have hsp : ∃ b off, a = ⟨b, off, none⟩ := by
   have h1 : 0 < (enc' (f 0)).length := by rw [henc]; exact hs0
   have := (hf 0 (by omega)).2 0 _ (List.getElem?_eq_getElem h1)
   simp only [Nat.zero_mul, Nat.add_zero] at this
   have h2 := World.cell?_spot this
   obtain ⟨b, off, spot⟩ := a
   simp [Addr.add] at h2
   subst h2
   exact ⟨b, off, rfl⟩
  obtain ⟨b, off, rfl⟩ := hsp
  refine ⟨some ⟨b, off, none⟩, m, (List.range len).map f, by simpa using hc, by simp; omega, ?_, ?_⟩
  ·intro i hi'
   have hi2 : i < len := by simpa using hi'
   refine ⟨b, off, rfl, fun j u hu => ?_⟩
   have := (hf i hi2).2 j u (by simpa using hu)
   have hadd : (⟨b, off, none⟩ : Addr).add (i * sz + j) = ⟨b, off + i * sz + j, none⟩ := by
    unfold Addr.add; split <;> simp_all [Nat.add_assoc]
   rw [hadd] at this
   exact this
  ·intro y hy
   obtain ⟨i, hi', rfl⟩ := List.mem_map.1 hy
   exact (hf i (by simpa using hi')).1
end
end

section
open Go.ChangeShapes Go.WideShapes Go.ChangeAt Go.RowKit
theorem gRels : Tryz.prog.globalNamed "waywarden/prefix.rels" = some 3 := by kernel_rfl
theorem tRels : (Tryz.prog.globals[3]?).map (·.type) = some 449 := by kernel_rfl
theorem vkO {H : Type} {enc : TypeId × Value → H} {W : World} {base fuel : Nat} {sp : Nat → Bool} {held : Bool} {c : List Value} {p : List MemPlace} {a : Int}
  (h : DataW.trod enc Tryz.prog W base sp held fuel 445 c = some (.lit (.int .i64 a), p)) : c = [.int .i64 a] := by
 obtain ⟨n, e1, e2, _⟩ := DataW.trod_int Tryz.underlying445 h
 simp only [Prod.mk.injEq, DataW.lit.injEq, Lit.int.injEq] at e2
 rw [e1, e2.1.2]
theorem len2 {l : List Value} (h : l.length = 2) : ∃ a b, l = [a, b] := by
 match l, h with
 | [a, b], _ => exact ⟨a, b, rfl⟩
theorem len4 {l : List Value} (h : l.length = 4) : ∃ a b c d, l = [a, b, c, d] := by
 match l, h with
 | [a, b, c, d], _ => exact ⟨a, b, c, d, rfl⟩
set_option maxRecDepth 100000 in
theorem vkP {H : Type} {enc : TypeId × Value → H} {W : World} {base fuel : Nat} {sp : Nat → Bool} {held : Bool} {c : List Value} {p : List MemPlace} {a b : Int}
  (h : DataW.trod enc Tryz.prog W base sp held fuel 448 c = some (.agg [.lit (.int .i64 a), .lit (.int .i64 b)], p)) : c = [.int .i64 a, .int .i64 b] := by
 obtain ⟨xs, m, rfl, hx, hlen, hn, hel⟩ := DataW.trod_array Tryz.underlying448 h
 have c1 : Tryz.prog.cellsOf 445 = 1 := by kernel_rfl
 have c2 : Tryz.prog.cellsOf 448 = 2 := by kernel_rfl
 rw [c2] at hlen
 rw [c1] at hel
 have h0 := hel 0 (by decide)
 have h1 := hel 1 (by decide)
 match xs, hn, hx, h0, h1 with
 | [(x0, p0), (x1, p1)], _, hx, h0, h1 =>
  simp only [List.map_cons, List.map_nil, Prod.mk.injEq, DataW.agg.injEq, List.cons.injEq, and_true] at hx
  obtain ⟨⟨rfl, rfl⟩, _⟩ := hx
  have e0 := vkO (show DataW.trod _ Tryz.prog W _ _ _ m _ _ = some (_, p0) from h0)
  have e1 := vkO (show DataW.trod _ Tryz.prog W _ _ _ m _ _ = some (_, p1) from h1)
  obtain ⟨u, v, rfl⟩ := len2 hlen
  simp at e0 e1
  rw [e0, e1]
theorem gCap : Tryz.prog.globalNamed "waywarden/config.capBounds" = some 1 := by kernel_rfl
theorem tCap : (Tryz.prog.globals[1]?).map (·.type) = some 230 := by kernel_rfl
def fhLaid : List (String × DataW Unit) := [("waywarden/prefix.rels", Rows.laid_waywarden_prefix_rels), ("waywarden/config.capBounds", Rows.laid_waywarden_config_capBounds)]
theorem vkQ {H : Type} {enc : TypeId × Value → H} {W : World} {base fuel : Nat} {sp : Nat → Bool} {held : Bool} {c : List Value} {p : List MemPlace} {a : Int}
  (h : DataW.trod enc Tryz.prog W base sp held fuel 3 c = some (.lit (.int .i64 a), p)) : c = [.int .i64 a] := by
 obtain ⟨n, e1, e2, _⟩ := DataW.trod_int Tryz.underlying3 h
 simp only [Prod.mk.injEq, DataW.lit.injEq, Lit.int.injEq] at e2
 rw [e1, e2.1.2]
set_option maxRecDepth 100000 in
theorem vou {H : Type} {enc : TypeId × Value → H} {W : World} {base fuel : Nat} {sp : Nat → Bool} {held : Bool} {c : List Value} {p : List MemPlace} {a b : Int}
  (h : DataW.trod enc Tryz.prog W base sp held fuel 230 c = some (.agg [.lit (.int .i64 a), .lit (.int .i64 b)], p)) : c = [.int .i64 a, .int .i64 b] := by
 obtain ⟨xs, m, rfl, hx, hlen, hn, hel⟩ := DataW.trod_array Tryz.underlying230 h
 have c1 : Tryz.prog.cellsOf 3 = 1 := by kernel_rfl
 have c2 : Tryz.prog.cellsOf 230 = 2 := by kernel_rfl
 rw [c2] at hlen
 rw [c1] at hel
 have h0 := hel 0 (by decide)
 have h1 := hel 1 (by decide)
 match xs, hn, hx, h0, h1 with
 | [(x0, p0), (x1, p1)], _, hx, h0, h1 =>
  simp only [List.map_cons, List.map_nil, Prod.mk.injEq, DataW.agg.injEq, List.cons.injEq, and_true] at hx
  obtain ⟨⟨rfl, rfl⟩, _⟩ := hx
  have e0 := vkQ (show DataW.trod _ Tryz.prog W _ _ _ m _ _ = some (_, p0) from h0)
  have e1 := vkQ (show DataW.trod _ Tryz.prog W _ _ _ m _ _ = some (_, p1) from h1)
  obtain ⟨u, v, rfl⟩ := len2 hlen
  simp at e0 e1
  rw [e0, e1]
set_option maxRecDepth 100000 in
theorem veB {W : World} (h : laidMetH Tryz.prog fhLaid W) : RelsAt W ∧ CapAt W := by
 unfold fhLaid at h
 rw [MakeChecks.laidMetH_plain _ _ _ (by kernel_rfl)] at h
 obtain ⟨ps, ⟨g0, t0, cs0, f0, p0, q0, hg0, ht0, hv0, hd0, ⟨g1, t1, cs1, f1, p1, q1, hg1, ht1, hv1, hd1, _, _⟩, _⟩, _, _⟩ := h
 obtain rfl := Option.some.inj (gRels.symm.trans hg0)
 obtain rfl := Option.some.inj (tRels.symm.trans ht0)
 obtain rfl := Option.some.inj (gCap.symm.trans hg1)
 obtain rfl := Option.some.inj (tCap.symm.trans ht1)
 have b0 := World.var?_cell hg1 hv1 0
 have b1 := World.var?_cell hg1 hv1 1
 have e1 := vou (show DataW.trod _ Tryz.prog W _ _ _ _ _ _ = some (.agg [.lit (.int .i64 1), .lit (.int .i64 256)], _) from hd1)
 obtain ⟨m⟩ := cs1
 simp only at e1
 subst e1
 simp at b0 b1
 refine ⟨?_, b0, b1⟩
 obtain ⟨xs, m, rfl, hx, hlen, hn, hel⟩ := DataW.trod_array Tryz.underlying449 hd0
 have c2 : Tryz.prog.cellsOf 448 = 2 := by kernel_rfl
 have c4 : Tryz.prog.cellsOf 449 = 4 := by kernel_rfl
 rw [c4] at hlen
 rw [c2] at hel
 have h0 := hel 0 (by decide)
 have h1 := hel 1 (by decide)
 have r0 := World.var?_cell hg0 hv0 0
 have r1 := World.var?_cell hg0 hv0 1
 have r2 := World.var?_cell hg0 hv0 2
 have r3 := World.var?_cell hg0 hv0 3
 match xs, hn, hx, h0, h1 with
 | [(x0, p0), (x1, p1)], _, hx, h0, h1 =>
  simp only [Rows.laid_waywarden_prefix_rels, List.map_cons, List.map_nil, Prod.mk.injEq, DataW.agg.injEq, List.cons.injEq, and_true] at hx
  obtain ⟨⟨rfl, rfl⟩, _⟩ := hx
  have e0 := vkP (show DataW.trod _ Tryz.prog W _ _ _ m _ _ = some (_, p0) from h0)
  have e1 := vkP (show DataW.trod _ Tryz.prog W _ _ _ m _ _ = some (_, p1) from h1)
  obtain ⟨l⟩ := cs0
  obtain ⟨a, b, c, d, rfl⟩ := len4 hlen
  simp at e0 e1 r0 r1 r2 r3
  obtain ⟨rfl, rfl⟩ := e0
  obtain ⟨rfl, rfl⟩ := e1
  exact ⟨r0, r1, r2, r3⟩
theorem vov (os : Os) (args : Array Value) : laidMetH Tryz.prog fhLaid ((World.doorLaid Tryz.prog 400 os).forCall (fun _ _ => 0) ⟨#[], args, []⟩).memory :=
 laidMetH_of_parts3 (fuel := 8) (laidMet_of_run' 8 (by kernel_rfl) (by kernel_rfl)) (by kernel_rfl) (by kernel_rfl)
end

end Go.Proofs.YtgopnfacklmkaaaGreatDoor
