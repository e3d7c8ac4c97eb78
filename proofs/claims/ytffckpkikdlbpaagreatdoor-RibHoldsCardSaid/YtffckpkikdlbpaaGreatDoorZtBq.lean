/- Lemmas and contracts for the theorem of this claim: OrdV, OrdW, OrdI, OrdZ, LwA. -/
import Derived.Test.YtffckpkikdlbpaaGreatDoorZtBp
set_option linter.unusedSimpArgs false
set_option linter.unusedVariables false
namespace Go.Proofs.YtffckpkikdlbpaaGreatDoor
open Go.RowKit
structure RV (W : World) (a0 : Act) (sl : List Nat) (v : List Value) (L : Nat → Bool) (a : Act) (w : World) : Prop where
  kp : Kp W w
  df : a.defers = a0.defers
  sz : a.tmps.size = a0.tmps.size
  old : ∀ j, j ∉ sl → a.tmps.getD j undef = a0.tmps.getD j undef
  new : ∀ i, L i = true → ∀ k, sl[i]? = some k → a.tmps.getD k undef = v.getD i undef
theorem RV.start (W : World) (a0 : Act) (sl : List Nat) (v : List Value) : RV W a0 sl v (fun _ => false) a0 W.drew :=
  ⟨(Kp.refl W).drew, rfl, rfl, fun _ _ => rfl, fun _ h => by cases h⟩
theorem RV.put {W w w' : World} {a0 a : Act} {sl : List Nat} {v : List Value} {L : Nat → Bool} (h : RV W a0 sl v L a w) (i k : Nat) (hi : sl[i]? = some k) (hn : sl.Nodup) (hk : k < a0.tmps.size) (kp : Kp w w') {u : Value} (hu : v.getD i undef = u) : RV W a0 sl v (fun j => j == i || L j) (a.put (some k) u) w' := by
  subst hu
  have hks : k < a.tmps.size := by rw [h.sz]; exact hk
  have hg : ∀ j, (a.tmps.setIfInBounds k (v.getD i undef)).getD j undef = if j = k then v.getD i undef else a.tmps.getD j undef := fun j => by
    by_cases e : j = k
    · subst e
      rw [if_pos rfl]
      simp [Array.getD_eq_getD_getElem?, hks]
    · rw [if_neg e]
      simp only [Array.getD_eq_getD_getElem?]
      rw [Array.getElem?_setIfInBounds_ne (fun z => e z.symm)]
  refine ⟨h.kp.trans kp, h.df, by simpa [Act.put] using h.sz, fun j hj => ?_, fun j hj m hm => ?_⟩
  · show (a.tmps.setIfInBounds k (v.getD i undef)).getD j undef = _
    rw [hg, if_neg (fun e => hj (by rw [e]; exact List.mem_of_getElem? hi))]
    exact h.old j hj
  · show (a.tmps.setIfInBounds k (v.getD i undef)).getD m undef = _
    rw [hg]
    by_cases e : j = i
    · subst e
      rw [hi] at hm
      injection hm with hm
      rw [if_pos hm.symm]
    · have hne : m ≠ k := fun z => by
        subst z
        obtain ⟨h1, h2⟩ := List.getElem?_eq_some_iff.1 hi
        obtain ⟨h3, h4⟩ := List.getElem?_eq_some_iff.1 hm
        have hp := List.pairwise_iff_getElem.1 hn
        rcases Nat.lt_or_ge j i with hl | hl
        · exact hp j i h3 h1 hl (by rw [h2, h4])
        · exact hp i j h1 h3 (by omega) (by rw [h2, h4])
      rw [if_neg hne]
      refine h.new j ?_ m hm
      simpa [e] using hj
theorem slot_is {t : Array Value} {k : Nat} {v : Value} (h : t.getD k undef = v) : t[k]?.getD undef = v := by rw [← h, Array.getD_eq_getD_getElem?]
theorem wanted_all {ops : Array Oper} {o : Oper} {t : Array Value} (hg : o.guard = none) : Region.wanted o (yielded ops t) = true := by
  unfold Region.wanted
  rw [hg]
theorem wp_anyV {id : Nat} {P : Program} {Q : Exit → Act → World → Prop} {a0 : Act} {w : World} {l : List Oper} (sl : List Nat) (v : List Value) (hm : P.follows .mixedOrders = true) (hb : backB .any l.toArray = true)
    (step : ∀ (i : Nat) (o : Oper) (L : Nat → Bool) (a : Act) (w' : World), l[i]? = some o → (∀ j, j ∈ o.after.toList.map (·.on) → (∀ e ∈ o.after.toList, e.on = j → Region.binds .any e = true) → L j = true) → RV w a0 sl v L a w' →
      ∀ K : Act → World → Prop, (∀ a' w', RV w a0 sl v (fun j => j == i || L j) a' w' → K a' w') → if Region.wanted o (yielded l.toArray a.tmps) = true then Oper.wp P o a w' K Q else K (a.put o.dst undef) w')
    (fin : ∀ a w', Kp w w' → a.defers = a0.defers → a.tmps.size = a0.tmps.size → (∀ j, j ∉ sl → a.tmps.getD j undef = a0.tmps.getD j undef) → (∀ i, i < l.length → ∀ k, sl[i]? = some k → a.tmps.getD k undef = v.getD i undef) → Q .normal a w') : (Code.region id l.toArray true).wp P Q a0 w :=
  wp_region_inv hm (RV w a0 sl v) hb (fun i o L a w' ho _ hd hG K hK => step i o L a w' ho (fun j hj hb => by
    obtain ⟨e, he, rfl⟩ := List.mem_map.1 hj
    exact hd e (Array.mem_toList_iff.1 he) (hb e he rfl)) hG K hK) (fun L a w' hL hG => fin a w' hG.kp hG.df hG.sz hG.old (fun i hi => hG.new i (hL i hi))) (RV.start w a0 sl v)
end Go.Proofs.YtffckpkikdlbpaaGreatDoor

namespace Go.Proofs.YtffckpkikdlbpaaGreatDoor
open Go.RowKit
def wrS (t : Array Value) (zs : List (Nat × Value)) : Array Value := zs.foldl (fun t z => t.setIfInBounds z.1 z.2) t
theorem wrS_size : ∀ (zs : List (Nat × Value)) (t : Array Value), (wrS t zs).size = t.size
  | [], _ => rfl
  | z :: zs, t => by
    show (wrS (t.setIfInBounds z.1 z.2) zs).size = t.size
    rw [wrS_size zs, Array.size_setIfInBounds]
theorem wrS_other {j : Nat} : ∀ (zs : List (Nat × Value)) (t : Array Value), (∀ z ∈ zs, z.1 ≠ j) → (wrS t zs)[j]? = t[j]?
  | [], _, _ => rfl
  | z :: zs, t, h => by
    show (wrS (t.setIfInBounds z.1 z.2) zs)[j]? = t[j]?
    rw [wrS_other zs _ (fun y hy => h y (List.mem_cons_of_mem _ hy)), Array.getElem?_setIfInBounds_ne (h z List.mem_cons_self)]
theorem wrS_at : ∀ (zs : List (Nat × Value)) (t : Array Value), (zs.map Prod.fst).Nodup → ∀ z ∈ zs, z.1 < t.size → (wrS t zs)[z.1]? = some z.2
  | x :: zs, t, hn, z, hz, hlt => by
    show (wrS (t.setIfInBounds x.1 x.2) zs)[z.1]? = some z.2
    rw [List.map_cons, List.nodup_cons] at hn
    rcases List.mem_cons.1 hz with rfl | hz
    · rw [wrS_other zs _ (fun y hy e => hn.1 (List.mem_map.2 ⟨y, hy, e⟩))]
      simp [hlt]
    · exact wrS_at zs _ hn.2 z hz (by simpa using hlt)
theorem act_is {a a0 : Act} {sl : List Nat} {v : List Value} (hl : sl.length = v.length) (hn : sl.Nodup) (hdf : a.defers = a0.defers) (hsz : a.tmps.size = a0.tmps.size)
    (hold : ∀ j, j ∉ sl → a.tmps.getD j undef = a0.tmps.getD j undef) (hnew : ∀ i, i < sl.length → ∀ k, sl[i]? = some k → a.tmps.getD k undef = v.getD i undef) : a = { tmps := wrS a0.tmps (sl.zip v), defers := a0.defers } := by
  have ht : a.tmps = wrS a0.tmps (sl.zip v) := by
    refine Array.ext (by rw [hsz]; exact (wrS_size _ _).symm) (fun j h1 h2 => ?_)
    by_cases hj : j ∈ sl
    · obtain ⟨i, hi, e⟩ := List.mem_iff_getElem.1 hj
      have h3 := hnew i hi j (by rw [List.getElem?_eq_getElem hi, e])
      have hiv : i < v.length := by omega
      have hz : (j, v[i]) ∈ sl.zip v := List.mem_iff_getElem.2 ⟨i, by rw [List.length_zip]; omega, by rw [List.getElem_zip, e]⟩
      have h4 := wrS_at (sl.zip v) a0.tmps (by rw [List.map_fst_zip (by omega)]; exact hn) (j, v[i]) hz (by rw [← hsz]; exact h1)
      simp only at h4
      rw [Array.getElem?_eq_getElem h2, Option.some.injEq] at h4
      rw [h4]
      simpa [Array.getD_eq_getD_getElem?, h1, hiv] using h3
    · have h3 := hold j hj
      have h0 : j < a0.tmps.size := by rw [← hsz]; exact h1
      have h4 := wrS_other (sl.zip v) a0.tmps (j := j) (fun z hz e => hj (by subst e; exact (List.of_mem_zip hz).1))
      rw [Array.getElem?_eq_getElem h2, Array.getElem?_eq_getElem h0, Option.some.injEq] at h4
      rw [h4]
      simpa [Array.getD_eq_getD_getElem?, h1, h0] using h3
  cases a
  simp only at ht hdf
  rw [ht, hdf]
end Go.Proofs.YtffckpkikdlbpaaGreatDoor

namespace Go.Proofs.YtffckpkikdlbpaaGreatDoor
open Go.RowKit
theorem round_anyV {r id : Nat} {P : Program} {Q : Exit → Act → World → Prop} {a0 : Act} {w : World} {l : List Oper} (sl : List Nat) (v : List Value) (hm : P.follows .mixedOrders = true) (hb : backB .any l.toArray = true) (hnd : noDefer l.toArray = true) (hQ : ¬ LetsOut Q)
    (step : ∀ (i : Nat) (o : Oper) (L : Nat → Bool) (a : Act) (w' : World), l[i]? = some o → (∀ j, j ∈ o.after.toList.map (·.on) → (∀ e ∈ o.after.toList, e.on = j → Region.binds .any e = true) → L j = true) → RV w a0 sl v L a w' →
      ∀ K : Act → World → Prop, (∀ a' w', RV w a0 sl v (fun j => j == i || L j) a' w' → K a' w') → if Region.wanted o (yielded l.toArray a.tmps) = true then Oper.wp P o a w' K Q else K (a.put o.dst undef) w')
    (fin : ∀ a w', Kp w w' → a.defers = a0.defers → a.tmps.size = a0.tmps.size → (∀ j, j ∉ sl → a.tmps.getD j undef = a0.tmps.getD j undef) → (∀ i, i < l.length → ∀ k, sl[i]? = some k → a.tmps.getD k undef = v.getD i undef) → Q .normal a w') : (Code.region id l.toArray true).wpIn (Fence.wide.inRound r) 0 P Q a0 w := by
  refine wpIn_region_any hm (wpAnyIn_of_wpAny hQ hnd _ _ _ _ ?_)
  refine wpAny_inv (RV w a0 sl v) hb (fun i o L a w' ho _ hd hG K hK => step i o L a w' (by simpa using ho) (fun j hj hb => by
    obtain ⟨e, he, rfl⟩ := List.mem_map.1 hj
    exact hd e (Array.mem_toList_iff.1 he) (hb e he rfl)) hG K hK) (fun L a w' hL hG => ?_) _ _ _ _ (by simp) ?_ ?_
  · exact fin a w' hG.kp hG.df hG.sz hG.old (fun i hi => hG.new i (hL i (by simpa using hi)))
  · have : (Array.replicate l.toArray.size false).toList.countP (fun b => !b) ≤ (Array.replicate l.toArray.size false).toList.length := List.countP_le_length
    simpa using this
  · have e : (fun j => (Array.replicate l.toArray.size false).getD j false) = (fun _ => false) := by
      funext j
      simp only [Array.getD_eq_getD_getElem?]
      by_cases hj : j < l.toArray.size
      · rw [Array.getElem?_eq_getElem (by simpa using hj)]; simp
      · rw [Array.getElem?_eq_none (by simpa using hj)]; rfl
    rw [e]
    exact RV.start w a0 sl v
end Go.Proofs.YtffckpkikdlbpaaGreatDoor

namespace Go.Proofs.YtffckpkikdlbpaaGreatDoor
open Go.RowKit
def boolIs (x : Value) (b : Bool) : Bool := match x with
  | .bool c => c == b
  | _ => false
def wantV (v : List Value) (o : Oper) : Bool := match o.guard with
  | none => true
  | some (g, b) => boolIs (v.getD g undef) b
def depsB (o : Oper) (j : Nat) : Bool := o.after.toList.any (fun e => e.on == j) && o.after.toList.all (fun e => e.on != j || Region.binds .any e)
def guardB (o : Oper) : Bool := match o.guard with
  | none => true
  | some (g, _) => depsB o g
theorem depsB_spec {o : Oper} {j : Nat} (h : depsB o j = true) : j ∈ o.after.toList.map (·.on) ∧ ∀ e ∈ o.after.toList, e.on = j → Region.binds .any e = true := by
  unfold depsB at h
  rw [Bool.and_eq_true, List.any_eq_true, List.all_eq_true] at h
  obtain ⟨⟨e, he, h1⟩, h2⟩ := h
  refine ⟨List.mem_map.2 ⟨e, he, by simpa using h1⟩, fun e he hj => ?_⟩
  have := h2 e he
  rw [hj] at this
  simpa using this
theorem wanted_is {ops : Array Oper} {o : Oper} {t : Array Value} {g k : Nat} {b : Bool} {x : Value} (hg : o.guard = some (g, b)) (hk : (ops[g]?).bind (·.dst) = some k) (ht : t.getD k undef = x) : Region.wanted o (yielded ops t) = boolIs x b := by
  have e : (t[k]? = none ∧ x = undef) ∨ t[k]? = some x := by
    rw [Array.getD_eq_getD_getElem?] at ht
    cases e : t[k]? with
    | none => rw [e] at ht; exact .inl ⟨rfl, ht.symm⟩
    | some y => rw [e] at ht; exact .inr (by rw [← ht]; rfl)
  unfold Region.wanted yielded
  rw [hg]
  simp only [hk, Option.bind_some]
  rcases e with ⟨e, rfl⟩ | e
  · rw [e]
    rfl
  · rw [e]
    cases x <;> first | rfl | simp [boolIs]
theorem stepZ {P : Program} {Q : Exit → Act → World → Prop} {a0 : Act} {w : World} {l : List Oper} (sl : List Nat) (v : List Value) (U : List Bool) (hb : backB .any l.toArray = true) (hg : l.all guardB = true) (hd : l.map (·.dst) = sl.map some) (hl : sl.length = v.length) (hn : sl.Nodup) (hs : sl.all (fun k => decide (k < a0.tmps.size)) = true) (hU : l.map (wantV v) = U) (hV : List.zipWith (fun b x => if b = true then undef else x) U v = List.replicate U.length undef)
    (step : ∀ (i : Nat) (o : Oper) (a : Act) (w' : World), l[i]? = some o → wantV v o = true → (∀ j, depsB o j = true → a.tmps[sl.getD j 0]?.getD undef = v.getD j undef) → (∀ j, j ∉ sl → a.tmps[j]?.getD undef = a0.tmps.getD j undef) → Kp w w' →
      ∀ K : Act → World → Prop, (∀ u w'', Kp w' w'' → v.getD i undef = u → K (a.put o.dst u) w'') → Oper.wp P o a w' K Q)
    (i : Nat) (o : Oper) (L : Nat → Bool) (a : Act) (w' : World) (ho : l[i]? = some o) (hdep : ∀ j, j ∈ o.after.toList.map (·.on) → (∀ e ∈ o.after.toList, e.on = j → Region.binds .any e = true) → L j = true) (hG : RV w a0 sl v L a w')
    (K : Act → World → Prop) (hK : ∀ a' w', RV w a0 sl v (fun j => j == i || L j) a' w' → K a' w') : if Region.wanted o (yielded l.toArray a.tmps) = true then Oper.wp P o a w' K Q else K (a.put o.dst undef) w' := by
  have hdst : ∀ (i : Nat) (o : Oper), l[i]? = some o → ∃ k, sl[i]? = some k ∧ o.dst = some k := fun i o ho => by
    have h1 : (l.map (·.dst))[i]? = some o.dst := by rw [List.getElem?_map, ho]; rfl
    rw [hd, List.getElem?_map] at h1
    cases e : sl[i]? with
    | none => rw [e] at h1; cases h1
    | some k => rw [e] at h1; exact ⟨k, rfl, (Option.some.inj h1).symm⟩
  have hlen : l.length = sl.length := by have := congrArg List.length hd; simpa using this
  obtain ⟨k, hk, hok⟩ := hdst i o ho
  have hks : k < a0.tmps.size := of_decide_eq_true (List.all_eq_true.1 hs k (List.mem_of_getElem? hk))
  have hgo := List.all_eq_true.1 hg o (List.mem_of_getElem? ho)
  have hwant : Region.wanted o (yielded l.toArray a.tmps) = wantV v o := by
    cases eg : o.guard with
    | none =>
      rw [wanted_all eg]
      unfold wantV
      rw [eg]
    | some gb =>
      obtain ⟨g, b⟩ := gb
      unfold guardB at hgo
      rw [eg] at hgo
      obtain ⟨d1, d2⟩ := depsB_spec hgo
      have hLg := hdep g d1 d2
      have hgl : g < l.length := by
        obtain ⟨e, he, hj⟩ := List.mem_map.1 d1
        have h3 := backB_at hb (i := i) (o := o) (by simpa using ho) e (Array.mem_toList_iff.1 he) (d2 e he hj)
        have h4 := (List.getElem?_eq_some_iff.1 ho).1
        omega
      obtain ⟨kg, hkg, hog⟩ := hdst g l[g] (List.getElem?_eq_getElem hgl)
      have hk2 : (l.toArray[g]?).bind (·.dst) = some kg := by simp [hgl, hog]
      rw [wanted_is eg hk2 (hG.new g hLg kg hkg)]
      unfold wantV
      rw [eg]
  rw [hwant]
  cases hw : wantV v o with
  | true =>
    rw [if_pos rfl]
    refine step i o a w' ho hw (fun j hj => ?_) (fun j hj => ?_) hG.kp K (fun u w'' kp hu => ?_)
    · obtain ⟨d1, d2⟩ := depsB_spec hj
      have hjl : j < sl.length := by
        obtain ⟨e, he, hj2⟩ := List.mem_map.1 d1
        have h3 := backB_at hb (i := i) (o := o) (by simpa using ho) e (Array.mem_toList_iff.1 he) (d2 e he hj2)
        have h4 := (List.getElem?_eq_some_iff.1 ho).1
        omega
      have hsj : sl[j]? = some (sl.getD j 0) := by rw [List.getD_eq_getElem?_getD, List.getElem?_eq_getElem hjl]; rfl
      exact slot_is (hG.new j (hdep j d1 d2) _ hsj)
    · exact slot_is (hG.old j hj)
    · rw [hok]
      exact hK _ _ (hG.put i k hk hn hks kp hu)
  | false =>
    rw [if_neg (by simp), hok]
    refine hK _ _ (hG.put i k hk hn hks (Kp.refl _) ?_)
    have hUi : U[i]? = some false := by rw [← hU, List.getElem?_map, ho]; simp [hw]
    have h1 := congrArg (fun t => t[i]?) hV
    simp only [List.getElem?_zipWith, hUi] at h1
    have hil : i < v.length := by have := (List.getElem?_eq_some_iff.1 ho).1; omega
    rw [List.getElem?_eq_getElem hil] at h1
    have hiU : i < U.length := (List.getElem?_eq_some_iff.1 hUi).1
    simp [hiU] at h1
    simp [hil, h1]
theorem wp_anyZ {id : Nat} {P : Program} {Q : Exit → Act → World → Prop} {a0 : Act} {w : World} {l : List Oper} (sl : List Nat) (v : List Value) (U : List Bool) (hm : P.follows .mixedOrders = true) (hb : backB .any l.toArray = true) (hg : l.all guardB = true) (hd : l.map (·.dst) = sl.map some) (hl : sl.length = v.length) (hn : sl.Nodup) (hs : sl.all (fun k => decide (k < a0.tmps.size)) = true) (hU : l.map (wantV v) = U) (hV : List.zipWith (fun b x => if b = true then undef else x) U v = List.replicate U.length undef)
    (step : ∀ (i : Nat) (o : Oper) (a : Act) (w' : World), l[i]? = some o → wantV v o = true → (∀ j, depsB o j = true → a.tmps[sl.getD j 0]?.getD undef = v.getD j undef) → (∀ j, j ∉ sl → a.tmps[j]?.getD undef = a0.tmps.getD j undef) → Kp w w' →
      ∀ K : Act → World → Prop, (∀ u w'', Kp w' w'' → v.getD i undef = u → K (a.put o.dst u) w'') → Oper.wp P o a w' K Q)
    (fin : ∀ w', Kp w w' → Q .normal { tmps := wrS a0.tmps (sl.zip v), defers := a0.defers } w') : (Code.region id l.toArray true).wp P Q a0 w := by
  refine wp_anyV sl v hm hb (stepZ sl v U hb hg hd hl hn hs hU hV step) (fun a w' kp df sz old new => ?_)
  have hlen : l.length = sl.length := by have := congrArg List.length hd; simpa using this
  rw [act_is hl hn df sz old (fun i hi k hk => new i (by omega) k hk)]
  exact fin w' kp
theorem round_anyZ {r id : Nat} {P : Program} {Q : Exit → Act → World → Prop} {a0 : Act} {w : World} {l : List Oper} (sl : List Nat) (v : List Value) (U : List Bool) (hm : P.follows .mixedOrders = true) (hb : backB .any l.toArray = true) (hnd : noDefer l.toArray = true) (hQ : ¬ LetsOut Q) (hg : l.all guardB = true) (hd : l.map (·.dst) = sl.map some) (hl : sl.length = v.length) (hn : sl.Nodup) (hs : sl.all (fun k => decide (k < a0.tmps.size)) = true) (hU : l.map (wantV v) = U) (hV : List.zipWith (fun b x => if b = true then undef else x) U v = List.replicate U.length undef)
    (step : ∀ (i : Nat) (o : Oper) (a : Act) (w' : World), l[i]? = some o → wantV v o = true → (∀ j, depsB o j = true → a.tmps[sl.getD j 0]?.getD undef = v.getD j undef) → (∀ j, j ∉ sl → a.tmps[j]?.getD undef = a0.tmps.getD j undef) → Kp w w' →
      ∀ K : Act → World → Prop, (∀ u w'', Kp w' w'' → v.getD i undef = u → K (a.put o.dst u) w'') → Oper.wp P o a w' K Q)
    (fin : ∀ w', Kp w w' → Q .normal { tmps := wrS a0.tmps (sl.zip v), defers := a0.defers } w') : (Code.region id l.toArray true).wpIn (Fence.wide.inRound r) 0 P Q a0 w := by
  refine round_anyV sl v hm hb hnd hQ (stepZ sl v U hb hg hd hl hn hs hU hV step) (fun a w' kp df sz old new => ?_)
  have hlen : l.length = sl.length := by have := congrArg List.length hd; simpa using this
  rw [act_is hl hn df sz old (fun i hi k hk => new i (by omega) k hk)]
  exact fin w' kp
end Go.Proofs.YtffckpkikdlbpaaGreatDoor

namespace Go.Proofs.YtffckpkikdlbpaaGreatDoor
open Go.RowKit Go.Maps
structure Good (T : Tb) : Prop where
  ok : TbOk T
  xs : ∀ r ∈ T.l, r.x < 4294967296
  own : ∀ k (hk : k < T.c.own.length), T.c.own[k].a < 4294967296
theorem hear_x {c : Cf} {r : Rt} {h : Hd} {now : Int} (hr : r.x < 4294967296) (hh : h.a < 4294967296) : (hearR c r h now).x < 4294967296 := by
  unfold hearR newR lostR
  repeat' split
  all_goals first | exact hr | exact hh
theorem was_x {T : Tb} (h : ∀ r ∈ T.l, r.x < 4294967296) (p : PI) : (wasR p T.l).x < 4294967296 := by
  unfold wasR
  cases e : getR p T.l with
  | none => exact (by decide : (0 : Nat) < 4294967296)
  | some r => exact h r (getR_mem e).1
theorem set_x {L : List Rt} {r : Rt} (h : ∀ x ∈ L, x.x < 4294967296) (hr : r.x < 4294967296) : ∀ x ∈ setR r L, x.x < 4294967296 := fun x hx => by
  rcases mem_setR.1 hx with ⟨rfl, _⟩ | ⟨hx, _⟩
  · exact hr
  · exact h x hx
theorem Good.heard {T : Tb} (h : Good T) (p : PI) {k : Hd} (now : Int) (hk : k.a < 4294967296) : Good (heardT T p k now).1 := by
  refine ⟨heard_ok h.ok p k now, ?_, ?_⟩
  · unfold heardT
    repeat' split
    all_goals first | exact h.xs | exact set_x h.xs (hear_x (was_x h.xs p) hk)
  · have : (heardT T p k now).1.c = T.c := by unfold heardT; (repeat' split) <;> rfl
    rw [this]
    exact h.own
theorem lostA_x {T : Tb} (h : Good T) (f : Int) : ∀ i, ∀ r ∈ (lostA T f i).1, r.x < 4294967296
  | 0 => by unfold lostA; rw [List.take_zero]; exact h.xs
  | i + 1 => by
    by_cases hi : i < (validL T.l).length
    · rw [lostA_next hi]
      unfold loseG
      split
      · exact set_x (lostA_x h f i) (lose_x (h.xs _ (List.mem_filter.1 (List.getElem_mem hi)).1))
      · exact lostA_x h f i
    · have : lostA T f (i + 1) = lostA T f i := by unfold lostA; rw [List.take_of_length_le (by omega), List.take_of_length_le (by omega)]
      rw [this]
      exact lostA_x h f i
theorem Good.at {T : Tb} (h : Good T) {now : Int} (ht : 0 ≤ now ∧ now ≤ 4611686018426387904) : Good ⟨T.c, T.l, now, T.rf⟩ := ⟨⟨h.ok.c, h.ok.u, h.ok.r, h.ok.n, ht, h.ok.f⟩, h.xs, h.own⟩
theorem Good.lost {T : Tb} (h : Good T) (f now : Int) : Good (lostT T f now).1 := by
  refine ⟨lost_ok h.ok f now, ?_, ?_⟩
  · unfold lostT
    split
    · split
      · next ht =>
        have h2 := lostA_x (h.at (now := now) (by have := timely_iff.1 ht; omega)) f (validL T.l).length
        unfold lostA at h2
        rw [List.take_length, ← lose_valid] at h2
        exact h2
      · exact h.xs
    · exact h.xs
  · have : (lostT T f now).1.c = T.c := by unfold lostT; (repeat' split) <;> rfl
    rw [this]
    exact h.own
theorem expG_x {c : Cf} {now : Int} : ∀ (k : Nat) (L : List Rt), UpR L → (∀ r ∈ L, r.x < 4294967296) → ∀ r ∈ (expG c now k L).1, r.x < 4294967296
  | 0, L, _, h => h
  | k + 1, L, u, h => by
    unfold expG
    split
    · exact h
    · next r e =>
      split
      · exact h
      · exact expG_x k _ (setR_up _ u) (set_x h (exp_x (h r ((firstR_ok u).2 r e).1)))
theorem Good.exp {T : Tb} (h : Good T) (now : Int) : Good (expT T now).1 := by
  refine ⟨exp_ok h.ok now, ?_, ?_⟩
  · unfold expT
    split
    · exact expG_x 1000 T.l h.ok.u h.xs
    · exact h.xs
  · have : (expT T now).1.c = T.c := by unfold expT; split <;> rfl
    rw [this]
    exact h.own
theorem Good.seen {T : Tb} (h : Good T) : Good (seenT T).1 :=
  ⟨seen_ok h.ok, fun r hr => by obtain ⟨y, hy, rfl⟩ := List.mem_map.1 hr; exact h.xs y hy, h.own⟩
theorem Good.new {c : Cf} (hc : okCf c = true) (ho : ∀ k (hk : k < c.own.length), c.own[k].a < 4294967296) : Good (newT c) := by
  refine ⟨new_ok hc, fun r hr => ?_, ho⟩
  rcases ((putAll_own c.own [] List.Pairwise.nil).2.1 r).1 hr with ⟨p, _, rfl⟩ | ⟨h, _⟩
  · exact (by decide : (0 : Nat) < 4294967296)
  · simp at h
def Sm (bs : List Nat) (W W' : World) : Prop := ∀ b ∈ bs, W'.heap[b]? = W.heap[b]?
theorem Sm.trans {bs : List Nat} {U V W : World} (h : Sm bs U V) (k : Sm bs V W) : Sm bs U W := fun b hb => (k b hb).trans (h b hb)
theorem Sm.blk {bs : List Nat} {W W' : World} (h : Sm bs W W') {b : Nat} (hb : b ∈ bs) {t : TypeId} {cs : Array Value} (k : Blk W b t cs) : Blk W' b t cs := (h b hb).trans k
theorem Sm.rd {α : Type} {bs : List Nat} {W W' : World} (h : Sm bs W W') {sz : Nat} {enc : α → List Value} {A : Option Addr} {xs : List α} (hA : ∀ a, A = some a → a.block ∈ bs) (k : Rd W sz enc A xs) : Rd W' sz enc A xs := fun i hi => by
  obtain ⟨b, off, e, hc⟩ := k i hi
  exact ⟨b, off, e, fun j u hu => (World.cell?_of_block (w := W) (h b (hA ⟨b, off, none⟩ e))).trans (hc j u hu)⟩
theorem Sm.of_kp {bs : List Nat} {W W' : World} (k : Kp W W') (hb : ∀ b ∈ bs, b < W.heap.size) : Sm bs W W' := fun b h => k.heap (hb b h)
theorem Sm.cut {bs cs : List Nat} {W W' : World} (h : Sm bs W W') (hc : ∀ b ∈ cs, b ∈ bs) : Sm cs W W' := fun b hb => h b (hc b hb)
structure TS (w0 W : World) (B t : Nat) (T : Tb) (bs : List Nat) : Prop where
  kp : Kp w0 W
  lb : w0.heap.size ≤ B
  tm : ∃ F, TabM W B t F T ∧ ∀ b ∈ bs, b ∉ F
  lt : ∀ b ∈ bs, b < W.heap.size
  gd : Good T
  ca : CapAt w0
  fa : FacAt w0
theorem TS.keep {w0 W W' : World} {B t : Nat} {T : Tb} {bs : List Nat} (h : TS w0 W B t T bs) (k : Kp W W') : TS w0 W' B t T bs := by
  obtain ⟨F, hT, hn⟩ := h.tm
  exact ⟨h.kp.trans k, h.lb, ⟨F, hT.keep k, hn⟩, fun b hb => Nat.lt_of_lt_of_le (h.lt b hb) k.size, h.gd, h.ca, h.fa⟩
theorem TS.add {w0 W : World} {B t : Nat} {T : Tb} {bs : List Nat} (h : TS w0 W B t T bs) {W' : World} (k : Kp W W') {cs : List Nat} (hc : ∀ b ∈ cs, W.heap.size ≤ b ∧ b < W'.heap.size) : TS w0 W' B t T (cs ++ bs) := by
  obtain ⟨F, hT, hn⟩ := h.tm
  refine ⟨h.kp.trans k, h.lb, ⟨F, hT.keep k, fun b hb => ?_⟩, fun b hb => ?_, h.gd, h.ca, h.fa⟩
  · rcases List.mem_append.1 hb with hb | hb
    · exact fun z => by have := (hT.lo b z).2; have := (hc b hb).1; omega
    · exact hn b hb
  · rcases List.mem_append.1 hb with hb | hb
    · exact (hc b hb).2
    · exact Nat.lt_of_lt_of_le (h.lt b hb) k.size
theorem TS.cut {w0 W : World} {B t : Nat} {T : Tb} {bs cs : List Nat} (h : TS w0 W B t T bs) (hc : ∀ b ∈ cs, b ∈ bs) : TS w0 W B t T cs := by
  obtain ⟨F, hT, hn⟩ := h.tm
  exact ⟨h.kp, h.lb, ⟨F, hT, fun b hb => hn b (hc b hb)⟩, fun b hb => h.lt b (hc b hb), h.gd, h.ca, h.fa⟩
theorem TS.other {w0 W W' : World} {B t : Nat} {T : Tb} {bs cs : List Nat} (h : TS w0 W B t T bs) (hc : ∀ b ∈ cs, b ∈ bs ∧ w0.heap.size ≤ b ∧ ∃ ty xs, Blk W b ty xs ∧ ty ≠ 29) (k : Only cs W W') : TS w0 W' B t T bs := by
  obtain ⟨F, hT, hn⟩ := h.tm
  exact ⟨k.kp h.kp (fun b hb => (hc b hb).2.1), h.lb, ⟨F, hT.turn k (fun b hb => ⟨hn b (hc b hb).1, (hc b hb).2.2⟩), hn⟩, fun b hb => Nat.lt_of_lt_of_le (h.lt b hb) k.size, h.gd, h.ca, h.fa⟩
theorem TS.turn {w0 W W' : World} {B t : Nat} {F : List Nat} {T T' : Tb} {bs : List Nat} (h : TS w0 W B t T bs) (hF : TabM W B t F T) (hn : ∀ b ∈ bs, b ∉ F) (k : TabT W W' B t F T') (g : Good T') : TS w0 W' B t T' bs ∧ Sm bs W W' := by
  obtain ⟨F', h1, h2, h3⟩ := k
  refine ⟨⟨h2.kp h.kp (fun b hb => Nat.le_trans h.lb (hF.lo b hb).1), h.lb, ⟨F', h1, fun b hb z => ?_⟩, fun b hb => Nat.lt_of_lt_of_le (h.lt b hb) h2.size, g, h.ca, h.fa⟩, fun b hb => h2.block b (h.lt b hb) (hn b hb)⟩
  rcases h3 b z with e | e
  · exact hn b hb e
  · have := h.lt b hb
    omega
theorem TS.gs {w0 W : World} {B t : Nat} {T : Tb} {bs : List Nat} (h : TS w0 W B t T bs) : 1 < B ∧ 0 < B ∧ CapAt W ∧ FacAt W := by
  have h1 := World.block_lt_of_cell? w0 _ h.ca.1
  have h2 := World.block_lt_of_cell? w0 _ h.fa.1
  have := h.lb
  exact ⟨Nat.lt_of_lt_of_le h1 this, Nat.lt_of_lt_of_le h2 this, h.ca.keep h.kp, h.fa.keep h.kp⟩
def TurnP (w0 W : World) (B t : Nat) (T' : Tb) (bs : List Nat) (v : Value) (e : Ending) (W' : World) : Prop := e = .returned v ∧ TS w0 W' B t T' bs ∧ Sm bs W W'
theorem hear_TS (w0 W : World) (B t : Nat) (T : Tb) (bs : List Nat) (S : TS w0 W B t T bs) (p : PI) (h : Hd) (now : Int) (hp : wfP p) (hh : h.a < 4294967296) :
    Calls Tryz.prog 23 #[.pointer (some ⟨t, 0, none⟩), pfV p, .agg #[.int .i64 h.f, .int .u32 (h.a : Int), .int .i64 h.m], .int .i64 now] W (TurnP w0 W B t (heardT T p h now).1 bs (.tuple #[roV (heardT T p h now).2.1, .int .i64 (heardT T p h now).2.2])) := by
  obtain ⟨F, hT, hn⟩ := S.tm
  refine (bhear_any B t F T p h now W hT S.gd.ok S.gd.xs S.gd.own S.gs.2.2.1 hp hh).mono ?_
  rintro e W' ⟨rfl, k⟩
  exact ⟨rfl, S.turn hT hn k (S.gd.heard p now hh)⟩
theorem exp_TS (w0 W : World) (B t : Nat) (T : Tb) (bs : List Nat) (S : TS w0 W B t T bs) (now : Int) :
    Calls Tryz.prog 27 #[.pointer (some ⟨t, 0, none⟩), .int .i64 now] W (TurnP w0 W B t (expT T now).1 bs (.tuple #[.int .i64 (expT T now).2.1, .int .i64 (expT T now).2.2])) := by
  obtain ⟨F, hT, hn⟩ := S.tm
  refine (bexp_any B t F T now W hT S.gd.ok S.gd.xs S.gd.own S.gs.2.2.1 S.gs.1).mono ?_
  rintro e W' ⟨rfl, k⟩
  exact ⟨rfl, S.turn hT hn k (S.gd.exp now)⟩
theorem TS.new {w0 W W' : World} {t : Nat} {F : List Nat} {T : Tb} {bs : List Nat} (k0 : Kp w0 W) (hM : TabM W' W.heap.size t F T) (k : Kp W W') (hb : ∀ b ∈ bs, b < W.heap.size) (g : Good T) (ca : CapAt w0) (fa : FacAt w0) : TS w0 W' W.heap.size t T bs :=
  ⟨k0.trans k, k0.size, ⟨F, hM, fun b h z => by have := (hM.lo b z).1; have := hb b h; omega⟩, fun b h => Nat.lt_of_lt_of_le (hb b h) k.size, g, ca, fa⟩
end Go.Proofs.YtffckpkikdlbpaaGreatDoor
