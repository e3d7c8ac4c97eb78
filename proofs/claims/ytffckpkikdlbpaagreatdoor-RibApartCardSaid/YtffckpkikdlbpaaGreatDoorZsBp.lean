/- Lemmas and contracts for the theorem of this claim: Ord, OrdV, OrdW, OrdZ. -/
import Derived.Test.YtffckpkikdlbpaaGreatDoorZsBh
import Derived.RegionTactic
set_option linter.unusedSimpArgs false
set_option linter.unusedVariables false
namespace Go.Proofs.YtffckpkikdlbpaaGreatDoor
open Go.RowKit
def backB (md : Region.Mode) (ops : Array Oper) : Bool :=
  (List.range ops.size).all fun i => match ops[i]? with | some o => o.after.all fun e => !Region.binds md e || decide (e.on < i) | none => true
theorem backB_at {md : Region.Mode} {ops : Array Oper} (h : backB md ops = true) {i : Nat} {o : Oper} (ho : ops[i]? = some o) : ∀ e ∈ o.after, Region.binds md e = true → e.on < i := by
  intro e he hb
  have hi := (Array.getElem?_eq_some_iff.1 ho).1
  have h1 := List.all_eq_true.1 h i (List.mem_range.2 hi)
  rw [ho] at h1
  simp only at h1
  have h2 := Array.all_eq_true_iff_forall_mem.1 h1 e he
  simpa [hb] using h2
section
variable {P : Program} {md : Region.Mode} {ops : Array Oper} {Q : Exit → Act → World → Prop}
theorem all_of_ready {listed : Array Bool} (hb : backB md ops = true) (hs : listed.size = ops.size) (hr : Region.ready md ops listed = []) : ∀ i, i < ops.size → listed.getD i false = true := by
  intro i
  induction i using Nat.strongRecOn with
  | _ i ih =>
    intro hi
    cases hl : listed.getD i false with
    | true => rfl
    | false =>
      have h1 : i ∈ Region.ready md ops listed := by
        refine mem_ready.2 ⟨?_, ops[i], Array.getElem?_eq_getElem hi, fun e he hbi => ?_⟩
        · have : i < listed.size := by omega
          simp only [Array.getD_eq_getD_getElem?, Array.getElem?_eq_getElem this, Option.getD_some] at hl ⊢
          exact hl
        · have h2 := backB_at hb (Array.getElem?_eq_getElem hi) e he hbi
          exact ih e.on h2 (by omega)
      rw [hr] at h1
      cases h1
theorem wpAny_inv (G : (Nat → Bool) → Act → World → Prop) (hb : backB md ops = true)
    (step : ∀ (i : Nat) (o : Oper) (L : Nat → Bool) (a : Act) (w : World), ops[i]? = some o → L i = false → (∀ e ∈ o.after, Region.binds md e = true → L e.on = true) → G L a w →
      ∀ K : Act → World → Prop, (∀ a' w', G (fun j => j == i || L j) a' w' → K a' w') → if Region.wanted o (yielded ops a.tmps) = true then Oper.wp P o a w K Q else K (a.put o.dst undef) w)
    (fin : ∀ L a w, (∀ i, i < ops.size → L i = true) → G L a w → Q .normal a w) :
    ∀ (fuel : Nat) (listed : Array Bool) (a : Act) (w : World), listed.size = ops.size → listed.toList.countP (fun b => !b) ≤ fuel → G (fun j => listed.getD j false) a w → wpAny P md ops Q fuel listed a w := by
  intro fuel
  induction fuel with
  | zero =>
    intro listed a w hs hc hG
    have hall : ∀ i, i < ops.size → listed.getD i false = true := by
      intro i hi
      have h0 := List.countP_eq_zero.1 (Nat.le_zero.1 hc)
      have hi' : i < listed.size := by omega
      have := h0 listed[i] (by rw [Array.mem_toList_iff]; exact Array.getElem_mem hi')
      simp only [Array.getD_eq_getD_getElem?, Array.getElem?_eq_getElem hi', Option.getD_some]
      simpa using this
    refine ⟨?_, fin _ _ _ hall hG⟩
    refine List.eq_nil_iff_forall_not_mem.2 fun j hj => ?_
    obtain ⟨h1, o, ho, _⟩ := mem_ready.1 hj
    have hlt := (Array.getElem?_eq_some_iff.1 ho).1
    have h2 := hall j hlt
    have hj' : j < listed.size := by omega
    simp only [Array.getD_eq_getD_getElem?, Array.getElem?_eq_getElem hj', Option.getD_some] at h1 h2
    rw [h1] at h2
    cases h2
  | succ fuel ih =>
    intro listed a w hs hc hG
    refine ⟨fun hr => fin _ _ _ (all_of_ready hb hs hr) hG, fun i hi => ?_⟩
    obtain ⟨h1, o, ho, hdep⟩ := mem_ready.1 hi
    have hlt := (Array.getElem?_eq_some_iff.1 ho).1
    have hi' : i < listed.size := by omega
    have hli : listed[i] = false := by
      simpa only [Array.getD_eq_getD_getElem?, Array.getElem?_eq_getElem hi', Option.getD_some] using h1
    have hLi : (fun j => listed.getD j false) i = false := by
      simp only [Array.getD_eq_getD_getElem?, Array.getElem?_eq_getElem hi', Option.getD_some]; exact hli
    refine wpOp_step ho (fun K hK => step i o _ a w ho hLi hdep hG K (fun a' w' hG' => hK a' w' (ih _ a' w' (by simpa using hs) ?_ ?_)))
    · have hset : (listed.setIfInBounds i true).toList = listed.toList.set i true := by simp
      have hl2 : i < listed.toList.length := by simpa using hi'
      rw [hset, List.countP_set hl2]
      have : listed.toList[i] = false := by simpa using hli
      rw [this]
      have hpos : 0 < listed.toList.countP (fun b => !b) := List.countP_pos_iff.2 ⟨false, by rw [← this]; exact List.getElem_mem hl2, rfl⟩
      have hc2 := hc
      simp only [Bool.not_false, if_true, Bool.not_true]
      rw [if_neg (by simp)]
      omega
    · have e : (fun j => (listed.setIfInBounds i true).getD j false) = (fun j => j == i || listed.getD j false) := by
        funext j
        by_cases hj : j = i
        · subst hj
          simp [Array.getD_eq_getD_getElem?, hi']
        · have : (j == i) = false := by simpa using hj
          rw [this, Bool.false_or]
          simp only [Array.getD_eq_getD_getElem?]
          rw [Array.getElem?_setIfInBounds_ne (fun h => hj h.symm)]
      rw [e]
      exact hG'
end
theorem wp_region_inv {P : Program} {id : Nat} {Q : Exit → Act → World → Prop} {a : Act} {w : World} {l : List Oper} (hm : P.follows .mixedOrders = true) (G : (Nat → Bool) → Act → World → Prop) (hb : backB .any l.toArray = true)
    (step : ∀ (i : Nat) (o : Oper) (L : Nat → Bool) (a : Act) (w : World), l[i]? = some o → L i = false → (∀ e ∈ o.after, Region.binds .any e = true → L e.on = true) → G L a w →
      ∀ K : Act → World → Prop, (∀ a' w', G (fun j => j == i || L j) a' w' → K a' w') → if Region.wanted o (yielded l.toArray a.tmps) = true then Oper.wp P o a w K Q else K (a.put o.dst undef) w)
    (fin : ∀ L a w, (∀ i, i < l.length → L i = true) → G L a w → Q .normal a w) (h0 : G (fun _ => false) a w.drew) : (Code.region id l.toArray true).wp P Q a w := by
  refine wp_region_any hm (wpAny_inv G hb (fun i o L a w ho => step i o L a w (by simpa using ho)) (fun L a w h => fin L a w (by simpa using h)) _ _ _ _ (by simp) ?_ ?_)
  · have : (Array.replicate l.toArray.size false).toList.countP (fun b => !b) ≤ (Array.replicate l.toArray.size false).toList.length := List.countP_le_length
    simpa using this
  · have e : (fun j => (Array.replicate l.toArray.size false).getD j false) = (fun _ => false) := by
      funext j
      simp only [Array.getD_eq_getD_getElem?]
      by_cases hj : j < l.toArray.size
      · rw [Array.getElem?_eq_getElem (by simpa using hj)]; simp
      · rw [Array.getElem?_eq_none (by simpa using hj)]; rfl
    rw [e]
    exact h0
end Go.Proofs.YtffckpkikdlbpaaGreatDoor

namespace Go.Proofs.YtffckpkikdlbpaaGreatDoor
open Go.RowKit
structure RV (W : World) (a0 : Act) (sl : List Nat) (v : List Value) (L : Nat → Bool) (a : Act) (w : World) : Prop where
  kp : Kp W w
  df : a.defers = a0.defers
  sz : a.tmps.size = a0.tmps.size
  old : ∀ j, j ∉ sl → a.tmps.getD j undef = a0.tmps.getD j undef
  new : ∀ i, L i = true → ∀ k, sl[i]? = some k → a.tmps.getD k undef = v.getD i undef
theorem RV.start (W : World) (a0 : Act) (sl : List Nat) (v : List Value) : RV W a0 sl v (fun _ => false) a0 W.drew :=
  ⟨(Kp.refl W).drew, rfl, rfl, fun _ _ => rfl, fun _ h => by cases h⟩
theorem RV.put {W w w' : World} {a0 a : Act} {sl : List Nat} {v : List Value} {L : Nat → Bool} (h : RV W a0 sl v L a w) (i k : Nat) (hi : sl[i]? = some k) (hn : sl.Nodup) (hk : k < a0.tmps.size) (kp : Kp w w') {u : Value} (hu : v.getD i undef = u) : RV W a0 sl v (fun j => j == i || L j) (a.put (some k) u) w' := by
  subst hu
  have hks : k < a.tmps.size := by rw [h.sz]; exact hk
  have hg : ∀ j, (a.tmps.setIfInBounds k (v.getD i undef)).getD j undef = if j = k then v.getD i undef else a.tmps.getD j undef := fun j => by
    by_cases e : j = k
    · subst e
      rw [if_pos rfl]
      simp [Array.getD_eq_getD_getElem?, hks]
    · rw [if_neg e]
      simp only [Array.getD_eq_getD_getElem?]
      rw [Array.getElem?_setIfInBounds_ne (fun z => e z.symm)]
  refine ⟨h.kp.trans kp, h.df, by simpa [Act.put] using h.sz, fun j hj => ?_, fun j hj m hm => ?_⟩
  · show (a.tmps.setIfInBounds k (v.getD i undef)).getD j undef = _
    rw [hg, if_neg (fun e => hj (by rw [e]; exact List.mem_of_getElem? hi))]
    exact h.old j hj
  · show (a.tmps.setIfInBounds k (v.getD i undef)).getD m undef = _
    rw [hg]
    by_cases e : j = i
    · subst e
      rw [hi] at hm
      injection hm with hm
      rw [if_pos hm.symm]
    · have hne : m ≠ k := fun z => by
        subst z
        obtain ⟨h1, h2⟩ := List.getElem?_eq_some_iff.1 hi
        obtain ⟨h3, h4⟩ := List.getElem?_eq_some_iff.1 hm
        have hp := List.pairwise_iff_getElem.1 hn
        rcases Nat.lt_or_ge j i with hl | hl
        · exact hp j i h3 h1 hl (by rw [h2, h4])
        · exact hp i j h1 h3 (by omega) (by rw [h2, h4])
      rw [if_neg hne]
      refine h.new j ?_ m hm
      simpa [e] using hj
theorem slot_is {t : Array Value} {k : Nat} {v : Value} (h : t.getD k undef = v) : t[k]?.getD undef = v := by rw [← h, Array.getD_eq_getD_getElem?]
theorem wanted_all {ops : Array Oper} {o : Oper} {t : Array Value} (hg : o.guard = none) : Region.wanted o (yielded ops t) = true := by
  unfold Region.wanted
  rw [hg]
theorem wp_anyV {id : Nat} {P : Program} {Q : Exit → Act → World → Prop} {a0 : Act} {w : World} {l : List Oper} (sl : List Nat) (v : List Value) (hm : P.follows .mixedOrders = true) (hb : backB .any l.toArray = true)
    (step : ∀ (i : Nat) (o : Oper) (L : Nat → Bool) (a : Act) (w' : World), l[i]? = some o → (∀ j, j ∈ o.after.toList.map (·.on) → (∀ e ∈ o.after.toList, e.on = j → Region.binds .any e = true) → L j = true) → RV w a0 sl v L a w' →
      ∀ K : Act → World → Prop, (∀ a' w', RV w a0 sl v (fun j => j == i || L j) a' w' → K a' w') → if Region.wanted o (yielded l.toArray a.tmps) = true then Oper.wp P o a w' K Q else K (a.put o.dst undef) w')
    (fin : ∀ a w', Kp w w' → a.defers = a0.defers → a.tmps.size = a0.tmps.size → (∀ j, j ∉ sl → a.tmps.getD j undef = a0.tmps.getD j undef) → (∀ i, i < l.length → ∀ k, sl[i]? = some k → a.tmps.getD k undef = v.getD i undef) → Q .normal a w') : (Code.region id l.toArray true).wp P Q a0 w :=
  wp_region_inv hm (RV w a0 sl v) hb (fun i o L a w' ho _ hd hG K hK => step i o L a w' ho (fun j hj hb => by
    obtain ⟨e, he, rfl⟩ := List.mem_map.1 hj
    exact hd e (Array.mem_toList_iff.1 he) (hb e he rfl)) hG K hK) (fun L a w' hL hG => fin a w' hG.kp hG.df hG.sz hG.old (fun i hi => hG.new i (hL i hi))) (RV.start w a0 sl v)
end Go.Proofs.YtffckpkikdlbpaaGreatDoor

namespace Go.Proofs.YtffckpkikdlbpaaGreatDoor
open Go.RowKit
def wrS (t : Array Value) (zs : List (Nat × Value)) : Array Value := zs.foldl (fun t z => t.setIfInBounds z.1 z.2) t
theorem wrS_size : ∀ (zs : List (Nat × Value)) (t : Array Value), (wrS t zs).size = t.size
  | [], _ => rfl
  | z :: zs, t => by
    show (wrS (t.setIfInBounds z.1 z.2) zs).size = t.size
    rw [wrS_size zs, Array.size_setIfInBounds]
theorem wrS_other {j : Nat} : ∀ (zs : List (Nat × Value)) (t : Array Value), (∀ z ∈ zs, z.1 ≠ j) → (wrS t zs)[j]? = t[j]?
  | [], _, _ => rfl
  | z :: zs, t, h => by
    show (wrS (t.setIfInBounds z.1 z.2) zs)[j]? = t[j]?
    rw [wrS_other zs _ (fun y hy => h y (List.mem_cons_of_mem _ hy)), Array.getElem?_setIfInBounds_ne (h z List.mem_cons_self)]
theorem wrS_at : ∀ (zs : List (Nat × Value)) (t : Array Value), (zs.map Prod.fst).Nodup → ∀ z ∈ zs, z.1 < t.size → (wrS t zs)[z.1]? = some z.2
  | x :: zs, t, hn, z, hz, hlt => by
    show (wrS (t.setIfInBounds x.1 x.2) zs)[z.1]? = some z.2
    rw [List.map_cons, List.nodup_cons] at hn
    rcases List.mem_cons.1 hz with rfl | hz
    · rw [wrS_other zs _ (fun y hy e => hn.1 (List.mem_map.2 ⟨y, hy, e⟩))]
      simp [hlt]
    · exact wrS_at zs _ hn.2 z hz (by simpa using hlt)
theorem act_is {a a0 : Act} {sl : List Nat} {v : List Value} (hl : sl.length = v.length) (hn : sl.Nodup) (hdf : a.defers = a0.defers) (hsz : a.tmps.size = a0.tmps.size)
    (hold : ∀ j, j ∉ sl → a.tmps.getD j undef = a0.tmps.getD j undef) (hnew : ∀ i, i < sl.length → ∀ k, sl[i]? = some k → a.tmps.getD k undef = v.getD i undef) : a = { tmps := wrS a0.tmps (sl.zip v), defers := a0.defers } := by
  have ht : a.tmps = wrS a0.tmps (sl.zip v) := by
    refine Array.ext (by rw [hsz]; exact (wrS_size _ _).symm) (fun j h1 h2 => ?_)
    by_cases hj : j ∈ sl
    · obtain ⟨i, hi, e⟩ := List.mem_iff_getElem.1 hj
      have h3 := hnew i hi j (by rw [List.getElem?_eq_getElem hi, e])
      have hiv : i < v.length := by omega
      have hz : (j, v[i]) ∈ sl.zip v := List.mem_iff_getElem.2 ⟨i, by rw [List.length_zip]; omega, by rw [List.getElem_zip, e]⟩
      have h4 := wrS_at (sl.zip v) a0.tmps (by rw [List.map_fst_zip (by omega)]; exact hn) (j, v[i]) hz (by rw [← hsz]; exact h1)
      simp only at h4
      rw [Array.getElem?_eq_getElem h2, Option.some.injEq] at h4
      rw [h4]
      simpa [Array.getD_eq_getD_getElem?, h1, hiv] using h3
    · have h3 := hold j hj
      have h0 : j < a0.tmps.size := by rw [← hsz]; exact h1
      have h4 := wrS_other (sl.zip v) a0.tmps (j := j) (fun z hz e => hj (by subst e; exact (List.of_mem_zip hz).1))
      rw [Array.getElem?_eq_getElem h2, Array.getElem?_eq_getElem h0, Option.some.injEq] at h4
      rw [h4]
      simpa [Array.getD_eq_getD_getElem?, h1, h0] using h3
  cases a
  simp only at ht hdf
  rw [ht, hdf]
end Go.Proofs.YtffckpkikdlbpaaGreatDoor

namespace Go.Proofs.YtffckpkikdlbpaaGreatDoor
open Go.RowKit
def boolIs (x : Value) (b : Bool) : Bool := match x with
  | .bool c => c == b
  | _ => false
def wantV (v : List Value) (o : Oper) : Bool := match o.guard with
  | none => true
  | some (g, b) => boolIs (v.getD g undef) b
def depsB (o : Oper) (j : Nat) : Bool := o.after.toList.any (fun e => e.on == j) && o.after.toList.all (fun e => e.on != j || Region.binds .any e)
def guardB (o : Oper) : Bool := match o.guard with
  | none => true
  | some (g, _) => depsB o g
theorem depsB_spec {o : Oper} {j : Nat} (h : depsB o j = true) : j ∈ o.after.toList.map (·.on) ∧ ∀ e ∈ o.after.toList, e.on = j → Region.binds .any e = true := by
  unfold depsB at h
  rw [Bool.and_eq_true, List.any_eq_true, List.all_eq_true] at h
  obtain ⟨⟨e, he, h1⟩, h2⟩ := h
  refine ⟨List.mem_map.2 ⟨e, he, by simpa using h1⟩, fun e he hj => ?_⟩
  have := h2 e he
  rw [hj] at this
  simpa using this
theorem wanted_is {ops : Array Oper} {o : Oper} {t : Array Value} {g k : Nat} {b : Bool} {x : Value} (hg : o.guard = some (g, b)) (hk : (ops[g]?).bind (·.dst) = some k) (ht : t.getD k undef = x) : Region.wanted o (yielded ops t) = boolIs x b := by
  have e : (t[k]? = none ∧ x = undef) ∨ t[k]? = some x := by
    rw [Array.getD_eq_getD_getElem?] at ht
    cases e : t[k]? with
    | none => rw [e] at ht; exact .inl ⟨rfl, ht.symm⟩
    | some y => rw [e] at ht; exact .inr (by rw [← ht]; rfl)
  unfold Region.wanted yielded
  rw [hg]
  simp only [hk, Option.bind_some]
  rcases e with ⟨e, rfl⟩ | e
  · rw [e]
    rfl
  · rw [e]
    cases x <;> first | rfl | simp [boolIs]
theorem stepZ {P : Program} {Q : Exit → Act → World → Prop} {a0 : Act} {w : World} {l : List Oper} (sl : List Nat) (v : List Value) (U : List Bool) (hb : backB .any l.toArray = true) (hg : l.all guardB = true) (hd : l.map (·.dst) = sl.map some) (hl : sl.length = v.length) (hn : sl.Nodup) (hs : sl.all (fun k => decide (k < a0.tmps.size)) = true) (hU : l.map (wantV v) = U) (hV : List.zipWith (fun b x => if b = true then undef else x) U v = List.replicate U.length undef)
    (step : ∀ (i : Nat) (o : Oper) (a : Act) (w' : World), l[i]? = some o → wantV v o = true → (∀ j, depsB o j = true → a.tmps[sl.getD j 0]?.getD undef = v.getD j undef) → (∀ j, j ∉ sl → a.tmps[j]?.getD undef = a0.tmps.getD j undef) → Kp w w' →
      ∀ K : Act → World → Prop, (∀ u w'', Kp w' w'' → v.getD i undef = u → K (a.put o.dst u) w'') → Oper.wp P o a w' K Q)
    (i : Nat) (o : Oper) (L : Nat → Bool) (a : Act) (w' : World) (ho : l[i]? = some o) (hdep : ∀ j, j ∈ o.after.toList.map (·.on) → (∀ e ∈ o.after.toList, e.on = j → Region.binds .any e = true) → L j = true) (hG : RV w a0 sl v L a w')
    (K : Act → World → Prop) (hK : ∀ a' w', RV w a0 sl v (fun j => j == i || L j) a' w' → K a' w') : if Region.wanted o (yielded l.toArray a.tmps) = true then Oper.wp P o a w' K Q else K (a.put o.dst undef) w' := by
  have hdst : ∀ (i : Nat) (o : Oper), l[i]? = some o → ∃ k, sl[i]? = some k ∧ o.dst = some k := fun i o ho => by
    have h1 : (l.map (·.dst))[i]? = some o.dst := by rw [List.getElem?_map, ho]; rfl
    rw [hd, List.getElem?_map] at h1
    cases e : sl[i]? with
    | none => rw [e] at h1; cases h1
    | some k => rw [e] at h1; exact ⟨k, rfl, (Option.some.inj h1).symm⟩
  have hlen : l.length = sl.length := by have := congrArg List.length hd; simpa using this
  obtain ⟨k, hk, hok⟩ := hdst i o ho
  have hks : k < a0.tmps.size := of_decide_eq_true (List.all_eq_true.1 hs k (List.mem_of_getElem? hk))
  have hgo := List.all_eq_true.1 hg o (List.mem_of_getElem? ho)
  have hwant : Region.wanted o (yielded l.toArray a.tmps) = wantV v o := by
    cases eg : o.guard with
    | none =>
      rw [wanted_all eg]
      unfold wantV
      rw [eg]
    | some gb =>
      obtain ⟨g, b⟩ := gb
      unfold guardB at hgo
      rw [eg] at hgo
      obtain ⟨d1, d2⟩ := depsB_spec hgo
      have hLg := hdep g d1 d2
      have hgl : g < l.length := by
        obtain ⟨e, he, hj⟩ := List.mem_map.1 d1
        have h3 := backB_at hb (i := i) (o := o) (by simpa using ho) e (Array.mem_toList_iff.1 he) (d2 e he hj)
        have h4 := (List.getElem?_eq_some_iff.1 ho).1
        omega
      obtain ⟨kg, hkg, hog⟩ := hdst g l[g] (List.getElem?_eq_getElem hgl)
      have hk2 : (l.toArray[g]?).bind (·.dst) = some kg := by simp [hgl, hog]
      rw [wanted_is eg hk2 (hG.new g hLg kg hkg)]
      unfold wantV
      rw [eg]
  rw [hwant]
  cases hw : wantV v o with
  | true =>
    rw [if_pos rfl]
    refine step i o a w' ho hw (fun j hj => ?_) (fun j hj => ?_) hG.kp K (fun u w'' kp hu => ?_)
    · obtain ⟨d1, d2⟩ := depsB_spec hj
      have hjl : j < sl.length := by
        obtain ⟨e, he, hj2⟩ := List.mem_map.1 d1
        have h3 := backB_at hb (i := i) (o := o) (by simpa using ho) e (Array.mem_toList_iff.1 he) (d2 e he hj2)
        have h4 := (List.getElem?_eq_some_iff.1 ho).1
        omega
      have hsj : sl[j]? = some (sl.getD j 0) := by rw [List.getD_eq_getElem?_getD, List.getElem?_eq_getElem hjl]; rfl
      exact slot_is (hG.new j (hdep j d1 d2) _ hsj)
    · exact slot_is (hG.old j hj)
    · rw [hok]
      exact hK _ _ (hG.put i k hk hn hks kp hu)
  | false =>
    rw [if_neg (by simp), hok]
    refine hK _ _ (hG.put i k hk hn hks (Kp.refl _) ?_)
    have hUi : U[i]? = some false := by rw [← hU, List.getElem?_map, ho]; simp [hw]
    have h1 := congrArg (fun t => t[i]?) hV
    simp only [List.getElem?_zipWith, hUi] at h1
    have hil : i < v.length := by have := (List.getElem?_eq_some_iff.1 ho).1; omega
    rw [List.getElem?_eq_getElem hil] at h1
    have hiU : i < U.length := (List.getElem?_eq_some_iff.1 hUi).1
    simp [hiU] at h1
    simp [hil, h1]
theorem wp_anyZ {id : Nat} {P : Program} {Q : Exit → Act → World → Prop} {a0 : Act} {w : World} {l : List Oper} (sl : List Nat) (v : List Value) (U : List Bool) (hm : P.follows .mixedOrders = true) (hb : backB .any l.toArray = true) (hg : l.all guardB = true) (hd : l.map (·.dst) = sl.map some) (hl : sl.length = v.length) (hn : sl.Nodup) (hs : sl.all (fun k => decide (k < a0.tmps.size)) = true) (hU : l.map (wantV v) = U) (hV : List.zipWith (fun b x => if b = true then undef else x) U v = List.replicate U.length undef)
    (step : ∀ (i : Nat) (o : Oper) (a : Act) (w' : World), l[i]? = some o → wantV v o = true → (∀ j, depsB o j = true → a.tmps[sl.getD j 0]?.getD undef = v.getD j undef) → (∀ j, j ∉ sl → a.tmps[j]?.getD undef = a0.tmps.getD j undef) → Kp w w' →
      ∀ K : Act → World → Prop, (∀ u w'', Kp w' w'' → v.getD i undef = u → K (a.put o.dst u) w'') → Oper.wp P o a w' K Q)
    (fin : ∀ w', Kp w w' → Q .normal { tmps := wrS a0.tmps (sl.zip v), defers := a0.defers } w') : (Code.region id l.toArray true).wp P Q a0 w := by
  refine wp_anyV sl v hm hb (stepZ sl v U hb hg hd hl hn hs hU hV step) (fun a w' kp df sz old new => ?_)
  have hlen : l.length = sl.length := by have := congrArg List.length hd; simpa using this
  rw [act_is hl hn df sz old (fun i hi k hk => new i (by omega) k hk)]
  exact fin w' kp
end Go.Proofs.YtffckpkikdlbpaaGreatDoor
