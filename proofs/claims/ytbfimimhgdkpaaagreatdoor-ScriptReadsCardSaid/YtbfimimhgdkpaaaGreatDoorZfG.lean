/- Lemmas and contracts for the theorem of this claim: Ret, SdB, ScX. -/
import Derived.Test.YtbfimimhgdkpaaaGreatDoorZfF
import Derived.OwnWalkIn
set_option linter.unusedSimpArgs false
set_option linter.unusedVariables false
/- A return of several named results, whose stores may come in any order, inside a round of a range over a function or outside. No condition. -/
namespace Go.Proofs.YtbfimimhgdkpaaaGreatDoor
open Go.RowKit

/-- A region that draws its order, in a round: by what holds of the operations that have been done. -/
theorem round_inv {r id : Nat} {P : Program} {Q : Exit → Act → World → Prop} {a : Act} {w : World} {l : List Oper} (hm : P.follows .mixedOrders = true) (hnd : noDefer l.toArray = true) (hQ : ¬ LetsOut Q)
    (G : (Nat → Bool) → Act → World → Prop) (hb : backB .any l.toArray = true)
    (step : ∀ (i : Nat) (o : Oper) (L : Nat → Bool) (a : Act) (w : World), l[i]? = some o → L i = false → (∀ j, j ∈ o.after.toList.map (·.on) → (∀ e ∈ o.after.toList, e.on = j → Region.binds .any e = true) → L j = true) → G L a w →
      ∀ K : Act → World → Prop, (∀ a' w', G (fun j => j == i || L j) a' w' → K a' w') → if Region.wanted o (yielded l.toArray a.tmps) = true then Oper.wp P o a w K Q else K (a.put o.dst undef) w)
    (fin : ∀ L a w, (∀ i, i < l.length → L i = true) → G L a w → Q .normal a w) (h0 : G (fun _ => false) a w.drew) : (Code.region id l.toArray true).wpIn (Fence.wide.inRound r) 0 P Q a w := by
  refine wpIn_region_any hm (wpAnyIn_of_wpAny hQ hnd _ _ _ _ (wpAny_inv G hb (fun i o L a w ho hL hd hG K hK => step i o L a w (by simpa using ho) hL (fun j hj hb => by
    obtain ⟨e, he, rfl⟩ := List.mem_map.1 hj
    exact hd e (Array.mem_toList_iff.1 he) (hb e he rfl)) hG K hK) (fun L a w h => fin L a w (by simpa using h)) _ _ _ _ (by simp) ?_ ?_))
  · have : (Array.replicate l.toArray.size false).toList.countP (fun b => !b) ≤ (Array.replicate l.toArray.size false).toList.length := List.countP_le_length
    simpa using this
  · have e : (fun j => (Array.replicate l.toArray.size false).getD j false) = (fun _ => false) := by
      funext j
      simp only [Array.getD_eq_getD_getElem?]
      by_cases hj : j < l.toArray.size
      · rw [Array.getElem?_eq_getElem (by simpa using hj)]; simp
      · rw [Array.getElem?_eq_none (by simpa using hj)]; rfl
    rw [e]
    exact h0

section
variable {P : Program} {o : Oper} {a : Act} {w : World} {K : Act → World → Prop} {Q : Exit → Act → World → Prop} {T : TypeId}
theorem ev_tmp {p : Nat} {v : Value} (h : a.tmps.getD p undef = v) : a.tmps[p]?.getD undef = v := by rw [← h, Array.getD_eq_getD_getElem?]
theorem op_ld (hA : ∀ w, (isAgg T).run P w = .ok false w) {p g : Nat} {v : Value} (ho : o.op = .load T (.tmp p)) (hp : a.tmps.getD p undef = .pointer (some ⟨g, 0, none⟩)) (h0 : w.cell? ⟨g, 0, none⟩ = some v) (h : K (a.put o.dst v) w) : Oper.wp P o a w K Q := by
  have hev := ev_tmp hp
  unfold Oper.wp
  simp [execOp, ho, hev, go_sem, hA, h0]
  exact h
theorem op_mv {x : Operand} {v : Value} (ho : o.op = .move x) (hp : a.eval x = v) (h : K (a.put o.dst v) w) : Oper.wp P o a w K Q := by
  unfold Oper.wp execOp
  rw [ho]
  simp only [hp]
  exact h
/-- A value of one cell, of the kinds that results have. -/
def cellV : Value → Bool
  | .int _ _ => true
  | .slice _ _ _ => true
  | .bool _ => true
  | .string _ => true
  | .pointer _ => true
  | _ => false
theorem op_st (hA : ∀ w, (isAgg T).run P w = .ok false w) (hS : ∀ w, (sizeOf T).run P w = .ok 1 w) {p g : Nat} {x : Operand} {u v : Value} (ho : o.op = .store T (.tmp p) x) (hd : o.dst = none) (hp : a.tmps.getD p undef = .pointer (some ⟨g, 0, none⟩)) (hx : a.eval x = v) (hv : cellV v = true) (h0 : w.cell? ⟨g, 0, none⟩ = some u) (hf : w.frozen? ⟨g, 0, none⟩ = false) (h : K a (w.setCell ⟨g, 0, none⟩ v)) : Oper.wp P o a w K Q := by
  have hev : a.eval (.tmp p) = .pointer (some ⟨g, 0, none⟩) := hp
  unfold Oper.wp execOp
  rw [ho]
  simp only [hev, hx]
  clear hx
  cases v with
  | int _ _ => simp [go_sem, hA, hS, h0, hf, hd]; exact h
  | slice _ _ _ => simp [go_sem, hA, hS, h0, hf, hd]; exact h
  | bool _ => simp [go_sem, hA, hS, h0, hf, hd]; exact h
  | string _ => simp [go_sem, hA, hS, h0, hf, hd]; exact h
  | pointer _ => simp [go_sem, hA, hS, h0, hf, hd]; exact h
  | _ => cases hv
end

/-- Cells that are stored once each, slots that are written once each, whatever the order. C: block, type, the store's number, the value ahead of it and behind it. F: slots that stay. T: the operation's number, its slot, its value. -/
structure RetG (V0 : World) (C : List (Nat × TypeId × Nat × Value × Value)) (F : List (Nat × Value)) (T : List (Nat × Nat × Value)) (D : List Deferred) (S : Nat) (L : Nat → Bool) (a : Act) (V : World) : Prop where
  only : Only (C.map (·.1)) V0 V
  df : a.defers = D
  sz : a.tmps.size = S
  fx : ∀ e ∈ F, a.tmps.getD e.1 undef = e.2
  tm : ∀ e ∈ T, L e.1 = true → a.tmps.getD e.2.1 undef = e.2.2
  cs : ∀ e ∈ C, Blk V e.1 e.2.1 #[if L e.2.2.1 = true then e.2.2.2.2 else e.2.2.2.1]
section
variable {V0 : World} {C : List (Nat × TypeId × Nat × Value × Value)} {F : List (Nat × Value)} {T : List (Nat × Nat × Value)} {D : List Deferred} {S : Nat} {L : Nat → Bool} {a : Act} {V : World}
theorem getD_put {x : Array Value} {d k : Nat} (v : Value) (h : k ≠ d) : (x.setIfInBounds d v).getD k undef = x.getD k undef := by
  simp only [Array.getD_eq_getD_getElem?]
  rw [Array.getElem?_setIfInBounds_ne (fun e => h e.symm)]
theorem getD_put_same {x : Array Value} {d : Nat} (v : Value) (h : d < x.size) : (x.setIfInBounds d v).getD d undef = v := by
  simp [Array.getD_eq_getD_getElem?, h]
theorem RetG.tmp (h : RetG V0 C F T D S L a V) {i d : Nat} {v : Value} (hd : d < S) (hT : ∀ e ∈ T, e.1 = i → e.2.1 = d ∧ e.2.2 = v) (hT2 : ∀ e ∈ T, e.1 ≠ i → e.2.1 ≠ d) (hF : ∀ e ∈ F, e.1 ≠ d) (hC : ∀ e ∈ C, e.2.2.1 ≠ i) :
    RetG V0 C F T D S (fun j => j == i || L j) (a.put (some d) v) V := by
  refine ⟨h.only, h.df, by show (a.tmps.setIfInBounds d v).size = S; rw [Array.size_setIfInBounds]; exact h.sz, fun e he => ?_, fun e he hl => ?_, fun e he => ?_⟩
  · show (a.tmps.setIfInBounds d v).getD _ undef = _
    rw [getD_put v (hF e he)]; exact h.fx e he
  · show (a.tmps.setIfInBounds d v).getD _ undef = _
    by_cases hi : e.1 = i
    · obtain ⟨h1, h2⟩ := hT e he hi
      rw [h1, h2]
      exact getD_put_same v (by rw [h.sz]; exact hd)
    · rw [getD_put v (hT2 e he hi)]
      exact h.tm e he (by simpa [hi] using hl)
  · have := h.cs e he
    have hn : (e.2.2.1 == i) = false := by simpa using hC e he
    rw [hn, Bool.false_or]
    exact this
theorem RetG.st (h : RetG V0 C F T D S L a V) {b t i : Nat} {v u : Value} (hm : (b, t, i, v, u) ∈ C) (hC : ∀ e ∈ C, e.2.2.1 = i → e = (b, t, i, v, u)) (hB : ∀ e ∈ C, e.2.2.1 ≠ i → e.1 ≠ b) (hT : ∀ e ∈ T, e.1 ≠ i) :
    RetG V0 C F T D S (fun j => j == i || L j) a (V.setCell ⟨b, 0, none⟩ u) := by
  refine ⟨h.only.setCell (.inl (List.mem_map.2 ⟨_, hm, rfl⟩)) u, h.df, h.sz, h.fx, fun e he hl => h.tm e he ?_, fun e he => ?_⟩
  · have hn : (e.1 == i) = false := by simpa using hT e he
    simpa [hn] using hl
  · by_cases hi : e.2.2.1 = i
    · have he2 := hC e he hi
      subst he2
      have := (h.cs _ hm).set_ 0 u
      simpa using this
    · have hn : (e.2.2.1 == i) = false := by simpa using hi
      have := (h.cs e he).far (p := ⟨b, 0, none⟩) (hB e he hi) u
      simpa [hn] using this
theorem RetG.cell (h : RetG V0 C F T D S L a V) {b t i : Nat} {v u : Value} (hm : (b, t, i, v, u) ∈ C) : ∃ x, V.cell? ⟨b, 0, none⟩ = some x ∧ V.frozen? ⟨b, 0, none⟩ = false :=
  ⟨_, (h.cs _ hm).cell 0, (h.cs _ hm).frozen 0⟩
theorem RetG.same (h : RetG V0 C F T D S L a V) {b t i : Nat} {v : Value} (hm : (b, t, i, v, v) ∈ C) : V.cell? ⟨b, 0, none⟩ = some v := by
  have := (h.cs _ hm).cell 0
  simpa using this
theorem RetG.ahead (h : RetG V0 C F T D S L a V) {b t i : Nat} {v u : Value} (hm : (b, t, i, v, u) ∈ C) (hl : L i = false) : V.cell? ⟨b, 0, none⟩ = some v := by
  have := (h.cs _ hm).cell 0
  simpa [hl] using this
theorem RetG.done (h : RetG V0 C F T D S L a V) {b t i : Nat} {v u : Value} (hm : (b, t, i, v, u) ∈ C) (hl : L i = true) : Blk V b t #[u] := by
  have := h.cs _ hm
  simpa [hl] using this
end

theorem wpListIn_app1 {F : Fence} {nn : Nat} {P : Program} {t e e' : TypeId} {z : Value} {size bytes : Nat} (E : ElemOf P t e z size bytes) {w0 W : World} {ops : Array Oper} {rest : List Oper} {o : Oper} {a : Act} {Q : Exit → Act → World → Prop}
    (hgd : o.guard = none) (s x : Operand) (ho : o.op = .call { callee := .builtin .append, args := #[s, x], argTypes := #[t, t] })
    {base n : Nat} {v : Value} {xs news : List Value} (hs : a.eval s = v) (hown : W.ownsRow base e size v n xs) (hK : Kp w0 W) (hb : w0.heap.size ≤ base) (hbase : base ≤ W.heap.size)
    {N : Nat} (hx : a.eval x = .slice (some ⟨N, 0, none⟩) 1 1) (hN : N = W.heap.size) (hl : news.length = size) (h1 : news.all (fun u => u.oneCell') = true) (hfit : (n + 1) * (bytes + 1) ≤ 140737488355328)
    (h : ∀ v' w', w'.ownsRow base e size v' (n + 1) (xs ++ news) → Kp w0 w' → W.grownBy w' v.ownBlock → wpListIn F nn P ops Q rest (a.put o.dst v') w') : wpListIn F nn P ops Q (o :: rest) a (W.alloc (.cells news.toArray e')) := by
  obtain ⟨ht, hinfo, hzs, hsz⟩ := E
  obtain ⟨i, hi, hz, hsize, hby⟩ := info_parts hinfo
  subst hN
  have hb2 : (n + 1) * (bytes + 1) = (n + 1) * bytes + (n + 1) := by rw [Nat.mul_add, Nat.mul_one]
  refine wpListIn_append_own _ hgd s x t ho base e i z size bytes ht hi hz hsize hby hzs hsz v n xs hs (hown.alloc _) ⟨W.heap.size, 0, none⟩ 1 1 news hx (by omega) ?_ (by simpa using h1) (by simp only [maxLen]; omega) (by omega) (by simp; omega) ?_
  · intro j u hu
    have hadd : (⟨W.heap.size, 0, none⟩ : Addr).add j = ⟨W.heap.size, j, none⟩ := by unfold Addr.add; split <;> simp_all
    rw [hadd, World.cell?_alloc_at _ _ _ _ rfl]
    simpa using hu
  · intro v' w' ho' hg _
    exact h v' w' ho' (hK.grown (own_grown hg) (fun k hk => Nat.le_trans hb (hown.lt k hk).1)) (own_grown hg)
theorem wpListIn_appx {α : Type} {enc : α → List Value} {F : Fence} {nn : Nat} {P : Program} {t e e' : TypeId} {z : Value} {size bytes : Nat} (E : ElemOf P t e z size bytes) {w0 W : World} {ops : Array Oper} {rest : List Oper} {o : Oper} {a : Act} {Q : Exit → Act → World → Prop}
    (hgd : o.guard = none) (s x : Operand) (ho : o.op = .call { callee := .builtin .append, args := #[s, x], argTypes := #[t, t] })
    {base : Nat} {v : Value} {xs : List α} {news : List Value} (y : α) (hs : a.eval s = v) (hown : Own W base e size enc v xs) (hK : Kp w0 W) (hb : w0.heap.size ≤ base) (hbase : base ≤ W.heap.size)
    {N : Nat} (hx : a.eval x = .slice (some ⟨N, 0, none⟩) 1 1) (hN : N = W.heap.size) (hnews : news = enc y) (hl : news.length = size) (h1 : news.all (fun u => u.oneCell') = true) (hfit : (xs.length + 1) * (bytes + 1) ≤ 140737488355328)
    (h : ∀ v' w', Own w' base e size enc v' (xs ++ [y]) → Kp w0 w' → W.grownBy w' v.ownBlock → wpListIn F nn P ops Q rest (a.put o.dst v') w') : wpListIn F nn P ops Q (o :: rest) a (W.alloc (.cells news.toArray e')) := by
  refine wpListIn_app1 E hgd s x ho hs hown hK hb hbase hx hN hl h1 hfit (fun v' w' ho' hk hg => h v' w' ?_ hk hg)
  unfold Own
  rw [List.length_append, List.flatMap_append, List.length_singleton, List.flatMap_cons, List.flatMap_nil, List.append_nil, ← hnews]
  exact ho'

/-- append of one element, which lies in a block just made, in a fence; the row's block is told. -/
theorem wpListIn_appl {α : Type} {enc : α → List Value} {F : Fence} {nn : Nat} {P : Program} {t e e' : TypeId} {z : Value} {size bytes : Nat} (E : ElemOf P t e z size bytes) (henc : ∀ x, (enc x).length = size) (hone : ∀ x, ∀ u ∈ enc x, u.oneCell' = true)
    {W : World} {ops : Array Oper} {rest : List Oper} {o : Oper} {a : Act} {Q : Exit → Act → World → Prop}
    (hgd : o.guard = none) (s x : Operand) (ho : o.op = .call { callee := .builtin .append, args := #[s, x], argTypes := #[t, t] })
    {base : Nat} {v : Value} {xs : List α} {news : List Value} (y : α) (hs : a.eval s = v) (hown : Own W base e size enc v xs) (hbase : base ≤ W.heap.size)
    {N : Nat} (hx : a.eval x = .slice (some ⟨N, 0, none⟩) 1 1) (hN : N = W.heap.size) (hnews : news = enc y) (hfit : (xs.length + 1) * (bytes + 1) ≤ 140737488355328)
    (h : ∀ v' w', Own w' base e size enc v' (xs ++ [y]) → W.grownBy w' v.ownBlock → (v'.ownBlock = v.ownBlock ∨ v'.ownBlock = some (W.heap.size + 1)) → wpListIn F nn P ops Q rest (a.put o.dst v') w') : wpListIn F nn P ops Q (o :: rest) a (W.alloc (.cells news.toArray e')) := by
  subst hN
  have hrd : Rd (W.alloc (.cells news.toArray e')) size enc (some ⟨W.heap.size, 0, none⟩) [y] :=
    Rd.of_blk (Blk.new W e' news.toArray) E.2.2.2 henc (by simp [maxLen]) (by simp [hnews])
  refine wpListIn_plain hgd fun K hK' => ?_
  obtain ⟨v', w', hrun, r1, r2, r3⟩ := run_appl E o.type henc hone (hown.alloc (.cells news.toArray e')) hrd (by simpa using hfit) (by simp; omega)
  unfold Oper.wpIn
  refine ⟨?_, ?_⟩
  · simp [Oper.about, ho, resolve, Target.leads, Sem.run_pure]
  · rw [Oper.semAt_plain F _ _ (by rw [ho]; intro c hc'; cases hc')]
    have hx1 : a.eval x = .slice (some ⟨W.heap.size, 0, none⟩) [y].length 1 := hx
    simp [execOp, ho, resolve, invoke, builtin, hs, hx, Result.andThen]
    simp only [List.length_singleton] at hrun
    rw [hrun]
    refine hK' _ _ (h v' w' r1 (own_grown r2) ?_)
    simpa using r3
/-- append of one element, which lies in a block just made, the row's block is told. -/
theorem wpList_appb {α : Type} {enc : α → List Value} {P : Program} {t e e' : TypeId} {z : Value} {size bytes : Nat} (E : ElemOf P t e z size bytes) (henc : ∀ x, (enc x).length = size) (hone : ∀ x, ∀ u ∈ enc x, u.oneCell' = true)
    {W : World} {ops : Array Oper} {rest : List Oper} {o : Oper} {a : Act} {Q : Exit → Act → World → Prop}
    (hgd : o.guard = none) (s x : Operand) (ho : o.op = .call { callee := .builtin .append, args := #[s, x], argTypes := #[t, t] })
    {base : Nat} {v : Value} {xs : List α} {news : List Value} (y : α) (hs : a.eval s = v) (hown : Own W base e size enc v xs) (hbase : base ≤ W.heap.size)
    {N : Nat} (hx : a.eval x = .slice (some ⟨N, 0, none⟩) 1 1) (hN : N = W.heap.size) (hnews : news = enc y) (hfit : (xs.length + 1) * (bytes + 1) ≤ 140737488355328)
    (h : ∀ v' w', Own w' base e size enc v' (xs ++ [y]) → W.grownBy w' v.ownBlock → (v'.ownBlock = v.ownBlock ∨ v'.ownBlock = some (W.heap.size + 1)) → wpList P ops Q rest (a.put o.dst v') w') : wpList P ops Q (o :: rest) a (W.alloc (.cells news.toArray e')) := by
  subst hN
  have hrd : Rd (W.alloc (.cells news.toArray e')) size enc (some ⟨W.heap.size, 0, none⟩) [y] :=
    Rd.of_blk (Blk.new W e' news.toArray) E.2.2.2 henc (by simp [maxLen]) (by simp [hnews])
  refine wpList_plain hgd fun K hK' => ?_
  obtain ⟨v', w', hrun, r1, r2, r3⟩ := run_appl E o.type henc hone (hown.alloc (.cells news.toArray e')) hrd (by simpa using hfit) (by simp; omega)
  unfold Oper.wp
  have hx1 : a.eval x = .slice (some ⟨W.heap.size, 0, none⟩) [y].length 1 := hx
  simp [execOp, ho, resolve, invoke, builtin, hs, hx, Result.andThen]
  simp only [List.length_singleton] at hrun
  rw [hrun]
  refine hK' _ _ (h v' w' r1 (own_grown r2) ?_)
  simpa using r3
end Go.Proofs.YtbfimimhgdkpaaaGreatDoor

/- Package script: Read, over the lines. No condition but the stated bounds. -/
namespace Go.Proofs.YtbfimimhgdkpaaaGreatDoor
open Go.RowKit
attribute [local go_sem] Oper.semAt_some

theorem takes_mark {W : World} {r : Nat} (hd : W.heap[r]? = some (.deferred (some []))) {K : World → Prop} (h : ∀ W', Only [r] W W' → K W') : Takes [{ target := .collected r, args := #[] }] W K :=
  ⟨r, rfl, hd, h _ ((Only.refl [r] W).putObj (by simp) _)⟩
theorem agg_int (w : World) : (isAgg 3).run Tryz.prog w = .ok false w := by kernel_rfl
theorem agg_errno (w : World) : (isAgg 29).run Tryz.prog w = .ok false w := by kernel_rfl
theorem agg_evs (w : World) : (isAgg 53).run Tryz.prog w = .ok false w := by kernel_rfl
theorem sz_int (w : World) : (sizeOf 3).run Tryz.prog w = .ok 1 w := by kernel_rfl
theorem sz_errno (w : World) : (sizeOf 29).run Tryz.prog w = .ok 1 w := by kernel_rfl
theorem sz_evs (w : World) : (sizeOf 53).run Tryz.prog w = .ok 1 w := by kernel_rfl

theorem EEv : ElemOf Tryz.prog 53 27 (.agg #[.int .i64 0, .int .i64 0, .int .i64 0, .int .i64 0, .int .i64 0, .int .u32 0, .slice none 0 0]) 7 72 := ⟨Tryz.underlying53, by kernel_rfl, rfl, by decide⟩
/-- An event with its bytes' slice, in memory: behind a block, in none of a row's. -/
structure EvB (base : Nat) (ob : Option Nat) (V : World) (x : Ev × (Option Addr × Nat)) : Prop where
  rd : Rd V 1 byteE x.2.1 x.1.bytes
  ne : x.1.bytes ≠ [] → ∀ b o, x.2.1 = some ⟨b, o, none⟩ → base ≤ b ∧ some b ≠ ob
/-- An event's cells, its bytes a slice. -/
def esE (x : Ev × (Option Addr × Nat)) : List Value := (evC x.1 (.slice x.2.1 x.1.bytes.length x.2.2)).toList
theorem esE_len (x : Ev × (Option Addr × Nat)) : (esE x).length = 7 := rfl
theorem esE_one (x : Ev × (Option Addr × Nat)) : ∀ u ∈ esE x, u.oneCell' = true := by
  intro u hu
  simp only [esE, evC, List.mem_cons, List.not_mem_nil, or_false] at hu
  rcases hu with rfl | rfl | rfl | rfl | rfl | rfl | rfl <;> rfl
theorem EvB.keep {base : Nat} {ob : Option Nat} {V V' : World} {x : Ev × (Option Addr × Nat)} (h : EvB base ob V x) (k : Kp V V') : EvB base ob V' x := ⟨h.rd.keep k, h.ne⟩
theorem rd_ne {V : World} {A : Option Addr} {l : List UInt8} (h : Rd V 1 byteE A l) (hl : l ≠ []) {b o : Nat} (e : A = some ⟨b, o, none⟩) : b < V.heap.size := by
  obtain ⟨b', o', e', hc⟩ := h 0 (List.length_pos_iff.2 hl)
  have := World.block_lt_of_cell? V _ (hc 0 _ rfl)
  rw [e] at e'
  injection e' with e'
  injection e' with e1 e2
  simp only at this
  omega
theorem Rd.only_b {V V' : World} {A : Option Addr} {l : List UInt8} {bs : List Nat} (h : Rd V 1 byteE A l) (hO : Only bs V V') (hn : l ≠ [] → ∀ b o, A = some ⟨b, o, none⟩ → b ∉ bs) : Rd V' 1 byteE A l := fun i hi => by
  obtain ⟨b, off, e, hc⟩ := h i hi
  exact ⟨b, off, e, fun j u hu => hO.cell (hc j u hu) (hn (fun e0 => by rw [e0] at hi; simp at hi) b off e)⟩
theorem EvB.only {base : Nat} {ob : Option Nat} {V V' : World} {x : Ev × (Option Addr × Nat)} {bs : List Nat} (h : EvB base ob V x) (hO : Only bs V V') (hb : ∀ b ∈ bs, b < base) : EvB base ob V' x :=
  ⟨h.rd.only_b hO (fun hl b o e hm => by have := hb b hm; have := (h.ne hl b o e).1; omega), h.ne⟩
theorem EvB.grown {base : Nat} {ob ob' : Option Nat} {V V' : World} {x : Ev × (Option Addr × Nat)} (h : EvB base ob V x) (hg : V.grownBy V' ob) (hob : ob' = ob ∨ ∃ n, ob' = some n ∧ V.heap.size ≤ n) : EvB base ob' V' x := by
  refine ⟨fun i hi => ?_, fun hl b o e => ⟨(h.ne hl b o e).1, ?_⟩⟩
  · obtain ⟨b, off, e, hc⟩ := h.rd i hi
    have hl : x.1.bytes ≠ [] := fun e0 => by rw [e0] at hi; simp at hi
    refine ⟨b, off, e, fun j u hu => ?_⟩
    have h1 := hc j u hu
    exact (World.cell?_of_block (w := V) (hg.block b (World.block_lt_of_cell? V _ h1) (h.ne hl b off e).2)).trans h1
  · rcases hob with e1 | ⟨n, e1, hn⟩
    · rw [e1]; exact (h.ne hl b o e).2
    · rw [e1]
      have := rd_ne h.rd hl e
      intro e2
      injection e2 with e2
      omega
/-- A list of events in memory. -/
def EvsAt (w : World) (A : Option Addr) (l : List Ev) : Prop := ∃ bs : List (Ev × (Option Addr × Nat)), bs.map (·.1) = l ∧ Rd w 7 esE A bs ∧ ∀ x ∈ bs, Rd w 1 byteE x.2.1 x.1.bytes
theorem EvsAt.keep {w w' : World} {A : Option Addr} {l : List Ev} (h : EvsAt w A l) (k : Kp w w') : EvsAt w' A l := by
  obtain ⟨bs, e, hR, hb⟩ := h
  exact ⟨bs, e, hR.keep k, fun x hx => (hb x hx).keep k⟩
def ReadP (s : ByteArray) (w : World) (e : Ending) (w' : World) : Prop :=
  Kp w w' ∧ ∃ A c, e = .returned (.tuple #[.slice A (refReadE s.data.toList).1.length c, .int .i64 (refReadE s.data.toList).2.1, .int .i64 (refReadE s.data.toList).2.2]) ∧ EvsAt w' A (refReadE s.data.toList).1
structure RdI (w : World) (s : ByteArray) (L : List (List UInt8 × Bool)) (q : List Ev × Nat × Int) (bx base k : Nat) (V : World) : Prop where
  kp : Kp w V
  at_ : Blk V (w.heap.size + 1) 3 #[.int .i64 (k : Nat)]
  er : Blk V (w.heap.size + 1 + 1) 29 #[.int .i64 0]
  bx : Blk V bx 9 #[.string s]
  ls : ∃ (v : Value) (bs : List (Ev × (Option Addr × Nat))), Blk V w.heap.size 53 #[v] ∧ Own V base 27 7 esE v bs ∧ (∀ x ∈ bs, EvB base v.ownBlock V x) ∧ readL (L.drop k) k (bs.map (·.1)) = q ∧ bs.length ≤ 500
theorem RdI.turn {w : World} {s : ByteArray} {L : List (List UInt8 × Bool)} {q : List Ev × Nat × Int} {bx base k n : Nat} {V V' : World} (h : RdI w s L q bx base k V) (hO : Only [n, n + 1] V V') (hb : base = n + 2) (hw : w.heap.size + 1 + 1 < n) (hx : bx < n) : RdI w s L q bx base k V' := by
  obtain ⟨v, bs, h1, h2, h3, h4, h5⟩ := h.ls
  have hm : ∀ g, g < n → g ∉ [n, n + 1] := fun g hg => by simp; omega
  exact ⟨hO.kp h.kp (by simp; omega), h.at_.only hO (hm _ (by omega)), h.er.only hO (hm _ hw), h.bx.only hO (hm _ hx),
    v, bs, h1.only hO (hm _ (by omega)), h2.only hO (by simp; omega), fun x hx => (h3 x hx).only hO (by simp; omega), h4, h5⟩
/-- Read has given up. -/
structure RdZ (w : World) (q : List Ev × Nat × Int) (V : World) : Prop where
  kp : Kp w V
  ls : Blk V w.heap.size 53 #[.slice none 0 0]
  at_ : Blk V (w.heap.size + 1) 3 #[.int .i64 q.2.1]
  er : Blk V (w.heap.size + 1 + 1) 29 #[.int .i64 q.2.2]
  no : q.1 = []
theorem RdZ.turn {w : World} {q : List Ev × Nat × Int} {n : Nat} {V V' : World} (h : RdZ w q V) (hO : Only [n, n + 1] V V') (hw : w.heap.size + 1 + 1 < n) : RdZ w q V' := by
  have hm : ∀ g, g < n → g ∉ [n, n + 1] := fun g hg => by simp; omega
  exact ⟨hO.kp h.kp (by simp; omega), h.ls.only hO (hm _ (by omega)), h.at_.only hO (hm _ (by omega)), h.er.only hO (hm _ hw), h.no⟩

set_option maxRecDepth 100000 in
set_option maxHeartbeats 4000000 in
theorem read_any (s : ByteArray) (hs : s.size ≤ 1000000) (w : World) (LO : LibOk w) : Calls Tryz.prog 26 #[.string s] w (ReadP s w) := by
  have hrd := read_same s.data.toList
  obtain ⟨q, hq⟩ : ∃ q, refReadE s.data.toList = q := ⟨_, rfl⟩
  unfold ReadP
  rw [hq] at hrd ⊢
  clear hq
  obtain ⟨L, hL⟩ : ∃ L, linesS s.data.toList = L := ⟨_, rfl⟩
  rw [hL] at hrd
  have hit := fun bx => each1_iter bx s hs
  have hsub : ∀ y ∈ L, y.1.length ≤ 1000000 := by
    have hlen : s.data.toList.length = s.size := by rw [Array.length_toList]; rfl
    rw [← hL]
    exact fun y hy => Nat.le_trans (linesS_sub _ y hy) (by omega)
  have hLl : L.length ≤ 1000001 := by
    have hlen : s.data.toList.length = s.size := by rw [Array.length_toList]; rfl
    rw [← hL]; have := linesS_len s.data.toList; omega
  rw [hL] at hit
  have Hit := Lib.hid hit
  have Hrd := Lib.hid hrd
  have Hsub := Lib.hid hsub
  clear hL hit hrd hsub
  have b1 := ((Blk.new w 53 #[.slice none 0 0]).alloc (.cells #[.int .i64 0] 3)).alloc (.cells #[.int .i64 0] 29)
  have b2 := (Blk.new1 w (.cells #[.slice none 0 0] 53) 3 #[.int .i64 0]).alloc (.cells #[.int .i64 0] 29)
  have b3 := Blk.new2 w (.cells #[.slice none 0 0] 53) (.cells #[.int .i64 0] 3) 29 #[.int .i64 0]
  have kw := (((Kp.refl w).alloc (.cells #[.slice none 0 0] 53)).alloc (.cells #[.int .i64 0] 3)).alloc (.cells #[.int .i64 0] 29)
  refine calls_of_wp_marks Tryz.func26 rfl ?_; simp only [Tryz.ntmps26, List.size_toArray, List.length_cons, List.length_nil, Nat.reduceAdd, Nat.reduceSub, Array.replicate_succ, Array.replicate_zero, List.push_toArray, List.append_toArray, List.nil_append, List.cons_append]
  go_wp2_with fail
  obtain ⟨W, hW, kW, B1, B2, B3⟩ : ∃ W, ((w.alloc (.cells #[.slice none 0 0] 53)).alloc (.cells #[.int .i64 0] 3)).alloc (.cells #[.int .i64 0] 29) = W ∧ Kp w W ∧ Blk W w.heap.size 53 #[.slice none 0 0] ∧ Blk W (w.heap.size + 1) 3 #[.int .i64 0] ∧ Blk W (w.heap.size + 1 + 1) 29 #[.int .i64 0] := ⟨_, rfl, kw, b1, b2, b3⟩
  rw [hW]
  clear hW kw b1 b2 b3
  refine (each_any s W).mono ?_
  rintro e w1 ⟨rfl, hBx, hK1⟩
  have hlt := B3.lt
  have hbx := hBx.lt
  obtain ⟨bx, hbxe⟩ : ∃ bx, W.heap.size = bx := ⟨_, rfl⟩
  rw [hbxe] at hBx hlt hbx ⊢
  clear hbxe
  unfold eachV
  go_wp2_with fail
  have LO1 := Lib.hid LO
  have I0 : RdI w s L q bx (w1.heap.size + 2) 0 w1 := ⟨kW.trans hK1, B2.keep hK1, B3.keep hK1, hBx, .slice none 0 0, [], B1.keep hK1, Own.nil _ _ _ _ _, by simp, by rw [List.drop_zero]; exact Hrd.out, by simp⟩
  clear B1 B2 B3 hBx kW hK1 LO
  refine wp_range (N := L.length) rfl call_each1 (Hit.out bx) (fun _ _ => rfl) (RdI w s L q bx (w1.heap.size + 2)) (fun c k V => c = .ret ∧ RdZ w q V) ?_ ?_ ?_ I0 ?_ ?_ ?_
  · exact fun k V V' h hO => h.turn hO rfl (by omega) hbx
  · exact fun c k V V' h hO => ⟨h.1, h.2.turn hO (by omega)⟩
  · exact fun k V h => h.bx
  · intro l k V hk _
    gi_wp2_with fail
    refine ⟨trivial, ?_⟩
    intro W2 h2 hsz
    obtain ⟨v, bs, C1, C2, C3, C4, C5⟩ := h2.ls
    have c0 : W2.cell? ⟨w.heap.size, 0, none⟩ = some v := C1.cell 0
    have c1 : W2.cell? ⟨w.heap.size + 1, 0, none⟩ = some (.int .i64 (k : Nat)) := h2.at_.cell 0
    have z0 := C1.frozen 0
    have z1 := h2.at_.frozen 0
    have z2 := h2.er.frozen 0
    have e2 : W2.cell? ⟨w.heap.size + 1 + 1, 0, none⟩ = some (.int .i64 0) := h2.er.cell 0
    have LW2 := LO1.out.keep h2.kp
    obtain ⟨x, en, hx⟩ : ∃ x en, lineAt L k = (x, en) := ⟨_, _, rfl⟩
    have hdr : L.drop k = (x, en) :: L.drop (k + 1) := by rw [List.drop_eq_getElem_cons hk, ← lineAt_eq hk, hx]
    rw [hdr, readL] at C4
    have hxl : x.length ≤ 1000000 := by
      have := Hsub.out (lineAt L k) (by rw [lineAt_eq hk]; exact List.getElem_mem hk)
      rw [hx] at this
      exact this
    simp only [hx]
    clear hdr hx
    cases en with
    | false =>
      rw [if_pos rfl] at C4
      have Hq := Lib.hid C4
      clear C4
      refine wpIn_block ?_
      gi_wp2_with fail
      refine round_inv (by kernel_rfl) (by kernel_rfl) (by repeat (first | exact no_out_round | refine no_out ?_ | refine no_out_block ?_)) (RetG W2 [(w.heap.size, 53, 1, v, .slice none 0 0), (w.heap.size + 1, 3, 2, .int .i64 (k : Nat), .int .i64 (k : Nat)), (w.heap.size + 1 + 1, 29, 3, .int .i64 0, .int .i64 260)] [(2, .pointer (some ⟨w.heap.size, 0, none⟩)), (3, .pointer (some ⟨w.heap.size + 1, 0, none⟩)), (4, .pointer (some ⟨w.heap.size + 1 + 1, 0, none⟩))] [(0, 15, .int .i64 (k : Nat))] [] 39) (by kernel_rfl) ?_ ?_ ?_
      · intro i o L' a V ho hL hd hG K hK
        have hi : i < 4 := by simpa using (List.getElem?_eq_some_iff.1 ho).1
        have hcs : i = 0 ∨ i = 1 ∨ i = 2 ∨ i = 3 := by omega
        clear hi
        rcases hcs with rfl | rfl | rfl | rfl
        all_goals
          simp only [List.getElem?_cons_zero, List.getElem?_cons_succ, Option.some.injEq] at ho
          subst ho
          rw [if_pos (by rfl)]
        · exact op_ld agg_int rfl (hG.fx (3, .pointer (some ⟨w.heap.size + 1, 0, none⟩)) (by simp)) (hG.same (b := w.heap.size + 1) (t := 3) (i := 2) (v := .int .i64 (k : Nat)) (by simp)) (hK _ _ (hG.tmp (i := 0) (d := 15) (by simp) (by simp) (by simp) (by simp) (by simp)))
        · obtain ⟨y, hy, hz⟩ := hG.cell (b := w.heap.size) (t := 53) (i := 1) (v := v) (u := .slice none 0 0) (by simp)
          exact op_st agg_evs sz_evs rfl rfl (hG.fx (2, .pointer (some ⟨w.heap.size, 0, none⟩)) (by simp)) rfl rfl hy hz (hK _ _ (hG.st (b := w.heap.size) (t := 53) (i := 1) (v := v) (u := .slice none 0 0) (by simp) (by simp) (by simp <;> omega) (by simp)))
        · obtain ⟨y, hy, hz⟩ := hG.cell (b := w.heap.size + 1) (t := 3) (i := 2) (v := .int .i64 (k : Nat)) (u := .int .i64 (k : Nat)) (by simp)
          exact op_st agg_int sz_int rfl rfl (hG.fx (3, .pointer (some ⟨w.heap.size + 1, 0, none⟩)) (by simp)) (hG.tm (0, 15, .int .i64 (k : Nat)) (by simp) (hd 0 (by decide) (by decide))) rfl hy hz (hK _ _ (hG.st (b := w.heap.size + 1) (t := 3) (i := 2) (v := .int .i64 (k : Nat)) (u := .int .i64 (k : Nat)) (by simp) (by simp) (by simp <;> omega) (by simp)))
        · obtain ⟨y, hy, hz⟩ := hG.cell (b := w.heap.size + 1 + 1) (t := 29) (i := 3) (v := .int .i64 0) (u := .int .i64 260) (by simp)
          exact op_st agg_errno sz_errno rfl rfl (hG.fx (4, .pointer (some ⟨w.heap.size + 1 + 1, 0, none⟩)) (by simp)) rfl rfl hy hz (hK _ _ (hG.st (b := w.heap.size + 1 + 1) (t := 29) (i := 3) (v := .int .i64 0) (u := .int .i64 260) (by simp) (by simp) (by simp <;> omega) (by simp)))
      · intro L' a V hall hG
        have D0 := hG.done (b := w.heap.size) (t := 53) (i := 1) (v := v) (u := .slice none 0 0) (by simp) (hall 1 (by decide))
        have D1 := hG.done (b := w.heap.size + 1) (t := 3) (i := 2) (v := .int .i64 (k : Nat)) (u := .int .i64 (k : Nat)) (by simp) (hall 2 (by decide))
        have D2 := hG.done (b := w.heap.size + 1 + 1) (t := 29) (i := 3) (v := .int .i64 0) (u := .int .i64 260) (by simp) (hall 3 (by decide))
        have DO := hG.only
        have DF := hG.df
        gi_wp2_with fail
        replace DO : Only [w.heap.size, w.heap.size + 1, w.heap.size + 1 + 1] _ V := DO
        exact ⟨⟨DO.block w1.heap.size (by omega) (by simp; omega), DO.block (w1.heap.size + 1) (by omega) (by simp; omega)⟩, rfl, ⟨DO.kp h2.kp (by simp <;> omega), D0, by rw [← Hq.out]; exact D1, by rw [← Hq.out]; exact D2, by rw [← Hq.out]⟩⟩
      · refine ⟨(Only.refl _ _).drew, rfl, rfl, by simp, by simp, fun e he => ?_⟩
        simp only [List.mem_cons, List.not_mem_nil, or_false] at he
        rcases he with rfl | rfl | rfl
        · simpa using (C1).drew
        · simpa using (h2.at_).drew
        · simpa using (h2.er).drew
    | true =>
      rw [if_neg (by simp)] at C4
      by_cases hxe : x = []
      · rw [if_pos hxe] at C4
        have hb : (strB x).toList.isEmpty = true := by rw [Lib.toList_data, hxe]; rfl
        have hb2 : x.isEmpty = true := by rw [hxe]; rfl
        have Hq := Lib.hid C4
        have hk9 : (k : Int) + 1 ≤ 9223372036854775807 := by omega
        clear C4 hxe
        refine wpIn_block ?_
        gi_wp2_with fail
        have Hn : RdI w s L q bx (w1.heap.size + 2) (k + 1) (W2.setCell ⟨w.heap.size + 1, 0, none⟩ (.int .i64 ((k : Int) + 1))) :=
          ⟨(h2.kp).setCell (by simp) _, by simpa using (h2.at_).set_ 0 (.int .i64 ((k : Int) + 1)), (h2.er).far (by simp) _, (h2.bx).far (by simp; omega) _,
            v, bs, (C1).far (by simp) _, Own.setBelow (p := ⟨w.heap.size + 1, 0, none⟩) (C2) (by show w.heap.size + 1 < _; omega) _, fun y hy => (C3 y hy).only ((Only.refl [w.heap.size + 1] _).setCell (.inl (by simp)) _) (by simp; omega), Hq.out, C5⟩
        exact ⟨⟨Below.heap_setCell _ _ _ _ (by simp; omega), Below.heap_setCell _ _ _ _ (by simp; omega)⟩, Hn⟩
      · rw [if_neg hxe] at C4
        have hb : (strB x).toList.isEmpty = false := by rw [Lib.toList_data]; simpa using hxe
        have hb2 : x.isEmpty = false := by simpa using hxe
        clear hxe
        cases hpe : parseE x with
        | none =>
          rw [hpe] at C4
          have Hq := Lib.hid C4
          have Hpe := Lib.hid hpe
          clear C4 hpe
          refine wpIn_block ?_
          gi_wp2_with fail
          refine ⟨trivial, rfl, calls_round l ((parse_fresh (strB x) (by show x.toArray.size ≤ _; simpa using hxl) _ LW2).mono ?_)⟩
          rintro e W3 ⟨K3, hY, hN⟩
          rw [strB_list] at hY hN
          obtain rfl := hN Hpe.out
          clear hY hN
          clear c0 c1 z0 z1 z2 e2
          gi_wp2_with fail
          obtain ⟨W4, hW4, K34, BE⟩ : ∃ W4, W3.alloc (.cells (evC (ev0 0) (.slice none 0 0)) 27) = W4 ∧ Kp W3 W4 ∧ Blk W4 W3.heap.size 27 (evC (ev0 0) (.slice none 0 0)) := ⟨_, rfl, (Kp.refl _).alloc _, Blk.new _ _ _⟩
          have K4 : Kp W2 W4 := K3.trans K34
          have s4 := K4.size
          have s34 := K3.size
          have G1 := C1.keep K4
          have G2 := h2.at_.keep K4
          have G3 := h2.er.keep K4
          have g0 : W4.cell? ⟨w.heap.size, 0, none⟩ = some v := G1.cell 0
          have g1 : W4.cell? ⟨w.heap.size + 1, 0, none⟩ = some (.int .i64 (k : Nat)) := G2.cell 0
          have x0 := G1.frozen 0
          have x1 := G2.frozen 0
          simp only [evC] at hW4
          rw [hW4]
          clear hW4
          refine round_inv (by kernel_rfl) (by kernel_rfl) (by repeat (first | exact no_out_round | refine no_out ?_ | refine no_out_block ?_)) (RetG W4 [(w.heap.size, 53, 2, v, .slice none 0 0), (w.heap.size + 1, 3, 3, .int .i64 (k : Nat), .int .i64 (k : Nat)), (w.heap.size + 1 + 1, 29, 4, .int .i64 0, .int .i64 260)] [(2, .pointer (some ⟨w.heap.size, 0, none⟩)), (3, .pointer (some ⟨w.heap.size + 1, 0, none⟩)), (4, .pointer (some ⟨w.heap.size + 1 + 1, 0, none⟩)), (8, .int .i64 260)] [(0, 25, .int .i64 (k : Nat)), (1, 26, .int .i64 260)] [] 39) (by kernel_rfl) ?_ ?_ ?_
          · intro i o L' a V ho hL hd hG K hK
            have hi : i < 5 := by simpa using (List.getElem?_eq_some_iff.1 ho).1
            have hcs : i = 0 ∨ i = 1 ∨ i = 2 ∨ i = 3 ∨ i = 4 := by omega
            clear hi
            rcases hcs with rfl | rfl | rfl | rfl | rfl
            all_goals
              simp only [List.getElem?_cons_zero, List.getElem?_cons_succ, Option.some.injEq] at ho
              subst ho
              rw [if_pos (by rfl)]
            · exact op_ld agg_int rfl (hG.fx (3, .pointer (some ⟨w.heap.size + 1, 0, none⟩)) (by simp)) (hG.same (b := w.heap.size + 1) (t := 3) (i := 3) (v := .int .i64 (k : Nat)) (by simp)) (hK _ _ (hG.tmp (i := 0) (d := 25) (by simp) (by simp) (by simp) (by simp) (by simp)))
            · exact op_mv rfl (hG.fx (8, .int .i64 260) (by simp)) (hK _ _ (hG.tmp (i := 1) (d := 26) (by simp) (by simp) (by simp) (by simp) (by simp)))
            · obtain ⟨y, hy, hz⟩ := hG.cell (b := w.heap.size) (t := 53) (i := 2) (v := v) (u := .slice none 0 0) (by simp)
              exact op_st agg_evs sz_evs rfl rfl (hG.fx (2, .pointer (some ⟨w.heap.size, 0, none⟩)) (by simp)) rfl rfl hy hz (hK _ _ (hG.st (b := w.heap.size) (t := 53) (i := 2) (v := v) (u := .slice none 0 0) (by simp) (by simp) (by simp <;> omega) (by simp)))
            · obtain ⟨y, hy, hz⟩ := hG.cell (b := w.heap.size + 1) (t := 3) (i := 3) (v := .int .i64 (k : Nat)) (u := .int .i64 (k : Nat)) (by simp)
              exact op_st agg_int sz_int rfl rfl (hG.fx (3, .pointer (some ⟨w.heap.size + 1, 0, none⟩)) (by simp)) (hG.tm (0, 25, .int .i64 (k : Nat)) (by simp) (hd 0 (by decide) (by decide))) rfl hy hz (hK _ _ (hG.st (b := w.heap.size + 1) (t := 3) (i := 3) (v := .int .i64 (k : Nat)) (u := .int .i64 (k : Nat)) (by simp) (by simp) (by simp <;> omega) (by simp)))
            · obtain ⟨y, hy, hz⟩ := hG.cell (b := w.heap.size + 1 + 1) (t := 29) (i := 4) (v := .int .i64 0) (u := .int .i64 260) (by simp)
              exact op_st agg_errno sz_errno rfl rfl (hG.fx (4, .pointer (some ⟨w.heap.size + 1 + 1, 0, none⟩)) (by simp)) (hG.tm (1, 26, .int .i64 260) (by simp) (hd 1 (by decide) (by decide))) rfl hy hz (hK _ _ (hG.st (b := w.heap.size + 1 + 1) (t := 29) (i := 4) (v := .int .i64 0) (u := .int .i64 260) (by simp) (by simp) (by simp <;> omega) (by simp)))
          · intro L' a V hall hG
            have D0 := hG.done (b := w.heap.size) (t := 53) (i := 2) (v := v) (u := .slice none 0 0) (by simp) (hall 2 (by decide))
            have D1 := hG.done (b := w.heap.size + 1) (t := 3) (i := 3) (v := .int .i64 (k : Nat)) (u := .int .i64 (k : Nat)) (by simp) (hall 3 (by decide))
            have D2 := hG.done (b := w.heap.size + 1 + 1) (t := 29) (i := 4) (v := .int .i64 0) (u := .int .i64 260) (by simp) (hall 4 (by decide))
            have DO := hG.only
            have DF := hG.df
            gi_wp2_with fail
            replace DO : Only [w.heap.size, w.heap.size + 1, w.heap.size + 1 + 1] _ V := DO
            exact ⟨⟨(DO.block w1.heap.size (by omega) (by simp; omega)).trans (K4.heap (by omega)), (DO.block (w1.heap.size + 1) (by omega) (by simp; omega)).trans (K4.heap (by omega))⟩, rfl, ⟨DO.kp (h2.kp.trans K4) (by simp <;> omega), D0, by rw [← Hq.out]; exact D1, by rw [← Hq.out]; exact D2, by rw [← Hq.out]⟩⟩
          · refine ⟨(Only.refl _ _).drew, rfl, rfl, by simp, by simp, fun e he => ?_⟩
            simp only [List.mem_cons, List.not_mem_nil, or_false] at he
            rcases he with rfl | rfl | rfl
            · simpa using (G1).drew
            · simpa using (G2).drew
            · simpa using (G3).drew
        | some tt =>
          rw [hpe] at C4
          simp only at C4
          have Hpe := Lib.hid hpe
          clear hpe
          refine wpIn_block ?_
          gi_wp2_with fail
          refine ⟨trivial, rfl, calls_round l ((parse_fresh (strB x) (by show x.toArray.size ≤ _; simpa using hxl) _ LW2).mono ?_)⟩
          rintro e W3 ⟨K3, hY, hN⟩
          rw [strB_list] at hY hN
          obtain ⟨A3, c3, rfl, hR3, hA3⟩ := hY tt Hpe.out
          clear hY hN
          obtain ⟨Av, cv, rfl⟩ := C2.form
          have al : ∀ o, (W3.alloc o).cell? ⟨w.heap.size, 0, none⟩ = some (.slice Av bs.length cv) := fun o => ((Kp.refl W3).alloc o).cell (K3.cell c0)
          clear c0 c1 z0 z1 z2 e2
          by_cases h5 : bs.length = 500
          · rw [List.length_map, if_pos h5] at C4
            have Hq := Lib.hid C4
            clear C4
            have hd5 : ((bs.length : Int) == 500) = true := by rw [beq_iff_eq]; omega
            clear h5
            gi_wp2_with fail
            obtain ⟨W4, hW4, K34, BE⟩ : ∃ W4, W3.alloc (.cells (evC tt (.slice A3 tt.bytes.length c3)) 27) = W4 ∧ Kp W3 W4 ∧ Blk W4 W3.heap.size 27 (evC tt (.slice A3 tt.bytes.length c3)) := ⟨_, rfl, (Kp.refl _).alloc _, Blk.new _ _ _⟩
            have K4 : Kp W2 W4 := K3.trans K34
            have s4 := K4.size
            have s34 := K3.size
            have G1 := C1.keep K4
            have G2 := h2.at_.keep K4
            have G3 := h2.er.keep K4
            have g0 : W4.cell? ⟨w.heap.size, 0, none⟩ = some (.slice Av bs.length cv) := G1.cell 0
            have g1 : W4.cell? ⟨w.heap.size + 1, 0, none⟩ = some (.int .i64 (k : Nat)) := G2.cell 0
            have x0 := G1.frozen 0
            have x1 := G2.frozen 0
            simp only [evC] at hW4
            rw [hW4]
            clear hW4
            refine round_inv (by kernel_rfl) (by kernel_rfl) (by repeat (first | exact no_out_round | refine no_out ?_ | refine no_out_block ?_)) (RetG W4 [(w.heap.size, 53, 1, (.slice Av bs.length cv), .slice none 0 0), (w.heap.size + 1, 3, 2, .int .i64 (k : Nat), .int .i64 (k : Nat)), (w.heap.size + 1 + 1, 29, 3, .int .i64 0, .int .i64 3)] [(2, .pointer (some ⟨w.heap.size, 0, none⟩)), (3, .pointer (some ⟨w.heap.size + 1, 0, none⟩)), (4, .pointer (some ⟨w.heap.size + 1 + 1, 0, none⟩))] [(0, 30, .int .i64 (k : Nat))] [] 39) (by kernel_rfl) ?_ ?_ ?_
            · intro i o L' a V ho hL hd hG K hK
              have hi : i < 4 := by simpa using (List.getElem?_eq_some_iff.1 ho).1
              have hcs : i = 0 ∨ i = 1 ∨ i = 2 ∨ i = 3 := by omega
              clear hi
              rcases hcs with rfl | rfl | rfl | rfl
              all_goals
                simp only [List.getElem?_cons_zero, List.getElem?_cons_succ, Option.some.injEq] at ho
                subst ho
                rw [if_pos (by rfl)]
              · exact op_ld agg_int rfl (hG.fx (3, .pointer (some ⟨w.heap.size + 1, 0, none⟩)) (by simp)) (hG.same (b := w.heap.size + 1) (t := 3) (i := 2) (v := .int .i64 (k : Nat)) (by simp)) (hK _ _ (hG.tmp (i := 0) (d := 30) (by simp) (by simp) (by simp) (by simp) (by simp)))
              · obtain ⟨y, hy, hz⟩ := hG.cell (b := w.heap.size) (t := 53) (i := 1) (v := (.slice Av bs.length cv)) (u := .slice none 0 0) (by simp)
                exact op_st agg_evs sz_evs rfl rfl (hG.fx (2, .pointer (some ⟨w.heap.size, 0, none⟩)) (by simp)) rfl rfl hy hz (hK _ _ (hG.st (b := w.heap.size) (t := 53) (i := 1) (v := (.slice Av bs.length cv)) (u := .slice none 0 0) (by simp) (by simp) (by simp <;> omega) (by simp)))
              · obtain ⟨y, hy, hz⟩ := hG.cell (b := w.heap.size + 1) (t := 3) (i := 2) (v := .int .i64 (k : Nat)) (u := .int .i64 (k : Nat)) (by simp)
                exact op_st agg_int sz_int rfl rfl (hG.fx (3, .pointer (some ⟨w.heap.size + 1, 0, none⟩)) (by simp)) (hG.tm (0, 30, .int .i64 (k : Nat)) (by simp) (hd 0 (by decide) (by decide))) rfl hy hz (hK _ _ (hG.st (b := w.heap.size + 1) (t := 3) (i := 2) (v := .int .i64 (k : Nat)) (u := .int .i64 (k : Nat)) (by simp) (by simp) (by simp <;> omega) (by simp)))
              · obtain ⟨y, hy, hz⟩ := hG.cell (b := w.heap.size + 1 + 1) (t := 29) (i := 3) (v := .int .i64 0) (u := .int .i64 3) (by simp)
                exact op_st agg_errno sz_errno rfl rfl (hG.fx (4, .pointer (some ⟨w.heap.size + 1 + 1, 0, none⟩)) (by simp)) rfl rfl hy hz (hK _ _ (hG.st (b := w.heap.size + 1 + 1) (t := 29) (i := 3) (v := .int .i64 0) (u := .int .i64 3) (by simp) (by simp) (by simp <;> omega) (by simp)))
            · intro L' a V hall hG
              have D0 := hG.done (b := w.heap.size) (t := 53) (i := 1) (v := (.slice Av bs.length cv)) (u := .slice none 0 0) (by simp) (hall 1 (by decide))
              have D1 := hG.done (b := w.heap.size + 1) (t := 3) (i := 2) (v := .int .i64 (k : Nat)) (u := .int .i64 (k : Nat)) (by simp) (hall 2 (by decide))
              have D2 := hG.done (b := w.heap.size + 1 + 1) (t := 29) (i := 3) (v := .int .i64 0) (u := .int .i64 3) (by simp) (hall 3 (by decide))
              have DO := hG.only
              have DF := hG.df
              gi_wp2_with fail
              replace DO : Only [w.heap.size, w.heap.size + 1, w.heap.size + 1 + 1] _ V := DO
              exact ⟨⟨(DO.block w1.heap.size (by omega) (by simp; omega)).trans (K4.heap (by omega)), (DO.block (w1.heap.size + 1) (by omega) (by simp; omega)).trans (K4.heap (by omega))⟩, rfl, ⟨DO.kp (h2.kp.trans K4) (by simp <;> omega), D0, by rw [← Hq.out]; exact D1, by rw [← Hq.out]; exact D2, by rw [← Hq.out]⟩⟩
            · refine ⟨(Only.refl _ _).drew, rfl, rfl, by simp, by simp, fun e he => ?_⟩
              simp only [List.mem_cons, List.not_mem_nil, or_false] at he
              rcases he with rfl | rfl | rfl
              · simpa using (G1).drew
              · simpa using (G2).drew
              · simpa using (G3).drew
          · rw [List.length_map, if_neg h5] at C4
            have Hq := Lib.hid C4
            clear C4
            have hd5 : ((bs.length : Int) == 500) = false := by rw [beq_eq_false_iff_ne]; omega
            have hk9 : (k : Int) + 1 ≤ 9223372036854775807 := by omega
            have bl5 : bs.length + 1 ≤ 500 := by omega
            clear h5
            have OW : ∀ o, Own (W3.alloc o) (w1.heap.size + 2) 27 7 esE (.slice Av bs.length cv) bs := fun o => (C2.keep K3).alloc o
            have s3 := K3.size
            have HOW := Lib.hid OW
            clear OW
            gi_wp2_with (gi_at_builtin; go_must (refine wpListIn_appl EEv esE_len esE_one rfl _ _ rfl (tt, A3, c3) rfl (HOW.out _) (by simp; omega) rfl (by simp) rfl (by omega) ?_); intro v5 W5 hown5 hg5 hob5; obtain ⟨A5, c5, rfl⟩ := hown5.form1; have J1 := ((C1.keep K3).alloc _).grown hg5 (Own.ne C2 (g := w.heap.size) (by omega)); have J2 := ((h2.at_.keep K3).alloc _).grown hg5 (Own.ne C2 (g := w.heap.size + 1) (by omega)); have j0 : W5.cell? ⟨w.heap.size, 0, none⟩ = some (.slice Av bs.length cv) := J1.cell 0; have j1 : W5.cell? ⟨w.heap.size + 1, 0, none⟩ = some (.int .i64 (k : Nat)) := J2.cell 0; have y0 := J1.frozen 0; have y1 := J2.frozen 0)
            have K5 : Kp w W5 := ((h2.kp.trans K3).alloc _).grown hg5 (fun q hq => by have := (World.ownsRow.lt C2 q hq).1; omega)
            have J3 := ((h2.er.keep K3).alloc _).grown hg5 (Own.ne C2 (g := w.heap.size + 1 + 1) (by omega))
            have J4 := ((h2.bx.keep K3).alloc _).grown hg5 (Own.ne C2 (g := bx) (by omega))
            have J1s : Blk (W5.setCell ⟨w.heap.size, 0, none⟩ (.slice A5 (bs.length + 1) c5)) w.heap.size 53 #[.slice A5 (bs.length + 1) c5] := by simpa using J1.set_ 0 (.slice A5 (bs.length + 1) c5)
            have hown6 : Own (W5.setCell ⟨w.heap.size, 0, none⟩ (.slice A5 (bs.length + 1) c5)) (w1.heap.size + 2) 27 7 esE (.slice A5 (bs.length + 1) c5) (bs ++ [(tt, A3, c3)]) := Own.setBelow (p := ⟨w.heap.size, 0, none⟩) hown5 (by show w.heap.size < _; omega) _
            have hev : ∀ y ∈ bs ++ [(tt, A3, c3)], EvB (w1.heap.size + 2) (Value.slice A5 (bs.length + 1) c5).ownBlock (W5.setCell ⟨w.heap.size, 0, none⟩ (.slice A5 (bs.length + 1) c5)) y := by
              have hO5 : Only [w.heap.size] W5 (W5.setCell ⟨w.heap.size, 0, none⟩ (.slice A5 (bs.length + 1) c5)) := (Only.refl _ _).setCell (.inl (by simp)) _
              have hob6 : (Value.slice A5 (bs.length + 1) c5).ownBlock = (Value.slice Av bs.length cv).ownBlock ∨ ∃ n, (Value.slice A5 (bs.length + 1) c5).ownBlock = some n ∧ W3.heap.size + 1 ≤ n := hob5.imp id (fun h => ⟨_, h, by simp⟩)
              intro y hy
              rcases List.mem_append.1 hy with hy | hy
              · exact ((((C3 y hy).keep K3).keep ((Kp.refl _).alloc _)).grown hg5 (by simpa using hob6)).only hO5 (by simp; omega)
              · rw [List.mem_singleton] at hy
                subst hy
                have hn3 : EvB (w1.heap.size + 2) (Value.slice Av bs.length cv).ownBlock W3 (tt, A3, c3) := ⟨hR3, fun hl b o e => by
                  have h1 := hA3 b o e
                  refine ⟨by omega, fun e2 => ?_⟩
                  have := (World.ownsRow.lt C2 b e2.symm).2
                  omega⟩
                exact ((hn3.keep ((Kp.refl _).alloc _)).grown hg5 (by simpa using hob6)).only hO5 (by simp; omega)
            have hq6 : readL (L.drop (k + 1)) (k + 1) ((bs ++ [(tt, (A3, c3))]).map (·.1)) = q := by rw [List.map_append]; exact Hq.out
            have kz : ∀ g, w1.heap.size ≤ g → g < w1.heap.size + 2 → ((W5.setCell ⟨w.heap.size, 0, none⟩ (.slice A5 (bs.length + 1) c5)).setCell ⟨w.heap.size + 1, 0, none⟩ (.int .i64 ((k : Int) + 1))).heap[g]? = W2.heap[g]? := by
              intro g hg1 hg2
              refine (Below.heap_setCell _ _ _ _ (by show g ≠ w.heap.size + 1; omega)).trans ((Below.heap_setCell _ _ _ _ (by show g ≠ w.heap.size; omega)).trans ((hg5.block g (by simp; omega) (Own.ne C2 (by omega))).trans ((Below.heap_alloc _ _ _ (by omega)).trans (K3.heap (by omega)))))
            have Hn : RdI w s L q bx (w1.heap.size + 2) (k + 1) ((W5.setCell ⟨w.heap.size, 0, none⟩ (.slice A5 (bs.length + 1) c5)).setCell ⟨w.heap.size + 1, 0, none⟩ (.int .i64 ((k : Int) + 1))) :=
              ⟨(K5.setCell (by simp) _).setCell (by simp) _, by simpa using (J2.far (by simp) _).set_ 0 (.int .i64 ((k : Int) + 1)), (J3.far (by simp <;> omega) _).far (by simp) _, (J4.far (by simp; omega) _).far (by simp; omega) _,
                .slice A5 (bs.length + 1) c5, bs ++ [(tt, A3, c3)], (J1s).far (by simp) _, Own.setBelow (p := ⟨w.heap.size + 1, 0, none⟩) (hown6) (by show w.heap.size + 1 < _; omega) _, fun y hy => (hev y hy).only ((Only.refl [w.heap.size + 1] _).setCell (.inl (by simp)) _) (by simp; omega), hq6, (by simp; omega)⟩
            exact ⟨⟨kz _ (by omega) (by omega), kz _ (by omega) (by omega)⟩, Hn⟩
  · rintro V1 h hd
    obtain ⟨v, bs, C1, C2, C3, C4, C5⟩ := h.ls
    rw [List.drop_length] at C4
    simp only [readL] at C4
    have Hq := Lib.hid C4
    clear C4
    obtain ⟨A, c, rfl⟩ := C2.form
    go_wp2_with fail
    refine wp_anyI (by kernel_rfl) (RetG V1 [(w.heap.size, 53, 2, (.slice A bs.length c), (.slice A bs.length c)), (w.heap.size + 1, 3, 3, .int .i64 (L.length : Nat), .int .i64 (L.length : Nat)), (w.heap.size + 1 + 1, 29, 4, .int .i64 0, .int .i64 0)] [(2, .pointer (some ⟨w.heap.size, 0, none⟩)), (3, .pointer (some ⟨w.heap.size + 1, 0, none⟩)), (4, .pointer (some ⟨w.heap.size + 1 + 1, 0, none⟩))] [(0, 37, (.slice A bs.length c)), (1, 38, .int .i64 (L.length : Nat))] [{ target := Target.collected w1.heap.size, args := #[] }] 39) (by kernel_rfl) ?_ ?_ ?_
    · intro i o L' a V ho hL hd hG K hK
      have hi : i < 5 := by simpa using (List.getElem?_eq_some_iff.1 ho).1
      have hcs : i = 0 ∨ i = 1 ∨ i = 2 ∨ i = 3 ∨ i = 4 := by omega
      clear hi
      rcases hcs with rfl | rfl | rfl | rfl | rfl
      all_goals
        simp only [List.getElem?_cons_zero, List.getElem?_cons_succ, Option.some.injEq] at ho
        subst ho
        rw [if_pos (by rfl)]
      · exact op_ld agg_evs rfl (hG.fx (2, .pointer (some ⟨w.heap.size, 0, none⟩)) (by simp)) (hG.same (b := w.heap.size) (t := 53) (i := 2) (v := (.slice A bs.length c)) (by simp)) (hK _ _ (hG.tmp (i := 0) (d := 37) (by simp) (by simp) (by simp) (by simp) (by simp)))
      · exact op_ld agg_int rfl (hG.fx (3, .pointer (some ⟨w.heap.size + 1, 0, none⟩)) (by simp)) (hG.same (b := w.heap.size + 1) (t := 3) (i := 3) (v := .int .i64 (L.length : Nat)) (by simp)) (hK _ _ (hG.tmp (i := 1) (d := 38) (by simp) (by simp) (by simp) (by simp) (by simp)))
      · obtain ⟨y, hy, hz⟩ := hG.cell (b := w.heap.size) (t := 53) (i := 2) (v := (.slice A bs.length c)) (u := (.slice A bs.length c)) (by simp)
        exact op_st agg_evs sz_evs rfl rfl (hG.fx (2, .pointer (some ⟨w.heap.size, 0, none⟩)) (by simp)) (hG.tm (0, 37, (.slice A bs.length c)) (by simp) (hd 0 (by decide) (by decide))) rfl hy hz (hK _ _ (hG.st (b := w.heap.size) (t := 53) (i := 2) (v := (.slice A bs.length c)) (u := (.slice A bs.length c)) (by simp) (by simp) (by simp <;> omega) (by simp)))
      · obtain ⟨y, hy, hz⟩ := hG.cell (b := w.heap.size + 1) (t := 3) (i := 3) (v := .int .i64 (L.length : Nat)) (u := .int .i64 (L.length : Nat)) (by simp)
        exact op_st agg_int sz_int rfl rfl (hG.fx (3, .pointer (some ⟨w.heap.size + 1, 0, none⟩)) (by simp)) (hG.tm (1, 38, .int .i64 (L.length : Nat)) (by simp) (hd 1 (by decide) (by decide))) rfl hy hz (hK _ _ (hG.st (b := w.heap.size + 1) (t := 3) (i := 3) (v := .int .i64 (L.length : Nat)) (u := .int .i64 (L.length : Nat)) (by simp) (by simp) (by simp <;> omega) (by simp)))
      · obtain ⟨y, hy, hz⟩ := hG.cell (b := w.heap.size + 1 + 1) (t := 29) (i := 4) (v := .int .i64 0) (u := .int .i64 0) (by simp)
        exact op_st agg_errno sz_errno rfl rfl (hG.fx (4, .pointer (some ⟨w.heap.size + 1 + 1, 0, none⟩)) (by simp)) rfl rfl hy hz (hK _ _ (hG.st (b := w.heap.size + 1 + 1) (t := 29) (i := 4) (v := .int .i64 0) (u := .int .i64 0) (by simp) (by simp) (by simp <;> omega) (by simp)))
    · intro L' a V hall hG
      have D0 := hG.done (b := w.heap.size) (t := 53) (i := 2) (v := (.slice A bs.length c)) (u := (.slice A bs.length c)) (by simp) (hall 2 (by decide))
      have D1 := hG.done (b := w.heap.size + 1) (t := 3) (i := 3) (v := .int .i64 (L.length : Nat)) (u := .int .i64 (L.length : Nat)) (by simp) (hall 3 (by decide))
      have D2 := hG.done (b := w.heap.size + 1 + 1) (t := 29) (i := 4) (v := .int .i64 0) (u := .int .i64 0) (by simp) (hall 4 (by decide))
      have DO := hG.only
      have DF := hG.df
      have P0 := ev_tmp (hG.fx (2, .pointer (some ⟨w.heap.size, 0, none⟩)) (by simp))
      have P1 := ev_tmp (hG.fx (3, .pointer (some ⟨w.heap.size + 1, 0, none⟩)) (by simp))
      have P2 := ev_tmp (hG.fx (4, .pointer (some ⟨w.heap.size + 1 + 1, 0, none⟩)) (by simp))
      go_wp2_with fail
      replace DO : Only [w.heap.size, w.heap.size + 1, w.heap.size + 1 + 1] V1 V := DO
      show Takes a.defers V _
      rw [DF]
      refine takes_mark ((DO.block _ (by have := (Array.getElem?_eq_some_iff.1 hd).1; omega) (by simp; omega)).trans hd) (fun W' hO => ?_)
      have E0 := D0.only hO (by simp; omega)
      have E1 := D1.only hO (by simp; omega)
      have E2 := D2.only hO (by simp; omega)
      have f0 : W'.cell? ⟨w.heap.size, 0, none⟩ = some (.slice A bs.length c) := E0.cell 0
      have f1 : W'.cell? ⟨w.heap.size + 1, 0, none⟩ = some (.int .i64 (L.length : Nat)) := E1.cell 0
      have f2 : W'.cell? ⟨w.heap.size + 1 + 1, 0, none⟩ = some (.int .i64 0) := E2.cell 0
      have KF : Kp w W' := hO.kp (DO.kp h.kp (by simp <;> omega)) (by simp; omega)
      have OF := ((C2.only DO (by simp; omega)).only hO (by simp <;> omega)).rdAt (by decide) esE_len
      have hqa : q.1 = bs.map (·.1) := by rw [← Hq.out]
      have hqb : q.2.1 = L.length := by rw [← Hq.out]
      have hqc : q.2.2 = 0 := by rw [← Hq.out]
      refine ⟨.tuple #[.slice A bs.length c, .int .i64 (L.length : Nat), .int .i64 0], ?_, KF, A, ⟨c, ?_⟩, bs, hqa.symm, OF, fun y hy => (((C3 y hy).only DO (by simp; omega)).only hO (by simp <;> omega)).rd⟩
      · simp [results, Tryz.results26, go_sem, f0, f1, f2, P0, P1, P2]
      · rw [hqa, hqb, hqc, List.length_map]
    · refine ⟨(Only.refl _ _).drew, rfl, rfl, by simp, by simp, fun e he => ?_⟩
      simp only [List.mem_cons, List.not_mem_nil, or_false] at he
      rcases he with rfl | rfl | rfl
      · simpa using (C1).drew
      · simpa using (h.at_).drew
      · simpa using (h.er).drew
  · rintro c k V hk0 hkN ⟨rfl, h⟩ hd
    refine wp_ret ?_
    show Takes [{ target := Target.collected w1.heap.size, args := #[] }] V _
    refine takes_mark hd (fun W' hO => ?_)
    have E0 := h.ls.only hO (by simp; omega)
    have E1 := h.at_.only hO (by simp; omega)
    have E2 := h.er.only hO (by simp; omega)
    have f0 : W'.cell? ⟨w.heap.size, 0, none⟩ = some (.slice none 0 0) := E0.cell 0
    have f1 : W'.cell? ⟨w.heap.size + 1, 0, none⟩ = some (.int .i64 q.2.1) := E1.cell 0
    have f2 : W'.cell? ⟨w.heap.size + 1 + 1, 0, none⟩ = some (.int .i64 q.2.2) := E2.cell 0
    refine ⟨.tuple #[.slice none 0 0, .int .i64 q.2.1, .int .i64 q.2.2], ?_, hO.kp h.kp (by simp; omega), none, 0, ?_, ?_⟩
    · simp [results, Tryz.results26, go_sem, f0, f1, f2]
    · rw [h.no]; rfl
    · rw [h.no]; exact ⟨[], rfl, Rd.nil _ _ _ _, by simp⟩
end Go.Proofs.YtbfimimhgdkpaaaGreatDoor

/- The reference of package script: Text. No condition but the stated bounds. -/
namespace Go.Proofs.YtbfimimhgdkpaaaGreatDoor
open Go.RowKit

/-- The line's beginning, so many parts long. -/
@[irreducible] def txtE (e : Ev) (k j : Nat) : List UInt8 := nameOf k ++ ((partsOf k).take j).flatMap (fun p => 32 :: tellE p e)
theorem txtE_zero (e : Ev) (k : Nat) : txtE e k 0 = nameOf k := by unfold txtE; simp
theorem txtE_next {e : Ev} {k j : Nat} (hj : j < (partsOf k).length) {p : Pt} (hp : (partsOf k)[j] = p) : txtE e k (j + 1) = txtE e k j ++ ([32] ++ tellE p e) := by
  unfold txtE
  rw [List.take_add_one, List.getElem?_eq_getElem hj, hp]
  simp
theorem txtE_all {e : Ev} {k : Nat} (hk : e.kind = (k : Int)) : txtE e k (partsOf k).length = textE e := by
  unfold txtE
  have : e.kind.toNat = k := by omega
  rw [List.take_length, textE, this]
structure RTxt (w : World) (e : Ev) (fv : Value) (k j : Nat) (S : ByteArray) (wr : World) : Prop where
  kp : Kp w wr
  ev : Blk wr w.heap.size 27 (evC e fv)
  eq : S = strB (txtE e k j)
  sz : S.size ≤ 100 + 1400 * j

set_option maxRecDepth 100000 in
set_option maxHeartbeats 4000000 in
theorem rtext_any (e : Ev) (A : Option Addr) (c k : Nat) (hk : e.kind = (k : Int)) (h1 : 1 ≤ k) (h8 : k ≤ 8) (w : World) (L : LibOk w) (ok : EvOk e) (hA : Rd w 1 byteE A e.bytes) (hl : e.bytes.length ≤ 600) (hc : e.c = 0 ∨ e.c = 1) :
    Calls Tryz.prog 15 #[evV e (.slice A e.bytes.length c)] w fun en w' => en = .returned (.string (strB (textE e))) ∧ Kp w w' := by
  have KB : Kp w (w.alloc (.cells (evC e (.slice A e.bytes.length c)) 27)) := (Kp.refl w).alloc _
  have BE := Blk.new w 27 (evC e (.slice A e.bytes.length c))
  have Hall := Lib.hid (txtE_all hk)
  have HK := Lib.hid hk
  have Hc := Lib.hid hc
  have hx : ∀ w, (Instr.index 81 namesV (.int .i64 e.kind)).run Tryz.prog w = .ok (.string (strB (nameOf k))) w := fun w => by rw [hk]; exact name_idx k h8 w
  have hy : ∀ w, (Instr.index 81 rpartsV (.int .i64 e.kind)).run Tryz.prog w = .ok (.string (strB (partsW k))) w := fun w => by rw [hk]; exact part_idx k h8 w
  have hn5 : (nameOf k).length ≤ 5 := by
    have : k = 0 ∨ k = 1 ∨ k = 2 ∨ k = 3 ∨ k = 4 ∨ k = 5 ∨ k = 6 ∨ k = 7 ∨ k = 8 := by omega
    rcases this with rfl | rfl | rfl | rfl | rfl | rfl | rfl | rfl | rfl <;> decide
  have hp5 := parts_len h8
  have hpl := partsW_len k
  have hsh := tellE_short ok hl
  have Hsh := Lib.hid hsh
  clear hk hc hsh
  go_enter Tryz.func15, Tryz.ntmps15
  go_wp2_with fail
  obtain ⟨W, hW, kW, BW⟩ : ∃ W, w.alloc (.cells (evC e (.slice A e.bytes.length c)) 27) = W ∧ Kp w W ∧ Blk W w.heap.size 27 (evC e (.slice A e.bytes.length c)) := ⟨_, rfl, KB, BE⟩
  simp only [evC] at hW
  rw [hW]
  clear hW KB BE
  have q0 : W.cell? ⟨w.heap.size, 0, none⟩ = some (.int .i64 e.kind) := BW.cell 0
  go_wp2_with (first | (go_at_call 46; refine (rheads_any _).mono ?_; rintro en w1 ⟨rfl, hK1⟩) | (go_at_call 47; refine (rparts_any _).mono ?_; rintro en w2 ⟨rfl, hK2⟩))
  have kw2 := kW.trans (hK1.trans hK2)
  have B2 := (BW.keep hK1).keep hK2
  have HR : Hid (RTxt w e (.slice A e.bytes.length c) k 0 (strB (nameOf k)) w2) := Lib.hid ⟨kw2, B2, by rw [txtE_zero], by show (nameOf k).toArray.size ≤ _; simp; omega⟩
  clear kW BW hK1 hK2 kw2 B2 q0
  go_loopw [4, 6] (fun v i wr => ∃ (j : Nat) (S : ByteArray), j ≤ (partsOf k).length ∧ v = .string S ∧ i = .int .i64 j ∧ Hid (RTxt w e (.slice A e.bytes.length c) k j S wr)) (fun _ i _ => (partsOf k).length - (intOf i).toNat)
  case atStart => exact ⟨0, _, by omega, rfl, rfl, HR⟩
  case round =>
    obtain ⟨j, S, hj, rfl, rfl, R⟩ := hrel
    have BR := R.out.ev
    have L2 := L.keep R.out.kp
    have r1 : wr.cell? ⟨w.heap.size, 1, none⟩ = some (.int .i64 e.a) := BR.cell 1
    have r2 : wr.cell? ⟨w.heap.size, 2, none⟩ = some (.int .i64 e.b) := BR.cell 2
    have r3 : wr.cell? ⟨w.heap.size, 3, none⟩ = some (.int .i64 e.c) := BR.cell 3
    have r4 : wr.cell? ⟨w.heap.size, 4, none⟩ = some (.int .i64 e.draw) := BR.cell 4
    have r5 : wr.cell? ⟨w.heap.size, 5, none⟩ = some (.int .u32 (e.src : Int)) := BR.cell 5
    have r6 : wr.cell? ⟨w.heap.size, 6, none⟩ = some (.slice A e.bytes.length c) := BR.cell 6
    have hlt0 : w.heap.size < wr.heap.size := BR.lt
    have hne0 : ¬ w.heap.size = wr.heap.size := by omega
    by_cases hlt : j < (partsOf k).length
    · obtain ⟨p, hp⟩ : ∃ p, (partsOf k)[j] = p := ⟨_, rfl⟩
      have Hnx := Lib.hid (txtE_next (e := e) hlt hp)
      have x0 := partsW_get hlt hp j rfl
      have i0 : (0 : Int) ≤ (j : Int) := by omega
      have i1 : (j : Int) < ((strB (partsW k)).size : Int) := by omega
      have hT1 := Hsh.out p
      obtain ⟨T, hT⟩ : ∃ T, strB (tellE p e) = T := ⟨_, rfl⟩
      have hTs : T.size ≤ 1300 := by rw [← hT]; show (tellE p e).toArray.size ≤ 1300; simpa using hT1
      obtain ⟨t1, f1, z1, y1⟩ := add_fact (x := S) (y := ⟨#[32]⟩) (n := 100 + 1400 * j) (m := 1) R.out.sz (by decide) (by omega)
      obtain ⟨t2, f2, z2, y2⟩ := add_fact (x := t1) (y := T) y1 hTs (by omega)
      have Heq := Lib.hid (show t2 = strB (txtE e k (j + 1)) by
        rw [f2, f1, ← hT, R.out.eq, Hnx.out, show (⟨#[32]⟩ : ByteArray) = strB [32] from rfl, strB_app, strB_app, List.append_assoc])
      clear hp hT1 f1 f2 hTs
      cases p with
      | a =>
        have x1 : ∀ hh : j < (strB (partsW k)).size, ((strB (partsW k))[j]'hh).toNat = 97 := fun hh => by rw [x0 hh]; rfl
        clear x0
        have hT2 : strB (Lib.itoa e.a) = T := hT
        clear hT
        go_wp2_with (first | (go_at_call 48; refine (itoa_any e.a ok.a0 ok.a1 _ L2).mono ?_; rintro en w2 ⟨rfl, hK2⟩; rw [hT2]))
        have Hn : Hid (RTxt w e (.slice A e.bytes.length c) k (j + 1) t2 w2) := Lib.hid ⟨R.out.kp.trans hK2, R.out.ev.keep hK2, Heq.out, by omega⟩
        go_roundw
        case rel => exact ⟨j + 1, t2, by omega, rfl, by go_num, Hn⟩
        case measure => simp [intOf]; omega
      | b =>
        have x1 : ∀ hh : j < (strB (partsW k)).size, ((strB (partsW k))[j]'hh).toNat = 98 := fun hh => by rw [x0 hh]; rfl
        clear x0
        have hT2 : strB (Lib.itoa e.b) = T := hT
        clear hT
        go_wp2_with (first | (go_at_call 48; refine (itoa_any e.b ok.b0 ok.b1 _ L2).mono ?_; rintro en w2 ⟨rfl, hK2⟩; rw [hT2]))
        have Hn : Hid (RTxt w e (.slice A e.bytes.length c) k (j + 1) t2 w2) := Lib.hid ⟨R.out.kp.trans hK2, R.out.ev.keep hK2, Heq.out, by omega⟩
        go_roundw
        case rel => exact ⟨j + 1, t2, by omega, rfl, by go_num, Hn⟩
        case measure => simp [intOf]; omega
      | d =>
        have x1 : ∀ hh : j < (strB (partsW k)).size, ((strB (partsW k))[j]'hh).toNat = 100 := fun hh => by rw [x0 hh]; rfl
        clear x0
        have hT2 : strB (Lib.itoa e.draw) = T := hT
        clear hT
        go_wp2_with (first | (go_at_call 49; refine (format_any e.draw ok.d0 ok.d1 _ L2).mono ?_; rintro en w2 ⟨rfl, hK2⟩; rw [hT2]))
        have Hn : Hid (RTxt w e (.slice A e.bytes.length c) k (j + 1) t2 w2) := Lib.hid ⟨R.out.kp.trans hK2, R.out.ev.keep hK2, Heq.out, by omega⟩
        go_roundw
        case rel => exact ⟨j + 1, t2, by omega, rfl, by go_num, Hn⟩
        case measure => simp [intOf]; omega
      | s =>
        have x1 : ∀ hh : j < (strB (partsW k)).size, ((strB (partsW k))[j]'hh).toNat = 115 := fun hh => by rw [x0 hh]; rfl
        clear x0
        have hT2 : strB (textA e.src) = T := hT
        clear hT
        go_wp2_with (first | (go_at_call 50; refine (ref01_text e.src ok.s1 _ L2).mono ?_; rintro en w2 ⟨rfl, hK2⟩; rw [hT2]))
        have Hn : Hid (RTxt w e (.slice A e.bytes.length c) k (j + 1) t2 w2) := Lib.hid ⟨R.out.kp.trans hK2, R.out.ev.keep hK2, Heq.out, by omega⟩
        go_roundw
        case rel => exact ⟨j + 1, t2, by omega, rfl, by go_num, Hn⟩
        case measure => simp [intOf]; omega
      | x =>
        have x1 : ∀ hh : j < (strB (partsW k)).size, ((strB (partsW k))[j]'hh).toNat = 120 := fun hh => by rw [x0 hh]; rfl
        clear x0
        have hT2 : strB (hexW e.bytes) = T := hT
        clear hT
        go_wp2_with (first | (go_at_call 51; refine (rhex_any e.bytes A c _ (hA.keep R.out.kp) (by omega)).mono ?_; rintro en w2 ⟨rfl, hK2⟩; rw [hT2]))
        have Hn : Hid (RTxt w e (.slice A e.bytes.length c) k (j + 1) t2 w2) := Lib.hid ⟨R.out.kp.trans hK2, R.out.ev.keep hK2, Heq.out, by omega⟩
        go_roundw
        case rel => exact ⟨j + 1, t2, by omega, rfl, by go_num, Hn⟩
        case measure => simp [intOf]; omega
      | c =>
        have x1 : ∀ hh : j < (strB (partsW k)).size, ((strB (partsW k))[j]'hh).toNat = 99 := fun hh => by rw [x0 hh]; rfl
        clear x0
        have KA : ∀ o, Kp w (wr.alloc o) := fun o => R.out.kp.alloc o
        have BA : ∀ o, Blk (wr.alloc o) w.heap.size 27 (evC e (.slice A e.bytes.length c)) := fun o => R.out.ev.alloc o
        rcases Hc.out with h0 | h0
        · obtain rfl : strB downS = T := by rw [← hT]; simp only [tellE]; rw [h0]; rfl
          clear hT
          rw [h0] at r3
          have z2 : ∀ w, (Op.stringOp .add t1 ⟨#[100, 111, 119, 110]⟩).run Tryz.prog w = .ok (.string t2) w := z2
          clear h0
          go_wp2_with fail
          have Hn : ∀ o, Hid (RTxt w e (.slice A e.bytes.length c) k (j + 1) t2 (wr.alloc o)) := fun o => Lib.hid ⟨KA o, BA o, Heq.out, by omega⟩
          go_roundw
          case rel => exact ⟨j + 1, t2, by omega, rfl, by go_num, Hn _⟩
          case measure => simp [intOf]; omega
        · obtain rfl : strB upS = T := by rw [← hT]; simp only [tellE]; rw [h0]; rfl
          clear hT
          rw [h0] at r3
          have z2 : ∀ w, (Op.stringOp .add t1 ⟨#[117, 112]⟩).run Tryz.prog w = .ok (.string t2) w := z2
          clear h0
          go_wp2_with fail
          have Hn : ∀ o, Hid (RTxt w e (.slice A e.bytes.length c) k (j + 1) t2 (wr.alloc o)) := fun o => Lib.hid ⟨KA o, BA o, Heq.out, by omega⟩
          go_roundw
          case rel => exact ⟨j + 1, t2, by omega, rfl, by go_num, Hn _⟩
          case measure => simp [intOf]; omega
    · obtain rfl : j = (partsOf k).length := by omega
      have H2 := Lib.hid (show S = strB (textE e) by rw [R.out.eq, Hall.out])
      have HKp := Lib.hid R.out.kp
      go_wp2_with fail
      go_ret
      exact ⟨by rw [← H2.out]; rfl, HKp.out⟩
end Go.Proofs.YtbfimimhgdkpaaaGreatDoor
