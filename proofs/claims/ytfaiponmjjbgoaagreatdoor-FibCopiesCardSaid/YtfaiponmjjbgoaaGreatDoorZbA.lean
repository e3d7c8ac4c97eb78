/- Lemmas and contracts for the theorem of this claim: Base, Rec, Px, Px2, PfA, PfB, Tr, Tr2, TrM, Range, Range2, Yield. -/
import Derived.WalkKit
import Derived.Handy
import Derived.WalkLawsBesides
import Derived.WalkSpells
import Derived.Lib.Hide
import Derived.Deep.QuietTactic
import Derived.BigQuiet
import Derived.Laws.EntriesVeiled
import Derived.Laws.Entries
import Derived.Test.YtfaiponmjjbgoaaGreatDoorRows
import Derived.Deep.RegionHeld3
import Derived.RangeFuncOwn
import Derived.RangeFuncLeaves
import Derived.LoopN
import Derived.RangeFuncCalls
import Derived.Sort.QuietTacIn
set_option linter.unusedSimpArgs false
set_option linter.unusedVariables false
/- Words that all texts of this claim share: worlds that only grew, slices that read as lists. No condition. -/
namespace Go.Proofs.YtfaiponmjjbgoaaGreatDoor
open Go.RowKit

/-- What was there stands as it stood. -/
def Kp (w w' : World) : Prop := Below w.heap.size w w'

theorem Kp.refl (w : World) : Kp w w := Below.refl _ _
theorem Kp.trans {a b c : World} (h : Kp a b) (k : Kp b c) : Kp a c := Below.trans h (Below.mono k h.size)
theorem Kp.size {a b : World} (h : Kp a b) : a.heap.size ≤ b.heap.size := Below.size h
theorem Kp.cell {w w' : World} (h : Kp w w') {p : Addr} {v : Value} (hc : w.cell? p = some v) : w'.cell? p = some v :=
  (Below.cell h (World.block_lt_of_cell? w p hc)).trans hc
theorem Kp.frozen {w w' : World} (h : Kp w w') {p : Addr} {v : Value} (hc : w.cell? p = some v) : w'.frozen? p = w.frozen? p :=
  Below.frozen h (World.block_lt_of_cell? w p hc)
theorem Kp.heap {w w' : World} (h : Kp w w') {k : Nat} (hk : k < w.heap.size) : w'.heap[k]? = w.heap[k]? := Below.block h k hk
theorem Kp.alloc {a w : World} (h : Kp a w) (o : Obj) : Kp a (w.alloc o) := Below.alloc h h.size o
theorem Kp.drew {a w : World} (h : Kp a w) : Kp a w.drew := Below.drew h
theorem Kp.drewN {a w : World} (h : Kp a w) (n : Nat) : Kp a (w.drewN n) := by
  have hh : Below a.heap.size a w := h
  exact ⟨hh.os, hh.tape, hh.output, hh.size, hh.block⟩
theorem Kp.setCell {a w : World} (h : Kp a w) {p : Addr} (hp : a.heap.size ≤ p.block) (u : Value) : Kp a (w.setCell p u) := Below.setCell h hp u
theorem Kp.grown {a w w' : World} {row : Option Nat} (h : Kp a w) (hg : w.grownBy w' row) (hr : ∀ k, row = some k → a.heap.size ≤ k) : Kp a w' := Below.grown h hg h.size hr

/-- The cells of a slice's elements: element i of xs lies, as its cells, at the slice's i-th place. -/
def Rd {α : Type} (w : World) (sz : Nat) (enc : α → List Value) (A : Option Addr) (xs : List α) : Prop :=
  ∀ (i : Nat) (h : i < xs.length), ∃ b off : Nat, A = some ⟨b, off, none⟩ ∧ ∀ (j : Nat) (u : Value), (enc (xs[i]'h))[j]? = some u → w.cell? ⟨b, off + i * sz + j, none⟩ = some u

section
variable {α : Type} {w w' : World} {sz : Nat} {enc : α → List Value} {A : Option Addr} {xs : List α}
theorem Rd.keep (h : Rd w sz enc A xs) (k : Kp w w') : Rd w' sz enc A xs := fun i hi => by
  obtain ⟨b, off, e, hc⟩ := h i hi
  exact ⟨b, off, e, fun j u hu => k.cell (hc j u hu)⟩
theorem Rd.nil (w : World) (sz : Nat) (enc : α → List Value) (A : Option Addr) : Rd w sz enc A [] := fun i hi => absurd hi (by simp)
end

/-- A slice type's element: its number, its zero, its cells, its bytes. -/
def ElemOf (P : Program) (t e : TypeId) (z : Value) (size bytes : Nat) : Prop :=
  P.underlying t = some (.slice e) ∧ (P.info? e).map (fun i => (i.zero, i.size, i.bytes)) = some (some z, size, bytes) ∧ z.cells.size = size ∧ 0 < size

theorem own_grown {w w1 : World} {o : Obj} {row : Option Nat} (hg : (w.alloc o).grownBy w1 row) : w.grownBy w1 row :=
  ⟨hg.os, hg.tape, hg.output, Nat.le_trans (by simp) hg.size, fun k hk hne => (hg.block k (by simp; omega) hne).trans (Below.heap_alloc w o k hk)⟩

/-- append of one element, which lies in a block just made, to a row of the call's own. -/
theorem wpList_app1 {P : Program} {t e e' : TypeId} {z : Value} {size bytes : Nat} (E : ElemOf P t e z size bytes) {w0 W : World} {ops : Array Oper} {rest : List Oper} {o : Oper} {a : Act} {Q : Exit → Act → World → Prop}
    (hgd : o.guard = none) (s x : Operand) (ho : o.op = .call { callee := .builtin .append, args := #[s, x], argTypes := #[t, t] })
    {base n : Nat} {v : Value} {xs news : List Value} (hs : a.eval s = v) (hown : W.ownsRow base e size v n xs) (hK : Kp w0 W) (hb : w0.heap.size ≤ base) (hbase : base ≤ W.heap.size)
    {N : Nat} (hx : a.eval x = .slice (some ⟨N, 0, none⟩) 1 1) (hN : N = W.heap.size) (hl : news.length = size) (h1 : news.all (fun u => u.oneCell') = true) (hfit : (n + 1) * (bytes + 1) ≤ 140737488355328)
    (h : ∀ v' w', w'.ownsRow base e size v' (n + 1) (xs ++ news) → Kp w0 w' → W.grownBy w' v.ownBlock → wpList P ops Q rest (a.put o.dst v') w') : wpList P ops Q (o :: rest) a (W.alloc (.cells news.toArray e')) := by
  obtain ⟨ht, hinfo, hzs, hsz⟩ := E
  obtain ⟨i, hi, hz, hsize, hby⟩ := info_parts hinfo
  subst hN
  have hb2 : (n + 1) * (bytes + 1) = (n + 1) * bytes + (n + 1) := by rw [Nat.mul_add, Nat.mul_one]
  refine wpList_append_own _ hgd s x t ho base e i z size bytes ht hi hz hsize hby hzs hsz v n xs hs (hown.alloc _) ⟨W.heap.size, 0, none⟩ 1 1 news hx (by omega) ?_ (by simpa using h1) (by simp only [maxLen]; omega) (by omega) (by simp; omega) ?_
  · intro j u hu
    have hadd : (⟨W.heap.size, 0, none⟩ : Addr).add j = ⟨W.heap.size, j, none⟩ := by unfold Addr.add; split <;> simp_all
    rw [hadd, World.cell?_alloc_at _ _ _ _ rfl]
    simpa using hu
  · intro v' w' ho' hg _
    exact h v' w' ho' (hK.grown (own_grown hg) (fun k hk => Nat.le_trans hb (hown.lt k hk).1)) (own_grown hg)

theorem flat_len {α : Type} {sz : Nat} {enc : α → List Value} (henc : ∀ x, (enc x).length = sz) (xs : List α) : (xs.flatMap enc).length = xs.length * sz := by
  induction xs with
  | nil => simp
  | cons y ys ih => simp only [List.flatMap_cons, List.length_append, List.length_cons, ih, henc, Nat.add_mul]; omega

theorem Rd.of_own {α : Type} {w : World} {base e sz : Nat} {enc : α → List Value} {A : Option Addr} {n c : Nat} {xs : List α} (hs : 0 < sz) (henc : ∀ x, (enc x).length = sz)
    (h : w.ownsRow base e sz (.slice A n c) n (xs.flatMap enc)) : Rd w sz enc A xs := by
  intro i hi
  have hlen : (xs.flatMap enc).length = xs.length * sz := flat_len henc xs
  have hget : ∀ (xs : List α) (i : Nat) (hi : i < xs.length) (j : Nat) (u : Value), (enc (xs[i]'hi))[j]? = some u → (xs.flatMap enc)[i * sz + j]? = some u := by
    intro xs
    induction xs with
    | nil => intro i hi; simp at hi
    | cons y ys ih =>
      intro i hi j u hu
      rw [List.flatMap_cons]
      cases i with
      | zero =>
        simp only [List.getElem_cons_zero] at hu
        have hj : j < (enc y).length := (List.getElem?_eq_some_iff.1 hu).1
        rw [Nat.zero_mul, Nat.zero_add, List.getElem?_append_left hj]
        exact hu
      | succ i =>
        simp only [List.getElem_cons_succ] at hu
        rw [List.getElem?_append_right (by rw [henc, Nat.add_mul]; omega), henc]
        have e : (i + 1) * sz + j - sz = i * sz + j := by rw [Nat.add_mul]; omega
        rw [e]
        exact ih i (by simpa using hi) j u hu
  rcases h.2 with ⟨hv, h0⟩ | ⟨g, cap, cur, hv, _⟩
  · have h1 := h.1
    subst h0
    rw [hlen] at h1
    rcases Nat.eq_zero_or_pos xs.length with hx | hx
    · omega
    · have := Nat.mul_pos hx hs; omega
  · have hA : A = some ⟨g, 0, none⟩ := by injection hv
    subst hA
    refine ⟨g, 0, rfl, fun j u hu => ?_⟩
    have := h.cells (g := g) rfl (i * sz + j) u (hget xs i hi j u hu)
    have hadd : (⟨g, 0, none⟩ : Addr).add (i * sz + j) = ⟨g, 0 + i * sz + j, none⟩ := by unfold Addr.add; split <;> simp_all
    rw [hadd] at this
    exact this

/-- A row of the call's own that reads as a list. -/
def Own {α : Type} (w : World) (base e sz : Nat) (enc : α → List Value) (v : Value) (xs : List α) : Prop := w.ownsRow base e sz v xs.length (xs.flatMap enc)

section
variable {α : Type} {w w' : World} {base e sz : Nat} {enc : α → List Value} {v : Value} {xs : List α}
theorem Own.nil (w : World) (base e sz : Nat) (enc : α → List Value) : Own w base e sz enc (.slice none 0 0) [] := World.ownsRow_nil _ _ _ _
theorem Own.alloc (h : Own w base e sz enc v xs) (o : Obj) : Own (w.alloc o) base e sz enc v xs := World.ownsRow.alloc h o
theorem Own.drew (h : Own w base e sz enc v xs) : Own w.drew base e sz enc v xs := h
theorem Own.drewN (h : Own w base e sz enc v xs) (n : Nat) : Own (w.drewN n) base e sz enc v xs := h
theorem Own.mono {base' : Nat} (h : Own w base e sz enc v xs) (hb : base' ≤ base) : Own w base' e sz enc v xs := by
  refine ⟨h.1, ?_⟩
  rcases h.2 with h2 | ⟨g, cap, cur, hv, hg, r⟩
  · exact .inl h2
  · exact .inr ⟨g, cap, cur, hv, Nat.le_trans hb hg, r⟩
theorem Own.keep (h : Own w base e sz enc v xs) (k : Kp w w') : Own w' base e sz enc v xs := by
  refine ⟨h.1, ?_⟩
  rcases h.2 with h2 | ⟨g, cap, cur, hv, hg, hh, r⟩
  · exact .inl h2
  · exact .inr ⟨g, cap, cur, hv, hg, (k.heap (Array.getElem?_eq_some_iff.1 hh).1).trans hh, r⟩
theorem Own.form (h : Own w base e sz enc v xs) : ∃ A c, v = .slice A xs.length c := by
  rcases h.2 with ⟨rfl, h0⟩ | ⟨g, cap, cur, rfl, _⟩
  · exact ⟨none, 0, by rw [h0]⟩
  · exact ⟨_, _, rfl⟩
theorem Own.rd (hs : 0 < sz) (henc : ∀ x, (enc x).length = sz) (h : Own w base e sz enc v xs) : ∃ A c, v = .slice A xs.length c ∧ Rd w sz enc A xs := by
  obtain ⟨A, c, rfl⟩ := h.form
  exact ⟨A, c, rfl, Rd.of_own hs henc h⟩
end

/-- append of one element, which lies in a block just made, to a row of the call's own. -/
theorem wpList_appx {α : Type} {enc : α → List Value} {P : Program} {t e e' : TypeId} {z : Value} {size bytes : Nat} (E : ElemOf P t e z size bytes) {w0 W : World} {ops : Array Oper} {rest : List Oper} {o : Oper} {a : Act} {Q : Exit → Act → World → Prop}
    (hgd : o.guard = none) (s x : Operand) (ho : o.op = .call { callee := .builtin .append, args := #[s, x], argTypes := #[t, t] })
    {base : Nat} {v : Value} {xs : List α} {news : List Value} (y : α) (hs : a.eval s = v) (hown : Own W base e size enc v xs) (hK : Kp w0 W) (hb : w0.heap.size ≤ base) (hbase : base ≤ W.heap.size)
    {N : Nat} (hx : a.eval x = .slice (some ⟨N, 0, none⟩) 1 1) (hN : N = W.heap.size) (hnews : news = enc y) (hl : news.length = size) (h1 : news.all (fun u => u.oneCell') = true) (hfit : (xs.length + 1) * (bytes + 1) ≤ 140737488355328)
    (h : ∀ v' w', Own w' base e size enc v' (xs ++ [y]) → Kp w0 w' → W.grownBy w' v.ownBlock → wpList P ops Q rest (a.put o.dst v') w') : wpList P ops Q (o :: rest) a (W.alloc (.cells news.toArray e')) := by
  refine wpList_app1 E hgd s x ho hs hown hK hb hbase hx hN hl h1 hfit (fun v' w' ho' hk hg => h v' w' ?_ hk hg)
  unfold Own
  rw [List.length_append, List.flatMap_append, List.length_singleton, List.flatMap_cons, List.flatMap_nil, List.append_nil, ← hnews]
  exact ho'

def intE (x : Int) : List Value := [.int .i64 x]
theorem intE_len (x : Int) : (intE x).length = 1 := rfl
theorem int_at {w : World} {A : Option Addr} {xs : List Int} (h : Rd w 1 intE A xs) {k : Nat} (hk : k < xs.length) :
    ∃ b off : Nat, A = some ⟨b, off, none⟩ ∧ w.cell? ⟨b, off + k, none⟩ = some (.int .i64 xs[k]) := by
  obtain ⟨b, off, e, hc⟩ := h k hk
  exact ⟨b, off, e, by simpa using hc 0 _ rfl⟩

/-- A scope with one label, to which the run jumps forward or not at all. -/
theorem wp_scope_fwd {P : Program} {a : Act} {w : World} {Q : Exit → Act → World → Prop} {c rest : Code} (l : Nat) (hf : findLabel c l = some rest)
    (first : c.wp P (Exit.jump l (fun a w => rest.wp P (Exit.noGoto Q) a w) Q) a w) : (Code.scope c).wp P Q a w := by
  refine wp_scope_jumps l (fun a w => rest.wp P (Exit.noGoto Q) a w) (fun _ _ => 0) hf first (fun a w h => Code.wp_mono (fun e a w q => ?_) h)
  cases e <;> first | exact q | exact q.elim
theorem jump_ret {l : Nat} {J : Act → World → Prop} {Q : Exit → Act → World → Prop} {a : Act} {w : World} (h : Q .ret a w) : Exit.jump l J Q .ret a w := h
theorem jump_goto {l : Nat} {J : Act → World → Prop} {Q : Exit → Act → World → Prop} {a : Act} {w : World} (h : J a w) : Exit.jump l J Q (.goto l) a w := ⟨rfl, h⟩
theorem noGoto_ret {Q : Exit → Act → World → Prop} {a : Act} {w : World} (h : Q .ret a w) : Exit.noGoto Q .ret a w := h
end Go.Proofs.YtfaiponmjjbgoaaGreatDoor

/- A deferred closure that recovers first: its call as a plain walk behind the recover. No condition. -/
namespace Go.Proofs.YtfaiponmjjbgoaaGreatDoor
open Go.RowKit

/-- What recover hands back in a frame's mode, and the mode behind it. -/
def recM : FrameMode → Value × FrameMode
  | .panicking ({ v, recovered := false, goexit := false } :: older) => (v, .panicking ({ v, recovered := true } :: older))
  | m => (.nilIface, m)

theorem recoverD_recM (c : Frame) (cs : List Frame) : recoverD (c :: cs) = some ((recM c.mode).1, { c with mode := (recM c.mode).2 } :: cs) ∨ (recoverD (c :: cs) = none ∧ recM c.mode = (.nilIface, c.mode)) := by
  cases hm : c.mode with
  | run => right; simp [recoverD, recM, hm]
  | returning => right; simp [recoverD, recM, hm]
  | panicking chain =>
    rcases chain with _ | ⟨⟨v, r, g⟩, older⟩
    · right; simp [recoverD, recM, hm]
    · cases r <;> cases g <;> simp [recoverD, recM, hm]

theorem bodyPostS_of {P : Program} {fn : Func} {c₀ : Frame} {cs : List Frame} {R : Ending → FrameMode → World → Prop} {u' : FrameMode} {e : Exit} {a : Act} {w : World}
    (h : bodyPost P fn (fun e w => R e u' w) e a w) : bodyPostS P fn c₀ cs R e a ({ c₀ with mode := u' } :: cs) w := by
  cases e with
  | normal => obtain ⟨hd, v, hr, hR⟩ := h; exact ⟨hd, u', rfl, v, hr, hR⟩
  | ret => obtain ⟨hd, v, hr, hR⟩ := h; exact ⟨hd, u', rfl, v, hr, hR⟩
  | panic chain => obtain ⟨hd, hR⟩ := h; exact ⟨hd, u', rfl, hR⟩
  | outgrown => exact ⟨u', h⟩
  | exit id => exact h.elim
  | goto l => exact h.elim

theorem wpS_region_rec {P : Program} {Q : Exit → Act → List Frame → World → Prop} {a : Act} {c : Frame} {cs : List Frame} {w : World} {id : Nat} {o : Oper} {rest : List Oper}
    (hg : o.guard = none) (hop : o.op = .call { callee := .builtin .recover, args := #[], argTypes := #[] })
    (h : wpList P (o :: rest).toArray (fun e a w => Q e a ({ c with mode := (recM c.mode).2 } :: cs) w) rest (a.put o.dst (recM c.mode).1) w) : (Code.region id (o :: rest).toArray false).wpS P Q a (c :: cs) w := by
  intro b k hb _
  have ho : ((o :: rest).toArray)[0]? = some o := by simp
  have hw : Region.wanted o (yielded (o :: rest).toArray a.tmps) = true := by simp [Region.wanted, hg]
  have hr : (execOp a.eval o).run P w = .ok .recover w := by simp [execOp, hop, resolve, invoke, builtin]
  have hl : wpOps P (o :: rest).toArray (fun e a w => Q e a ({ c with mode := (recM c.mode).2 } :: cs) w) (List.range' 1 rest.length) = wpList P (o :: rest).toArray (fun e a w => Q e a ({ c with mode := (recM c.mode).2 } :: cs) w) rest :=
    wpOps_eq_wpList rest 1 (fun j => by simp [Nat.add_comm 1 j])
  rw [← hl] at h
  obtain ⟨e, a', w', hq, harr⟩ := wp_ops _ _ _ h b k ({ c with mode := (recM c.mode).2 } :: cs)
  refine ⟨e, a', _, w', hq, .of_steps (.head step_region (.one ?_)) harr⟩
  have hrange : List.range ((o :: rest).toArray).size = 0 :: List.range' 1 rest.length := by
    rw [List.range_eq_range']; simp [List.range'_succ]
  rw [hrange]
  have hg' := stepG_op (P := P) (b := b) (k := k) (cs := c :: cs) (w := w) (rest := List.range' 1 rest.length) ho hw
  have hfin : ∀ v, (b.at a (.inRegion (o :: rest).toArray (0 :: List.range' 1 rest.length) :: k)).finish v = b.at (a.put o.dst v) (.inRegion (o :: rest).toArray (List.range' 1 rest.length) :: k) := by
    intro v; rw [Frame.finish_at, ho]; rfl
  have hk : (b.at a (.inRegion (o :: rest).toArray (0 :: List.range' 1 rest.length) :: k)).kind = .deferred := hb
  have htr := tryRecover_deferred hk (c :: cs)
  refine step_lone_go ?_
  rcases recoverD_recM c cs with hrec | ⟨hrec, hm⟩
  · rw [hg', ← hfin]
    simp only [Frame.at] at htr ⊢
    simp [stepG.apply, hr, htr, hrec]
  · have hc : ({ c with mode := (recM c.mode).2 } : Frame) = c := by rw [hm]
    rw [hc, hm, hg', ← hfin]
    simp only [Frame.at] at htr ⊢
    simp [stepG.apply, hr, htr, hrec]

theorem callsD_rec {P : Program} {f : FuncId} {fn : Func} {id : Nat} {o : Oper} {rest : List Oper} {y : Code} {args : Array Value} {u : FrameMode} {w : World} {R : Ending → FrameMode → World → Prop}
    (v : Value) (u' : FrameMode) (hm : recM u = (v, u'))
    (hf : P.funcs[f]? = some fn) (hb : fn.body = some (Code.seq (.region id (o :: rest).toArray false) y)) (hg : o.guard = none) (hop : o.op = .call { callee := .builtin .recover, args := #[], argTypes := #[] })
    (h : wpList P (o :: rest).toArray (Exit.then (y.wp P (bodyPost P fn (fun e w => R e u' w))) (bodyPost P fn (fun e w => R e u' w))) rest
      (Act.put { tmps := args ++ Array.replicate (fn.ntmps - args.size) undef, defers := [] } o.dst v) w) : CallsD P f args u w R := by
  refine callsD_of_wpS hf hb fun c₀ cs hu => ?_
  apply wpS_seq
  refine wpS_region_rec hg hop ?_
  subst hu
  rw [hm]
  have key : ∀ (l : List Oper) (a : Act) (w : World), wpList P (o :: rest).toArray (Exit.then (y.wp P (bodyPost P fn (fun e w => R e u' w))) (bodyPost P fn (fun e w => R e u' w))) l a w →
      wpList P (o :: rest).toArray (fun e a w => Exit.thenS (y.wpS P (bodyPostS P fn c₀ cs R)) (bodyPostS P fn c₀ cs R) e a ({ c₀ with mode := u' } :: cs) w) l a w := by
    intro l
    have hQ : ∀ e a w, (Exit.then (y.wp P (bodyPost P fn (fun e w => R e u' w))) (bodyPost P fn (fun e w => R e u' w))) e a w → Exit.thenS (y.wpS P (bodyPostS P fn c₀ cs R)) (bodyPostS P fn c₀ cs R) e a ({ c₀ with mode := u' } :: cs) w := by
      intro e a w hq
      cases e with
      | normal => exact wpS_of_wp (Code.wp_mono (fun e a w q => bodyPostS_of q) hq)
      | ret => exact bodyPostS_of (P := P) (fn := fn) (c₀ := c₀) (cs := cs) (R := R) (u' := u') (e := .ret) (a := a) (w := w) hq
      | panic ch => exact bodyPostS_of (P := P) (fn := fn) (c₀ := c₀) (cs := cs) (R := R) (u' := u') (e := .panic ch) (a := a) (w := w) hq
      | outgrown => exact bodyPostS_of (P := P) (fn := fn) (c₀ := c₀) (cs := cs) (R := R) (u' := u') (e := .outgrown) (a := a) (w := w) hq
      | exit id => exact bodyPostS_of (P := P) (fn := fn) (c₀ := c₀) (cs := cs) (R := R) (u' := u') (e := .exit id) (a := a) (w := w) hq
      | goto l => exact bodyPostS_of (P := P) (fn := fn) (c₀ := c₀) (cs := cs) (R := R) (u' := u') (e := .goto l) (a := a) (w := w) hq
    induction l with
    | nil => intro a w hh; exact hQ _ _ _ hh
    | cons o' l ih =>
      intro a w hh
      unfold wpList at hh ⊢
      split
      · rename_i hwn
        rw [if_pos hwn] at hh
        rcases hh with hh | ⟨ha, a₀, w₀, hq⟩
        · left
          unfold Oper.wp Oper.upon at hh ⊢
          split at hh
          · exact ih _ _ hh
          · exact ih _ _ hh
          · exact ih _ _ hh
          · refine hh.mono fun e w'' hr => ?_
            cases e with
            | returned v => exact ih _ _ hr
            | panicked ch => exact hQ _ _ _ hr
            | outgrown => obtain ⟨a₀, w₀, hq⟩ := hr; exact ⟨a₀, w₀, hQ _ _ _ hq⟩
          · exact hh.mono fun v w'' hr => ih _ _ hr
          · exact hQ _ _ _ hh
          · exact hh.elim
        · exact .inr ⟨ha, a₀, w₀, hQ _ _ _ hq⟩
      · rename_i hwn
        rw [if_neg hwn] at hh
        exact ih _ _ hh
  exact key _ _ _ h

/-- Only these blocks may have turned, and new ones have come. -/
structure Only (bs : List Nat) (w w' : World) : Prop where
  os : w'.os = w.os
  tape : w'.tape = w.tape
  output : w'.output = w.output
  size : w.heap.size ≤ w'.heap.size
  block : ∀ k, k < w.heap.size → k ∉ bs → w'.heap[k]? = w.heap[k]?

section
variable {bs : List Nat} {a w w' : World}
theorem Only.refl (bs : List Nat) (w : World) : Only bs w w := ⟨rfl, rfl, rfl, Nat.le_refl _, fun _ _ _ => rfl⟩
theorem Only.trans {b c : World} (h : Only bs a b) (k : Only bs b c) : Only bs a c :=
  ⟨k.os.trans h.os, k.tape.trans h.tape, k.output.trans h.output, Nat.le_trans h.size k.size, fun i hi hn => (k.block i (Nat.lt_of_lt_of_le hi h.size) hn).trans (h.block i hi hn)⟩
theorem Only.drew (h : Only bs a w) : Only bs a w.drew := ⟨h.os, h.tape, h.output, h.size, h.block⟩
theorem Only.drewN (h : Only bs a w) (n : Nat) : Only bs a (w.drewN n) := ⟨h.os, h.tape, h.output, h.size, h.block⟩
theorem Only.alloc (h : Only bs a w) (o : Obj) : Only bs a (w.alloc o) :=
  ⟨h.os, h.tape, h.output, Nat.le_trans h.size (by simp), fun k hk hn => (Below.heap_alloc w o k (Nat.lt_of_lt_of_le hk h.size)).trans (h.block k hk hn)⟩
theorem Only.setCell (h : Only bs a w) {p : Addr} (hp : p.block ∈ bs ∨ a.heap.size ≤ p.block) (u : Value) : Only bs a (w.setCell p u) :=
  ⟨h.os, h.tape, h.output, by simpa [World.setCell] using h.size, fun k hk hn => (Below.heap_setCell w p u k (by
    rintro rfl
    rcases hp with hp | hp
    · exact hn hp
    · omega)).trans (h.block k hk hn)⟩
theorem Only.of_kp (h : Kp w w') : Only bs w w' := ⟨Below.os h, Below.tape h, Below.output h, Below.size h, fun k hk _ => Below.block h k hk⟩
theorem Only.kp (h : Only bs w w') (hk : Kp a w) (hb : ∀ b ∈ bs, a.heap.size ≤ b) : Kp a w' :=
  Below.trans hk ⟨h.os, h.tape, h.output, h.size, fun k hk' => h.block k (Nat.lt_of_lt_of_le hk' hk.size) (fun hm => by have := hb k hm; omega)⟩
theorem Only.cell (h : Only bs w w') {p : Addr} {v : Value} (hc : w.cell? p = some v) (hp : p.block ∉ bs) : w'.cell? p = some v :=
  (World.cell?_of_block (w := w) (h.block p.block (World.block_lt_of_cell? w p hc) hp)).trans hc
theorem Only.heap (h : Only bs w w') {k : Nat} (hk : k < w.heap.size) (hn : k ∉ bs) : w'.heap[k]? = w.heap[k]? := h.block k hk hn
end

/-- A block that is known whole, none of it frozen. -/
def Blk (w : World) (g : Nat) (t : TypeId) (cs : Array Value) : Prop := w.heap[g]? = some (.cells cs t (0, 0))
section
variable {w w' : World} {g : Nat} {t : TypeId} {cs : Array Value}
theorem Blk.lt (h : Blk w g t cs) : g < w.heap.size := (Array.getElem?_eq_some_iff.1 h).1
theorem Blk.cell (h : Blk w g t cs) (i : Nat) : w.cell? ⟨g, i, none⟩ = cs[i]? := cell_of_row w g i cs t (0, 0) h
theorem Blk.frozen (h : Blk w g t cs) (i : Nat) : w.frozen? ⟨g, i, none⟩ = false := by
  unfold Blk at h; simp [World.frozen?, h]
theorem Blk.new (w : World) (t : TypeId) (cs : Array Value) : Blk (w.alloc (.cells cs t)) w.heap.size t cs := heap_alloc_new w _
theorem Blk.new1 (w : World) (o : Obj) (t : TypeId) (cs : Array Value) : Blk ((w.alloc o).alloc (.cells cs t)) (w.heap.size + 1) t cs := by simpa using Blk.new (w.alloc o) t cs
theorem Blk.new2 (w : World) (o o' : Obj) (t : TypeId) (cs : Array Value) : Blk (((w.alloc o).alloc o').alloc (.cells cs t)) (w.heap.size + 1 + 1) t cs := by simpa using Blk.new ((w.alloc o).alloc o') t cs
theorem Blk.new3 (w : World) (o o' o'' : Obj) (t : TypeId) (cs : Array Value) : Blk ((((w.alloc o).alloc o').alloc o'').alloc (.cells cs t)) (w.heap.size + 1 + 1 + 1) t cs := by simpa using Blk.new (((w.alloc o).alloc o').alloc o'') t cs
theorem Blk.drewN (h : Blk w g t cs) (n : Nat) : Blk (w.drewN n) g t cs := h
theorem Blk.drew (h : Blk w g t cs) : Blk w.drew g t cs := h
theorem Blk.alloc (h : Blk w g t cs) (o : Obj) : Blk (w.alloc o) g t cs := (Below.heap_alloc w o g h.lt).trans h
theorem Blk.keep (h : Blk w g t cs) (k : Kp w w') : Blk w' g t cs := (k.heap h.lt).trans h
theorem Blk.only {bs : List Nat} (h : Blk w g t cs) (k : Only bs w w') (hn : g ∉ bs) : Blk w' g t cs := (k.block g h.lt hn).trans h
theorem Blk.set_ (h : Blk w g t cs) (i : Nat) (u : Value) : Blk (w.setCell ⟨g, i, none⟩ u) g t (cs.setIfInBounds i u) := by
  unfold Blk at h ⊢
  simp [World.setCell, Array.getElem?_modify, h]
theorem Blk.far (h : Blk w g t cs) {p : Addr} (hp : g ≠ p.block) (u : Value) : Blk (w.setCell p u) g t cs := (Below.heap_setCell w p u g hp).trans h
theorem Kp.of_eq (h : w = w') : Kp w w' := h ▸ Kp.refl w
end

theorem Own.setBelow {α : Type} {w : World} {base e sz : Nat} {enc : α → List Value} {v : Value} {xs : List α} (h : Own w base e sz enc v xs) {p : Addr} (hp : p.block < base) (u : Value) : Own (w.setCell p u) base e sz enc v xs :=
  ownsRow_setCell_below h hp u
theorem Own.only {α : Type} {bs : List Nat} {w w' : World} {base e sz : Nat} {enc : α → List Value} {v : Value} {xs : List α} (h : Own w base e sz enc v xs) (k : Only bs w w') (hb : ∀ b ∈ bs, b < base) : Own w' base e sz enc v xs := by
  refine ⟨h.1, ?_⟩
  rcases h.2 with h2 | ⟨g, cap, cur, hv, hg, hh, r⟩
  · exact .inl h2
  · exact .inr ⟨g, cap, cur, hv, hg, (k.block g (Array.getElem?_eq_some_iff.1 hh).1 (fun hm => by have := hb g hm; omega)).trans hh, r⟩

theorem setCell_twice (w : World) (p : Addr) (a b : Value) : (w.setCell p a).setCell p b = w.setCell p b := by
  unfold World.setCell
  congr 1
  simp only
  apply Array.ext
  · simp
  · intro i h1 h2
    simp only [Array.size_modify] at h1 h2
    rw [Array.getElem_modify, Array.getElem_modify, Array.getElem_modify]
    split
    · cases hc : w.heap[i] with
      | cells c e f =>
        obtain ⟨lo, hi⟩ := f
        cases hs : p.spot <;> simp
      | _ => rfl
    · rfl

theorem Only.grown {bs : List Nat} {a w w' : World} {row : Option Nat} (h : Only bs a w) (hg : w.grownBy w' row) (hr : ∀ k, row = some k → a.heap.size ≤ k) : Only bs a w' :=
  ⟨hg.os.trans h.os, hg.tape.trans h.tape, hg.output.trans h.output, Nat.le_trans h.size hg.size, fun k hk hn =>
    (hg.block k (Nat.lt_of_lt_of_le hk h.size) (fun e => by have := hr k e.symm; omega)).trans (h.block k hk hn)⟩
theorem Blk.grown {w w' : World} {g : Nat} {t : TypeId} {cs : Array Value} {row : Option Nat} (h : Blk w g t cs) (hg : w.grownBy w' row) (hn : some g ≠ row) : Blk w' g t cs := (hg.block g h.lt hn).trans h
theorem Own.ne {α : Type} {w : World} {base e sz : Nat} {enc : α → List Value} {v : Value} {xs : List α} (h : Own w base e sz enc v xs) {g : Nat} (hg : g < base) : some g ≠ v.ownBlock := fun e => by
  have := (World.ownsRow.lt h g e.symm).1; omega
theorem Own.form1 {α : Type} {w : World} {base e sz : Nat} {enc : α → List Value} {v : Value} {xs : List α} {y : α} (h : Own w base e sz enc v (xs ++ [y])) : ∃ A c, v = .slice A (xs.length + 1) c := by
  obtain ⟨A, c, hv⟩ := h.form
  exact ⟨A, c, by rw [hv, List.length_append, List.length_singleton]⟩
theorem Rd.of_blk {α : Type} {w : World} {g sz : Nat} {t : TypeId} {cs : Array Value} {enc : α → List Value} {xs : List α} (hb : Blk w g t cs) (hs : 0 < sz) (henc : ∀ x, (enc x).length = sz) (hm : xs.length ≤ maxLen) (hl : cs.toList = xs.flatMap enc) : Rd w sz enc (some ⟨g, 0, none⟩) xs := by
  have hlen := flat_len henc xs
  refine Rd.of_own (base := 0) (e := t) (n := xs.length) (c := xs.length) hs henc ⟨hlen, .inr ⟨g, xs.length, cs, rfl, Nat.zero_le _, hb, Nat.le_refl _, hm, ?_, ?_⟩⟩
  · rw [← hlen, ← hl, Array.length_toList]
  · rw [← hlen, ← hl, List.take_length]
end Go.Proofs.YtfaiponmjjbgoaaGreatDoor

/- Prefixes as plain numbers: cutting, holding, bits, order. No program in sight. -/
namespace Go.Proofs.YtfaiponmjjbgoaaGreatDoor

/-- An address whose bits behind the first n are struck. -/
def cut (a n : Nat) : Nat := a / 2 ^ (32 - n) * 2 ^ (32 - n)
def bitN (a i : Nat) : Nat := if i < 32 then a / 2 ^ (31 - i) % 2 else 0

structure Pn where
  a : Nat
  l : Nat
deriving DecidableEq

def Pn.ok (p : Pn) : Prop := p.a < 4294967296 ∧ p.l ≤ 32 ∧ cut p.a p.l = p.a
def Pn.holds (p q : Pn) : Prop := p.l ≤ q.l ∧ cut q.a p.l = p.a
instance (p q : Pn) : Decidable (p.holds q) := inferInstanceAs (Decidable (_ ∧ _))
/-- What is beneath a prefix, by the bit behind it. -/
def Pn.child (p : Pn) (i : Nat) : Pn := ⟨p.a + i * 2 ^ (31 - p.l), p.l + 1⟩
def Pn.lt (p q : Pn) : Prop := p.a < q.a ∨ (p.a = q.a ∧ p.l < q.l)
instance (p q : Pn) : Decidable (p.lt q) := inferInstanceAs (Decidable (_ ∨ _))

theorem cut_le (a n : Nat) : cut a n ≤ a := Nat.div_mul_le_self _ _
theorem lt_cut (a n : Nat) : a < cut a n + 2 ^ (32 - n) := by
  unfold cut
  have h := Nat.div_add_mod a (2 ^ (32 - n))
  have h2 := Nat.mod_lt a (show 0 < 2 ^ (32 - n) from Nat.two_pow_pos _)
  rw [Nat.mul_comm]; omega
theorem cut_32 (a : Nat) : cut a 32 = a := by simp [cut]
theorem cut_cut (a : Nat) {n m : Nat} (h : n ≤ m) (hm : m ≤ 32) : cut (cut a m) n = cut a n := by
  unfold cut
  obtain ⟨k, rfl⟩ : ∃ k, m = n + k := ⟨m - n, by omega⟩
  have e : 2 ^ (32 - n) = 2 ^ (32 - (n + k)) * 2 ^ k := by rw [← Nat.pow_add]; congr 1; omega
  rw [e]
  generalize hs : 2 ^ (32 - (n + k)) = s
  have hs0 : 0 < s := by rw [← hs]; exact Nat.two_pow_pos _
  rw [← Nat.div_div_eq_div_mul, Nat.mul_div_cancel _ hs0, Nat.div_div_eq_div_mul]
theorem pow_half {n : Nat} (h : n < 32) : 2 ^ (32 - n) = 2 * 2 ^ (31 - n) := by
  rw [show 32 - n = (31 - n) + 1 by omega, Nat.pow_succ]; omega
theorem cut_succ (a : Nat) {n : Nat} (h : n < 32) : cut a (n + 1) = cut a n + bitN a n * 2 ^ (31 - n) := by
  unfold cut bitN
  rw [if_pos h, pow_half h, show 32 - (n + 1) = 31 - n by omega]
  generalize hs : 2 ^ (31 - n) = s
  have e : a / (2 * s) = a / s / 2 := by rw [Nat.mul_comm, Nat.div_div_eq_div_mul]
  rw [e]
  generalize a / s = q
  have := Nat.div_add_mod q 2
  calc q * s = (2 * (q / 2) + q % 2) * s := by rw [this]
    _ = q / 2 * (2 * s) + q % 2 * s := by rw [Nat.add_mul, Nat.mul_comm 2 (q / 2), Nat.mul_assoc]
theorem bit_lt (a i : Nat) : bitN a i < 2 := by unfold bitN; split <;> omega

theorem holds_self {p : Pn} (h : p.ok) : p.holds p := ⟨Nat.le_refl _, h.2.2⟩
theorem holds_trans {p q r : Pn} (h1 : p.holds q) (h2 : q.holds r) (hq : q.l ≤ 32) : p.holds r := by
  refine ⟨Nat.le_trans h1.1 h2.1, ?_⟩
  rw [← cut_cut r.a h1.1 hq, h2.2, h1.2]
theorem holds_both {p q r : Pn} (h1 : p.holds r) (h2 : q.holds r) (h : p.l ≤ q.l) (hq : q.l ≤ 32) : p.holds q := by
  refine ⟨h, ?_⟩
  rw [← h2.2, cut_cut r.a h hq, h1.2]
theorem holds_eq {p q : Pn} (h : p.holds q) (hl : p.l = q.l) (hq : q.ok) : p = q := by
  have := h.2
  rw [hl, hq.2.2] at this
  cases p; cases q; simp at this hl ⊢; exact ⟨this.symm, hl⟩
theorem child_holds {p q : Pn} (h : p.holds q) (hl : p.l < q.l) (hq : q.l ≤ 32) : (p.child (bitN q.a p.l)).holds q := by
  refine ⟨hl, ?_⟩
  show cut q.a (p.l + 1) = p.a + bitN q.a p.l * 2 ^ (31 - p.l)
  rw [cut_succ q.a (by omega), h.2]
theorem holds_child {p : Pn} {i : Nat} (hi : i < 2) (hp : p.ok) (hl : p.l < 32) : p.holds (p.child i) := by
  refine ⟨Nat.le_succ _, ?_⟩
  show cut (p.a + i * 2 ^ (31 - p.l)) p.l = p.a
  have hc := hp.2.2
  unfold cut at hc ⊢
  rw [pow_half hl] at hc ⊢
  generalize 2 ^ (31 - p.l) = s at *
  by_cases hs : s = 0
  · subst hs; simp at hc ⊢; omega
  · have e : (p.a + i * s) / (2 * s) = p.a / (2 * s) := by
      have hd : p.a = p.a / (2 * s) * (2 * s) := hc.symm
      generalize p.a / (2 * s) = q at hd
      rw [hd]
      have h1 : i * s < 2 * s := Nat.mul_lt_mul_of_pos_right hi (by omega)
      rw [Nat.add_comm, Nat.add_mul_div_right _ _ (by omega), Nat.div_eq_of_lt h1, Nat.zero_add]
    rw [e, hc]
theorem child_strict {p q : Pn} {i : Nat} (hi : i < 2) (hp : p.ok) (h : (p.child i).holds q) (hq : q.l ≤ 32) : p.holds q ∧ p.l < q.l ∧ bitN q.a p.l = i := by
  have hl : p.l < q.l := h.1
  have h1 : p.holds q := holds_trans (holds_child hi hp (by omega)) h (show p.l + 1 ≤ 32 by omega)
  refine ⟨h1, hl, ?_⟩
  have e : cut q.a (p.l + 1) = p.a + i * 2 ^ (31 - p.l) := h.2
  rw [cut_succ q.a (by omega), h1.2] at e
  have : bitN q.a p.l * 2 ^ (31 - p.l) = i * 2 ^ (31 - p.l) := by omega
  exact Nat.eq_of_mul_eq_mul_right (Nat.two_pow_pos _) this
theorem child_ok {p : Pn} {i : Nat} (hi : i < 2) (hp : p.ok) (hl : p.l < 32) : (p.child i).ok := by
  have hb := lt_cut p.a p.l
  obtain ⟨h1, h2, h3⟩ := hp
  have h4 : p.a + i * 2 ^ (31 - p.l) < 4294967296 ∧ cut (p.a + i * 2 ^ (31 - p.l)) (p.l + 1) = p.a + i * 2 ^ (31 - p.l) := by
    unfold cut at h3 ⊢
    rw [pow_half hl] at h3
    rw [show 32 - (p.l + 1) = 31 - p.l by omega]
    have hpow : 4294967296 = 2 ^ (31 - p.l) * 2 ^ (p.l + 1) := by rw [← Nat.pow_add, show 31 - p.l + (p.l + 1) = 32 by omega]
    have hs0 : 0 < 2 ^ (31 - p.l) := Nat.two_pow_pos _
    have he : ∃ t, 2 ^ (p.l + 1) = 2 * t := ⟨2 ^ p.l, by rw [Nat.pow_succ]; omega⟩
    obtain ⟨t, ht⟩ := he
    rw [ht] at hpow
    generalize 2 ^ (31 - p.l) = s at *
    generalize hq : p.a / (2 * s) = q at *
    rw [← h3] at h1 ⊢
    have e1 : q * (2 * s) + i * s = (2 * q + i) * s := by rw [Nat.add_mul, Nat.mul_comm 2 q, Nat.mul_assoc]
    rw [e1, Nat.mul_div_cancel _ hs0]
    refine ⟨?_, rfl⟩
    have h5 : q * (2 * s) < s * (2 * t) := by omega
    have h6 : q < t := by
      apply Nat.lt_of_mul_lt_mul_left (a := 2 * s)
      rw [Nat.mul_comm (2 * s) q]
      calc q * (2 * s) < s * (2 * t) := h5
        _ = 2 * s * t := by rw [Nat.mul_comm 2 t, ← Nat.mul_assoc, Nat.mul_comm (s * t) 2, Nat.mul_assoc]
    rw [hpow, Nat.mul_comm]
    exact Nat.mul_lt_mul_of_pos_left (by omega) hs0
  exact ⟨h4.1, by show p.l + 1 ≤ 32; omega, h4.2⟩

theorem lt_of_within {p q : Pn} (h : p.holds q) (hl : p.l < q.l) : p.lt q := by
  have := cut_le q.a p.l
  rw [h.2] at this
  unfold Pn.lt
  omega
theorem lt_sides {p q r : Pn} (h0 : (p.child 0).holds q) (h1 : (p.child 1).holds r) (hl : p.l < 32) : q.lt r := by
  have e0 : cut q.a (p.l + 1) = p.a + 0 * 2 ^ (31 - p.l) := h0.2
  have e1 : cut r.a (p.l + 1) = p.a + 1 * 2 ^ (31 - p.l) := h1.2
  have h2 := lt_cut q.a (p.l + 1)
  have h3 := cut_le r.a (p.l + 1)
  rw [show 32 - (p.l + 1) = 31 - p.l by omega] at h2
  left
  omega
theorem lt_trans {p q r : Pn} (h1 : p.lt q) (h2 : q.lt r) : p.lt r := by unfold Pn.lt at *; omega
theorem lt_irrefl (p : Pn) : ¬ p.lt p := by unfold Pn.lt; omega
theorem lt_total (p q : Pn) : p.lt q ∨ p = q ∨ q.lt p := by
  unfold Pn.lt
  by_cases h : p.a = q.a
  · by_cases h2 : p.l = q.l
    · right; left; cases p; cases q; simp at h h2; simp [h, h2]
    · omega
  · omega

theorem child_inj {p : Pn} {i j : Nat} {q : Pn} (hi : i < 2) (hj : j < 2) (hp : p.ok) (h1 : (p.child i).holds q) (h2 : (p.child j).holds q) (hq : q.l ≤ 32) : i = j := by
  rw [← (child_strict hi hp h1 hq).2.2, ← (child_strict hj hp h2 hq).2.2]
/-- What holds both, and no longer one does. -/
def Pn.take (p : Pn) (n : Nat) : Pn := ⟨cut p.a n, n⟩
theorem take_holds (p : Pn) {n : Nat} (hn : n ≤ p.l) : (p.take n).holds p := ⟨hn, rfl⟩
theorem take_ok {p : Pn} (hp : p.ok) {n : Nat} (hn : n ≤ p.l) : (p.take n).ok := ⟨Nat.lt_of_le_of_lt (cut_le _ _) hp.1, Nat.le_trans hn hp.2.1, cut_cut p.a (Nat.le_refl _) (Nat.le_trans hn hp.2.1)⟩
theorem holds_take {c p : Pn} (h : c.holds p) : c = p.take c.l := by
  cases c with
  | mk a l => have := h.2; simp at this; simp [Pn.take, this]

/-- The longest that holds two prefixes. -/
def comLen (p q : Pn) : Nat → Nat
  | 0 => 0
  | n + 1 => if (p.take (n + 1)).holds q then n + 1 else comLen p q n
def Pn.com (p q : Pn) : Pn := p.take (comLen p q p.l)
theorem comLen_le (p q : Pn) : ∀ n, comLen p q n ≤ n
  | 0 => Nat.le_refl _
  | n + 1 => by
    have := comLen_le p q n
    unfold comLen; split <;> omega
theorem comLen_holds {p q : Pn} (hp : p.ok) (hq : q.ok) : ∀ n, n ≤ p.l → (p.take (comLen p q n)).holds q
  | 0, _ => by
    refine ⟨Nat.zero_le _, ?_⟩
    show cut q.a 0 = cut p.a 0
    have h1 := hp.1
    have h2 := hq.1
    unfold cut
    rw [Nat.div_eq_of_lt (by simpa using h2), Nat.div_eq_of_lt (by simpa using h1)]
  | n + 1, hn => by
    unfold comLen
    split
    · assumption
    · exact comLen_holds hp hq n (by omega)
theorem comLen_max {p q : Pn} : ∀ n k, k ≤ n → (p.take k).holds q → k ≤ comLen p q n
  | 0, k, hk, _ => by omega
  | n + 1, k, hk, h => by
    unfold comLen
    split
    · exact hk
    · rename_i hn
      by_cases e : k = n + 1
      · subst e; exact absurd h hn
      · exact comLen_max n k (by omega) h
theorem com_left {p q : Pn} : (p.com q).holds p := take_holds p (comLen_le p q p.l)
theorem com_right {p q : Pn} (hp : p.ok) (hq : q.ok) : (p.com q).holds q := comLen_holds hp hq p.l (Nat.le_refl _)
theorem com_ok {p q : Pn} (hp : p.ok) : (p.com q).ok := take_ok hp (comLen_le p q p.l)
theorem com_max {p q c : Pn} (h1 : c.holds p) (h2 : c.holds q) : c.l ≤ (p.com q).l := by
  show c.l ≤ comLen p q p.l
  exact comLen_max p.l c.l h1.1 (by rw [← holds_take h1]; exact h2)
/-- Behind what two prefixes have in common their bits differ. -/
theorem com_bits {p q : Pn} (hp : p.ok) (hq : q.ok) (h1 : (p.com q).l < p.l) (h2 : (p.com q).l < q.l) : bitN p.a (p.com q).l ≠ bitN q.a (p.com q).l := by
  intro e
  have c1 := child_holds (com_left (p := p) (q := q)) h1 hp.2.1
  have c2 := child_holds (com_right hp hq) h2 hq.2.1
  rw [e] at c1
  have := com_max c1 c2
  have e2 : ((p.com q).child (bitN q.a (p.com q).l)).l = (p.com q).l + 1 := rfl
  omega
end Go.Proofs.YtfaiponmjjbgoaaGreatDoor

/- Prefixes bit by bit, and masks: the plain numbers. No program in sight. -/
namespace Go.Proofs.YtfaiponmjjbgoaaGreatDoor

theorem cut_zero {a : Nat} (h : a < 4294967296) : cut a 0 = 0 := by
  unfold cut
  rw [Nat.div_eq_of_lt (by simpa using h), Nat.zero_mul]
theorem cut_up (a : Nat) {n m : Nat} (h : n ≤ m) (hm : m ≤ 32) : cut a n ≤ cut a m := by
  rw [← cut_cut a h hm]; exact cut_le _ _
theorem bits_zero {a n : Nat} (hn : n ≤ 32) : (∀ i, n ≤ i → i < 32 → bitN a i = 0) ↔ cut a n = a := by
  constructor
  · intro h
    have key : ∀ k, k ≤ 32 - n → cut a (n + k) = cut a n := by
      intro k
      induction k with
      | zero => intro _; rfl
      | succ k ih =>
        intro hk
        rw [show n + (k + 1) = (n + k) + 1 by omega, cut_succ a (by omega), h (n + k) (by omega) (by omega), ih (by omega)]
        omega
    have := key (32 - n) (Nat.le_refl _)
    rw [show n + (32 - n) = 32 by omega, cut_32] at this
    exact this.symm
  · intro h i hi h32
    have h1 := cut_up a hi (by omega)
    have h2 := cut_le a (i + 1)
    rw [cut_succ a h32] at h2
    have h3 := bit_lt a i
    rw [h] at h1
    have h4 : 0 < 2 ^ (31 - i) := Nat.two_pow_pos _
    rcases Nat.eq_zero_or_pos (bitN a i) with h5 | h5
    · exact h5
    · have : 2 ^ (31 - i) ≤ bitN a i * 2 ^ (31 - i) := Nat.le_mul_of_pos_left _ h5
      omega
theorem bits_same {a b n : Nat} (ha : a < 4294967296) (hb : b < 4294967296) (hn : n ≤ 32) : (∀ i, i < n → bitN a i = bitN b i) ↔ cut a n = cut b n := by
  induction n with
  | zero => simp [cut_zero ha, cut_zero hb]
  | succ n ih =>
    have ih := ih (by omega)
    rw [cut_succ a (by omega), cut_succ b (by omega)]
    constructor
    · intro h
      rw [ih.1 (fun i hi => h i (by omega)), h n (by omega)]
    · intro h
      have h1 : cut a n = cut b n := by
        have e : ∀ c, cut (cut c n + bitN c n * 2 ^ (31 - n)) n = cut c n := fun c => by
          rw [← cut_succ c (by omega), cut_cut c (Nat.le_succ _) (by omega)]
        have := congrArg (fun x => cut x n) h
        simp only [e] at this
        exact this
      intro i hi
      by_cases e : i = n
      · subst e
        rw [h1] at h
        have : bitN a i * 2 ^ (31 - i) = bitN b i * 2 ^ (31 - i) := by omega
        exact Nat.eq_of_mul_eq_mul_right (Nat.two_pow_pos _) this
      · exact ih.2 h1 i (by omega)

/-- The mask of so many bits. -/
def maskN (n : Nat) : Nat := 4294967296 - 2 ^ (32 - n)
theorem pow_le32 (n : Nat) : 2 ^ (32 - n) ≤ 4294967296 := by
  have := Nat.pow_le_pow_right (show 0 < 2 by omega) (show 32 - n ≤ 32 by omega)
  simpa using this
theorem and_mask {a n : Nat} (ha : a < 4294967296) (hn : n ≤ 32) : a &&& maskN n = cut a n := by
  have hm : maskN n = (2 ^ n - 1) * 2 ^ (32 - n) := by
    unfold maskN
    rw [Nat.sub_mul, Nat.one_mul, ← Nat.pow_add, show n + (32 - n) = 32 by omega]
  rw [hm]
  apply Nat.eq_of_testBit_eq
  intro i
  unfold cut
  rw [Nat.testBit_and, Nat.testBit_mul_two_pow, Nat.testBit_mul_two_pow, Nat.testBit_two_pow_sub_one, Nat.testBit_div_two_pow]
  by_cases h : 32 - n ≤ i
  · have e : 32 - n + (i - (32 - n)) = i := by omega
    have e' : i - (32 - n) + (32 - n) = i := by omega
    by_cases h2 : i - (32 - n) < n
    · simp [h, h2, e, e']
    · have h3 : a.testBit i = false := Nat.testBit_lt_two_pow (Nat.lt_of_lt_of_le ha (by
        have := Nat.pow_le_pow_right (show 0 < 2 by omega) (show 32 ≤ i by omega)
        simpa using this))
      simp [h, h2, e, e', h3]
  · simp [h]
theorem andnot_mask {a n : Nat} (ha : a < 4294967296) (hn : n ≤ 32) : a &&& (4294967295 - maskN n) = a - cut a n := by
  have hm : 4294967295 - maskN n = 2 ^ (32 - n) - 1 := by have := pow_le32 n; have := Nat.two_pow_pos (32 - n); unfold maskN; omega
  rw [hm, Nat.and_two_pow_sub_one_eq_mod]
  unfold cut
  have := Nat.div_add_mod a (2 ^ (32 - n))
  rw [Nat.mul_comm] at this
  omega
end Go.Proofs.YtfaiponmjjbgoaaGreatDoor

/- Layer 2's functions over plain numbers: mask, holds, mayBe, Check, Stands, Bit; and the trie's isOrWithin. Condition: the table of relations reads as it is laid. -/
namespace Go.Proofs.YtfaiponmjjbgoaaGreatDoor
open Go.RowKit

theorem mask_eq {n : Nat} (h : n ≤ 32) : (4294967295 : Int) * 2 ^ (32 - n) % 4294967296 = (maskN n : Int) := by
  have h1 := pow_le32 n
  have h2 : 0 < 2 ^ (32 - n) := Nat.two_pow_pos _
  unfold maskN
  generalize hs : 2 ^ (32 - n) = s at *
  have hc : ((2 : Int) ^ (32 - n)) = (s : Int) := by rw [← hs]; simp
  rw [hc]
  omega
theorem and_u32 (a b : Nat) (ha : a < 4294967296) (hb : b < 4294967296) : bits .and .u32 (a : Int) (b : Int) = ((a &&& b : Nat) : Int) := by
  have hx : a &&& b < 2 ^ 32 := Nat.and_lt_two_pow _ (by omega)
  have h1 : (BitVec.ofInt 32 (a : Int)).toNat = a := by
    rw [BitVec.ofInt_natCast, BitVec.toNat_ofNat]; exact Nat.mod_eq_of_lt (by omega)
  have h2 : (BitVec.ofInt 32 (b : Int)).toNat = b := by
    rw [BitVec.ofInt_natCast, BitVec.toNat_ofNat]; exact Nat.mod_eq_of_lt (by omega)
  show IntKind.u32.wrap ((BitVec.ofInt 32 (a : Int) &&& BitVec.ofInt 32 (b : Int)).toNat : Int) = _
  rw [BitVec.toNat_and, h1, h2]
  show ((a &&& b : Nat) : Int) % 4294967296 = _
  omega
theorem andnot_u32 (a b : Nat) (ha : a < 4294967296) (hb : b < 4294967296) : bits .andNot .u32 (a : Int) (b : Int) = ((a &&& (4294967295 - b) : Nat) : Int) := by
  have hx : a &&& (4294967295 - b) < 2 ^ 32 := Nat.and_lt_two_pow _ (by omega)
  have h1 : (BitVec.ofInt 32 (a : Int)).toNat = a := by
    rw [BitVec.ofInt_natCast, BitVec.toNat_ofNat]; exact Nat.mod_eq_of_lt (by omega)
  have h2 : (BitVec.ofInt 32 (b : Int)).toNat = b := by
    rw [BitVec.ofInt_natCast, BitVec.toNat_ofNat]; exact Nat.mod_eq_of_lt (by omega)
  show IntKind.u32.wrap ((BitVec.ofInt 32 (a : Int) &&& ~~~ BitVec.ofInt 32 (b : Int)).toNat : Int) = _
  rw [BitVec.toNat_and, BitVec.toNat_not, h1, h2]
  show ((a &&& (2 ^ 32 - 1 - b) : Nat) : Int) % 4294967296 = _
  rw [show (2 ^ 32 - 1 - b) = 4294967295 - b by omega]
  omega
theorem maskN_lt (n : Nat) : maskN n < 4294967296 := by have := Nat.two_pow_pos (32 - n); unfold maskN; omega

set_option maxHeartbeats 400000 in
theorem mask_any (n : Nat) (w : World) (h1 : n ≤ 32) :
    Calls Tryz.prog 117 #[.int .i64 n] w fun e w' => e = .returned (.int .u32 (maskN n)) ∧ w = w' := by
  have H := Lib.hid (mask_eq h1)
  go_enter Tryz.func117, Tryz.ntmps117
  go_wp2
  go_ret
  exact ⟨by rw [← H.out]; rfl, rfl⟩

/-- 1, if one holds the other. -/
def holdsI (p q : Pn) : Nat := if p.holds q then 1 else 0

set_option maxRecDepth 100000 in
set_option maxHeartbeats 1000000 in
theorem holds_any (p q : Pn) (w : World) (hp : p.a < 4294967296) (hq : q.a < 4294967296) (hl : p.l ≤ 32) (hl2 : q.l ≤ 32) :
    Calls Tryz.prog 133 #[.agg #[.int .u32 p.a, .int .i64 p.l], .agg #[.int .u32 q.a, .int .i64 q.l]] w fun e w' => e = .returned (.int .i64 (holdsI p q : Nat)) ∧ Kp w w' := by
  have hb := Lib.hid (and_u32 q.a (maskN p.l) hq (maskN_lt _))
  have hm := Lib.hid (and_mask hq hl)
  obtain ⟨W, hW, kW, B0, B1⟩ : ∃ W, (w.alloc (.cells #[.int .u32 p.a, .int .i64 p.l] 26)).alloc (.cells #[.int .u32 q.a, .int .i64 q.l] 26) = W ∧ Kp w W ∧ Blk W w.heap.size 26 #[.int .u32 p.a, .int .i64 p.l] ∧ Blk W (w.heap.size + 1) 26 #[.int .u32 q.a, .int .i64 q.l] :=
    ⟨_, rfl, ((Kp.refl _).alloc _).alloc _, (Blk.new w _ _).alloc _, Blk.new1 w _ _ _⟩
  have p0 : W.cell? ⟨w.heap.size, 0, none⟩ = some (.int .u32 p.a) := B0.cell 0
  have p1 : W.cell? ⟨w.heap.size, 1, none⟩ = some (.int .i64 p.l) := B0.cell 1
  have q0 : W.cell? ⟨w.heap.size + 1, 0, none⟩ = some (.int .u32 q.a) := B1.cell 0
  have q1 : W.cell? ⟨w.heap.size + 1, 1, none⟩ = some (.int .i64 q.l) := B1.cell 1
  by_cases h : p.l ≤ q.l
  · have hd : decide (p.l ≤ q.l) = true := by simpa using h
    by_cases he : cut q.a p.l = p.a
    · have H := Lib.hid (show holdsI p q = 1 by simp [holdsI, Pn.holds, h, he])
      have hcmp : (bits .and .u32 (q.a : Int) (maskN p.l : Int) == (p.a : Int)) = true := by rw [hb.out, hm.out, he]; simp
      clear he
      go_enter Tryz.func133, Tryz.ntmps133
      go_wp2_with fail
      go_region_held3 (fun w' => w'.cell? ⟨w.heap.size, 0, none⟩ = some (.int .u32 p.a) ∧ w'.cell? ⟨w.heap.size, 1, none⟩ = some (.int .i64 p.l) ∧ w'.cell? ⟨w.heap.size + 1, 0, none⟩ = some (.int .u32 q.a) ∧ w'.cell? ⟨w.heap.size + 1, 1, none⟩ = some (.int .i64 q.l)) (go_keep)
        (first | (go_at_call 117; refine (mask_any _ _ hl).mono ?_; rintro e w' ⟨rfl, rfl⟩))
      go_wp2_with fail
      go_ret
      exact ⟨by rw [H.out]; rfl, kW.drew⟩
    · have H := Lib.hid (show holdsI p q = 0 by simp [holdsI, Pn.holds, he])
      have hcmp : (bits .and .u32 (q.a : Int) (maskN p.l : Int) == (p.a : Int)) = false := by rw [hb.out, hm.out]; simp; omega
      clear he
      go_enter Tryz.func133, Tryz.ntmps133
      go_wp2_with fail
      go_region_held3 (fun w' => w'.cell? ⟨w.heap.size, 0, none⟩ = some (.int .u32 p.a) ∧ w'.cell? ⟨w.heap.size, 1, none⟩ = some (.int .i64 p.l) ∧ w'.cell? ⟨w.heap.size + 1, 0, none⟩ = some (.int .u32 q.a) ∧ w'.cell? ⟨w.heap.size + 1, 1, none⟩ = some (.int .i64 q.l)) (go_keep)
        (first | (go_at_call 117; refine (mask_any _ _ hl).mono ?_; rintro e w' ⟨rfl, rfl⟩))
      go_wp2_with fail
      go_ret
      exact ⟨by rw [H.out]; rfl, kW.drew⟩
  · have H := Lib.hid (show holdsI p q = 0 by simp [holdsI, Pn.holds, h])
    have hd : decide (p.l ≤ q.l) = false := by simpa using h
    clear h
    go_enter Tryz.func133, Tryz.ntmps133
    go_wp2_with fail
    go_quiet (fail)
    go_wp2_with fail
    go_ret
    exact ⟨by rw [H.out]; rfl, kW.drewN _⟩

set_option maxHeartbeats 400000 in
theorem bit_any (a i : Nat) (w : World) (ha : a < 4294967296) (hi : i ≤ 32) :
    Calls Tryz.prog 97 #[.int .u32 a, .int .i64 i] w fun e w' => e = .returned (.int .i64 (bitN a i)) ∧ w = w' := by
  by_cases h : i < 32
  · have hq : (a : Int) / 2 ^ (31 - i) = ((a / 2 ^ (31 - i) : Nat) : Int) := by simp
    have hb : bits .and .u32 ((a / 2 ^ (31 - i) : Nat) : Int) 1 = ((a / 2 ^ (31 - i) % 2 : Nat) : Int) := by
      have := and_u32 (a / 2 ^ (31 - i)) 1 (Nat.lt_of_le_of_lt (Nat.div_le_self _ _) ha) (by omega)
      rw [Nat.and_one_is_mod] at this
      exact this
    have H := Lib.hid (show bitN a i = a / 2 ^ (31 - i) % 2 by simp [bitN, h])
    have Hq := Lib.hid hq; clear hq
    have Hb := Lib.hid hb; clear hb
    have hw : wrap64 ((a / 2 ^ (31 - i) % 2 : Nat) : Int) = ((a / 2 ^ (31 - i) % 2 : Nat) : Int) := IntWalk.wrap64_in _ ⟨by omega, by omega⟩
    have Hw := Lib.hid hw; clear hw
    go_enter Tryz.func97, Tryz.ntmps97
    go_wp2
    go_ret
    rw [Hq.out, Hb.out, Hw.out, H.out]
    exact ⟨rfl, rfl⟩
  · have H := Lib.hid (show bitN a i = 0 by simp [bitN, h])
    go_enter Tryz.func97, Tryz.ntmps97
    go_wp2
    go_ret
    exact ⟨by rw [H.out]; rfl, rfl⟩
end Go.Proofs.YtfaiponmjjbgoaaGreatDoor

/- Layer 2: mayBe, Check, Stands; the trie's isOrWithin. Condition: the table of relations reads as it is laid. -/
namespace Go.Proofs.YtfaiponmjjbgoaaGreatDoor
open Go.RowKit

/-- A prefix that came in: an address, and whatever length. -/
structure PI where
  a : Nat
  l : Int
def PI.enc (p : PI) : List Value := [.int .u32 p.a, .int .i64 p.l]
def PI.okB (p : PI) : Bool := decide (0 ≤ p.l ∧ p.l ≤ 32 ∧ cut p.a p.l.toNat = p.a)
theorem PI.len (p : PI) : p.enc.length = 2 := rfl
def PI.pn (p : PI) : Pn := ⟨p.a, p.l.toNat⟩
def Pn.pi (p : Pn) : PI := ⟨p.a, p.l⟩
theorem pn_ok {p : PI} (h : p.okB = true) (ha : p.a < 4294967296) : p.pn.ok ∧ p.l = (p.pn.l : Int) := by
  have := of_decide_eq_true h
  exact ⟨⟨ha, by simp [PI.pn]; omega, this.2.2⟩, by simp [PI.pn]; omega⟩
theorem pi_ok {p : Pn} (h : p.ok) : p.pi.okB = true := by
  have h1 := h.2.1
  exact decide_eq_true (show 0 ≤ (p.l : Int) ∧ (p.l : Int) ≤ 32 ∧ cut p.a (p.l : Int).toNat = p.a from ⟨by omega, by omega, by rw [Int.toNat_natCast]; exact h.2.2⟩)

theorem pi_at {w : World} {A : Option Addr} {ps : List PI} (h : Rd w 2 PI.enc A ps) {k : Nat} (hk : k < ps.length) :
    ∃ b off : Nat, A = some ⟨b, off, none⟩ ∧ w.cell? ⟨b, off + k * 2, none⟩ = some (.int .u32 ps[k].a) ∧ w.cell? ⟨b, off + k * 2 + 1, none⟩ = some (.int .i64 ps[k].l) := by
  obtain ⟨b, off, e, hc⟩ := h k hk
  exact ⟨b, off, e, hc 0 _ rfl, hc 1 _ rfl⟩

theorem notmask_zero {a n : Nat} (ha : a < 4294967296) (hn : n ≤ 32) : (bits .andNot .u32 (a : Int) (maskN n : Int) != 0) = !decide (cut a n = a) := by
  rw [andnot_u32 a _ ha (maskN_lt n), andnot_mask ha hn]
  have := cut_le a n
  by_cases h : cut a n = a
  · simp [h]
  · simp [h]; omega

set_option maxRecDepth 100000 in
set_option maxHeartbeats 1000000 in
theorem mayBe_any (A : Option Addr) (c : Nat) (ps : List PI) (w : World) (hR : Rd w 2 PI.enc A ps) (hn : ps.length ≤ 1000000) (ha : ∀ k (hk : k < ps.length), ps[k].a < 4294967296) :
    Calls Tryz.prog 96 #[.slice A ps.length c] w fun e w' => e = .returned (.bool (ps.all PI.okB)) ∧ Kp w w' := by
  have Ha := Lib.hid ha; clear ha
  go_enter Tryz.func96, Tryz.ntmps96
  go_wp2_with fail
  go_loopw [7] (fun i wr => ∃ k : Nat, k ≤ ps.length ∧ i = .int .i64 k ∧ Hid (∀ j (hj : j < ps.length), j < k → ps[j].okB = true) ∧ Kp w wr) (fun i _ => ps.length - (intOf i).toNat)
  case atStart => exact ⟨0, Nat.zero_le _, rfl, fun _ _ h => absurd h (by omega), Kp.refl _⟩
  case round =>
    obtain ⟨k, hk, rfl, hall, hK⟩ := hrel
    by_cases hlt : k < ps.length
    · obtain ⟨b, off, rfl, c0, c1⟩ := pi_at (hR.keep hK) hlt
      have hak := Ha.out k hlt
      have hno : ps[k].okB = false → ps.all PI.okB = false := fun h => by rw [List.all_eq_false]; exact ⟨ps[k], List.getElem_mem hlt, by simp [h]⟩
      have Hno := Lib.hid hno; clear hno
      obtain ⟨W, hW, kW, B0⟩ : ∃ W, wr.alloc (.cells #[.int .u32 ps[k].a, .int .i64 ps[k].l] 26) = W ∧ Kp w W ∧ Blk W wr.heap.size 26 #[.int .u32 ps[k].a, .int .i64 ps[k].l] := ⟨_, rfl, hK.alloc _, Blk.new wr _ _⟩
      have p0 : W.cell? ⟨wr.heap.size, 0, none⟩ = some (.int .u32 ps[k].a) := B0.cell 0
      have p1 : W.cell? ⟨wr.heap.size, 1, none⟩ = some (.int .i64 ps[k].l) := B0.cell 1
      by_cases h0 : ps[k].l < 0
      · have H := Lib.hid (Hno.out (by simp [PI.okB]; omega))
        have d0 : decide (ps[k].l < 0) = true := by simpa using h0
        clear h0
        go_wp2_with fail
        go_quiet (fail)
        go_wp2_with fail
        go_ret
        exact ⟨by rw [H.out]; rfl, kW.drewN _⟩
      · have d0 : decide (ps[k].l < 0) = false := by simpa using h0
        by_cases h1 : 32 < ps[k].l
        · have H := Lib.hid (Hno.out (by simp [PI.okB]; omega))
          have d1 : decide (32 < ps[k].l) = true := by simpa using h1
          clear h0 h1
          go_wp2_with fail
          go_quiet (fail)
          go_wp2_with fail
          go_ret
          exact ⟨by rw [H.out]; rfl, kW.drewN _⟩
        · have d1 : decide (32 < ps[k].l) = false := by simpa using h1
          obtain ⟨n, hnl⟩ := Int.eq_ofNat_of_zero_le (show 0 ≤ ps[k].l by omega)
          have hn32 : n ≤ 32 := by omega
          have hz := notmask_zero hak hn32
          have Hl := Lib.hid hnl
          rw [hnl] at c1 p1 d0 d1 hW
          clear h0 h1 hnl
          by_cases hc : cut ps[k].a n = ps[k].a
          · have hok := Lib.hid (show ps[k].okB = true by simp only [PI.okB, Hl.out, Int.toNat_natCast, decide_eq_true_eq]; exact ⟨by omega, by omega, hc⟩)
            rw [show (!decide (cut ps[k].a n = ps[k].a)) = false by simp [hc]] at hz
            clear hc
            go_wp2_with fail
            go_region_held3 (fun w' => w'.cell? ⟨wr.heap.size, 0, none⟩ = some (.int .u32 ps[k].a) ∧ w'.cell? ⟨wr.heap.size, 1, none⟩ = some (.int .i64 n)) (go_keep)
              (first | (go_at_call 117; refine (mask_any _ _ hn32).mono ?_; rintro e w' ⟨rfl, rfl⟩))
            go_wp2_with fail
            go_roundw
            case rel =>
              refine ⟨k + 1, by omega, by go_num, fun j hj hjk => ?_, kW.drew⟩
              by_cases hj' : j < k
              · exact hall.out j hj hj'
              · obtain rfl : j = k := by omega
                exact hok.out
            case measure => simp [intOf]; omega
          · have H := Lib.hid (Hno.out (by simp only [PI.okB, Hl.out, Int.toNat_natCast, decide_eq_false_iff_not]; rintro ⟨_, _, h⟩; exact hc h))
            rw [show (!decide (cut ps[k].a n = ps[k].a)) = true by simp [hc]] at hz
            clear hc
            go_wp2_with fail
            go_region_held3 (fun w' => w'.cell? ⟨wr.heap.size, 0, none⟩ = some (.int .u32 ps[k].a) ∧ w'.cell? ⟨wr.heap.size, 1, none⟩ = some (.int .i64 n)) (go_keep)
              (first | (go_at_call 117; refine (mask_any _ _ hn32).mono ?_; rintro e w' ⟨rfl, rfl⟩))
            go_wp2_with fail
            go_ret
            exact ⟨by rw [H.out]; rfl, kW.drew⟩
    · obtain rfl : k = ps.length := by omega
      have H := Lib.hid (show ps.all PI.okB = true by
        rw [List.all_eq_true]; intro x hx
        obtain ⟨j, hj, rfl⟩ := List.getElem_of_mem hx
        exact hall.out j hj hj)
      clear hall
      go_wp2_with fail
      go_ret
      exact ⟨by rw [H.out]; rfl, hK⟩

def checkP (p : PI) : Int := if p.okB then 0 else 2

set_option maxRecDepth 100000 in
set_option maxHeartbeats 1000000 in
theorem check_any (p : PI) (w : World) (ha : p.a < 4294967296) :
    Calls Tryz.prog 69 #[.agg #[.int .u32 p.a, .int .i64 p.l]] w fun e w' => e = .returned (.int .i64 (checkP p)) ∧ Kp w w' := by
  have hrd : Rd ((w.alloc (.cells #[.int .u32 p.a, .int .i64 p.l] 26)).alloc (.cells #[.int .u32 p.a, .int .i64 p.l] 26)) 2 PI.enc (some ⟨w.heap.size + 1, 0, none⟩) [p] := Rd.of_blk (Blk.new1 w _ _ _) (by omega) PI.len (by unfold maxLen; simp) rfl
  have Hrd := Lib.hid hrd; clear hrd
  go_enter Tryz.func69, Tryz.ntmps69
  go_wp2_with fail
  refine wp_scope_fwd 0 rfl ?_
  go_wp2_with fail
  refine (mayBe_any _ 1 [p] _ Hrd.out (by simp) (fun k hk => by simp at hk; subst hk; exact ha)).mono ?_
  rintro e w1 ⟨rfl, hK1⟩
  have hk1 : Kp w w1 := (((Kp.refl _).alloc _).alloc _).trans hK1
  rw [show [p].all PI.okB = p.okB by simp]
  cases hok : p.okB with
  | true =>
    have H := Lib.hid (show checkP p = 0 by simp [checkP, hok]); clear hok
    go_wp2_with fail
    refine jump_ret ?_
    go_ret
    exact ⟨by rw [H.out]; rfl, hk1⟩
  | false =>
    have H := Lib.hid (show checkP p = 2 by simp [checkP, hok]); clear hok
    go_wp2_with fail
    go_step3
    refine ⟨rfl, ?_⟩
    go_wp2_with fail
    refine noGoto_ret ?_
    go_ret
    exact ⟨by rw [H.out]; rfl, hk1⟩

/-- The table of relations reads as it is laid. -/
def RelsAt (w : World) : Prop := w.cell? ⟨0, 0, none⟩ = some (.int .i64 4) ∧ w.cell? ⟨0, 1, none⟩ = some (.int .i64 2) ∧ w.cell? ⟨0, 2, none⟩ = some (.int .i64 3) ∧ w.cell? ⟨0, 3, none⟩ = some (.int .i64 1)
theorem RelsAt.keep {w w' : World} (h : RelsAt w) (k : Kp w w') : RelsAt w' := ⟨k.cell h.1, k.cell h.2.1, k.cell h.2.2.1, k.cell h.2.2.2⟩
def relI (p q : Pn) : Int := if p.holds q then (if q.holds p then 1 else 3) else (if q.holds p then 2 else 4)

set_option maxRecDepth 100000 in
set_option maxHeartbeats 600000 in
theorem stands_any (p q : Pn) (w : World) (hG : RelsAt w) (hp : p.ok) (hq : q.ok) :
    Calls Tryz.prog 136 #[.agg #[.int .u32 p.a, .int .i64 p.l], .agg #[.int .u32 q.a, .int .i64 q.l]] w fun e w' => e = .returned (.tuple #[.int .i64 (relI p q), .int .i64 0]) ∧ Kp w w' := by
  have hpl := hp.2.1
  have hql := hq.2.1
  have Hp := Lib.hid hp
  have Hq := Lib.hid hq
  obtain ⟨W, hW, kW, B0, B1⟩ : ∃ W, (w.alloc (.cells #[.int .u32 p.a, .int .i64 p.l] 26)).alloc (.cells #[.int .u32 q.a, .int .i64 q.l] 26) = W ∧ Kp w W ∧ Blk W w.heap.size 26 #[.int .u32 p.a, .int .i64 p.l] ∧ Blk W (w.heap.size + 1) 26 #[.int .u32 q.a, .int .i64 q.l] :=
    ⟨_, rfl, ((Kp.refl _).alloc _).alloc _, (Blk.new w _ _).alloc _, Blk.new1 w _ _ _⟩
  have p0 : W.cell? ⟨w.heap.size, 0, none⟩ = some (.int .u32 p.a) := B0.cell 0
  have p1 : W.cell? ⟨w.heap.size, 1, none⟩ = some (.int .i64 p.l) := B0.cell 1
  have q0 : W.cell? ⟨w.heap.size + 1, 0, none⟩ = some (.int .u32 q.a) := B1.cell 0
  have q1 : W.cell? ⟨w.heap.size + 1, 1, none⟩ = some (.int .i64 q.l) := B1.cell 1
  have hrd : Rd (W.alloc (.cells #[.int .u32 p.a, .int .i64 p.l, .int .u32 q.a, .int .i64 q.l] 26)) 2 PI.enc (some ⟨W.heap.size, 0, none⟩) [p.pi, q.pi] := Rd.of_blk (Blk.new W _ _) (by omega) PI.len (by unfold maxLen; simp) rfl
  have Hrd := Lib.hid hrd; clear hrd
  clear hp hq
  go_enter Tryz.func136, Tryz.ntmps136
  go_wp2_with fail
  refine wp_scope_fwd 0 rfl ?_
  go_wp2_with fail
  refine (mayBe_any _ 2 [p.pi, q.pi] _ Hrd.out (by simp) (fun k hk => by
    have hk2 : k = 0 ∨ k = 1 := by simp at hk; omega
    rcases hk2 with rfl | rfl
    · exact Hp.out.1
    · exact Hq.out.1)).mono ?_
  rintro e w1 ⟨rfl, hK1⟩
  rw [show [p.pi, q.pi].all PI.okB = true by simp [pi_ok Hp.out, pi_ok Hq.out]]
  have k1 : Kp W w1 := ((Kp.refl _).alloc _).trans hK1
  have C0 := B0.keep k1
  have C1 := B1.keep k1
  obtain ⟨g0, g1, g2, g3⟩ := hG.keep (kW.trans k1)
  clear p0 p1 q0 q1 hW B0 B1 hK1 Hrd
  have p0 : w1.cell? ⟨w.heap.size, 0, none⟩ = some (.int .u32 p.a) := C0.cell 0
  have p1 : w1.cell? ⟨w.heap.size, 1, none⟩ = some (.int .i64 p.l) := C0.cell 1
  have q0 : w1.cell? ⟨w.heap.size + 1, 0, none⟩ = some (.int .u32 q.a) := C1.cell 0
  have q1 : w1.cell? ⟨w.heap.size + 1, 1, none⟩ = some (.int .i64 q.l) := C1.cell 1
  have kw := kW.trans k1
  clear k1 kW C0 C1
  obtain ⟨i, hi⟩ : ∃ i, holdsI p q = i := ⟨_, rfl⟩
  obtain ⟨j, hj⟩ : ∃ j, holdsI q p = j := ⟨_, rfl⟩
  have gr : w1.cell? ⟨0, i * 2 + j, none⟩ = some (.int .i64 (relI p q)) := by
    unfold holdsI at hi hj
    unfold relI
    by_cases a : p.holds q <;> by_cases b : q.holds p <;> simp [a, b] at hi hj <;> subst hi hj <;> simp [a, b, g0, g1, g2, g3]
  have hi2 : i < 2 := by unfold holdsI at hi; split at hi <;> omega
  have hj2 : j < 2 := by unfold holdsI at hj; split at hj <;> omega
  have Hi := Lib.hid hi; clear hi
  have Hj := Lib.hid hj; clear hj
  clear g0 g1 g2 g3
  have i0 : (0 : Int) ≤ (i : Int) := by omega
  have i1 : (i : Int) < 2 := by omega
  have j0 : (0 : Int) ≤ (j : Int) := by omega
  have j1 : (j : Int) < 2 := by omega
  go_wp2_with fail
  go_region_held3 (fun w' => w'.cell? ⟨w.heap.size, 0, none⟩ = some (.int .u32 p.a) ∧ w'.cell? ⟨w.heap.size, 1, none⟩ = some (.int .i64 p.l) ∧ w'.cell? ⟨w.heap.size + 1, 0, none⟩ = some (.int .u32 q.a) ∧ w'.cell? ⟨w.heap.size + 1, 1, none⟩ = some (.int .i64 q.l) ∧ w'.cell? ⟨0, i * 2 + j, none⟩ = some (.int .i64 (relI p q)))
      (first | exact ⟨Kb.cell p0, Kb.cell p1, Kb.cell q0, Kb.cell q1, Kb.cell gr⟩ | exact ⟨Ka.cell p0, Ka.cell p1, Ka.cell q0, Ka.cell q1, Ka.cell gr⟩ | go_keep)
      (first
        | (have tk := Ka; go_at_call 133; refine (holds_any q p _ Hq.out.1 Hp.out.1 hql hpl).mono ?_; rintro e wb ⟨rfl, hKb⟩; rw [Hj.out]; have Kb : Kp w1 wb := Ka.trans hKb; clear tk)
        | (go_at_call 133; refine (holds_any p q _ Hp.out.1 Hq.out.1 hpl hql).mono ?_; rintro e wa ⟨rfl, hKa⟩; rw [Hi.out]; have Ka : Kp w1 wa := (Kp.refl w1).drew.trans hKa))
  go_wp2_with fail
  refine jump_ret ?_
  go_ret2
  exact ⟨rfl, kw.trans Kb⟩

theorem relI_cases (p n : Pn) : (n.holds p → (relI p n == 1) = true ∨ ((relI p n == 1) = false ∧ (relI p n == 2) = true)) ∧ (¬ n.holds p → (relI p n == 1) = false ∧ (relI p n == 2) = false) := by
  unfold relI
  by_cases a : p.holds n <;> by_cases b : n.holds p <;> simp [a, b]

set_option maxRecDepth 100000 in
set_option maxHeartbeats 1000000 in
theorem within_any (p n : Pn) (w : World) (hG : RelsAt w) (hp : p.ok) (hn : n.ok) :
    Calls Tryz.prog 116 #[.agg #[.int .u32 p.a, .int .i64 p.l], .agg #[.int .u32 n.a, .int .i64 n.l]] w fun e w' => e = .returned (.bool (decide (n.holds p))) ∧ Kp w w' := by
  have Hc := Lib.hid (relI_cases p n)
  go_enter Tryz.func116, Tryz.ntmps116
  go_wp2_with fail
  refine (stands_any p n _ (hG.keep (((Kp.refl _).alloc _).alloc _)) hp hn).mono ?_
  rintro e w1 ⟨rfl, hK1⟩
  have k1 : Kp w w1 := (((Kp.refl _).alloc _).alloc _).trans hK1
  by_cases h : n.holds p
  · have H := Lib.hid (show decide (n.holds p) = true by simpa using h)
    rcases Hc.out.1 h with h1 | ⟨h1, h2⟩
    · clear h
      go_wp2_with fail
      go_ret
      exact ⟨by rw [H.out]; rfl, k1⟩
    · clear h
      go_wp2_with fail
      go_ret
      exact ⟨by rw [H.out]; rfl, k1⟩
  · have H := Lib.hid (show decide (n.holds p) = false by simpa using h)
    obtain ⟨h1, h2⟩ := Hc.out.2 h
    clear h
    go_wp2_with fail
    go_ret
    exact ⟨by rw [H.out]; rfl, k1⟩
end Go.Proofs.YtfaiponmjjbgoaaGreatDoor

/- Trees of prefixes as plain data: what they hold, in which order, and what putting and taking comes to. No program in sight. -/
namespace Go.Proofs.YtfaiponmjjbgoaaGreatDoor

/-- A node: its block, its prefix, its value, whether it has one, and what is beneath it. -/
inductive Tr where
  | nil
  | node (b : Nat) (p : Pn) (v : Int) (h : Bool) (x y : Tr)

def Tr.rows : Tr → List (Pn × Int)
  | .nil => []
  | .node _ p v h x y => (if h then [(p, v)] else []) ++ x.rows ++ y.rows
def Tr.pfx : Tr → List Pn
  | .nil => []
  | .node _ p _ _ x y => p :: x.pfx ++ y.pfx
def Tr.bs : Tr → List Nat
  | .nil => []
  | .node b _ _ _ x y => b :: x.bs ++ y.bs
def Tr.Wf : Tr → Prop
  | .nil => True
  | .node _ p _ _ x y => p.ok ∧ (∀ q ∈ x.pfx, (p.child 0).holds q) ∧ (∀ q ∈ y.pfx, (p.child 1).holds q) ∧ x.Wf ∧ y.Wf

theorem pfx_ok : ∀ {t : Tr}, t.Wf → ∀ q ∈ t.pfx, q.ok
  | .nil, _, q, h => by cases h
  | .node b p v hh x y, ⟨hp, _, _, hx, hy⟩, q, h => by
    simp only [Tr.pfx, List.cons_append, List.mem_cons, List.mem_append] at h
    rcases h with rfl | h | h
    · exact hp
    · exact pfx_ok hx q h
    · exact pfx_ok hy q h
theorem rows_pfx : ∀ {t : Tr} {r : Pn × Int}, r ∈ t.rows → r.1 ∈ t.pfx
  | .node b p v h x y, r, hr => by
    simp only [Tr.rows, List.mem_append] at hr
    simp only [Tr.pfx, List.cons_append, List.mem_cons, List.mem_append]
    rcases hr with (hr | hr) | hr
    · left; split at hr
      · simp at hr; rw [hr]
      · cases hr
    · right; left; exact rows_pfx hr
    · right; right; exact rows_pfx hr

/-- Rows rise. -/
def Rises : List (Pn × Int) → Prop := List.Pairwise (fun r s => r.1.lt s.1)
theorem rows_rise : ∀ {t : Tr}, t.Wf → Rises t.rows
  | .nil, _ => List.Pairwise.nil
  | .node b p v h x y, ⟨hp, h0, h1, hx, hy⟩ => by
    have px : ∀ r ∈ x.rows, p.lt r.1 := fun r hr => by
      have h := h0 _ (rows_pfx hr)
      have hq := pfx_ok hx _ (rows_pfx hr)
      obtain ⟨a, b, _⟩ := child_strict (by omega) hp h hq.2.1
      exact lt_of_within a b
    have py : ∀ r ∈ y.rows, p.lt r.1 := fun r hr => by
      have h := h1 _ (rows_pfx hr)
      have hq := pfx_ok hy _ (rows_pfx hr)
      obtain ⟨a, b, _⟩ := child_strict (by omega) hp h hq.2.1
      exact lt_of_within a b
    have pxy : ∀ r ∈ x.rows, ∀ s ∈ y.rows, r.1.lt s.1 := fun r hr s hs => by
      have hq := pfx_ok hx _ (rows_pfx hr)
      have hl := (child_strict (by omega) hp (h0 _ (rows_pfx hr)) hq.2.1).2.1
      have := hq.2.1
      exact lt_sides (h0 _ (rows_pfx hr)) (h1 _ (rows_pfx hs)) (by omega)
    unfold Rises Tr.rows
    rw [List.pairwise_append, List.pairwise_append]
    refine ⟨⟨?_, rows_rise hx, ?_⟩, rows_rise hy, ?_⟩
    · split <;> simp
    · intro r hr s hs
      split at hr
      · simp at hr; subst hr; exact px s hs
      · cases hr
    · intro r hr s hs
      rcases List.mem_append.1 hr with hr | hr
      · split at hr
        · simp at hr; subst hr; exact py s hs
        · cases hr
      · exact pxy r hr s hs

theorem rises_ext : ∀ {l m : List (Pn × Int)}, Rises l → Rises m → (∀ r, r ∈ l ↔ r ∈ m) → l = m
  | [], [], _, _, _ => rfl
  | [], s :: m, _, _, h => by have := (h s).2 (by simp); cases this
  | r :: l, [], _, _, h => by have := (h r).1 (by simp); cases this
  | r :: l, s :: m, hl, hm, h => by
    have hl' := List.pairwise_cons.1 hl
    have hm' := List.pairwise_cons.1 hm
    have e : r = s := by
      rcases List.mem_cons.1 ((h r).1 (by simp)) with e | h1
      · exact e
      · rcases List.mem_cons.1 ((h s).2 (by simp)) with e | h2
        · exact e.symm
        · exact absurd (lt_trans (hm'.1 r h1) (hl'.1 s h2)) (lt_irrefl _)
    subst e
    rw [rises_ext hl'.2 hm'.2 (fun t => ?_)]
    constructor
    · intro ht
      rcases List.mem_cons.1 ((h t).1 (by simp [ht])) with e | h1
      · subst e; exact absurd (hl'.1 t ht) (lt_irrefl _)
      · exact h1
    · intro ht
      rcases List.mem_cons.1 ((h t).2 (by simp [ht])) with e | h1
      · subst e; exact absurd (hm'.1 t ht) (lt_irrefl _)
      · exact h1

/-- The tree at the place of a prefix. -/
def Tr.look (q : Pn) : Tr → Tr
  | .nil => .nil
  | .node b p v h x y => if p.holds q then (if p.l = q.l then .node b p v h x y else if bitN q.a p.l = 0 then x.look q else y.look q) else .node b p v h x y
/-- The tree with another one at the place of a prefix. -/
def Tr.put (q : Pn) (s : Tr) : Tr → Tr
  | .nil => s
  | .node b p v h x y => if p.holds q then (if p.l = q.l then s else if bitN q.a p.l = 0 then .node b p v h (Tr.put q s x) y else .node b p v h x (Tr.put q s y)) else s

theorem bit_cases (a i : Nat) : bitN a i = 0 ∨ bitN a i = 1 := by have := bit_lt a i; omega

theorem side_no {p q : Pn} {t : Tr} {i : Nat} (hi : i < 2) (hp : p.ok) (hq : q.ok) (h : ∀ r ∈ t.pfx, (p.child i).holds r) (hb : bitN q.a p.l ≠ i) : q ∉ t.pfx := fun hm => by
  exact hb (child_strict hi hp (h q hm) hq.2.1).2.2

/-- What is found at a prefix's place is all there is of it. -/
theorem look_mem {q : Pn} (hq : q.ok) : ∀ {t : Tr}, t.Wf → ∀ v, ((q, v) ∈ t.rows ↔ ∃ b x y, t.look q = .node b q v true x y)
  | .nil, _, v => by simp [Tr.rows, Tr.look]
  | .node b p u h x y, ⟨hp, h0, h1, hx, hy⟩, v => by
    have ihx := look_mem hq hx v
    have ihy := look_mem hq hy v
    have hnx : ¬ p.holds q → (q, v) ∉ x.rows := fun hn hm => hn (child_strict (by omega) hp (h0 _ (rows_pfx hm)) hq.2.1).1
    have hny : ¬ p.holds q → (q, v) ∉ y.rows := fun hn hm => hn (child_strict (by omega) hp (h1 _ (rows_pfx hm)) hq.2.1).1
    by_cases hh : p.holds q
    · by_cases hl : p.l = q.l
      · have e := holds_eq hh hl hq
        subst e
        have nx : (p, v) ∉ x.rows := fun hm => absurd (child_strict (by omega) hp (h0 _ (rows_pfx hm)) hq.2.1).2.1 (Nat.lt_irrefl _)
        have ny : (p, v) ∉ y.rows := fun hm => absurd (child_strict (by omega) hp (h1 _ (rows_pfx hm)) hq.2.1).2.1 (Nat.lt_irrefl _)
        simp only [Tr.look, hh, if_true, Tr.rows, List.mem_append, nx, ny, or_false]
        constructor
        · intro hm
          cases h with
          | true => simp at hm; subst hm; exact ⟨b, x, y, rfl⟩
          | false => simp at hm
        · rintro ⟨b', x', y', e⟩
          injection e with e1 e2 e3 e4 e5 e6
          subst e3 e4
          simp
      · have np : ¬ q = p := fun e => hl (by rw [e])
        have nself : (q, v) ∉ (if h then [(p, u)] else []) := by
          cases h <;> simp [np]
        rcases bit_cases q.a p.l with hb | hb
        · have ny : (q, v) ∉ y.rows := fun hm => side_no (by omega) hp hq h1 (by omega) (rows_pfx hm)
          simp only [Tr.look, hh, hl, hb, if_true, if_false, Tr.rows, List.mem_append, nself, ny, false_or, or_false]
          exact ihx
        · have hb0 : ¬ bitN q.a p.l = 0 := by omega
          have nx : (q, v) ∉ x.rows := fun hm => side_no (by omega) hp hq h0 (by omega) (rows_pfx hm)
          simp only [Tr.look, hh, hl, hb0, if_true, if_false, Tr.rows, List.mem_append, nself, nx, false_or]
          exact ihy
    · have np : ¬ q = p := fun e => hh (by rw [e]; exact holds_self hp)
      have nself : (q, v) ∉ (if h then [(p, u)] else []) := by cases h <;> simp [np]
      simp only [Tr.look, hh, if_false, Tr.rows, List.mem_append, nself, hnx hh, hny hh, or_false, false_iff, not_exists]
      intro b' x' y' e
      injection e with e1 e2
      exact np e2.symm

/-- What is put at a prefix's place: the rows beside it stay. -/
theorem put_rows {q : Pn} (hq : q.ok) {s : Tr} : ∀ {t : Tr}, t.Wf → (∀ r : Pn × Int, r ∈ s.rows → r.1 = q ∨ r ∈ (t.look q).rows) → (∀ r : Pn × Int, r ∈ (t.look q).rows → r.1 ≠ q → r ∈ s.rows) →
    (∀ r : Pn × Int, r.1 ≠ q → (r ∈ (Tr.put q s t).rows ↔ r ∈ t.rows)) ∧ (∀ v, (q, v) ∈ (Tr.put q s t).rows ↔ (q, v) ∈ s.rows)
  | .nil, _, h1, h2 => by
    refine ⟨fun r hr => ?_, fun v => by first | exact Iff.rfl | trivial⟩
    simp only [Tr.put, Tr.rows, List.not_mem_nil, iff_false]
    intro hm
    rcases h1 r hm with e | hm
    · exact hr e
    · simp [Tr.look, Tr.rows] at hm
  | .node b p u h x y, ⟨hp, h0, hone, hx, hy⟩, h1, h2 => by
    by_cases hh : p.holds q
    · by_cases hl : p.l = q.l
      · simp only [Tr.look, hh, hl, if_true] at h1 h2
        simp only [Tr.put, hh, hl, if_true]
        refine ⟨fun r hr => ⟨fun hm => ?_, fun hm => h2 r hm hr⟩, fun v => by first | exact Iff.rfl | trivial⟩
        rcases h1 r hm with e | hm
        · exact absurd e hr
        · exact hm
      · have np : ¬ q = p := fun e => hl (by rw [e])
        have nself : ∀ v, (q, v) ∉ (if h then [(p, u)] else []) := by intro v; cases h <;> simp [np]
        rcases bit_cases q.a p.l with hb | hb
        · simp only [Tr.look, hh, hl, hb, if_true, if_false] at h1 h2
          obtain ⟨i1, i2⟩ := put_rows hq hx h1 h2
          have ny : ∀ v, (q, v) ∉ y.rows := fun v hm => side_no (by omega) hp hq hone (by omega) (rows_pfx hm)
          simp only [Tr.put, hh, hl, hb, if_true, if_false, Tr.rows, List.mem_append]
          refine ⟨fun r hr => by rw [i1 r hr], fun v => ?_⟩
          rw [i2 v]; simp [nself v, ny v]
        · have hb0 : ¬ bitN q.a p.l = 0 := by omega
          simp only [Tr.look, hh, hl, hb0, if_true, if_false] at h1 h2
          obtain ⟨i1, i2⟩ := put_rows hq hy h1 h2
          have nx : ∀ v, (q, v) ∉ x.rows := fun v hm => side_no (by omega) hp hq h0 (by omega) (rows_pfx hm)
          simp only [Tr.put, hh, hl, hb0, if_true, if_false, Tr.rows, List.mem_append]
          refine ⟨fun r hr => by rw [i1 r hr], fun v => ?_⟩
          rw [i2 v]; simp [nself v, nx v]
    · simp only [Tr.look, hh, if_false] at h1 h2
      simp only [Tr.put, hh, if_false]
      refine ⟨fun r hr => ⟨fun hm => ?_, fun hm => h2 r hm hr⟩, fun v => by first | exact Iff.rfl | trivial⟩
      rcases h1 r hm with e | hm
      · exact absurd e hr
      · exact hm

/-- Well formed: what is put must lie where its place is. -/
theorem put_wf {q : Pn} (hq : q.ok) {s : Tr} (hs : s.Wf) : ∀ {t : Tr}, t.Wf → (∀ c : Pn, c.ok → c.holds q → (∀ r ∈ (t.look q).pfx, c.holds r) → ∀ r ∈ s.pfx, c.holds r) → (Tr.put q s t).Wf ∧ ∀ c : Pn, c.ok → c.holds q → (∀ r ∈ t.pfx, c.holds r) → ∀ r ∈ (Tr.put q s t).pfx, c.holds r
  | .nil, _, hc => ⟨hs, fun c h1 h2 _ => hc c h1 h2 (by simp [Tr.look, Tr.pfx])⟩
  | .node b p u h x y, ⟨hp, h0, h1, hx, hy⟩, hc => by
    by_cases hh : p.holds q
    · by_cases hl : p.l = q.l
      · simp only [Tr.look, hh, hl, if_true] at hc
        simp only [Tr.put, hh, hl, if_true]
        exact ⟨hs, hc⟩
      · have hlt : p.l < q.l := Nat.lt_of_le_of_ne hh.1 hl
        have hp32 : p.l < 32 := Nat.lt_of_lt_of_le hlt hq.2.1
        have hch := child_holds hh hlt hq.2.1
        rcases bit_cases q.a p.l with hb | hb
        · simp only [Tr.look, hh, hl, hb, if_true, if_false] at hc
          obtain ⟨i1, i2⟩ := put_wf hq hs hx hc
          simp only [Tr.put, hh, hl, hb, if_true, if_false]
          rw [hb] at hch
          refine ⟨⟨hp, i2 _ (child_ok (by omega) hp hp32) hch h0, h1, i1, hy⟩, fun c hco hcq hall r hr => ?_⟩
          simp only [Tr.pfx, List.cons_append, List.mem_cons, List.mem_append] at hr hall
          rcases hr with rfl | hr | hr
          · exact hall _ (.inl rfl)
          · exact i2 c hco hcq (fun r hr => hall r (.inr (.inl hr))) r hr
          · exact hall r (.inr (.inr hr))
        · have hb0 : ¬ bitN q.a p.l = 0 := by omega
          simp only [Tr.look, hh, hl, hb0, if_true, if_false] at hc
          obtain ⟨i1, i2⟩ := put_wf hq hs hy (by simpa using hc)
          simp only [Tr.put, hh, hl, hb0, if_true, if_false]
          rw [hb] at hch
          refine ⟨⟨hp, h0, i2 _ (child_ok (by omega) hp hp32) hch h1, hx, i1⟩, fun c hco hcq hall r hr => ?_⟩
          simp only [Tr.pfx, List.cons_append, List.mem_cons, List.mem_append] at hr hall
          rcases hr with rfl | hr | hr
          · exact hall _ (.inl rfl)
          · exact hall r (.inr (.inl hr))
          · exact i2 c hco hcq (fun r hr => hall r (.inr (.inr hr))) r hr
    · simp only [Tr.look, hh, if_false] at hc
      simp only [Tr.put, hh, if_false]
      exact ⟨hs, hc⟩

/-- The tree at a place is well formed; and if it is a node that does not hold the prefix, and is not it, it is none that the prefix's is. -/
theorem look_wf {q : Pn} : ∀ {t : Tr}, t.Wf → (t.look q).Wf
  | .nil, h => h
  | .node b p u h x y, hw => by
    unfold Tr.look
    split
    · split
      · exact hw
      · split
        · exact look_wf hw.2.2.2.1
        · exact look_wf hw.2.2.2.2
    · exact hw
theorem look_kind {q : Pn} (hq : q.ok) : ∀ {t : Tr} {b : Nat} {p : Pn} {u : Int} {h : Bool} {x y : Tr}, t.look q = .node b p u h x y → p = q ∨ ¬ p.holds q
  | .nil, _, _, _, _, _, _, e => by simp [Tr.look] at e
  | .node b p u h x y, b', p', u', h', x', y', e => by
    unfold Tr.look at e
    split at e
    · rename_i hh
      split at e
      · rename_i hl
        injection e with _ e2
        subst e2
        exact .inl (holds_eq hh hl hq)
      · split at e
        · exact look_kind hq e
        · exact look_kind hq e
    · rename_i hh
      injection e with _ e2
      subst e2
      exact .inr hh

/-- A prefix with a value hung where it has none. -/
def hangT (q : Pn) (v : Int) (b1 b2 : Nat) : Tr → Tr
  | .nil => .node b1 q v true .nil .nil
  | .node b p u h x y =>
    if p = q then .node b p v true x y
    else if p.com q = q then (if bitN p.a q.l = 0 then .node b1 q v true (.node b p u h x y) .nil else .node b1 q v true .nil (.node b p u h x y))
    else if bitN q.a (p.com q).l = 0 then .node b2 (p.com q) 0 false (.node b1 q v true .nil .nil) (.node b p u h x y)
    else .node b2 (p.com q) 0 false (.node b p u h x y) (.node b1 q v true .nil .nil)

theorem wf_within {t : Tr} {b : Nat} {p : Pn} {u : Int} {h : Bool} {x y : Tr} (e : t = .node b p u h x y) (hw : t.Wf) : ∀ r ∈ t.pfx, p.holds r := by
  subst e
  intro r hr
  simp only [Tr.pfx, List.cons_append, List.mem_cons, List.mem_append] at hr
  obtain ⟨hp, h0, h1, hx, hy⟩ := hw
  rcases hr with rfl | hr | hr
  · exact holds_self hp
  · exact (child_strict (by omega) hp (h0 r hr) (pfx_ok hx r hr).2.1).1
  · exact (child_strict (by omega) hp (h1 r hr) (pfx_ok hy r hr).2.1).1

theorem hang_rows {q : Pn} {v : Int} {b1 b2 : Nat} {s : Tr} (hs : s.Wf) (hk : ∀ u, (q, u) ∉ s.rows) : ∀ r : Pn × Int, r ∈ (hangT q v b1 b2 s).rows ↔ r = (q, v) ∨ r ∈ s.rows := by
  intro r
  cases s with
  | nil => simp [hangT, Tr.rows]
  | node b p u h x y =>
    simp only [hangT]
    split
    · rename_i e
      subst e
      have hf : h = false := by
        cases h with
        | false => rfl
        | true => exact absurd (show (p, u) ∈ (Tr.node b p u true x y).rows by simp [Tr.rows]) (hk u)
      subst hf
      simp [Tr.rows]
    · split
      · split <;> simp [Tr.rows]
      · split
        · simp [Tr.rows]
        · simp only [Tr.rows, List.mem_append]
          simp
          constructor
          · rintro (h | h); exact .inr h; exact .inl h
          · rintro (h | h); exact .inr h; exact .inl h
end Go.Proofs.YtfaiponmjjbgoaaGreatDoor

/- Trees of prefixes as plain data: hanging, tidying, and what is above a prefix. No program in sight. -/
namespace Go.Proofs.YtfaiponmjjbgoaaGreatDoor

theorem holds_com {c p q : Pn} (h1 : c.holds p) (h2 : c.holds q) (hp : p.ok) (hq : q.ok) : c.holds (p.com q) :=
  holds_both h1 com_left (com_max h1 h2) (com_ok hp).2.1

theorem hang_wf {q : Pn} (hq : q.ok) {v : Int} {b1 b2 : Nat} {s : Tr} (hs : s.Wf) (hk : ∀ b p u h x y, s = .node b p u h x y → p = q ∨ ¬ p.holds q) :
    (hangT q v b1 b2 s).Wf ∧ ∀ c : Pn, c.ok → c.holds q → (∀ r ∈ s.pfx, c.holds r) → ∀ r ∈ (hangT q v b1 b2 s).pfx, c.holds r := by
  cases s with
  | nil =>
    refine ⟨⟨hq, by simp [Tr.pfx], by simp [Tr.pfx], trivial, trivial⟩, fun c _ hc _ r hr => ?_⟩
    simp [hangT, Tr.pfx] at hr
    subst hr; exact hc
  | node b p u h x y =>
    have hp : p.ok := hs.1
    have hin := wf_within rfl hs
    have hkk := hk b p u h x y rfl
    simp only [hangT]
    split
    · rename_i e
      subst e
      exact ⟨hs, fun c _ _ hall r hr => hall r hr⟩
    · rename_i hne
      have hno : ¬ p.holds q := by rcases hkk with e | e; exact absurd e hne; exact e
      split
      · rename_i hc
        have hqp : q.holds p := by rw [← hc]; exact com_left
        have hlt : q.l < p.l := by
          rcases Nat.lt_or_ge q.l p.l with h1 | h1
          · exact h1
          · exact absurd (holds_eq hqp (Nat.le_antisymm hqp.1 h1) hp).symm hne
        have hch := child_holds hqp hlt hp.2.1
        have hside : ∀ r ∈ (Tr.node b p u h x y).pfx, (q.child (bitN p.a q.l)).holds r := fun r hr => holds_trans hch (hin r hr) hp.2.1
        split
        · rename_i hb
          rw [hb] at hside
          refine ⟨⟨hq, hside, by simp [Tr.pfx], hs, trivial⟩, fun c _ hcq hall r hr => ?_⟩
          rw [Tr.pfx] at hr
          simp only [Tr.pfx, List.append_nil, List.mem_cons] at hr
          rcases hr with rfl | hr
          · exact hcq
          · exact hall r (by simpa [Tr.pfx] using hr)
        · rename_i hb
          have hb1 : bitN p.a q.l = 1 := by have := bit_lt p.a q.l; omega
          rw [hb1] at hside
          refine ⟨⟨hq, by simp [Tr.pfx], hside, trivial, hs⟩, fun c _ hcq hall r hr => ?_⟩
          rw [Tr.pfx] at hr
          simp only [Tr.pfx, List.cons_append, List.nil_append, List.mem_cons] at hr
          rcases hr with rfl | hr
          · exact hcq
          · exact hall r (by simpa [Tr.pfx] using hr)
      · rename_i hc
        have hcok := com_ok (p := p) (q := q) hp
        have c1 : (p.com q).holds p := com_left
        have c2 := com_right hp hq
        have l1 : (p.com q).l < p.l := by
          rcases Nat.lt_or_ge (p.com q).l p.l with h1 | h1
          · exact h1
          · have e := holds_eq c1 (Nat.le_antisymm c1.1 h1) hp
            rw [e] at c2; exact absurd c2 hno
        have l2 : (p.com q).l < q.l := by
          rcases Nat.lt_or_ge (p.com q).l q.l with h1 | h1
          · exact h1
          · exact absurd (holds_eq c2 (Nat.le_antisymm c2.1 h1) hq) hc
        have hbits := com_bits hp hq l1 l2
        have s1 := child_holds c1 l1 hp.2.1
        have s2 := child_holds c2 l2 hq.2.1
        have hside : ∀ r ∈ (Tr.node b p u h x y).pfx, ((p.com q).child (bitN p.a (p.com q).l)).holds r := fun r hr => holds_trans s1 (hin r hr) hp.2.1
        have hleaf : (Tr.node b1 q v true .nil .nil).Wf := ⟨hq, by simp [Tr.pfx], by simp [Tr.pfx], trivial, trivial⟩
        split
        · rename_i hb
          have hb1 : bitN p.a (p.com q).l = 1 := by have := bit_lt p.a (p.com q).l; omega
          rw [hb1] at hside
          rw [hb] at s2
          refine ⟨⟨hcok, fun r hr => ?_, hside, hleaf, hs⟩, fun c _ hcq hall r hr => ?_⟩
          · simp [Tr.pfx] at hr; subst hr; exact s2
          · rw [Tr.pfx] at hr
            simp only [Tr.pfx, List.append_nil, List.cons_append, List.nil_append, List.mem_cons] at hr
            have hcp := hall p (by simp [Tr.pfx])
            rcases hr with rfl | rfl | hr
            · exact holds_com hcp hcq hp hq
            · exact hcq
            · exact hall r (by simpa [Tr.pfx] using hr)
        · rename_i hb
          have hb1 : bitN q.a (p.com q).l = 1 := by have := bit_lt q.a (p.com q).l; omega
          have hb0 : bitN p.a (p.com q).l = 0 := by have := bit_lt p.a (p.com q).l; omega
          rw [hb0] at hside
          rw [hb1] at s2
          refine ⟨⟨hcok, hside, fun r hr => ?_, hs, hleaf⟩, fun c _ hcq hall r hr => ?_⟩
          · simp [Tr.pfx] at hr; subst hr; exact s2
          · rw [Tr.pfx] at hr
            have hcp := hall p (by simp [Tr.pfx])
            rcases List.mem_cons.1 hr with rfl | hr
            · exact holds_com hcp hcq hp hq
            · rcases List.mem_append.1 hr with hr | hr
              · exact hall r hr
              · simp [Tr.pfx] at hr; subst hr; exact hcq

/-- The tree with a prefix hung. -/
def insT (q : Pn) (v : Int) (b1 b2 : Nat) (t : Tr) : Tr := Tr.put q (hangT q v b1 b2 (t.look q)) t
theorem ins_all {q : Pn} (hq : q.ok) {v : Int} {b1 b2 : Nat} {t : Tr} (ht : t.Wf) (hn : ∀ u, (q, u) ∉ t.rows) :
    (insT q v b1 b2 t).Wf ∧ ∀ r : Pn × Int, r ∈ (insT q v b1 b2 t).rows ↔ r = (q, v) ∨ r ∈ t.rows := by
  have hs := look_wf (q := q) ht
  have hk : ∀ b p u h x y, t.look q = .node b p u h x y → p = q ∨ ¬ p.holds q := fun b p u h x y e => look_kind hq e
  have hnone : ∀ u, (q, u) ∉ (t.look q).rows := fun u hm => by
    rcases hl : t.look q with _ | ⟨b, p, w, h, x, y⟩
    · rw [hl] at hm; simp [Tr.rows] at hm
    · rw [hl] at hm hs
      rcases hk b p w h x y hl with e | e
      · subst e
        have hx : (p, u) ∉ x.rows := fun hm => absurd (child_strict (by omega) hs.1 (hs.2.1 _ (rows_pfx hm)) hq.2.1).2.1 (Nat.lt_irrefl _)
        have hy : (p, u) ∉ y.rows := fun hm => absurd (child_strict (by omega) hs.1 (hs.2.2.1 _ (rows_pfx hm)) hq.2.1).2.1 (Nat.lt_irrefl _)
        simp only [Tr.rows, List.mem_append, hx, hy, or_false] at hm
        cases h with
        | false => simp at hm
        | true =>
          simp at hm
          subst hm
          exact hn u ((look_mem hq ht u).2 ⟨b, x, y, hl⟩)
      · exact e ((wf_within rfl hs) q (rows_pfx hm))
  obtain ⟨w1, w2⟩ := hang_wf hq (v := v) (b1 := b1) (b2 := b2) hs hk
  have hr := hang_rows (v := v) (b1 := b1) (b2 := b2) hs hnone
  obtain ⟨p1, p2⟩ := put_rows hq (s := hangT q v b1 b2 (t.look q)) ht (fun r hm => by rcases (hr r).1 hm with e | e; exact .inl (by rw [e]); exact .inr e) (fun r hm _ => (hr r).2 (.inr hm))
  refine ⟨(put_wf hq w1 ht w2).1, fun r => ?_⟩
  by_cases e : r.1 = q
  · obtain ⟨r1, r2⟩ := r
    simp only at e
    subst e
    unfold insT
    rw [p2 r2, hr]
    constructor
    · rintro (h | h)
      · exact .inl h
      · exact absurd h (hnone r2)
    · rintro (h | h)
      · exact .inl h
      · exact absurd h (hn r2)
  · unfold insT
    rw [p1 r e]
    constructor
    · exact .inr
    · rintro (h | h)
      · exact absurd (by rw [h]) e
      · exact h

/-- The tree with another value, or none, of a prefix that has one. -/
def setT (q : Pn) (v : Int) (h : Bool) (t : Tr) : Tr := match t.look q with
  | .node b p _ _ x y => Tr.put q (.node b p v h x y) t
  | .nil => t
theorem set_all {q : Pn} (hq : q.ok) {v u : Int} {h : Bool} {t : Tr} (ht : t.Wf) (hm : (q, u) ∈ t.rows) :
    (setT q v h t).Wf ∧ ∀ r : Pn × Int, r ∈ (setT q v h t).rows ↔ (h = true ∧ r = (q, v)) ∨ (r.1 ≠ q ∧ r ∈ t.rows) := by
  obtain ⟨b, x, y, hl⟩ := (look_mem hq ht u).1 hm
  have hs := look_wf (q := q) ht
  rw [hl] at hs
  have e : setT q v h t = Tr.put q (.node b q v h x y) t := by simp [setT, hl]
  have hx : ∀ w, (q, w) ∉ x.rows := fun w hm => absurd (child_strict (by omega) hs.1 (hs.2.1 _ (rows_pfx hm)) hq.2.1).2.1 (Nat.lt_irrefl _)
  have hy : ∀ w, (q, w) ∉ y.rows := fun w hm => absurd (child_strict (by omega) hs.1 (hs.2.2.1 _ (rows_pfx hm)) hq.2.1).2.1 (Nat.lt_irrefl _)
  have hw : (Tr.node b q v h x y).Wf := hs
  obtain ⟨p1, p2⟩ := put_rows hq (s := .node b q v h x y) ht (fun r hr => by
      simp only [Tr.rows, List.mem_append] at hr
      rcases hr with (hr | hr) | hr
      · split at hr
        · simp at hr; left; rw [hr]
        · cases hr
      · right; rw [hl]; simp [Tr.rows, hr]
      · right; rw [hl]; simp [Tr.rows, hr]) (fun r hr hne => by
      rw [hl] at hr
      simp only [Tr.rows, List.mem_append] at hr ⊢
      rcases hr with (hr | hr) | hr
      · simp at hr; exact absurd (by rw [hr]) hne
      · exact .inl (.inr hr)
      · exact .inr hr)
  rw [e]
  refine ⟨(put_wf hq hw ht (fun c _ hc hall r hr => by rw [hl] at hall; exact hall r hr)).1, fun r => ?_⟩
  by_cases e1 : r.1 = q
  · obtain ⟨r1, r2⟩ := r
    simp only at e1
    subst e1
    rw [p2 r2]
    simp only [Tr.rows, List.mem_append, hx, hy, or_false]
    cases h <;> simp
  · rw [p1 r e1]
    constructor
    · exact fun h => .inr ⟨e1, h⟩
    · rintro (⟨_, h⟩ | ⟨_, h⟩)
      · exact absurd (by rw [h]) e1
      · exact h

/-- What stays where a node stands. -/
def keptT : Tr → Tr
  | .node b p v true x y => .node b p v true x y
  | .node _ _ _ false .nil y => y
  | .node _ _ _ false x .nil => x
  | t => t
theorem kept_rows (t : Tr) : (keptT t).rows = t.rows := by
  cases t with
  | nil => rfl
  | node b p v h x y =>
    cases h
    · cases x <;> cases y <;> simp [keptT, Tr.rows]
    · rfl
theorem kept_wf {t : Tr} (h : t.Wf) : (keptT t).Wf ∧ ∀ r ∈ (keptT t).pfx, r ∈ t.pfx := by
  cases t with
  | nil => exact ⟨trivial, fun _ h => h⟩
  | node b p v hh x y =>
    cases hh
    · cases x with
      | nil => exact ⟨h.2.2.2.2, fun r hr => by simp only [keptT] at hr; simp [Tr.pfx, hr]⟩
      | node b1 p1 v1 h1 x1 y1 =>
        cases y with
        | nil => exact ⟨h.2.2.2.1, fun r hr => by simp only [keptT] at hr; simp only [Tr.pfx, List.append_nil, List.mem_cons]; exact .inr (by simpa [Tr.pfx] using hr)⟩
        | node b2 p2 v2 h2 x2 y2 => exact ⟨h, fun _ h => h⟩
    · exact ⟨h, fun _ h => h⟩
def tidyT (q : Pn) : Tr → Tr
  | .nil => .nil
  | .node b p v h x y => if p.holds q then keptT (if p.l = q.l then .node b p v h x y else if bitN q.a p.l = 0 then .node b p v h (tidyT q x) y else .node b p v h x (tidyT q y)) else .node b p v h x y
theorem tidy_rows (q : Pn) : ∀ t : Tr, (tidyT q t).rows = t.rows
  | .nil => rfl
  | .node b p v h x y => by
    unfold tidyT
    split
    · rw [kept_rows]
      split
      · rfl
      · split
        · simp only [Tr.rows, tidy_rows q x]
        · simp only [Tr.rows, tidy_rows q y]
    · rfl
theorem tidy_wf (q : Pn) : ∀ {t : Tr}, t.Wf → (tidyT q t).Wf ∧ ∀ r ∈ (tidyT q t).pfx, r ∈ t.pfx
  | .nil, h => ⟨h, fun _ h => h⟩
  | .node b p v h x y, hw => by
    obtain ⟨hp, h0, h1, hx, hy⟩ := hw
    obtain ⟨x1, x2⟩ := tidy_wf q hx
    obtain ⟨y1, y2⟩ := tidy_wf q hy
    have wx : (Tr.node b p v h (tidyT q x) y).Wf := ⟨hp, fun r hr => h0 r (x2 r hr), h1, x1, hy⟩
    have wy : (Tr.node b p v h x (tidyT q y)).Wf := ⟨hp, h0, fun r hr => h1 r (y2 r hr), hx, y1⟩
    have mx : ∀ r ∈ (Tr.node b p v h (tidyT q x) y).pfx, r ∈ (Tr.node b p v h x y).pfx := fun r hr => by
      simp only [Tr.pfx, List.cons_append, List.mem_cons, List.mem_append] at hr ⊢
      rcases hr with hr | hr | hr
      · exact .inl hr
      · exact .inr (.inl (x2 r hr))
      · exact .inr (.inr hr)
    have my : ∀ r ∈ (Tr.node b p v h x (tidyT q y)).pfx, r ∈ (Tr.node b p v h x y).pfx := fun r hr => by
      simp only [Tr.pfx, List.cons_append, List.mem_cons, List.mem_append] at hr ⊢
      rcases hr with hr | hr | hr
      · exact .inl hr
      · exact .inr (.inl hr)
      · exact .inr (.inr (y2 r hr))
    unfold tidyT
    split
    · split
      · exact kept_wf ⟨hp, h0, h1, hx, hy⟩
      · split
        · exact ⟨(kept_wf wx).1, fun r hr => mx r ((kept_wf wx).2 r hr)⟩
        · exact ⟨(kept_wf wy).1, fun r hr => my r ((kept_wf wy).2 r hr)⟩
    · exact ⟨⟨hp, h0, h1, hx, hy⟩, fun _ h => h⟩

/-- The rows of what a prefix is, or is within, from the top on. -/
def aboveT (q : Pn) : Tr → List (Pn × Int)
  | .nil => []
  | .node _ p v h x y => if p.holds q then (if h then [(p, v)] else []) ++ (if p.l = q.l then [] else if bitN q.a p.l = 0 then aboveT q x else aboveT q y) else []
theorem above_all {q : Pn} (hq : q.ok) : ∀ {t : Tr}, t.Wf → aboveT q t = t.rows.filter (fun r => decide (r.1.holds q))
  | .nil, _ => rfl
  | .node b p v h x y, ⟨hp, h0, h1, hx, hy⟩ => by
    have none : ∀ {t : Tr}, (∀ r ∈ t.rows, ¬ r.1.holds q) → t.rows.filter (fun r => decide (r.1.holds q)) = [] := fun {t} h => by
      rw [List.filter_eq_nil_iff]; intro r hr; simpa using h r hr
    have self : (if h then [(p, v)] else []).filter (fun r : Pn × Int => decide (r.1.holds q)) = if p.holds q then (if h then [(p, v)] else []) else [] := by
      cases h <;> simp [List.filter_cons]
    simp only [aboveT, Tr.rows, List.filter_append, self]
    by_cases hh : p.holds q
    · by_cases hl : p.l = q.l
      · have nx : ∀ r ∈ x.rows, ¬ r.1.holds q := fun r hr hc => by
          have := (child_strict (by omega) hp (h0 _ (rows_pfx hr)) (pfx_ok hx _ (rows_pfx hr)).2.1).2.1
          have := hc.1; omega
        have ny : ∀ r ∈ y.rows, ¬ r.1.holds q := fun r hr hc => by
          have := (child_strict (by omega) hp (h1 _ (rows_pfx hr)) (pfx_ok hy _ (rows_pfx hr)).2.1).2.1
          have := hc.1; omega
        rw [none nx, none ny]
        simp [hh, hl]
      · have hlt : p.l < q.l := Nat.lt_of_le_of_ne hh.1 hl
        have bitof : ∀ {r : Pn} {i : Nat}, i < 2 → (p.child i).holds r → r.ok → r.holds q → bitN q.a p.l = i := fun {r i} hi hc hr hrq => by
          exact (child_strict hi hp (holds_trans hc hrq hr.2.1) hq.2.1).2.2
        rcases bit_cases q.a p.l with hb | hb
        · have ny : ∀ r ∈ y.rows, ¬ r.1.holds q := fun r hr hc => by
            have := bitof (by omega) (h1 _ (rows_pfx hr)) (pfx_ok hy _ (rows_pfx hr)) hc; omega
          rw [none ny, ← above_all hq hx]
          simp [hh, hl, hb]
        · have hb0 : ¬ bitN q.a p.l = 0 := by omega
          have nx : ∀ r ∈ x.rows, ¬ r.1.holds q := fun r hr hc => by
            have := bitof (by omega) (h0 _ (rows_pfx hr)) (pfx_ok hx _ (rows_pfx hr)) hc; omega
          rw [none nx, ← above_all hq hy]
          simp [hh, hl, hb0]
    · have nx : ∀ r ∈ x.rows, ¬ r.1.holds q := fun r hr hc => hh (holds_trans (child_strict (by omega) hp (h0 _ (rows_pfx hr)) (pfx_ok hx _ (rows_pfx hr)).2.1).1 hc (pfx_ok hx _ (rows_pfx hr)).2.1)
      have ny : ∀ r ∈ y.rows, ¬ r.1.holds q := fun r hr hc => hh (holds_trans (child_strict (by omega) hp (h1 _ (rows_pfx hr)) (pfx_ok hy _ (rows_pfx hr)).2.1).1 hc (pfx_ok hy _ (rows_pfx hr)).2.1)
      rw [none nx, none ny]
      simp [hh]
end Go.Proofs.YtfaiponmjjbgoaaGreatDoor

/- Trees of prefixes in memory: nodes in blocks, places, and a store at a place. -/
namespace Go.Proofs.YtfaiponmjjbgoaaGreatDoor
open Go.RowKit

def Tr.ptr : Tr → Value
  | .nil => .pointer none
  | .node b _ _ _ _ _ => .pointer (some ⟨b, 0, none⟩)
def TM (w : World) : Tr → Prop
  | .nil => True
  | .node b p v h x y => Blk w b 106 #[.int .u32 p.a, .int .i64 p.l, .int .i64 v, .bool h, x.ptr, y.ptr] ∧ TM w x ∧ TM w y

theorem TM.only {bs : List Nat} {w w' : World} (k : Only bs w w') : ∀ {t : Tr}, TM w t → (∀ b ∈ t.bs, b ∉ bs) → TM w' t
  | .nil, _, _ => trivial
  | .node b p v h x y, ⟨h0, hx, hy⟩, hb => ⟨h0.only k (hb b (by simp [Tr.bs])), TM.only k hx (fun c hc => hb c (by simp [Tr.bs, hc])), TM.only k hy (fun c hc => hb c (by simp [Tr.bs, hc]))⟩
theorem TM.keep {w w' : World} {t : Tr} (h : TM w t) (k : Kp w w') : TM w' t := TM.only (bs := []) (Only.of_kp k) h (fun _ _ => by simp)
theorem TM.lt {w : World} : ∀ {t : Tr}, TM w t → ∀ b ∈ t.bs, b < w.heap.size
  | .node b p v h x y, ⟨h0, hx, hy⟩, c, hc => by
    simp only [Tr.bs, List.cons_append, List.mem_cons, List.mem_append] at hc
    rcases hc with rfl | hc | hc
    · exact h0.lt
    · exact TM.lt hx c hc
    · exact TM.lt hy c hc

/-- Where the tree at a prefix's place hangs: a block and an offset. -/
def Tr.place (q : Pn) (A : Nat × Nat) : Tr → Nat × Nat
  | .nil => A
  | .node b p _ _ x y => if p.holds q then (if p.l = q.l then A else if bitN q.a p.l = 0 then Tr.place q (b, 4) x else Tr.place q (b, 5) y) else A
/-- The blocks beside the tree at a prefix's place. -/
def Tr.beside (q : Pn) : Tr → List Nat
  | .nil => []
  | .node b p _ _ x y => if p.holds q then (if p.l = q.l then [] else if bitN q.a p.l = 0 then b :: (Tr.beside q x ++ y.bs) else b :: (x.bs ++ Tr.beside q y)) else []
theorem beside_look (q : Pn) : ∀ t : Tr, t.bs.Perm (Tr.beside q t ++ (t.look q).bs)
  | .nil => by simp [Tr.bs, Tr.beside, Tr.look]
  | .node b p v h x y => by
    simp only [Tr.beside, Tr.look]
    split
    · split
      · simp
      · split
        · simp only [Tr.bs, List.cons_append]
          refine List.Perm.cons _ ?_
          refine ((beside_look q x).append_right _).trans ?_
          rw [List.append_assoc, List.append_assoc]
          exact List.Perm.append_left _ List.perm_append_comm
        · simp only [Tr.bs, List.cons_append]
          refine List.Perm.cons _ ?_
          rw [List.append_assoc]
          exact List.Perm.append_left _ (beside_look q y)
    · simp
theorem beside_put (q : Pn) (s : Tr) : ∀ t : Tr, (Tr.put q s t).bs.Perm (Tr.beside q t ++ s.bs)
  | .nil => by simp [Tr.beside, Tr.put]
  | .node b p v h x y => by
    simp only [Tr.beside, Tr.put]
    split
    · split
      · simp
      · split
        · simp only [Tr.bs, List.cons_append]
          refine List.Perm.cons _ ?_
          refine ((beside_put q s x).append_right _).trans ?_
          rw [List.append_assoc, List.append_assoc]
          exact List.Perm.append_left _ List.perm_append_comm
        · simp only [Tr.bs, List.cons_append]
          refine List.Perm.cons _ ?_
          rw [List.append_assoc]
          exact List.Perm.append_left _ (beside_put q s y)
    · simp
theorem place_in (q : Pn) : ∀ (t : Tr) (A : Nat × Nat), Tr.place q A t = A ∨ (Tr.place q A t).1 ∈ Tr.beside q t
  | .nil, A => .inl rfl
  | .node b p v h x y, A => by
    simp only [Tr.place, Tr.beside]
    split
    · split
      · exact .inl rfl
      · split
        · rcases place_in q x (b, 4) with e | e
          · right; rw [e]; simp
          · right; simp [e]
        · rcases place_in q y (b, 5) with e | e
          · right; rw [e]; simp
          · right; simp [e]
    · exact .inl rfl
theorem look_TM {w : World} {q : Pn} : ∀ {t : Tr}, TM w t → TM w (t.look q)
  | .nil, h => h
  | .node b p v hh x y, h => by
    unfold Tr.look
    split
    · split
      · exact h
      · split
        · exact look_TM h.2.1
        · exact look_TM h.2.2
    · exact h

/-- What lies at a place is the tree that hangs there. -/
theorem place_cell {w : World} {q : Pn} : ∀ {t : Tr} {A : Nat × Nat}, TM w t → w.cell? ⟨A.1, A.2, none⟩ = some t.ptr → w.cell? ⟨(Tr.place q A t).1, (Tr.place q A t).2, none⟩ = some (t.look q).ptr
  | .nil, A, _, h => h
  | .node b p v hh x y, A, ⟨h0, hx, hy⟩, h => by
    simp only [Tr.place, Tr.look]
    split
    · split
      · exact h
      · split
        · exact place_cell hx (h0.cell 4)
        · exact place_cell hy (h0.cell 5)
    · exact h

/-- A store at a prefix's place hangs another tree there. -/
theorem put_TM {w : World} {q : Pn} {s : Tr} : ∀ {t : Tr} {A : Nat × Nat}, TM w t → A.1 ∉ t.bs → t.bs.Nodup → TM w s → (Tr.place q A t).1 ∉ s.bs →
    TM (w.setCell ⟨(Tr.place q A t).1, (Tr.place q A t).2, none⟩ s.ptr) (Tr.put q s t) ∧ ((Tr.place q A t = A ∧ Tr.put q s t = s) ∨ ((Tr.place q A t).1 ∈ t.bs ∧ (Tr.put q s t).ptr = t.ptr))
  | .nil, A, _, _, _, hs, hn => ⟨TM.only (bs := [A.1]) ((Only.refl _ _).setCell (.inl (by simp [Tr.place])) _) hs (fun b hb => by simp [Tr.place] at hn ⊢; intro e; subst e; exact hn hb), .inl ⟨rfl, rfl⟩⟩
  | .node b p v h x y, A, ⟨h0, hx, hy⟩, hA, hnd, hs, hn => by
    have hb : b ∉ x.bs ∧ b ∉ y.bs ∧ x.bs.Nodup ∧ y.bs.Nodup ∧ ∀ c ∈ x.bs, c ∉ y.bs := by
      simp only [Tr.bs, List.cons_append, List.nodup_cons, List.mem_append, not_or, List.nodup_append] at hnd
      refine ⟨hnd.1.1, hnd.1.2, hnd.2.1, hnd.2.2.1, fun c hc hc' => hnd.2.2.2 c hc c hc' rfl⟩
    have top : ∀ B : Nat × Nat, B.1 ∉ s.bs → TM (w.setCell ⟨B.1, B.2, none⟩ s.ptr) s := fun B hB =>
      TM.only (bs := [B.1]) ((Only.refl _ _).setCell (.inl (by simp)) _) hs (fun c hc => by simp; intro e; subst e; exact hB hc)
    unfold Tr.put
    by_cases hh : p.holds q
    · by_cases hl : p.l = q.l
      · simp only [Tr.place, hh, hl, if_true] at hn ⊢
        exact ⟨top A hn, .inl ⟨trivial, trivial⟩⟩
      · by_cases hbit : bitN q.a p.l = 0
        · simp only [Tr.place, hh, hl, hbit, if_true, if_false] at hn ⊢
          obtain ⟨i1, i2⟩ := put_TM (A := (b, 4)) hx hb.1 hb.2.2.1 hs hn
          have hin : (Tr.place q (b, 4) x).1 = b ∨ (Tr.place q (b, 4) x).1 ∈ x.bs := by
            rcases i2 with ⟨e, _⟩ | ⟨e, _⟩
            · left; rw [e]
            · exact .inr e
          have hy' : TM (w.setCell ⟨(Tr.place q (b, 4) x).1, (Tr.place q (b, 4) x).2, none⟩ s.ptr) y :=
            TM.only (bs := [(Tr.place q (b, 4) x).1]) ((Only.refl _ _).setCell (.inl (by simp)) _) hy (fun c hc => by
              simp only [List.mem_singleton]
              intro e; subst e
              rcases hin with e | e
              · rw [e] at hc; exact hb.2.1 hc
              · exact hb.2.2.2.2 _ e hc)
          refine ⟨⟨?_, i1, hy'⟩, .inr ⟨?_, rfl⟩⟩
          · rcases i2 with ⟨e, e2⟩ | ⟨e, e2⟩
            · rw [e, e2]
              exact h0.set_ 4 s.ptr
            · rw [e2]
              exact h0.far (by simp only; intro e'; rw [← e'] at e; exact hb.1 e) _
          · rcases hin with e | e
            · rw [e]; simp [Tr.bs]
            · simp [Tr.bs, e]
        · simp only [Tr.place, hh, hl, hbit, if_true, if_false] at hn ⊢
          obtain ⟨i1, i2⟩ := put_TM (A := (b, 5)) hy hb.2.1 hb.2.2.2.1 hs hn
          have hin : (Tr.place q (b, 5) y).1 = b ∨ (Tr.place q (b, 5) y).1 ∈ y.bs := by
            rcases i2 with ⟨e, _⟩ | ⟨e, _⟩
            · left; rw [e]
            · exact .inr e
          have hx' : TM (w.setCell ⟨(Tr.place q (b, 5) y).1, (Tr.place q (b, 5) y).2, none⟩ s.ptr) x :=
            TM.only (bs := [(Tr.place q (b, 5) y).1]) ((Only.refl _ _).setCell (.inl (by simp)) _) hx (fun c hc => by
              simp only [List.mem_singleton]
              intro e; subst e
              rcases hin with e | e
              · rw [e] at hc; exact hb.1 hc
              · exact hb.2.2.2.2 _ hc e)
          refine ⟨⟨?_, hx', i1⟩, .inr ⟨?_, rfl⟩⟩
          · rcases i2 with ⟨e, e2⟩ | ⟨e, e2⟩
            · rw [e, e2]
              exact h0.set_ 5 s.ptr
            · rw [e2]
              exact h0.far (by simp only; intro e'; rw [← e'] at e; exact hb.2.1 e) _
          · rcases hin with e | e
            · rw [e]; simp [Tr.bs]
            · simp [Tr.bs, e]
    · simp only [Tr.place, hh, if_false] at hn ⊢
      exact ⟨top A hn, .inl ⟨trivial, trivial⟩⟩
end Go.Proofs.YtfaiponmjjbgoaaGreatDoor

/- Ranges over functions, in plain walks: an iterator's contract, the statement, a function's end behind it. No condition. -/
namespace Go.Proofs.YtfaiponmjjbgoaaGreatDoor
open Go.RowKit

/-- An iterator that hands over the rows xs 0 .. xs (N - 1), till its yield says no. M: what it reads. -/
def Iter (P : Program) (gf : FuncId) (caps : Array Value) (N : Nat) (xs : Nat → Array Value) (M : World → Prop) : Prop :=
  ∀ (l : Nat) (I Z : Nat → World → Prop) (W : World),
    (∀ k W W', I k W → Kp W W' → I k W') → (∀ k W W', Z k W → Kp W W' → Z k W') → (∀ k W, I k W → M W) →
    (∀ k W, k < N → I k W → ∃ fn tmps assign body, (Instr.yield l (xs k)).run P W = .ok (.round l fn tmps assign body) W ∧
      RoundIn Fence.wide 0 P l fn tmps assign body W (fun e W' => (e = .returned (.bool true) ∧ I (k + 1) W') ∨ (e = .returned (.bool false) ∧ Z (k + 1) W'))) →
    I 0 W → Calls P gf (#[.func (.yield l) #[] #[]] ++ caps) W (fun e W' => e = .returned (.tuple #[]) ∧ (I N W' ∨ ∃ k, 0 < k ∧ k ≤ N ∧ Z k W'))

def Kept2 (w W W' : World) : Prop := W'.heap[w.heap.size]? = W.heap[w.heap.size]? ∧ W'.heap[w.heap.size + 1]? = W.heap[w.heap.size + 1]?

/-- How a round's body may be left. -/
def rndPost (w : World) (I : Nat → World → Prop) (Ix : Code → Nat → World → Prop) (k : Nat) (W : World) : Exit → Act → World → Prop
  | .normal, _, W' => Kept2 w W W' ∧ I k W'
  | .ret, _, W' => Kept2 w W W' ∧ Ix .ret k W'
  | .exit id, _, W' => Kept2 w W W' ∧ Ix (.exit id) k W'
  | .goto t, _, W' => Kept2 w W W' ∧ Ix (.goto t) k W'
  | .panic _, _, _ => False
  | .outgrown, _, _ => False

theorem Only.putObj {bs : List Nat} {a w : World} (h : Only bs a w) {r : Nat} (hr : r ∈ bs) (o : Obj) : Only bs a (w.putObj r o) :=
  ⟨h.os, h.tape, h.output, by simpa using h.size, fun k hk hn => (World.putObj_heap_other (fun e => hn (by rw [e]; exact hr))).trans (h.block k hk hn)⟩

theorem wp_range {P : Program} {g : Operand} {ps : Array Tmp} {assign body : Code} {Q : Exit → Act → World → Prop} {a : Act} {w : World} {gf : FuncId} {caps : Array Value} {N : Nat} {xs : Nat → Array Value} {M : World → Prop}
    (hg : a.eval g = .func (.func gf) #[] caps) (eg : ∀ args w, (callFunc gf args).run P w = .ok (.enter gf args) w) (hit : Iter P gf caps N xs M) (hps : ∀ k, k < N → (xs k).size = ps.size)
    (I : Nat → World → Prop) (Ix : Code → Nat → World → Prop)
    (hI : ∀ k W W', I k W → Only [w.heap.size, w.heap.size + 1] W W' → I k W') (hIx : ∀ c k W W', Ix c k W → Only [w.heap.size, w.heap.size + 1] W W' → Ix c k W')
    (hM : ∀ k W, I k W → M W) (h0 : I 0 w)
    (hround : ∀ l k W, k < N → I k W → assign.wpIn (Fence.wide.inRound l) 0 P (Exit.then (fun a' W' => W = W' ∧ ∀ W2, I k W2 → w.heap.size + 1 < W2.heap.size → body.wpIn (Fence.wide.inRound l) 0 P (rndPost w I Ix (k + 1) W2) a' W2) (fun _ _ _ => False))
      { tmps := (ps.zip (xs k)).foldl (fun t (p, v) => t.setIfInBounds p v) a.tmps, defers := [] } W)
    (hdone : ∀ W, I N W → W.heap[w.heap.size]? = some (.deferred (some [])) → Q .normal { a with defers := { target := .collected w.heap.size, args := #[] } :: a.defers } W)
    (hstop : ∀ c k W, 0 < k → k ≤ N → Ix c k W → W.heap[w.heap.size]? = some (.deferred (some [])) → c.wp P Q { a with defers := { target := .collected w.heap.size, args := #[] } :: a.defers } W) :
    (Code.rangeFunc g ps assign body).wp P Q a w := by
  refine (wpIn_wide (n := 0)).1 (wpIn_rangeFunc ?_)
  intro fn hfn
  obtain ⟨rec, hrec⟩ : ∃ rec : LoopState → Option Code → Loop, rec = fun st pe => { state := st, pending := pe, fn, tmps := a.tmps, params := ps, assign, body, defers := w.heap.size } := ⟨_, rfl⟩
  obtain ⟨W1, hW1⟩ : ∃ W1, (w.alloc (.deferred (some []))).alloc (.loop (rec .ready none)) = W1 := ⟨_, rfl⟩
  have hL1 : W1.heap[w.heap.size + 1]? = some (.loop (rec .ready none)) := by
    rw [← hW1]; have := World.alloc_heap_new (w.alloc (.deferred (some []))) (.loop (rec .ready none)); rwa [World.size_alloc] at this
  have hK1 : W1.heap[w.heap.size]? = some (.deferred (some [])) := by
    rw [← hW1]; exact (Below.heap_alloc _ _ _ (by simp)).trans (World.alloc_heap_new w _)
  have hI1 : I 0 W1 := by rw [← hW1]; exact hI 0 _ _ h0 (((Only.refl _ _).alloc _).alloc _)
  refine ⟨w.heap.size + 1, [{ target := .collected w.heap.size, args := #[] }], W1, { target := .fn (.func gf) caps, args := #[.func (.yield (w.heap.size + 1)) #[] #[]] }, W1, gf,
    #[.func (.yield (w.heap.size + 1)) #[] #[]] ++ caps, W1, ?_, ?_, fun _ _ => trivial, ?_, (fun h => by cases h), callsIn_wide.2 ?_⟩
  · rw [← hW1, hrec]; exact run_enterLoop_outer _ _ _ _ _
  · simp only [resolve, hg]
    simp [go_sem]
  · simp [invoke, go_sem, eg]
  · refine (hit (w.heap.size + 1)
      (fun k W => I k W ∧ W.heap[w.heap.size + 1]? = some (.loop (rec .ready none)) ∧ W.heap[w.heap.size]? = some (.deferred (some [])))
      (fun k W => ∃ c, Ix c k W ∧ W.heap[w.heap.size + 1]? = some (.loop (rec .done (some c))) ∧ W.heap[w.heap.size]? = some (.deferred (some [])))
      W1 ?_ ?_ (fun k W h => hM k W h.1) ?_ ⟨hI1, hL1, hK1⟩).mono ?_
    · rintro k W W' ⟨h1, h2, h3⟩ hk
      exact ⟨hI k W W' h1 (Only.of_kp hk), (hk.heap (Array.getElem?_eq_some_iff.1 h2).1).trans h2, (hk.heap (Array.getElem?_eq_some_iff.1 h3).1).trans h3⟩
    · rintro k W W' ⟨c, h1, h2, h3⟩ hk
      exact ⟨c, hIx c k W W' h1 (Only.of_kp hk), (hk.heap (Array.getElem?_eq_some_iff.1 h2).1).trans h2, (hk.heap (Array.getElem?_eq_some_iff.1 h3).1).trans h3⟩
    · rintro k W hk ⟨hi, hl, hd⟩
      have hlt : w.heap.size + 1 < W.heap.size := (Array.getElem?_eq_some_iff.1 hl).1
      have hy := run_yield (P := P) (args := xs k) hl (by rw [hrec]; exact hps k hk)
      rw [hrec] at hy
      refine ⟨fn, _, assign, body, hy, roundIn_of_wpIn trivial (wpIn_mono (hround _ k W hk hi) ?_)⟩
      rintro e₀ a' W' hq
      rcases e₀ with _ | id | t | _ | ch | _
      rotate_left
      · exact hq.elim
      · exact hq.elim
      · exact hq.elim
      · exact hq.elim
      · exact hq.elim
      obtain ⟨rfl, hbody⟩ := hq
      refine ⟨_, run_beginRound hl (by rw [hrec]), ?_⟩
      have hl2 : (W.putObj (w.heap.size + 1) (.loop { rec .ready none with state := .busy })).heap[w.heap.size + 1]? = some (.loop { rec .ready none with state := .busy }) := World.putObj_heap_same hlt
      have hd2 : (W.putObj (w.heap.size + 1) (.loop { rec .ready none with state := .busy })).heap[w.heap.size]? = some (.deferred (some [])) := (World.putObj_heap_other (by omega)).trans hd
      have hi2 : I k (W.putObj (w.heap.size + 1) (.loop { rec .ready none with state := .busy })) := hI k _ _ hi ((Only.refl _ _).putObj (by simp) _)
      refine wpIn_mono (hbody _ hi2 (by simpa using hlt)) ?_
      have fin : ∀ (jump : Option Code) (W3 : World), Kept2 w (W.putObj (w.heap.size + 1) (.loop { rec .ready none with state := .busy })) W3 →
          (Instr.endRound (w.heap.size + 1) jump).run P W3 = .ok (.bool jump.isNone) (W3.putObj (w.heap.size + 1) (.loop (rec (if jump.isNone then .ready else .done) jump))) ∧
          (W3.putObj (w.heap.size + 1) (.loop (rec (if jump.isNone then .ready else .done) jump))).heap[w.heap.size + 1]? = some (.loop (rec (if jump.isNone then .ready else .done) jump)) ∧
          (W3.putObj (w.heap.size + 1) (.loop (rec (if jump.isNone then .ready else .done) jump))).heap[w.heap.size]? = some (.deferred (some [])) := fun jump W3 hk3 => by
        have hl3 := hk3.2.trans hl2
        have hd3 := hk3.1.trans hd2
        have := run_endRound (P := P) jump hl3
        rw [hrec] at this ⊢
        exact ⟨this, World.putObj_heap_same (Array.getElem?_eq_some_iff.1 hl3).1, (World.putObj_heap_other (by omega)).trans hd3⟩
      rintro e a3 W3 hp
      cases e with
      | normal =>
        obtain ⟨hr, hl4, hd4⟩ := fin none W3 hp.1
        exact ⟨_, _, hr, .inl ⟨rfl, hI _ _ _ hp.2 ((Only.refl _ _).putObj (by simp) _), hl4, hd4⟩⟩
      | ret =>
        obtain ⟨hr, hl4, hd4⟩ := fin (some .ret) W3 hp.1
        exact ⟨_, _, hr, .inr ⟨rfl, .ret, hIx _ _ _ _ hp.2 ((Only.refl _ _).putObj (by simp) _), hl4, hd4⟩⟩
      | exit id =>
        obtain ⟨hr, hl4, hd4⟩ := fin (some (.exit id)) W3 hp.1
        exact ⟨_, _, hr, .inr ⟨rfl, .exit id, hIx _ _ _ _ hp.2 ((Only.refl _ _).putObj (by simp) _), hl4, hd4⟩⟩
      | goto t =>
        obtain ⟨hr, hl4, hd4⟩ := fin (some (.goto t)) W3 hp.1
        exact ⟨_, _, hr, .inr ⟨rfl, .goto t, hIx _ _ _ _ hp.2 ((Only.refl _ _).putObj (by simp) _), hl4, hd4⟩⟩
      | panic ch => exact hp.elim
      | outgrown => exact hp.elim
    · rintro e W3 ⟨rfl, h | ⟨k, hk0, hkN, c, hix, hl, hd⟩⟩
      · obtain ⟨hi, hl, hd⟩ := h
        have hend := run_endLoop (P := P) hl (by rw [hrec]; simp)
        have hpn : (rec .ready none).pending = none := by rw [hrec]
        rw [hpn] at hend
        refine ⟨none, _, hend, ?_⟩
        exact hdone _ (hI _ _ _ hi ((Only.refl _ _).putObj (by simp) _)) ((World.putObj_heap_other (by omega)).trans hd)
      · have hend := run_endLoop (P := P) hl (by rw [hrec]; simp)
        have hpn : (rec .done (some c)).pending = some c := by rw [hrec]
        rw [hpn] at hend
        refine ⟨some c, _, hend, ?_⟩
        refine (wpIn_wide (n := 0)).2 (hstop c k _ hk0 hkN (hIx _ _ _ _ hix ((Only.refl _ _).putObj (by simp) _)) ((World.putObj_heap_other (by omega)).trans hd))

/-- The marks of loops over functions are taken off, one by one. -/
def Takes : List Deferred → World → (World → Prop) → Prop
  | [], w, K => K w
  | d :: ds, w, K => ∃ r, d.target = .collected r ∧ w.heap[r]? = some (.deferred (some [])) ∧ Takes ds (w.putObj r (.deferred none)) K

theorem takes_steps {P : Program} {K : World → Prop} : ∀ (ds : List Deferred) (fr : Frame) (cs : List Frame) (w : World), fr.mode = .returning → fr.defers = ds → Takes ds w K →
    ∃ w', K w' ∧ Steps P (lone fr cs w) (lone { fr with defers := [] } cs w')
  | [], fr, cs, w, _, hd, h => ⟨w, h, by
      have : ({ fr with defers := [] } : Frame) = fr := by cases fr; simp_all
      rw [this]; exact Steps.refl P _⟩
  | d :: ds, fr, cs, w, hm, hd, ⟨r, ht, hr, h⟩ => by
    obtain ⟨w', hK, hs⟩ := takes_steps ds { fr with defers := [] ++ ds } cs _ hm rfl h
    exact ⟨w', hK, Steps.head (step_collected (by rw [hm]; simp) hd ht (run_takeDeferred hr)) hs⟩

/-- A body's end, with marks among what is deferred. -/
def bodyPostM (P : Program) (fn : Func) (R : Ending → World → Prop) : Exit → Act → World → Prop
  | .normal, a, w | .ret, a, w => Takes a.defers w (fun w' => ∃ v, (results fn a.tmps).run P w' = .ok v w' ∧ R (.returned v) w')
  | .outgrown, _, w => R .outgrown w
  | _, _, _ => False

theorem calls_of_wp_marks {P : Program} {f : FuncId} {fn : Func} {c : Code} {args : Array Value} {w : World} {R : Ending → World → Prop}
    (hf : P.funcs[f]? = some fn) (hb : fn.body = some c)
    (h : c.wp P (bodyPostM P fn R) { tmps := args ++ Array.replicate (fn.ntmps - args.size) undef, defers := [] } w) : Calls P f args w R := by
  intro cs
  let b : Frame := { (default : Frame) with fn := f, kind := .normal }
  have henter : Frame.enter P f args .normal = b.at { tmps := args ++ Array.replicate (fn.ntmps - args.size) undef, defers := [] } [.code c] := by
    simp [Frame.enter, Frame.at, hf, hb, b]
  obtain ⟨e, a', w', hq, harr⟩ := h b [] cs
  rw [← henter] at harr
  cases e with
  | normal =>
    obtain ⟨w2, ⟨v, hr, hR⟩, hs⟩ := takes_steps (P := P) a'.defers { b.at a' [] with mode := .returning } cs w' rfl rfl hq
    exact ⟨.returned v, w2, _, hR, Steps.trans harr (.head step_end hs), rfl, rfl, rfl, rfl, fn, hf, hr⟩
  | ret =>
    obtain ⟨todo, hs0⟩ := harr
    obtain ⟨w2, ⟨v, hr, hR⟩, hs⟩ := takes_steps (P := P) a'.defers { b.at a' todo with mode := .returning } cs w' rfl rfl hq
    exact ⟨.returned v, w2, _, hR, Steps.trans hs0 hs, rfl, rfl, rfl, rfl, fn, hf, hr⟩
  | panic chain => exact hq.elim
  | exit id => exact hq.elim
  | goto l => exact hq.elim
  | outgrown => exact ⟨.outgrown, w', b, hq, harr.resolve_left (by simp [b]), rfl, trivial⟩
theorem noGoto_normal {Q : Exit → Act → World → Prop} {a : Act} {w : World} (h : Q .normal a w) : Exit.noGoto Q .normal a w := h
end Go.Proofs.YtfaiponmjjbgoaaGreatDoor

/- A range over a function whose body may leave it: both ends meet. No condition. -/
namespace Go.Proofs.YtfaiponmjjbgoaaGreatDoor
open Go.RowKit

theorem wp_range_join {P : Program} {g : Operand} {ps : Array Tmp} {assign body : Code} {id : Nat} {Q : Exit → Act → World → Prop} {a : Act} {w : World} {gf : FuncId} {caps : Array Value} {N : Nat} {xs : Nat → Array Value} {M : World → Prop}
    (hg : a.eval g = .func (.func gf) #[] caps) (eg : ∀ args w, (callFunc gf args).run P w = .ok (.enter gf args) w) (hit : Iter P gf caps N xs M) (hps : ∀ k, k < N → (xs k).size = ps.size)
    (I Z : Nat → World → Prop) (S : World → Prop)
    (hI : ∀ k W W', I k W → Only [w.heap.size, w.heap.size + 1] W W' → I k W') (hZ : ∀ k W W', Z k W → Only [w.heap.size, w.heap.size + 1] W W' → Z k W')
    (hM : ∀ k W, I k W → M W) (h0 : I 0 w)
    (hIS : ∀ W, I N W → S W) (hZS : ∀ k W, 0 < k → k ≤ N → Z k W → S W)
    (hround : ∀ l k W, k < N → I k W → assign.wpIn (Fence.wide.inRound l) 0 P (Exit.then (fun a' W' => W = W' ∧ ∀ W2, I k W2 → w.heap.size + 1 < W2.heap.size → body.wpIn (Fence.wide.inRound l) 0 P (rndPost w I (fun c k W => c = .exit id ∧ Z k W) (k + 1) W2) a' W2) (fun _ _ _ => False))
      { tmps := (ps.zip (xs k)).foldl (fun t (p, v) => t.setIfInBounds p v) a.tmps, defers := [] } W)
    (rest : ∀ W, S W → W.heap[w.heap.size]? = some (.deferred (some [])) → Q .normal { a with defers := { target := .collected w.heap.size, args := #[] } :: a.defers } W) :
    (Code.rangeFunc g ps assign body).wp P (Exit.inBlock id Q) a w := by
  refine wp_range hg eg hit hps I (fun c k W => c = .exit id ∧ Z k W) hI (fun c k W W' h hO => ⟨h.1, hZ k W W' h.2 hO⟩) hM h0 hround (fun W h hd => rest W (hIS W h) hd) ?_
  rintro c k W h1 h2 ⟨rfl, hz⟩ hd
  refine wp_exit ?_
  show (if id = id then Q .normal _ _ else Q (.exit id) _ _)
  rw [if_pos rfl]
  exact rest W (hZS k W h1 h2 hz) hd

theorem calls_round {P : Program} {f : FuncId} {args : Array Value} {w : World} {R : Ending → World → Prop} (l : Nat) (h : Calls P f args w R) : CallsIn (Fence.wide.inRound l) 0 P f args w R := CallsIn.inRound l (callsIn_wide.2 h)
end Go.Proofs.YtfaiponmjjbgoaaGreatDoor

/- A region that draws its order inside a fence, behind an operation that was met by hand: the rest only reads. No condition. -/
namespace Go.Proofs.YtfaiponmjjbgoaaGreatDoor
open Go.RowKit

theorem wpAnyIn_rest {F : Fence} {n : Nat} {P : Program} {Q : Exit → Act → World → Prop} {a : Act} {w : World} {fuel : Nat} {L : List Oper} {listed : Array Bool} (k : Nat) (hro : F.round = none) (hf : fuel = (L.drop k).length)
    (hs : Region.noSelect L.toArray = true) (hB : Region.lexFrom .any L.toArray (L.drop k).length k listed = true)
    (h : wpQuietIn F n P L.toArray (fun w' => ∃ n, w' = w.drewN n) (fun a' => ∀ w', (∃ n, w' = w.drewN n) → Q .normal a' w') (L.drop k) a) : wpAnyIn F n P .any L.toArray Q fuel listed a w := by
  subst hf
  refine wpAnyIn_of_quiet (C := fun w' => ∃ n, w' = w.drewN n) (Q := fun a' => ∀ w', (∃ n, w' = w.drewN n) → Q .normal a' w') hro (fun _ w' hw' h => h w' hw') _ _ _ _ ⟨0, rfl⟩ ?_
  exact wpAnyQIn_lex hs (L.drop k) k listed a (fun j => by simp) hB h
end Go.Proofs.YtfaiponmjjbgoaaGreatDoor
