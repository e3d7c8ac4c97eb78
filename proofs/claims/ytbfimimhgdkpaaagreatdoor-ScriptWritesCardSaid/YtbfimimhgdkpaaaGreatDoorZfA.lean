/- Lemmas and contracts for the theorem of this claim: Base, Rec, Law, Reg, NumL, AddrL, WordL, ScrL, ScA. -/
import Derived.WalkKit
import Derived.Handy
import Derived.WalkLawsBesides
import Derived.WalkSpells
import Derived.Lib.Hide
import Derived.Deep.QuietTactic
import Derived.BigQuiet
import Derived.Laws.EntriesVeiled
import Derived.Test.YtbfimimhgdkpaaaGreatDoorRows
import Derived.ProofKit
import Derived.Lib.SmallJoins
import Derived.Deep.Slices
import Derived.Deep.Fields
import Derived.ChangeSame
import Derived.StillTailTactics
import Derived.Deep.DeepCutAuto
import Derived.Deep.RegionHeld3
import Derived.Deep.AppendLies
import Derived.Lib.ItoaNum
import Derived.Lib.ItoaMem
import Derived.Lib.Atoi
import Derived.Lib.OthersKept
import Derived.Lib.Join
import Derived.Lib.Bytealg
import Derived.Lib.ParseIntBTie
import Derived.Test.YtbfimimhgdkpaaaGreatDoorProg
import Derived.Laws.StructEq
set_option linter.unusedSimpArgs false
set_option linter.unusedVariables false
/- Words that all texts of this claim share: worlds that only grew, slices that read as lists. No condition. -/
namespace Go.Proofs.YtbfimimhgdkpaaaGreatDoor
open Go.RowKit

/-- What was there stands as it stood. -/
def Kp (w w' : World) : Prop := Below w.heap.size w w'

theorem Kp.refl (w : World) : Kp w w := Below.refl _ _
theorem Kp.trans {a b c : World} (h : Kp a b) (k : Kp b c) : Kp a c := Below.trans h (Below.mono k h.size)
theorem Kp.size {a b : World} (h : Kp a b) : a.heap.size ≤ b.heap.size := Below.size h
theorem Kp.cell {w w' : World} (h : Kp w w') {p : Addr} {v : Value} (hc : w.cell? p = some v) : w'.cell? p = some v :=
  (Below.cell h (World.block_lt_of_cell? w p hc)).trans hc
theorem Kp.frozen {w w' : World} (h : Kp w w') {p : Addr} {v : Value} (hc : w.cell? p = some v) : w'.frozen? p = w.frozen? p :=
  Below.frozen h (World.block_lt_of_cell? w p hc)
theorem Kp.heap {w w' : World} (h : Kp w w') {k : Nat} (hk : k < w.heap.size) : w'.heap[k]? = w.heap[k]? := Below.block h k hk
theorem Kp.alloc {a w : World} (h : Kp a w) (o : Obj) : Kp a (w.alloc o) := Below.alloc h h.size o
theorem Kp.drew {a w : World} (h : Kp a w) : Kp a w.drew := Below.drew h
theorem Kp.drewN {a w : World} (h : Kp a w) (n : Nat) : Kp a (w.drewN n) := by
  have hh : Below a.heap.size a w := h
  exact ⟨hh.os, hh.tape, hh.output, hh.size, hh.block⟩
theorem Kp.setCell {a w : World} (h : Kp a w) {p : Addr} (hp : a.heap.size ≤ p.block) (u : Value) : Kp a (w.setCell p u) := Below.setCell h hp u
theorem Kp.grown {a w w' : World} {row : Option Nat} (h : Kp a w) (hg : w.grownBy w' row) (hr : ∀ k, row = some k → a.heap.size ≤ k) : Kp a w' := Below.grown h hg h.size hr

/-- The cells of a slice's elements: element i of xs lies, as its cells, at the slice's i-th place. -/
def Rd {α : Type} (w : World) (sz : Nat) (enc : α → List Value) (A : Option Addr) (xs : List α) : Prop :=
  ∀ (i : Nat) (h : i < xs.length), ∃ b off : Nat, A = some ⟨b, off, none⟩ ∧ ∀ (j : Nat) (u : Value), (enc (xs[i]'h))[j]? = some u → w.cell? ⟨b, off + i * sz + j, none⟩ = some u

section
variable {α : Type} {w w' : World} {sz : Nat} {enc : α → List Value} {A : Option Addr} {xs : List α}
theorem Rd.keep (h : Rd w sz enc A xs) (k : Kp w w') : Rd w' sz enc A xs := fun i hi => by
  obtain ⟨b, off, e, hc⟩ := h i hi
  exact ⟨b, off, e, fun j u hu => k.cell (hc j u hu)⟩
theorem Rd.nil (w : World) (sz : Nat) (enc : α → List Value) (A : Option Addr) : Rd w sz enc A [] := fun i hi => absurd hi (by simp)
end

/-- A slice type's element: its number, its zero, its cells, its bytes. -/
def ElemOf (P : Program) (t e : TypeId) (z : Value) (size bytes : Nat) : Prop :=
  P.underlying t = some (.slice e) ∧ (P.info? e).map (fun i => (i.zero, i.size, i.bytes)) = some (some z, size, bytes) ∧ z.cells.size = size ∧ 0 < size

theorem own_grown {w w1 : World} {o : Obj} {row : Option Nat} (hg : (w.alloc o).grownBy w1 row) : w.grownBy w1 row :=
  ⟨hg.os, hg.tape, hg.output, Nat.le_trans (by simp) hg.size, fun k hk hne => (hg.block k (by simp; omega) hne).trans (Below.heap_alloc w o k hk)⟩

/-- append of one element, which lies in a block just made, to a row of the call's own. -/
theorem wpList_app1 {P : Program} {t e e' : TypeId} {z : Value} {size bytes : Nat} (E : ElemOf P t e z size bytes) {w0 W : World} {ops : Array Oper} {rest : List Oper} {o : Oper} {a : Act} {Q : Exit → Act → World → Prop}
    (hgd : o.guard = none) (s x : Operand) (ho : o.op = .call { callee := .builtin .append, args := #[s, x], argTypes := #[t, t] })
    {base n : Nat} {v : Value} {xs news : List Value} (hs : a.eval s = v) (hown : W.ownsRow base e size v n xs) (hK : Kp w0 W) (hb : w0.heap.size ≤ base) (hbase : base ≤ W.heap.size)
    {N : Nat} (hx : a.eval x = .slice (some ⟨N, 0, none⟩) 1 1) (hN : N = W.heap.size) (hl : news.length = size) (h1 : news.all (fun u => u.oneCell') = true) (hfit : (n + 1) * (bytes + 1) ≤ 140737488355328)
    (h : ∀ v' w', w'.ownsRow base e size v' (n + 1) (xs ++ news) → Kp w0 w' → W.grownBy w' v.ownBlock → wpList P ops Q rest (a.put o.dst v') w') : wpList P ops Q (o :: rest) a (W.alloc (.cells news.toArray e')) := by
  obtain ⟨ht, hinfo, hzs, hsz⟩ := E
  obtain ⟨i, hi, hz, hsize, hby⟩ := info_parts hinfo
  subst hN
  have hb2 : (n + 1) * (bytes + 1) = (n + 1) * bytes + (n + 1) := by rw [Nat.mul_add, Nat.mul_one]
  refine wpList_append_own _ hgd s x t ho base e i z size bytes ht hi hz hsize hby hzs hsz v n xs hs (hown.alloc _) ⟨W.heap.size, 0, none⟩ 1 1 news hx (by omega) ?_ (by simpa using h1) (by simp only [maxLen]; omega) (by omega) (by simp; omega) ?_
  · intro j u hu
    have hadd : (⟨W.heap.size, 0, none⟩ : Addr).add j = ⟨W.heap.size, j, none⟩ := by unfold Addr.add; split <;> simp_all
    rw [hadd, World.cell?_alloc_at _ _ _ _ rfl]
    simpa using hu
  · intro v' w' ho' hg _
    exact h v' w' ho' (hK.grown (own_grown hg) (fun k hk => Nat.le_trans hb (hown.lt k hk).1)) (own_grown hg)

theorem flat_len {α : Type} {sz : Nat} {enc : α → List Value} (henc : ∀ x, (enc x).length = sz) (xs : List α) : (xs.flatMap enc).length = xs.length * sz := by
  induction xs with
  | nil => simp
  | cons y ys ih => simp only [List.flatMap_cons, List.length_append, List.length_cons, ih, henc, Nat.add_mul]; omega

theorem Rd.of_own {α : Type} {w : World} {base e sz : Nat} {enc : α → List Value} {A : Option Addr} {n c : Nat} {xs : List α} (hs : 0 < sz) (henc : ∀ x, (enc x).length = sz)
    (h : w.ownsRow base e sz (.slice A n c) n (xs.flatMap enc)) : Rd w sz enc A xs := by
  intro i hi
  have hlen : (xs.flatMap enc).length = xs.length * sz := flat_len henc xs
  have hget : ∀ (xs : List α) (i : Nat) (hi : i < xs.length) (j : Nat) (u : Value), (enc (xs[i]'hi))[j]? = some u → (xs.flatMap enc)[i * sz + j]? = some u := by
    intro xs
    induction xs with
    | nil => intro i hi; simp at hi
    | cons y ys ih =>
      intro i hi j u hu
      rw [List.flatMap_cons]
      cases i with
      | zero =>
        simp only [List.getElem_cons_zero] at hu
        have hj : j < (enc y).length := (List.getElem?_eq_some_iff.1 hu).1
        rw [Nat.zero_mul, Nat.zero_add, List.getElem?_append_left hj]
        exact hu
      | succ i =>
        simp only [List.getElem_cons_succ] at hu
        rw [List.getElem?_append_right (by rw [henc, Nat.add_mul]; omega), henc]
        have e : (i + 1) * sz + j - sz = i * sz + j := by rw [Nat.add_mul]; omega
        rw [e]
        exact ih i (by simpa using hi) j u hu
  rcases h.2 with ⟨hv, h0⟩ | ⟨g, cap, cur, hv, _⟩
  · have h1 := h.1
    subst h0
    rw [hlen] at h1
    rcases Nat.eq_zero_or_pos xs.length with hx | hx
    · omega
    · have := Nat.mul_pos hx hs; omega
  · have hA : A = some ⟨g, 0, none⟩ := by injection hv
    subst hA
    refine ⟨g, 0, rfl, fun j u hu => ?_⟩
    have := h.cells (g := g) rfl (i * sz + j) u (hget xs i hi j u hu)
    have hadd : (⟨g, 0, none⟩ : Addr).add (i * sz + j) = ⟨g, 0 + i * sz + j, none⟩ := by unfold Addr.add; split <;> simp_all
    rw [hadd] at this
    exact this

/-- A row of the call's own that reads as a list. -/
def Own {α : Type} (w : World) (base e sz : Nat) (enc : α → List Value) (v : Value) (xs : List α) : Prop := w.ownsRow base e sz v xs.length (xs.flatMap enc)

section
variable {α : Type} {w w' : World} {base e sz : Nat} {enc : α → List Value} {v : Value} {xs : List α}
theorem Own.nil (w : World) (base e sz : Nat) (enc : α → List Value) : Own w base e sz enc (.slice none 0 0) [] := World.ownsRow_nil _ _ _ _
theorem Own.alloc (h : Own w base e sz enc v xs) (o : Obj) : Own (w.alloc o) base e sz enc v xs := World.ownsRow.alloc h o
theorem Own.drew (h : Own w base e sz enc v xs) : Own w.drew base e sz enc v xs := h
theorem Own.drewN (h : Own w base e sz enc v xs) (n : Nat) : Own (w.drewN n) base e sz enc v xs := h
theorem Own.mono {base' : Nat} (h : Own w base e sz enc v xs) (hb : base' ≤ base) : Own w base' e sz enc v xs := by
  refine ⟨h.1, ?_⟩
  rcases h.2 with h2 | ⟨g, cap, cur, hv, hg, r⟩
  · exact .inl h2
  · exact .inr ⟨g, cap, cur, hv, Nat.le_trans hb hg, r⟩
theorem Own.keep (h : Own w base e sz enc v xs) (k : Kp w w') : Own w' base e sz enc v xs := by
  refine ⟨h.1, ?_⟩
  rcases h.2 with h2 | ⟨g, cap, cur, hv, hg, hh, r⟩
  · exact .inl h2
  · exact .inr ⟨g, cap, cur, hv, hg, (k.heap (Array.getElem?_eq_some_iff.1 hh).1).trans hh, r⟩
theorem Own.form (h : Own w base e sz enc v xs) : ∃ A c, v = .slice A xs.length c := by
  rcases h.2 with ⟨rfl, h0⟩ | ⟨g, cap, cur, rfl, _⟩
  · exact ⟨none, 0, by rw [h0]⟩
  · exact ⟨_, _, rfl⟩
theorem Own.rd (hs : 0 < sz) (henc : ∀ x, (enc x).length = sz) (h : Own w base e sz enc v xs) : ∃ A c, v = .slice A xs.length c ∧ Rd w sz enc A xs := by
  obtain ⟨A, c, rfl⟩ := h.form
  exact ⟨A, c, rfl, Rd.of_own hs henc h⟩
end

/-- append of one element, which lies in a block just made, to a row of the call's own. -/
theorem wpList_appx {α : Type} {enc : α → List Value} {P : Program} {t e e' : TypeId} {z : Value} {size bytes : Nat} (E : ElemOf P t e z size bytes) {w0 W : World} {ops : Array Oper} {rest : List Oper} {o : Oper} {a : Act} {Q : Exit → Act → World → Prop}
    (hgd : o.guard = none) (s x : Operand) (ho : o.op = .call { callee := .builtin .append, args := #[s, x], argTypes := #[t, t] })
    {base : Nat} {v : Value} {xs : List α} {news : List Value} (y : α) (hs : a.eval s = v) (hown : Own W base e size enc v xs) (hK : Kp w0 W) (hb : w0.heap.size ≤ base) (hbase : base ≤ W.heap.size)
    {N : Nat} (hx : a.eval x = .slice (some ⟨N, 0, none⟩) 1 1) (hN : N = W.heap.size) (hnews : news = enc y) (hl : news.length = size) (h1 : news.all (fun u => u.oneCell') = true) (hfit : (xs.length + 1) * (bytes + 1) ≤ 140737488355328)
    (h : ∀ v' w', Own w' base e size enc v' (xs ++ [y]) → Kp w0 w' → W.grownBy w' v.ownBlock → wpList P ops Q rest (a.put o.dst v') w') : wpList P ops Q (o :: rest) a (W.alloc (.cells news.toArray e')) := by
  refine wpList_app1 E hgd s x ho hs hown hK hb hbase hx hN hl h1 hfit (fun v' w' ho' hk hg => h v' w' ?_ hk hg)
  unfold Own
  rw [List.length_append, List.flatMap_append, List.length_singleton, List.flatMap_cons, List.flatMap_nil, List.append_nil, ← hnews]
  exact ho'

def intE (x : Int) : List Value := [.int .i64 x]
theorem intE_len (x : Int) : (intE x).length = 1 := rfl
theorem int_at {w : World} {A : Option Addr} {xs : List Int} (h : Rd w 1 intE A xs) {k : Nat} (hk : k < xs.length) :
    ∃ b off : Nat, A = some ⟨b, off, none⟩ ∧ w.cell? ⟨b, off + k, none⟩ = some (.int .i64 xs[k]) := by
  obtain ⟨b, off, e, hc⟩ := h k hk
  exact ⟨b, off, e, by simpa using hc 0 _ rfl⟩

/-- A scope with one label, to which the run jumps forward or not at all. -/
theorem wp_scope_fwd {P : Program} {a : Act} {w : World} {Q : Exit → Act → World → Prop} {c rest : Code} (l : Nat) (hf : findLabel c l = some rest)
    (first : c.wp P (Exit.jump l (fun a w => rest.wp P (Exit.noGoto Q) a w) Q) a w) : (Code.scope c).wp P Q a w := by
  refine wp_scope_jumps l (fun a w => rest.wp P (Exit.noGoto Q) a w) (fun _ _ => 0) hf first (fun a w h => Code.wp_mono (fun e a w q => ?_) h)
  cases e <;> first | exact q | exact q.elim
theorem jump_ret {l : Nat} {J : Act → World → Prop} {Q : Exit → Act → World → Prop} {a : Act} {w : World} (h : Q .ret a w) : Exit.jump l J Q .ret a w := h
theorem jump_goto {l : Nat} {J : Act → World → Prop} {Q : Exit → Act → World → Prop} {a : Act} {w : World} (h : J a w) : Exit.jump l J Q (.goto l) a w := ⟨rfl, h⟩
theorem noGoto_ret {Q : Exit → Act → World → Prop} {a : Act} {w : World} (h : Q .ret a w) : Exit.noGoto Q .ret a w := h
end Go.Proofs.YtbfimimhgdkpaaaGreatDoor

/- A deferred closure that recovers first: its call as a plain walk behind the recover. No condition. -/
namespace Go.Proofs.YtbfimimhgdkpaaaGreatDoor
open Go.RowKit

/-- What recover hands back in a frame's mode, and the mode behind it. -/
def recM : FrameMode → Value × FrameMode
  | .panicking ({ v, recovered := false, goexit := false } :: older) => (v, .panicking ({ v, recovered := true } :: older))
  | m => (.nilIface, m)

theorem recoverD_recM (c : Frame) (cs : List Frame) : recoverD (c :: cs) = some ((recM c.mode).1, { c with mode := (recM c.mode).2 } :: cs) ∨ (recoverD (c :: cs) = none ∧ recM c.mode = (.nilIface, c.mode)) := by
  cases hm : c.mode with
  | run => right; simp [recoverD, recM, hm]
  | returning => right; simp [recoverD, recM, hm]
  | panicking chain =>
    rcases chain with _ | ⟨⟨v, r, g⟩, older⟩
    · right; simp [recoverD, recM, hm]
    · cases r <;> cases g <;> simp [recoverD, recM, hm]

theorem bodyPostS_of {P : Program} {fn : Func} {c₀ : Frame} {cs : List Frame} {R : Ending → FrameMode → World → Prop} {u' : FrameMode} {e : Exit} {a : Act} {w : World}
    (h : bodyPost P fn (fun e w => R e u' w) e a w) : bodyPostS P fn c₀ cs R e a ({ c₀ with mode := u' } :: cs) w := by
  cases e with
  | normal => obtain ⟨hd, v, hr, hR⟩ := h; exact ⟨hd, u', rfl, v, hr, hR⟩
  | ret => obtain ⟨hd, v, hr, hR⟩ := h; exact ⟨hd, u', rfl, v, hr, hR⟩
  | panic chain => obtain ⟨hd, hR⟩ := h; exact ⟨hd, u', rfl, hR⟩
  | outgrown => exact ⟨u', h⟩
  | exit id => exact h.elim
  | goto l => exact h.elim

theorem wpS_region_rec {P : Program} {Q : Exit → Act → List Frame → World → Prop} {a : Act} {c : Frame} {cs : List Frame} {w : World} {id : Nat} {o : Oper} {rest : List Oper}
    (hg : o.guard = none) (hop : o.op = .call { callee := .builtin .recover, args := #[], argTypes := #[] })
    (h : wpList P (o :: rest).toArray (fun e a w => Q e a ({ c with mode := (recM c.mode).2 } :: cs) w) rest (a.put o.dst (recM c.mode).1) w) : (Code.region id (o :: rest).toArray false).wpS P Q a (c :: cs) w := by
  intro b k hb _
  have ho : ((o :: rest).toArray)[0]? = some o := by simp
  have hw : Region.wanted o (yielded (o :: rest).toArray a.tmps) = true := by simp [Region.wanted, hg]
  have hr : (execOp a.eval o).run P w = .ok .recover w := by simp [execOp, hop, resolve, invoke, builtin]
  have hl : wpOps P (o :: rest).toArray (fun e a w => Q e a ({ c with mode := (recM c.mode).2 } :: cs) w) (List.range' 1 rest.length) = wpList P (o :: rest).toArray (fun e a w => Q e a ({ c with mode := (recM c.mode).2 } :: cs) w) rest :=
    wpOps_eq_wpList rest 1 (fun j => by simp [Nat.add_comm 1 j])
  rw [← hl] at h
  obtain ⟨e, a', w', hq, harr⟩ := wp_ops _ _ _ h b k ({ c with mode := (recM c.mode).2 } :: cs)
  refine ⟨e, a', _, w', hq, .of_steps (.head step_region (.one ?_)) harr⟩
  have hrange : List.range ((o :: rest).toArray).size = 0 :: List.range' 1 rest.length := by
    rw [List.range_eq_range']; simp [List.range'_succ]
  rw [hrange]
  have hg' := stepG_op (P := P) (b := b) (k := k) (cs := c :: cs) (w := w) (rest := List.range' 1 rest.length) ho hw
  have hfin : ∀ v, (b.at a (.inRegion (o :: rest).toArray (0 :: List.range' 1 rest.length) :: k)).finish v = b.at (a.put o.dst v) (.inRegion (o :: rest).toArray (List.range' 1 rest.length) :: k) := by
    intro v; rw [Frame.finish_at, ho]; rfl
  have hk : (b.at a (.inRegion (o :: rest).toArray (0 :: List.range' 1 rest.length) :: k)).kind = .deferred := hb
  have htr := tryRecover_deferred hk (c :: cs)
  refine step_lone_go ?_
  rcases recoverD_recM c cs with hrec | ⟨hrec, hm⟩
  · rw [hg', ← hfin]
    simp only [Frame.at] at htr ⊢
    simp [stepG.apply, hr, htr, hrec]
  · have hc : ({ c with mode := (recM c.mode).2 } : Frame) = c := by rw [hm]
    rw [hc, hm, hg', ← hfin]
    simp only [Frame.at] at htr ⊢
    simp [stepG.apply, hr, htr, hrec]

theorem callsD_rec {P : Program} {f : FuncId} {fn : Func} {id : Nat} {o : Oper} {rest : List Oper} {y : Code} {args : Array Value} {u : FrameMode} {w : World} {R : Ending → FrameMode → World → Prop}
    (v : Value) (u' : FrameMode) (hm : recM u = (v, u'))
    (hf : P.funcs[f]? = some fn) (hb : fn.body = some (Code.seq (.region id (o :: rest).toArray false) y)) (hg : o.guard = none) (hop : o.op = .call { callee := .builtin .recover, args := #[], argTypes := #[] })
    (h : wpList P (o :: rest).toArray (Exit.then (y.wp P (bodyPost P fn (fun e w => R e u' w))) (bodyPost P fn (fun e w => R e u' w))) rest
      (Act.put { tmps := args ++ Array.replicate (fn.ntmps - args.size) undef, defers := [] } o.dst v) w) : CallsD P f args u w R := by
  refine callsD_of_wpS hf hb fun c₀ cs hu => ?_
  apply wpS_seq
  refine wpS_region_rec hg hop ?_
  subst hu
  rw [hm]
  have key : ∀ (l : List Oper) (a : Act) (w : World), wpList P (o :: rest).toArray (Exit.then (y.wp P (bodyPost P fn (fun e w => R e u' w))) (bodyPost P fn (fun e w => R e u' w))) l a w →
      wpList P (o :: rest).toArray (fun e a w => Exit.thenS (y.wpS P (bodyPostS P fn c₀ cs R)) (bodyPostS P fn c₀ cs R) e a ({ c₀ with mode := u' } :: cs) w) l a w := by
    intro l
    have hQ : ∀ e a w, (Exit.then (y.wp P (bodyPost P fn (fun e w => R e u' w))) (bodyPost P fn (fun e w => R e u' w))) e a w → Exit.thenS (y.wpS P (bodyPostS P fn c₀ cs R)) (bodyPostS P fn c₀ cs R) e a ({ c₀ with mode := u' } :: cs) w := by
      intro e a w hq
      cases e with
      | normal => exact wpS_of_wp (Code.wp_mono (fun e a w q => bodyPostS_of q) hq)
      | ret => exact bodyPostS_of (P := P) (fn := fn) (c₀ := c₀) (cs := cs) (R := R) (u' := u') (e := .ret) (a := a) (w := w) hq
      | panic ch => exact bodyPostS_of (P := P) (fn := fn) (c₀ := c₀) (cs := cs) (R := R) (u' := u') (e := .panic ch) (a := a) (w := w) hq
      | outgrown => exact bodyPostS_of (P := P) (fn := fn) (c₀ := c₀) (cs := cs) (R := R) (u' := u') (e := .outgrown) (a := a) (w := w) hq
      | exit id => exact bodyPostS_of (P := P) (fn := fn) (c₀ := c₀) (cs := cs) (R := R) (u' := u') (e := .exit id) (a := a) (w := w) hq
      | goto l => exact bodyPostS_of (P := P) (fn := fn) (c₀ := c₀) (cs := cs) (R := R) (u' := u') (e := .goto l) (a := a) (w := w) hq
    induction l with
    | nil => intro a w hh; exact hQ _ _ _ hh
    | cons o' l ih =>
      intro a w hh
      unfold wpList at hh ⊢
      split
      · rename_i hwn
        rw [if_pos hwn] at hh
        rcases hh with hh | ⟨ha, a₀, w₀, hq⟩
        · left
          unfold Oper.wp Oper.upon at hh ⊢
          split at hh
          · exact ih _ _ hh
          · exact ih _ _ hh
          · exact ih _ _ hh
          · refine hh.mono fun e w'' hr => ?_
            cases e with
            | returned v => exact ih _ _ hr
            | panicked ch => exact hQ _ _ _ hr
            | outgrown => obtain ⟨a₀, w₀, hq⟩ := hr; exact ⟨a₀, w₀, hQ _ _ _ hq⟩
          · exact hh.mono fun v w'' hr => ih _ _ hr
          · exact hQ _ _ _ hh
          · exact hh.elim
        · exact .inr ⟨ha, a₀, w₀, hQ _ _ _ hq⟩
      · rename_i hwn
        rw [if_neg hwn] at hh
        exact ih _ _ hh
  exact key _ _ _ h

/-- Only these blocks may have turned, and new ones have come. -/
structure Only (bs : List Nat) (w w' : World) : Prop where
  os : w'.os = w.os
  tape : w'.tape = w.tape
  output : w'.output = w.output
  size : w.heap.size ≤ w'.heap.size
  block : ∀ k, k < w.heap.size → k ∉ bs → w'.heap[k]? = w.heap[k]?

section
variable {bs : List Nat} {a w w' : World}
theorem Only.refl (bs : List Nat) (w : World) : Only bs w w := ⟨rfl, rfl, rfl, Nat.le_refl _, fun _ _ _ => rfl⟩
theorem Only.trans {b c : World} (h : Only bs a b) (k : Only bs b c) : Only bs a c :=
  ⟨k.os.trans h.os, k.tape.trans h.tape, k.output.trans h.output, Nat.le_trans h.size k.size, fun i hi hn => (k.block i (Nat.lt_of_lt_of_le hi h.size) hn).trans (h.block i hi hn)⟩
theorem Only.drew (h : Only bs a w) : Only bs a w.drew := ⟨h.os, h.tape, h.output, h.size, h.block⟩
theorem Only.drewN (h : Only bs a w) (n : Nat) : Only bs a (w.drewN n) := ⟨h.os, h.tape, h.output, h.size, h.block⟩
theorem Only.alloc (h : Only bs a w) (o : Obj) : Only bs a (w.alloc o) :=
  ⟨h.os, h.tape, h.output, Nat.le_trans h.size (by simp), fun k hk hn => (Below.heap_alloc w o k (Nat.lt_of_lt_of_le hk h.size)).trans (h.block k hk hn)⟩
theorem Only.setCell (h : Only bs a w) {p : Addr} (hp : p.block ∈ bs ∨ a.heap.size ≤ p.block) (u : Value) : Only bs a (w.setCell p u) :=
  ⟨h.os, h.tape, h.output, by simpa [World.setCell] using h.size, fun k hk hn => (Below.heap_setCell w p u k (by
    rintro rfl
    rcases hp with hp | hp
    · exact hn hp
    · omega)).trans (h.block k hk hn)⟩
theorem Only.of_kp (h : Kp w w') : Only bs w w' := ⟨Below.os h, Below.tape h, Below.output h, Below.size h, fun k hk _ => Below.block h k hk⟩
theorem Only.kp (h : Only bs w w') (hk : Kp a w) (hb : ∀ b ∈ bs, a.heap.size ≤ b) : Kp a w' :=
  Below.trans hk ⟨h.os, h.tape, h.output, h.size, fun k hk' => h.block k (Nat.lt_of_lt_of_le hk' hk.size) (fun hm => by have := hb k hm; omega)⟩
theorem Only.cell (h : Only bs w w') {p : Addr} {v : Value} (hc : w.cell? p = some v) (hp : p.block ∉ bs) : w'.cell? p = some v :=
  (World.cell?_of_block (w := w) (h.block p.block (World.block_lt_of_cell? w p hc) hp)).trans hc
theorem Only.heap (h : Only bs w w') {k : Nat} (hk : k < w.heap.size) (hn : k ∉ bs) : w'.heap[k]? = w.heap[k]? := h.block k hk hn
end

/-- A block that is known whole, none of it frozen. -/
def Blk (w : World) (g : Nat) (t : TypeId) (cs : Array Value) : Prop := w.heap[g]? = some (.cells cs t (0, 0))
section
variable {w w' : World} {g : Nat} {t : TypeId} {cs : Array Value}
theorem Blk.lt (h : Blk w g t cs) : g < w.heap.size := (Array.getElem?_eq_some_iff.1 h).1
theorem Blk.cell (h : Blk w g t cs) (i : Nat) : w.cell? ⟨g, i, none⟩ = cs[i]? := cell_of_row w g i cs t (0, 0) h
theorem Blk.frozen (h : Blk w g t cs) (i : Nat) : w.frozen? ⟨g, i, none⟩ = false := by
  unfold Blk at h; simp [World.frozen?, h]
theorem Blk.new (w : World) (t : TypeId) (cs : Array Value) : Blk (w.alloc (.cells cs t)) w.heap.size t cs := heap_alloc_new w _
theorem Blk.new1 (w : World) (o : Obj) (t : TypeId) (cs : Array Value) : Blk ((w.alloc o).alloc (.cells cs t)) (w.heap.size + 1) t cs := by simpa using Blk.new (w.alloc o) t cs
theorem Blk.new2 (w : World) (o o' : Obj) (t : TypeId) (cs : Array Value) : Blk (((w.alloc o).alloc o').alloc (.cells cs t)) (w.heap.size + 1 + 1) t cs := by simpa using Blk.new ((w.alloc o).alloc o') t cs
theorem Blk.new3 (w : World) (o o' o'' : Obj) (t : TypeId) (cs : Array Value) : Blk ((((w.alloc o).alloc o').alloc o'').alloc (.cells cs t)) (w.heap.size + 1 + 1 + 1) t cs := by simpa using Blk.new (((w.alloc o).alloc o').alloc o'') t cs
theorem Blk.drewN (h : Blk w g t cs) (n : Nat) : Blk (w.drewN n) g t cs := h
theorem Blk.drew (h : Blk w g t cs) : Blk w.drew g t cs := h
theorem Blk.alloc (h : Blk w g t cs) (o : Obj) : Blk (w.alloc o) g t cs := (Below.heap_alloc w o g h.lt).trans h
theorem Blk.keep (h : Blk w g t cs) (k : Kp w w') : Blk w' g t cs := (k.heap h.lt).trans h
theorem Blk.only {bs : List Nat} (h : Blk w g t cs) (k : Only bs w w') (hn : g ∉ bs) : Blk w' g t cs := (k.block g h.lt hn).trans h
theorem Blk.set_ (h : Blk w g t cs) (i : Nat) (u : Value) : Blk (w.setCell ⟨g, i, none⟩ u) g t (cs.setIfInBounds i u) := by
  unfold Blk at h ⊢
  simp [World.setCell, Array.getElem?_modify, h]
theorem Blk.far (h : Blk w g t cs) {p : Addr} (hp : g ≠ p.block) (u : Value) : Blk (w.setCell p u) g t cs := (Below.heap_setCell w p u g hp).trans h
theorem Kp.of_eq (h : w = w') : Kp w w' := h ▸ Kp.refl w
end

theorem Own.setBelow {α : Type} {w : World} {base e sz : Nat} {enc : α → List Value} {v : Value} {xs : List α} (h : Own w base e sz enc v xs) {p : Addr} (hp : p.block < base) (u : Value) : Own (w.setCell p u) base e sz enc v xs :=
  ownsRow_setCell_below h hp u
theorem Own.only {α : Type} {bs : List Nat} {w w' : World} {base e sz : Nat} {enc : α → List Value} {v : Value} {xs : List α} (h : Own w base e sz enc v xs) (k : Only bs w w') (hb : ∀ b ∈ bs, b < base) : Own w' base e sz enc v xs := by
  refine ⟨h.1, ?_⟩
  rcases h.2 with h2 | ⟨g, cap, cur, hv, hg, hh, r⟩
  · exact .inl h2
  · exact .inr ⟨g, cap, cur, hv, hg, (k.block g (Array.getElem?_eq_some_iff.1 hh).1 (fun hm => by have := hb g hm; omega)).trans hh, r⟩

theorem setCell_twice (w : World) (p : Addr) (a b : Value) : (w.setCell p a).setCell p b = w.setCell p b := by
  unfold World.setCell
  congr 1
  simp only
  apply Array.ext
  · simp
  · intro i h1 h2
    simp only [Array.size_modify] at h1 h2
    rw [Array.getElem_modify, Array.getElem_modify, Array.getElem_modify]
    split
    · cases hc : w.heap[i] with
      | cells c e f =>
        obtain ⟨lo, hi⟩ := f
        cases hs : p.spot <;> simp
      | _ => rfl
    · rfl

theorem Only.grown {bs : List Nat} {a w w' : World} {row : Option Nat} (h : Only bs a w) (hg : w.grownBy w' row) (hr : ∀ k, row = some k → a.heap.size ≤ k) : Only bs a w' :=
  ⟨hg.os.trans h.os, hg.tape.trans h.tape, hg.output.trans h.output, Nat.le_trans h.size hg.size, fun k hk hn =>
    (hg.block k (Nat.lt_of_lt_of_le hk h.size) (fun e => by have := hr k e.symm; omega)).trans (h.block k hk hn)⟩
theorem Blk.grown {w w' : World} {g : Nat} {t : TypeId} {cs : Array Value} {row : Option Nat} (h : Blk w g t cs) (hg : w.grownBy w' row) (hn : some g ≠ row) : Blk w' g t cs := (hg.block g h.lt hn).trans h
theorem Own.ne {α : Type} {w : World} {base e sz : Nat} {enc : α → List Value} {v : Value} {xs : List α} (h : Own w base e sz enc v xs) {g : Nat} (hg : g < base) : some g ≠ v.ownBlock := fun e => by
  have := (World.ownsRow.lt h g e.symm).1; omega
theorem Own.form1 {α : Type} {w : World} {base e sz : Nat} {enc : α → List Value} {v : Value} {xs : List α} {y : α} (h : Own w base e sz enc v (xs ++ [y])) : ∃ A c, v = .slice A (xs.length + 1) c := by
  obtain ⟨A, c, hv⟩ := h.form
  exact ⟨A, c, by rw [hv, List.length_append, List.length_singleton]⟩
theorem Rd.of_blk {α : Type} {w : World} {g sz : Nat} {t : TypeId} {cs : Array Value} {enc : α → List Value} {xs : List α} (hb : Blk w g t cs) (hs : 0 < sz) (henc : ∀ x, (enc x).length = sz) (hm : xs.length ≤ maxLen) (hl : cs.toList = xs.flatMap enc) : Rd w sz enc (some ⟨g, 0, none⟩) xs := by
  have hlen := flat_len henc xs
  refine Rd.of_own (base := 0) (e := t) (n := xs.length) (c := xs.length) hs henc ⟨hlen, .inr ⟨g, xs.length, cs, rfl, Nat.zero_le _, hb, Nat.le_refl _, hm, ?_, ?_⟩⟩
  · rw [← hlen, ← hl, Array.length_toList]
  · rw [← hlen, ← hl, List.take_length]
end Go.Proofs.YtbfimimhgdkpaaaGreatDoor

/- The row of a law: what its walk gives, closed as the row asks it. No condition. -/
namespace Go.Proofs.YtbfimimhgdkpaaaGreatDoor
open Go.ChangeShapes Go.WideShapes Go.ChangeAt Go.RowKit Go.Joins Go.Deep

theorem Tryz.own : ownKnob Tryz.prog.godebug = none := by kernel_rfl
theorem Tryz.laidOut : laidOutB Tryz.prog = true := by kernel_rfl

section
variable {H : Type} {enc : TypeId × Value → H}

theorem trodAll_kp {W W' : World} (hK : Kp W W') {sp : Nat → Bool} : ∀ {ts : List TypeId} {vs : List Value} {ds : List (DataW H)} {ps : List MemPlace},
    (∀ t ∈ ts, Tryz.prog.readableRec t = true ∧ t < Tryz.prog.types.size) → (∀ p ∈ ps, p.block < W.heap.size) → (∀ p ∈ ps, sp p.block = true) →
    DataW.TrodAll enc Tryz.prog W 0 (fun _ => true) true ts vs ds ps → DataW.TrodAll enc Tryz.prog W' 0 sp true ts vs ds ps
  | [], [], [], _, _, _, _, h => h
  | [], _ :: _, _, _, _, _, _, h => h.elim
  | [], [], _ :: _, _, _, _, _, h => h.elim
  | _ :: _, [], _, _, _, _, _, h => h.elim
  | _ :: _, _ :: _, [], _, _, _, _, h => h.elim
  | t :: ts, v :: vs, d :: ds, ps, hr, hlt, hsp, ⟨p, q, h1, h2, e⟩ => by
    subst e
    refine ⟨p, q, ?_, trodAll_kp hK (fun t ht => hr t (by simp [ht])) (fun x hx => hlt x (by simp [hx])) (fun x hx => hsp x (by simp [hx])) h2, rfl⟩
    exact WideElems.Trod_stays Tryz.laidOut (hr t (by simp)).1 (hr t (by simp)).2 h1 (fun x hx => Below.same hK (hlt x (by simp [hx]))) (fun x hx => hsp x (by simp [hx]))

set_option maxRecDepth 100000 in
/-- A law's walk has come to true, and what was there stands: the row's post. -/
theorem law_post {f : Func} {s : ChangeSpec} {apart fresh handsOn again : Bool} {W W' : World} {args : Array Value} {ds : List (DataW H)} {before : List MemPlace}
    (hW : DataW.Whole enc Tryz.prog f.params.toList s.vars apart W args.toList ds [] before) (hv : s.vars = []) (hres : f.resultTypes = #[4])
    (h1 : (s.fn H (ds ++ [])).results = [.lit (.bool true)]) (h2 : (s.fn H (ds ++ [])).args = ds) (h3 : (s.fn H (ds ++ [])).vars = [])
    (hr : ∀ t ∈ f.params.toList, Tryz.prog.readableRec t = true ∧ t < Tryz.prog.types.size) (hK : Kp W W') :
    s.post enc Tryz.prog f apart fresh handsOn again W args (.bool true) W' := by
  have hW' := hW
  obtain ⟨p, q, hA, hV, he, hz, hn⟩ := hW'
  rw [hv] at hV
  obtain ⟨_, rfl⟩ := trodVars_none hV
  rw [List.append_nil] at he
  obtain rfl : p = before := he.symm
  have hlt : ∀ x ∈ p, x.block < W.heap.size := fun x hx => hW.lt x (by simpa using hx)
  have hold : ∀ x ∈ p, (fun b => decide (b < W.heap.size)) x.block = true := fun x hx => by simpa using hlt x hx
  have hresults : ∀ (b : Nat) (sp : Nat → Bool) (hd : Bool), DataW.TrodAll enc Tryz.prog W' b sp hd f.resultTypes.toList ((Value.bool true).resultList f.resultTypes.size) (s.fn H (ds ++ [])).results [] := by
    intro b sp hd
    rw [hres, h1]
    exact trodAll_mk1 (shut_bool Tryz.underlying4 true)
  have hargs : ∀ sp : Nat → Bool, (∀ x ∈ p, sp x.block = true) → DataW.TrodAll enc Tryz.prog W' 0 sp true f.params.toList args.toList (s.fn H (ds ++ [])).args p := by
    intro sp hsp
    rw [h2]
    exact trodAll_kp hK hr hlt hsp hA
  have hvars : ∀ sp : Nat → Bool, DataW.TrodVars enc Tryz.prog W' sp s.vars (s.fn H (ds ++ [])).vars [] := by
    intro sp; rw [hv, h3]; rfl
  refine ⟨ds, [], p, [], p, [], hW, hresults _ _ _, hargs _ hold, hvars _, World.keptBut_mono (fun x hx => ⟨hx, ?_⟩) (Below.frame hK (· ∈ p)), fun _ => ?_⟩
  · exact Or.inr (by simpa using hx)
  · refine ⟨?_, _, _, ([] ++ p) ++ [], ⟨[] ++ p, [], trodAll_append (hargs _ (fun _ _ => rfl)) (hresults _ _ _), hvars _, rfl, ?_, ?_⟩, ?_⟩
    · exact ok_one hres rfl (okWide_bool_mk Tryz.underlying4 true)
    · intro b off hp
      have hin : MemPlace.cell b off ∈ p := by simpa using hp
      rw [Below.frozen hK (hlt _ hin)]
      exact hz b off (by simpa using hin)
    · intro ha
      simpa using hn ha
    · intro x hx _
      simpa using hx

/-- A slice that came in, read as a list. -/
theorem rd_of_slice {α : Type} {W : World} {fuel : Nat} {v : Value} {x : DataW H × List MemPlace} {t e sz : Nat} (enc' : α → List Value) (good : α → Prop) (henc : ∀ y, (enc' y).length = sz) (ht : Tryz.prog.underlying t = some (.slice e)) (hsz : Tryz.prog.cellsOf e = sz) (hs0 : 0 < sz)
    (hel : ∀ (cs : List Value) (n : Nat) (x : DataW H × List MemPlace), DataW.trod enc Tryz.prog W 0 (fun _ => true) true n e cs = some x → ∃ y, cs = enc' y ∧ good y)
    (h : DataW.trod enc Tryz.prog W 0 (fun _ => true) true fuel t [v] = some x) : ∃ A c ys, v = .slice A ys.length c ∧ ys.length ≤ maxLen ∧ Rd W sz enc' A ys ∧ ∀ y ∈ ys, good y := by
  rcases open_slice ht h with ⟨hc, _⟩ | ⟨a, len, cap, m, n, D, Pl, hc, _, hl, hm, hmm, _, hi⟩
  · exact ⟨none, 0, [], by simpa using hc, by simp, Rd.nil _ _ _ _, by simp⟩
  · simp only [if_true] at hmm
    subst hmm
    rw [hsz] at hi
    by_cases h0 : len = 0
    · subst h0
      exact ⟨some a, m, [], by simpa using hc, by simp, Rd.nil _ _ _ _, by simp⟩
    have key : ∀ i, i < len → ∃ y, good y ∧ ∀ j u, (enc' y)[j]? = some u → W.cell? (a.add (i * sz + j)) = some u := by
      intro i hi'
      obtain ⟨cs', hcs, htr⟩ := hi i (by omega)
      obtain ⟨y, rfl, hg⟩ := hel cs' n _ htr
      obtain ⟨_, hlen, hat⟩ := World.cells?_some hcs
      refine ⟨y, hg, fun j u hu => ?_⟩
      have hj : j < sz := by have := (List.getElem?_eq_some_iff.1 hu).1; rw [henc] at this; exact this
      have := hat j hj
      rw [Go.Deep.add_add] at this
      rw [this, hu]
    obtain ⟨y0, hg0, hy0⟩ := key 0 (by omega)
    have hf : ∃ f : Nat → α, ∀ i, i < len → good (f i) ∧ ∀ j u, (enc' (f i))[j]? = some u → W.cell? (a.add (i * sz + j)) = some u := by
      refine ⟨fun i => if hi' : i < len then Classical.choose (key i hi') else y0, fun i hi' => ?_⟩
      simp only [hi', dif_pos]
      exact Classical.choose_spec (key i hi')
    obtain ⟨f, hf⟩ := hf
    have hsp : ∃ b off, a = ⟨b, off, none⟩ := by
      have h1 : 0 < (enc' (f 0)).length := by rw [henc]; exact hs0
      have := (hf 0 (by omega)).2 0 _ (List.getElem?_eq_getElem h1)
      simp only [Nat.zero_mul, Nat.add_zero] at this
      have h2 := World.cell?_spot this
      obtain ⟨b, off, spot⟩ := a
      simp [Addr.add] at h2
      subst h2
      exact ⟨b, off, rfl⟩
    obtain ⟨b, off, rfl⟩ := hsp
    refine ⟨some ⟨b, off, none⟩, m, (List.range len).map f, by simpa using hc, by simp; omega, ?_, ?_⟩
    · intro i hi'
      have hi2 : i < len := by simpa using hi'
      refine ⟨b, off, rfl, fun j u hu => ?_⟩
      have := (hf i hi2).2 j u (by simpa using hu)
      have hadd : (⟨b, off, none⟩ : Addr).add (i * sz + j) = ⟨b, off + i * sz + j, none⟩ := by
        unfold Addr.add; split <;> simp_all [Nat.add_assoc]
      rw [hadd] at this
      exact this
    · intro y hy
      obtain ⟨i, hi', rfl⟩ := List.mem_map.1 hy
      exact (hf i (by simpa using hi')).1
end
end Go.Proofs.YtbfimimhgdkpaaaGreatDoor

/- A region that draws its order, of which all but the last operations only read: walked in the order of the text, in a world that is a letter. No condition. -/
namespace Go.Proofs.YtbfimimhgdkpaaaGreatDoor
open Go.RowKit

theorem wp_tail {P : Program} {id : Nat} {Q : Exit → Act → World → Prop} {a : Act} {w : World} {l : List Oper} (n : Nat) (hm : P.follows .mixedOrders = true) (hB : Region.lexTailB .any l.toArray n = true)
    (h : ∀ W, W = w.drew → wpStill P l.toArray W (fun a' => wpList P l.toArray Q (l.drop n) a' W) (l.take n) a) : (Code.region id l.toArray true).wp P Q a w :=
  wp_region_still_tail n hm hB (h _ rfl)

/-- append of one element, which lies in a block of its own, to a row of the call's own: at a step of a region that draws its order. -/
theorem step_appx {α : Type} {enc : α → List Value} {P : Program} {t e e' : TypeId} {z : Value} {size bytes : Nat} (E : ElemOf P t e z size bytes) {w : World} {ops : Array Oper} {o : Oper} {a : Act} {K : Act → World → Prop} {Q : Exit → Act → World → Prop} {X : Prop}
    (hgd : o.guard = none) (s x : Operand) (ho : o.op = .call { callee := .builtin .append, args := #[s, x], argTypes := #[t, t] })
    {base : Nat} {v : Value} {xs : List α} {news : List Value} (y : α) (hs : a.eval s = v) (hown : Own w base e size enc v xs) (hbase : base ≤ w.heap.size)
    {N : Nat} (hx : a.eval x = .slice (some ⟨N, 0, none⟩) 1 1) (hB : Blk w N e' news.toArray) (hnews : news = enc y) (hl : news.length = size) (h1 : news.all (fun u => u.oneCell') = true) (hfit : (xs.length + 1) * (bytes + 1) ≤ 140737488355328)
    (h : ∀ g cap w', Own w' base e size enc (.slice (some ⟨g, 0, none⟩) (xs.length + 1) cap) (xs ++ [y]) → w.grownBy w' v.ownBlock → (v.ownBlock = some g ∨ g = w.heap.size) → K (a.put o.dst (.slice (some ⟨g, 0, none⟩) (xs.length + 1) cap)) w') :
    if Region.wanted o (yielded ops a.tmps) = true then Oper.wp P o a w K Q else X := by
  obtain ⟨ht, hinfo, hzs, hsz⟩ := E
  obtain ⟨i, hi, hz, hsize, hby⟩ := info_parts hinfo
  have hb2 : (xs.length + 1) * (bytes + 1) = (xs.length + 1) * bytes + (xs.length + 1) := by rw [Nat.mul_add, Nat.mul_one]
  refine step_append_lies _ hgd s x t ho base e i z size bytes ht hi hz hsize hby hzs hsz v xs.length (xs.flatMap enc) hs hown ⟨N, 0, none⟩ 1 1 news hx (by omega) (fun j u hu => World.news_of_block hB j u (by simpa using hu)) (by simpa using h1) (by omega) (by simp only [maxLen]; omega) (by omega) hbase _ rfl ?_
  intro g cap w' ho' hg hat _
  refine h g cap w' ?_ hg hat
  unfold Own
  rw [List.length_append, List.flatMap_append, List.length_singleton, List.flatMap_cons, List.flatMap_nil, List.append_nil, ← hnews]
  exact ho'
theorem Kp.far {w w' : World} {row : Option Nat} (hg : w.grownBy w' row) {p : Addr} {v : Value} (hc : w.cell? p = some v) (hne : some p.block ≠ row) : w'.cell? p = some v := (hg.cell_far p (World.block_lt_of_cell? w p hc) hne).trans hc
end Go.Proofs.YtbfimimhgdkpaaaGreatDoor

/- Decimal numerals, read and written: no program in sight. -/
namespace Go.Proofs.YtbfimimhgdkpaaaGreatDoor
open Go.Lib

theorem head_app {l : List UInt8} (h : l ≠ []) (r : List UInt8) : (l ++ r).head? = l.head? := by cases l with | nil => exact absurd rfl h | cons a l => rfl
theorem decFrom_app (b : UInt8) : ∀ (l : List UInt8) (acc : Nat), decFrom acc (l ++ [b]) = (decFrom acc l).bind (fun n => (digitVal b).map (fun d => n * 10 + d))
  | [], acc => by
    simp only [List.nil_append, decFrom]
    cases digitVal b <;> simp
  | c :: l, acc => by
    simp only [List.cons_append, decFrom]
    cases h : digitVal c with
    | none => simp
    | some d => simp only; exact decFrom_app b l _
theorem digitVal_of {d : Nat} (h : d < 10) : digitVal (UInt8.ofNat (48 + d)) = some d := by
  unfold digitVal
  have e : (UInt8.ofNat (48 + d)).toNat = 48 + d := by simp; omega
  rw [e, if_pos (by omega)]
  congr 1
  omega
theorem digitVal_eq {b : UInt8} {d : Nat} (h : digitVal b = some d) : d < 10 ∧ b = UInt8.ofNat (48 + d) := by
  unfold digitVal at h
  split at h
  · rename_i hh
    injection h with h
    refine ⟨by omega, ?_⟩
    apply UInt8.toNat.inj
    simp
    omega
  · cases h
theorem digits_val (u : Nat) : decFrom 0 (decDigits u) = some u := by
  induction u using Nat.strongRecOn with
  | _ u ih =>
    by_cases h : u < 10
    · rw [decDigits, dif_pos h]
      simp only [decFrom, digitVal_of h]
      simp
    · rw [decDigits, dif_neg h, decFrom_app, ih (u / 10) (by omega), Option.bind_some, digitVal_of (by omega)]
      simp
      omega
theorem digits_ne (u : Nat) : decDigits u ≠ [] := by
  rw [decDigits]
  split <;> simp
/-- No numeral but 0 begins with 0. -/
theorem digits_head (u : Nat) : (decDigits u).head? = some 48 → u = 0 := by
  induction u using Nat.strongRecOn with
  | _ u ih =>
    intro hh
    by_cases h : u < 10
    · rw [decDigits, dif_pos h] at hh
      simp only [List.head?_cons, Option.some.injEq] at hh
      have := congrArg UInt8.toNat hh
      simp at this
      omega
    · rw [decDigits, dif_neg h, head_app (digits_ne _)] at hh
      have := ih (u / 10) (by omega) hh
      omega
/-- A numeral without a 0 ahead is the one that is written. -/
theorem digits_canon : ∀ (m : Nat) (l : List UInt8) (n : Nat), l.length = m → decFrom 0 l = some n → l ≠ [] → (l.length = 1 ∨ l.head? ≠ some 48) → l = decDigits n := by
  intro m
  induction m with
  | zero => intro l n hl _ hne _; exact absurd (List.length_eq_zero_iff.1 hl) hne
  | succ m ih =>
    intro l n hl hd hne hc
    rcases List.eq_nil_or_concat l with e | ⟨l', b, e⟩
    · exact absurd e hne
    · rw [List.concat_eq_append] at e
      subst e
      rw [decFrom_app] at hd
      cases h1 : decFrom 0 l' with
      | none => rw [h1] at hd; simp at hd
      | some n' =>
        cases h2 : digitVal b with
        | none => rw [h1, h2] at hd; simp at hd
        | some d =>
          rw [h1, h2] at hd
          simp at hd
          obtain ⟨hd10, hb⟩ := digitVal_eq h2
          by_cases hl' : l' = []
          · subst hl'
            simp only [decFrom, Option.some.injEq] at h1
            subst h1
            have : n = d := by omega
            subst this
            rw [decDigits, dif_pos hd10, hb]
            rfl
          · have hlen : l'.length = m := by simpa using hl
            have hpos : 0 < l'.length := List.length_pos_iff.2 hl'
            have hhead : l'.head? ≠ some 48 := by
              rcases hc with hc | hc
              · simp at hc; exact absurd hc hl'
              · rwa [head_app hl'] at hc
            have hi := ih l' n' hlen h1 hl' (.inr hhead)
            have hn' : n' ≠ 0 := fun e => by
              subst e
              rw [hi] at hhead
              exact hhead (by rw [decDigits, dif_pos (by omega)]; rfl)
            rw [decDigits, dif_neg (by omega)]
            have e1 : n / 10 = n' := by omega
            have e2 : n % 10 = d := by omega
            rw [e1, e2, ← hi, ← hb]

theorem digits_len {k : Nat} (hk : 0 < k) : ∀ u, u < 10 ^ k → (decDigits u).length ≤ k := by
  induction k with
  | zero => omega
  | succ k ih =>
    intro u hu
    by_cases h : u < 10
    · rw [decDigits, dif_pos h]; simp
    · have hk0 : 0 < k := by
        rcases Nat.eq_zero_or_pos k with e | e
        · subst e; simp at hu; omega
        · exact e
      rw [decDigits, dif_neg h, List.length_append, List.length_singleton]
      have : u / 10 < 10 ^ k := by rw [Nat.div_lt_iff_lt_mul (by omega)]; rw [Nat.pow_succ] at hu; exact hu
      have := ih hk0 (u / 10) this
      omega

/-- The reference's reading of a number, perhaps below 0. -/
def minS : List UInt8 := 45 :: [57, 50, 50, 51, 51, 55, 50, 48, 51, 54, 56, 53, 52, 55, 55, 53, 56, 48, 56]
def belowB (s : List UInt8) : Bool := decide (1 < s.length) && (s.head? == some 45)
def bareS (s : List UInt8) : List UInt8 := if belowB s then s.tail else s
def badS (s : List UInt8) : Bool := (bareS s).isEmpty || decide (19 < (bareS s).length) || (decide (1 < (bareS s).length) && ((bareS s).head? == some 48)) || (belowB s && (bareS s == [48]))
def refInt (s : List UInt8) : Option Int :=
  if s = minS then some (-9223372036854775808)
  else if badS s then none
  else match decFrom 0 (bareS s) with
    | none => none
    | some n => if 9223372036854775807 < n then none else some (if belowB s then -(n : Int) else n)
theorem min_itoa : minS = itoa (-9223372036854775808) := by
  have h := digits_canon 19 [57, 50, 50, 51, 51, 55, 50, 48, 51, 54, 56, 53, 52, 55, 55, 53, 56, 48, 56] 9223372036854775808 rfl (by decide +kernel) (by simp) (.inr (by simp))
  have e := itoa_neg 9223372036854775808 (by omega)
  rw [← h] at e
  exact e.symm
theorem refInt_sound {s : List UInt8} {n : Int} (h : refInt s = some n) : s = itoa n ∧ -9223372036854775808 ≤ n ∧ n ≤ 9223372036854775807 := by
  unfold refInt at h
  split at h
  · rename_i e
    injection h with h
    subst h
    exact ⟨e.trans min_itoa, by omega, by omega⟩
  · split at h
    · cases h
    · rename_i hb
      simp only [badS, Bool.or_eq_true, not_or, Bool.and_eq_true, not_and, decide_eq_true_eq, beq_iff_eq, List.isEmpty_iff] at hb
      obtain ⟨⟨⟨h1, h2⟩, h3⟩, h4⟩ := hb
      cases hd : decFrom 0 (bareS s) with
      | none => rw [hd] at h; cases h
      | some m =>
        rw [hd] at h
        simp only at h
        split at h
        · cases h
        · rename_i hm
          injection h with h
          have hl : 0 < (bareS s).length := List.length_pos_iff.2 h1
          have hc := digits_canon _ (bareS s) m rfl hd h1 (by
            rcases Nat.lt_or_ge 1 (bareS s).length with e | e
            · exact .inr (fun e' => h3 e e')
            · exact .inl (by omega))
          cases hbl : belowB s with
          | false =>
            rw [hbl] at h
            simp only [Bool.false_eq_true, if_false] at h
            subst h
            have e : bareS s = s := by simp [bareS, hbl]
            rw [e] at hc
            exact ⟨by rw [itoa_nonneg]; exact hc, by omega, by omega⟩
          | true =>
            rw [hbl] at h
            simp only [if_true] at h
            subst h
            have e : bareS s = s.tail := by simp [bareS, hbl]
            have hne : m ≠ 0 := fun e0 => by
              subst e0
              exact h4 hbl (by rw [hc, decDigits, dif_pos (by omega)]; rfl)
            simp only [belowB, Bool.and_eq_true, decide_eq_true_eq, beq_iff_eq] at hbl
            have hs : s = 45 :: s.tail := by
              cases s with
              | nil => simp at hbl
              | cons a t => simp at hbl; simp [hbl.2]
            rw [e] at hc
            exact ⟨by rw [itoa_neg m (by omega), ← hc]; exact hs, by omega, by omega⟩
theorem digits_all (u : Nat) : ∀ b ∈ decDigits u, 48 ≤ b.toNat ∧ b.toNat ≤ 57 := by
  induction u using Nat.strongRecOn with
  | _ u ih =>
    intro b hb
    by_cases h : u < 10
    · rw [decDigits, dif_pos h] at hb
      simp at hb
      rw [hb]; simp; omega
    · rw [decDigits, dif_neg h, List.mem_append] at hb
      rcases hb with hb | hb
      · exact ih (u / 10) (by omega) b hb
      · simp at hb; rw [hb]; simp; omega
theorem digits_no45 (u : Nat) : (decDigits u).head? ≠ some 45 := by
  intro h
  have hm : (45 : UInt8) ∈ decDigits u := List.mem_of_mem_head? h
  have := digits_all u 45 hm
  simp at this
theorem refInt_whole {n : Int} (h0 : -9223372036854775808 ≤ n) (h1 : n ≤ 9223372036854775807) : refInt (itoa n) = some n := by
  unfold refInt
  by_cases hm : n = -9223372036854775808
  · rw [if_pos (by rw [hm]; exact min_itoa.symm), hm]
  · have hne : ¬ itoa n = minS := fun e => by
      rw [min_itoa] at e
      have a := congrArg (fun l => decFrom 0 l.tail) e
      rcases Int.lt_or_le n 0 with hn | hn
      · obtain ⟨u, hu⟩ : ∃ u : Nat, n = -(u : Int) := ⟨n.natAbs, by omega⟩
        have e2 := itoa_neg 9223372036854775808 (by omega)
        rw [hu, itoa_neg u (by omega), show (-9223372036854775808 : Int) = -((9223372036854775808 : Nat) : Int) by omega, e2] at a
        simp only [List.tail_cons, digits_val, Option.some.injEq] at a
        omega
      · obtain ⟨u, hu⟩ : ∃ u : Nat, n = (u : Int) := ⟨n.toNat, by omega⟩
        have e2 := itoa_neg 9223372036854775808 (by omega)
        rw [hu, itoa_nonneg, show (-9223372036854775808 : Int) = -((9223372036854775808 : Nat) : Int) by omega, e2] at e
        exact digits_no45 u (by rw [e]; rfl)
    rw [if_neg hne]
    rcases Int.lt_or_le n 0 with hn | hn
    · obtain ⟨u, hu⟩ : ∃ u : Nat, n = -(u : Int) := ⟨n.natAbs, by omega⟩
      have hlen : (decDigits u).length ≤ 19 := digits_len (by omega) u (by omega)
      have hpos : 0 < (decDigits u).length := List.length_pos_iff.2 (digits_ne u)
      rw [hu, itoa_neg u (by omega)]
      have hb : belowB (45 :: decDigits u) = true := by simp [belowB]; omega
      have hr : bareS (45 :: decDigits u) = decDigits u := by simp [bareS, hb]
      have hz : badS (45 :: decDigits u) = false := by
        unfold badS
        rw [hr, hb]
        have a1 : (decDigits u).isEmpty = false := by cases hd : decDigits u with | nil => exact absurd hd (digits_ne u) | cons a t => rfl
        have a2 : ¬ (decDigits u).head? = some 48 := fun e => by have := digits_head u e; omega
        have a3 : ¬ decDigits u = [48] := fun e => a2 (by rw [e]; rfl)
        simp [a1, a2, a3]; omega
      rw [hz, hr, digits_val, hb]
      simp
      omega
    · obtain ⟨u, hu⟩ : ∃ u : Nat, n = (u : Int) := ⟨n.toNat, by omega⟩
      have hlen : (decDigits u).length ≤ 19 := digits_len (by omega) u (by omega)
      rw [hu, itoa_nonneg]
      have hb : belowB (decDigits u) = false := by
        unfold belowB
        have := digits_no45 u
        simp [this]
      have hr : bareS (decDigits u) = decDigits u := by simp [bareS, hb]
      have hz : badS (decDigits u) = false := by
        unfold badS
        rw [hr, hb]
        have a1 : (decDigits u).isEmpty = false := by cases hd : decDigits u with | nil => exact absurd hd (digits_ne u) | cons a t => rfl
        have a2 : 1 < (decDigits u).length → ¬ (decDigits u).head? = some 48 := fun h e => by
          have := digits_head u e
          subst this
          rw [decDigits, dif_pos (by omega)] at h
          simp at h
        by_cases hl : 1 < (decDigits u).length
        · simp [a1, a2 hl]; omega
        · simp [a1, hl]; omega
      rw [hz, hr, digits_val, hb]
      simp
      omega
end Go.Proofs.YtbfimimhgdkpaaaGreatDoor

/- An address's text, written and read, by the program's reader and by the reference's: no program in sight. -/
namespace Go.Proofs.YtbfimimhgdkpaaaGreatDoor
open Go.Lib

def textA (a : Nat) : List UInt8 := decDigits (a / 16777216) ++ 46 :: (decDigits (a / 65536 % 256) ++ 46 :: (decDigits (a / 256 % 256) ++ 46 :: decDigits (a % 256)))
/-- The program's reader: the parts, the one that is read, how many of its digits were read. -/
structure AS where
  ps : List Nat
  k : Nat
  d : Nat
def stepA (s : AS) (c : Nat) : Option AS :=
  if c = 46 ∧ 0 < s.d ∧ s.k < 3 then some ⟨s.ps, s.k + 1, 0⟩
  else if (48 ≤ c ∧ c ≤ 57) ∧ (s.d = 0 ∨ s.ps.getD s.k 0 ≠ 0) then
    (if 255 < s.ps.getD s.k 0 * 10 + (c - 48) then none else some ⟨s.ps.set s.k (s.ps.getD s.k 0 * 10 + (c - 48)), s.k, s.d + 1⟩)
  else none
def runA (s : AS) : List UInt8 → Option AS
  | [] => some s
  | c :: l => (stepA s c.toNat).bind (fun s' => runA s' l)
def st0 : AS := ⟨[0, 0, 0, 0], 0, 0⟩
def joinA (ps : List Nat) : Nat := ((ps.getD 0 0 * 256 + ps.getD 1 0) * 256 + ps.getD 2 0) * 256 + ps.getD 3 0
def adr (l : List UInt8) : Option Nat := (runA st0 l).bind (fun s => if s.k < 3 ∨ s.d = 0 then none else some (joinA s.ps))

theorem runA_app (s : AS) (l m : List UInt8) : runA s (l ++ m) = (runA s l).bind (fun s' => runA s' m) := by
  induction l generalizing s with
  | nil => rfl
  | cons c l ih =>
    simp only [List.cons_append, runA]
    cases stepA s c.toNat with
    | none => rfl
    | some s' => exact ih s'
def txtA (s : AS) : List UInt8 := (s.ps.take s.k).flatMap (fun p => decDigits p ++ [46]) ++ (if s.d = 0 then [] else decDigits (s.ps.getD s.k 0))
structure AInv (s : AS) : Prop where
  len : s.ps.length = 4
  k : s.k ≤ 3
  le : ∀ p ∈ s.ps, p ≤ 255
  nul : s.d = 0 → s.ps.getD s.k 0 = 0
  far : ∀ j, s.k < j → s.ps.getD j 0 = 0
theorem AInv.zero : AInv st0 := ⟨rfl, by decide, by decide, fun _ => rfl, fun j hj => by
  rcases j with _ | _ | _ | _ | j <;> rfl⟩
theorem dec_app {n e : Nat} (hn : n ≠ 0) (he : e < 10) : decDigits (n * 10 + e) = decDigits n ++ [UInt8.ofNat (48 + e)] := by
  rw [decDigits, dif_neg (by omega), show (n * 10 + e) / 10 = n by omega, show (n * 10 + e) % 10 = e by omega]
theorem dec_one {e : Nat} (he : e < 10) : decDigits e = [UInt8.ofNat (48 + e)] := by rw [decDigits, dif_pos he]
theorem byte_of {c : UInt8} {n : Nat} (h : c.toNat = n) : c = UInt8.ofNat n := by rw [← h]; simp
theorem stepA_inv {s s' : AS} {c : UInt8} (h : AInv s) (he : stepA s c.toNat = some s') : AInv s' ∧ txtA s' = txtA s ++ [c] := by
  unfold stepA at he
  split at he
  · rename_i hc
    obtain ⟨h1, h2, h3⟩ := hc
    injection he with he
    subst he
    have hk : s.k < s.ps.length := by rw [h.len]; omega
    refine ⟨⟨h.len, by simp only; omega, h.le, fun _ => h.far _ (by simp only; omega), fun j hj => h.far j (by simp only at hj; omega)⟩, ?_⟩
    simp only [txtA]
    rw [if_neg (by omega : ¬ s.d = 0), List.take_add_one, List.getElem?_eq_getElem hk]
    simp only [Option.toList_some, List.flatMap_append, List.flatMap_cons, List.flatMap_nil, List.append_nil, if_true, List.append_assoc]
    rw [List.getD_eq_getElem?_getD, List.getElem?_eq_getElem hk, Option.getD_some, byte_of h1]
    rfl
  · split at he
    · rename_i hd
      obtain ⟨⟨h1, h2⟩, h3⟩ := hd
      split at he
      · cases he
      · rename_i hle
        injection he with he
        subst he
        have hk : s.k < s.ps.length := by rw [h.len]; have := h.k; omega
        refine ⟨⟨by simp [h.len], h.k, fun p hp => ?_, fun e => by simp at e, fun j hj => ?_⟩, ?_⟩
        · rcases List.mem_or_eq_of_mem_set hp with hp | hp
          · exact h.le p hp
          · omega
        · simp only at hj ⊢
          rw [List.getD_eq_getElem?_getD, List.getElem?_set_ne (by omega), ← List.getD_eq_getElem?_getD]
          exact h.far j hj
        · simp only [txtA]
          rw [List.take_set_of_le (Nat.le_refl _), List.append_assoc]
          congr 1
          rw [if_neg (by omega : ¬ s.d + 1 = 0), List.getD_eq_getElem?_getD, List.getElem?_set_self hk, Option.getD_some]
          have hc : c = UInt8.ofNat (48 + (c.toNat - 48)) := by rw [show 48 + (c.toNat - 48) = c.toNat by omega]; simp
          by_cases h0 : s.d = 0
          · rw [if_pos h0, h.nul h0, Nat.zero_mul, Nat.zero_add, dec_one (by omega), ← hc]; rfl
          · rw [if_neg h0, dec_app (h3.resolve_left h0) (by omega), ← hc]
    · cases he
theorem runA_inv : ∀ (l : List UInt8) {s s' : AS}, AInv s → runA s l = some s' → AInv s' ∧ txtA s' = txtA s ++ l
  | [], s, s', h, he => by
    simp only [runA, Option.some.injEq] at he
    subst he
    exact ⟨h, by simp⟩
  | c :: l, s, s', h, he => by
    simp only [runA] at he
    cases hs : stepA s c.toNat with
    | none => rw [hs] at he; cases he
    | some s1 =>
      rw [hs, Option.bind_some] at he
      obtain ⟨i1, e1⟩ := stepA_inv h hs
      obtain ⟨i2, e2⟩ := runA_inv l i1 he
      exact ⟨i2, by rw [e2, e1, List.append_assoc]; rfl⟩
theorem joinA_lt {ps : List Nat} (h : ∀ p ∈ ps, p ≤ 255) (hl : ps.length = 4) : joinA ps < 4294967296 := by
  match ps, hl with
  | [a, b, c, d], _ =>
    have := h a (by simp); have := h b (by simp); have := h c (by simp); have := h d (by simp)
    simp only [joinA, List.getD_cons_zero, List.getD_cons_succ]
    omega
theorem text_join {a b c d : Nat} (ha : a ≤ 255) (hb : b ≤ 255) (hc : c ≤ 255) (hd : d ≤ 255) : textA (joinA [a, b, c, d]) = decDigits a ++ 46 :: (decDigits b ++ 46 :: (decDigits c ++ 46 :: decDigits d)) := by
  simp only [joinA, textA, List.getD_cons_zero, List.getD_cons_succ]
  rw [show (((a * 256 + b) * 256 + c) * 256 + d) / 16777216 = a by omega, show (((a * 256 + b) * 256 + c) * 256 + d) / 65536 % 256 = b by omega, show (((a * 256 + b) * 256 + c) * 256 + d) / 256 % 256 = c by omega, show (((a * 256 + b) * 256 + c) * 256 + d) % 256 = d by omega]
theorem adr_sound {l : List UInt8} {a : Nat} (h : adr l = some a) : a < 4294967296 ∧ l = textA a := by
  unfold adr at h
  cases hr : runA st0 l with
  | none => rw [hr] at h; cases h
  | some s =>
    rw [hr, Option.bind_some] at h
    obtain ⟨i, e⟩ := runA_inv l AInv.zero hr
    split at h
    · cases h
    · rename_i hk
      injection h with h
      subst h
      refine ⟨joinA_lt i.le i.len, ?_⟩
      have hk3 : s.k = 3 := by have := i.k; omega
      have hd : ¬ s.d = 0 := by omega
      obtain ⟨ps, k, d⟩ := s
      simp only at hk3 hd
      subst hk3
      have e0 : txtA st0 = [] := rfl
      rw [e0, List.nil_append] at e
      have hl := i.len
      simp only at hl
      match ps, hl with
      | [p, q, r, t], _ =>
        have hle := i.le
        simp only [txtA, if_neg hd] at e
        rw [← e, text_join (hle p (by simp)) (hle q (by simp)) (hle r (by simp)) (hle t (by simp))]
        simp
theorem runA_dec {ps : List Nat} {k : Nat} (hk : k < ps.length) (h0 : ps.getD k 0 = 0) : ∀ (p : Nat), p ≤ 255 → ∃ d, 0 < d ∧ runA ⟨ps, k, 0⟩ (decDigits p) = some ⟨ps.set k p, k, d⟩ := by
  intro p
  induction p using Nat.strongRecOn with
  | _ p ih =>
    intro hp
    by_cases h : p < 10
    · refine ⟨1, by omega, ?_⟩
      rw [dec_one h]
      simp only [runA, stepA]
      have e : (UInt8.ofNat (48 + p)).toNat = 48 + p := by simp; omega
      rw [e, if_neg (by omega), if_pos ⟨by omega, by simp⟩, h0, if_neg (by omega), Option.bind_some, show 0 * 10 + (48 + p - 48) = p by omega]
    · obtain ⟨d, hd, hr⟩ := ih (p / 10) (by omega) (by omega)
      refine ⟨d + 1, by omega, ?_⟩
      rw [decDigits, dif_neg h, runA_app, hr, Option.bind_some]
      simp only [runA, stepA]
      have e : (UInt8.ofNat (48 + p % 10)).toNat = 48 + p % 10 := by simp; omega
      have e2 : (ps.set k (p / 10)).getD k 0 = p / 10 := by rw [List.getD_eq_getElem?_getD, List.getElem?_set_self hk, Option.getD_some]
      rw [e, e2, if_neg (by omega), if_pos ⟨by omega, .inr (by omega)⟩, if_neg (by omega), Option.bind_some, List.set_set, show p / 10 * 10 + (48 + p % 10 - 48) = p by omega]
theorem runA_dot {ps : List Nat} {k d : Nat} (hd : 0 < d) (hk : k < 3) (l : List UInt8) : runA ⟨ps, k, d⟩ (46 :: l) = runA ⟨ps, k + 1, 0⟩ l := by
  have e : (46 : UInt8).toNat = 46 := rfl
  simp only [runA, stepA]
  rw [e, if_pos ⟨rfl, hd, hk⟩, Option.bind_some]
theorem adr_whole {a : Nat} (h : a < 4294967296) : adr (textA a) = some a := by
  unfold adr textA
  obtain ⟨d0, p0, e0⟩ := runA_dec (ps := [0, 0, 0, 0]) (k := 0) (by simp) rfl (a / 16777216) (by omega)
  obtain ⟨d1, p1, e1⟩ := runA_dec (ps := [a / 16777216, 0, 0, 0]) (k := 1) (by simp) rfl (a / 65536 % 256) (by omega)
  obtain ⟨d2, p2, e2⟩ := runA_dec (ps := [a / 16777216, a / 65536 % 256, 0, 0]) (k := 2) (by simp) rfl (a / 256 % 256) (by omega)
  obtain ⟨d3, p3, e3⟩ := runA_dec (ps := [a / 16777216, a / 65536 % 256, a / 256 % 256, 0]) (k := 3) (by simp) rfl (a % 256) (by omega)
  have s0 : st0 = ⟨[0, 0, 0, 0], 0, 0⟩ := rfl
  simp only [List.set_cons_zero, List.set_cons_succ] at e0 e1 e2 e3
  rw [s0, runA_app, e0, Option.bind_some, runA_dot p0 (by omega), runA_app, e1, Option.bind_some, runA_dot p1 (by omega), runA_app, e2, Option.bind_some, runA_dot p2 (by omega), e3, Option.bind_some]
  rw [if_neg (by simp only; omega)]
  simp only [joinA, List.getD_cons_zero, List.getD_cons_succ, Option.some.injEq]
  omega

/-- The reference's number, with which a list begins: it, how many digits it has. -/
def numR (most : Nat) : Nat → Nat → List UInt8 → Nat × Nat
  | n, many, [] => (n, many)
  | n, many, c :: l =>
    if 48 ≤ c.toNat ∧ c.toNat ≤ 57 then
      (if (0 < many ∧ n = 0) ∨ most < 10 * n + (c.toNat - 48) then (n, many) else numR most (10 * n + (c.toNat - 48)) (many + 1) l)
    else (n, many)
/-- The reference's head: i parts have been read, they are n. -/
def headR (l : List UInt8) : Nat → Nat → Nat → Nat × Nat × Bool
  | 0, at_, n => (n, at_, true)
  | 4, at_, n =>
    let r := numR 255 0 0 (l.drop at_)
    if r.2 = 0 then (0, at_, false) else headR l 3 (at_ + r.2) (256 * n + r.1)
  | i + 1, at_, n =>
    if l.getD at_ 0 = 46 ∧ at_ < l.length then
      (let r := numR 255 0 0 (l.drop (at_ + 1))
       if r.2 = 0 then (0, at_ + 1, false) else headR l i (at_ + 1 + r.2) (256 * n + r.1))
    else (0, at_, false)
def adrR (l : List UInt8) : Option Nat := if (headR l 4 0 0).2.2 = true ∧ (headR l 4 0 0).2.1 = l.length then some (headR l 4 0 0).1 else none

theorem numR_sound {most : Nat} : ∀ (l : List UInt8) (n many : Nat) (pre : List UInt8), (if many = 0 then pre = [] ∧ n = 0 else pre = decDigits n ∧ pre.length = many ∧ n ≤ most) →
    ∀ r, numR most n many l = r → many ≤ r.2 ∧ r.2 - many ≤ l.length ∧ (r.2 = 0 ∨ (pre ++ l.take (r.2 - many) = decDigits r.1 ∧ r.1 ≤ most))
  | [], n, many, pre, h, r, hr => by
    simp only [numR] at hr
    subst hr
    refine ⟨Nat.le_refl _, by simp, ?_⟩
    by_cases hm : many = 0
    · exact .inl hm
    · rw [if_neg hm] at h
      exact .inr ⟨by simp [h.1], h.2.2⟩
  | c :: l, n, many, pre, h, r, hr => by
    have stop : (n, many) = r → many ≤ r.2 ∧ r.2 - many ≤ (c :: l).length ∧ (r.2 = 0 ∨ (pre ++ (c :: l).take (r.2 - many) = decDigits r.1 ∧ r.1 ≤ most)) := by
      intro e
      subst e
      refine ⟨Nat.le_refl _, by simp, ?_⟩
      by_cases hm : many = 0
      · exact .inl hm
      · rw [if_neg hm] at h
        exact .inr ⟨by simp [h.1], h.2.2⟩
    simp only [numR] at hr
    split at hr
    · rename_i hc
      split at hr
      · exact stop hr
      · rename_i hn
        have hcc : c = UInt8.ofNat (48 + (c.toNat - 48)) := by rw [show 48 + (c.toNat - 48) = c.toNat by omega]; simp
        have hpre : pre ++ [c] = decDigits (10 * n + (c.toNat - 48)) ∧ (pre ++ [c]).length = many + 1 := by
          by_cases hm : many = 0
          · rw [if_pos hm] at h
            obtain ⟨rfl, rfl⟩ := h
            rw [Nat.mul_zero, Nat.zero_add, dec_one (by omega), ← hcc, hm]
            exact ⟨rfl, rfl⟩
          · rw [if_neg hm] at h
            have hn0 : n ≠ 0 := fun e => hn (.inl ⟨by omega, e⟩)
            rw [Nat.mul_comm, dec_app hn0 (by omega), ← hcc, h.1]
            exact ⟨rfl, by rw [List.length_append, ← h.1, h.2.1]; rfl⟩
        have := numR_sound l (10 * n + (c.toNat - 48)) (many + 1) (pre ++ [c]) (by rw [if_neg (by omega)]; exact ⟨hpre.1, hpre.2, by omega⟩) r hr
        obtain ⟨a1, a2, a3⟩ := this
        refine ⟨by omega, by simp; omega, .inr ?_⟩
        rcases a3 with a3 | a3
        · omega
        · refine ⟨?_, a3.2⟩
          have e : r.2 - many = (r.2 - (many + 1)) + 1 := by omega
          rw [e, List.take_succ_cons, ← a3.1, List.append_assoc]
          rfl
    · exact stop hr
theorem numR_far {most n many : Nat} {l : List UInt8} (h : l = [] ∨ l.head? = some 46) : numR most n many l = (n, many) := by
  cases l with
  | nil => rfl
  | cons c l =>
    rcases h with h | h
    · cases h
    · injection h with h
      subst h
      simp only [numR]
      rw [if_neg (by decide)]
theorem numR_whole {most : Nat} {rest : List UInt8} (hrest : rest = [] ∨ rest.head? = some 46) : ∀ (p : Nat), p ≤ most → numR most 0 0 (decDigits p ++ rest) = (p, (decDigits p).length) := by
  have key : ∀ (p : Nat) (tl : List UInt8), p ≤ most → numR most 0 0 (decDigits p ++ tl) = numR most p (decDigits p).length tl := by
    intro p
    induction p using Nat.strongRecOn with
    | _ p ih =>
      intro tl hp
      by_cases h : p < 10
      · rw [dec_one h]
        have e : (UInt8.ofNat (48 + p)).toNat = 48 + p := by simp; omega
        simp only [List.cons_append, List.nil_append, numR]
        rw [e, if_pos (by omega), if_neg (by omega), show 10 * 0 + (48 + p - 48) = p by omega]
        rfl
      · have e : (UInt8.ofNat (48 + p % 10)).toNat = 48 + p % 10 := by simp; omega
        rw [decDigits, dif_neg h, List.append_assoc, ih (p / 10) (by omega) _ (by omega)]
        simp only [List.cons_append, List.nil_append, numR]
        rw [e, if_pos (by omega), if_neg (by omega), show 10 * (p / 10) + (48 + p % 10 - 48) = p by omega, List.length_append]
        rfl
  intro p hp
  rw [key p rest hp, numR_far hrest]
theorem numR_at {l : List UInt8} {at_ : Nat} {r : Nat × Nat} (h : numR 255 0 0 (l.drop at_) = r) (h0 : ¬ r.2 = 0) : at_ + r.2 ≤ l.length ∧ r.1 ≤ 255 ∧ (l.drop at_).take r.2 = decDigits r.1 := by
  obtain ⟨a1, a2, a3⟩ := numR_sound (l.drop at_) 0 0 [] (by simp) r h
  rcases a3 with a3 | a3
  · exact absurd a3 h0
  · simp only [List.nil_append, Nat.sub_zero] at a3 a2
    rw [List.length_drop] at a2
    refine ⟨?_, a3.2, a3.1⟩
    have : 0 < r.2 := by omega
    omega
theorem adrR_sound {l : List UInt8} {a : Nat} (h : adrR l = some a) : a < 4294967296 ∧ l = textA a := by
  unfold adrR at h
  split at h
  · rename_i hh
    obtain ⟨hok, hend⟩ := hh
    injection h with h
    subst h
    have one : ∀ (i at_ n : Nat), i < 3 → ∀ v, headR l (i + 1) at_ n = v → v.2.2 = true → ∃ p k, p ≤ 255 ∧ l.drop at_ = 46 :: (decDigits p ++ l.drop (at_ + 1 + k)) ∧ at_ + 1 + k ≤ l.length ∧ v = headR l i (at_ + 1 + k) (256 * n + p) := by
      intro i at_ n hi v hv ht
      have step : headR l (i + 1) at_ n = if l.getD at_ 0 = 46 ∧ at_ < l.length then (if (numR 255 0 0 (l.drop (at_ + 1))).2 = 0 then (0, at_ + 1, false) else headR l i (at_ + 1 + (numR 255 0 0 (l.drop (at_ + 1))).2) (256 * n + (numR 255 0 0 (l.drop (at_ + 1))).1)) else (0, at_, false) := by
        rcases i with _ | _ | _ | i
        · rfl
        · rfl
        · rfl
        · omega
      rw [step] at hv
      split at hv
      · rename_i hd
        split at hv
        · subst hv; cases ht
        · rename_i h0
          obtain ⟨b1, b2, b3⟩ := numR_at rfl h0
          refine ⟨_, _, b2, ?_, b1, hv.symm⟩
          have e : l.drop at_ = l[at_]'hd.2 :: l.drop (at_ + 1) := by rw [List.drop_eq_getElem_cons hd.2]
          have e2 : l[at_]'hd.2 = 46 := by
            have := hd.1
            rw [List.getD_eq_getElem?_getD, List.getElem?_eq_getElem hd.2] at this
            exact this
          have e3 : l.drop (at_ + 1 + (numR 255 0 0 (l.drop (at_ + 1))).2) = (l.drop (at_ + 1)).drop (numR 255 0 0 (l.drop (at_ + 1))).2 := by rw [List.drop_drop]
          rw [e, e2, ← b3, e3, List.take_append_drop]
      · subst hv; cases ht
    have first : ∀ v, headR l 4 0 0 = v → v.2.2 = true → ∃ p k, p ≤ 255 ∧ l = decDigits p ++ l.drop k ∧ k ≤ l.length ∧ v = headR l 3 k p := by
      intro v hv ht
      have step : headR l 4 0 0 = if (numR 255 0 0 (l.drop 0)).2 = 0 then (0, 0, false) else headR l 3 (0 + (numR 255 0 0 (l.drop 0)).2) (256 * 0 + (numR 255 0 0 (l.drop 0)).1) := rfl
      rw [step] at hv
      split at hv
      · subst hv; cases ht
      · rename_i h0
        obtain ⟨b1, b2, b3⟩ := numR_at rfl h0
        rw [Nat.zero_add] at hv b1
        rw [Nat.mul_zero, Nat.zero_add] at hv
        refine ⟨_, _, b2, ?_, b1, hv.symm⟩
        rw [List.drop_zero] at b3 ⊢
        rw [← b3, List.take_append_drop]
    obtain ⟨p, k1, hp, e1, l1, v1⟩ := first _ rfl hok
    rw [v1] at hok hend
    obtain ⟨q, k2, hq, e2, l2, v2⟩ := one 2 _ _ (by omega) _ rfl hok
    rw [v2] at hok hend
    obtain ⟨r, k3, hr, e3, l3, v3⟩ := one 1 _ _ (by omega) _ rfl hok
    rw [v3] at hok hend
    obtain ⟨t, k4, ht, e4, l4, v4⟩ := one 0 _ _ (by omega) _ rfl hok
    rw [v4] at hend
    have e5 : headR l 4 0 0 = (256 * (256 * (256 * p + q) + r) + t, k1 + 1 + k2 + 1 + k3 + 1 + k4, true) := by
      rw [v1, v2, v3, v4]; rfl
    have hend' : k1 + 1 + k2 + 1 + k3 + 1 + k4 = l.length := hend
    rw [e5]
    have ej : 256 * (256 * (256 * p + q) + r) + t = joinA [p, q, r, t] := by simp only [joinA, List.getD_cons_zero, List.getD_cons_succ]; omega
    rw [ej]
    refine ⟨by simp only [joinA, List.getD_cons_zero, List.getD_cons_succ]; omega, ?_⟩
    rw [text_join hp hq hr ht]
    have e6 : l.drop (k1 + 1 + k2 + 1 + k3 + 1 + k4) = [] := by rw [hend']; simp
    rw [e6, List.append_nil] at e4
    rw [← e4, ← e3, ← e2, ← e1]
  · cases h
theorem headR_step (l : List UInt8) (i at_ n : Nat) (hi : i < 3) (p : Nat) (hp : p ≤ 255) (rest : List UInt8) (hr : rest = [] ∨ rest.head? = some 46) (hl : l.drop at_ = 46 :: (decDigits p ++ rest)) :
    headR l (i + 1) at_ n = headR l i (at_ + 1 + (decDigits p).length) (256 * n + p) ∧ l.drop (at_ + 1 + (decDigits p).length) = rest := by
  have hlt : at_ < l.length := by
    rcases Nat.lt_or_ge at_ l.length with h | h
    · exact h
    · rw [List.drop_eq_nil_of_le h] at hl; cases hl
  have hc := List.drop_eq_getElem_cons hlt
  rw [hl] at hc
  injection hc with hc1 hc2
  have step : headR l (i + 1) at_ n = if l.getD at_ 0 = 46 ∧ at_ < l.length then (if (numR 255 0 0 (l.drop (at_ + 1))).2 = 0 then (0, at_ + 1, false) else headR l i (at_ + 1 + (numR 255 0 0 (l.drop (at_ + 1))).2) (256 * n + (numR 255 0 0 (l.drop (at_ + 1))).1)) else (0, at_, false) := by
    rcases i with _ | _ | _ | i
    · rfl
    · rfl
    · rfl
    · omega
  have hd0 : (decDigits p).length ≠ 0 := fun e => digits_ne p (List.length_eq_zero_iff.1 e)
  rw [step, if_pos ⟨by rw [List.getD_eq_getElem?_getD, List.getElem?_eq_getElem hlt, ← hc1]; rfl, hlt⟩, ← hc2, numR_whole hr p hp, if_neg hd0]
  refine ⟨rfl, ?_⟩
  have e3 : l.drop (at_ + 1 + (decDigits p).length) = (l.drop (at_ + 1)).drop (decDigits p).length := by rw [List.drop_drop]
  rw [e3, ← hc2, List.drop_left']
  rfl
theorem adrR_whole {a : Nat} (h : a < 4294967296) : adrR (textA a) = some a := by
  have hd0 : (decDigits (a / 16777216)).length ≠ 0 := fun e => digits_ne _ (List.length_eq_zero_iff.1 e)
  have step : headR (textA a) 4 0 0 = headR (textA a) 3 (decDigits (a / 16777216)).length (a / 16777216) := by
    have s : headR (textA a) 4 0 0 = if (numR 255 0 0 ((textA a).drop 0)).2 = 0 then (0, 0, false) else headR (textA a) 3 (0 + (numR 255 0 0 ((textA a).drop 0)).2) (256 * 0 + (numR 255 0 0 ((textA a).drop 0)).1) := rfl
    rw [s, List.drop_zero]
    have e : textA a = decDigits (a / 16777216) ++ 46 :: (decDigits (a / 65536 % 256) ++ 46 :: (decDigits (a / 256 % 256) ++ 46 :: decDigits (a % 256))) := rfl
    rw [show numR 255 0 0 (textA a) = _ from by rw [e, numR_whole (.inr rfl) _ (by omega)], if_neg hd0]
    simp
  have d0 : (textA a).drop (decDigits (a / 16777216)).length = 46 :: (decDigits (a / 65536 % 256) ++ 46 :: (decDigits (a / 256 % 256) ++ 46 :: decDigits (a % 256))) := by
    unfold textA; rw [List.drop_left']; rfl
  obtain ⟨s1, d1⟩ := headR_step (textA a) 2 _ (a / 16777216) (by omega) _ (by omega) _ (.inr rfl) d0
  obtain ⟨s2, d2⟩ := headR_step (textA a) 1 _ (256 * (a / 16777216) + a / 65536 % 256) (by omega) _ (by omega) _ (.inr rfl) d1
  obtain ⟨s3, d3⟩ := headR_step (textA a) 0 _ (256 * (256 * (a / 16777216) + a / 65536 % 256) + a / 256 % 256) (by omega) (a % 256) (by omega) [] (.inl rfl) (by rw [d2, List.append_nil])
  have e : headR (textA a) 4 0 0 = (256 * (256 * (256 * (a / 16777216) + a / 65536 % 256) + a / 256 % 256) + a % 256, (textA a).length, true) := by
    rw [step, s1, s2, s3]
    have hlen : (textA a).length = (decDigits (a / 16777216)).length + 1 + (decDigits (a / 65536 % 256)).length + 1 + (decDigits (a / 256 % 256)).length + 1 + (decDigits (a % 256)).length := by
      simp only [textA, List.length_append, List.length_cons]; omega
    rw [hlen]; rfl
  unfold adrR
  rw [e, if_pos ⟨rfl, rfl⟩]
  simp only [Option.some.injEq]
  omega
/-- Both read the same. -/
theorem adr_eq (l : List UInt8) : adrR l = adr l := by
  cases h : adr l with
  | some a =>
    obtain ⟨ha, e⟩ := adr_sound h
    rw [e]; exact adrR_whole ha
  | none =>
    cases h2 : adrR l with
    | none => rfl
    | some a =>
      obtain ⟨ha, e⟩ := adrR_sound h2
      rw [e, adr_whole ha] at h
      cases h
end Go.Proofs.YtbfimimhgdkpaaaGreatDoor

/- Words between bytes of a kind, and the runes of a string beside its bytes: no program in sight. -/
namespace Go.Proofs.YtbfimimhgdkpaaaGreatDoor
open Go.Lib

/-- What stands between bytes of a kind. -/
def parted (b : UInt8) : List UInt8 → List (List UInt8)
  | [] => [[]]
  | c :: l => if c = b then [] :: parted b l else (c :: (parted b l).headD []) :: (parted b l).tail
theorem parted_ne (b : UInt8) (l : List UInt8) : parted b l ≠ [] := by cases l with | nil => simp [parted] | cons c l => unfold parted; split <;> simp
theorem parted_one {b : UInt8} : ∀ {u : List UInt8}, (∀ c ∈ u, c ≠ b) → parted b u = [u]
  | [], _ => rfl
  | c :: u, h => by
    rw [parted, if_neg (h c (by simp)), parted_one (fun d hd => h d (by simp [hd]))]
    rfl
theorem parted_at {b : UInt8} {v : List UInt8} : ∀ {u : List UInt8}, (∀ c ∈ u, c ≠ b) → parted b (u ++ b :: v) = u :: parted b v
  | [], _ => by simp [parted]
  | c :: u, h => by
    rw [List.cons_append, parted, if_neg (h c (by simp)), parted_at (fun d hd => h d (by simp [hd]))]
    rfl
theorem parted_len (b : UInt8) : ∀ l : List UInt8, (parted b l).length ≤ l.length + 1
  | [] => by simp [parted]
  | c :: l => by
    have := parted_len b l
    unfold parted
    split
    · simp; omega
    · simp; omega
theorem parted_sub (b : UInt8) : ∀ (l : List UInt8), ∀ x ∈ parted b l, x.length ≤ l.length
  | [], x, h => by simp [parted] at h; subst h; simp
  | c :: l, x, h => by
    unfold parted at h
    split at h
    · simp at h
      rcases h with rfl | h
      · simp
      · have := parted_sub b l x h; simp; omega
    · simp at h
      rcases h with rfl | h
      · cases hp : parted b l with
        | nil => simp
        | cons y r =>
          have := parted_sub b l y (by rw [hp]; simp)
          simp; exact this
      · have := parted_sub b l x (List.mem_of_mem_tail h); simp; omega

/-- The byte of a string at a place. -/
def byteAt (s : ByteArray) (i : Nat) : Nat := (s.data.toList.getD i 0).toNat
theorem get_byte (s : ByteArray) (i : Nat) (h : i < s.size) : s.get! i = s.data.toList.getD i 0 := by
  have h' : i < s.data.size := h
  show s.data[i]! = _
  rw [List.getD_eq_getElem?_getD, Array.getElem?_toList, getElem!_def]
  rw [Array.getElem?_eq_getElem h']
  rfl
theorem get_at (s : ByteArray) (i : Nat) (h : i < s.size) : s[i]'h = s.data.toList.getD i 0 := by
  have h' : i < s.data.size := h
  show s.data[i] = _
  rw [List.getD_eq_getElem?_getD, Array.getElem?_toList, Array.getElem?_eq_getElem h']
  rfl
/-- A rune of a string that begins with a byte from 128 on: it is no ASCII, nor is one of its bytes. -/
theorem rune_far (s : ByteArray) (i : Nat) (hi : i < s.size) (h : 128 ≤ byteAt s i) :
    128 ≤ (Utf8.decode s i).1 ∧ 1 ≤ (Utf8.decode s i).2 ∧ i + (Utf8.decode s i).2 ≤ s.size ∧ ∀ k, k < (Utf8.decode s i).2 → 128 ≤ byteAt s (i + k) := by
  have h0 : (s.get! (i + 0)).toNat = byteAt s i := by rw [Nat.add_zero, get_byte s i hi]; rfl
  have one : 128 ≤ Utf8.runeError ∧ 1 ≤ 1 ∧ i + 1 ≤ s.size ∧ ∀ k, k < 1 → 128 ≤ byteAt s (i + k) :=
    ⟨by decide, Nat.le_refl _, hi, fun k hk => by obtain rfl : k = 0 := by omega
                                                  exact h⟩
  have cont : ∀ k, (decide (i + k < s.size) && (s.get! (i + k)).toNat / 64 == 2) = true → i + k < s.size ∧ 128 ≤ byteAt s (i + k) := by
    intro k hk
    simp only [Bool.and_eq_true, decide_eq_true_eq, beq_iff_eq] at hk
    refine ⟨hk.1, ?_⟩
    have := hk.2
    rw [get_byte s _ hk.1] at this
    unfold byteAt
    omega
  unfold Utf8.decode
  simp only [h0]
  rw [if_neg (by omega)]
  split
  · rename_i hc
    rw [Bool.and_eq_true] at hc
    obtain ⟨c1, c1'⟩ := cont 1 hc.2
    split
    · rename_i hg
      exact ⟨hg, by omega, by omega, fun k hk => by
        have : k = 0 ∨ k = 1 := by omega
        rcases this with rfl | rfl
        · exact h
        · exact c1'⟩
    · exact one
  · split
    · rename_i hc
      rw [Bool.and_eq_true, Bool.and_eq_true] at hc
      obtain ⟨c1, c1'⟩ := cont 1 hc.1.2
      obtain ⟨c2, c2'⟩ := cont 2 hc.2
      split
      · rename_i hg
        simp only [ge_iff_le, Bool.and_eq_true, decide_eq_true_eq] at hg
        exact ⟨by omega, by omega, by omega, fun k hk => by
          have : k = 0 ∨ k = 1 ∨ k = 2 := by omega
          rcases this with rfl | rfl | rfl
          · exact h
          · exact c1'
          · exact c2'⟩
      · exact one
    · split
      · rename_i hc
        rw [Bool.and_eq_true, Bool.and_eq_true, Bool.and_eq_true] at hc
        obtain ⟨c1, c1'⟩ := cont 1 hc.1.1.2
        obtain ⟨c2, c2'⟩ := cont 2 hc.1.2
        obtain ⟨c3, c3'⟩ := cont 3 hc.2
        split
        · rename_i hg
          simp only [ge_iff_le, Bool.and_eq_true, decide_eq_true_eq] at hg
          exact ⟨by omega, by omega, by omega, fun k hk => by
            have : k = 0 ∨ k = 1 ∨ k = 2 ∨ k = 3 := by omega
            rcases this with rfl | rfl | rfl | rfl
            · exact h
            · exact c1'
            · exact c2'
            · exact c3'⟩
        · exact one
      · exact one
theorem rune_near (s : ByteArray) (i : Nat) (hi : i < s.size) (h : byteAt s i < 128) : Utf8.decode s i = (byteAt s i, 1) := by
  rw [decode_ascii s i hi (by rw [get_at s i hi]; exact h), get_at s i hi]
  rfl
/-- A rune of a string: its bytes lie in it; and it is some ASCII byte just if it is that byte. -/
theorem rune_any (s : ByteArray) (i : Nat) (hi : i < s.size) :
    1 ≤ (Utf8.decode s i).2 ∧ i + (Utf8.decode s i).2 ≤ s.size ∧ ((byteAt s i < 128 ∧ Utf8.decode s i = (byteAt s i, 1)) ∨ (128 ≤ (Utf8.decode s i).1 ∧ ∀ k, k < (Utf8.decode s i).2 → 128 ≤ byteAt s (i + k))) := by
  rcases Nat.lt_or_ge (byteAt s i) 128 with h | h
  · have e := rune_near s i hi h
    exact ⟨by rw [e]; exact Nat.le_refl 1, by rw [e]; exact hi, .inl ⟨h, e⟩⟩
  · obtain ⟨a, b, c, d⟩ := rune_far s i hi h
    exact ⟨b, c, .inr ⟨a, d⟩⟩
end Go.Proofs.YtbfimimhgdkpaaaGreatDoor

/- Events and their lines, written and read, by the program and by the reference: no program in sight. -/
namespace Go.Proofs.YtbfimimhgdkpaaaGreatDoor
open Go.Lib

theorem decFrom_ge : ∀ (l : List UInt8) (acc v : Nat), decFrom acc l = some v → acc ≤ v
  | [], acc, v, h => by simp only [decFrom, Option.some.injEq] at h; omega
  | c :: l, acc, v, h => by
    simp only [decFrom] at h
    cases hd : digitVal c with
    | none => rw [hd] at h; cases h
    | some d =>
      rw [hd] at h
      have := decFrom_ge l _ v h
      omega
theorem parse10_of : ∀ (l : List UInt8) (acc v : Nat), decFrom acc l = some v → v < 18446744073709551616 → parseUint10 acc l = .ok v
  | [], acc, v, h, _ => by simp only [decFrom, Option.some.injEq] at h; subst h; rfl
  | c :: l, acc, v, h, hv => by
    simp only [decFrom] at h
    cases hd : digitVal c with
    | none => rw [hd] at h; cases h
    | some d =>
      rw [hd] at h
      have hge := decFrom_ge l _ v h
      have hc : 48 ≤ c.toNat ∧ c.toNat ≤ 57 ∧ d = c.toNat - 48 := Go.Lib.digitVal_eq hd
      simp only [parseUint10]
      rw [if_pos ⟨hc.1, hc.2.1⟩, if_neg (by omega), if_neg (by omega), ← hc.2.2]
      exact parse10_of l _ v h hv
/-- What the program takes of a word for a number. -/
def numP (s : List UInt8) : Option Int := match parseIntB 64 s with | .ok n => if itoa n = s then some n else none | _ => none
theorem parse_itoa {n : Int} (h0 : -9223372036854775808 ≤ n) (h1 : n ≤ 9223372036854775807) : parseIntB 64 (itoa n) = .ok n := by
  rw [parseIntB_64]
  rcases Int.lt_or_le n 0 with hn | hn
  · obtain ⟨u, hu⟩ : ∃ u : Nat, n = -(u : Int) := ⟨n.natAbs, by omega⟩
    subst hu
    rw [itoa_neg u (by omega)]
    simp only [atoiAll]
    have e : (45 : UInt8).toNat = 45 := rfl
    rw [e, if_pos (.inr rfl), parseMag, if_neg (digits_ne u), parse10_of _ _ u (digits_val u) (by omega)]
    simp only
    rw [if_neg (by simp), if_neg (by omega), if_pos trivial]
  · obtain ⟨u, hu⟩ : ∃ u : Nat, n = (u : Int) := ⟨n.toNat, by omega⟩
    subst hu
    rw [itoa_nonneg]
    cases hd : decDigits u with
    | nil => exact absurd hd (digits_ne u)
    | cons c l =>
      have hc := digits_all u c (by rw [hd]; simp)
      simp only [atoiAll]
      rw [if_neg (by omega), ← hd, parseMag, if_neg (digits_ne u), parse10_of _ _ u (digits_val u) (by omega)]
      simp only
      rw [if_neg (by omega), if_neg (by omega), if_neg (by omega)]
theorem numP_eq (s : List UInt8) : numP s = refInt s := by
  unfold numP
  cases h : refInt s with
  | some n =>
    obtain ⟨e, h0, h1⟩ := refInt_sound h
    rw [e, parse_itoa h0 h1]
    simp
  | none =>
    cases hp : parseIntB 64 s with
    | ok n =>
      obtain ⟨b0, b1⟩ := parseIntB_bounds hp
      by_cases e : itoa n = s
      · have := refInt_whole (n := n) (by simpa using b0) (by have := b1; simp at this; omega)
        rw [e, h] at this
        cases this
      · simp [e]
    | range => rfl
    | _ => rfl

/-! ### bytes as two digits each -/
def hexS : List UInt8 := [48, 49, 50, 51, 52, 53, 54, 55, 56, 57, 97, 98, 99, 100, 101, 102]
def hexOf (n : Nat) : UInt8 := hexS.getD n 0
def hexV (c : UInt8) : Option Nat := if 48 ≤ c.toNat ∧ c.toNat ≤ 57 then some (c.toNat - 48) else if 97 ≤ c.toNat ∧ c.toNat ≤ 102 then some (c.toNat - 87) else none
def hexT (l : List UInt8) : List UInt8 := l.flatMap (fun b => [hexOf (b.toNat / 16), hexOf (b.toNat % 16)])
def hexW (l : List UInt8) : List UInt8 := if l = [] then [45] else hexT l
def hexR : List UInt8 → Option (List UInt8)
  | [] => some []
  | [_] => none
  | a :: b :: l => match hexV a, hexV b with | some x, some y => (hexR l).map (fun r => UInt8.ofNat (16 * x + y) :: r) | _, _ => none
def dataW (w : List UInt8) : Option (List UInt8) := if w = [45] then some [] else if w = [] ∨ w.length % 2 ≠ 0 ∨ 1200 < w.length then none else hexR w
theorem hexV_of : ∀ n, n < 16 → hexV (hexOf n) = some n := by decide
theorem hexV_lt {c : UInt8} {n : Nat} (h : hexV c = some n) : n < 16 ∧ hexOf n = c := by
  unfold hexV at h
  have key : ∀ k : Fin 256, (∀ n, (if 48 ≤ k.val ∧ k.val ≤ 57 then some (k.val - 48) else if 97 ≤ k.val ∧ k.val ≤ 102 then some (k.val - 87) else none) = some n → n < 16 ∧ hexOf n = UInt8.ofNat k.val) := by
    intro k n hk
    split at hk
    · rename_i hh
      injection hk with hk
      subst hk
      refine ⟨by omega, ?_⟩
      have : k.val = 48 ∨ k.val = 49 ∨ k.val = 50 ∨ k.val = 51 ∨ k.val = 52 ∨ k.val = 53 ∨ k.val = 54 ∨ k.val = 55 ∨ k.val = 56 ∨ k.val = 57 := by omega
      rcases this with e | e | e | e | e | e | e | e | e | e <;> rw [e] <;> decide
    · split at hk
      · rename_i hh
        injection hk with hk
        subst hk
        refine ⟨by omega, ?_⟩
        have : k.val = 97 ∨ k.val = 98 ∨ k.val = 99 ∨ k.val = 100 ∨ k.val = 101 ∨ k.val = 102 := by omega
        rcases this with e | e | e | e | e | e <;> rw [e] <;> decide
      · cases hk
  have hlt : c.toNat < 256 := c.toNat_lt
  have := key ⟨c.toNat, hlt⟩ n h
  simpa using this
theorem hexT_len (l : List UInt8) : (hexT l).length = 2 * l.length := by
  induction l with
  | nil => rfl
  | cons b l ih => unfold hexT at ih ⊢; simp only [List.flatMap_cons, List.length_append, ih, List.length_cons, List.length_nil]; omega
theorem hexR_text : ∀ l : List UInt8, hexR (hexT l) = some l
  | [] => rfl
  | b :: l => by
    have hb : b.toNat < 256 := b.toNat_lt
    have e : hexT (b :: l) = hexOf (b.toNat / 16) :: hexOf (b.toNat % 16) :: hexT l := by simp [hexT]
    rw [e, hexR, hexV_of _ (by omega), hexV_of _ (by omega), hexR_text l]
    simp only [Option.map_some, Option.some.injEq, List.cons.injEq, and_true]
    rw [show 16 * (b.toNat / 16) + b.toNat % 16 = b.toNat by omega]
    simp
theorem hexR_sound : ∀ (m : Nat) (w l : List UInt8), w.length ≤ m → hexR w = some l → hexT l = w
  | _, [], l, _, h => by simp only [hexR, Option.some.injEq] at h; subst h; rfl
  | _, [_], l, _, h => by cases h
  | 0, _ :: _ :: _, _, hm, _ => by simp at hm
  | m + 1, a :: b :: w, l, hm, h => by
    simp only [hexR] at h
    cases ha : hexV a with
    | none => rw [ha] at h; cases h
    | some x =>
      cases hb : hexV b with
      | none => rw [ha, hb] at h; cases h
      | some y =>
        rw [ha, hb] at h
        simp only at h
        cases hr : hexR w with
        | none => rw [hr] at h; cases h
        | some r =>
          rw [hr, Option.map_some, Option.some.injEq] at h
          subst h
          obtain ⟨x1, x2⟩ := hexV_lt ha
          obtain ⟨y1, y2⟩ := hexV_lt hb
          have ih := hexR_sound m w r (by simp at hm; omega) hr
          have e : (UInt8.ofNat (16 * x + y)).toNat = 16 * x + y := by simp; omega
          have : hexT (UInt8.ofNat (16 * x + y) :: r) = hexOf ((UInt8.ofNat (16 * x + y)).toNat / 16) :: hexOf ((UInt8.ofNat (16 * x + y)).toNat % 16) :: hexT r := by simp [hexT]
          rw [this, ih, e, show (16 * x + y) / 16 = x by omega, show (16 * x + y) % 16 = y by omega, x2, y2]
theorem hexOf_ne {n : Nat} (h : n < 16) : hexOf n ≠ 45 ∧ hexOf n ≠ 32 := by
  have : ∀ n, n < 16 → hexOf n ≠ 45 ∧ hexOf n ≠ 32 := by decide
  exact this n h
theorem data_text {l : List UInt8} (h : l.length ≤ 600) : dataW (hexW l) = some l := by
  unfold hexW dataW
  by_cases h0 : l = []
  · rw [if_pos h0, if_pos rfl, h0]
  · rw [if_neg h0]
    have hl := hexT_len l
    have hp : 0 < l.length := List.length_pos_iff.2 h0
    rw [if_neg (fun e => by rw [e] at hl; simp at hl; omega), if_neg (by
      rintro (e | e | e)
      · rw [e] at hl; simp at hl; omega
      · omega
      · omega), hexR_text]
theorem data_sound {w l : List UInt8} (h : dataW w = some l) : hexW l = w ∧ l.length ≤ 600 := by
  unfold dataW at h
  split at h
  · rename_i e
    injection h with h
    subst h
    exact ⟨by rw [e]; rfl, by simp⟩
  · split at h
    · cases h
    · rename_i hn hb
      have e := hexR_sound _ w l (Nat.le_refl _) h
      have hl := hexT_len l
      rw [e] at hl
      simp only [not_or, Nat.not_lt] at hb
      refine ⟨?_, by omega⟩
      have h0 : l ≠ [] := fun e0 => by
        subst e0
        rw [← e] at hb
        exact hb.1 rfl
      rw [hexW, if_neg h0, e]
/-- What the reference takes of a word for bytes, and whether it is none. -/
def bytesR (w : List UInt8) : Option (List UInt8) := if w = [45] then some [] else if w = [] ∨ w.length % 2 = 1 then none else hexR w
theorem bytesR_eq (w : List UInt8) : (bytesR w).bind (fun b => if b.length ≤ 600 then some b else none) = dataW w := by
  unfold bytesR dataW
  by_cases h1 : w = [45]
  · rw [if_pos h1, if_pos h1]; rfl
  · rw [if_neg h1, if_neg h1]
    by_cases h2 : w = [] ∨ w.length % 2 = 1
    · rw [if_pos h2, if_pos (by rcases h2 with h | h; exact .inl h; exact .inr (.inl (by omega)))]; rfl
    · rw [if_neg h2]
      simp only [not_or] at h2
      cases hr : hexR w with
      | none => split <;> rfl
      | some l =>
        have hl := hexT_len l
        rw [hexR_sound _ w l (Nat.le_refl _) hr] at hl
        simp only [Option.bind_some]
        by_cases h3 : l.length ≤ 600
        · rw [if_pos h3, if_neg (by
            rintro (e | e | e)
            · exact h2.1 e
            · omega
            · omega)]
        · rw [if_neg h3, if_pos (.inr (.inr (by omega)))]

/-! ### events -/
structure Ev where
  kind : Int
  a : Int
  b : Int
  c : Int
  draw : Int
  src : Nat
  bytes : List UInt8
deriving DecidableEq
inductive Pt where | a | b | c | d | s | x
deriving DecidableEq
def ev0 (k : Int) : Ev := ⟨k, 0, 0, 0, 0, 0, []⟩
def nameOf : Nat → List UInt8
  | 1 => [116, 105, 99, 107]
  | 2 => [109, 97, 105, 108]
  | 3 => [116, 119, 105, 99, 101]
  | 4 => [108, 111, 115, 101]
  | 5 => [99, 117, 116]
  | 6 => [102, 97, 99, 101]
  | 7 => [115, 116, 97, 114, 116]
  | 8 => [98, 121, 116, 101, 115]
  | _ => []
def partsOf : Nat → List Pt
  | 1 => [.d]
  | 2 => [.a, .d]
  | 3 => [.a, .d]
  | 4 => [.a]
  | 5 => [.a, .c]
  | 6 => [.a, .b, .c, .d]
  | 7 => [.a, .d]
  | 8 => [.a, .b, .s, .x, .d]
  | _ => []
def putE (p : Pt) (t f : Ev) : Ev := match p with
  | .a => { t with a := f.a } | .b => { t with b := f.b } | .c => { t with c := f.c } | .d => { t with draw := f.draw } | .s => { t with src := f.src } | .x => { t with bytes := f.bytes }
def upS : List UInt8 := [117, 112]
def downS : List UInt8 := [100, 111, 119, 110]
def tellE (p : Pt) (e : Ev) : List UInt8 := match p with
  | .a => itoa e.a | .b => itoa e.b | .c => if e.c.tmod 2 ≠ 0 then upS else downS | .d => itoa e.draw | .s => textA e.src | .x => hexW e.bytes
def readE (p : Pt) (w : List UInt8) (e : Ev) : Option Ev := match p with
  | .a => (numP w).map (fun n => { e with a := n }) | .b => (numP w).map (fun n => { e with b := n })
  | .c => if w = upS then some { e with c := 1 } else if w = downS then some e else none
  | .d => (numP w).map (fun n => { e with draw := n }) | .s => (adr w).map (fun n => { e with src := n }) | .x => (dataW w).map (fun l => { e with bytes := e.bytes ++ l })
def kindN (e : Ev) : Nat := e.kind.toNat
def plainP (e : Ev) : Bool := decide (1 ≤ e.kind ∧ e.kind ≤ 8) && (decide ((partsOf e.kind.toNat).foldl (fun t p => putE p t e) (ev0 e.kind) = e) && (decide (e.c = 0 ∨ e.c = 1) && decide (e.bytes.length ≤ 600)))
def textE (e : Ev) : List UInt8 := nameOf e.kind.toNat ++ (partsOf e.kind.toNat).flatMap (fun p => 32 :: tellE p e)
def readAll : List Pt → List (List UInt8) → Ev → Option Ev
  | [], _, e => some e
  | p :: ps, ws, e => (readE p (ws.headD []) e).bind (fun e' => readAll ps ws.tail e')
/-- The kind of a name, among the first ones. -/
def kindUp : Nat → List UInt8 → Nat
  | 0, _ => 0
  | n + 1, s => if 0 < n ∧ nameOf n = s then n else kindUp n s
def kindB (s : List UInt8) : Nat := kindUp 9 s
def parseK (k : Nat) (ws : List (List UInt8)) : Option Ev :=
  if k = 0 then none else if ws.length = (partsOf k).length then readAll (partsOf k) ws (ev0 k) else none
def parseE (s : List UInt8) : Option Ev := parseK (kindB ((parted 32 s).headD [])) (parted 32 s).tail
theorem kindB_name : ∀ k, 1 ≤ k → k ≤ 8 → kindB (nameOf k) = k := by
  intro k h1 h2
  have : k = 1 ∨ k = 2 ∨ k = 3 ∨ k = 4 ∨ k = 5 ∨ k = 6 ∨ k = 7 ∨ k = 8 := by omega
  rcases this with rfl | rfl | rfl | rfl | rfl | rfl | rfl | rfl <;> decide
theorem kindUp_name : ∀ n s, kindUp n s ≠ 0 → nameOf (kindUp n s) = s ∧ kindUp n s < n
  | 0, s, h => absurd rfl h
  | n + 1, s, h => by
    unfold kindUp at h ⊢
    split
    · rename_i hh; exact ⟨hh.2, by omega⟩
    · rename_i hh
      rw [if_neg hh] at h
      obtain ⟨a, b⟩ := kindUp_name n s h
      exact ⟨a, by omega⟩
/-- The numbers of an event are what their types hold. -/
structure EvOk (e : Ev) : Prop where
  a0 : -9223372036854775808 ≤ e.a
  a1 : e.a ≤ 9223372036854775807
  b0 : -9223372036854775808 ≤ e.b
  b1 : e.b ≤ 9223372036854775807
  d0 : -9223372036854775808 ≤ e.draw
  d1 : e.draw ≤ 9223372036854775807
  s1 : e.src < 4294967296

theorem parted_words {b : UInt8} : ∀ (ws : List (List UInt8)) (h : List UInt8), (∀ c ∈ h, c ≠ b) → (∀ w ∈ ws, ∀ c ∈ w, c ≠ b) → parted b (h ++ ws.flatMap (fun w => b :: w)) = h :: ws
  | [], h, hh, _ => by rw [List.flatMap_nil, List.append_nil]; exact parted_one hh
  | w :: ws, h, hh, hw => by
    rw [List.flatMap_cons, List.cons_append, parted_at hh, parted_words ws w (hw w (by simp)) (fun v hv => hw v (by simp [hv]))]
theorem parted_join (b : UInt8) : ∀ s : List UInt8, (parted b s).headD [] ++ (parted b s).tail.flatMap (fun w => b :: w) = s
  | [] => by simp [parted]
  | c :: s => by
    have ih := parted_join b s
    unfold parted
    split
    · rename_i h
      subst h
      cases hp : parted c s with
      | nil => exact absurd hp (parted_ne _ _)
      | cons x r => rw [hp] at ih; simp at ih ⊢; exact ih
    · simpa using ih
theorem itoa_ne (n : Int) : ∀ c ∈ itoa n, c ≠ 32 := by
  intro c hc e
  subst e
  unfold itoa at hc
  split at hc
  · rw [List.mem_cons] at hc
    rcases hc with hc | hc
    · cases hc
    · have := digits_all _ _ hc; simp at this
  · have := digits_all _ _ hc; simp at this
theorem textA_ne (a : Nat) : ∀ c ∈ textA a, c ≠ 32 := by
  intro c hc e
  subst e
  simp only [textA, List.mem_append, List.mem_cons] at hc
  rcases hc with hc | hc | hc | hc | hc | hc | hc
  all_goals first | cases hc; done | (have := digits_all _ _ hc; simp at this)
theorem hexW_ne (l : List UInt8) : ∀ c ∈ hexW l, c ≠ 32 := by
  intro c hc
  unfold hexW at hc
  split at hc
  · simp at hc; subst hc; decide
  · simp only [hexT, List.mem_flatMap, List.mem_cons, List.not_mem_nil, or_false] at hc
    obtain ⟨b, _, hc⟩ := hc
    have hb : b.toNat < 256 := b.toNat_lt
    rcases hc with hc | hc
    · rw [hc]; exact (hexOf_ne (by omega)).2
    · rw [hc]; exact (hexOf_ne (by omega)).2
theorem tellE_ne (p : Pt) (e : Ev) : ∀ c ∈ tellE p e, c ≠ 32 := by
  cases p with
  | a => exact itoa_ne _
  | b => exact itoa_ne _
  | d => exact itoa_ne _
  | s => exact textA_ne _
  | x => exact hexW_ne _
  | c =>
    intro c hc
    simp only [tellE] at hc
    split at hc
    · revert c; decide
    · revert c; decide
theorem nameOf_ne (k : Nat) : ∀ c ∈ nameOf k, c ≠ 32 := by
  intro c hc
  unfold nameOf at hc
  split at hc <;> first | (revert c; decide) | (simp at hc)
theorem textE_parted (e : Ev) : parted 32 (textE e) = nameOf e.kind.toNat :: (partsOf e.kind.toNat).map (fun p => tellE p e) := by
  unfold textE
  have e1 : (partsOf e.kind.toNat).flatMap (fun p => 32 :: tellE p e) = ((partsOf e.kind.toNat).map (fun p => tellE p e)).flatMap (fun w => 32 :: w) := by
    rw [List.flatMap_map]
  rw [e1]
  refine parted_words _ _ (nameOf_ne _) ?_
  intro w hw
  obtain ⟨p, _, rfl⟩ := List.mem_map.1 hw
  exact tellE_ne p e
theorem numP_itoa {n : Int} (h0 : -9223372036854775808 ≤ n) (h1 : n ≤ 9223372036854775807) : numP (itoa n) = some n := by rw [numP_eq]; exact refInt_whole h0 h1
theorem numP_sound {w : List UInt8} {n : Int} (h : numP w = some n) : itoa n = w ∧ -9223372036854775808 ≤ n ∧ n ≤ 9223372036854775807 := by
  rw [numP_eq] at h
  obtain ⟨a, b, c⟩ := refInt_sound h
  exact ⟨a.symm, b, c⟩
/-- A plain event's kind, and what it has. -/
theorem plain_cases {e : Ev} (h : plainP e = true) : ((e.kind = 1 ∨ e.kind = 2 ∨ e.kind = 3 ∨ e.kind = 4) ∨ (e.kind = 5 ∨ e.kind = 6 ∨ e.kind = 7 ∨ e.kind = 8)) ∧ (partsOf e.kind.toNat).foldl (fun t p => putE p t e) (ev0 e.kind) = e ∧ (e.c = 0 ∨ e.c = 1) ∧ e.bytes.length ≤ 600 := by
  simp only [plainP, Bool.and_eq_true, decide_eq_true_eq] at h
  exact ⟨by omega, h.2.1, h.2.2.1, h.2.2.2⟩
theorem parse_text {e : Ev} (h : plainP e = true) (ok : EvOk e) : parseE (textE e) = some e := by
  obtain ⟨hk, hf, hc, hb⟩ := plain_cases h
  obtain ⟨k, a, b, c, d, s, l⟩ := e
  obtain ⟨a0, a1, b0, b1, d0, d1, s1⟩ := ok
  simp only at hk hf hc hb a0 a1 b0 b1 d0 d1 s1
  have hk18 : 1 ≤ k.toNat ∧ k.toNat ≤ 8 := by omega
  have hkk : ((k.toNat : Nat) : Int) = k := by omega
  unfold parseE
  rw [textE_parted, List.headD_cons, List.tail_cons]
  simp only
  rw [kindB_name _ hk18.1 hk18.2]
  unfold parseK
  rw [if_neg (by omega), if_pos (by simp), hkk]
  have na := numP_itoa a0 a1
  have nb := numP_itoa b0 b1
  have nd := numP_itoa d0 d1
  have ns := adr_whole s1
  have nl := data_text hb
  clear h hkk hk18
  rcases hk with (rfl | rfl | rfl | rfl) | (rfl | rfl | rfl | rfl)
  all_goals
    simp only [partsOf, Int.toNat_one, Int.reduceToNat, List.foldl_cons, List.foldl_nil, putE, ev0, Ev.mk.injEq, true_and, and_true] at hf
    simp only [partsOf, Int.toNat_one, Int.reduceToNat, List.map_cons, List.map_nil, readAll, List.headD_cons, List.tail_cons]
    simp only [tellE]
    rcases hc with rfl | rfl
    all_goals
      simp [readE, na, nb, nd, ns, nl, ev0, upS, downS]
      try simp only [hf, and_self]
      try simp [← hf.1, ← hf.2.1]
      try simp [← hf.1, ← hf.2.1, ← hf.2.2.1, ← hf.2.2.2.1]
      try (simp at hf; done)
theorem readAll_sound {k : Nat} (h1 : 1 ≤ k) (h8 : k ≤ 8) {ws : List (List UInt8)} {e : Ev} (hl : ws.length = (partsOf k).length) (h : readAll (partsOf k) ws (ev0 k) = some e) :
    e.kind = k ∧ EvOk e ∧ plainP e = true ∧ (partsOf k).map (fun p => tellE p e) = ws := by
  have hn : ∀ (w : List UInt8), numP w = none ∨ ∃ n, numP w = some n ∧ itoa n = w ∧ -9223372036854775808 ≤ n ∧ n ≤ 9223372036854775807 := by
    intro w
    cases hw : numP w with
    | none => exact .inl rfl
    | some n => exact .inr ⟨n, rfl, numP_sound hw⟩
  have ha : ∀ (w : List UInt8), adr w = none ∨ ∃ n, adr w = some n ∧ textA n = w ∧ n < 4294967296 := by
    intro w
    cases hw : adr w with
    | none => exact .inl rfl
    | some n => obtain ⟨x, y⟩ := adr_sound hw; exact .inr ⟨n, rfl, y.symm, x⟩
  have hx : ∀ (w : List UInt8), dataW w = none ∨ ∃ l, dataW w = some l ∧ hexW l = w ∧ l.length ≤ 600 := by
    intro w
    cases hw : dataW w with
    | none => exact .inl rfl
    | some l => exact .inr ⟨l, rfl, data_sound hw⟩
  have hc : ∀ (w : List UInt8) (e0 : Ev), e0.c = 0 → readE .c w e0 = none ∨ ∃ c, readE .c w e0 = some { e0 with c := c } ∧ (c = 0 ∨ c = 1) ∧ (if c.tmod 2 ≠ 0 then upS else downS) = w := by
    intro w e0 h0
    simp only [readE]
    by_cases hu : w = upS
    · rw [if_pos hu]; exact .inr ⟨1, rfl, .inr rfl, by rw [hu]; decide⟩
    · rw [if_neg hu]
      by_cases hd : w = downS
      · rw [if_pos hd]; exact .inr ⟨0, by rw [← h0], .inl rfl, by rw [hd]; decide⟩
      · rw [if_neg hd]; exact .inl rfl
  have : k = 1 ∨ k = 2 ∨ k = 3 ∨ k = 4 ∨ k = 5 ∨ k = 6 ∨ k = 7 ∨ k = 8 := by omega
  rcases this with rfl | rfl | rfl | rfl | rfl | rfl | rfl | rfl
  · match ws, hl with
    | [w1], _ =>
      rcases hn w1 with h1 | ⟨n1, h1, t1, l1, u1⟩
      · simp [partsOf, readAll, readE, h1] at h
      · simp [partsOf, readAll, readE, h1, ev0] at h
        subst h
        exact ⟨rfl, ⟨by simp [ev0], by simp [ev0], by simp [ev0], by simp [ev0], l1, u1, by simp [ev0]⟩, by simp [plainP, partsOf, putE, ev0], by simp [partsOf, tellE, t1]⟩
  · match ws, hl with
    | [w1, w2], _ =>
      rcases hn w1 with h1 | ⟨n1, h1, t1, l1, u1⟩
      · simp [partsOf, readAll, readE, h1] at h
      · rcases hn w2 with h2 | ⟨n2, h2, t2, l2, u2⟩
        · simp [partsOf, readAll, readE, h1, h2] at h
        · simp [partsOf, readAll, readE, h1, h2, ev0] at h
          subst h
          exact ⟨rfl, ⟨l1, u1, by simp [ev0], by simp [ev0], l2, u2, by simp [ev0]⟩, by simp [plainP, partsOf, putE, ev0], by simp [partsOf, tellE, t1, t2]⟩
  · match ws, hl with
    | [w1, w2], _ =>
      rcases hn w1 with h1 | ⟨n1, h1, t1, l1, u1⟩
      · simp [partsOf, readAll, readE, h1] at h
      · rcases hn w2 with h2 | ⟨n2, h2, t2, l2, u2⟩
        · simp [partsOf, readAll, readE, h1, h2] at h
        · simp [partsOf, readAll, readE, h1, h2, ev0] at h
          subst h
          exact ⟨rfl, ⟨l1, u1, by simp [ev0], by simp [ev0], l2, u2, by simp [ev0]⟩, by simp [plainP, partsOf, putE, ev0], by simp [partsOf, tellE, t1, t2]⟩
  · match ws, hl with
    | [w1], _ =>
      rcases hn w1 with h1 | ⟨n1, h1, t1, l1, u1⟩
      · simp [partsOf, readAll, readE, h1] at h
      · simp [partsOf, readAll, readE, h1, ev0] at h
        subst h
        exact ⟨rfl, ⟨l1, u1, by simp [ev0], by simp [ev0], by simp [ev0], by simp [ev0], by simp [ev0]⟩, by simp [plainP, partsOf, putE, ev0], by simp [partsOf, tellE, t1]⟩
  · match ws, hl with
    | [w1, w2], _ =>
      rcases hn w1 with h1 | ⟨n1, h1, t1, l1, u1⟩
      · simp [partsOf, readAll, readE, h1] at h
      · rcases hc w2 { ev0 5 with a := n1 } rfl with h2 | ⟨c2, h2, k2, t2⟩
        · have hh := h
          simp only [partsOf, readAll, List.headD_cons, List.tail_cons] at hh
          rw [show readE .a w1 (ev0 ((5 : Nat) : Int)) = some { ev0 5 with a := n1 } by simp [readE, h1], Option.bind_some, h2] at hh
          cases hh
        · simp only [partsOf, readAll, List.headD_cons, List.tail_cons] at h
          rw [show readE .a w1 (ev0 ((5 : Nat) : Int)) = some { ev0 5 with a := n1 } by simp [readE, h1], Option.bind_some, h2, Option.bind_some, Option.some.injEq] at h
          subst h
          exact ⟨rfl, ⟨l1, u1, by simp [ev0], by simp [ev0], by simp [ev0], by simp [ev0], by simp [ev0]⟩, by simp [plainP, partsOf, putE, ev0, k2], by simp only [partsOf, List.map_cons, List.map_nil, tellE]; rw [t1, t2]⟩
  · match ws, hl with
    | [w1, w2, w3, w4], _ =>
      rcases hn w1 with h1 | ⟨n1, h1, t1, l1, u1⟩
      · simp [partsOf, readAll, readE, h1] at h
      · rcases hn w2 with h2 | ⟨n2, h2, t2, l2, u2⟩
        · simp [partsOf, readAll, readE, h1, h2] at h
        · have e1 : readE .a w1 (ev0 ((6 : Nat) : Int)) = some { ev0 6 with a := n1 } := by simp [readE, h1]
          have e2 : readE .b w2 { ev0 6 with a := n1 } = some { ev0 6 with a := n1, b := n2 } := by simp [readE, h2]
          simp only [partsOf, readAll, List.headD_cons, List.tail_cons] at h
          rw [e1, Option.bind_some, e2, Option.bind_some] at h
          rcases hc w3 { ev0 6 with a := n1, b := n2 } rfl with h3 | ⟨c3, h3, k3, t3⟩
          · rw [h3] at h; cases h
          · rw [h3, Option.bind_some] at h
            rcases hn w4 with h4 | ⟨n4, h4, t4, l4, u4⟩
            · simp [readE, h4] at h
            · simp [readE, h4] at h
              subst h
              exact ⟨rfl, ⟨l1, u1, l2, u2, l4, u4, by simp [ev0]⟩, by simp [plainP, partsOf, putE, ev0, k3], by simp only [partsOf, List.map_cons, List.map_nil, tellE]; rw [t1, t2, t3, t4]⟩
  · match ws, hl with
    | [w1, w2], _ =>
      rcases hn w1 with h1 | ⟨n1, h1, t1, l1, u1⟩
      · simp [partsOf, readAll, readE, h1] at h
      · rcases hn w2 with h2 | ⟨n2, h2, t2, l2, u2⟩
        · simp [partsOf, readAll, readE, h1, h2] at h
        · simp [partsOf, readAll, readE, h1, h2, ev0] at h
          subst h
          exact ⟨rfl, ⟨l1, u1, by simp [ev0], by simp [ev0], l2, u2, by simp [ev0]⟩, by simp [plainP, partsOf, putE, ev0], by simp [partsOf, tellE, t1, t2]⟩
  · match ws, hl with
    | [w1, w2, w3, w4, w5], _ =>
      rcases hn w1 with h1 | ⟨n1, h1, t1, l1, u1⟩
      · simp [partsOf, readAll, readE, h1] at h
      · rcases hn w2 with h2 | ⟨n2, h2, t2, l2, u2⟩
        · simp [partsOf, readAll, readE, h1, h2] at h
        · rcases ha w3 with h3 | ⟨n3, h3, t3, u3⟩
          · simp [partsOf, readAll, readE, h1, h2, h3] at h
          · rcases hx w4 with h4 | ⟨n4, h4, t4, u4⟩
            · simp [partsOf, readAll, readE, h1, h2, h3, h4] at h
            · rcases hn w5 with h5 | ⟨n5, h5, t5, l5, u5⟩
              · simp [partsOf, readAll, readE, h1, h2, h3, h4, h5] at h
              · simp [partsOf, readAll, readE, h1, h2, h3, h4, h5, ev0] at h
                subst h
                exact ⟨rfl, ⟨l1, u1, l2, u2, l5, u5, u3⟩, by simp [plainP, partsOf, putE, ev0, u4], by simp [partsOf, tellE, t1, t2, t3, t4, t5]⟩
/-- What is read is a plain event, whose line it is. -/
theorem parse_sound {s : List UInt8} {e : Ev} (h : parseE s = some e) : plainP e = true ∧ EvOk e ∧ textE e = s := by
  unfold parseE parseK at h
  split at h
  · cases h
  · rename_i hk
    split at h
    · rename_i hl
      obtain ⟨hn, h9⟩ := kindUp_name 9 _ hk
      obtain ⟨ek, ok, hp, ht⟩ := readAll_sound (by unfold kindB at *; omega) (by unfold kindB; omega) hl h
      refine ⟨hp, ok, ?_⟩
      have hk2 : e.kind.toNat = kindB ((parted 32 s).headD []) := by omega
      unfold textE
      rw [hk2, ← List.flatMap_map (fun p => tellE p e) (fun w => 32 :: w), ht]
      have : nameOf (kindB ((parted 32 s).headD [])) = (parted 32 s).headD [] := hn
      rw [this]
      exact parted_join 32 s
    · cases h
end Go.Proofs.YtbfimimhgdkpaaaGreatDoor

/- Package script: need, the parts of a line (put, tell, read of the simple ones). No condition. -/
namespace Go.Proofs.YtbfimimhgdkpaaaGreatDoor
open Go.RowKit

abbrev faultV (e : Int) : Value := .iface 93 (.agg #[.int .i64 e])
abbrev gaveS (e : Int) : Ending := .panicked [{ v := faultV e, recovered := false }]

theorem need_ok (n : Int) (w : World) : Calls Tryz.prog 45 #[.bool true, .int .i64 n] w fun e w' => e = .returned (.tuple #[]) ∧ w' = w := by
  go_enter Tryz.func45, Tryz.ntmps45
  go_wp2
  go_end0
  exact ⟨rfl, rfl⟩
theorem need_no (n : Int) (w : World) : Calls Tryz.prog 45 #[.bool false, .int .i64 n] w fun e w' => e = gaveS n ∧ w' = w := by
  go_enter Tryz.func45, Tryz.ntmps45
  go_wp2
  exact ⟨rfl, rfl, rfl⟩

def evC (e : Ev) (bv : Value) : Array Value := #[.int .i64 e.kind, .int .i64 e.a, .int .i64 e.b, .int .i64 e.c, .int .i64 e.draw, .int .u32 (e.src : Int), bv]
abbrev evV (e : Ev) (bv : Value) : Value := .agg #[.int .i64 e.kind, .int .i64 e.a, .int .i64 e.b, .int .i64 e.c, .int .i64 e.draw, .int .u32 (e.src : Int), bv]

theorem of_a (b : Nat) (o : Nat) (w : World) : Calls Tryz.prog 87 #[.pointer (some ⟨b, 0, none⟩)] w fun e w' => e = .returned (.pointer (some ⟨b, 1, none⟩)) ∧ w' = w := by
  go_enter Tryz.func87, Tryz.ntmps87
  go_wp2
  go_ret
  exact ⟨rfl, rfl⟩
theorem of_b (b : Nat) (o : Nat) (w : World) : Calls Tryz.prog 88 #[.pointer (some ⟨b, 0, none⟩)] w fun e w' => e = .returned (.pointer (some ⟨b, 2, none⟩)) ∧ w' = w := by
  go_enter Tryz.func88, Tryz.ntmps88
  go_wp2
  go_ret
  exact ⟨rfl, rfl⟩
theorem of_d (b : Nat) (o : Nat) (w : World) : Calls Tryz.prog 90 #[.pointer (some ⟨b, 0, none⟩)] w fun e w' => e = .returned (.pointer (some ⟨b, 4, none⟩)) ∧ w' = w := by
  go_enter Tryz.func90, Tryz.ntmps90
  go_wp2
  go_ret
  exact ⟨rfl, rfl⟩

set_option maxRecDepth 100000 in
set_option maxHeartbeats 400000 in
theorem put_turn (g : Nat) (T : TypeId) (cs : Array Value) (h3 : 3 < cs.size) (f : Ev) (fv : Value) (w : World) (B : Blk w g T cs) :
    Calls Tryz.prog 133 #[.pointer (some ⟨g, 0, none⟩), evV f fv] w fun e w' => e = .returned (.tuple #[]) ∧ Blk w' g T (cs.setIfInBounds 3 (.int .i64 f.c)) ∧ Only [g] w w' := by
  have hg := B.lt
  have hne : ¬ g = w.heap.size := by omega
  have hne2 : ¬ w.heap.size = g := by omega
  have c3 : w.cell? ⟨g, 3, none⟩ = some cs[3] := by rw [B.cell 3, Array.getElem?_eq_getElem h3]
  have f3 := B.frozen 3
  go_enter Tryz.func133, Tryz.ntmps133
  go_wp2
  go_end0
  exact ⟨rfl, (B.set_ 3 _).alloc _, ((Only.refl _ _).setCell (.inl (by simp)) _).alloc _⟩

set_option maxRecDepth 100000 in
set_option maxHeartbeats 400000 in
theorem put_src (g : Nat) (T : TypeId) (cs : Array Value) (h3 : 5 < cs.size) (f : Ev) (fv : Value) (w : World) (B : Blk w g T cs) :
    Calls Tryz.prog 136 #[.pointer (some ⟨g, 0, none⟩), evV f fv] w fun e w' => e = .returned (.tuple #[]) ∧ Blk w' g T (cs.setIfInBounds 5 (.int .u32 (f.src : Int))) ∧ Only [g] w w' := by
  have hg := B.lt
  have hne : ¬ g = w.heap.size := by omega
  have hne2 : ¬ w.heap.size = g := by omega
  have c3 : w.cell? ⟨g, 5, none⟩ = some cs[5] := by rw [B.cell 5, Array.getElem?_eq_getElem h3]
  have f3 := B.frozen 5
  go_enter Tryz.func136, Tryz.ntmps136
  go_wp2
  go_end0
  exact ⟨rfl, (B.set_ 5 _).alloc _, ((Only.refl _ _).setCell (.inl (by simp)) _).alloc _⟩

set_option maxRecDepth 100000 in
set_option maxHeartbeats 400000 in
theorem put_data (g : Nat) (T : TypeId) (cs : Array Value) (h3 : 6 < cs.size) (f : Ev) (A : Option Addr) (n c : Nat) (w : World) (B : Blk w g T cs) :
    Calls Tryz.prog 139 #[.pointer (some ⟨g, 0, none⟩), evV f (.slice A n c)] w fun e w' => e = .returned (.tuple #[]) ∧ Blk w' g T (cs.setIfInBounds 6 (.slice A n c)) ∧ Only [g] w w' := by
  have hg := B.lt
  have hne : ¬ g = w.heap.size := by omega
  have hne2 : ¬ w.heap.size = g := by omega
  have c3 : w.cell? ⟨g, 6, none⟩ = some cs[6] := by rw [B.cell 6, Array.getElem?_eq_getElem h3]
  have f3 := B.frozen 6
  go_enter Tryz.func139, Tryz.ntmps139
  go_wp2
  go_end0
  exact ⟨rfl, (B.set_ 6 _).alloc _, ((Only.refl _ _).setCell (.inl (by simp)) _).alloc _⟩

set_option maxRecDepth 100000 in
set_option maxHeartbeats 400000 in
theorem put_a (g b : Nat) (T : TypeId) (cs : Array Value) (h3 : 1 < cs.size) (f : Ev) (fv : Value) (w : World) (B : Blk w g T cs) (hbg : ¬ b = g) (hb : w.cell? ⟨b, 0, none⟩ = some (.func (.func 87) #[] #[])) :
    Calls Tryz.prog 124 #[.pointer (some ⟨g, 0, none⟩), evV f fv, .pointer (some ⟨b, 0, none⟩)] w fun e w' => e = .returned (.tuple #[]) ∧ Blk w' g T (cs.setIfInBounds 1 (.int .i64 f.a)) ∧ Only [g] w w' := by
  have hg := B.lt
  have hblt := World.block_lt_of_cell? w _ hb
  simp only at hblt
  have hne : ¬ g = w.heap.size := by omega
  have hne2 : ¬ w.heap.size = g := by omega
  have hne3 : ¬ b = w.heap.size := by omega
  have c3 : w.cell? ⟨g, 1, none⟩ = some cs[1] := by rw [B.cell 1, Array.getElem?_eq_getElem h3]
  have f3 := B.frozen 1
  have k1 : ∀ (u : Value) (o : Obj), ((w.setCell ⟨g, 1, none⟩ u).alloc o).cell? ⟨b, 0, none⟩ = some (.func (.func 87) #[] #[]) := fun u o => ((Kp.refl _).alloc o).cell ((World.cell?_setCell_other _ _ _ _ (by simp [hbg])).trans hb)
  have k2 : ∀ (u x y z v : Value), ((w.setCell ⟨g, 1, none⟩ u).alloc (.cells #[x, y, z, v, .int .i64 f.draw, .int .u32 (f.src : Int), fv] 27)).cell? ⟨w.heap.size, 1, none⟩ = some y := fun u x y z v => by
    have h := Blk.cell (Blk.new (w.setCell ⟨g, 1, none⟩ u) 27 #[x, y, z, v, .int .i64 f.draw, .int .u32 (f.src : Int), fv]) 1
    have e : (w.setCell ⟨g, 1, none⟩ u).heap.size = w.heap.size := by simp [World.setCell]
    rw [e] at h
    exact h
  go_enter Tryz.func124, Tryz.ntmps124
  go_wp2_with fail
  go_region_held3 (fun w' => w'.cell? ⟨b, 0, none⟩ = some (.func (.func 87) #[] #[]) ∧ w'.cell? ⟨w.heap.size, 1, none⟩ = some (.int .i64 f.a)) (first | go_keep | exact ⟨k1 _ _, k2 _ _ _ _ _⟩) (first | (go_at_call 87; refine (of_a _ 0 _).mono ?_; rintro e w' ⟨rfl, rfl⟩))
  all_goals (try go_wp2_with fail)
  all_goals go_end0
  all_goals exact ⟨rfl, ((B.set_ 1 _).alloc _).drew, (((Only.refl _ _).setCell (.inl (by simp)) _).alloc _).drew⟩

set_option maxRecDepth 100000 in
set_option maxHeartbeats 400000 in
theorem put_b (g b : Nat) (T : TypeId) (cs : Array Value) (h3 : 2 < cs.size) (f : Ev) (fv : Value) (w : World) (B : Blk w g T cs) (hbg : ¬ b = g) (hb : w.cell? ⟨b, 0, none⟩ = some (.func (.func 88) #[] #[])) :
    Calls Tryz.prog 124 #[.pointer (some ⟨g, 0, none⟩), evV f fv, .pointer (some ⟨b, 0, none⟩)] w fun e w' => e = .returned (.tuple #[]) ∧ Blk w' g T (cs.setIfInBounds 2 (.int .i64 f.b)) ∧ Only [g] w w' := by
  have hg := B.lt
  have hblt := World.block_lt_of_cell? w _ hb
  simp only at hblt
  have hne : ¬ g = w.heap.size := by omega
  have hne2 : ¬ w.heap.size = g := by omega
  have hne3 : ¬ b = w.heap.size := by omega
  have c3 : w.cell? ⟨g, 2, none⟩ = some cs[2] := by rw [B.cell 2, Array.getElem?_eq_getElem h3]
  have f3 := B.frozen 2
  have k1 : ∀ (u : Value) (o : Obj), ((w.setCell ⟨g, 2, none⟩ u).alloc o).cell? ⟨b, 0, none⟩ = some (.func (.func 88) #[] #[]) := fun u o => ((Kp.refl _).alloc o).cell ((World.cell?_setCell_other _ _ _ _ (by simp [hbg])).trans hb)
  have k2 : ∀ (u x y z v : Value), ((w.setCell ⟨g, 2, none⟩ u).alloc (.cells #[x, y, z, v, .int .i64 f.draw, .int .u32 (f.src : Int), fv] 27)).cell? ⟨w.heap.size, 2, none⟩ = some z := fun u x y z v => by
    have h := Blk.cell (Blk.new (w.setCell ⟨g, 2, none⟩ u) 27 #[x, y, z, v, .int .i64 f.draw, .int .u32 (f.src : Int), fv]) 2
    have e : (w.setCell ⟨g, 2, none⟩ u).heap.size = w.heap.size := by simp [World.setCell]
    rw [e] at h
    exact h
  go_enter Tryz.func124, Tryz.ntmps124
  go_wp2_with fail
  go_region_held3 (fun w' => w'.cell? ⟨b, 0, none⟩ = some (.func (.func 88) #[] #[]) ∧ w'.cell? ⟨w.heap.size, 2, none⟩ = some (.int .i64 f.b)) (first | go_keep | exact ⟨k1 _ _, k2 _ _ _ _ _⟩) (first | (go_at_call 88; refine (of_b _ 0 _).mono ?_; rintro e w' ⟨rfl, rfl⟩))
  all_goals (try go_wp2_with fail)
  all_goals go_end0
  all_goals exact ⟨rfl, ((B.set_ 2 _).alloc _).drew, (((Only.refl _ _).setCell (.inl (by simp)) _).alloc _).drew⟩

set_option maxRecDepth 100000 in
set_option maxHeartbeats 400000 in
theorem put_d (g b : Nat) (T : TypeId) (cs : Array Value) (h3 : 4 < cs.size) (f : Ev) (fv : Value) (w : World) (B : Blk w g T cs) (hbg : ¬ b = g) (hb : w.cell? ⟨b, 0, none⟩ = some (.func (.func 90) #[] #[])) :
    Calls Tryz.prog 130 #[.pointer (some ⟨g, 0, none⟩), evV f fv, .pointer (some ⟨b, 0, none⟩)] w fun e w' => e = .returned (.tuple #[]) ∧ Blk w' g T (cs.setIfInBounds 4 (.int .i64 f.draw)) ∧ Only [g] w w' := by
  have hg := B.lt
  have hblt := World.block_lt_of_cell? w _ hb
  simp only at hblt
  have hne : ¬ g = w.heap.size := by omega
  have hne2 : ¬ w.heap.size = g := by omega
  have hne3 : ¬ b = w.heap.size := by omega
  have c3 : w.cell? ⟨g, 4, none⟩ = some cs[4] := by rw [B.cell 4, Array.getElem?_eq_getElem h3]
  have f3 := B.frozen 4
  have k1 : ∀ (u : Value) (o : Obj), ((w.setCell ⟨g, 4, none⟩ u).alloc o).cell? ⟨b, 0, none⟩ = some (.func (.func 90) #[] #[]) := fun u o => ((Kp.refl _).alloc o).cell ((World.cell?_setCell_other _ _ _ _ (by simp [hbg])).trans hb)
  have k2 : ∀ (u x y z v : Value), ((w.setCell ⟨g, 4, none⟩ u).alloc (.cells #[x, y, z, v, .int .i64 f.draw, .int .u32 (f.src : Int), fv] 27)).cell? ⟨w.heap.size, 4, none⟩ = some (.int .i64 f.draw) := fun u x y z v => by
    have h := Blk.cell (Blk.new (w.setCell ⟨g, 4, none⟩ u) 27 #[x, y, z, v, .int .i64 f.draw, .int .u32 (f.src : Int), fv]) 4
    have e : (w.setCell ⟨g, 4, none⟩ u).heap.size = w.heap.size := by simp [World.setCell]
    rw [e] at h
    exact h
  go_enter Tryz.func130, Tryz.ntmps130
  go_wp2_with fail
  go_region_held3 (fun w' => w'.cell? ⟨b, 0, none⟩ = some (.func (.func 90) #[] #[]) ∧ w'.cell? ⟨w.heap.size, 4, none⟩ = some (.int .i64 f.draw)) (first | go_keep | exact ⟨k1 _ _, k2 _ _ _ _ _⟩) (first | (go_at_call 90; refine (of_d _ 0 _).mono ?_; rintro e w' ⟨rfl, rfl⟩))
  all_goals (try go_wp2_with fail)
  all_goals go_end0
  all_goals exact ⟨rfl, ((B.set_ 4 _).alloc _).drew, (((Only.refl _ _).setCell (.inl (by simp)) _).alloc _).drew⟩
end Go.Proofs.YtbfimimhgdkpaaaGreatDoor
