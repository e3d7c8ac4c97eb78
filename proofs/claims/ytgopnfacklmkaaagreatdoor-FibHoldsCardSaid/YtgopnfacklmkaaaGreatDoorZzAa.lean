/- Lemmas and contracts for the theorem of this claim: Base, Rec, Cel2, Cel, Reg. -/
import Derived.WalkKit
import Derived.Handy
import Derived.WalkLawsBesides
import Derived.WalkSpells
import Derived.Lib.Hide
import Derived.Deep.QuietTactic
import Derived.BigQuiet
import Derived.Laws.EntriesVeiled
import Derived.StillTailTactics
import Derived.Deep.DeepCutAuto
import Derived.Deep.RegionHeld3
import Derived.Deep.AppendLies
set_option linter.all false
set_option maxHeartbeats 16000000
namespace Go.Proofs.YtgopnfacklmkaaaGreatDoor
section
open Go.RowKit
def Kp (w w' : World) : Prop := Below w.heap.size w w'
theorem Kp.refl (w : World) : Kp w w := Below.refl _ _
theorem Kp.trans {a b c : World} (h : Kp a b) (k : Kp b c) : Kp a c := Below.trans h (Below.mono k h.size)
theorem Kp.size {a b : World} (h : Kp a b) : a.heap.size ≤ b.heap.size := Below.size h
theorem Kp.cell {w w' : World} (h : Kp w w') {p : Addr} {v : Value} (hc : w.cell? p = some v) : w'.cell? p = some v :=
 (Below.cell h (World.block_lt_of_cell? w p hc)).trans hc
theorem Kp.heap {w w' : World} (h : Kp w w') {k : Nat} (hk : k < w.heap.size) : w'.heap[k]? = w.heap[k]? := Below.block h k hk
theorem Kp.alloc {a w : World} (h : Kp a w) (o : Obj) : Kp a (w.alloc o) := Below.alloc h h.size o
theorem Kp.drew {a w : World} (h : Kp a w) : Kp a w.drew := Below.drew h
theorem Kp.drewN {a w : World} (h : Kp a w) (n : Nat) : Kp a (w.drewN n) := by
 have hh : Below a.heap.size a w := h
 exact ⟨hh.os, hh.tape, hh.output, hh.size, hh.block⟩
theorem Kp.setCell {a w : World} (h : Kp a w) {p : Addr} (hp : a.heap.size ≤ p.block) (u : Value) : Kp a (w.setCell p u) := Below.setCell h hp u
theorem Kp.grown {a w w' : World} {row : Option Nat} (h : Kp a w) (hg : w.grownBy w' row) (hr : ∀ k, row = some k → a.heap.size ≤ k) : Kp a w' := Below.grown h hg h.size hr
def Rd {α : Type} (w : World) (sz : Nat) (enc : α → List Value) (A : Option Addr) (xs : List α) : Prop :=
 ∀ (i : Nat) (h : i < xs.length), ∃ b off : Nat, A = some ⟨b, off, none⟩ ∧ ∀ (j : Nat) (u : Value), (enc (xs[i]'h))[j]? = some u → w.cell? ⟨b, off + i * sz + j, none⟩ = some u
section
variable {α : Type} {w w' : World} {sz : Nat} {enc : α → List Value} {A : Option Addr} {xs : List α}
theorem Rd.keep (h : Rd w sz enc A xs) (k : Kp w w') : Rd w' sz enc A xs := fun i hi => by
 obtain ⟨b, off, e, hc⟩ := h i hi
 exact ⟨b, off, e, fun j u hu => k.cell (hc j u hu)⟩
theorem Rd.nil (w : World) (sz : Nat) (enc : α → List Value) (A : Option Addr) : Rd w sz enc A [] := fun i hi => absurd hi (by simp)
end
def ElemOf (P : Program) (t e : TypeId) (z : Value) (size bytes : Nat) : Prop :=
 P.underlying t = some (.slice e) ∧ (P.info? e).map (fun i => (i.zero, i.size, i.bytes)) = some (some z, size, bytes) ∧ z.cells.size = size ∧ 0 < size
theorem vfp {w w1 : World} {o : Obj} {row : Option Nat} (hg : (w.alloc o).grownBy w1 row) : w.grownBy w1 row :=
 ⟨hg.os, hg.tape, hg.output, Nat.le_trans (by simp) hg.size, fun k hk hne => (hg.block k (by simp; omega) hne).trans (Below.heap_alloc w o k hk)⟩
theorem vge {P : Program} {t e e' : TypeId} {z : Value} {size bytes : Nat} (E : ElemOf P t e z size bytes) {w0 W : World} {ops : Array Oper} {rest : List Oper} {o : Oper} {a : Act} {Q : Exit → Act → World → Prop}
  (hgd : o.guard = none) (s x : Operand) (ho : o.op = .call { callee := .builtin .append, args := #[s, x], argTypes := #[t, t] })
  {base n : Nat} {v : Value} {xs news : List Value} (hs : a.eval s = v) (hown : W.ownsRow base e size v n xs) (hK : Kp w0 W) (hb : w0.heap.size ≤ base) (hbase : base ≤ W.heap.size)
  {N : Nat} (hx : a.eval x = .slice (some ⟨N, 0, none⟩) 1 1) (hN : N = W.heap.size) (hl : news.length = size) (h1 : news.all (fun u => u.oneCell') = true) (hfit : (n + 1) * (bytes + 1) ≤ 140737488355328)
  (h : ∀ v' w', w'.ownsRow base e size v' (n + 1) (xs ++ news) → Kp w0 w' → W.grownBy w' v.ownBlock → wpList P ops Q rest (a.put o.dst v') w') : wpList P ops Q (o :: rest) a (W.alloc (.cells news.toArray e')) := by
 obtain ⟨ht, hinfo, hzs, hsz⟩ := E
 obtain ⟨i, hi, hz, hsize, hby⟩ := info_parts hinfo
 subst hN
 have hb2 : (n + 1) * (bytes + 1) = (n + 1) * bytes + (n + 1) := by rw [Nat.mul_add, Nat.mul_one]
 refine wpList_append_own _ hgd s x t ho base e i z size bytes ht hi hz hsize hby hzs hsz v n xs hs (hown.alloc _) ⟨W.heap.size, 0, none⟩ 1 1 news hx (by omega) ?_ (by simpa using h1) (by simp only [maxLen]; omega) (by omega) (by simp; omega) ?_
 ·intro j u hu
  have hadd : (⟨W.heap.size, 0, none⟩ : Addr).add j = ⟨W.heap.size, j, none⟩ := by unfold Addr.add; split <;> simp_all
  rw [hadd, World.cell?_alloc_at _ _ _ _ rfl]
  simpa using hu
 ·intro v' w' ho' hg _
  exact h v' w' ho' (hK.grown (vfp hg) (fun k hk => Nat.le_trans hb (hown.lt k hk).1)) (vfp hg)
theorem vaN {α : Type} {sz : Nat} {enc : α → List Value} (henc : ∀ x, (enc x).length = sz) (xs : List α) : (xs.flatMap enc).length = xs.length * sz := by
 induction xs with
 | nil => simp
 | cons y ys ih => simp only [List.flatMap_cons, List.length_append, List.length_cons, ih, henc, Nat.add_mul]; omega
theorem Rd.of_own {α : Type} {w : World} {base e sz : Nat} {enc : α → List Value} {A : Option Addr} {n c : Nat} {xs : List α} (hs : 0 < sz) (henc : ∀ x, (enc x).length = sz)
  (h : w.ownsRow base e sz (.slice A n c) n (xs.flatMap enc)) : Rd w sz enc A xs := by
 intro i hi
 have hlen : (xs.flatMap enc).length = xs.length * sz := vaN henc xs
 have hget : ∀ (xs : List α) (i : Nat) (hi : i < xs.length) (j : Nat) (u : Value), (enc (xs[i]'hi))[j]? = some u → (xs.flatMap enc)[i * sz + j]? = some u := by
  intro xs
  induction xs with
  | nil => intro i hi; simp at hi
  | cons y ys ih =>
   intro i hi j u hu
   rw [List.flatMap_cons]
   cases i with
   | zero =>
    simp only [List.getElem_cons_zero] at hu
    have hj : j < (enc y).length := (List.getElem?_eq_some_iff.1 hu).1
    rw [Nat.zero_mul, Nat.zero_add, List.getElem?_append_left hj]
    exact hu
   | succ i =>
    simp only [List.getElem_cons_succ] at hu
    rw [List.getElem?_append_right (by rw [henc, Nat.add_mul]; omega), henc]
    have e : (i + 1) * sz + j - sz = i * sz + j := by rw [Nat.add_mul]; omega
    rw [e]
    exact ih i (by simpa using hi) j u hu
 rcases h.2 with ⟨hv, h0⟩ | ⟨g, cap, cur, hv, _⟩
 ·have h1 := h.1
  subst h0
  rw [hlen] at h1
  rcases Nat.eq_zero_or_pos xs.length with hx | hx
  ·omega
  ·have := Nat.mul_pos hx hs; omega
 ·have hA : A = some ⟨g, 0, none⟩ := by injection hv
  subst hA
  refine ⟨g, 0, rfl, fun j u hu => ?_⟩
  have := h.cells (g := g) rfl (i * sz + j) u (hget xs i hi j u hu)
  have hadd : (⟨g, 0, none⟩ : Addr).add (i * sz + j) = ⟨g, 0 + i * sz + j, none⟩ := by unfold Addr.add; split <;> simp_all
  rw [hadd] at this
  exact this
def Own {α : Type} (w : World) (base e sz : Nat) (enc : α → List Value) (v : Value) (xs : List α) : Prop := w.ownsRow base e sz v xs.length (xs.flatMap enc)
section
variable {α : Type} {w w' : World} {base e sz : Nat} {enc : α → List Value} {v : Value} {xs : List α}
theorem Own.nil (w : World) (base e sz : Nat) (enc : α → List Value) : Own w base e sz enc (.slice none 0 0) [] := World.ownsRow_nil _ _ _ _
theorem Own.alloc (h : Own w base e sz enc v xs) (o : Obj) : Own (w.alloc o) base e sz enc v xs := World.ownsRow.alloc h o
theorem Own.drew (h : Own w base e sz enc v xs) : Own w.drew base e sz enc v xs := h
theorem Own.mono {base' : Nat} (h : Own w base e sz enc v xs) (hb : base' ≤ base) : Own w base' e sz enc v xs := by
 refine ⟨h.1, ?_⟩
 rcases h.2 with h2 | ⟨g, cap, cur, hv, hg, r⟩
 ·exact .inl h2
 ·exact .inr ⟨g, cap, cur, hv, Nat.le_trans hb hg, r⟩
theorem Own.keep (h : Own w base e sz enc v xs) (k : Kp w w') : Own w' base e sz enc v xs := by
 refine ⟨h.1, ?_⟩
 rcases h.2 with h2 | ⟨g, cap, cur, hv, hg, hh, r⟩
 ·exact .inl h2
 ·exact .inr ⟨g, cap, cur, hv, hg, (k.heap (Array.getElem?_eq_some_iff.1 hh).1).trans hh, r⟩
theorem Own.form (h : Own w base e sz enc v xs) : ∃ A c, v = .slice A xs.length c := by
 rcases h.2 with ⟨rfl, h0⟩ | ⟨g, cap, cur, rfl, _⟩
 ·exact ⟨none, 0, by rw [h0]⟩
 ·exact ⟨_, _, rfl⟩
theorem Own.rd (hs : 0 < sz) (henc : ∀ x, (enc x).length = sz) (h : Own w base e sz enc v xs) : ∃ A c, v = .slice A xs.length c ∧ Rd w sz enc A xs := by
 obtain ⟨A, c, rfl⟩ := h.form
 exact ⟨A, c, rfl, Rd.of_own hs henc h⟩
end
theorem vaf {α : Type} {enc : α → List Value} {P : Program} {t e e' : TypeId} {z : Value} {size bytes : Nat} (E : ElemOf P t e z size bytes) {w0 W : World} {ops : Array Oper} {rest : List Oper} {o : Oper} {a : Act} {Q : Exit → Act → World → Prop}
  (hgd : o.guard = none) (s x : Operand) (ho : o.op = .call { callee := .builtin .append, args := #[s, x], argTypes := #[t, t] })
  {base : Nat} {v : Value} {xs : List α} {news : List Value} (y : α) (hs : a.eval s = v) (hown : Own W base e size enc v xs) (hK : Kp w0 W) (hb : w0.heap.size ≤ base) (hbase : base ≤ W.heap.size)
  {N : Nat} (hx : a.eval x = .slice (some ⟨N, 0, none⟩) 1 1) (hN : N = W.heap.size) (hnews : news = enc y) (hl : news.length = size) (h1 : news.all (fun u => u.oneCell') = true) (hfit : (xs.length + 1) * (bytes + 1) ≤ 140737488355328)
  (h : ∀ v' w', Own w' base e size enc v' (xs ++ [y]) → Kp w0 w' → W.grownBy w' v.ownBlock → wpList P ops Q rest (a.put o.dst v') w') : wpList P ops Q (o :: rest) a (W.alloc (.cells news.toArray e')) := by
 refine vge E hgd s x ho hs hown hK hb hbase hx hN hl h1 hfit (fun v' w' ho' hk hg => h v' w' ?_ hk hg)
 unfold Own
 rw [List.length_append, List.flatMap_append, List.length_singleton, List.flatMap_cons, List.flatMap_nil, List.append_nil, ← hnews]
 exact ho'
theorem vac {P : Program} {a : Act} {w : World} {Q : Exit → Act → World → Prop} {c rest : Code} (l : Nat) (hf : findLabel c l = some rest)
  (first : c.wp P (Exit.jump l (fun a w => rest.wp P (Exit.noGoto Q) a w) Q) a w) : (Code.scope c).wp P Q a w := by
 refine wp_scope_jumps l (fun a w => rest.wp P (Exit.noGoto Q) a w) (fun _ _ => 0) hf first (fun a w h => Code.wp_mono (fun e a w q => ?_) h)
 cases e <;> first | exact q | exact q.elim
theorem vak {l : Nat} {J : Act → World → Prop} {Q : Exit → Act → World → Prop} {a : Act} {w : World} (h : Q .ret a w) : Exit.jump l J Q .ret a w := h
theorem vbl {Q : Exit → Act → World → Prop} {a : Act} {w : World} (h : Q .ret a w) : Exit.noGoto Q .ret a w := h
end

section
open Go.RowKit
def recM : FrameMode → Value × FrameMode
 | .panicking ({ v, recovered := false, goexit := false } :: older) => (v, .panicking ({ v, recovered := true } :: older))
 | m => (.nilIface, m)
theorem veE (c : Frame) (cs : List Frame) : recoverD (c :: cs) = some ((recM c.mode).1, { c with mode := (recM c.mode).2 } :: cs) ∨ (recoverD (c :: cs) = none ∧ recM c.mode = (.nilIface, c.mode)) := by
 cases hm : c.mode with
 | run => right; simp [recoverD, recM, hm]
 | returning => right; simp [recoverD, recM, hm]
 | panicking chain =>
  rcases chain with _ | ⟨⟨v, r, g⟩, older⟩
  ·right; simp [recoverD, recM, hm]
  ·cases r <;> cases g <;> simp [recoverD, recM, hm]
theorem vav {P : Program} {fn : Func} {c₀ : Frame} {cs : List Frame} {R : Ending → FrameMode → World → Prop} {u' : FrameMode} {e : Exit} {a : Act} {w : World}
  (h : bodyPost P fn (fun e w => R e u' w) e a w) : bodyPostS P fn c₀ cs R e a ({ c₀ with mode := u' } :: cs) w := by
 cases e with
 | normal => obtain ⟨hd, v, hr, hR⟩ := h; exact ⟨hd, u', rfl, v, hr, hR⟩
 | ret => obtain ⟨hd, v, hr, hR⟩ := h; exact ⟨hd, u', rfl, v, hr, hR⟩
 | panic chain => obtain ⟨hd, hR⟩ := h; exact ⟨hd, u', rfl, hR⟩
 | outgrown => exact ⟨u', h⟩
 | exit id => exact h.elim
 | goto l => exact h.elim
theorem vcb {P : Program} {Q : Exit → Act → List Frame → World → Prop} {a : Act} {c : Frame} {cs : List Frame} {w : World} {id : Nat} {o : Oper} {rest : List Oper}
  (hg : o.guard = none) (hop : o.op = .call { callee := .builtin .recover, args := #[], argTypes := #[] })
  (h : wpList P (o :: rest).toArray (fun e a w => Q e a ({ c with mode := (recM c.mode).2 } :: cs) w) rest (a.put o.dst (recM c.mode).1) w) : (Code.region id (o :: rest).toArray false).wpS P Q a (c :: cs) w := by
 intro b k hb _
 have ho : ((o :: rest).toArray)[0]? = some o := by simp
 have hw : Region.wanted o (yielded (o :: rest).toArray a.tmps) = true := by simp [Region.wanted, hg]
 have hr : (execOp a.eval o).run P w = .ok .recover w := by simp [execOp, hop, resolve, invoke, builtin]
 have hl : wpOps P (o :: rest).toArray (fun e a w => Q e a ({ c with mode := (recM c.mode).2 } :: cs) w) (List.range' 1 rest.length) = wpList P (o :: rest).toArray (fun e a w => Q e a ({ c with mode := (recM c.mode).2 } :: cs) w) rest :=
  wpOps_eq_wpList rest 1 (fun j => by simp [Nat.add_comm 1 j])
 rw [← hl] at h
 obtain ⟨e, a', w', hq, harr⟩ := wp_ops _ _ _ h b k ({ c with mode := (recM c.mode).2 } :: cs)
 refine ⟨e, a', _, w', hq, .of_steps (.head step_region (.one ?_)) harr⟩
 have hrange : List.range ((o :: rest).toArray).size = 0 :: List.range' 1 rest.length := by
  rw [List.range_eq_range']; simp [List.range'_succ]
 rw [hrange]
 have hg' := stepG_op (P := P) (b := b) (k := k) (cs := c :: cs) (w := w) (rest := List.range' 1 rest.length) ho hw
 have hfin : ∀ v, (b.at a (.inRegion (o :: rest).toArray (0 :: List.range' 1 rest.length) :: k)).finish v = b.at (a.put o.dst v) (.inRegion (o :: rest).toArray (List.range' 1 rest.length) :: k) := by
  intro v; rw [Frame.finish_at, ho]; rfl
 have hk : (b.at a (.inRegion (o :: rest).toArray (0 :: List.range' 1 rest.length) :: k)).kind = .deferred := hb
 have htr := tryRecover_deferred hk (c :: cs)
 refine step_lone_go ?_
 rcases veE c cs with hrec | ⟨hrec, hm⟩
 ·rw [hg', ← hfin]
  simp only [Frame.at] at htr ⊢
  simp [stepG.apply, hr, htr, hrec]
 ·have hc : ({ c with mode := (recM c.mode).2 } : Frame) = c := by rw [hm]
  rw [hc, hm, hg', ← hfin]
  simp only [Frame.at] at htr ⊢
  simp [stepG.apply, hr, htr, hrec]
theorem vaC {P : Program} {f : FuncId} {fn : Func} {id : Nat} {o : Oper} {rest : List Oper} {y : Code} {args : Array Value} {u : FrameMode} {w : World} {R : Ending → FrameMode → World → Prop}
  (v : Value) (u' : FrameMode) (hm : recM u = (v, u'))
  (hf : P.funcs[f]? = some fn) (hb : fn.body = some (Code.seq (.region id (o :: rest).toArray false) y)) (hg : o.guard = none) (hop : o.op = .call { callee := .builtin .recover, args := #[], argTypes := #[] })
  (h : wpList P (o :: rest).toArray (Exit.then (y.wp P (bodyPost P fn (fun e w => R e u' w))) (bodyPost P fn (fun e w => R e u' w))) rest
   (Act.put { tmps := args ++ Array.replicate (fn.ntmps - args.size) undef, defers := [] } o.dst v) w) : CallsD P f args u w R := by
 refine callsD_of_wpS hf hb fun c₀ cs hu => ?_
 apply wpS_seq
 refine vcb hg hop ?_
 subst hu
 rw [hm]
 have key : ∀ (l : List Oper) (a : Act) (w : World), wpList P (o :: rest).toArray (Exit.then (y.wp P (bodyPost P fn (fun e w => R e u' w))) (bodyPost P fn (fun e w => R e u' w))) l a w →
   wpList P (o :: rest).toArray (fun e a w => Exit.thenS (y.wpS P (bodyPostS P fn c₀ cs R)) (bodyPostS P fn c₀ cs R) e a ({ c₀ with mode := u' } :: cs) w) l a w := by
  intro l
  have hQ : ∀ e a w, (Exit.then (y.wp P (bodyPost P fn (fun e w => R e u' w))) (bodyPost P fn (fun e w => R e u' w))) e a w → Exit.thenS (y.wpS P (bodyPostS P fn c₀ cs R)) (bodyPostS P fn c₀ cs R) e a ({ c₀ with mode := u' } :: cs) w := by
   intro e a w hq
   cases e with
   | normal => exact wpS_of_wp (Code.wp_mono (fun e a w q => vav q) hq)
   | ret => exact vav (P := P) (fn := fn) (c₀ := c₀) (cs := cs) (R := R) (u' := u') (e := .ret) (a := a) (w := w) hq
   | panic ch => exact vav (P := P) (fn := fn) (c₀ := c₀) (cs := cs) (R := R) (u' := u') (e := .panic ch) (a := a) (w := w) hq
   | outgrown => exact vav (P := P) (fn := fn) (c₀ := c₀) (cs := cs) (R := R) (u' := u') (e := .outgrown) (a := a) (w := w) hq
   | exit id => exact vav (P := P) (fn := fn) (c₀ := c₀) (cs := cs) (R := R) (u' := u') (e := .exit id) (a := a) (w := w) hq
   | goto l => exact vav (P := P) (fn := fn) (c₀ := c₀) (cs := cs) (R := R) (u' := u') (e := .goto l) (a := a) (w := w) hq
  induction l with
  | nil => intro a w hh; exact hQ _ _ _ hh
  | cons o' l ih =>
   intro a w hh
   unfold wpList at hh ⊢
   split
   ·rename_i hwn
    rw [if_pos hwn] at hh
    rcases hh with hh | ⟨ha, a₀, w₀, hq⟩
    ·left
     unfold Oper.wp Oper.upon at hh ⊢
     split at hh
     ·exact ih _ _ hh
     ·exact ih _ _ hh
     ·exact ih _ _ hh
     ·refine hh.mono fun e w'' hr => ?_
      cases e with
      | returned v => exact ih _ _ hr
      | panicked ch => exact hQ _ _ _ hr
      | outgrown => obtain ⟨a₀, w₀, hq⟩ := hr; exact ⟨a₀, w₀, hQ _ _ _ hq⟩
     ·exact hh.mono fun v w'' hr => ih _ _ hr
     ·exact hQ _ _ _ hh
     ·exact hh.elim
    ·exact .inr ⟨ha, a₀, w₀, hQ _ _ _ hq⟩
   ·rename_i hwn
    rw [if_neg hwn] at hh
    exact ih _ _ hh
 exact key _ _ _ h
structure Only (bs : List Nat) (w w' : World) : Prop where
 os : w'.os = w.os
 tape : w'.tape = w.tape
 output : w'.output = w.output
 size : w.heap.size ≤ w'.heap.size
 block : ∀ k, k < w.heap.size → k ∉ bs → w'.heap[k]? = w.heap[k]?
section
variable {bs : List Nat} {a w w' : World}
theorem Only.refl (bs : List Nat) (w : World) : Only bs w w := ⟨rfl, rfl, rfl, Nat.le_refl _, fun _ _ _ => rfl⟩
theorem Only.trans {b c : World} (h : Only bs a b) (k : Only bs b c) : Only bs a c :=
 ⟨k.os.trans h.os, k.tape.trans h.tape, k.output.trans h.output, Nat.le_trans h.size k.size, fun i hi hn => (k.block i (Nat.lt_of_lt_of_le hi h.size) hn).trans (h.block i hi hn)⟩
theorem Only.drew (h : Only bs a w) : Only bs a w.drew := ⟨h.os, h.tape, h.output, h.size, h.block⟩
theorem Only.drewN (h : Only bs a w) (n : Nat) : Only bs a (w.drewN n) := ⟨h.os, h.tape, h.output, h.size, h.block⟩
theorem Only.alloc (h : Only bs a w) (o : Obj) : Only bs a (w.alloc o) :=
 ⟨h.os, h.tape, h.output, Nat.le_trans h.size (by simp), fun k hk hn => (Below.heap_alloc w o k (Nat.lt_of_lt_of_le hk h.size)).trans (h.block k hk hn)⟩
theorem Only.setCell (h : Only bs a w) {p : Addr} (hp : p.block ∈ bs ∨ a.heap.size ≤ p.block) (u : Value) : Only bs a (w.setCell p u) :=
 ⟨h.os, h.tape, h.output, by simpa [World.setCell] using h.size, fun k hk hn => (Below.heap_setCell w p u k (by
  rintro rfl
  rcases hp with hp | hp
  ·exact hn hp
  ·omega)).trans (h.block k hk hn)⟩
theorem Only.of_kp (h : Kp w w') : Only bs w w' := ⟨Below.os h, Below.tape h, Below.output h, Below.size h, fun k hk _ => Below.block h k hk⟩
theorem Only.kp (h : Only bs w w') (hk : Kp a w) (hb : ∀ b ∈ bs, a.heap.size ≤ b) : Kp a w' :=
 Below.trans hk ⟨h.os, h.tape, h.output, h.size, fun k hk' => h.block k (Nat.lt_of_lt_of_le hk' hk.size) (fun hm => by have := hb k hm; omega)⟩
theorem Only.cell (h : Only bs w w') {p : Addr} {v : Value} (hc : w.cell? p = some v) (hp : p.block ∉ bs) : w'.cell? p = some v :=
 (World.cell?_of_block (w := w) (h.block p.block (World.block_lt_of_cell? w p hc) hp)).trans hc
theorem Only.heap (h : Only bs w w') {k : Nat} (hk : k < w.heap.size) (hn : k ∉ bs) : w'.heap[k]? = w.heap[k]? := h.block k hk hn
end
def Blk (w : World) (g : Nat) (t : TypeId) (cs : Array Value) : Prop := w.heap[g]? = some (.cells cs t (0, 0))
section
variable {w w' : World} {g : Nat} {t : TypeId} {cs : Array Value}
theorem Blk.lt (h : Blk w g t cs) : g < w.heap.size := (Array.getElem?_eq_some_iff.1 h).1
theorem Blk.cell (h : Blk w g t cs) (i : Nat) : w.cell? ⟨g, i, none⟩ = cs[i]? := cell_of_row w g i cs t (0, 0) h
theorem Blk.frozen (h : Blk w g t cs) (i : Nat) : w.frozen? ⟨g, i, none⟩ = false := by
 unfold Blk at h; simp [World.frozen?, h]
theorem Blk.new (w : World) (t : TypeId) (cs : Array Value) : Blk (w.alloc (.cells cs t)) w.heap.size t cs := heap_alloc_new w _
theorem Blk.new1 (w : World) (o : Obj) (t : TypeId) (cs : Array Value) : Blk ((w.alloc o).alloc (.cells cs t)) (w.heap.size + 1) t cs := by simpa using Blk.new (w.alloc o) t cs
theorem Blk.new2 (w : World) (o o' : Obj) (t : TypeId) (cs : Array Value) : Blk (((w.alloc o).alloc o').alloc (.cells cs t)) (w.heap.size + 1 + 1) t cs := by simpa using Blk.new ((w.alloc o).alloc o') t cs
theorem Blk.new3 (w : World) (o o' o'' : Obj) (t : TypeId) (cs : Array Value) : Blk ((((w.alloc o).alloc o').alloc o'').alloc (.cells cs t)) (w.heap.size + 1 + 1 + 1) t cs := by simpa using Blk.new (((w.alloc o).alloc o').alloc o'') t cs
theorem Blk.drewN (h : Blk w g t cs) (n : Nat) : Blk (w.drewN n) g t cs := h
theorem Blk.drew (h : Blk w g t cs) : Blk w.drew g t cs := h
theorem Blk.alloc (h : Blk w g t cs) (o : Obj) : Blk (w.alloc o) g t cs := (Below.heap_alloc w o g h.lt).trans h
theorem Blk.keep (h : Blk w g t cs) (k : Kp w w') : Blk w' g t cs := (k.heap h.lt).trans h
theorem Blk.only {bs : List Nat} (h : Blk w g t cs) (k : Only bs w w') (hn : g ∉ bs) : Blk w' g t cs := (k.block g h.lt hn).trans h
theorem Blk.set_ (h : Blk w g t cs) (i : Nat) (u : Value) : Blk (w.setCell ⟨g, i, none⟩ u) g t (cs.setIfInBounds i u) := by
 unfold Blk at h ⊢
 simp [World.setCell, Array.getElem?_modify, h]
theorem Blk.far (h : Blk w g t cs) {p : Addr} (hp : g ≠ p.block) (u : Value) : Blk (w.setCell p u) g t cs := (Below.heap_setCell w p u g hp).trans h
end
theorem Own.setBelow {α : Type} {w : World} {base e sz : Nat} {enc : α → List Value} {v : Value} {xs : List α} (h : Own w base e sz enc v xs) {p : Addr} (hp : p.block < base) (u : Value) : Own (w.setCell p u) base e sz enc v xs :=
 ownsRow_setCell_below h hp u
theorem Own.only {α : Type} {bs : List Nat} {w w' : World} {base e sz : Nat} {enc : α → List Value} {v : Value} {xs : List α} (h : Own w base e sz enc v xs) (k : Only bs w w') (hb : ∀ b ∈ bs, b < base) : Own w' base e sz enc v xs := by
 refine ⟨h.1, ?_⟩
 rcases h.2 with h2 | ⟨g, cap, cur, hv, hg, hh, r⟩
 ·exact .inl h2
 ·exact .inr ⟨g, cap, cur, hv, hg, (k.block g (Array.getElem?_eq_some_iff.1 hh).1 (fun hm => by have := hb g hm; omega)).trans hh, r⟩
theorem Blk.grown {w w' : World} {g : Nat} {t : TypeId} {cs : Array Value} {row : Option Nat} (h : Blk w g t cs) (hg : w.grownBy w' row) (hn : some g ≠ row) : Blk w' g t cs := (hg.block g h.lt hn).trans h
theorem Own.ne {α : Type} {w : World} {base e sz : Nat} {enc : α → List Value} {v : Value} {xs : List α} (h : Own w base e sz enc v xs) {g : Nat} (hg : g < base) : some g ≠ v.ownBlock := fun e => by
 have := (World.ownsRow.lt h g e.symm).1; omega
theorem Own.form1 {α : Type} {w : World} {base e sz : Nat} {enc : α → List Value} {v : Value} {xs : List α} {y : α} (h : Own w base e sz enc v (xs ++ [y])) : ∃ A c, v = .slice A (xs.length + 1) c := by
 obtain ⟨A, c, hv⟩ := h.form
 exact ⟨A, c, by rw [hv, List.length_append, List.length_singleton]⟩
theorem Rd.of_blk {α : Type} {w : World} {g sz : Nat} {t : TypeId} {cs : Array Value} {enc : α → List Value} {xs : List α} (hb : Blk w g t cs) (hs : 0 < sz) (henc : ∀ x, (enc x).length = sz) (hm : xs.length ≤ maxLen) (hl : cs.toList = xs.flatMap enc) : Rd w sz enc (some ⟨g, 0, none⟩) xs := by
 have hlen := vaN henc xs
 refine Rd.of_own (base := 0) (e := t) (n := xs.length) (c := xs.length) hs henc ⟨hlen, .inr ⟨g, xs.length, cs, rfl, Nat.zero_le _, hb, Nat.le_refl _, hm, ?_, ?_⟩⟩
 ·rw [← hlen, ← hl, Array.length_toList]
 ·rw [← hlen, ← hl, List.take_length]
end

section
open Go.RowKit
section
variable {w : World} {g : Nat} {t : TypeId} {cs : Array Value} {r : List Value}
theorem Blk.v2 (h : Blk w g t cs) (a0 a1 : Value) (e : cs = List.toArray (a0 :: a1 :: r)) : w.cell? ⟨g, 0, none⟩ = some a0 ∧ w.cell? ⟨g, 1, none⟩ = some a1 := by
 subst e
 exact ⟨h.cell 0, h.cell 1⟩
theorem Blk.p2 {a0 a1 : Value} (h : Blk w g t (List.toArray (a0 :: a1 :: r))) : w.cell? ⟨g, 0, none⟩ = some a0 ∧ w.cell? ⟨g, 1, none⟩ = some a1 := ⟨h.cell 0, h.cell 1⟩
theorem Blk.v3 (h : Blk w g t cs) (a0 a1 a2 : Value) (e : cs = List.toArray (a0 :: a1 :: a2 :: r)) : w.cell? ⟨g, 0, none⟩ = some a0 ∧ w.cell? ⟨g, 1, none⟩ = some a1 ∧ w.cell? ⟨g, 2, none⟩ = some a2 := by
 subst e
 exact ⟨h.cell 0, h.cell 1, h.cell 2⟩
theorem Blk.v4 (h : Blk w g t cs) (a0 a1 a2 a3 : Value) (e : cs = List.toArray (a0 :: a1 :: a2 :: a3 :: r)) : w.cell? ⟨g, 0, none⟩ = some a0 ∧ w.cell? ⟨g, 1, none⟩ = some a1 ∧ w.cell? ⟨g, 2, none⟩ = some a2 ∧ w.cell? ⟨g, 3, none⟩ = some a3 := by
 subst e
 exact ⟨h.cell 0, h.cell 1, h.cell 2, h.cell 3⟩
theorem Blk.v6 (h : Blk w g t cs) (a0 a1 a2 a3 a4 a5 : Value) (e : cs = List.toArray (a0 :: a1 :: a2 :: a3 :: a4 :: a5 :: r)) : w.cell? ⟨g, 0, none⟩ = some a0 ∧ w.cell? ⟨g, 1, none⟩ = some a1 ∧ w.cell? ⟨g, 2, none⟩ = some a2 ∧ w.cell? ⟨g, 3, none⟩ = some a3 ∧ w.cell? ⟨g, 4, none⟩ = some a4 ∧ w.cell? ⟨g, 5, none⟩ = some a5 := by
 subst e
 exact ⟨h.cell 0, h.cell 1, h.cell 2, h.cell 3, h.cell 4, h.cell 5⟩
theorem Blk.p7 {a0 a1 a2 a3 a4 a5 a6 : Value} (h : Blk w g t (List.toArray (a0 :: a1 :: a2 :: a3 :: a4 :: a5 :: a6 :: r))) : w.cell? ⟨g, 0, none⟩ = some a0 ∧ w.cell? ⟨g, 1, none⟩ = some a1 ∧ w.cell? ⟨g, 2, none⟩ = some a2 ∧ w.cell? ⟨g, 3, none⟩ = some a3 ∧ w.cell? ⟨g, 4, none⟩ = some a4 ∧ w.cell? ⟨g, 5, none⟩ = some a5 ∧ w.cell? ⟨g, 6, none⟩ = some a6 := ⟨h.cell 0, h.cell 1, h.cell 2, h.cell 3, h.cell 4, h.cell 5, h.cell 6⟩
theorem Blk.v8 (h : Blk w g t cs) (a0 a1 a2 a3 a4 a5 a6 a7 : Value) (e : cs = List.toArray (a0 :: a1 :: a2 :: a3 :: a4 :: a5 :: a6 :: a7 :: r)) : w.cell? ⟨g, 0, none⟩ = some a0 ∧ w.cell? ⟨g, 1, none⟩ = some a1 ∧ w.cell? ⟨g, 2, none⟩ = some a2 ∧ w.cell? ⟨g, 3, none⟩ = some a3 ∧ w.cell? ⟨g, 4, none⟩ = some a4 ∧ w.cell? ⟨g, 5, none⟩ = some a5 ∧ w.cell? ⟨g, 6, none⟩ = some a6 ∧ w.cell? ⟨g, 7, none⟩ = some a7 := by
 subst e
 exact ⟨h.cell 0, h.cell 1, h.cell 2, h.cell 3, h.cell 4, h.cell 5, h.cell 6, h.cell 7⟩
theorem Blk.p8 {a0 a1 a2 a3 a4 a5 a6 a7 : Value} (h : Blk w g t (List.toArray (a0 :: a1 :: a2 :: a3 :: a4 :: a5 :: a6 :: a7 :: r))) : w.cell? ⟨g, 0, none⟩ = some a0 ∧ w.cell? ⟨g, 1, none⟩ = some a1 ∧ w.cell? ⟨g, 2, none⟩ = some a2 ∧ w.cell? ⟨g, 3, none⟩ = some a3 ∧ w.cell? ⟨g, 4, none⟩ = some a4 ∧ w.cell? ⟨g, 5, none⟩ = some a5 ∧ w.cell? ⟨g, 6, none⟩ = some a6 ∧ w.cell? ⟨g, 7, none⟩ = some a7 := ⟨h.cell 0, h.cell 1, h.cell 2, h.cell 3, h.cell 4, h.cell 5, h.cell 6, h.cell 7⟩
theorem Blk.v9 (h : Blk w g t cs) (a0 a1 a2 a3 a4 a5 a6 a7 a8 : Value) (e : cs = List.toArray (a0 :: a1 :: a2 :: a3 :: a4 :: a5 :: a6 :: a7 :: a8 :: r)) : w.cell? ⟨g, 0, none⟩ = some a0 ∧ w.cell? ⟨g, 1, none⟩ = some a1 ∧ w.cell? ⟨g, 2, none⟩ = some a2 ∧ w.cell? ⟨g, 3, none⟩ = some a3 ∧ w.cell? ⟨g, 4, none⟩ = some a4 ∧ w.cell? ⟨g, 5, none⟩ = some a5 ∧ w.cell? ⟨g, 6, none⟩ = some a6 ∧ w.cell? ⟨g, 7, none⟩ = some a7 ∧ w.cell? ⟨g, 8, none⟩ = some a8 := by
 subst e
 exact ⟨h.cell 0, h.cell 1, h.cell 2, h.cell 3, h.cell 4, h.cell 5, h.cell 6, h.cell 7, h.cell 8⟩
theorem Blk.p9 {a0 a1 a2 a3 a4 a5 a6 a7 a8 : Value} (h : Blk w g t (List.toArray (a0 :: a1 :: a2 :: a3 :: a4 :: a5 :: a6 :: a7 :: a8 :: r))) : w.cell? ⟨g, 0, none⟩ = some a0 ∧ w.cell? ⟨g, 1, none⟩ = some a1 ∧ w.cell? ⟨g, 2, none⟩ = some a2 ∧ w.cell? ⟨g, 3, none⟩ = some a3 ∧ w.cell? ⟨g, 4, none⟩ = some a4 ∧ w.cell? ⟨g, 5, none⟩ = some a5 ∧ w.cell? ⟨g, 6, none⟩ = some a6 ∧ w.cell? ⟨g, 7, none⟩ = some a7 ∧ w.cell? ⟨g, 8, none⟩ = some a8 := ⟨h.cell 0, h.cell 1, h.cell 2, h.cell 3, h.cell 4, h.cell 5, h.cell 6, h.cell 7, h.cell 8⟩
theorem Blk.v10 (h : Blk w g t cs) (a0 a1 a2 a3 a4 a5 a6 a7 a8 a9 : Value) (e : cs = List.toArray (a0 :: a1 :: a2 :: a3 :: a4 :: a5 :: a6 :: a7 :: a8 :: a9 :: r)) : w.cell? ⟨g, 0, none⟩ = some a0 ∧ w.cell? ⟨g, 1, none⟩ = some a1 ∧ w.cell? ⟨g, 2, none⟩ = some a2 ∧ w.cell? ⟨g, 3, none⟩ = some a3 ∧ w.cell? ⟨g, 4, none⟩ = some a4 ∧ w.cell? ⟨g, 5, none⟩ = some a5 ∧ w.cell? ⟨g, 6, none⟩ = some a6 ∧ w.cell? ⟨g, 7, none⟩ = some a7 ∧ w.cell? ⟨g, 8, none⟩ = some a8 ∧ w.cell? ⟨g, 9, none⟩ = some a9 := by
 subst e
 exact ⟨h.cell 0, h.cell 1, h.cell 2, h.cell 3, h.cell 4, h.cell 5, h.cell 6, h.cell 7, h.cell 8, h.cell 9⟩
theorem Blk.p10 {a0 a1 a2 a3 a4 a5 a6 a7 a8 a9 : Value} (h : Blk w g t (List.toArray (a0 :: a1 :: a2 :: a3 :: a4 :: a5 :: a6 :: a7 :: a8 :: a9 :: r))) : w.cell? ⟨g, 0, none⟩ = some a0 ∧ w.cell? ⟨g, 1, none⟩ = some a1 ∧ w.cell? ⟨g, 2, none⟩ = some a2 ∧ w.cell? ⟨g, 3, none⟩ = some a3 ∧ w.cell? ⟨g, 4, none⟩ = some a4 ∧ w.cell? ⟨g, 5, none⟩ = some a5 ∧ w.cell? ⟨g, 6, none⟩ = some a6 ∧ w.cell? ⟨g, 7, none⟩ = some a7 ∧ w.cell? ⟨g, 8, none⟩ = some a8 ∧ w.cell? ⟨g, 9, none⟩ = some a9 := ⟨h.cell 0, h.cell 1, h.cell 2, h.cell 3, h.cell 4, h.cell 5, h.cell 6, h.cell 7, h.cell 8, h.cell 9⟩
theorem Blk.v12 (h : Blk w g t cs) (a0 a1 a2 a3 a4 a5 a6 a7 a8 a9 a10 a11 : Value) (e : cs = List.toArray (a0 :: a1 :: a2 :: a3 :: a4 :: a5 :: a6 :: a7 :: a8 :: a9 :: a10 :: a11 :: r)) : w.cell? ⟨g, 0, none⟩ = some a0 ∧ w.cell? ⟨g, 1, none⟩ = some a1 ∧ w.cell? ⟨g, 2, none⟩ = some a2 ∧ w.cell? ⟨g, 3, none⟩ = some a3 ∧ w.cell? ⟨g, 4, none⟩ = some a4 ∧ w.cell? ⟨g, 5, none⟩ = some a5 ∧ w.cell? ⟨g, 6, none⟩ = some a6 ∧ w.cell? ⟨g, 7, none⟩ = some a7 ∧ w.cell? ⟨g, 8, none⟩ = some a8 ∧ w.cell? ⟨g, 9, none⟩ = some a9 ∧ w.cell? ⟨g, 10, none⟩ = some a10 ∧ w.cell? ⟨g, 11, none⟩ = some a11 := by
 subst e
 exact ⟨h.cell 0, h.cell 1, h.cell 2, h.cell 3, h.cell 4, h.cell 5, h.cell 6, h.cell 7, h.cell 8, h.cell 9, h.cell 10, h.cell 11⟩
end
end

section
open Go.RowKit
theorem Blk.f {w : World} {g : Nat} {t : TypeId} {cs : Array Value} {l : List Value} (h : Blk w g t cs) (e : cs = l.toArray) (i : Nat) : w.cell? ⟨g, i, none⟩ = l.toArray[i]? := e ▸ h.cell i
section
variable {w : World} {b : Nat} (hb : w.heap.size = b) (C0 : Array Value) (T0 : TypeId) (C1 : Array Value) (T1 : TypeId) (C2 : Array Value) (T2 : TypeId) (C3 : Array Value) (T3 : TypeId) (C4 : Array Value) (T4 : TypeId)
include hb
theorem Blk.al1 : ∃ W, w.alloc (.cells C0 T0) = W ∧ Kp w W ∧ Blk W b T0 C0 := ⟨_, rfl, (Kp.refl _).alloc _, by rw [← hb]; exact Blk.new _ _ _⟩
theorem Blk.al2 : ∃ W, (w.alloc (.cells C0 T0)).alloc (.cells C1 T1) = W ∧ Kp w W ∧ Blk W b T0 C0 ∧ Blk W (b + 1) T1 C1 := ⟨_, rfl, ((Kp.refl _).alloc _).alloc _, by rw [← hb]; exact (Blk.new _ _ _).alloc _, by rw [← hb]; exact Blk.new1 _ _ _ _⟩
theorem Blk.al3 : ∃ W, ((w.alloc (.cells C0 T0)).alloc (.cells C1 T1)).alloc (.cells C2 T2) = W ∧ Kp w W ∧ Blk W b T0 C0 ∧ Blk W (b + 1) T1 C1 ∧ Blk W (b + 1 + 1) T2 C2 := ⟨_, rfl, (((Kp.refl _).alloc _).alloc _).alloc _, by rw [← hb]; exact ((Blk.new _ _ _).alloc _).alloc _, by rw [← hb]; exact (Blk.new1 _ _ _ _).alloc _, by rw [← hb]; exact Blk.new2 _ _ _ _ _⟩
theorem Blk.al4 : ∃ W, (((w.alloc (.cells C0 T0)).alloc (.cells C1 T1)).alloc (.cells C2 T2)).alloc (.cells C3 T3) = W ∧ Kp w W ∧ Blk W b T0 C0 ∧ Blk W (b + 1) T1 C1 ∧ Blk W (b + 1 + 1) T2 C2 ∧ Blk W (b + 1 + 1 + 1) T3 C3 := ⟨_, rfl, ((((Kp.refl _).alloc _).alloc _).alloc _).alloc _, by rw [← hb]; exact (((Blk.new _ _ _).alloc _).alloc _).alloc _, by rw [← hb]; exact ((Blk.new1 _ _ _ _).alloc _).alloc _, by rw [← hb]; exact (Blk.new2 _ _ _ _ _).alloc _, by rw [← hb]; exact Blk.new3 _ _ _ _ _ _⟩
end
end

section
open Go.RowKit
theorem vau {P : Program} {id : Nat} {Q : Exit → Act → World → Prop} {a : Act} {w : World} {l : List Oper} (n : Nat) (hm : P.follows .mixedOrders = true) (hB : Region.lexTailB .any l.toArray n = true)
  (h : ∀ W, W = w.drew → wpStill P l.toArray W (fun a' => wpList P l.toArray Q (l.drop n) a' W) (l.take n) a) : (Code.region id l.toArray true).wp P Q a w :=
 wp_region_still_tail n hm hB (h _ rfl)
theorem vfq {α : Type} {enc : α → List Value} {P : Program} {t e e' : TypeId} {z : Value} {size bytes : Nat} (E : ElemOf P t e z size bytes) {w : World} {ops : Array Oper} {o : Oper} {a : Act} {K : Act → World → Prop} {Q : Exit → Act → World → Prop} {X : Prop}
  (hgd : o.guard = none) (s x : Operand) (ho : o.op = .call { callee := .builtin .append, args := #[s, x], argTypes := #[t, t] })
  {base : Nat} {v : Value} {xs : List α} {news : List Value} (y : α) (hs : a.eval s = v) (hown : Own w base e size enc v xs) (hbase : base ≤ w.heap.size)
  {N : Nat} (hx : a.eval x = .slice (some ⟨N, 0, none⟩) 1 1) (hB : Blk w N e' news.toArray) (hnews : news = enc y) (hl : news.length = size) (h1 : news.all (fun u => u.oneCell') = true) (hfit : (xs.length + 1) * (bytes + 1) ≤ 140737488355328)
  (h : ∀ g cap w', Own w' base e size enc (.slice (some ⟨g, 0, none⟩) (xs.length + 1) cap) (xs ++ [y]) → w.grownBy w' v.ownBlock → (v.ownBlock = some g ∨ g = w.heap.size) → K (a.put o.dst (.slice (some ⟨g, 0, none⟩) (xs.length + 1) cap)) w') :
  if Region.wanted o (yielded ops a.tmps) = true then Oper.wp P o a w K Q else X := by
 obtain ⟨ht, hinfo, hzs, hsz⟩ := E
 obtain ⟨i, hi, hz, hsize, hby⟩ := info_parts hinfo
 have hb2 : (xs.length + 1) * (bytes + 1) = (xs.length + 1) * bytes + (xs.length + 1) := by rw [Nat.mul_add, Nat.mul_one]
 refine step_append_lies _ hgd s x t ho base e i z size bytes ht hi hz hsize hby hzs hsz v xs.length (xs.flatMap enc) hs hown ⟨N, 0, none⟩ 1 1 news hx (by omega) (fun j u hu => World.news_of_block hB j u (by simpa using hu)) (by simpa using h1) (by omega) (by simp only [maxLen]; omega) (by omega) hbase _ rfl ?_
 intro g cap w' ho' hg hat _
 refine h g cap w' ?_ hg hat
 unfold Own
 rw [List.length_append, List.flatMap_append, List.length_singleton, List.flatMap_cons, List.flatMap_nil, List.append_nil, ← hnews]
 exact ho'
end

end Go.Proofs.YtgopnfacklmkaaaGreatDoor
