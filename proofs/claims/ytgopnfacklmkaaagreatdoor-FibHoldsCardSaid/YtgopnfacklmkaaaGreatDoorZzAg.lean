/- Lemmas and contracts for the theorem of this claim: TmB, TmC, TmD, TmE, Appl, TmF, TmG. -/
import Derived.Test.YtgopnfacklmkaaaGreatDoorZzAf
import Derived.Maps.OwnSet
import Derived.DeepKeys4
import Derived.BigRegion
import Derived.Laws.AppendOwnNone
set_option linter.all false
set_option maxHeartbeats 16000000
namespace Go.Proofs.YtgopnfacklmkaaaGreatDoor
section
open Go.RowKit
theorem tw_at {w : World} {A : Option Addr} {xs : List Tw} (h : Rd w 4 Tw.enc A xs) {k : Nat} (hk : k < xs.length) : ∃ b off : Nat, A = some ⟨b, off, none⟩ ∧ w.cell? ⟨b, off + k * 4, none⟩ = some (.int .i64 xs[k].k) ∧ w.cell? ⟨b, off + k * 4 + 1, none⟩ = some (.int .u32 (xs[k].p.a : Int)) ∧ w.cell? ⟨b, off + k * 4 + 2, none⟩ = some (.int .i64 xs[k].p.l) ∧ w.cell? ⟨b, off + k * 4 + 3, none⟩ = some (.int .i64 xs[k].d) := by
 obtain ⟨b, off, e, hc⟩ := h k hk
 exact ⟨b, off, e, by simpa using hc 0 _ rfl, by simpa using hc 1 _ rfl, by simpa using hc 2 _ rfl, by simpa using hc 3 _ rfl⟩
theorem vaA (q : Nat) (s : Value) (A : Option Addr) (n c : Nat) (w : World) (h : Blk w q 214 #[.slice A n c, s]) : Calls Tryz.prog 263 #[.pointer (some ⟨q, 0, none⟩)] w fun e w' => e = .returned (.int .i64 (n : Int)) ∧ w = w' := by
 have c0 : w.cell? ⟨q, 0, none⟩ = some (.slice A n c) := h.cell 0
 clear h
 go_enter Tryz.func263, Tryz.ntmps263
 go_wp2_with fail
 go_ret
 exact ⟨rfl, rfl⟩
set_option maxRecDepth 100000 in
theorem vaS (q : Nat) (s : Value) (A : Option Addr) (c : Nat) (l : List Tw) (i j : Nat) (w : World) (h : Blk w q 214 #[.slice A l.length c, s]) (hR : Rd w 4 Tw.enc A l) (hi : i < l.length) (hj : j < l.length) :
  Calls Tryz.prog 352 #[.pointer (some ⟨q, 0, none⟩), .int .i64 (i : Int), .int .i64 (j : Int)] w fun e w' => e = .returned (.bool (ltT l[i] l[j])) ∧ Kp w w' := by
 have c0 : w.cell? ⟨q, 0, none⟩ = some (.slice A l.length c) := h.cell 0
 obtain ⟨b, off, hA, x0, x1, x2, x3⟩ := tw_at hR hi
 obtain ⟨b', off', hA', y0, y1, y2, y3⟩ := tw_at hR hj
 subst hA
 injection hA' with hA'
 injection hA' with e1 e2
 subst e1
 subst e2
 obtain ⟨r, hr⟩ : ∃ r, l[i] = r := ⟨_, rfl⟩
 obtain ⟨t, ht⟩ : ∃ t, l[j] = t := ⟨_, rfl⟩
 rw [hr] at x0 x1 x2 x3 ⊢
 rw [ht] at y0 y1 y2 y3 ⊢
 have i0 : (0 : Int) ≤ (i : Int) := by omega
 have i1 : (i : Int) < (l.length : Int) := by omega
 have j0 : (0 : Int) ≤ (j : Int) := by omega
 have j1 : (j : Int) < (l.length : Int) := by omega
 clear h hR hi hj hr ht
 go_enter Tryz.func352, Tryz.ntmps352
 go_wp2_with fail
 go_still_tail 14, (by kernel_rfl)
 change wpList _ _ _ _ _ w.drew
 go_wp2_with fail
 refine (vfw r t _).mono ?_
 rintro e w1 ⟨rfl, K1⟩
 go_wp2_with fail
 go_ret
 exact ⟨rfl, (Kp.refl w).drew.trans K1⟩
end

section
open Go.RowKit Go.Maps
theorem laidOut12 : laidOutB Tryz.prog = true := by kernel_rfl
theorem wideTm : (match Tryz.prog.underlying 252 with | some (.array _ _) | some (.struct _) => true | _ => false) = true := by rw [Tryz.underlying252]
theorem widePf : (match Tryz.prog.underlying 39 with | some (.array _ _) | some (.struct _) => true | _ => false) = true := by rw [Tryz.underlying39]
set_option maxRecDepth 100000 in
theorem keyedTm : Keyed Tryz.prog 252 := Keyed.of_law (deep_law_laid laidOut12 (m := 3) (by omega) (of_decide_eq_true (by kernel_rfl)) (by kernel_rfl) wideTm)
set_option maxRecDepth 100000 in
theorem keyedPf : Keyed Tryz.prog 39 := Keyed.of_law (deep_law_laid laidOut12 (m := 2) (by omega) (of_decide_eq_true (by kernel_rfl)) (by kernel_rfl) widePf)
def wfI (n : Int) : Prop := -9223372036854775808 ≤ n ∧ n ≤ 9223372036854775807
theorem vdz {n : Int} (h : wfI n) : (Lit.int .i64 n).wf = true := by
 obtain ⟨h1, h2⟩ := h
 simp [Lit.wf, IntKind.min, IntKind.max, IntKind.bits, IntKind.signed]
 omega
theorem vnb {n : Nat} (h : n < 4294967296) : (Lit.int .u32 (n : Int)).wf = true := by
 simp [Lit.wf, IntKind.min, IntKind.max, IntKind.bits, IntKind.signed]
 omega
abbrev pfV (p : PI) : Value := .agg #[.int .u32 (p.a : Int), .int .i64 p.l]
abbrev tmV (t : Tw) : Value := .agg #[.int .i64 t.k, .int .u32 (t.p.a : Int), .int .i64 t.p.l]
def pfKey (p : PI) : Lit := .string (keyBytes [.int .u32 (p.a : Int), .int .i64 p.l])
def tmKey (t : Tw) : Lit := .string (keyBytes [.int .i64 t.k, .int .u32 (t.p.a : Int), .int .i64 t.p.l])
set_option maxRecDepth 100000 in
theorem vhL (p : PI) (ha : p.a < 4294967296) (hl : wfI p.l) (n : Nat) : Tryz.prog.keyLits (n + 2) 39 [.int .u32 (p.a : Int), .int .i64 p.l] = some [.int .u32 (p.a : Int), .int .i64 p.l] := by
 have hC : Tryz.prog.cellsOf 39 = 2 := by kernel_rfl
 have hC0 : Tryz.prog.cellsOf 37 = 1 := by kernel_rfl
 have hC1 : Tryz.prog.cellsOf 3 = 1 := by kernel_rfl
 have w0 := vnb ha
 have w1 := vdz hl
 simp [Program.keyLits, Tryz.underlying39, Tryz.underlying37, Tryz.underlying3, hC, hC0, hC1, w0, w1]
set_option maxRecDepth 100000 in
theorem vhM (t : Tw) (hk : wfI t.k) (ha : t.p.a < 4294967296) (hl : wfI t.p.l) (n : Nat) : Tryz.prog.keyLits (n + 3) 252 [.int .i64 t.k, .int .u32 (t.p.a : Int), .int .i64 t.p.l] = some [.int .i64 t.k, .int .u32 (t.p.a : Int), .int .i64 t.p.l] := by
 have hC : Tryz.prog.cellsOf 252 = 3 := by kernel_rfl
 have hC0 : Tryz.prog.cellsOf 250 = 1 := by kernel_rfl
 have hC1 : Tryz.prog.cellsOf 39 = 2 := by kernel_rfl
 have hC2 : Tryz.prog.cellsOf 37 = 1 := by kernel_rfl
 have hC3 : Tryz.prog.cellsOf 3 = 1 := by kernel_rfl
 have w0 := vdz hk
 have w1 := vnb ha
 have w2 := vdz hl
 simp [Program.keyLits, Tryz.underlying252, Tryz.underlying250, Tryz.underlying39, Tryz.underlying37, Tryz.underlying3, hC, hC0, hC1, hC2, hC3, w0, w1, w2]
 rw [if_pos (by intro i hi; have h2 : i = 0 ∨ i = 1 := (by omega); rcases h2 with rfl | rfl <;> simp)]
 rfl
theorem size12 : ∃ n, Tryz.prog.types.size + 1 = n + 3 := ⟨Tryz.prog.types.size - 2, by
 have h : 2 ≤ Tryz.prog.types.size := of_decide_eq_true (by kernel_rfl)
 omega⟩
set_option maxRecDepth 100000 in
theorem vlE (p : PI) (ha : p.a < 4294967296) (hl : wfI p.l) : keyOf Tryz.prog 39 (pfV p) = some (pfKey p) := by
 obtain ⟨n, hn⟩ := size12
 have hk : Tryz.prog.keyType 39 = true := by kernel_rfl
 have hC : Tryz.prog.cellsOf 39 = 2 := by kernel_rfl
 have hp := vhL p ha hl (n + 1)
 unfold keyOf
 rw [Tryz.underlying39]
 simp only [hk, hn, Value.formed, Tryz.underlying39, hC, Value.cells]
 simp [hp, pfKey]
set_option maxRecDepth 100000 in
theorem vlF (t : Tw) (hk : wfI t.k) (ha : t.p.a < 4294967296) (hl : wfI t.p.l) : keyOf Tryz.prog 252 (tmV t) = some (tmKey t) := by
 obtain ⟨n, hn⟩ := size12
 have hkt : Tryz.prog.keyType 252 = true := by kernel_rfl
 have hC : Tryz.prog.cellsOf 252 = 3 := by kernel_rfl
 have hp := vhM t hk ha hl n
 unfold keyOf
 rw [Tryz.underlying252]
 simp only [hkt, hn, Value.formed, Tryz.underlying252, hC, Value.cells]
 simp [hp, tmKey]
end

section
open Go.RowKit Go.Maps Go.WideShapes
structure Tk where
 k : Int
 p : PI
theorem Tk.ext' {s t : Tk} (h1 : s.k = t.k) (h2 : s.p = t.p) : s = t := by cases s; cases t; simp only at h1 h2; subst h1; subst h2; rfl
def Tw.tk (t : Tw) : Tk := ⟨t.k, t.p⟩
structure Tk.wf (t : Tk) : Prop where
 k : wfI t.k
 a : t.p.a < 4294967296
 l : wfI t.p.l
def tkKey (t : Tk) : Lit := tmKey ⟨t.k, t.p, 0⟩
abbrev tkV (t : Tk) : Value := .agg #[.int .i64 t.k, .int .u32 (t.p.a : Int), .int .i64 t.p.l]
theorem vbg {t : Tk} (h : t.wf) : keyOf Tryz.prog 252 (tkV t) = some (tkKey t) := vlF ⟨t.k, t.p, 0⟩ h.k h.a h.l
theorem vfx {t : Tk} (h : t.wf) : WideAt.IsKeyLit (tkKey t) := keyedTm.key (vbg h)
theorem vcs {s t : Tk} (hs : s.wf) (ht : t.wf) (h : tkKey s = tkKey t) : s = t := by
 have e := keyedTm.inj (vbg hs) (by rw [h]; exact vbg ht)
 obtain ⟨k, a, l⟩ := s
 obtain ⟨k', b, m⟩ := t
 simp at e
 obtain ⟨e1, e2, e3⟩ := e
 subst e1
 subst e3
 have : a = b := by omega
 subst this
 rfl
structure PlD (D : DataW Unit) (f : Tk → Option Nat) : Prop where
 has_ : ∀ t : Tk, t.wf → Maps.has D (tkKey t) = (f t).isSome
 at_ : ∀ t : Tk, t.wf → ∀ i, f t = some i → D.atKey (tkKey t) (.lit (.int .i64 0)) = .lit (.int .i64 (i : Int))
def MpT (w : World) (m : Nat) (n : Nat) (f : Tk → Option Nat) : Prop := ∃ D : DataW Unit, w.ownsMap Tryz.prog 252 (plainElem Tryz.prog 3) m n D ∧ Maps.size D = n ∧ PlD D f
open Classical in
noncomputable def updT (f : Tk → Option Nat) (t : Tk) (v : Option Nat) : Tk → Option Nat := fun s => if s = t then v else f s
theorem vaG (f : Tk → Option Nat) (t : Tk) (v : Option Nat) : updT f t v t = v := by unfold updT; rw [if_pos rfl]
theorem vai (f : Tk → Option Nat) {s t : Tk} (v : Option Nat) (h : s ≠ t) : updT f t v s = f s := by unfold updT; rw [if_neg h]
theorem vct {w : World} {k : TypeId} {R : Value → Option (DataW Unit × List MemPlace)} {b n : Nat} {D : DataW Unit} (h : w.ownsMap Tryz.prog k R b n D) : w.ownsMap Tryz.prog k R b (Maps.size D) D := by
 obtain ⟨es, clock, h1, h2, h3, h4⟩ := h
 refine ⟨es, clock, h1, h2, ?_, h4⟩
 rw [h4, Maps.size_eq, length_read]
 exact Nat.le_refl _
theorem MpT.put {w w' : World} {m n k : Nat} {f : Tk → Option Nat} {t : Tk} (ht : t.wf) {i : Nat} {D : DataW Unit} (hD : w.ownsMap Tryz.prog 252 (plainElem Tryz.prog 3) m n D) (hn : Maps.size D = n) (hf : PlD D f) (h : w'.ownsMap Tryz.prog 252 (plainElem Tryz.prog 3) m k (D.put (tkKey t) (.lit (.int .i64 (i : Int))))) :
  MpT w' m (if (f t).isSome then n else n + 1) (updT f t (some i)) := by
 have hT := hD.tidy keyedTm
 have hsz : Maps.size (D.put (tkKey t) (.lit (.int .i64 (i : Int)))) = if (f t).isSome then n else n + 1 := by
  rw [Maps.size_put hT, hf.has_ t ht, hn]
 refine ⟨_, by rw [← hsz]; exact vct h, hsz, ⟨fun s hs => ?_, fun s hs j hj => ?_⟩⟩
 ·by_cases e : s = t
  ·subst e
   rw [vaG, Maps.has_put_same hT.isMap (vfx hs)]
   rfl
  ·rw [vai _ _ e, Maps.has_put_other (fun h => e (vcs hs ht h))]
   exact hf.has_ s hs
 ·by_cases e : s = t
  ·subst e
   rw [vaG] at hj
   injection hj with hj
   subst hj
   exact Maps.atKey_put_same hT.isMap (vfx hs) _ _
  ·rw [vai _ _ e] at hj
   rw [Maps.atKey_put_other (fun h => e (vcs hs ht h))]
   exact hf.at_ s hs j hj
theorem MpT.del {w w' : World} {m n k : Nat} {f : Tk → Option Nat} {t : Tk} (ht : t.wf) {D : DataW Unit} (hD : w.ownsMap Tryz.prog 252 (plainElem Tryz.prog 3) m n D) (hn : Maps.size D = n) (hf : PlD D f) (h : w'.ownsMap Tryz.prog 252 (plainElem Tryz.prog 3) m k (D.del (tkKey t))) :
  MpT w' m (if (f t).isSome then n - 1 else n) (updT f t none) := by
 have hT := hD.tidy keyedTm
 have hsz : Maps.size (D.del (tkKey t)) = if (f t).isSome then n - 1 else n := by
  have := Maps.size_del hT (k := tkKey t)
  rw [hf.has_ t ht, hn] at this
  split at this <;> simp_all <;> omega
 refine ⟨_, by rw [← hsz]; exact vct h, hsz, ⟨fun s hs => ?_, fun s hs j hj => ?_⟩⟩
 ·by_cases e : s = t
  ·subst e
   rw [vaG, Maps.has_del_same]
   rfl
  ·rw [vai _ _ e, Maps.has_del_other (fun h => e (vcs hs ht h))]
   exact hf.has_ s hs
 ·by_cases e : s = t
  ·subst e
   rw [vaG] at hj
   cases hj
  ·rw [vai _ _ e] at hj
   rw [Maps.atKey_del_other (fun h => e (vcs hs ht h))]
   exact hf.at_ s hs j hj
theorem vdA {α : Type} {enc : α → List Value} (h4 : ∀ x, (enc x).length = 4) : ∀ (l : List α) (a b : Nat), b < 4 → (l.flatMap enc)[a * 4 + b]? = (l[a]?).bind (fun y => (enc y)[b]?)
 | [], a, b, _ => by simp
 | y :: l, 0, b, hb => by
  rw [List.flatMap_cons, List.getElem?_append_left (by rw [h4]; omega)]
  simp
 | y :: l, a + 1, b, hb => by
  rw [List.flatMap_cons, List.getElem?_append_right (by rw [h4]; omega), h4]
  rw [show (a + 1) * 4 + b - 4 = a * 4 + b by omega, vdA h4 l a b hb]
  simp
theorem vdB {α : Type} {enc : α → List Value} (h4 : ∀ x, (enc x).length = 4) (l : List α) : (l.flatMap enc).length = l.length * 4 := vaN h4 l
theorem vje {α : Type} {enc : α → List Value} (h4 : ∀ x, (enc x).length = 4) (l : List α) {i : Nat} (hi : i < l.length) (x : α) {a0 a1 a2 a3 : Value} (hx : enc x = [a0, a1, a2, a3]) :
  (l.set i x).flatMap enc = ((((l.flatMap enc).set (i * 4) a0).set (i * 4 + 1) a1).set (i * 4 + 2) a2).set (i * 4 + 3) a3 := by
 have hl := vdB h4 l
 apply List.ext_getElem?
 intro m
 have hm : m = m / 4 * 4 + m % 4 := by omega
 have hb : m % 4 < 4 := Nat.mod_lt _ (by decide)
 generalize m / 4 = a at hm
 generalize m % 4 = b at hm hb
 subst hm
 rw [vdA h4 _ _ _ hb]
 simp only [List.getElem?_set, List.length_set, hl]
 by_cases ha : i = a
 ·subst ha
  have hb4 : b = 0 ∨ b = 1 ∨ b = 2 ∨ b = 3 := by omega
  rcases hb4 with rfl | rfl | rfl | rfl
  ·rw [if_pos rfl, if_pos hi, if_neg (by omega), if_neg (by omega), if_neg (by omega), if_pos (by omega), if_pos (by omega), Option.bind_some, hx]; rfl
  ·rw [if_pos rfl, if_pos hi, if_neg (by omega), if_neg (by omega), if_pos (by omega), if_pos (by omega), Option.bind_some, hx]; rfl
  ·rw [if_pos rfl, if_pos hi, if_neg (by omega), if_pos (by omega), if_pos (by omega), Option.bind_some, hx]; rfl
  ·rw [if_pos rfl, if_pos hi, if_pos (by omega), if_pos (by omega), Option.bind_some, hx]; rfl
 ·rw [if_neg ha, if_neg (by omega), if_neg (by omega), if_neg (by omega), if_neg (by omega), vdA h4 _ _ _ hb]
def twSet (w : World) (g i : Nat) (x : Tw) : World := (((w.setCell ⟨g, i * 4, none⟩ (.int .i64 x.k)).setCell ⟨g, i * 4 + 1, none⟩ (.int .u32 (x.p.a : Int))).setCell ⟨g, i * 4 + 2, none⟩ (.int .i64 x.p.l)).setCell ⟨g, i * 4 + 3, none⟩ (.int .i64 x.d)
theorem Own.putTw {w : World} {B g n c : Nat} {l : List Tw} (h : Own w B 337 4 Tw.enc (.slice (some ⟨g, 0, none⟩) n c) l) {i : Nat} (hi : i < l.length) (x : Tw) : Own (twSet w g i x) B 337 4 Tw.enc (.slice (some ⟨g, 0, none⟩) n c) (l.set i x) := by
 obtain ⟨hl, hr⟩ := h
 rcases hr with ⟨h2, _⟩ | ⟨g', cap, cur, hv, hg, hh, hn, hm, hs, ht⟩
 ·cases h2
 ·injection hv with e1 e2 e3
  injection e1 with e1
  injection e1 with e1
  subst e1
  subst e2
  subst e3
  have hB : Blk w g 337 cur := hh
  have hB' := (((hB.set_ (i * 4) (.int .i64 x.k)).set_ (i * 4 + 1) (.int .u32 (x.p.a : Int))).set_ (i * 4 + 2) (.int .i64 x.p.l)).set_ (i * 4 + 3) (.int .i64 x.d)
  refine ⟨by rw [vdB Tw.len, List.length_set], .inr ⟨g, c, _, by rw [List.length_set], hg, hB', by rw [List.length_set]; exact hn, hm, by simp [hs], ?_⟩⟩
  rw [List.length_set, vje Tw.len l hi x (show Tw.enc x = [_, _, _, _] from rfl), ← ht]
  simp only [Array.toList_setIfInBounds, List.take_set]
end

section
open Go.RowKit
theorem vjf {α : Type} {sz : Nat} {enc : α → List Value} (hs : 0 < sz) (henc : ∀ x, (enc x).length = sz) : ∀ (ys : List α) (j : Nat) (u : Value), (ys.flatMap enc)[j]? = some u → ∃ (i k : Nat) (h : i < ys.length), j = i * sz + k ∧ (enc (ys[i]'h))[k]? = some u
 | [], j, u, h => by simp at h
 | y :: ys, j, u, h => by
  rw [List.flatMap_cons] at h
  by_cases hj : j < (enc y).length
  ·rw [List.getElem?_append_left hj] at h
   exact ⟨0, j, by simp, by omega, h⟩
  ·rw [List.getElem?_append_right (by omega), henc] at h
   obtain ⟨i, k, hi, he, hc⟩ := vjf hs henc ys _ u h
   rw [henc] at hj
   exact ⟨i + 1, k, by simpa using hi, by rw [Nat.add_mul]; omega, by simpa using hc⟩
theorem vhN (w : World) (row : Option Nat) : w.grownBy w row := ⟨rfl, rfl, rfl, Nat.le_refl _, fun _ _ _ => rfl⟩
theorem vef {P : Program} {w : World} (base : Nat) (t ty e : TypeId) (i : TypeInfo) (size c : Nat) (ht : P.underlying t = some (.slice e)) (hi : P.info? e = some i)
  (v : Value) (n : Nat) (xs : List Value) (hown : w.ownsRow base e size v n xs) :
  (Builtin.append_ #[t, t] ty #[v, .slice none 0 c]).run P w = .ok v w := by
 rcases hown.2 with ⟨rfl, rfl⟩ | ⟨g, cap, cur, rfl, _, _, hnc, _⟩
 ·simp [Builtin.append_, run_underlying ht, sizeOf, typeInfo, hi, Builtin.lenOf, Builtin.firstCells]
 ·simp [Builtin.append_, run_underlying ht, sizeOf, typeInfo, hi, Builtin.lenOf, Builtin.firstCells, hnc, storeCells]
theorem vlG {α : Type} {enc : α → List Value} {P : Program} {t e : TypeId} {z : Value} {size bytes : Nat} (E : ElemOf P t e z size bytes) (ty : TypeId) (henc : ∀ x, (enc x).length = size) (hone : ∀ x, ∀ u ∈ enc x, u.oneCell' = true)
  {w : World} {base : Nat} {v : Value} {xs ys : List α} {A : Option Addr} {c : Nat} (hown : Own w base e size enc v xs) (hrd : Rd w size enc A ys)
  (hfit : (xs.length + ys.length) * (bytes + 1) ≤ 140737488355328) (hbase : base ≤ w.heap.size) :
  ∃ v' w', (Builtin.append_ #[t, t] ty #[v, .slice A ys.length c]).run P w = .ok v' w' ∧ Own w' base e size enc v' (xs ++ ys) ∧ w.grownBy w' v.ownBlock ∧ (v'.ownBlock = v.ownBlock ∨ v'.ownBlock = some w.heap.size) := by
 obtain ⟨ht, hinfo, hzs, hsz⟩ := E
 obtain ⟨i, hi, hz, hsize, hby⟩ := info_parts hinfo
 have hb2 : (xs.length + ys.length) * (bytes + 1) = (xs.length + ys.length) * bytes + (xs.length + ys.length) := by rw [Nat.mul_add, Nat.mul_one]
 cases A with
 | none =>
  have hy : ys = [] := by
   cases ys with
   | nil => rfl
   | cons y ys => obtain ⟨b, off, hh, _⟩ := hrd 0 (by simp); cases hh
  subst hy
  exact ⟨v, w, vef base t ty e i size c ht hi v _ _ hown, by simpa using hown, vhN _ _, .inl rfl⟩
 | some ad =>
  obtain ⟨v', w', hr, h2, h3, _, h5⟩ := run_append_own_at (P := P) w base t ty e i z size bytes ht hi hz hsize hby hzs hsz v xs.length (xs.flatMap enc) hown ad ys.length c (ys.flatMap enc) (vaN henc ys) (by
   intro j u hu
   obtain ⟨k, q, hk, rfl, hq⟩ := vjf hsz henc ys j u hu
   obtain ⟨b, off, he, hc⟩ := hrd k hk
   injection he with he
   subst he
   have hadd : (⟨b, off, none⟩ : Addr).add (k * size + q) = ⟨b, off + k * size + q, none⟩ := by unfold Addr.add; split <;> simp_all [Nat.add_assoc]
   rw [hadd]
   exact hc q u hq) (by
   intro u hu
   obtain ⟨y, _, hy⟩ := List.mem_flatMap.1 hu
   exact hone y u hy) (by simp only [maxLen]; omega) (by omega) hbase
  refine ⟨v', w', hr, ?_, h3, h5⟩
  unfold Own
  rw [List.length_append, List.flatMap_append]
  exact h2
theorem vgl {α : Type} {enc : α → List Value} {P : Program} {t e : TypeId} {z : Value} {size bytes : Nat} (E : ElemOf P t e z size bytes) (henc : ∀ x, (enc x).length = size) (hone : ∀ x, ∀ u ∈ enc x, u.oneCell' = true)
  {w : World} {ops : Array Oper} {rest : List Oper} {o : Oper} {a : Act} {Q : Exit → Act → World → Prop} (hgd : o.guard = none) (s x : Operand) (ho : o.op = .call { callee := .builtin .append, args := #[s, x], argTypes := #[t, t] })
  {base : Nat} {v : Value} {xs ys : List α} {A : Option Addr} {c : Nat} (hs : a.eval s = v) (hx : a.eval x = .slice A ys.length c) (hown : Own w base e size enc v xs) (hrd : Rd w size enc A ys)
  (hfit : (xs.length + ys.length) * (bytes + 1) ≤ 140737488355328) (hbase : base ≤ w.heap.size)
  (h : ∀ v' w', Own w' base e size enc v' (xs ++ ys) → w.grownBy w' v.ownBlock → (v'.ownBlock = v.ownBlock ∨ v'.ownBlock = some w.heap.size) → wpList P ops Q rest (a.put o.dst v') w') : wpList P ops Q (o :: rest) a w := by
 refine wpList_plain hgd fun K hK => ?_
 obtain ⟨v', w', hr, h1, h2, h3⟩ := vlG E o.type henc hone hown hrd hfit hbase
 unfold Oper.wp
 simp [execOp, ho, resolve, invoke, builtin, hs, hx, Result.andThen]
 rw [hr]
 exact hK _ _ (h v' w' h1 h2 h3)
theorem Own.empty {α : Type} {w : World} {base e sz g : Nat} {enc : α → List Value} (hb : base ≤ g) (hB : Blk w g e #[]) : Own w base e sz enc (.slice (some ⟨g, 0, none⟩) 0 0) [] :=
 ⟨by simp, .inr ⟨g, 0, #[], rfl, hb, hB, Nat.le_refl _, by simp, by simp, by simp⟩⟩
theorem Own.rdAt {α : Type} {w : World} {base e sz n c : Nat} {enc : α → List Value} {A : Option Addr} {xs : List α} (hs : 0 < sz) (henc : ∀ x, (enc x).length = sz) (h : Own w base e sz enc (.slice A n c) xs) : Rd w sz enc A xs := by
 obtain ⟨A', c', hv, hr⟩ := h.rd hs henc
 injection hv with h1 h2 h3
 subst h1
 exact hr
end

section
open Go.RowKit Go.Maps Go.WideShapes
structure PlOf (f : Tk → Option Nat) (l : List Tw) : Prop where
 at_ : ∀ i (h : i < l.length), f (l[i]'h).tk = some i
 no : ∀ t, (∀ i (h : i < l.length), (l[i]'h).tk ≠ t) → f t = none
theorem PlOf.apart {f : Tk → Option Nat} {l : List Tw} (h : PlOf f l) {i j : Nat} (hi : i < l.length) (hj : j < l.length) (e : l[i].tk = l[j].tk) : i = j := by
 have h1 := h.at_ i hi
 rw [e, h.at_ j hj] at h1
 injection h1 with h1
 exact h1.symm
theorem vbF {α : Type} (l : List α) (i j : Nat) (hi : i < l.length) (hj : j < l.length) (k : Nat) (hk : k < (swapL l i j hi hj).length) : (swapL l i j hi hj)[k] = if k = j then l[i] else if k = i then l[j] else l[k]'(by rw [vaF] at hk; exact hk) := by
 have hk' : k < l.length := by rw [vaF] at hk; exact hk
 apply Option.some.inj
 rw [← List.getElem?_eq_getElem hk]
 have e : (swapL l i j hi hj)[k]? = ((l.set i l[j]).set j l[i])[k]? := rfl
 rw [e, List.getElem?_set, List.getElem?_set]
 by_cases h1 : j = k
 ·subst h1; simp [hj]
 ·rw [if_neg h1]
  by_cases h2 : i = k
  ·subst h2; rw [if_pos rfl, if_neg (fun (e2 : i = j) => h1 e2.symm), if_pos rfl]; simp [hi]
  ·rw [if_neg h2, if_neg (fun e => h1 e.symm), if_neg (fun e => h2 e.symm), List.getElem?_eq_getElem hk']
theorem PlOf.swap {f : Tk → Option Nat} {l : List Tw} (h : PlOf f l) (i j : Nat) (hi : i < l.length) (hj : j < l.length) : PlOf (updT (updT f (l[j].tk) (some i)) (l[i].tk) (some j)) (swapL l i j hi hj) := by
 constructor
 ·intro k hk
  have hk' : k < l.length := by rw [vaF] at hk; exact hk
  rw [vbF]
  by_cases h1 : k = j
  ·rw [if_pos h1, vaG, h1]
  ·rw [if_neg h1]
   by_cases h2 : k = i
   ·rw [if_pos h2]
    by_cases h3 : l[j].tk = l[i].tk
    ·have := h.apart hj hi h3
     omega
    ·rw [vai _ _ h3, vaG, h2]
   ·rw [if_neg h2, vai _ _ (fun e => h2 (h.apart hk' hi e)), vai _ _ (fun e => h1 (h.apart hk' hj e))]
    exact h.at_ k hk'
 ·intro t ht
  have hlen := vaF l i j hi hj
  have hi2 := ht i (by omega)
  have hj2 := ht j (by omega)
  rw [vbF] at hi2 hj2
  rw [if_pos rfl] at hj2
  have hne : l[j].tk ≠ t := by
   by_cases h1 : i = j
   ·subst h1; exact hj2
   ·rw [if_neg h1, if_pos rfl] at hi2; exact hi2
  rw [vai _ _ (fun e => hj2 e.symm), vai _ _ (fun e => hne e.symm)]
  refine h.no t (fun k hk => ?_)
  have h3 := ht k (by omega)
  rw [vbF] at h3
  by_cases h1 : k = j
  ·subst h1; exact hne
  ·rw [if_neg h1] at h3
   by_cases h2 : k = i
   ·subst h2; exact hj2
   ·rw [if_neg h2] at h3; exact h3
structure QuM (w : World) (B q m : Nat) (v : Value) (l : List Tw) : Prop where
 bk : Blk w q 214 #[v, .map (some m)]
 own : Own w B 337 4 Tw.enc v l
 mp : ∃ f, MpT w m l.length f ∧ PlOf f l
 wf : ∀ t ∈ l, t.tk.wf ∧ wfI t.d
theorem Own.ice {w : World} {B g n c : Nat} {l : List Tw} (h : Own w B 337 4 Tw.enc (.slice (some ⟨g, 0, none⟩) n c) l) (k : Nat) : w.frozen? ⟨g, k, none⟩ = false := by
 rcases h.2 with ⟨h2, _⟩ | ⟨g', cap, cur, hv, hg, hh, _⟩
 ·cases h2
 ·injection hv with e1 e2 e3
  injection e1 with e1
  injection e1 with e1
  subst e1
  have hB : Blk w g 337 cur := hh
  exact hB.frozen k
theorem Only.twSet (w : World) (g i : Nat) (x : Tw) : Only [g] w (twSet w g i x) :=
 ((((Only.refl [g] w).setCell (p := ⟨g, i * 4, none⟩) (.inl (by simp)) _).setCell (p := ⟨g, i * 4 + 1, none⟩) (.inl (by simp)) _).setCell (p := ⟨g, i * 4 + 2, none⟩) (.inl (by simp)) _).setCell (p := ⟨g, i * 4 + 3, none⟩) (.inl (by simp)) _
theorem Only.wide {bs cs : List Nat} {w w' : World} (h : Only bs w w') (hs : ∀ b ∈ bs, b ∈ cs) : Only cs w w' := ⟨h.os, h.tape, h.output, h.size, fun k hk hn => h.block k hk (fun hh => hn (hs k hh))⟩
theorem Only.turned {w w' : World} {b : Nat} (h : w.mapTurned w' b) : Only [b] w w' := by
 obtain ⟨h1, h2, h3, h4, h5⟩ := h.grown
 exact ⟨h1, h2, h3, h4, fun k hk hn => h5 k hk (fun e => hn (by injection e with e; simp [e]))⟩
theorem Own.lie {w w' : World} {B g n c : Nat} {l : List Tw} (h : Own w B 337 4 Tw.enc (.slice (some ⟨g, 0, none⟩) n c) l) (e : w'.heap[g]? = w.heap[g]?) : Own w' B 337 4 Tw.enc (.slice (some ⟨g, 0, none⟩) n c) l := by
 refine ⟨h.1, ?_⟩
 rcases h.2 with ⟨h2, _⟩ | ⟨g', cap, cur, hv, hg, hh, r⟩
 ·cases h2
 ·injection hv with e1 e2 e3
  injection e1 with e1
  injection e1 with e1
  subst e1
  exact .inr ⟨g, cap, cur, by rw [e2, e3], hg, e.trans hh, r⟩
theorem Own.blk4 {w : World} {B g n c : Nat} {l : List Tw} (h : Own w B 337 4 Tw.enc (.slice (some ⟨g, 0, none⟩) n c) l) : ∃ cur, Blk w g 337 cur := by
 rcases h.2 with ⟨h2, _⟩ | ⟨g', cap, cur, hv, hg, hh, _⟩
 ·cases h2
 ·injection hv with e1 e2 e3
  injection e1 with e1
  injection e1 with e1
  subst e1
  exact ⟨cur, hh⟩
theorem vap {w w' : World} {k : TypeId} {R : Value → Option (DataW Unit × List MemPlace)} {b n : Nat} {D : DataW Unit} (h : w.ownsMap Tryz.prog k R b n D) (e : w'.heap[b]? = w.heap[b]?) : w'.ownsMap Tryz.prog k R b n D := by
 obtain ⟨es, cl, h1, h2⟩ := h
 exact ⟨es, cl, e.trans h1, h2⟩
theorem Blk.ne_tagT {w : World} {p g : Nat} {t u : TypeId} {cs ds : Array Value} (h : Blk w p t cs) (k : Blk w g u ds) (n : t ≠ u) : p ≠ g := by
 rintro rfl
 have := h.symm.trans k
 injection this with this
 injection this with _ this
 exact n this
theorem MpT.heap {w : World} {m n : Nat} {f : Tk → Option Nat} (h : MpT w m n f) : ∃ es cl, w.heap[m]? = some (.map es cl) := by
 obtain ⟨D, ⟨es, cl, h1, _⟩, _⟩ := h
 exact ⟨es, cl, h1⟩
theorem MpT.ne {w : World} {m n g : Nat} {f : Tk → Option Nat} {t : TypeId} {cs : Array Value} (h : MpT w m n f) (hB : Blk w g t cs) : m ≠ g := by
 rintro rfl
 obtain ⟨es, cl, h1⟩ := h.heap
 have h2 : w.heap[m]? = some (.cells cs t) := hB
 rw [h1] at h2
 cases h2
set_option maxRecDepth 100000 in
theorem vaD (B q m g c : Nat) (l : List Tw) (i j : Nat) (w : World) (Q : QuM w B q m (.slice (some ⟨g, 0, none⟩) l.length c) l) (hi : i < l.length) (hj : j < l.length) (hlen : l.length ≤ 1000000) :
  Calls Tryz.prog 355 #[.pointer (some ⟨q, 0, none⟩), .int .i64 (i : Int), .int .i64 (j : Int)] w fun e w' => e = .returned (.tuple #[]) ∧ QuM w' B q m (.slice (some ⟨g, 0, none⟩) l.length c) (swapL l i j hi hj) ∧ Only [g, m] w w' := by
 obtain ⟨c0, c1⟩ := Blk.v2 Q.bk (.slice (some ⟨g, 0, none⟩) l.length c) (.map (some m)) rfl
 have hR := Q.own.rdAt (by decide) Tw.len
 obtain ⟨b, off, hA, x0, x1, x2, x3⟩ := tw_at hR hi
 obtain ⟨b', off', hA', y0, y1, y2, y3⟩ := tw_at hR hj
 injection hA with hA
 injection hA with e1 e2
 subst e1
 subst e2
 injection hA' with hA'
 injection hA' with e1 e2
 subst e1
 subst e2
 rw [Nat.zero_add] at x0 x1 x2 x3 y0 y1 y2 y3
 obtain ⟨r, hr⟩ : ∃ r, l[i] = r := ⟨_, rfl⟩
 obtain ⟨t, ht⟩ : ∃ t, l[j] = t := ⟨_, rfl⟩
 rw [hr] at x0 x1 x2 x3
 rw [ht] at y0 y1 y2 y3
 have i0 : (0 : Int) ≤ (i : Int) := by omega
 have i1 : (i : Int) < (l.length : Int) := by omega
 have j0 : (0 : Int) ≤ (j : Int) := by omega
 have j1 : (j : Int) < (l.length : Int) := by omega
 obtain ⟨W1, hW1, O1, P1⟩ : ∃ W1, twSet w g i t = W1 ∧ Own W1 B 337 4 Tw.enc (.slice (some ⟨g, 0, none⟩) l.length c) (l.set i t) ∧ Only [g] w W1 := ⟨_, rfl, Q.own.putTw hi t, Only.twSet _ _ _ _⟩
 have hj1 : j < (l.set i t).length := by rw [List.length_set]; exact hj
 obtain ⟨W2, hW2, O2, P2⟩ : ∃ W2, twSet W1 g j r = W2 ∧ Own W2 B 337 4 Tw.enc (.slice (some ⟨g, 0, none⟩) l.length c) ((l.set i t).set j r) ∧ Only [g] W1 W2 := ⟨_, rfl, O1.putTw hj1 r, Only.twSet _ _ _ _⟩
 obtain ⟨b, off, hA, u0, u1, u2, u3⟩ := tw_at (O1.rdAt (by decide) Tw.len) hj1
 injection hA with hA
 injection hA with e1 e2
 subst e1
 subst e2
 rw [Nat.zero_add] at u0 u1 u2 u3
 simp only [twSet] at hW1 hW2
 have z0 := Q.own.ice (i * 4)
 have z1 := Q.own.ice (i * 4 + 1)
 have z2 := Q.own.ice (i * 4 + 2)
 have z3 := Q.own.ice (i * 4 + 3)
 have v0 := O1.ice (j * 4)
 have v1 := O1.ice (j * 4 + 1)
 have v2 := O1.ice (j * 4 + 2)
 have v3 := O1.ice (j * 4 + 3)
 go_enter Tryz.func355, Tryz.ntmps355
 go_wp2_with fail
 go_region
 all_goals (try go_wp2_with fail)
 obtain ⟨W3, hW3, K3⟩ : ∃ W3, W2.drew = W3 ∧ Kp W2 W3 := ⟨_, rfl, (Kp.refl W2).drew⟩
 rw [hW3]
 clear hW3 hW1 hW2 x0 x1 x2 x3 y0 y1 y2 y3 u0 u1 u2 u3 z0 z1 z2 z3 v0 v1 v2 v3 c0 c1
 have PO : Only [g] w W3 := (P1.trans P2).trans (Only.of_kp K3)
 obtain ⟨f, hm0, hp⟩ := Q.mp
 have hmq : m ≠ q := hm0.ne Q.bk
 obtain ⟨cur, hcur⟩ := Q.own.blk4
 have hmg : m ≠ g := hm0.ne hcur
 have hqg : q ≠ g := Q.bk.ne_tagT hcur (by decide)
 have hs2 : (l.set i t).set j r = swapL l i j hi hj := by unfold swapL; rw [hr, ht]
 rw [hs2] at O2
 have hl2 := vaF l i j hi hj
 have hgi : (swapL l i j hi hj)[i]'(by omega) = t := by
  rw [vbF]
  by_cases e : i = j
  ·subst e; rw [if_pos rfl, ht]
  ·rw [if_neg e, if_pos rfl, ht]
 have hgj : (swapL l i j hi hj)[j]'(by omega) = r := by rw [vbF, if_pos rfl, hr]
 have O3 := O2.keep K3
 have B3 := Q.bk.only PO (by simpa using hqg)
 have hmlt : m < w.heap.size := by
  obtain ⟨es, cl, h1⟩ := hm0.heap
  exact (Array.getElem?_eq_some_iff.1 h1).1
 have hm3 : W3.heap[m]? = w.heap[m]? := PO.block m hmlt (by simpa using hmg)
 have wft : t.tk.wf := by rw [← ht]; exact (Q.wf _ (List.getElem_mem hj)).1
 have wfr : r.tk.wf := by rw [← hr]; exact (Q.wf _ (List.getElem_mem hi)).1
 have wfi : (Lit.int .i64 (i : Int)).wf = true := vdz ⟨by omega, by omega⟩
 have wfj : (Lit.int .i64 (j : Int)).wf = true := vdz ⟨by omega, by omega⟩
 have hft : f t.tk = some j := by rw [← ht]; exact hp.at_ j hj
 have hfr : f r.tk = some i := by rw [← hr]; exact hp.at_ i hi
 have hpsw := hp.swap i j hi hj
 rw [hr, ht] at hpsw
 obtain ⟨D, hD, hn, hf⟩ := hm0
 have hD3 : W3.drew.ownsMap Tryz.prog 252 (plainElem Tryz.prog 3) m l.length D := vap hD hm3
 have hlt : l.length < maxLen := by simp only [maxLen]; omega
 obtain ⟨c0, c1⟩ := Blk.v2 B3 (.slice (some ⟨g, 0, none⟩) l.length c) (.map (some m)) rfl
 obtain ⟨b, off, hA, s0, s1, s2, s3⟩ := tw_at (O3.rdAt (by decide) Tw.len) (k := i) (by omega)
 injection hA with hA
 injection hA with e1 e2
 subst e1
 subst e2
 rw [Nat.zero_add] at s0 s1 s2 s3
 rw [hgi] at s0 s1 s2 s3
 have HG := Lib.hid hgj
 have HS := Lib.hid hs2
 clear hgi hgj hs2 hr ht hR hm3 hcur
 go_still_tail 13, (by kernel_rfl)
 change wpList _ _ _ _ _ W3.drew
 refine wpList_mapUpdate_in W3.drew rfl _ _ _ 211 rfl 252 3 keyedTm Tryz.underlying211 (plainElem Tryz.prog 3) m l.length D rfl hD3 hlt (tkV t.tk) (.int .i64 (i : Int)) (tkKey t.tk) rfl rfl (vbg wft) (.lit (.int .i64 (i : Int))) [] (plainElem_int Tryz.underlying3 wfi) ?_
 intro W4 hD4 hT4
 have M4 := MpT.put wft hD3 hn hf hD4
 rw [if_pos (by rw [hft]; rfl)] at M4
 have P4 : Only [m] W3 W4 := ((Only.refl [m] W3).drew).trans (Only.turned hT4)
 obtain ⟨D4, hE4, hn4, hf4⟩ := M4
 have B4 := B3.only P4 (by simpa using fun e => hmq e.symm)
 have hg4 : W4.heap[g]? = W3.heap[g]? := by
  obtain ⟨cur, hcur⟩ := O3.blk4
  exact P4.block g hcur.lt (by simpa using fun e => hmg e.symm)
 have O4 := O3.lie hg4
 clear hD4 hT4 c0 c1 s0 s1 s2 s3 hD3
 obtain ⟨c0, c1⟩ := Blk.v2 B4 (.slice (some ⟨g, 0, none⟩) l.length c) (.map (some m)) rfl
 obtain ⟨b, off, hA, s0, s1, s2, s3⟩ := tw_at (O4.rdAt (by decide) Tw.len) (k := j) (by omega)
 injection hA with hA
 injection hA with e1 e2
 subst e1
 subst e2
 rw [Nat.zero_add] at s0 s1 s2 s3
 rw [HG.out] at s0 s1 s2 s3
 go_wp2_with fail
 go_still_tail 13, (by kernel_rfl)
 change wpList _ _ _ _ _ W4.drew
 refine wpList_mapUpdate_in W4.drew rfl _ _ _ 211 rfl 252 3 keyedTm Tryz.underlying211 (plainElem Tryz.prog 3) m l.length D4 rfl (vap hE4 rfl) hlt (tkV r.tk) (.int .i64 (j : Int)) (tkKey r.tk) rfl rfl (vbg wfr) (.lit (.int .i64 (j : Int))) [] (plainElem_int Tryz.underlying3 wfj) ?_
 intro W5 hD5 hT5
 have M5 := MpT.put wfr (vap (w' := W4.drew) hE4 rfl) hn4 hf4 hD5
 rw [if_pos (by
  by_cases e : r.tk = t.tk
  ·rw [e, vaG]; rfl
  ·rw [vai _ _ e, hfr]; rfl)] at M5
 have P5 : Only [m] W4 W5 := ((Only.refl [m] W4).drew).trans (Only.turned hT5)
 have B5 := B4.only P5 (by simpa using fun e => hmq e.symm)
 have hg5 : W5.heap[g]? = W4.heap[g]? := by
  obtain ⟨cur, hcur⟩ := O4.blk4
  exact P5.block g hcur.lt (by simpa using fun e => hmg e.symm)
 have O5 := O4.lie hg5
 have PP : Only [g, m] w W5 := ((PO.wide (by simp)).trans (P4.wide (by simp))).trans (P5.wide (by simp))
 have hwf : ∀ x ∈ swapL l i j hi hj, x.tk.wf ∧ wfI x.d := fun x hx => Q.wf x ((vaW l i j hi hj).mem_iff.1 hx)
 clear hD5 hT5 c0 c1 s0 s1 s2 s3
 go_wp2_with fail
 go_end0
 exact ⟨rfl, ⟨B5, O5, ⟨_, by rw [hl2]; exact M5, hpsw⟩, hwf⟩, PP⟩
theorem QuM.keep {w w' : World} {B q m : Nat} {v : Value} {l : List Tw} (h : QuM w B q m v l) (K : Kp w w') : QuM w' B q m v l := by
 refine ⟨h.bk.keep K, h.own.keep K, ?_, h.wf⟩
 obtain ⟨f, hm, hp⟩ := h.mp
 have hlt : m < w.heap.size := by
  obtain ⟨es, cl, h1⟩ := hm.heap
  exact (Array.getElem?_eq_some_iff.1 h1).1
 obtain ⟨D, hD, hn, hf⟩ := hm
 exact ⟨f, ⟨D, vap hD (K.heap hlt), hn, hf⟩, hp⟩
def tw0 : Tw := ⟨0, ⟨0, 0⟩, 0⟩
abbrev fT (l : List Tw) : Nat → Tw := fun k => l.getD k tw0
theorem fT_at {l : List Tw} {k : Nat} (h : k < l.length) : fT l k = l[k] := by
 show l.getD k tw0 = _
 rw [List.getD_eq_getElem?_getD, List.getElem?_eq_getElem h, Option.getD_some]
theorem vbu (l : List Tw) (i j : Nat) (hi : i < l.length) (hj : j < l.length) : fT (swapL l i j hi hj) = swH (fT l) i j := vlA l tw0 i j hi hj
abbrev quI (q : Nat) : Value := .iface 210 (.pointer (some ⟨q, 0, none⟩))
structure UpW (w : World) (B q m g c n N : Nat) (l0 : List Tw) (k : Nat) (l : List Tw) (wr : World) : Prop where
 qu : QuM wr B q m (.slice (some ⟨g, 0, none⟩) N c) l
 pm : l.Perm l0
 ln : l.length = N
 tl : ∀ x, n ≤ x → fT l x = fT l0 x
 up : UpH ltT (fT l) n k
 lt : k < n
 on : Only [g, m] w wr
set_option maxRecDepth 100000 in
theorem vcL (B q m g c n N : Nat) (l : List Tw) (j : Nat) (w : World) (Q : QuM w B q m (.slice (some ⟨g, 0, none⟩) N c) l) (hn : l.length = N) (hnN : n ≤ N) (hj : j < n) (hlen : N ≤ 1000000) (hU : UpH ltT (fT l) n j) :
  Calls Tryz.prog 298 #[quI q, .int .i64 (j : Int)] w fun e w' => e = .returned (.tuple #[]) ∧ ∃ l', l'.Perm l ∧ l'.length = N ∧ Heap ltT (fT l') n ∧ (∀ x, n ≤ x → fT l' x = fT l x) ∧ QuM w' B q m (.slice (some ⟨g, 0, none⟩) N c) l' ∧ Only [g, m] w w' := by
 have R0 : Hid (UpW w B q m g c n N l j l w) := Lib.hid ⟨Q, List.Perm.refl _, hn, fun _ _ => rfl, hU, hj, Only.refl _ _⟩
 clear Q hn hj hU
 go_enter Tryz.func298, Tryz.ntmps298
 go_wp2_with fail
 go_loopw [1] (fun s wr => ∃ (k : Nat) (l2 : List Tw), s = .int .i64 k ∧ Hid (UpW w B q m g c n N l k l2 wr)) (fun s _ => (intOf s).toNat)
 case atStart => exact ⟨j, l, rfl, R0⟩
 case round =>
  obtain ⟨k, l2, rfl, R⟩ := hrel
  have hk := R.out.lt
  have hl2 := R.out.ln
  rcases Nat.eq_zero_or_pos k with h0 | h0
  ·subst h0
   have Hd := Lib.hid (UpH.done R.out.up (.inl rfl))
   clear hk hl2
   go_wp2_with fail
   go_end0
   exact ⟨rfl, l2, R.out.pm, R.out.ln, Hd.out, R.out.tl, R.out.qu, R.out.on⟩
  ·have hpl := vaz h0
   obtain ⟨p, hpp⟩ : ∃ p, parH k = p := ⟨_, rfl⟩
   rw [hpp] at hpl
   have hpk : ((k : Int) - 1) / 2 = (p : Int) := by have := hpp; unfold parH at this; omega
   have hb : ((p : Int) == (k : Int)) = false := by rw [beq_eq_false_iff_ne]; omega
   have Hpp := Lib.hid hpp
   have HB : Hid (Blk wr q 214 #[.slice (some ⟨g, 0, none⟩) l2.length c, .map (some m)]) := Lib.hid (by rw [hl2]; exact R.out.qu.bk)
   have HR : Hid (Rd wr 4 Tw.enc (some ⟨g, 0, none⟩) l2) := Lib.hid (R.out.qu.own.rdAt (by decide) Tw.len)
   have hk2 : k < l2.length := by omega
   have hp2 : p < l2.length := by omega
   have Hl2 := Lib.hid hl2
   clear hpp hl2
   go_wp2_with fail
   refine (vaS q (.map (some m)) (some ⟨g, 0, none⟩) c l2 k p wr HB.out HR.out hk2 hp2).mono ?_
   rintro e w1 ⟨rfl, K1⟩
   have Q1 := Lib.hid (R.out.qu.keep K1)
   have P1 := Lib.hid (R.out.on.trans (Only.of_kp K1))
   clear K1 HB HR
   cases hl : ltT l2[k] l2[p] with
   | false =>
    have Hd := Lib.hid (UpH.done R.out.up (.inr (by rw [Hpp.out, fT_at hk2, fT_at hp2]; exact hl)))
    clear hl
    go_wp2_with fail
    go_end0
    exact ⟨rfl, l2, R.out.pm, R.out.ln, Hd.out, R.out.tl, Q1.out, P1.out⟩
   | true =>
    have HU := Lib.hid (UpH.step vbj R.out.up h0 hk (by rw [Hpp.out, fT_at hk2, fT_at hp2]; exact hl))
    clear hl
    go_wp2_with fail
    refine (vaD B q m g c l2 p k w1 (by rw [Hl2.out]; exact Q1.out) hp2 hk2 (by rw [Hl2.out]; exact hlen)).mono ?_
    rintro e w2 ⟨rfl, Q2, O2⟩
    rw [Hl2.out] at Q2
    have hU2 := HU.out
    rw [Hpp.out, ← vbu l2 p k hp2 hk2] at hU2
    have Hn : Hid (UpW w B q m g c n N l p (swapL l2 p k hp2 hk2) w2) := Lib.hid ⟨Q2, (vaW l2 p k hp2 hk2).trans R.out.pm, by rw [vaF]; exact Hl2.out, fun y hy => by rw [vbu, swH_o _ (by omega) (by omega)]; exact R.out.tl y hy, hU2, by omega, P1.out.trans O2⟩
    clear Q2 O2 hU2
    go_wp2_with fail
    go_roundw
    case rel => exact ⟨p, _, rfl, Hn⟩
    case measure => simp [intOf]; omega
end

end Go.Proofs.YtgopnfacklmkaaaGreatDoor
