/- Lemmas and contracts for the theorem of this claim: TmL, TmM, TmO, TmP, RoL, CfC. -/
import Derived.Test.YtgopnfacklmkaaaGreatDoorZxAp
import Derived.Carry
set_option linter.all false
set_option maxHeartbeats 16000000
namespace Go.Proofs.YtgopnfacklmkaaaGreatDoor
section
open Go.RowKit Go.Maps Go.WideShapes
set_option maxRecDepth 100000 in
theorem vcS (B q m g c n : Nat) (l : List Tw) (i : Nat) (w : World) (Q : QuM w B q m (.slice (some ⟨g, 0, none⟩) (n + 1) c) l) (hn : l.length = n + 1) (hi : i ≤ n) (hl : n ≤ 900000) (hH : Heap ltT (fT l) (n + 1)) :
  Calls Tryz.prog 256 #[quI q, .int .i64 (i : Int)] w fun e w' => ∃ l', e = .returned (.iface 337 (twV (fT l i))) ∧ QuM w' B q m (.slice (some ⟨g, 0, none⟩) n c) l' ∧ (l' ++ [fT l i]).Perm l ∧ l'.length = n ∧ Heap ltT (fT l') n ∧ Only [q, g, m] w w' := by
 obtain ⟨y, hy⟩ : ∃ y, fT l i = y := ⟨_, rfl⟩
 rw [hy]
 have Hy := Lib.hid hy
 clear hy
 have HQ := Lib.hid Q
 have Hn := Lib.hid hn
 have HH := Lib.hid hH
 have hil : i < l.length := by omega
 have hnn : n < l.length := by omega
 have hS := vaB B q m g c l i n w (by rw [hn]; exact Q) hil hnn (by omega)
 rw [hn] at hS
 have HS := Lib.hid hS
 have hw : IntKind.i64.wrap (n : Int) = (n : Int) := IntWalk.i64_in _ (by omega)
 clear Q hn hS hH
 by_cases hni : n = i
 ·have b1 : ((n : Int) != (i : Int)) = false := by rw [bne_eq_false_iff_eq]; omega
  have b2 : ((n : Int) == (i : Int)) = true := by rw [beq_iff_eq]; omega
  obtain ⟨l3, x, e2, hl3⟩ := vbV Hn.out
  have hx : x = y := by
   have h6 : fT (l3 ++ [x]) n = x := by rw [← hl3]; exact veP l3 x
   rw [← Hy.out, e2, ← hni, h6]
  have Hni := Lib.hid hni
  subst e2
  subst hx
  have hH3 := Lib.hid ((HH.out.less (Nat.le_succ n)).congr (g := fT l3) (fun k hk => (vfm l3 _ (by omega)).symm))
  clear hni HS
  go_enter Tryz.func256, Tryz.ntmps256
  go_wp2_with fail
  refine (vaU q (.map (some m)) (some ⟨g, 0, none⟩) (n + 1) c w HQ.out.bk).mono ?_
  rintro e w ⟨rfl, rfl⟩
  go_wp2_with fail
  refine (vbp B q m g c n l3 x w HQ.out hl3 (by omega)).mono ?_
  rintro e w3 ⟨rfl, Q3, O3⟩
  go_wp2_with fail
  go_ret
  exact ⟨l3, rfl, Q3, List.Perm.refl _, hl3, hH3.out, O3.wide (by simp)⟩
 ·have b1 : ((n : Int) != (i : Int)) = true := by rw [bne_iff_ne]; omega
  have b2 : ((n : Int) == (i : Int)) = false := by rw [beq_eq_false_iff_ne]; omega
  have Hin := Lib.hid (show i < n by omega)
  clear hni
  go_enter Tryz.func256, Tryz.ntmps256
  go_wp2_with fail
  refine (vaU q (.map (some m)) (some ⟨g, 0, none⟩) (n + 1) c w HQ.out.bk).mono ?_
  rintro e w ⟨rfl, rfl⟩
  go_wp2_with fail
  refine HS.out.mono ?_
  rintro e w1 ⟨rfl, Q1, O1⟩
  have hl1 : (swapL l i n hil hnn).length = n + 1 := by rw [vaz]; exact Hn.out
  have hD : DownH ltT (fT (swapL l i n hil hnn)) n i i := by
   refine Heap.put vbb (HH.out.less (Nat.le_succ n)) (fun k hk hk0 => ?_) Hin.out
   rw [vbo, swH_o _ hk0 (by omega)]
  have HD := Lib.hid hD
  have Hl1 := Lib.hid hl1
  clear hD hl1 HS HH
  go_wp2_with fail
  refine (vcd B q m g c n (n + 1) (swapL l i n hil hnn) i w1 Q1 Hl1.out (Nat.le_succ n) (by omega) (by omega) (by omega) HD.out).mono ?_
  rintro e w2 ⟨l2, b, rfl, hp2, hl2, Q2, ht2, hT, hF, O2⟩
  have HT := Lib.hid hT
  have HF := Lib.hid hF
  clear hT hF
  cases b with
  | true =>
   have hH2 : Heap ltT (fT l2) n := (by first | exact HT.out rfl | exact HT.out trivial)
   obtain ⟨l3, x, e2, hl3⟩ := vbV hl2
   have hx : x = y := by
    have h5 := (ht2) n (Nat.le_refl _)
    have h6 : fT (l3 ++ [x]) n = x := by rw [← hl3]; exact veP l3 x
    rw [e2, h6, vbo, swH_r, Hy.out] at h5
    exact h5
   subst e2
   subst hx
   have hH3 := Lib.hid ((hH2).congr (g := fT l3) (fun k hk => (vfm l3 _ (by omega)).symm))
   have hp3 := Lib.hid ((hp2).trans (vaP l i n hil hnn))
   have hO := Lib.hid (O1.trans O2)
   go_wp2_with fail
   refine (vbp B q m g c n l3 x _ Q2 hl3 (by omega)).mono ?_
   rintro e w5 ⟨rfl, Q5, O5⟩
   go_wp2_with fail
   go_ret
   exact ⟨l3, rfl, Q5, hp3.out, hl3, hH3.out, (hO.out.wide (by simp)).trans (O5.wide (by simp))⟩
  | false =>
   obtain ⟨hU, _⟩ : UpH ltT (fT l2) n i ∧ l2 = swapL l i n hil hnn := (by first | exact HF.out rfl | exact HF.out trivial)
   have HU := Lib.hid hU
   clear hU
   go_wp2_with fail
   refine (vbU B q m g c n (n + 1) l2 i w2 Q2 hl2 (Nat.le_succ n) Hin.out (by omega) HU.out).mono ?_
   rintro e w4 ⟨rfl, l4, hp4, hl4, hH4, ht4, Q4, O4⟩
   obtain ⟨l3, x, e2, hl3⟩ := vbV hl4
   have hx : x = y := by
    have h5 := (fun y hy => (ht4 y hy).trans (ht2 y hy)) n (Nat.le_refl _)
    have h6 : fT (l3 ++ [x]) n = x := by rw [← hl3]; exact veP l3 x
    rw [e2, h6, vbo, swH_r, Hy.out] at h5
    exact h5
   subst e2
   subst hx
   have hH3 := Lib.hid ((hH4).congr (g := fT l3) (fun k hk => (vfm l3 _ (by omega)).symm))
   have hp3 := Lib.hid ((hp4.trans hp2).trans (vaP l i n hil hnn))
   have hO := Lib.hid ((O1.trans O2).trans O4)
   go_wp2_with fail
   refine (vbp B q m g c n l3 x _ Q4 hl3 (by omega)).mono ?_
   rintro e w5 ⟨rfl, Q5, O5⟩
   go_wp2_with fail
   go_ret
   exact ⟨l3, rfl, Q5, hp3.out, hl3, hH3.out, (hO.out.wide (by simp)).trans (O5.wide (by simp))⟩
theorem vcp (a q : Nat) (w : World) (h : Blk w a 216 #[.pointer (some ⟨q, 0, none⟩)]) : Calls Tryz.prog 252 #[.pointer (some ⟨a, 0, none⟩)] w fun e w' => e = .returned (.bool false) ∧ w = w' := by
 have c0 : w.cell? ⟨a, 0, none⟩ = some (.pointer (some ⟨q, 0, none⟩)) := h.cell 0
 clear h
 go_enter Tryz.func252, Tryz.ntmps252
 go_wp2_with fail
 go_ret
 exact ⟨rfl, rfl⟩
theorem vkU (g : Nat) (w : World) (h : Blk w g 250 #[.int .i64 1, .int .i64 2]) : Calls Tryz.prog 297 #[.int .i64 3, .slice (some ⟨g, 0, none⟩) 2 2] w fun e w' => e = .returned (.bool false) ∧ w = w' := by
 obtain ⟨c0, c1⟩ := Blk.v2 h (.int .i64 1) (.int .i64 2) rfl
 clear h
 go_enter Tryz.func297, Tryz.ntmps297
 go_wp2_with fail
 refine wp_loop_rounds 3 ?_
 rw [rounds_succ]
 go_wp2_with fail
 rw [rounds_succ]
 go_wp2_with fail
 rw [rounds_succ]
 go_wp2_with fail
 go_ret
 exact ⟨rfl, rfl⟩
theorem vjc (g : Nat) (w : World) (h : Blk w g 250 #[.int .i64 3]) : Calls Tryz.prog 297 #[.int .i64 3, .slice (some ⟨g, 0, none⟩) 1 1] w fun e w' => e = .returned (.bool true) ∧ w = w' := by
 have c0 : w.cell? ⟨g, 0, none⟩ = some (.int .i64 3) := h.cell 0
 clear h
 go_enter Tryz.func297, Tryz.ntmps297
 go_wp2_with fail
 refine wp_loop_rounds 2 ?_
 rw [rounds_succ]
 go_wp2_with fail
 go_ret
 exact ⟨rfl, rfl⟩
set_option maxRecDepth 100000 in
theorem vjd (w : World) : Calls Tryz.prog 50 #[] w fun e w' => ∃ a q m, e = .returned (.pointer (some ⟨a, 0, none⟩)) ∧ Blk w' a 216 #[.pointer (some ⟨q, 0, none⟩)] ∧ QuM w' w.heap.size q m (.slice none 0 0) [] ∧ Kp w w' ∧ ∀ b ∈ [a, q, m], w.heap.size ≤ b ∧ b < w'.heap.size := by
 have hmk : ∀ w, (Instr.makeMap 211 none).run Tryz.prog w = .ok (.map (some w.heap.size)) (w.alloc (.map #[] 0)) := fun w => run_makeMap _ _
 go_enter Tryz.func50, Tryz.ntmps50
 go_wp2_with fail
 go_ret
 refine ⟨w.heap.size + 1 + 1, w.heap.size + 1, w.heap.size, rfl, ?_, ⟨?_, Own.nil _ _ _ _ _, ⟨fun _ => none, ?_, ?_⟩, fun t ht => absurd ht (by simp)⟩, (((Kp.refl w).alloc _).alloc _).alloc _, by simp; omega⟩
 ·have h := Blk.new1 (w.alloc (.map #[] 0)) (.cells #[.slice none 0 0, .map (some w.heap.size)] 214) 216 #[.pointer (some ⟨w.heap.size + 1, 0, none⟩)]
  simpa using h
 ·have h := (Blk.new (w.alloc (.map #[] 0)) 214 #[.slice none 0 0, .map (some w.heap.size)]).alloc (.cells #[.pointer (some ⟨w.heap.size + 1, 0, none⟩)] 216)
  simpa using h
 ·exact ⟨.map [], ((World.ownsMap_made w Tryz.prog 252 (plainElem Tryz.prog 3)).alloc _).alloc _, rfl, ⟨fun t _ => rfl, fun t _ i h => by cases h⟩⟩
 ·exact ⟨fun i h => absurd h (by simp), fun t _ => rfl⟩
set_option maxRecDepth 100000 in
theorem vat (p : PI) (w : World) (ha : p.a < 4294967296) : Calls Tryz.prog 253 #[.agg #[.int .i64 3, .int .u32 p.a, .int .i64 p.l]] w fun e w' => e = .returned (.int .i64 (if checkP p = 0 then 0 else 2)) ∧ Kp w w' := by
 obtain ⟨V, hV⟩ : ∃ V : Int, (if checkP p = 0 then 0 else 2) = V := ⟨_, rfl⟩
 rw [hV]
 have HV := Lib.hid hV
 clear hV
 obtain ⟨W, hW, kW, BW⟩ := Blk.al1 (w := w) rfl #[.int .i64 3, .int .u32 p.a, .int .i64 p.l] 252
 have c0 : W.cell? ⟨w.heap.size, 0, none⟩ = some (.int .i64 3) := BW.cell 0
 have kW1 := kW.alloc (.cells #[.int .i64 1, .int .i64 2] 250)
 have BW1 := BW.alloc (.cells #[.int .i64 1, .int .i64 2] 250)
 have HB := Lib.hid BW1
 go_enter Tryz.func253, Tryz.ntmps253
 go_wp2_with fail
 refine vab 0 rfl ?_
 go_wp2_with fail
 try rw [hW]
 clear hW
 refine (vkU W.heap.size _ (Blk.new W _ _)).mono ?_
 rintro e w' ⟨rfl, rfl⟩
 obtain ⟨W1, hW1, k1, B1⟩ : ∃ W1, W.alloc (.cells #[.int .i64 1, .int .i64 2] 250) = W1 ∧ Kp w W1 ∧ Blk W1 w.heap.size 252 #[.int .i64 3, .int .u32 p.a, .int .i64 p.l] := ⟨_, rfl, kW1, BW1⟩
 rw [hW1]
 clear hW1 c0
 have c0 : W1.cell? ⟨w.heap.size, 0, none⟩ = some (.int .i64 3) := B1.cell 0
 go_wp2_with fail
 refine (vjc W1.heap.size _ (Blk.new W1 _ _)).mono ?_
 rintro e w' ⟨rfl, rfl⟩
 obtain ⟨W2, hW2, k2, B2⟩ : ∃ W2, W1.alloc (.cells #[.int .i64 3] 250) = W2 ∧ Kp w W2 ∧ Blk W2 w.heap.size 252 #[.int .i64 3, .int .u32 p.a, .int .i64 p.l] := ⟨_, rfl, k1.alloc _, B1.alloc _⟩
 rw [hW2]
 clear hW2 c0
 obtain ⟨-, c1, c2⟩ := Blk.v3 B2 _ (.int .u32 p.a) (.int .i64 p.l) rfl
 go_wp2_with fail
 refine (vaY p W2 ha).mono ?_
 rintro e w3 ⟨rfl, K3⟩
 obtain ⟨e, he⟩ : ∃ e, checkP p = e := ⟨_, rfl⟩
 rw [he]
 have HE := Lib.hid he
 clear he
 by_cases h0 : e = 0
 ·subst h0
  have HW := Lib.hid (show V = 0 by rw [← HV.out, if_pos HE.out])
  go_wp2_with fail
  refine van ?_
  go_ret
  exact ⟨by rw [HW.out]; rfl, k2.trans K3⟩
 ·have hb : (e != 0) = true := by rw [bne_iff_ne]; exact h0
  have hb2 : (e == 0) = false := by rw [beq_eq_false_iff_ne]; exact h0
  have HW := Lib.hid (show V = 2 by rw [← HV.out, if_neg (by rw [HE.out]; exact h0)])
  clear h0
  go_wp2_with fail
  go_step3
  refine ⟨rfl, ?_⟩
  go_wp2_with fail
  refine vbN ?_
  go_ret
  exact ⟨by rw [HW.out]; rfl, k2.trans K3⟩
theorem rowTb (v : Value) (w : World) : (Instr.typeAssert (.iface 337 v) 20 337 false).run Tryz.prog w = .ok v w := by kernel_rfl
theorem PI.ext' {p q : PI} (h1 : p.a = q.a) (h2 : p.l = q.l) : p = q := by cases p; cases q; simp only at h1 h2; subst h1; subst h2; rfl
instance : DecidableEq PI := fun p q => if h : p.a = q.a ∧ p.l = q.l then isTrue (PI.ext' h.1 h.2) else isFalse (fun e => h (by rw [e]; exact ⟨rfl, rfl⟩))
def offP (p : PI) (l : List Tw) : List Tw := l.filter (fun y => decide (y.p ≠ p))
theorem vbd {p : PI} {l : List Tw} (h : ∀ y ∈ l, y.p ≠ p) : offP p l = l := List.filter_eq_self.2 (fun y hy => by simpa using h y hy)
theorem tk_eq {x y : Tw} (hx : x.k = 3) (hy : y.k = 3) : x.tk = y.tk ↔ x.p = y.p := by
 constructor
 ·intro h; injection h
 ·intro h; unfold Tw.tk; rw [hx, hy, h]
theorem vhp {l l' : List Tw} {x : Tw} (hx : ∀ y ∈ l', y.p ≠ x.p) (h : (l' ++ [x]).Perm l) : l'.Perm (offP x.p l) := by
 have h2 := h.filter (fun y => decide (y.p ≠ x.p))
 rw [List.filter_append] at h2
 have e1 : l'.filter (fun y => decide (y.p ≠ x.p)) = l' := vbd hx
 rw [e1] at h2
 have e3 : [x].filter (fun y => decide (y.p ≠ x.p)) = [] := by simp
 rw [e3, List.append_nil] at h2
 exact h2
theorem vje {l : List Tw} {i : Nat} (hi : i < l.length) (x : Tw) (hp : x.p = l[i].p) (hd : ∀ j (h : j < l.length), l[j].p = l[i].p → j = i) : (l.set i x).Perm (x :: offP x.p l) := by
 have e : l = l.take i ++ l[i] :: l.drop (i + 1) := by rw [List.getElem_cons_drop, List.take_append_drop]
 have e1 : ∀ y ∈ l.take i, y.p ≠ x.p := fun y hy => by
  obtain ⟨j, hj, rfl⟩ := List.getElem_of_mem hy
  rw [List.length_take] at hj
  rw [List.getElem_take, hp]
  exact fun e => by have := hd j (by omega) e; omega
 have e2 : ∀ y ∈ l.drop (i + 1), y.p ≠ x.p := fun y hy => by
  obtain ⟨j, hj, rfl⟩ := List.getElem_of_mem hy
  rw [List.length_drop] at hj
  rw [List.getElem_drop, hp]
  exact fun e => by have := hd _ (by omega) e; omega
 have e3 : offP x.p l = l.take i ++ l.drop (i + 1) := by
  conv => lhs; rw [e]
  unfold offP
  rw [List.filter_append, List.filter_cons, if_neg (by simp [hp])]
  congr 1
  ·exact vbd e1
  ·exact vbd e2
 rw [e3, List.set_eq_take_append_cons_drop, if_pos hi]
 exact List.perm_middle
theorem vkV {l : List Tw} {i : Nat} (hi : i < l.length) (x : Tw) : fT (l.set i x) i = x ∧ ∀ k, k ≠ i → fT (l.set i x) k = fT l k := by
 refine ⟨by rw [fT_at (by rw [List.length_set]; exact hi), List.getElem_set_self], fun k hk => ?_⟩
 unfold fT
 rw [List.getD_eq_getElem?_getD, List.getD_eq_getElem?_getD, List.getElem?_set_ne (fun e => hk e.symm)]
theorem PlOf.set_ {f : Tk → Option Nat} {l : List Tw} (h : PlOf f l) {i : Nat} (hi : i < l.length) (x : Tw) (e : x.tk = l[i].tk) : PlOf f (l.set i x) := by
 have hg : ∀ k (hk : k < (l.set i x).length), (l.set i x)[k].tk = (l[k]'(by rw [List.length_set] at hk; exact hk)).tk := fun k hk => by
  rw [List.getElem_set]
  split
  ·next e2 => subst e2; exact e
  ·rfl
 constructor
 ·intro k hk
  rw [hg]
  exact h.at_ k _
 ·intro t ht
  refine h.no t (fun k hk => ?_)
  have := ht k (by rw [List.length_set]; exact hk)
  rw [hg] at this
  exact this
theorem Own.putDue {w : World} {B g n c : Nat} {l : List Tw} (h : Own w B 337 4 Tw.enc (.slice (some ⟨g, 0, none⟩) n c) l) {i : Nat} (hi : i < l.length) (x : Tw) (ht : x.tk = l[i].tk) : Own (w.setCell ⟨g, i * 4 + 3, none⟩ (.int .i64 x.d)) B 337 4 Tw.enc (.slice (some ⟨g, 0, none⟩) n c) (l.set i x) := by
 have h2 := h.putTw hi x
 have e : x.k = l[i].k ∧ x.p = l[i].p := by unfold Tw.tk at ht; injection ht with e1 e2; exact ⟨e1, e2⟩
 obtain ⟨b, off, hA, x0, x1, x2, x3⟩ := tw_at (h.rdAt (by decide) Tw.len) hi
 injection hA with hA
 injection hA with e1 e2
 subst e1
 subst e2
 rw [Nat.zero_add] at x0 x1 x2
 rw [← e.1] at x0
 rw [← e.2] at x1 x2
 obtain ⟨cur, hB⟩ := h.blk4
 rw [hB.cell] at x0 x1 x2
 have hid : ∀ (k : Nat) (u : Value), cur[k]? = some u → cur.setIfInBounds k u = cur := fun k u hu => by
  obtain ⟨hk, e⟩ := Array.getElem?_eq_some_iff.1 hu
  apply Array.ext_getElem?
  intro j
  rw [Array.getElem?_setIfInBounds]
  split
  ·next e2 => subst e2; exact hu.symm
  ·rfl
 have hB' := (((hB.set_ (i * 4) (.int .i64 x.k)).set_ (i * 4 + 1) (.int .u32 (x.p.a : Int))).set_ (i * 4 + 2) (.int .i64 x.p.l)).set_ (i * 4 + 3) (.int .i64 x.d)
 rw [hid _ _ x0, hid _ _ x1, hid _ _ x2] at hB'
 have hS := hB.set_ (i * 4 + 3) (.int .i64 x.d)
 exact h2.lie (Eq.trans hS hB'.symm)
end

section
open Go.RowKit
def okR (r : Rt) : Bool := stateB r && toldB r.p
theorem vek (r : Rt) : checkR r = if okR r then 0 else 2 := rfl
structure Cf where
 t0 : Int
 t1 : Int
 t2 : Int
 t3 : Int
 t4 : Int
 t5 : Int
 t6 : Int
 cap : Int
 own : List PI
def Cf.t (c : Cf) (k : Nat) : Int := match k with | 0 => c.t0 | 1 => c.t1 | 2 => c.t2 | 3 => c.t3 | 4 => c.t4 | 5 => c.t5 | _ => c.t6
def leastS (k : Nat) : Int := match k with | 0 => 1 | 1 => 0 | 2 => 1 | 3 => 0 | 4 => 1 | 5 => 0 | _ => 0
def spanB (k : Nat) (c : Cf) : Bool := withB (leastS k) 1000000 (c.t k)
def spansB (c : Cf) : Bool := spanB 0 c && spanB 1 c && spanB 2 c && spanB 3 c && spanB 4 c && spanB 5 c && spanB 6 c
def freeB (l : List PI) : Bool := l.all toldB && decide l.Nodup
def okCf (c : Cf) : Bool := spansB c && withB 1 256 c.cap && (decide ((c.own.length : Int) ≤ min 16 c.cap) && freeB c.own)
def checkC (c : Cf) : Int := if okCf c then 0 else 2
theorem vag {lo hi n : Int} : withB lo hi n = true ↔ lo ≤ n ∧ n ≤ hi := by
 simp only [withB, Bool.and_eq_true, Bool.not_eq_true', decide_eq_false_iff_not]
 omega
theorem vcK {l : List PI} {i : Nat} (h : i < l.length) : freeB (l.take (i + 1)) = (freeB (l.take i) && (toldB l[i] && decide (l[i] ∉ l.take i))) := by
 have e : l.take (i + 1) = l.take i ++ [l[i]] := by rw [List.take_succ_eq_append_getElem h]
 unfold freeB
 rw [e, List.all_append, Bool.eq_iff_iff]
 simp only [Bool.and_eq_true, List.all_cons, List.all_nil, Bool.and_true, decide_eq_true_eq, List.nodup_append]
 constructor
 ·rintro ⟨⟨h1, h2⟩, h3, _, h4⟩
  exact ⟨⟨h1, h3⟩, h2, fun hm => h4 _ hm _ (by simp) rfl⟩
 ·rintro ⟨⟨h1, h2⟩, h3, h4⟩
  refine ⟨⟨h1, h3⟩, h2, by simp, fun a ha b hb e => ?_⟩
  simp only [List.mem_cons, List.not_mem_nil, or_false] at hb
  subst hb
  subst e
  exact h4 ha
theorem vel {l : List PI} {i : Nat} (h : freeB (l.take i) = false) : freeB l = false := by
 cases e : freeB l with
 | false => rfl
 | true =>
  unfold freeB at e h
  simp only [Bool.and_eq_true, List.all_eq_true, decide_eq_true_eq] at e
  rw [← h]
  symm
  simp only [Bool.and_eq_true, List.all_eq_true, decide_eq_true_eq]
  exact ⟨fun x hx => e.1 x (List.mem_of_mem_take hx), e.2.sublist (List.take_sublist _ _)⟩
structure Hd where
 f : Int
 a : Nat
 m : Int
def okHd (h : Hd) : Bool := mayB h.f h.a && withB 1 16 h.m
def okNow (t : Int) : Bool := withB 0 4611686018426387904 t
def noR (p : PI) : Rt := ⟨p, 0, 0, 0, 0, 0, 0, false⟩
def ownR (p : PI) : Rt := ⟨p, 1, 1, 0, 0, 0, 0, true⟩
def lostR (c : Cf) (r : Rt) (now : Int) : Rt := ⟨r.p, 3, 16, r.m, r.f, r.x, now + c.t3, true⟩
def newR (c : Cf) (r : Rt) (h : Hd) (now : Int) : Rt := ⟨r.p, 2, min (h.m + 1) 16, 0, h.f, h.a, now + c.t2, true⟩
def hearR (c : Cf) (r : Rt) (h : Hd) (now : Int) : Rt :=
 if r.s = 1 then r
 else if r.s = 2 then
  if h.f = r.f ∧ h.a = r.x then
   if min (h.m + 1) 16 = r.m then ⟨r.p, 2, r.m, r.l, r.f, r.x, now + c.t2, r.c⟩
   else if min (h.m + 1) 16 = 16 then lostR c r now
   else newR c r h now
  else if min (h.m + 1) 16 < r.m then newR c r h now else r
 else if r.s = 3 then if min (h.m + 1) 16 < r.l then newR c r h now else r
 else if min (h.m + 1) 16 < 16 then newR c r h now else r
def askH (c : Cf) (r : Rt) (h : Hd) (now : Int) : Int := if okCf c && okR r && okHd h then (if okNow now then 0 else 170) else 2
theorem vem {c : Cf} (h : okCf c = true) : ∀ k, k < 7 → leastS k ≤ c.t k ∧ c.t k ≤ 1000000 := by
 unfold okCf spansB spanB at h
 rw [Bool.and_eq_true, Bool.and_eq_true] at h
 simp only [Bool.and_eq_true, vag] at h
 obtain ⟨⟨⟨⟨⟨⟨⟨⟨h0, h1⟩, h2⟩, h3⟩, h4⟩, h5⟩, h6⟩, _⟩, _⟩ := h
 intro k hk
 have : k = 0 ∨ k = 1 ∨ k = 2 ∨ k = 3 ∨ k = 4 ∨ k = 5 ∨ k = 6 := by omega
 rcases this with rfl | rfl | rfl | rfl | rfl | rfl | rfl
 all_goals first | exact h0 | exact h1 | exact h2 | exact h3 | exact h4 | exact h5 | exact h6
theorem vcq {c : Cf} (h : okCf c = true) : 1 ≤ c.cap ∧ c.cap ≤ 256 ∧ (c.own.length : Int) ≤ 16 ∧ (c.own.length : Int) ≤ c.cap ∧ (∀ p ∈ c.own, toldB p = true) ∧ c.own.Nodup := by
 unfold okCf freeB at h
 simp only [Bool.and_eq_true, vag, decide_eq_true_eq, List.all_eq_true] at h
 obtain ⟨⟨_, h1, h2⟩, h3, h4, h5⟩ := h
 exact ⟨h1, h2, by omega, by omega, h4, h5⟩
theorem vkW {p : PI} (h : toldB p = true) : checkP p = 0 := by
 unfold toldB at h
 simp only [Bool.and_eq_true] at h
 unfold checkP
 rw [if_pos h.1]
theorem vaG (r : Rt) : okR r = true ↔ toldB r.p = true ∧ stateB r = true := by unfold okR; rw [Bool.and_eq_true]; exact And.comm
theorem vhq {p : PI} (h : toldB p = true) : okR (noR p) = true := by
 rw [vaG]
 exact ⟨h, by rfl⟩
theorem ven {p : PI} (h : toldB p = true) : okR (ownR p) = true := by
 rw [vaG]
 exact ⟨h, by rfl⟩
theorem vbH {r : Rt} (h : stateB r = true) : r.s = 0 ∨ r.s = 1 ∨ r.s = 2 ∨ r.s = 3 ∨ r.s = 4 := by
 unfold stateB at h
 split at h
 ·exact .inl (by assumption)
 ·split at h
  ·exact .inr (.inl (by assumption))
  ·split at h
   ·exact .inr (.inr (.inl (by assumption)))
   ·split at h
    ·exact .inr (.inr (.inr (.inl (by assumption))))
    ·split at h
     ·exact .inr (.inr (.inr (.inr (by assumption))))
     ·cases h
theorem vbi {r : Rt} (hs : r.s = 2) : stateB r = true ↔ 2 ≤ r.m ∧ r.m ≤ 15 ∧ r.l = 0 ∧ mayB r.f r.x = true ∧ 0 ≤ r.d ∧ r.d ≤ 4611686018427387904 := by
 simp only [stateB, hs, hasB, someB, Bool.and_eq_true, vag, beq_iff_eq, if_true, if_false, show ¬ (2 : Int) = 0 by decide, show ¬ (2 : Int) = 1 by decide]
 constructor
 ·rintro ⟨⟨a, b⟩, ⟨_, c⟩, d, e, f⟩
  exact ⟨a, b, c, d, e, f⟩
 ·rintro ⟨a, b, c, d, e, f⟩
  exact ⟨⟨a, b⟩, ⟨trivial, c⟩, d, e, f⟩
theorem vcr {r : Rt} (hs : r.s = 3) : stateB r = true ↔ r.m = 16 ∧ 2 ≤ r.l ∧ r.l ≤ 15 ∧ mayB r.f r.x = true ∧ 0 ≤ r.d ∧ r.d ≤ 4611686018427387904 := by
 simp only [stateB, hs, hasB, someB, Bool.and_eq_true, vag, beq_iff_eq, if_true, if_false, show ¬ (3 : Int) = 0 by decide, show ¬ (3 : Int) = 1 by decide, show ¬ (3 : Int) = 2 by decide]
 constructor
 ·rintro ⟨⟨a, b⟩, ⟨c, _⟩, d, e, f⟩
  exact ⟨c, a, b, d, e, f⟩
 ·rintro ⟨c, a, b, d, e, f⟩
  exact ⟨⟨a, b⟩, ⟨c, trivial⟩, d, e, f⟩
theorem vjf {r : Rt} (hs : r.s = 4) : stateB r = true ↔ r.m = 16 ∧ r.l = 0 ∧ mayB r.f r.x = true ∧ 0 ≤ r.d ∧ r.d ≤ 4611686018427387904 := by
 simp only [stateB, hs, hasB, someB, Bool.and_eq_true, vag, beq_iff_eq, if_true, if_false, show ¬ (4 : Int) = 0 by decide, show ¬ (4 : Int) = 1 by decide, show ¬ (4 : Int) = 2 by decide, show ¬ (4 : Int) = 3 by decide]
 constructor
 ·rintro ⟨⟨a, b⟩, d, e, f⟩
  exact ⟨a, b, d, e, f⟩
 ·rintro ⟨a, b, d, e, f⟩
  exact ⟨⟨a, b⟩, d, e, f⟩
theorem vfX {c : Cf} {r : Rt} {now : Int} (hc : okCf c = true) (hr : okR r = true) (hs : r.s = 2) (hn : okNow now = true) : okR (lostR c r now) = true := by
 rw [vaG] at hr ⊢
 rw [vbi hs] at hr
 have ht := vem hc 3 (by omega)
 simp only [leastS, Cf.t] at ht
 rw [okNow, vag] at hn
 refine ⟨hr.1, (vcr rfl).2 ?_⟩
 simp only [lostR]
 exact ⟨trivial, hr.2.1, hr.2.2.1, hr.2.2.2.2.1, by omega, by omega⟩
theorem vbe {c : Cf} {r : Rt} {h : Hd} {now : Int} (hc : okCf c = true) (hr : okR r = true) (hh : okHd h = true) (hn : okNow now = true) (hm : min (h.m + 1) 16 < 16) : okR (newR c r h now) = true := by
 rw [vaG] at hr ⊢
 have ht := vem hc 2 (by omega)
 simp only [leastS, Cf.t] at ht
 rw [okNow, vag] at hn
 rw [okHd, Bool.and_eq_true, vag] at hh
 refine ⟨hr.1, (vbi rfl).2 ?_⟩
 simp only [newR]
 exact ⟨by omega, by omega, trivial, hh.1, by omega, by omega⟩
theorem vfY {c : Cf} {r : Rt} {h : Hd} {now : Int} (hc : okCf c = true) (hr : okR r = true) (hh : okHd h = true) (hn : okNow now = true) : okR (hearR c r h now) = true := by
 have hr' := hr
 rw [vaG] at hr'
 have hm : 2 ≤ min (h.m + 1) 16 := by rw [okHd, Bool.and_eq_true, vag] at hh; omega
 unfold hearR
 rcases vbH hr'.2 with hs | hs | hs | hs | hs
 ·rw [if_neg (by omega), if_neg (by omega), if_neg (by omega)]
  split
  ·exact vbe hc hr hh hn (by assumption)
  ·exact hr
 ·rw [if_pos hs]
  exact hr
 ·rw [if_neg (by omega), if_pos hs]
  have h2 := (vbi hs).1 hr'.2
  split
  ·split
   ·rw [vaG]
    have ht := vem hc 2 (by omega)
    simp only [leastS, Cf.t] at ht
    rw [okNow, vag] at hn
    refine ⟨hr'.1, (vbi rfl).2 ?_⟩
    simp only
    exact ⟨h2.1, h2.2.1, h2.2.2.1, h2.2.2.2.1, by omega, by omega⟩
   ·split
    ·exact vfX hc hr hs hn
    ·exact vbe hc hr hh hn (by omega)
  ·split
   ·exact vbe hc hr hh hn (by omega)
   ·exact hr
 ·rw [if_neg (by omega), if_neg (by omega), if_pos hs]
  have h3 := (vcr hs).1 hr'.2
  split
  ·exact vbe hc hr hh hn (by omega)
  ·exact hr
 ·rw [if_neg (by omega), if_neg (by omega), if_neg (by omega)]
  split
  ·exact vbe hc hr hh hn (by assumption)
  ·exact hr
theorem vlN (c : Cf) (r : Rt) (h : Hd) (now : Int) : (hearR c r h now).p = r.p := by
 unfold hearR newR lostR
 repeat' split
 all_goals rfl
def cfC (c : Cf) (A : Option Addr) (n k : Nat) : Array Value := #[.int .i64 c.t0, .int .i64 c.t1, .int .i64 c.t2, .int .i64 c.t3, .int .i64 c.t4, .int .i64 c.t5, .int .i64 c.t6, .int .i64 c.cap, .slice A n k]
abbrev cfV (c : Cf) (A : Option Addr) (n k : Nat) : Value := .agg #[.int .i64 c.t0, .int .i64 c.t1, .int .i64 c.t2, .int .i64 c.t3, .int .i64 c.t4, .int .i64 c.t5, .int .i64 c.t6, .int .i64 c.cap, .slice A n k]
theorem vkX (c : Cf) (A : Option Addr) (n k : Nat) (w : World) : Calls Tryz.prog 235 #[cfV c A n k] w fun e w' => e = .returned (.int .i64 c.t0) ∧ Kp w w' := by
 obtain ⟨W, hW, kW, B0⟩ := Blk.al1 (w := w) rfl (cfC c A n k) 49
 have p0 := Blk.f B0 rfl
 unfold cfC at hW
 go_enter Tryz.func235, Tryz.ntmps235
 go_wp2_with fail
 go_ret
 exact ⟨rfl, kW⟩
theorem vkY (c : Cf) (A : Option Addr) (n k : Nat) (w : World) : Calls Tryz.prog 236 #[cfV c A n k] w fun e w' => e = .returned (.int .i64 c.t1) ∧ Kp w w' := by
 obtain ⟨W, hW, kW, B0⟩ := Blk.al1 (w := w) rfl (cfC c A n k) 49
 have p0 := Blk.f B0 rfl
 unfold cfC at hW
 go_enter Tryz.func236, Tryz.ntmps236
 go_wp2_with fail
 go_ret
 exact ⟨rfl, kW⟩
theorem vkZ (c : Cf) (A : Option Addr) (n k : Nat) (w : World) : Calls Tryz.prog 237 #[cfV c A n k] w fun e w' => e = .returned (.int .i64 c.t2) ∧ Kp w w' := by
 obtain ⟨W, hW, kW, B0⟩ := Blk.al1 (w := w) rfl (cfC c A n k) 49
 have p0 := Blk.f B0 rfl
 unfold cfC at hW
 go_enter Tryz.func237, Tryz.ntmps237
 go_wp2_with fail
 go_ret
 exact ⟨rfl, kW⟩
theorem vla (c : Cf) (A : Option Addr) (n k : Nat) (w : World) : Calls Tryz.prog 238 #[cfV c A n k] w fun e w' => e = .returned (.int .i64 c.t3) ∧ Kp w w' := by
 obtain ⟨W, hW, kW, B0⟩ := Blk.al1 (w := w) rfl (cfC c A n k) 49
 have p0 := Blk.f B0 rfl
 unfold cfC at hW
 go_enter Tryz.func238, Tryz.ntmps238
 go_wp2_with fail
 go_ret
 exact ⟨rfl, kW⟩
theorem vlb (c : Cf) (A : Option Addr) (n k : Nat) (w : World) : Calls Tryz.prog 239 #[cfV c A n k] w fun e w' => e = .returned (.int .i64 c.t4) ∧ Kp w w' := by
 obtain ⟨W, hW, kW, B0⟩ := Blk.al1 (w := w) rfl (cfC c A n k) 49
 have p0 := Blk.f B0 rfl
 unfold cfC at hW
 go_enter Tryz.func239, Tryz.ntmps239
 go_wp2_with fail
 go_ret
 exact ⟨rfl, kW⟩
theorem vlc (c : Cf) (A : Option Addr) (n k : Nat) (w : World) : Calls Tryz.prog 240 #[cfV c A n k] w fun e w' => e = .returned (.int .i64 c.t5) ∧ Kp w w' := by
 obtain ⟨W, hW, kW, B0⟩ := Blk.al1 (w := w) rfl (cfC c A n k) 49
 have p0 := Blk.f B0 rfl
 unfold cfC at hW
 go_enter Tryz.func240, Tryz.ntmps240
 go_wp2_with fail
 go_ret
 exact ⟨rfl, kW⟩
theorem vld (c : Cf) (A : Option Addr) (n k : Nat) (w : World) : Calls Tryz.prog 241 #[cfV c A n k] w fun e w' => e = .returned (.int .i64 c.t6) ∧ Kp w w' := by
 obtain ⟨W, hW, kW, B0⟩ := Blk.al1 (w := w) rfl (cfC c A n k) 49
 have p0 := Blk.f B0 rfl
 unfold cfC at hW
 go_enter Tryz.func241, Tryz.ntmps241
 go_wp2_with fail
 go_ret
 exact ⟨rfl, kW⟩
def clampI (n lo hi : Int) : Int := max lo (min n hi)
theorem vaC (n lo hi : Int) (h : lo ≤ hi) : (clampI n lo hi != n) = !withB lo hi n := by
 unfold clampI withB
 by_cases h1 : n < lo
 ·have : max lo (min n hi) ≠ n := by omega
  simp [h1, this]
 ·by_cases h2 : hi < n
  ·have : max lo (min n hi) ≠ n := by omega
   simp [h1, h2, this]
  ·have : max lo (min n hi) = n := by omega
   simp [h1, h2, this]
theorem vap (n lo hi : Int) (w : World) : Calls Tryz.prog 169 #[.int .i64 n, .int .i64 lo, .int .i64 hi] w fun e w' => e = .returned (.int .i64 (clampI n lo hi)) ∧ w = w' := by
 go_enter Tryz.func169, Tryz.ntmps169
 go_wp2_with fail
 all_goals
  rename_i h0
  go_ret
  refine ⟨congrArg (fun z => Ending.returned (.int .i64 z)) ?_, rfl⟩
  unfold clampI
  first | rw [if_pos h] at h0 | rw [if_neg (by omega)] at h0
  omega
theorem vdj (n lo hi : Int) (w : World) : Calls Tryz.prog 170 #[.int .i64 n, .int .i64 lo, .int .i64 hi] w fun e w' => e = .returned (.int .i64 (clampI n lo hi)) ∧ w = w' := by
 go_enter Tryz.func170, Tryz.ntmps170
 go_wp2_with fail
 all_goals
  rename_i h0
  go_ret
  refine ⟨congrArg (fun z => Ending.returned (.int .i64 z)) ?_, rfl⟩
  unfold clampI
  first | rw [if_pos h] at h0 | rw [if_neg (by omega)] at h0
  omega
set_option maxRecDepth 100000 in
theorem vjg (A : Option Addr) (c : Nat) (ps : List PI) (p : PI) (w : World) (hR : Rd w 2 PI.enc A ps) (hn : ps.length ≤ 1000000) : Calls Tryz.prog 243 #[.slice A ps.length c, .agg #[.int .u32 (p.a : Int), .int .i64 p.l]] w fun e w' => (∃ i : Int, e = .returned (.int .i64 i) ∧ decide (0 ≤ i) = decide (p ∈ ps)) ∧ Kp w w' := by
 obtain ⟨W, hW, kW, B0⟩ := Blk.al1 (w := w) rfl #[.int .u32 (p.a : Int), .int .i64 p.l] 39
 have hR := hR.keep kW
 go_enter Tryz.func243, Tryz.ntmps243
 go_wp2_with fail
 clear hW
 go_loopw [8] (fun i wr => ∃ k : Nat, k ≤ ps.length ∧ i = .int .i64 k ∧ Hid (∀ j (hj : j < ps.length), j < k → ¬ ps[j] = p) ∧ Kp w wr ∧ Kp W wr) (fun i _ => ps.length - (intOf i).toNat)
 case atStart => exact ⟨0, Nat.zero_le _, rfl, fun _ _ h => absurd h (by omega), kW, Kp.refl _⟩
 case round =>
  obtain ⟨k, hk, rfl, hall, hK, hK2⟩ := hrel
  have B := B0.keep hK2
  have p0 := Blk.f B rfl
  by_cases hlt : k < ps.length
  ·obtain ⟨b, off, rfl, c0, c1⟩ := pi_at (hR.keep hK2) hlt
   have heq := fun u => vkT u (p.a : Int) p.l (ps[k].a : Int) ps[k].l
   by_cases he : ps[k] = p
   ·rw [show ((p.a : Int) == (ps[k].a : Int) && p.l == ps[k].l) = true by simp [he]] at heq
    have H := Lib.hid (show p ∈ ps from he ▸ List.getElem_mem hlt)
    clear he
    go_wp2_with fail
    go_quiet (fail)
    go_wp2_with fail
    go_ret
    exact ⟨⟨_, rfl, by rw [decide_eq_true (show (0 : Int) ≤ (k : Int) by omega), decide_eq_true H.out]⟩, hK.drewN _⟩
   ·rw [show ((p.a : Int) == (ps[k].a : Int) && p.l == ps[k].l) = false by
     rw [Bool.eq_false_iff]
     intro h
     simp only [Bool.and_eq_true, beq_iff_eq] at h
     exact he (PI.ext' (by omega) h.2.symm)] at heq
    have H := Lib.hid he
    clear he
    go_wp2_with fail
    go_quiet (fail)
    go_wp2_with fail
    go_roundw
    case rel =>
     refine ⟨k + 1, by omega, by go_num, Lib.hid (fun j hj hjk => ?_), hK.drewN _, hK2.drewN _⟩
     by_cases hj' : j < k
     ·exact hall.out j hj hj'
     ·obtain rfl : j = k := by omega
      exact H.out
    case measure => simp [intOf]; omega
  ·obtain rfl : k = ps.length := by omega
   go_wp2_with fail
   go_ret
   refine ⟨⟨_, rfl, ?_⟩, hK⟩
   rw [decide_eq_false (by omega), eq_comm, decide_eq_false_iff_not]
   intro h
   obtain ⟨j, hj, e⟩ := List.getElem_of_mem h
   exact hall.out j hj hj e
set_option maxRecDepth 100000 in
theorem vjh (A : Option Addr) (c : Nat) (ps : List PI) (p : PI) (w : World) (hR : Rd w 2 PI.enc A ps) (hn : ps.length ≤ 1000000) : Calls Tryz.prog 171 #[.slice A ps.length c, .agg #[.int .u32 (p.a : Int), .int .i64 p.l]] w fun e w' => e = .returned (.bool (decide (p ∈ ps))) ∧ Kp w w' := by
 obtain ⟨W, hW, kW, B0⟩ := Blk.al1 (w := w) rfl #[.int .u32 (p.a : Int), .int .i64 p.l] 39
 have hR := hR.keep kW
 have p0 := Blk.f B0 rfl
 go_enter Tryz.func171, Tryz.ntmps171
 go_wp2_with fail
 refine (vjg A c ps p _ hR hn).mono ?_
 rintro e w1 ⟨⟨i, rfl, hi⟩, K1⟩
 go_wp2_with fail
 go_ret
 exact ⟨by rw [← hi]; rfl, kW.trans K1⟩
end

end Go.Proofs.YtgopnfacklmkaaaGreatDoor
