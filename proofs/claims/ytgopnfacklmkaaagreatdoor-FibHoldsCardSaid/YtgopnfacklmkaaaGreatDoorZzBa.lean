/- Lemmas and contracts for the theorem of this claim: TrA, FibLaw. -/
import Derived.Test.YtgopnfacklmkaaaGreatDoorZzAe
import Derived.Test.YtgopnfacklmkaaaGreatDoorZzAz
import Derived.RegionTactic
set_option linter.all false
set_option maxHeartbeats 16000000
namespace Go.Proofs.YtgopnfacklmkaaaGreatDoor
section
open Go.RowKit
attribute [local go_sem] Oper.semAt_some
def rowE (r : Pn × Int) : List Value := [.int .u32 r.1.a, .int .i64 r.1.l, .int .i64 r.2]
theorem vhm (r : Pn × Int) : (rowE r).length = 3 := rfl
theorem ERow : ElemOf Tryz.prog 345 348 (.agg #[.int .u32 0, .int .i64 0, .int .i64 0]) 3 24 := ⟨Tryz.underlying345, by kernel_rfl, rfl, by decide⟩
theorem vmn (args : Array Value) (w : World) : (callFunc 280 args).run Tryz.prog w = .ok (.enter 280 args) w := by kernel_rfl
set_option maxRecDepth 100000 in
theorem vfd (b : Nat) (p : Pn) (v : Int) (w : World) (h0 : w.cell? ⟨b, 0, none⟩ = some (.int .u32 p.a)) (h1 : w.cell? ⟨b, 1, none⟩ = some (.int .i64 p.l)) (h2 : w.cell? ⟨b, 2, none⟩ = some (.int .i64 v)) :
  Calls Tryz.prog 280 #[.pointer (some ⟨b, 0, none⟩)] w fun e w' => e = .returned (.agg #[.int .u32 p.a, .int .i64 p.l, .int .i64 v]) ∧ Kp w w' := by
 have hb := World.block_lt_of_cell? w _ h0
 obtain ⟨W, hW, kW, B0⟩ : ∃ W, w.alloc (.cells #[.int .u32 0, .int .i64 0, .int .i64 0] 348) = W ∧ Kp w W ∧ Blk W w.heap.size 348 #[.int .u32 0, .int .i64 0, .int .i64 0] := ⟨_, rfl, (Kp.refl _).alloc _, Blk.new w _ _⟩
 go_enter Tryz.func280, Tryz.ntmps280
 go_wp2_with fail
 refine vau 9 (by kernel_rfl) (by kernel_rfl) (fun V hV => ?_)
 have KV : Kp W V := by rw [hV]; exact (Kp.refl _).drew
 have k2 := kW.trans KV
 have B1 := B0.keep KV
 have n0 : V.cell? ⟨b, 0, none⟩ = some (.int .u32 p.a) := k2.cell h0
 have n1 : V.cell? ⟨b, 1, none⟩ = some (.int .i64 p.l) := k2.cell h1
 have n2 : V.cell? ⟨b, 2, none⟩ = some (.int .i64 v) := k2.cell h2
 have r0 : V.cell? ⟨w.heap.size, 0, none⟩ = some (.int .u32 0) := B1.cell 0
 have r1 : V.cell? ⟨w.heap.size, 1, none⟩ = some (.int .i64 0) := B1.cell 1
 have r2 : V.cell? ⟨w.heap.size, 2, none⟩ = some (.int .i64 0) := B1.cell 2
 have z0 := B1.frozen 0
 have z1 := B1.frozen 1
 have z2 := B1.frozen 2
 clear hV hW h0 h1 h2
 simp only [List.take_succ_cons, List.take_zero, List.drop_succ_cons, List.drop_zero]
 repeat still_step
 refine wpStill_nil ?_
 go_wp2_with fail
 have R := ((B1.set_ 0 (.int .u32 p.a)).set_ 1 (.int .i64 p.l)).set_ 2 (.int .i64 v)
 have kz : Kp w (((V.setCell ⟨w.heap.size, 0, none⟩ (.int .u32 p.a)).setCell ⟨w.heap.size, 1, none⟩ (.int .i64 p.l)).setCell ⟨w.heap.size, 2, none⟩ (.int .i64 v)) := ((k2.setCell (Nat.le_refl _) _).setCell (Nat.le_refl _) _).setCell (Nat.le_refl _) _
 generalize ((V.setCell ⟨w.heap.size, 0, none⟩ (.int .u32 p.a)).setCell ⟨w.heap.size, 1, none⟩ (.int .i64 p.l)).setCell ⟨w.heap.size, 2, none⟩ (.int .i64 v) = Z at R kz ⊢
 have c0 : Z.cell? ⟨w.heap.size, 0, none⟩ = some (.int .u32 p.a) := R.cell 0
 have c1 : Z.cell? ⟨w.heap.size, 1, none⟩ = some (.int .i64 p.l) := R.cell 1
 have c2 : Z.cell? ⟨w.heap.size, 2, none⟩ = some (.int .i64 v) := R.cell 2
 exact bodyPost_ret (v := .agg #[.int .u32 p.a, .int .i64 p.l, .int .i64 v]) (by simp [results, Tryz.results280, go_sem, c0, c1, c2]) rfl ⟨rfl, kz⟩
def AbvAt (tx px tr : Nat) (q : Pn) (many : Int) (t : Tr) (k : Nat) (acc : List (Pn × Int)) : Prop :=
 (∃ s a0 a1, DownAt tx px tr q many t k s (a0, a1) ∧ acc ++ aboveT q s = aboveT q t) ∨ (k = (Tr.way q (tr, 0) t).length ∧ acc = aboveT q t)
def AbvI (w w1 : World) (tx px tr : Nat) (q : Pn) (many : Int) (t : Tr) (k : Nat) (W : World) : Prop :=
 Kp w W ∧ DownMem tx px tr q many t W ∧ ∃ acc v, AbvAt tx px tr q many t k acc ∧ Blk W (w.heap.size + 1) 345 #[v] ∧ Own W (w1.heap.size + 1 + 1) 348 3 rowE v acc ∧ acc.length ≤ 33
def AbvPost (w : World) (q : Pn) (t : Tr) (e : Ending) (w' : World) : Prop := ∃ A c, e = .returned (.slice A (aboveT q t).length c) ∧ Rd w' 3 rowE A (aboveT q t) ∧ Kp w w'
theorem vcE (q : Pn) : ∀ {t : Tr} {m : Nat}, t.Wf → (∀ r ∈ t.pfx, m ≤ r.l) → (aboveT q t).length ≤ 33 - m
 | .nil, m, _, _ => by simp [aboveT]
 | .node b p v h x y, m, ⟨hp, h0, h1, hx, hy⟩, hm => by
  have hpm := hm p (by simp [Tr.pfx])
  have hpl := hp.2.1
  have ix := vcE q (m := p.l + 1) hx (fun r hr => (h0 r hr).1)
  have iy := vcE q (m := p.l + 1) hy (fun r hr => (h1 r hr).1)
  have hs : (if h then [(p, v)] else [] : List (Pn × Int)).length ≤ 1 := by split <;> simp
  unfold aboveT
  by_cases h1 : p.holds q
  ·by_cases h2 : p.l = q.l
   ·simp only [h1, h2, if_true, List.append_nil]; omega
   ·by_cases h3 : bitN q.a p.l = 0
    ·simp only [h1, h2, h3, if_true, if_false, List.length_append]; omega
    ·simp only [h1, h2, h3, if_true, if_false, List.length_append]; omega
  ·simp [h1]
theorem vfP {r id : Nat} {P : Program} {Q : Exit → Act → World → Prop} {a : Act} {w : World} {l : List Oper} (hm : P.follows .mixedOrders = true) (hnd : noDefer l.toArray = true) (hQ : ¬ LetsOut Q)
  (h : ∀ W, W = w.drew → wpAny P .any l.toArray Q l.toArray.size (Array.replicate l.toArray.size false) a W) : (Code.region id l.toArray true).wpIn (Fence.wide.inRound r) 0 P Q a w :=
 wpIn_region_any hm (vay hQ hnd _ _ _ _ (h _ rfl))
set_option maxRecDepth 100000 in
theorem vkj (tr : Nat) (q : Pn) (many : Int) (t : Tr) (w : World) (hG : RelsAt w) (hT : Blk w tr 330 #[t.ptr, .int .i64 many, .bool true]) (hM : TM w t) (ht : t.Wf) (hq : q.ok) :
  Calls Tryz.prog 213 #[.pointer (some ⟨tr, 0, none⟩), .agg #[.int .u32 q.a, .int .i64 q.l]] w (AbvPost w q t) := by
 have hmf := vaE
 have hal := vcE q (m := 0) ht (fun _ _ => Nat.zero_le _)
 refine calls_of_wp_marks Tryz.func213 rfl ?_; simp only [Tryz.ntmps213, List.size_toArray, List.length_cons, List.length_nil, Nat.reduceAdd, Nat.reduceSub, Array.replicate_succ, Array.replicate_zero, List.push_toArray, List.append_toArray, List.nil_append, List.cons_append]
 go_wp2_with fail
 refine (vfa tr q _).mono ?_
 simp only [World.size_alloc]
 rintro e w1 ⟨rfl, Dx, Dp, hK1⟩
 have kw : Kp w w1 := (((Kp.refl _).alloc _).alloc _).trans hK1
 have A1 : Blk w1 (w.heap.size + 1) 345 #[.slice none 0 0] := (Blk.new1 w _ _ _).keep hK1
 have D1 : DownMem (w.heap.size + 1 + 1) (w.heap.size + 1 + 1 + 1) tr q many t w1 := ⟨Dx, Dp, hT.keep kw, hM.keep kw, hG.keep kw⟩
 have hpos := D1.px.lt
 have Hq := Lib.hid hq
 have Ht := Lib.hid ht
 have HD := Lib.hid D1
 have HT := Lib.hid (show ∀ W, Kp w W → Blk W tr 330 #[t.ptr, .int .i64 many, .bool true] ∧ TM W t ∧ RelsAt W from fun W k => ⟨hT.keep k, hM.keep k, hG.keep k⟩)
 clear hK1 hT hM hG hq ht Dx Dp D1
 go_wp2_with fail
 have hw1 := kw.size
 refine vcq (N := (Tr.way q (tr, 0) t).length) rfl vcQ (vcP (w.heap.size + 1 + 1) (w.heap.size + 1 + 1 + 1) tr q many t Hq.out Ht.out) (fun _ _ => rfl) (AbvI w w1 (w.heap.size + 1 + 1) (w.heap.size + 1 + 1 + 1) tr q many t) (fun _ _ _ => False) ?_ (fun _ _ _ _ h => h.elim) ?_ ?_ ?_ ?_ (fun _ _ _ _ _ h => h.elim)
 ·rintro k W W' ⟨h1, h0, acc, v, d, B, o, hal⟩ hO
  have hO' : ∀ {b}, b < w1.heap.size → b ∉ [w1.heap.size, w1.heap.size + 1] := fun {b} hb => by simp; omega
  refine ⟨hO.kp h1 (by simp; omega), ⟨h0.tx.only hO (hO' (by omega)), h0.px.only hO (hO' (by omega)), ?_, ?_, ?_⟩, acc, v, d, B.only hO (hO' (by omega)), o.only hO (by simp <;> omega), hal⟩
  ·exact (HT.out W' (hO.kp h1 (by simp; omega))).1
  ·exact (HT.out W' (hO.kp h1 (by simp; omega))).2.1
  ·exact (HT.out W' (hO.kp h1 (by simp; omega))).2.2
 ·rintro k W ⟨_, h0, _⟩
  exact h0
 ·exact ⟨kw, HD.out, [], _, .inl ⟨t, tr, 0, ⟨by simp, fun w d => ⟨d.tm, d.tr.cell 0⟩, Ht.out, Nat.zero_le _⟩, rfl⟩, A1, Own.nil _ _ _ _ _, by simp⟩
 ·intro l k W hk _
  gi_wp2_with fail
  refine ⟨trivial, ?_⟩
  rintro W2 ⟨j1, j0, acc, v, (⟨s, a0, a1, d, e⟩ | ⟨hkN, _⟩), B, o, hal2⟩ hsz
  rotate_left
  ·omega
  have hw := d.way
  cases s with
  | nil =>
   have := congrArg List.length hw
   simp [Tr.way] at this
   omega
  | node b p u hh x y =>
   have hp : p.holds q := by
    by_cases h : p.holds q
    ·exact h
    ·have := congrArg List.length hw
     simp [Tr.way, h] at this
     omega
   have hgd : (Tr.way q (tr, 0) t)[k]? = some (a0, a1) := by
    have hw' := hw
    simp only [Tr.way, hp, if_true] at hw'
    have := congrArg (fun l => l[0]?) hw'
    simpa using this.symm
   have hgk : (Tr.way q (tr, 0) t).getD k (0, 0) = (a0, a1) := by simp [List.getD, hgd]
   have hge := (List.getElem?_eq_some_iff.1 hgd).2
   simp only [hge]
   clear hge
   obtain ⟨⟨N2, _, _⟩, cA⟩ := d.mem W2 j0
   have cA' : W2.cell? ⟨a0, a1, none⟩ = some (.pointer (some ⟨b, 0, none⟩)) := cA
   have n0 : W2.cell? ⟨b, 0, none⟩ = some (.int .u32 p.a) := N2.cell 0
   have n1 : W2.cell? ⟨b, 1, none⟩ = some (.int .i64 p.l) := N2.cell 1
   have n2 : W2.cell? ⟨b, 2, none⟩ = some (.int .i64 u) := N2.cell 2
   have n3 : W2.cell? ⟨b, 3, none⟩ = some (.bool hh) := N2.cell 3
   have x0 : W2.cell? ⟨w.heap.size + 1, 0, none⟩ = some v := B.cell 0
   have z0 := B.frozen 0
   have next : Hid (AbvAt (w.heap.size + 1 + 1) (w.heap.size + 1 + 1 + 1) tr q many t (k + 1) (acc ++ (if hh then [(p, u)] else []))) := by
    by_cases hl : p.l = q.l
    ·right
     simp only [Tr.way, hp, hl, if_true] at hw
     simp only [aboveT, hp, hl, if_true, List.append_nil] at e
     have := congrArg List.length hw
     simp at this
     exact ⟨by omega, e⟩
    ·rcases vaI q.a p.l with hb | hb
     ·left
      simp only [Tr.way, hp, hl, hb, if_true, if_false] at hw
      simp only [aboveT, hp, hl, hb, if_true, if_false] at e
      refine ⟨x, b, 4, ⟨?_, fun w dd => ?_, d.wf.2.2.2.1, by omega⟩, by rw [← e, List.append_assoc]⟩
      ·have := congrArg List.tail hw
       simpa using this
      ·obtain ⟨⟨h1, h2, h3⟩, _⟩ := d.mem w dd
       exact ⟨h2, h1.cell 4⟩
     ·left
      simp only [Tr.way, hp, hl, hb, if_true, if_false, show ¬ (1 : Nat) = 0 by omega] at hw
      simp only [aboveT, hp, hl, hb, if_true, if_false, show ¬ (1 : Nat) = 0 by omega] at e
      refine ⟨y, b, 5, ⟨?_, fun w dd => ?_, d.wf.2.2.2.2, by omega⟩, by rw [← e, List.append_assoc]⟩
      ·have := congrArg List.tail hw
       simpa using this
      ·obtain ⟨⟨h1, h2, h3⟩, _⟩ := d.mem w dd
       exact ⟨h3, h1.cell 5⟩
   have hlen : (acc ++ (if hh then [(p, u)] else [])).length ≤ 33 := by
    rcases next with ⟨s', b0, b1, _, e'⟩ | ⟨_, e'⟩
    ·have := congrArg List.length e'
     rw [List.length_append] at this
     omega
    ·rw [e']; omega
   have Hlen := Lib.hid hlen
   have Ho := Lib.hid o
   clear d e hw hp hgd hgk cA o hlen
   cases hh with
   | false =>
    simp only [Bool.false_eq_true, if_false, List.append_nil] at next Hlen
    gi_wp2_with fail
    exact ⟨⟨rfl, rfl⟩, j1, j0, acc, v, next.out, B, Ho.out, hal2⟩
   | true =>
    gi_wp2_with fail
    simp only [if_true] at next Hlen
    have hfit := Hlen.out
    rw [List.length_append, List.length_singleton] at hfit
    have fin : Hid (∀ (w3 : World) (A3 : Option Addr) (c3 : Nat), Own w3 (w1.heap.size + 1 + 1) 348 3 rowE (.slice A3 (acc.length + 1) c3) (acc ++ [(p, u)]) → Kp w w3 → (∀ b, b < w1.heap.size + 1 + 1 → w3.heap[b]? = W2.heap[b]?) →
      Kept2 w1 W2 (w3.setCell ⟨w.heap.size + 1, 0, none⟩ (.slice A3 (acc.length + 1) c3)) ∧ AbvI w w1 (w.heap.size + 1 + 1) (w.heap.size + 1 + 1 + 1) tr q many t (k + 1) (w3.setCell ⟨w.heap.size + 1, 0, none⟩ (.slice A3 (acc.length + 1) c3))) := by
     intro w3 A3 c3 hown' hK' hE
     have kz : Kp w (w3.setCell ⟨w.heap.size + 1, 0, none⟩ (.slice A3 (acc.length + 1) c3)) := hK'.setCell (by simp) _
     have B3 : Blk w3 (w.heap.size + 1) 345 #[v] := (hE _ (by omega)).trans B
     obtain ⟨t1, t2, t3⟩ := HT.out _ kz
     refine ⟨⟨(Below.heap_setCell _ _ _ _ (by simp; omega)).trans (hE _ (by omega)), (Below.heap_setCell _ _ _ _ (by simp; omega)).trans (hE _ (by omega))⟩, kz, ⟨?_, ?_, t1, t2, t3⟩, _, _, next.out, B3.set_ 0 _, Own.setBelow (p := ⟨w.heap.size + 1, 0, none⟩) hown' (by simp only; omega) _, Hlen.out⟩
     ·exact (show Blk w3 _ _ _ from (hE _ (by omega)).trans j0.tx).far (by simp <;> omega) _
     ·exact (show Blk w3 _ _ _ from (hE _ (by omega)).trans j0.px).far (by simp <;> omega) _
    clear next Hlen
    refine vfP (by kernel_rfl) (by kernel_rfl) (vaj van) (fun V hV => ?_)
    have KV : Kp W2 V := by rw [hV]; exact (Kp.refl _).drew
    clear hV n3
    have B' := B.keep KV
    have m0 := KV.cell n0
    have m1 := KV.cell n1
    have m2 := KV.cell n2
    have xV := KV.cell x0
    clear n0 n1 n2 x0 z0 N2 cA'
    refine wpAny_take (i := 1) (v := .func (.func 280) #[.pointer (some ⟨b, 0, none⟩)] #[]) rfl (by kernel_rfl) (by kernel_rfl) (by kernel_rfl) (fun _ _ _ h => h) (Or.inl ⟨by rfl, fun w => by go_simp⟩) ?_
    refine wpAny_ready (rs := [0, 2]) (by kernel_rfl) (by simp) ?_
    refine AllReady.cons rfl (fun K hK => ?_) (AllReady.cons rfl (fun K hK => ?_) AllReady.nil)
    ·go_simp
     refine hK _ _ ?_
     clear hK K
     refine wpAny_ready (rs := [2]) (by kernel_rfl) (by simp) ?_
     refine AllReady.cons rfl (fun K hK => ?_) AllReady.nil
     go_simp
     refine (vfd b p u _ m0 m1 m2).mono ?_
     rintro e wa ⟨rfl, hKa⟩
     have KW : Kp W2 wa := KV.trans hKa
     have hsW := KW.size
     have BW := B.keep KW
     have xW : wa.cell? ⟨w.heap.size + 1, 0, none⟩ = some v := BW.cell 0
     refine hK _ _ ?_
     clear hK K
     refine wpAny_ready (rs := [3]) (by kernel_rfl) (by simp) ?_
     refine AllReady.cons rfl (fun K hK => ?_) AllReady.nil
     go_simp
     refine hK _ _ ?_
     clear hK K
     refine vam 4 rfl (by kernel_rfl) ?_
     simp only [List.drop_succ_cons, List.drop_zero]
     go_wp2_with (at_builtin; go_must (refine vaf ERow rfl _ _ rfl (p, u) rfl (Ho.out.keep KW) (j1.trans KW) (by omega) (by omega) rfl rfl rfl rfl rfl (by omega) ?_); intro v' w3 hown' hK' hg; obtain ⟨A3, c3, rfl⟩ := hown'.form1; have B3 := BW.grown hg (Own.ne (Ho.out.keep KW) (by omega)); have cc3 : w3.cell? ⟨w.heap.size + 1, 0, none⟩ = some v := B3.cell 0; have zz := B3.frozen 0)
     exact fin.out w3 _ _ hown' hK' (fun b' hb' => (hg.block _ (by omega) (Own.ne (Ho.out.keep KW) (by omega))).trans (KW.heap (by omega)))
    ·go_simp
     refine (vfd b p u _ m0 m1 m2).mono ?_
     rintro e wa ⟨rfl, hKa⟩
     have KW : Kp W2 wa := KV.trans hKa
     have hsW := KW.size
     have BW := B.keep KW
     have xW : wa.cell? ⟨w.heap.size + 1, 0, none⟩ = some v := BW.cell 0
     refine hK _ _ ?_
     clear hK K
     refine wpAny_ready (rs := [0, 3]) (by kernel_rfl) (by simp) ?_
     refine AllReady.cons rfl (fun K hK => ?_) (AllReady.cons rfl (fun K hK => ?_) AllReady.nil)
     ·go_simp
      refine hK _ _ ?_
      clear hK K
      refine wpAny_ready (rs := [3]) (by kernel_rfl) (by simp) ?_
      refine AllReady.cons rfl (fun K hK => ?_) AllReady.nil
      go_simp
      refine hK _ _ ?_
      clear hK K
      refine vam 4 rfl (by kernel_rfl) ?_
      simp only [List.drop_succ_cons, List.drop_zero]
      go_wp2_with (at_builtin; go_must (refine vaf ERow rfl _ _ rfl (p, u) rfl (Ho.out.keep KW) (j1.trans KW) (by omega) (by omega) rfl rfl rfl rfl rfl (by omega) ?_); intro v' w3 hown' hK' hg; obtain ⟨A3, c3, rfl⟩ := hown'.form1; have B3 := BW.grown hg (Own.ne (Ho.out.keep KW) (by omega)); have cc3 : w3.cell? ⟨w.heap.size + 1, 0, none⟩ = some v := B3.cell 0; have zz := B3.frozen 0)
      exact fin.out w3 _ _ hown' hK' (fun b' hb' => (hg.block _ (by omega) (Own.ne (Ho.out.keep KW) (by omega))).trans (KW.heap (by omega)))
     ·go_simp
      refine hK _ _ ?_
      clear hK K
      have xX : (wa.alloc (.cells #[.int .u32 p.a, .int .i64 p.l, .int .i64 u] 348)).cell? ⟨w.heap.size + 1, 0, none⟩ = some v := ((Kp.refl wa).alloc _).cell xW
      refine wpAny_ready (rs := [0]) (by kernel_rfl) (by simp) ?_
      refine AllReady.cons rfl (fun K hK => ?_) AllReady.nil
      go_simp
      refine hK _ _ ?_
      clear hK K
      refine vam 4 rfl (by kernel_rfl) ?_
      simp only [List.drop_succ_cons, List.drop_zero]
      go_wp2_with (at_builtin; go_must (refine vaf ERow rfl _ _ rfl (p, u) rfl (Ho.out.keep KW) (j1.trans KW) (by omega) (by omega) rfl rfl rfl rfl rfl (by omega) ?_); intro v' w3 hown' hK' hg; obtain ⟨A3, c3, rfl⟩ := hown'.form1; have B3 := BW.grown hg (Own.ne (Ho.out.keep KW) (by omega)); have cc3 : w3.cell? ⟨w.heap.size + 1, 0, none⟩ = some v := B3.cell 0; have zz := B3.frozen 0)
      exact fin.out w3 _ _ hown' hK' (fun b' hb' => (hg.block _ (by omega) (Own.ne (Ho.out.keep KW) (by omega))).trans (KW.heap (by omega)))
 ·rintro W ⟨h1, h0, acc, v, d, B, o, hal2⟩ hd
  have e : acc = aboveT q t := by
   rcases d with ⟨s, a0, a1, d, e⟩ | ⟨_, e⟩
   ·have hnil : aboveT q s = [] := by
     have hw := d.way
     rw [List.drop_length] at hw
     cases s with
     | nil => rfl
     | node b p u hh x y =>
      by_cases h : p.holds q
      ·simp [Tr.way, h] at hw
      ·simp [aboveT, h]
    rw [hnil, List.append_nil] at e
    exact e
   ·exact e
  subst e
  obtain ⟨A, c, rfl, hR⟩ := o.rd (by decide) vhm
  have x0 : W.cell? ⟨w.heap.size + 1, 0, none⟩ = some (.slice A (aboveT q t).length c) := B.cell 0
  go_wp2_with fail
  refine vbp hd (fun W' hO => ?_)
  refine ⟨.slice A (aboveT q t).length c, by simp [results, Tryz.results213, go_sem], A, c, rfl, ?_, hO.kp h1 (by simp; omega)⟩
  exact hR.only hO (fun a ha => by have := o.newA a ha; simp; omega)
def foundT (l : List (Pn × Int)) : (Pn × Int) × Bool := match l.getLast? with
 | some r => (r, true)
 | none => ((⟨0, 0⟩, 0), false)
theorem vkk {w : World} {A : Option Addr} {l : List (Pn × Int)} (h : Rd w 3 rowE A l) {k : Nat} (hk : k < l.length) :
  ∃ b off : Nat, A = some ⟨b, off, none⟩ ∧ w.cell? ⟨b, off + k * 3, none⟩ = some (.int .u32 l[k].1.a) ∧ w.cell? ⟨b, off + k * 3 + 1, none⟩ = some (.int .i64 l[k].1.l) ∧ w.cell? ⟨b, off + k * 3 + 2, none⟩ = some (.int .i64 l[k].2) := by
 obtain ⟨b, off, e, hc⟩ := h k hk
 exact ⟨b, off, e, hc 0 _ rfl, hc 1 _ rfl, hc 2 _ rfl⟩
set_option maxRecDepth 100000 in
theorem vmo (tr a : Nat) (many : Int) (t : Tr) (w : World) (hG : RelsAt w) (hT : Blk w tr 330 #[t.ptr, .int .i64 many, .bool true]) (hM : TM w t) (ht : t.Wf) (ha : a < 4294967296) :
  Calls Tryz.prog 155 #[.pointer (some ⟨tr, 0, none⟩), .int .u32 a] w fun e w' => e = .returned (.tuple #[.agg #[.int .u32 (foundT (aboveT ⟨a, 32⟩ t)).1.1.a, .int .i64 (foundT (aboveT ⟨a, 32⟩ t)).1.1.l], .int .i64 (foundT (aboveT ⟨a, 32⟩ t)).1.2, .bool (foundT (aboveT ⟨a, 32⟩ t)).2]) ∧ Kp w w' := by
 have hq : (⟨a, 32⟩ : Pn).ok := ⟨ha, Nat.le_refl _, viL a⟩
 have hal := vcE ⟨a, 32⟩ (m := 0) ht (fun _ _ => Nat.zero_le _)
 obtain ⟨W, hW, kW, B0⟩ : ∃ W, w.alloc (.cells #[.int .u32 0, .int .i64 0] 39) = W ∧ Kp w W ∧ Blk W w.heap.size 39 #[.int .u32 0, .int .i64 0] := ⟨_, rfl, (Kp.refl _).alloc _, Blk.new w _ _⟩
 have HT1 := Lib.hid (hT.keep kW)
 have HM1 := Lib.hid (hM.keep kW)
 have HG1 := Lib.hid (hG.keep kW)
 have Ht := Lib.hid ht
 have Hq := Lib.hid hq
 clear hT hM hG ht hq
 obtain ⟨l, hl⟩ : ∃ l, aboveT ⟨a, 32⟩ t = l := ⟨_, rfl⟩
 rw [hl] at hal ⊢
 have HL := Lib.hid hl; clear hl
 go_enter Tryz.func155, Tryz.ntmps155
 go_wp2_with fail
 refine (vbz tr _ many _ HT1.out).mono ?_
 rintro e w' ⟨rfl, rfl⟩
 go_wp2_with fail
 refine (vkj tr ⟨a, 32⟩ many t _ HG1.out HT1.out HM1.out Ht.out Hq.out).mono ?_
 rintro e w1 ⟨A, c, rfl, hR, hK1⟩
 rw [HL.out] at hR ⊢
 have k1 := kW.trans hK1
 have B1 := B0.keep hK1
 have r0 : w1.cell? ⟨w.heap.size, 0, none⟩ = some (.int .u32 0) := B1.cell 0
 have r1 : w1.cell? ⟨w.heap.size, 1, none⟩ = some (.int .i64 0) := B1.cell 1
 have z0 := B1.frozen 0
 have z1 := B1.frozen 1
 have HR := Lib.hid hR; clear hR hW
 rcases List.eq_nil_or_concat l with rfl | ⟨l', r, rfl⟩
 ·go_wp2_with fail
  have R := (B1.set_ 0 (.int .u32 0)).set_ 1 (.int .i64 0)
  have kz : Kp w ((w1.setCell ⟨w.heap.size, 0, none⟩ (.int .u32 0)).setCell ⟨w.heap.size, 1, none⟩ (.int .i64 0)) := (k1.setCell (Nat.le_refl _) _).setCell (Nat.le_refl _) _
  generalize (w1.setCell ⟨w.heap.size, 0, none⟩ (.int .u32 0)).setCell ⟨w.heap.size, 1, none⟩ (.int .i64 0) = Z at R kz ⊢
  have c0 : Z.cell? ⟨w.heap.size, 0, none⟩ = some (.int .u32 0) := R.cell 0
  have c1 : Z.cell? ⟨w.heap.size, 1, none⟩ = some (.int .i64 0) := R.cell 1
  exact bodyPost_ret (v := .tuple #[.agg #[.int .u32 0, .int .i64 0], .int .i64 0, .bool false]) (by simp [results, Tryz.results155, go_sem, c0, c1]) rfl ⟨rfl, kz⟩
 ·obtain ⟨N, hN⟩ : ∃ N, l'.length = N := ⟨_, rfl⟩
  rw [List.concat_eq_append] at *
  have hlen : (l' ++ [r]).length = N + 1 := by simp [hN]
  obtain ⟨b, off, rfl, c0, c1, c2⟩ := vkk HR.out (k := N) (by omega)
  have hget : (l' ++ [r])[N]'(by omega) = r := by subst hN; simp
  rw [hget] at c0 c1 c2
  have Hf := Lib.hid (show foundT (l' ++ [r]) = (r, true) by simp [foundT])
  rw [hlen] at hal ⊢
  clear hget
  have Hlen := Lib.hid hlen; clear hlen
  have HN := Lib.hid hN; clear hN
  obtain ⟨V, hV, KV, Bl⟩ : ∃ V, w1.alloc (.cells #[.int .u32 r.1.a, .int .i64 r.1.l, .int .i64 r.2] 348) = V ∧ Kp w1 V ∧ Blk V w1.heap.size 348 #[.int .u32 r.1.a, .int .i64 r.1.l, .int .i64 r.2] := ⟨_, rfl, (Kp.refl _).alloc _, Blk.new w1 _ _⟩
  clear r0 r1 z0 z1
  have B2 := B1.keep KV
  have r0 : V.cell? ⟨w.heap.size, 0, none⟩ = some (.int .u32 0) := B2.cell 0
  have r1 : V.cell? ⟨w.heap.size, 1, none⟩ = some (.int .i64 0) := B2.cell 1
  have z0 := B2.frozen 0
  have z1 := B2.frozen 1
  have l0 : V.cell? ⟨w1.heap.size, 0, none⟩ = some (.int .u32 r.1.a) := Bl.cell 0
  have l1 : V.cell? ⟨w1.heap.size, 1, none⟩ = some (.int .i64 r.1.l) := Bl.cell 1
  have l2 : V.cell? ⟨w1.heap.size, 2, none⟩ = some (.int .i64 r.2) := Bl.cell 2
  have hne : ¬ w.heap.size = w1.heap.size := by have := B1.lt; omega
  go_wp2_with fail
  go_region
  go_wp2_with fail
  have R := ((B2.set_ 0 (.int .u32 r.1.a)).set_ 1 (.int .i64 r.1.l)).drew
  have kz : Kp w ((V.setCell ⟨w.heap.size, 0, none⟩ (.int .u32 r.1.a)).setCell ⟨w.heap.size, 1, none⟩ (.int .i64 r.1.l)).drew := (((k1.trans KV).setCell (Nat.le_refl _) _).setCell (Nat.le_refl _) _).drew
  generalize ((V.setCell ⟨w.heap.size, 0, none⟩ (.int .u32 r.1.a)).setCell ⟨w.heap.size, 1, none⟩ (.int .i64 r.1.l)).drew = Z at R kz ⊢
  have d0 : Z.cell? ⟨w.heap.size, 0, none⟩ = some (.int .u32 r.1.a) := R.cell 0
  have d1 : Z.cell? ⟨w.heap.size, 1, none⟩ = some (.int .i64 r.1.l) := R.cell 1
  exact bodyPost_ret (v := .tuple #[.agg #[.int .u32 r.1.a, .int .i64 r.1.l], .int .i64 r.2, .bool true]) (by simp [results, Tryz.results155, go_sem, d0, d1]) rfl ⟨by rw [List.concat_eq_append, Hf.out], kz⟩
end

section
structure Hp where
 p : Pn
 d : Bool
 f : Int
 x : Int
 m : Int
deriving DecidableEq
def Up (l : List Hp) : Prop := l.Pairwise (fun r s => r.p.lt s.p)
theorem vfQ : ∀ {l m : List Hp}, Up l → Up m → (∀ r, r ∈ l ↔ r ∈ m) → l = m
 | [], [], _, _, _ => rfl
 | [], s :: m, _, _, h => by have := (h s).2 (by simp); cases this
 | r :: l, [], _, _, h => by have := (h r).1 (by simp); cases this
 | r :: l, s :: m, hl, hm, h => by
  have hl' := List.pairwise_cons.1 hl
  have hm' := List.pairwise_cons.1 hm
  have e : r = s := by
   rcases List.mem_cons.1 ((h r).1 (by simp)) with e | h1
   ·exact e
   ·rcases List.mem_cons.1 ((h s).2 (by simp)) with e | h2
    ·exact e.symm
    ·exact absurd (vdc (hm'.1 r h1) (hl'.1 s h2)) (lt_irrefl _)
  subst e
  rw [vfQ hl'.2 hm'.2 (fun t => ?_)]
  constructor
  ·intro ht
   rcases List.mem_cons.1 ((h t).1 (by simp [ht])) with e | h1
   ·subst e; exact absurd (hl'.1 t ht) (lt_irrefl _)
   ·exact h1
  ·intro ht
   rcases List.mem_cons.1 ((h t).2 (by simp [ht])) with e | h1
   ·subst e; exact absurd (hm'.1 t ht) (lt_irrefl _)
   ·exact h1
def delH (q : Pn) (l : List Hp) : List Hp := l.filter (fun e => !decide (e.p = q))
theorem vfe {q : Pn} {l : List Hp} {e : Hp} : e ∈ delH q l ↔ e.p ≠ q ∧ e ∈ l := by
 unfold delH; rw [List.mem_filter]; simp [and_comm]
theorem vhn {q : Pn} {l : List Hp} (h : Up l) : Up (delH q l) := List.Pairwise.filter _ h
def insH (h : Hp) : List Hp → List Hp
 | [] => [h]
 | e :: l => if e.p.lt h.p then e :: insH h l else h :: delH h.p (e :: l)
theorem vdT {h : Hp} : ∀ {l : List Hp}, Up l → ∀ e, e ∈ insH h l ↔ e = h ∨ (e.p ≠ h.p ∧ e ∈ l)
 | [], _, e => by simp [insH]
 | a :: l, hu, e => by
  have hu' := List.pairwise_cons.1 hu
  unfold insH
  split
  ·rename_i hlt
   have ha : a.p ≠ h.p := fun e => by rw [e] at hlt; exact lt_irrefl _ hlt
   rw [List.mem_cons, vdT hu'.2 e, List.mem_cons]
   constructor
   ·rintro (rfl | rfl | h1)
    ·exact .inr ⟨ha, .inl rfl⟩
    ·exact .inl rfl
    ·exact .inr ⟨h1.1, .inr h1.2⟩
   ·rintro (rfl | ⟨h1, rfl | h2⟩)
    ·exact .inr (.inl rfl)
    ·exact .inl rfl
    ·exact .inr (.inr ⟨h1, h2⟩)
  ·rw [List.mem_cons, vfe]
theorem vex {h : Hp} : ∀ {l : List Hp}, Up l → Up (insH h l)
 | [], _ => List.pairwise_singleton _ _
 | a :: l, hu => by
  have hu' := List.pairwise_cons.1 hu
  unfold insH
  split
  ·rename_i hlt
   refine List.pairwise_cons.2 ⟨fun e he => ?_, vex hu'.2⟩
   rcases (vdT hu'.2 e).1 he with rfl | ⟨_, h2⟩
   ·exact hlt
   ·exact hu'.1 e h2
  ·rename_i hn
   refine List.pairwise_cons.2 ⟨fun e he => ?_, vhn hu⟩
   obtain ⟨h1, h2⟩ := vfe.1 he
   rcases List.mem_cons.1 h2 with rfl | h2
   ·rcases vgN h.p e.p with h3 | h3 | h3
    ·exact h3
    ·exact absurd h3.symm h1
    ·exact absurd h3 hn
   ·rcases vgN h.p a.p with h3 | h3 | h3
    ·exact vdc h3 (hu'.1 e h2)
    ·rw [h3]; exact hu'.1 e h2
    ·exact absurd h3 hn
structure FI (t : Tr) (H : List Hp) : Prop where
 wf : t.Wf
 rows : ∀ p i, (p, i) ∈ t.rows ↔ ∃ (k : Nat) (h : k < H.length), i = (k : Int) ∧ H[k].p = p
 len : t.rows.length = H.length
theorem vdU {l : List (Pn × Int)} (h : Rises l) {r s : Pn × Int} (hr : r ∈ l) (hs : s ∈ l) (e : r.1 = s.1) : r = s := by
 induction l with
 | nil => cases hr
 | cons a l ih =>
  have h' := List.pairwise_cons.1 h
  rcases List.mem_cons.1 hr with rfl | hr
  ·rcases List.mem_cons.1 hs with rfl | hs
   ·rfl
   ·have := h'.1 s hs; rw [e] at this; exact absurd this (lt_irrefl _)
  ·rcases List.mem_cons.1 hs with h1 | hs
   ·subst h1
    have := h'.1 r (by assumption); rw [e] at this; exact absurd this (lt_irrefl _)
   ·exact ih h'.2 (by assumption) hs
theorem FI.inj {t : Tr} {H : List Hp} (h : FI t H) {i j : Nat} (hi : i < H.length) (hj : j < H.length) (e : H[i].p = H[j].p) : i = j := by
 have h1 := (h.rows H[i].p i).2 ⟨i, hi, rfl, rfl⟩
 have h2 := (h.rows H[i].p j).2 ⟨j, hj, rfl, e.symm⟩
 have := vdU (vah h.wf) h1 h2 rfl
 injection this with _ h3
 omega
theorem FI.set {t : Tr} {H : List Hp} (h : FI t H) {k : Nat} (hk : k < H.length) {e : Hp} (he : e.p = H[k].p) : FI t (H.set k e) ∧ ∀ x, x ∈ H.set k e ↔ x = e ∨ (x.p ≠ e.p ∧ x ∈ H) := by
 have key : ∀ (i : Nat) (hi : i < (H.set k e).length), (H.set k e)[i].p = (H[i]'(by simpa using hi)).p := fun i hi => by
  rw [List.getElem_set]
  split
  ·rename_i h1; subst h1; exact he
  ·rfl
 refine ⟨⟨h.wf, fun p i => ?_, by rw [h.len]; simp⟩, fun x => ?_⟩
 ·rw [h.rows]
  constructor
  ·rintro ⟨j, hj, h1, h2⟩; exact ⟨j, by simpa using hj, h1, by rw [key]; exact h2⟩
  ·rintro ⟨j, hj, h1, h2⟩; exact ⟨j, by simpa using hj, h1, by rw [key] at h2; exact h2⟩
 ·constructor
  ·intro hx
   obtain ⟨i, hi, rfl⟩ := List.getElem_of_mem hx
   have hi' : i < H.length := by simpa using hi
   by_cases h1 : i = k
   ·subst h1; left; simp
   ·right
    rw [List.getElem_set_ne (fun e => h1 e.symm)]
    refine ⟨fun h2 => h1 (h.inj hi' hk (h2.trans he)), List.getElem_mem _⟩
  ·rintro (rfl | ⟨h1, h2⟩)
   ·exact List.mem_iff_getElem.2 ⟨k, by simpa using hk, by simp⟩
   ·obtain ⟨i, hi, rfl⟩ := List.getElem_of_mem h2
    have hik : ¬ k = i := fun e' => by subst e'; exact h1 he.symm
    exact List.mem_iff_getElem.2 ⟨i, by simpa using hi, by rw [List.getElem_set_ne hik]⟩
theorem vbY {l m : List (Pn × Int)} {q : Pn} {v : Int} (hl : Rises l) (hm : Rises m) (hq : ∀ u, (q, u) ∉ l) (h : ∀ r, r ∈ m ↔ r = (q, v) ∨ r ∈ l) : m.length = l.length + 1 := by
 have hn : ∀ {l : List (Pn × Int)}, Rises l → l.Nodup := fun {l} h => List.Pairwise.imp (fun {a b} hab e => by rw [e] at hab; exact lt_irrefl _ hab) h
 have p : m.Perm ((q, v) :: l) := (List.perm_ext_iff_of_nodup (hn hm) (List.nodup_cons.2 ⟨hq v, hn hl⟩)).2 (fun r => by rw [h r, List.mem_cons])
 rw [p.length_eq, List.length_cons]
theorem FI.app {t t' : Tr} {H : List Hp} (h : FI t H) {e : Hp} (hn : ∀ u, (e.p, u) ∉ t.rows) (hw : t'.Wf) (hr : ∀ r : Pn × Int, r ∈ t'.rows ↔ r = (e.p, (H.length : Int)) ∨ r ∈ t.rows) : FI t' (H ++ [e]) ∧ ∀ x, x ∈ H ++ [e] ↔ x = e ∨ (x.p ≠ e.p ∧ x ∈ H) := by
 refine ⟨⟨hw, fun p i => ?_, ?_⟩, fun x => ?_⟩
 ·rw [hr]
  constructor
  ·rintro (h1 | h1)
   ·injection h1 with h1 h2
    subst h1
    exact ⟨H.length, by simp, h2, by simp⟩
   ·obtain ⟨k, hk, h2, h3⟩ := (h.rows p i).1 h1
    exact ⟨k, by simp; omega, h2, by rw [List.getElem_append_left hk]; exact h3⟩
  ·rintro ⟨k, hk, rfl, h3⟩
   by_cases hkl : k < H.length
   ·rw [List.getElem_append_left hkl] at h3
    exact .inr ((h.rows p k).2 ⟨k, hkl, rfl, h3⟩)
   ·have : k = H.length := by simp at hk; omega
    subst this
    simp at h3
    left; rw [h3]
 ·rw [vbY (vah h.wf) (vah hw) hn hr, h.len]; simp
 ·rw [List.mem_append, List.mem_singleton]
  constructor
  ·rintro (h1 | h1)
   ·right
    obtain ⟨k, hk, rfl⟩ := List.getElem_of_mem h1
    refine ⟨fun e' => hn k ?_, h1⟩
    rw [← e']
    exact (h.rows _ _).2 ⟨k, hk, rfl, rfl⟩
   ·exact .inl h1
  ·rintro (h1 | h1)
   ·exact .inr h1
   ·exact .inl h1.2
theorem FI.nil : FI .nil [] := ⟨trivial, fun p i => by simp [Tr.rows], rfl⟩
theorem FI.del {t t1 t2 : Tr} {H : List Hp} (h : FI t H) {q : Pn} {k : Nat} (hk : k < H.length) (hp : H[k].p = q) (hw1 : t1.Wf) (hr1 : ∀ r : Pn × Int, r ∈ t1.rows ↔ r.1 ≠ q ∧ r ∈ t.rows)
  (hw2 : t2.Wf) (hr2 : ∀ r : Pn × Int, r ∈ t2.rows ↔ if k = H.length - 1 then r ∈ t1.rows else (r = ((H[H.length - 1]'(by omega)).p, (k : Int)) ∨ (r.1 ≠ (H[H.length - 1]'(by omega)).p ∧ r ∈ t1.rows))) :
  FI t2 ((H.set k (H[H.length - 1]'(by omega))).take (H.length - 1)) ∧ ∀ x, x ∈ (H.set k (H[H.length - 1]'(by omega))).take (H.length - 1) ↔ x.p ≠ q ∧ x ∈ H := by
 have hlast : H.length - 1 < H.length := by omega
 have get : ∀ (i : Nat) (hi : i < ((H.set k H[H.length - 1]).take (H.length - 1)).length), ((H.set k H[H.length - 1]).take (H.length - 1))[i] = if i = k then H[H.length - 1] else H[i]'(by simp at hi; omega) := fun i hi => by
  rw [List.getElem_take, List.getElem_set]
  by_cases e : k = i
  ·subst e; simp
  ·rw [if_neg e, if_neg (fun e' => e e'.symm)]
 have hlen : ((H.set k H[H.length - 1]).take (H.length - 1)).length = H.length - 1 := by simp
 have hmem2 : ∀ p i, (p, i) ∈ t2.rows ↔ ∃ (j : Nat) (hj : j < ((H.set k H[H.length - 1]).take (H.length - 1)).length), i = (j : Int) ∧ (((H.set k H[H.length - 1]).take (H.length - 1))[j]).p = p := by
  intro p i
  rw [hr2]
  by_cases hkl : k = H.length - 1
  ·rw [if_pos hkl, hr1, h.rows]
   constructor
   ·rintro ⟨h1, j, hj, rfl, rfl⟩
    have hjk : j ≠ k := fun e => by subst e; exact h1 hp
    refine ⟨j, by rw [hlen]; omega, rfl, ?_⟩
    rw [get, if_neg hjk]
   ·rintro ⟨j, hj, rfl, h2⟩
    have hj' := hj
    rw [hlen] at hj'
    rw [get, if_neg (by omega)] at h2
    subst h2
    refine ⟨fun e => ?_, j, by omega, rfl, rfl⟩
    have := h.inj (i := j) (j := k) (by omega) hk (by rw [hp]; exact e)
    omega
  ·rw [if_neg hkl, hr1, h.rows]
   constructor
   ·rintro (h1 | ⟨h1, h2, j, hj, rfl, rfl⟩)
    ·injection h1 with h1 h2
     subst h1 h2
     refine ⟨k, by rw [hlen]; omega, rfl, ?_⟩
     rw [get, if_pos rfl]
    ·have hjk : j ≠ k := fun e => by subst e; exact h2 hp
     have hjl : j ≠ H.length - 1 := fun e => by subst e; exact h1 rfl
     refine ⟨j, by rw [hlen]; omega, rfl, ?_⟩
     rw [get, if_neg hjk]
   ·rintro ⟨j, hj, rfl, h2⟩
    have hj' := hj
    rw [hlen] at hj'
    rw [get] at h2
    by_cases hjk : j = k
    ·subst hjk
     rw [if_pos rfl] at h2
     left; rw [h2]
    ·rw [if_neg hjk] at h2
     subst h2
     right
     refine ⟨fun e => ?_, fun e => ?_, j, by omega, rfl, rfl⟩
     ·have := h.inj (i := j) (j := H.length - 1) (by omega) hlast e; omega
     ·have := h.inj (i := j) (j := k) (by omega) hk (by rw [hp]; exact e); omega
 have hxm : ∀ x, x ∈ (H.set k H[H.length - 1]).take (H.length - 1) ↔ x.p ≠ q ∧ x ∈ H := by
  intro x
  constructor
  ·intro hx
   obtain ⟨j, hj, rfl⟩ := List.getElem_of_mem hx
   have hj' := hj
   rw [hlen] at hj'
   rw [get]
   by_cases hjk : j = k
   ·subst hjk
    rw [if_pos rfl]
    refine ⟨fun e => ?_, List.getElem_mem _⟩
    have := h.inj (i := H.length - 1) (j := j) hlast hk (by rw [hp]; exact e); omega
   ·rw [if_neg hjk]
    refine ⟨fun e => ?_, List.getElem_mem _⟩
    have := h.inj (i := j) (j := k) (by omega) hk (by rw [hp]; exact e); omega
  ·rintro ⟨h1, h2⟩
   obtain ⟨j, hj, rfl⟩ := List.getElem_of_mem h2
   have hjk : j ≠ k := fun e => by subst e; exact h1 hp
   by_cases hjl : j = H.length - 1
   ·subst hjl
    exact List.mem_iff_getElem.2 ⟨k, by rw [hlen]; omega, by rw [get, if_pos rfl]⟩
   ·exact List.mem_iff_getElem.2 ⟨j, by rw [hlen]; omega, by rw [get, if_neg hjk]⟩
 refine ⟨⟨hw2, hmem2, ?_⟩, hxm⟩
 -- the count
 have hn : ∀ {l : List (Pn × Int)}, Rises l → l.Nodup := fun {l} h => List.Pairwise.imp (fun {a b} hab e => by rw [e] at hab; exact lt_irrefl _ hab) h
 have c1 : t.rows.length = t1.rows.length + 1 := by
  refine vbY (q := q) (v := (k : Int)) (vah hw1) (vah h.wf) (fun u hu => ((hr1 _).1 hu).1 rfl) (fun r => ?_)
  rw [hr1]
  constructor
  ·intro hr
   by_cases e : r.1 = q
   ·left
    exact vdU (vah h.wf) hr ((h.rows q k).2 ⟨k, hk, rfl, hp⟩) e
   ·exact .inr ⟨e, hr⟩
  ·rintro (rfl | hr)
   ·exact (h.rows q k).2 ⟨k, hk, rfl, hp⟩
   ·exact hr.2
 have c2 : t2.rows.length = t1.rows.length := by
  by_cases hkl : k = H.length - 1
  ·have p : t2.rows.Perm t1.rows := (List.perm_ext_iff_of_nodup (hn (vah hw2)) (hn (vah hw1))).2 (fun r => by rw [hr2, if_pos hkl])
   exact p.length_eq
  ·have hne : (H[H.length - 1]).p ≠ q := fun e => by
    have := h.inj (i := H.length - 1) (j := k) hlast hk (by rw [hp]; exact e); omega
   have hin : ((H[H.length - 1]).p, ((H.length - 1 : Nat) : Int)) ∈ t1.rows := (hr1 _).2 ⟨hne, (h.rows _ _).2 ⟨H.length - 1, hlast, rfl, rfl⟩⟩
   have hr2' : ∀ r : Pn × Int, r ∈ t2.rows ↔ (r = ((H[H.length - 1]).p, (k : Int)) ∨ (r.1 ≠ (H[H.length - 1]).p ∧ r ∈ t1.rows)) := fun r => by rw [hr2, if_neg hkl]
   have hnd : (t1.rows.filter (fun r => !decide (r.1 = (H[H.length - 1]).p))).Nodup := (hn (vah hw1)).filter _
   have hri : Rises (t1.rows.filter (fun r => !decide (r.1 = (H[H.length - 1]).p))) := List.Pairwise.filter _ (vah hw1)
   have a1 := vbY (l := t1.rows.filter (fun r => !decide (r.1 = (H[H.length - 1]).p))) (q := (H[H.length - 1]).p) (v := (k : Int)) hri (vah hw2) (fun u hu => by simp at hu) (fun r => by rw [hr2', List.mem_filter]; simp [and_comm])
   have a2 := vbY (l := t1.rows.filter (fun r => !decide (r.1 = (H[H.length - 1]).p))) (q := (H[H.length - 1]).p) (v := ((H.length - 1 : Nat) : Int)) hri (vah hw1) (fun u hu => by simp at hu) (fun r => by
    rw [List.mem_filter]
    constructor
    ·intro hr
     by_cases e : r.1 = (H[H.length - 1]).p
     ·exact .inl (vdU (vah hw1) hr hin e)
     ·exact .inr ⟨hr, by simpa using e⟩
    ·rintro (rfl | hr)
     ·exact hin
     ·exact hr.1)
   omega
 rw [hlen, ← h.len]
 omega
end

end Go.Proofs.YtgopnfacklmkaaaGreatDoor
