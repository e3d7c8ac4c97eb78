/- The trie's above and Find; a node's row. -/
import Derived.Test.YtfaiponmjjbgoaaDoorTrU
import Derived.RegionTactic
namespace Go.Proofs.YtfaiponmjjbgoaaDoor
open Go.RowKit
attribute [local go_sem] Oper.semAt_some

def rowE (r : Pn × Int) : List Value := [.int .u32 r.1.a, .int .i64 r.1.l, .int .i64 r.2]
theorem rowE_len (r : Pn × Int) : (rowE r).length = 3 := rfl
theorem ERow : ElemOf Tryd.prog 74 77 (.agg #[.int .u32 0, .int .i64 0, .int .i64 0]) 3 24 := ⟨Tryd.underlying74, by kernel_rfl, rfl, by decide⟩
theorem call_row (args : Array Value) (w : World) : (callFunc 44 args).run Tryd.prog w = .ok (.enter 44 args) w := by kernel_rfl

set_option maxRecDepth 100000 in
set_option maxHeartbeats 1000000 in
theorem row_any (b : Nat) (p : Pn) (v : Int) (w : World) (h0 : w.cell? ⟨b, 0, none⟩ = some (.int .u32 p.a)) (h1 : w.cell? ⟨b, 1, none⟩ = some (.int .i64 p.l)) (h2 : w.cell? ⟨b, 2, none⟩ = some (.int .i64 v)) :
    Calls Tryd.prog 44 #[.pointer (some ⟨b, 0, none⟩)] w fun e w' => e = .returned (.agg #[.int .u32 p.a, .int .i64 p.l, .int .i64 v]) ∧ Kp w w' := by
  have hb := World.block_lt_of_cell? w _ h0
  obtain ⟨W, hW, kW, B0⟩ : ∃ W, w.alloc (.cells #[.int .u32 0, .int .i64 0, .int .i64 0] 77) = W ∧ Kp w W ∧ Blk W w.heap.size 77 #[.int .u32 0, .int .i64 0, .int .i64 0] := ⟨_, rfl, (Kp.refl _).alloc _, Blk.new w _ _⟩
  go_enter Tryd.func44, Tryd.ntmps44
  go_wp2_with fail
  refine wp_tail 9 (by kernel_rfl) (by kernel_rfl) (fun V hV => ?_)
  have KV : Kp W V := by rw [hV]; exact (Kp.refl _).drew
  have k2 := kW.trans KV
  have B1 := B0.keep KV
  have n0 : V.cell? ⟨b, 0, none⟩ = some (.int .u32 p.a) := k2.cell h0
  have n1 : V.cell? ⟨b, 1, none⟩ = some (.int .i64 p.l) := k2.cell h1
  have n2 : V.cell? ⟨b, 2, none⟩ = some (.int .i64 v) := k2.cell h2
  have r0 : V.cell? ⟨w.heap.size, 0, none⟩ = some (.int .u32 0) := B1.cell 0
  have r1 : V.cell? ⟨w.heap.size, 1, none⟩ = some (.int .i64 0) := B1.cell 1
  have r2 : V.cell? ⟨w.heap.size, 2, none⟩ = some (.int .i64 0) := B1.cell 2
  have z0 := B1.frozen 0
  have z1 := B1.frozen 1
  have z2 := B1.frozen 2
  clear hV hW h0 h1 h2
  simp only [List.take_succ_cons, List.take_zero, List.drop_succ_cons, List.drop_zero]
  repeat still_step
  refine wpStill_nil ?_
  go_wp2_with fail
  have R := ((B1.set_ 0 (.int .u32 p.a)).set_ 1 (.int .i64 p.l)).set_ 2 (.int .i64 v)
  have kz : Kp w (((V.setCell ⟨w.heap.size, 0, none⟩ (.int .u32 p.a)).setCell ⟨w.heap.size, 1, none⟩ (.int .i64 p.l)).setCell ⟨w.heap.size, 2, none⟩ (.int .i64 v)) := ((k2.setCell (Nat.le_refl _) _).setCell (Nat.le_refl _) _).setCell (Nat.le_refl _) _
  generalize ((V.setCell ⟨w.heap.size, 0, none⟩ (.int .u32 p.a)).setCell ⟨w.heap.size, 1, none⟩ (.int .i64 p.l)).setCell ⟨w.heap.size, 2, none⟩ (.int .i64 v) = Z at R kz ⊢
  have c0 : Z.cell? ⟨w.heap.size, 0, none⟩ = some (.int .u32 p.a) := R.cell 0
  have c1 : Z.cell? ⟨w.heap.size, 1, none⟩ = some (.int .i64 p.l) := R.cell 1
  have c2 : Z.cell? ⟨w.heap.size, 2, none⟩ = some (.int .i64 v) := R.cell 2
  exact bodyPost_ret (v := .agg #[.int .u32 p.a, .int .i64 p.l, .int .i64 v]) (by simp [results, Tryd.results44, go_sem, c0, c1, c2]) rfl ⟨rfl, kz⟩

def AbvAt (tx px tr : Nat) (q : Pn) (many : Int) (t : Tr) (k : Nat) (acc : List (Pn × Int)) : Prop :=
  (∃ s a0 a1, DownAt tx px tr q many t k s (a0, a1) ∧ acc ++ aboveT q s = aboveT q t) ∨ (k = (Tr.way q (tr, 0) t).length ∧ acc = aboveT q t)
def AbvI (w w1 : World) (tx px tr : Nat) (q : Pn) (many : Int) (t : Tr) (k : Nat) (W : World) : Prop :=
  Kp w W ∧ DownMem tx px tr q many t W ∧ ∃ acc v, AbvAt tx px tr q many t k acc ∧ Blk W (w.heap.size + 1) 74 #[v] ∧ Own W (w1.heap.size + 1 + 1) 77 3 rowE v acc ∧ acc.length ≤ 33
def AbvPost (w : World) (q : Pn) (t : Tr) (e : Ending) (w' : World) : Prop := ∃ A c, e = .returned (.slice A (aboveT q t).length c) ∧ Rd w' 3 rowE A (aboveT q t) ∧ Kp w w'
theorem above_len (q : Pn) : ∀ {t : Tr} {m : Nat}, t.Wf → (∀ r ∈ t.pfx, m ≤ r.l) → (aboveT q t).length ≤ 33 - m
  | .nil, m, _, _ => by simp [aboveT]
  | .node b p v h x y, m, ⟨hp, h0, h1, hx, hy⟩, hm => by
    have hpm := hm p (by simp [Tr.pfx])
    have hpl := hp.2.1
    have ix := above_len q (m := p.l + 1) hx (fun r hr => (h0 r hr).1)
    have iy := above_len q (m := p.l + 1) hy (fun r hr => (h1 r hr).1)
    have hs : (if h then [(p, v)] else [] : List (Pn × Int)).length ≤ 1 := by split <;> simp
    unfold aboveT
    by_cases h1 : p.holds q
    · by_cases h2 : p.l = q.l
      · simp only [h1, h2, if_true, List.append_nil]; omega
      · by_cases h3 : bitN q.a p.l = 0
        · simp only [h1, h2, h3, if_true, if_false, List.length_append]; omega
        · simp only [h1, h2, h3, if_true, if_false, List.length_append]; omega
    · simp [h1]

theorem wpAny_rest {P : Program} {Q : Exit → Act → World → Prop} {a : Act} {w : World} {fuel : Nat} {L : List Oper} {listed : Array Bool} (k : Nat) (hf : fuel = (L.drop k).length)
    (hB : Region.seqB .any L.toArray (L.drop k).length k listed = true) (h : wpList P L.toArray Q (L.drop k) a w) : wpAny P .any L.toArray Q fuel listed a w := by
  subst hf
  exact wpAny_of_seq (L.drop k) k listed a w (fun j => by simp) hB h
theorem round_any {r id : Nat} {P : Program} {Q : Exit → Act → World → Prop} {a : Act} {w : World} {l : List Oper} (hm : P.follows .mixedOrders = true) (hnd : noDefer l.toArray = true) (hQ : ¬ LetsOut Q)
    (h : ∀ W, W = w.drew → wpAny P .any l.toArray Q l.toArray.size (Array.replicate l.toArray.size false) a W) : (Code.region id l.toArray true).wpIn (Fence.wide.inRound r) 0 P Q a w :=
  wpIn_region_any hm (wpAnyIn_of_wpAny hQ hnd _ _ _ _ (h _ rfl))

set_option maxRecDepth 100000 in
set_option maxHeartbeats 2000000 in
theorem above_any (tr : Nat) (q : Pn) (many : Int) (t : Tr) (w : World) (hG : RelsAt w) (hT : Blk w tr 57 #[t.ptr, .int .i64 many, .bool true]) (hM : TM w t) (ht : t.Wf) (hq : q.ok) :
    Calls Tryd.prog 27 #[.pointer (some ⟨tr, 0, none⟩), .agg #[.int .u32 q.a, .int .i64 q.l]] w (AbvPost w q t) := by
  have hmf := makeFunc_run
  have hal := above_len q (m := 0) ht (fun _ _ => Nat.zero_le _)
  refine calls_of_wp_marks Tryd.func27 rfl ?_; simp only [Tryd.ntmps27, List.size_toArray, List.length_cons, List.length_nil, Nat.reduceAdd, Nat.reduceSub, Array.replicate_succ, Array.replicate_zero, List.push_toArray, List.append_toArray, List.nil_append, List.cons_append]
  go_wp2_with fail
  refine (down_any tr q _).mono ?_
  simp only [World.size_alloc]
  rintro e w1 ⟨rfl, Dx, Dp, hK1⟩
  have kw : Kp w w1 := (((Kp.refl _).alloc _).alloc _).trans hK1
  have A1 : Blk w1 (w.heap.size + 1) 74 #[.slice none 0 0] := (Blk.new1 w _ _ _).keep hK1
  have D1 : DownMem (w.heap.size + 1 + 1) (w.heap.size + 1 + 1 + 1) tr q many t w1 := ⟨Dx, Dp, hT.keep kw, hM.keep kw, hG.keep kw⟩
  have hpos := D1.px.lt
  have Hq := Lib.hid hq
  have Ht := Lib.hid ht
  have HD := Lib.hid D1
  have HT := Lib.hid (show ∀ W, Kp w W → Blk W tr 57 #[t.ptr, .int .i64 many, .bool true] ∧ TM W t ∧ RelsAt W from fun W k => ⟨hT.keep k, hM.keep k, hG.keep k⟩)
  clear hK1 hT hM hG hq ht Dx Dp D1
  go_wp2_with fail
  have hw1 := kw.size
  refine wp_range (N := (Tr.way q (tr, 0) t).length) rfl call_down1 (down1_iter (w.heap.size + 1 + 1) (w.heap.size + 1 + 1 + 1) tr q many t Hq.out Ht.out) (fun _ _ => rfl) (AbvI w w1 (w.heap.size + 1 + 1) (w.heap.size + 1 + 1 + 1) tr q many t) (fun _ _ _ => False) ?_ (fun _ _ _ _ h => h.elim) ?_ ?_ ?_ ?_ (fun _ _ _ _ _ h => h.elim)
  · rintro k W W' ⟨h1, h0, acc, v, d, B, o, hal⟩ hO
    have hO' : ∀ {b}, b < w1.heap.size → b ∉ [w1.heap.size, w1.heap.size + 1] := fun {b} hb => by simp; omega
    refine ⟨hO.kp h1 (by simp; omega), ⟨h0.tx.only hO (hO' (by omega)), h0.px.only hO (hO' (by omega)), ?_, ?_, ?_⟩, acc, v, d, B.only hO (hO' (by omega)), o.only hO (by simp <;> omega), hal⟩
    · exact (HT.out W' (hO.kp h1 (by simp; omega))).1
    · exact (HT.out W' (hO.kp h1 (by simp; omega))).2.1
    · exact (HT.out W' (hO.kp h1 (by simp; omega))).2.2
  · rintro k W ⟨_, h0, _⟩
    exact h0
  · exact ⟨kw, HD.out, [], _, .inl ⟨t, tr, 0, ⟨by simp, fun w d => ⟨d.tm, d.tr.cell 0⟩, Ht.out, Nat.zero_le _⟩, rfl⟩, A1, Own.nil _ _ _ _ _, by simp⟩
  · intro l k W hk _
    gi_wp2_with fail
    refine ⟨trivial, ?_⟩
    rintro W2 ⟨j1, j0, acc, v, (⟨s, a0, a1, d, e⟩ | ⟨hkN, _⟩), B, o, hal2⟩ hsz
    rotate_left
    · omega
    have hw := d.way
    cases s with
    | nil =>
      have := congrArg List.length hw
      simp [Tr.way] at this
      omega
    | node b p u hh x y =>
      have hp : p.holds q := by
        by_cases h : p.holds q
        · exact h
        · have := congrArg List.length hw
          simp [Tr.way, h] at this
          omega
      have hgd : (Tr.way q (tr, 0) t)[k]? = some (a0, a1) := by
        have hw' := hw
        simp only [Tr.way, hp, if_true] at hw'
        have := congrArg (fun l => l[0]?) hw'
        simpa using this.symm
      have hgk : (Tr.way q (tr, 0) t).getD k (0, 0) = (a0, a1) := by simp [List.getD, hgd]
      have hge := (List.getElem?_eq_some_iff.1 hgd).2
      simp only [hge]
      clear hge
      obtain ⟨⟨N2, _, _⟩, cA⟩ := d.mem W2 j0
      have cA' : W2.cell? ⟨a0, a1, none⟩ = some (.pointer (some ⟨b, 0, none⟩)) := cA
      have n0 : W2.cell? ⟨b, 0, none⟩ = some (.int .u32 p.a) := N2.cell 0
      have n1 : W2.cell? ⟨b, 1, none⟩ = some (.int .i64 p.l) := N2.cell 1
      have n2 : W2.cell? ⟨b, 2, none⟩ = some (.int .i64 u) := N2.cell 2
      have n3 : W2.cell? ⟨b, 3, none⟩ = some (.bool hh) := N2.cell 3
      have x0 : W2.cell? ⟨w.heap.size + 1, 0, none⟩ = some v := B.cell 0
      have z0 := B.frozen 0
      have next : Hid (AbvAt (w.heap.size + 1 + 1) (w.heap.size + 1 + 1 + 1) tr q many t (k + 1) (acc ++ (if hh then [(p, u)] else []))) := by
        by_cases hl : p.l = q.l
        · right
          simp only [Tr.way, hp, hl, if_true] at hw
          simp only [aboveT, hp, hl, if_true, List.append_nil] at e
          have := congrArg List.length hw
          simp at this
          exact ⟨by omega, e⟩
        · rcases bit_cases q.a p.l with hb | hb
          · left
            simp only [Tr.way, hp, hl, hb, if_true, if_false] at hw
            simp only [aboveT, hp, hl, hb, if_true, if_false] at e
            refine ⟨x, b, 4, ⟨?_, fun w dd => ?_, d.wf.2.2.2.1, by omega⟩, by rw [← e, List.append_assoc]⟩
            · have := congrArg List.tail hw
              simpa using this
            · obtain ⟨⟨h1, h2, h3⟩, _⟩ := d.mem w dd
              exact ⟨h2, h1.cell 4⟩
          · left
            simp only [Tr.way, hp, hl, hb, if_true, if_false, show ¬ (1 : Nat) = 0 by omega] at hw
            simp only [aboveT, hp, hl, hb, if_true, if_false, show ¬ (1 : Nat) = 0 by omega] at e
            refine ⟨y, b, 5, ⟨?_, fun w dd => ?_, d.wf.2.2.2.2, by omega⟩, by rw [← e, List.append_assoc]⟩
            · have := congrArg List.tail hw
              simpa using this
            · obtain ⟨⟨h1, h2, h3⟩, _⟩ := d.mem w dd
              exact ⟨h3, h1.cell 5⟩
      have hlen : (acc ++ (if hh then [(p, u)] else [])).length ≤ 33 := by
        rcases next with ⟨s', b0, b1, _, e'⟩ | ⟨_, e'⟩
        · have := congrArg List.length e'
          rw [List.length_append] at this
          omega
        · rw [e']; omega
      have Hlen := Lib.hid hlen
      have Ho := Lib.hid o
      clear d e hw hp hgd hgk cA o hlen
      cases hh with
      | false =>
        simp only [Bool.false_eq_true, if_false, List.append_nil] at next Hlen
        gi_wp2_with fail
        exact ⟨⟨rfl, rfl⟩, j1, j0, acc, v, next.out, B, Ho.out, hal2⟩
      | true =>
        gi_wp2_with fail
        simp only [if_true] at next Hlen
        have hfit := Hlen.out
        rw [List.length_append, List.length_singleton] at hfit
        have fin : Hid (∀ (w3 : World) (A3 : Option Addr) (c3 : Nat), Own w3 (w1.heap.size + 1 + 1) 77 3 rowE (.slice A3 (acc.length + 1) c3) (acc ++ [(p, u)]) → Kp w w3 → (∀ b, b < w1.heap.size + 1 + 1 → w3.heap[b]? = W2.heap[b]?) →
            Kept2 w1 W2 (w3.setCell ⟨w.heap.size + 1, 0, none⟩ (.slice A3 (acc.length + 1) c3)) ∧ AbvI w w1 (w.heap.size + 1 + 1) (w.heap.size + 1 + 1 + 1) tr q many t (k + 1) (w3.setCell ⟨w.heap.size + 1, 0, none⟩ (.slice A3 (acc.length + 1) c3))) := by
          intro w3 A3 c3 hown' hK' hE
          have kz : Kp w (w3.setCell ⟨w.heap.size + 1, 0, none⟩ (.slice A3 (acc.length + 1) c3)) := hK'.setCell (by simp) _
          have B3 : Blk w3 (w.heap.size + 1) 74 #[v] := (hE _ (by omega)).trans B
          obtain ⟨t1, t2, t3⟩ := HT.out _ kz
          refine ⟨⟨(Below.heap_setCell _ _ _ _ (by simp; omega)).trans (hE _ (by omega)), (Below.heap_setCell _ _ _ _ (by simp; omega)).trans (hE _ (by omega))⟩, kz, ⟨?_, ?_, t1, t2, t3⟩, _, _, next.out, B3.set_ 0 _, Own.setBelow (p := ⟨w.heap.size + 1, 0, none⟩) hown' (by simp only; omega) _, Hlen.out⟩
          · exact (show Blk w3 _ _ _ from (hE _ (by omega)).trans j0.tx).far (by simp <;> omega) _
          · exact (show Blk w3 _ _ _ from (hE _ (by omega)).trans j0.px).far (by simp <;> omega) _
        clear next Hlen
        refine round_any (by kernel_rfl) (by kernel_rfl) (no_out_block no_out_round) (fun V hV => ?_)
        have KV : Kp W2 V := by rw [hV]; exact (Kp.refl _).drew
        clear hV n3
        have B' := B.keep KV
        have m0 := KV.cell n0
        have m1 := KV.cell n1
        have m2 := KV.cell n2
        have xV := KV.cell x0
        clear n0 n1 n2 x0 z0 N2 cA'
        refine wpAny_take (i := 1) (v := .func (.func 44) #[.pointer (some ⟨b, 0, none⟩)] #[]) rfl (by kernel_rfl) (by kernel_rfl) (by kernel_rfl) (fun _ _ _ h => h) (Or.inl ⟨by rfl, fun w => by go_simp⟩) ?_
        refine wpAny_ready (rs := [0, 2]) (by kernel_rfl) (by simp) ?_
        refine AllReady.cons rfl (fun K hK => ?_) (AllReady.cons rfl (fun K hK => ?_) AllReady.nil)
        · go_simp
          refine hK _ _ ?_
          clear hK K
          refine wpAny_ready (rs := [2]) (by kernel_rfl) (by simp) ?_
          refine AllReady.cons rfl (fun K hK => ?_) AllReady.nil
          go_simp
          refine (row_any b p u _ m0 m1 m2).mono ?_
          rintro e wa ⟨rfl, hKa⟩
          have KW : Kp W2 wa := KV.trans hKa
          have hsW := KW.size
          have BW := B.keep KW
          have xW : wa.cell? ⟨w.heap.size + 1, 0, none⟩ = some v := BW.cell 0
          refine hK _ _ ?_
          clear hK K
          refine wpAny_ready (rs := [3]) (by kernel_rfl) (by simp) ?_
          refine AllReady.cons rfl (fun K hK => ?_) AllReady.nil
          go_simp
          refine hK _ _ ?_
          clear hK K
          refine wpAny_rest 4 rfl (by kernel_rfl) ?_
          simp only [List.drop_succ_cons, List.drop_zero]
          go_wp2_with (at_builtin; go_must (refine wpList_appx ERow rfl _ _ rfl (p, u) rfl (Ho.out.keep KW) (j1.trans KW) (by omega) (by omega) rfl rfl rfl rfl rfl (by omega) ?_); intro v' w3 hown' hK' hg; obtain ⟨A3, c3, rfl⟩ := hown'.form1; have B3 := BW.grown hg (Own.ne (Ho.out.keep KW) (by omega)); have cc3 : w3.cell? ⟨w.heap.size + 1, 0, none⟩ = some v := B3.cell 0; have zz := B3.frozen 0)
          exact fin.out w3 _ _ hown' hK' (fun b' hb' => (hg.block _ (by omega) (Own.ne (Ho.out.keep KW) (by omega))).trans (KW.heap (by omega)))
        · go_simp
          refine (row_any b p u _ m0 m1 m2).mono ?_
          rintro e wa ⟨rfl, hKa⟩
          have KW : Kp W2 wa := KV.trans hKa
          have hsW := KW.size
          have BW := B.keep KW
          have xW : wa.cell? ⟨w.heap.size + 1, 0, none⟩ = some v := BW.cell 0
          refine hK _ _ ?_
          clear hK K
          refine wpAny_ready (rs := [0, 3]) (by kernel_rfl) (by simp) ?_
          refine AllReady.cons rfl (fun K hK => ?_) (AllReady.cons rfl (fun K hK => ?_) AllReady.nil)
          · go_simp
            refine hK _ _ ?_
            clear hK K
            refine wpAny_ready (rs := [3]) (by kernel_rfl) (by simp) ?_
            refine AllReady.cons rfl (fun K hK => ?_) AllReady.nil
            go_simp
            refine hK _ _ ?_
            clear hK K
            refine wpAny_rest 4 rfl (by kernel_rfl) ?_
            simp only [List.drop_succ_cons, List.drop_zero]
            go_wp2_with (at_builtin; go_must (refine wpList_appx ERow rfl _ _ rfl (p, u) rfl (Ho.out.keep KW) (j1.trans KW) (by omega) (by omega) rfl rfl rfl rfl rfl (by omega) ?_); intro v' w3 hown' hK' hg; obtain ⟨A3, c3, rfl⟩ := hown'.form1; have B3 := BW.grown hg (Own.ne (Ho.out.keep KW) (by omega)); have cc3 : w3.cell? ⟨w.heap.size + 1, 0, none⟩ = some v := B3.cell 0; have zz := B3.frozen 0)
            exact fin.out w3 _ _ hown' hK' (fun b' hb' => (hg.block _ (by omega) (Own.ne (Ho.out.keep KW) (by omega))).trans (KW.heap (by omega)))
          · go_simp
            refine hK _ _ ?_
            clear hK K
            have xX : (wa.alloc (.cells #[.int .u32 p.a, .int .i64 p.l, .int .i64 u] 77)).cell? ⟨w.heap.size + 1, 0, none⟩ = some v := ((Kp.refl wa).alloc _).cell xW
            refine wpAny_ready (rs := [0]) (by kernel_rfl) (by simp) ?_
            refine AllReady.cons rfl (fun K hK => ?_) AllReady.nil
            go_simp
            refine hK _ _ ?_
            clear hK K
            refine wpAny_rest 4 rfl (by kernel_rfl) ?_
            simp only [List.drop_succ_cons, List.drop_zero]
            go_wp2_with (at_builtin; go_must (refine wpList_appx ERow rfl _ _ rfl (p, u) rfl (Ho.out.keep KW) (j1.trans KW) (by omega) (by omega) rfl rfl rfl rfl rfl (by omega) ?_); intro v' w3 hown' hK' hg; obtain ⟨A3, c3, rfl⟩ := hown'.form1; have B3 := BW.grown hg (Own.ne (Ho.out.keep KW) (by omega)); have cc3 : w3.cell? ⟨w.heap.size + 1, 0, none⟩ = some v := B3.cell 0; have zz := B3.frozen 0)
            exact fin.out w3 _ _ hown' hK' (fun b' hb' => (hg.block _ (by omega) (Own.ne (Ho.out.keep KW) (by omega))).trans (KW.heap (by omega)))
  · rintro W ⟨h1, h0, acc, v, d, B, o, hal2⟩ hd
    have e : acc = aboveT q t := by
      rcases d with ⟨s, a0, a1, d, e⟩ | ⟨_, e⟩
      · have hnil : aboveT q s = [] := by
          have hw := d.way
          rw [List.drop_length] at hw
          cases s with
          | nil => rfl
          | node b p u hh x y =>
            by_cases h : p.holds q
            · simp [Tr.way, h] at hw
            · simp [aboveT, h]
        rw [hnil, List.append_nil] at e
        exact e
      · exact e
    subst e
    obtain ⟨A, c, rfl, hR⟩ := o.rd (by decide) rowE_len
    have x0 : W.cell? ⟨w.heap.size + 1, 0, none⟩ = some (.slice A (aboveT q t).length c) := B.cell 0
    go_wp2_with fail
    refine takes_one hd (fun W' hO => ?_)
    refine ⟨.slice A (aboveT q t).length c, by simp [results, Tryd.results27, go_sem], A, c, rfl, ?_, hO.kp h1 (by simp; omega)⟩
    exact hR.only hO (fun a ha => by have := o.newA a ha; simp; omega)

/-- What Find answers of the rows above an address. -/
def foundT (l : List (Pn × Int)) : (Pn × Int) × Bool := match l.getLast? with
  | some r => (r, true)
  | none => ((⟨0, 0⟩, 0), false)

theorem row_at {w : World} {A : Option Addr} {l : List (Pn × Int)} (h : Rd w 3 rowE A l) {k : Nat} (hk : k < l.length) :
    ∃ b off : Nat, A = some ⟨b, off, none⟩ ∧ w.cell? ⟨b, off + k * 3, none⟩ = some (.int .u32 l[k].1.a) ∧ w.cell? ⟨b, off + k * 3 + 1, none⟩ = some (.int .i64 l[k].1.l) ∧ w.cell? ⟨b, off + k * 3 + 2, none⟩ = some (.int .i64 l[k].2) := by
  obtain ⟨b, off, e, hc⟩ := h k hk
  exact ⟨b, off, e, hc 0 _ rfl, hc 1 _ rfl, hc 2 _ rfl⟩

set_option maxRecDepth 100000 in
set_option maxHeartbeats 2000000 in
theorem find_any (tr a : Nat) (many : Int) (t : Tr) (w : World) (hG : RelsAt w) (hT : Blk w tr 57 #[t.ptr, .int .i64 many, .bool true]) (hM : TM w t) (ht : t.Wf) (ha : a < 4294967296) :
    Calls Tryd.prog 20 #[.pointer (some ⟨tr, 0, none⟩), .int .u32 a] w fun e w' => e = .returned (.tuple #[.agg #[.int .u32 (foundT (aboveT ⟨a, 32⟩ t)).1.1.a, .int .i64 (foundT (aboveT ⟨a, 32⟩ t)).1.1.l], .int .i64 (foundT (aboveT ⟨a, 32⟩ t)).1.2, .bool (foundT (aboveT ⟨a, 32⟩ t)).2]) ∧ Kp w w' := by
  have hq : (⟨a, 32⟩ : Pn).ok := ⟨ha, Nat.le_refl _, cut_32 a⟩
  have hal := above_len ⟨a, 32⟩ (m := 0) ht (fun _ _ => Nat.zero_le _)
  obtain ⟨W, hW, kW, B0⟩ : ∃ W, w.alloc (.cells #[.int .u32 0, .int .i64 0] 29) = W ∧ Kp w W ∧ Blk W w.heap.size 29 #[.int .u32 0, .int .i64 0] := ⟨_, rfl, (Kp.refl _).alloc _, Blk.new w _ _⟩
  have HT1 := Lib.hid (hT.keep kW)
  have HM1 := Lib.hid (hM.keep kW)
  have HG1 := Lib.hid (hG.keep kW)
  have Ht := Lib.hid ht
  have Hq := Lib.hid hq
  clear hT hM hG ht hq
  obtain ⟨l, hl⟩ : ∃ l, aboveT ⟨a, 32⟩ t = l := ⟨_, rfl⟩
  rw [hl] at hal ⊢
  have HL := Lib.hid hl; clear hl
  go_enter Tryd.func20, Tryd.ntmps20
  go_wp2_with fail
  refine (none_any tr _ many _ HT1.out).mono ?_
  rintro e w' ⟨rfl, rfl⟩
  go_wp2_with fail
  refine (above_any tr ⟨a, 32⟩ many t _ HG1.out HT1.out HM1.out Ht.out Hq.out).mono ?_
  rintro e w1 ⟨A, c, rfl, hR, hK1⟩
  rw [HL.out] at hR ⊢
  have k1 := kW.trans hK1
  have B1 := B0.keep hK1
  have r0 : w1.cell? ⟨w.heap.size, 0, none⟩ = some (.int .u32 0) := B1.cell 0
  have r1 : w1.cell? ⟨w.heap.size, 1, none⟩ = some (.int .i64 0) := B1.cell 1
  have z0 := B1.frozen 0
  have z1 := B1.frozen 1
  have HR := Lib.hid hR; clear hR hW
  rcases List.eq_nil_or_concat l with rfl | ⟨l', r, rfl⟩
  · go_wp2_with fail
    have R := (B1.set_ 0 (.int .u32 0)).set_ 1 (.int .i64 0)
    have kz : Kp w ((w1.setCell ⟨w.heap.size, 0, none⟩ (.int .u32 0)).setCell ⟨w.heap.size, 1, none⟩ (.int .i64 0)) := (k1.setCell (Nat.le_refl _) _).setCell (Nat.le_refl _) _
    generalize (w1.setCell ⟨w.heap.size, 0, none⟩ (.int .u32 0)).setCell ⟨w.heap.size, 1, none⟩ (.int .i64 0) = Z at R kz ⊢
    have c0 : Z.cell? ⟨w.heap.size, 0, none⟩ = some (.int .u32 0) := R.cell 0
    have c1 : Z.cell? ⟨w.heap.size, 1, none⟩ = some (.int .i64 0) := R.cell 1
    exact bodyPost_ret (v := .tuple #[.agg #[.int .u32 0, .int .i64 0], .int .i64 0, .bool false]) (by simp [results, Tryd.results20, go_sem, c0, c1]) rfl ⟨rfl, kz⟩
  · obtain ⟨N, hN⟩ : ∃ N, l'.length = N := ⟨_, rfl⟩
    rw [List.concat_eq_append] at *
    have hlen : (l' ++ [r]).length = N + 1 := by simp [hN]
    obtain ⟨b, off, rfl, c0, c1, c2⟩ := row_at HR.out (k := N) (by omega)
    have hget : (l' ++ [r])[N]'(by omega) = r := by subst hN; simp
    rw [hget] at c0 c1 c2
    have Hf := Lib.hid (show foundT (l' ++ [r]) = (r, true) by simp [foundT])
    rw [hlen] at hal ⊢
    clear hget
    have Hlen := Lib.hid hlen; clear hlen
    have HN := Lib.hid hN; clear hN
    obtain ⟨V, hV, KV, Bl⟩ : ∃ V, w1.alloc (.cells #[.int .u32 r.1.a, .int .i64 r.1.l, .int .i64 r.2] 77) = V ∧ Kp w1 V ∧ Blk V w1.heap.size 77 #[.int .u32 r.1.a, .int .i64 r.1.l, .int .i64 r.2] := ⟨_, rfl, (Kp.refl _).alloc _, Blk.new w1 _ _⟩
    clear r0 r1 z0 z1
    have B2 := B1.keep KV
    have r0 : V.cell? ⟨w.heap.size, 0, none⟩ = some (.int .u32 0) := B2.cell 0
    have r1 : V.cell? ⟨w.heap.size, 1, none⟩ = some (.int .i64 0) := B2.cell 1
    have z0 := B2.frozen 0
    have z1 := B2.frozen 1
    have l0 : V.cell? ⟨w1.heap.size, 0, none⟩ = some (.int .u32 r.1.a) := Bl.cell 0
    have l1 : V.cell? ⟨w1.heap.size, 1, none⟩ = some (.int .i64 r.1.l) := Bl.cell 1
    have l2 : V.cell? ⟨w1.heap.size, 2, none⟩ = some (.int .i64 r.2) := Bl.cell 2
    have hne : ¬ w.heap.size = w1.heap.size := by have := B1.lt; omega
    go_wp2_with fail
    go_region
    go_wp2_with fail
    have R := ((B2.set_ 0 (.int .u32 r.1.a)).set_ 1 (.int .i64 r.1.l)).drew
    have kz : Kp w ((V.setCell ⟨w.heap.size, 0, none⟩ (.int .u32 r.1.a)).setCell ⟨w.heap.size, 1, none⟩ (.int .i64 r.1.l)).drew := (((k1.trans KV).setCell (Nat.le_refl _) _).setCell (Nat.le_refl _) _).drew
    generalize ((V.setCell ⟨w.heap.size, 0, none⟩ (.int .u32 r.1.a)).setCell ⟨w.heap.size, 1, none⟩ (.int .i64 r.1.l)).drew = Z at R kz ⊢
    have d0 : Z.cell? ⟨w.heap.size, 0, none⟩ = some (.int .u32 r.1.a) := R.cell 0
    have d1 : Z.cell? ⟨w.heap.size, 1, none⟩ = some (.int .i64 r.1.l) := R.cell 1
    exact bodyPost_ret (v := .tuple #[.agg #[.int .u32 r.1.a, .int .i64 r.1.l], .int .i64 r.2, .bool true]) (by simp [results, Tryd.results20, go_sem, d0, d1]) rfl ⟨by rw [List.concat_eq_append, Hf.out], kz⟩
end Go.Proofs.YtfaiponmjjbgoaaDoor
