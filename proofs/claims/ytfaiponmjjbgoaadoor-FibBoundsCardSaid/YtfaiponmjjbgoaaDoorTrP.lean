/- The trie's place: where the node of a prefix stands, or would come to stand. -/
import Derived.Test.YtfaiponmjjbgoaaDoorTrD
import Derived.Test.YtfaiponmjjbgoaaDoorRound
import Derived.BigGuardIn
namespace Go.Proofs.YtfaiponmjjbgoaaDoor
open Go.RowKit
attribute [local go_sem] Oper.semAt_some

theorem takes_one {W : World} {r : Nat} (hd : W.heap[r]? = some (.deferred (some []))) {K : World → Prop} (h : ∀ W', Only [r] W W' → K W') : Takes [{ target := .collected r, args := #[] }] W K :=
  ⟨r, rfl, hd, h _ ((Only.refl [r] W).putObj (by simp) _)⟩
theorem makeFunc_run (fn : Fn) (first cap : Array Value) (w : World) : (Instr.makeFunc fn first cap).run Tryd.prog w = .ok (.func fn first cap) w := rfl
theorem call_down1 (args : Array Value) (w : World) : (callFunc 55 args).run Tryd.prog w = .ok (.enter 55 args) w := by kernel_rfl

set_option maxHeartbeats 400000 in
theorem down_any (tr : Nat) (q : Pn) (w : World) :
    Calls Tryd.prog 43 #[.pointer (some ⟨tr, 0, none⟩), .agg #[.int .u32 q.a, .int .i64 q.l]] w fun e w' => e = .returned (.func (.func 55) #[] #[.pointer (some ⟨w.heap.size, 0, none⟩), .pointer (some ⟨w.heap.size + 1, 0, none⟩)]) ∧
      Blk w' w.heap.size 44 #[.pointer (some ⟨tr, 0, none⟩)] ∧ Blk w' (w.heap.size + 1) 29 #[.int .u32 q.a, .int .i64 q.l] ∧ Kp w w' := by
  have hmf := makeFunc_run
  go_enter Tryd.func43, Tryd.ntmps43
  go_wp2_with fail
  go_ret
  exact ⟨rfl, (Blk.new w _ _).alloc _, Blk.new1 w _ _ _, ((Kp.refl _).alloc _).alloc _⟩

theorem DownMem.only {tx px tr : Nat} {q : Pn} {many : Int} {t : Tr} {w w' : World} {bs : List Nat} (h : DownMem tx px tr q many t w) (k : Only bs w w') (h1 : tx ∉ bs) (h2 : px ∉ bs) (h3 : tr ∉ bs) (h4 : ∀ b ∈ t.bs, b ∉ bs) (h5 : 0 ∉ bs) : DownMem tx px tr q many t w' :=
  ⟨h.tx.only k h1, h.px.only k h2, h.tr.only k h3, TM.only k h.tm h4, ⟨k.cell h.rels.1 h5, k.cell h.rels.2.1 h5, k.cell h.rels.2.2.1 h5, k.cell h.rels.2.2.2 h5⟩⟩

/-- So far: the place, and what is beneath it. -/
def PlI (w0 : World) (ab tx px tr : Nat) (q : Pn) (many : Int) (t : Tr) (k : Nat) (W : World) : Prop :=
  Only [ab] w0 W ∧ ∃ s a0 a1, DownAt tx px tr q many t k s (a0, a1) ∧ Tr.place q (a0, a1) s = Tr.place q (tr, 0) t ∧ Blk W ab 83 #[.pointer (some ⟨a0, a1, none⟩)]
def PlZ (w0 : World) (ab : Nat) (pl : Nat × Nat) (W : World) : Prop := Only [ab] w0 W ∧ Blk W ab 83 #[.pointer (some ⟨pl.1, pl.2, none⟩)]

theorem pl_done {w0 : World} {ab tx px tr : Nat} {q : Pn} {many : Int} {t : Tr} {W : World} (h : PlI w0 ab tx px tr q many t (Tr.way q (tr, 0) t).length W) : PlZ w0 ab (Tr.place q (tr, 0) t) W := by
  obtain ⟨h1, s, a0, a1, d, e, B⟩ := h
  refine ⟨h1, ?_⟩
  have hw := d.way
  rw [List.drop_length] at hw
  have : Tr.place q (a0, a1) s = (a0, a1) := by
    cases s with
    | nil => rfl
    | node b p v hh x y =>
      by_cases hp : p.holds q
      · simp [Tr.way, hp] at hw
      · simp [Tr.place, hp]
  rw [← e, this]
  exact B

set_option maxRecDepth 100000 in
set_option maxHeartbeats 2000000 in
theorem place_any (tr : Nat) (q : Pn) (many : Int) (t : Tr) (w : World) (hG : RelsAt w) (hT : Blk w tr 57 #[t.ptr, .int .i64 many, .bool true]) (hM : TM w t) (ht : t.Wf) (hq : q.ok) :
    Calls Tryd.prog 40 #[.pointer (some ⟨tr, 0, none⟩), .agg #[.int .u32 q.a, .int .i64 q.l]] w fun e w' => e = .returned (.pointer (some ⟨(Tr.place q (tr, 0) t).1, (Tr.place q (tr, 0) t).2, none⟩)) ∧ Kp w w' := by
  have hglt := World.block_lt_of_cell? w _ hG.1
  have htlt := hT.lt
  have hblt := Lib.hid (TM.lt hM)
  refine calls_of_wp_marks Tryd.func40 rfl ?_; simp only [Tryd.ntmps40, List.size_toArray, List.length_cons, List.length_nil, Nat.reduceAdd, Nat.reduceSub, Array.replicate_succ, Array.replicate_zero, List.push_toArray, List.append_toArray, List.nil_append, List.cons_append]
  go_wp2_with fail
  refine wp_scope_fwd 0 rfl ?_
  go_wp2_with fail
  go_step3
  go_wp2_with fail
  refine (down_any tr q _).mono ?_
  simp only [World.size_alloc]
  rintro e w1 ⟨rfl, Dx, Dp, hK1⟩
  have kw : Kp w w1 := (((Kp.refl _).alloc _).alloc _).trans hK1
  have P1 : Blk w1 w.heap.size 29 #[.int .u32 q.a, .int .i64 q.l] := ((Blk.new w _ _).alloc _).keep hK1
  have A1 : Blk w1 (w.heap.size + 1) 83 #[.pointer (some ⟨tr, 0, none⟩)] := (Blk.new1 w _ _ _).keep hK1
  have D1 : DownMem (w.heap.size + 1 + 1) (w.heap.size + 1 + 1 + 1) tr q many t w1 := ⟨Dx, Dp, hT.keep kw, hM.keep kw, hG.keep kw⟩
  clear hK1
  have hpos := D1.px.lt
  have near : Hid (∀ k W, PlI w1 (w.heap.size + 1) (w.heap.size + 1 + 1) (w.heap.size + 1 + 1 + 1) tr q many t k W → DownMem (w.heap.size + 1 + 1) (w.heap.size + 1 + 1 + 1) tr q many t W) := fun k W h =>
    D1.only h.1 (by simp <;> omega) (by simp <;> omega) (by simp <;> omega) (fun b hb => by have := hblt.out b hb; simp; omega) (by simp only [List.mem_singleton]; omega)
  have lift : ∀ W W', Only [w.heap.size + 1] w1 W → Only [w1.heap.size, w1.heap.size + 1] W W' → Only [w.heap.size + 1] w1 W' := fun W W' h1 hO =>
    ⟨hO.os.trans h1.os, hO.tape.trans h1.tape, hO.output.trans h1.output, Nat.le_trans h1.size hO.size, fun i hi hn => (hO.block i (Nat.lt_of_lt_of_le hi h1.size) (by simp; omega)).trans (h1.block i hi hn)⟩
  have Hlift := Lib.hid lift; clear lift
  have kept : Hid (∀ W2 V u, w1.heap.size + 1 < W2.heap.size → Only [w.heap.size + 1] W2 V → Kept2 w1 W2 (V.setCell ⟨w.heap.size + 1, 0, none⟩ u)) := fun W2 V u hs hO =>
    ⟨(Below.heap_setCell _ _ _ _ (by simp; omega)).trans (hO.block _ (by omega) (by simp; omega)), (Below.heap_setCell _ _ _ _ (by simp; omega)).trans (hO.block _ (by omega) (by simp; omega))⟩
  have Hq := Lib.hid hq
  have Ht := Lib.hid ht
  have hmm := hq.2.1
  clear hM hT hq ht Dx Dp hG
  go_wp2_with fail
  refine wp_range_join (N := (Tr.way q (tr, 0) t).length) rfl call_down1 (down1_iter (w.heap.size + 1 + 1) (w.heap.size + 1 + 1 + 1) tr q many t Hq.out Ht.out) (fun _ _ => rfl)
    (PlI w1 (w.heap.size + 1) (w.heap.size + 1 + 1) (w.heap.size + 1 + 1 + 1) tr q many t) (fun _ W => PlZ w1 (w.heap.size + 1) (Tr.place q (tr, 0) t) W) (PlZ w1 (w.heap.size + 1) (Tr.place q (tr, 0) t)) ?_ ?_ near.out ?_ ?_ (fun _ _ _ _ h => h) ?_ ?_
  · rintro k W W' ⟨h1, s, a0, a1, d, e, B⟩ hO
    exact ⟨Hlift.out W W' h1 hO, s, a0, a1, d, e, B.only hO (by simp; omega)⟩
  · rintro k W W' ⟨h1, B⟩ hO
    exact ⟨Hlift.out W W' h1 hO, B.only hO (by simp; omega)⟩
  · exact ⟨Only.refl _ _, t, tr, 0, ⟨by simp, fun w d => ⟨d.tm, d.tr.cell 0⟩, Ht.out, Nat.zero_le _⟩, rfl, A1⟩
  · intro W h; exact pl_done h
  · intro l k W hk _
    gi_wp2_with fail
    refine ⟨trivial, ?_⟩
    rintro W2 ⟨j1, s, a0, a1, d, e, B⟩ hsz
    have D2 := near.out k W2 ⟨j1, s, a0, a1, d, e, B⟩
    have hw := d.way
    cases s with
    | nil =>
      have := congrArg List.length hw
      simp [Tr.way] at this
      omega
    | node b p v hh x y =>
      have hp : p.holds q := by
        by_cases h : p.holds q
        · exact h
        · have := congrArg List.length hw
          simp [Tr.way, h] at this
          omega
      have hgd : (Tr.way q (tr, 0) t)[k]? = some (a0, a1) := by
        have hw' := hw
        simp only [Tr.way, hp, if_true] at hw'
        have := congrArg (fun l => l[0]?) hw'
        simpa using this.symm
      have hgk : (Tr.way q (tr, 0) t)[k] = (a0, a1) := by
        obtain ⟨_, h⟩ := List.getElem?_eq_some_iff.mp hgd
        exact h
      simp only [hgk]
      obtain ⟨⟨N2, _, _⟩, cA⟩ := d.mem W2 D2
      have P2 := P1.only j1 (by simp)
      have cA' : W2.cell? ⟨a0, a1, none⟩ = some (.pointer (some ⟨b, 0, none⟩)) := cA
      have n1 : W2.cell? ⟨b, 1, none⟩ = some (.int .i64 p.l) := N2.cell 1
      have q0 : W2.cell? ⟨w.heap.size, 0, none⟩ = some (.int .u32 q.a) := P2.cell 0
      have q1 : W2.cell? ⟨w.heap.size, 1, none⟩ = some (.int .i64 q.l) := P2.cell 1
      have Hd := Lib.hid d; have He := Lib.hid e; have Hw := Lib.hid hw; have Hp := Lib.hid hp
      clear d e hw hp hgd hgk cA
      by_cases hl : p.l = q.l
      · have e1 : ((p.l : Int) == (q.l : Int)) = true := by simp [hl]
        have Hl := Lib.hid hl; clear hl
        gi_wp2_with fail
        refine round_tail 9 (by kernel_rfl) (by kernel_rfl) (by kernel_rfl) (no_out (no_out (no_out_block no_out_round))) (fun V hV => ?_)
        have jV : Only [w.heap.size + 1] w1 V := by rw [hV]; exact j1.drew
        have BV : Blk V (w.heap.size + 1) 83 #[.pointer (some ⟨a0, a1, none⟩)] := by rw [hV]; exact B
        have c1 : V.cell? ⟨a0, a1, none⟩ = some (.pointer (some ⟨b, 0, none⟩)) := by rw [hV]; exact cA'
        have c2 : V.cell? ⟨b, 1, none⟩ = some (.int .i64 p.l) := by rw [hV]; exact n1
        have c3 : V.cell? ⟨w.heap.size, 1, none⟩ = some (.int .i64 q.l) := by rw [hV]; exact q1
        have z0 := BV.frozen 0
        have y0 : V.cell? ⟨w.heap.size + 1, 0, none⟩ = some (.pointer (some ⟨a0, a1, none⟩)) := BV.cell 0
        have OV : Only [w.heap.size + 1] W2 V := by rw [hV]; exact (Only.refl _ _).drew
        clear hV cA' n1 q0 q1
        simp only [List.take_succ_cons, List.take_zero, List.drop_succ_cons, List.drop_zero]
        repeat still_step
        refine wpStill_nil ?_
        go_wp2_with fail
        gi_wp2_with fail
        have hpl2 : Tr.place q (tr, 0) t = (a0, a1) := by
          rw [← He.out]; simp only [Tr.place, Hp.out, Hl.out, if_true]
        exact ⟨kept.out _ _ _ hsz OV, rfl, jV.setCell (.inl (by simp)) _, by rw [hpl2]; exact BV.set_ 0 _⟩
      · have e1 : ((p.l : Int) == (q.l : Int)) = false := by simp; omega
        have Hl := Lib.hid hl
        have Hpl := Lib.hid (show p.l ≤ 32 from Hd.out.wf.1.2.1)
        clear hl
        rcases bit_cases q.a p.l with hb | hb
        · have Hb := Lib.hid hb; clear hb
          gi_wp2_with fail
          refine round_tail 9 (by kernel_rfl) (by kernel_rfl) (by kernel_rfl) (no_out (no_out (no_out_block no_out_round))) (fun V hV => ?_)
          have jV : Only [w.heap.size + 1] w1 V := by rw [hV]; exact j1.drew
          have BV : Blk V (w.heap.size + 1) 83 #[.pointer (some ⟨a0, a1, none⟩)] := by rw [hV]; exact B
          have c1 : V.cell? ⟨a0, a1, none⟩ = some (.pointer (some ⟨b, 0, none⟩)) := by rw [hV]; exact cA'
          have c2 : V.cell? ⟨b, 1, none⟩ = some (.int .i64 p.l) := by rw [hV]; exact n1
          have c3 : V.cell? ⟨w.heap.size, 1, none⟩ = some (.int .i64 q.l) := by rw [hV]; exact q1
          have c0 : V.cell? ⟨w.heap.size, 0, none⟩ = some (.int .u32 q.a) := by rw [hV]; exact q0
          have z0 := BV.frozen 0
          have y0 : V.cell? ⟨w.heap.size + 1, 0, none⟩ = some (.pointer (some ⟨a0, a1, none⟩)) := BV.cell 0
          have OV : Only [w.heap.size + 1] W2 V := by rw [hV]; exact (Only.refl _ _).drew
          clear hV cA' n1 q0 q1 N2 P2
          simp only [List.take_succ_cons, List.take_zero, List.drop_succ_cons, List.drop_zero]
          repeat still_step
          refine wpStill_nil ?_
          go_wp2_with fail
          gi_wp2_with fail
          refine round_tail 16 (by kernel_rfl) (by kernel_rfl) (by kernel_rfl) (no_out_block no_out_round) (fun U hU => ?_)
          have jU : Only [w.heap.size + 1] w1 U := by rw [hU]; exact jV.drew
          have BU : Blk U (w.heap.size + 1) 83 #[.pointer (some ⟨a0, a1, none⟩)] := by rw [hU]; exact BV
          have d1 : U.cell? ⟨a0, a1, none⟩ = some (.pointer (some ⟨b, 0, none⟩)) := by rw [hU]; exact c1
          have d2 : U.cell? ⟨b, 1, none⟩ = some (.int .i64 p.l) := by rw [hU]; exact c2
          have d0 : U.cell? ⟨w.heap.size, 0, none⟩ = some (.int .u32 q.a) := by rw [hU]; exact c0
          have zU := BU.frozen 0
          have yU : U.cell? ⟨w.heap.size + 1, 0, none⟩ = some (.pointer (some ⟨a0, a1, none⟩)) := BU.cell 0
          have OU : Only [w.heap.size + 1] W2 U := by rw [hU]; exact OV.drew
          clear hU jV BV OV c0 c1 c2 c3 z0 y0
          simp only [List.take_succ_cons, List.take_zero, List.drop_succ_cons, List.drop_zero]
          repeat still_step
          still_call (by refine (bit_any q.a p.l _ Hq.out.1 Hpl.out).mono ?_; rintro e w' ⟨rfl, rfl⟩; rw [Hb.out]; exact ⟨rfl, rfl⟩)
          repeat still_step
          refine wpStill_nil ?_
          go_wp2_with fail
          refine ⟨kept.out _ _ _ hsz OU, jU.setCell (.inl (by simp)) _, x, b, 4, ⟨?_, fun w d => ?_, Hd.out.wf.2.2.2.1, by omega⟩, ?_, BU.set_ 0 _⟩
          · have hw := Hw.out
            simp only [Tr.way, Hp.out, Hl.out, Hb.out, if_true, if_false] at hw
            have := congrArg List.tail hw
            simpa using this
          · obtain ⟨⟨h1, h2, h3⟩, _⟩ := Hd.out.mem w d
            exact ⟨h2, h1.cell 4⟩
          · rw [← He.out]
            simp only [Tr.place, Hp.out, Hl.out, Hb.out, if_true, if_false]
        · have Hb := Lib.hid hb; clear hb
          gi_wp2_with fail
          refine round_tail 9 (by kernel_rfl) (by kernel_rfl) (by kernel_rfl) (no_out (no_out (no_out_block no_out_round))) (fun V hV => ?_)
          have jV : Only [w.heap.size + 1] w1 V := by rw [hV]; exact j1.drew
          have BV : Blk V (w.heap.size + 1) 83 #[.pointer (some ⟨a0, a1, none⟩)] := by rw [hV]; exact B
          have c1 : V.cell? ⟨a0, a1, none⟩ = some (.pointer (some ⟨b, 0, none⟩)) := by rw [hV]; exact cA'
          have c2 : V.cell? ⟨b, 1, none⟩ = some (.int .i64 p.l) := by rw [hV]; exact n1
          have c3 : V.cell? ⟨w.heap.size, 1, none⟩ = some (.int .i64 q.l) := by rw [hV]; exact q1
          have c0 : V.cell? ⟨w.heap.size, 0, none⟩ = some (.int .u32 q.a) := by rw [hV]; exact q0
          have z0 := BV.frozen 0
          have y0 : V.cell? ⟨w.heap.size + 1, 0, none⟩ = some (.pointer (some ⟨a0, a1, none⟩)) := BV.cell 0
          have OV : Only [w.heap.size + 1] W2 V := by rw [hV]; exact (Only.refl _ _).drew
          clear hV cA' n1 q0 q1 N2 P2
          simp only [List.take_succ_cons, List.take_zero, List.drop_succ_cons, List.drop_zero]
          repeat still_step
          refine wpStill_nil ?_
          go_wp2_with fail
          gi_wp2_with fail
          refine round_tail 16 (by kernel_rfl) (by kernel_rfl) (by kernel_rfl) (no_out_block no_out_round) (fun U hU => ?_)
          have jU : Only [w.heap.size + 1] w1 U := by rw [hU]; exact jV.drew
          have BU : Blk U (w.heap.size + 1) 83 #[.pointer (some ⟨a0, a1, none⟩)] := by rw [hU]; exact BV
          have d1 : U.cell? ⟨a0, a1, none⟩ = some (.pointer (some ⟨b, 0, none⟩)) := by rw [hU]; exact c1
          have d2 : U.cell? ⟨b, 1, none⟩ = some (.int .i64 p.l) := by rw [hU]; exact c2
          have d0 : U.cell? ⟨w.heap.size, 0, none⟩ = some (.int .u32 q.a) := by rw [hU]; exact c0
          have zU := BU.frozen 0
          have yU : U.cell? ⟨w.heap.size + 1, 0, none⟩ = some (.pointer (some ⟨a0, a1, none⟩)) := BU.cell 0
          have OU : Only [w.heap.size + 1] W2 U := by rw [hU]; exact OV.drew
          clear hU jV BV OV c0 c1 c2 c3 z0 y0
          simp only [List.take_succ_cons, List.take_zero, List.drop_succ_cons, List.drop_zero]
          repeat still_step
          still_call (by refine (bit_any q.a p.l _ Hq.out.1 Hpl.out).mono ?_; rintro e w' ⟨rfl, rfl⟩; rw [Hb.out]; exact ⟨rfl, rfl⟩)
          repeat still_step
          refine wpStill_nil ?_
          go_wp2_with fail
          refine ⟨kept.out _ _ _ hsz OU, jU.setCell (.inl (by simp)) _, y, b, 5, ⟨?_, fun w d => ?_, Hd.out.wf.2.2.2.2, by omega⟩, ?_, BU.set_ 0 _⟩
          · have hw := Hw.out
            simp only [Tr.way, Hp.out, Hl.out, Hb.out, if_true, if_false, show ¬ (1 : Nat) = 0 by omega] at hw
            have := congrArg List.tail hw
            simpa using this
          · obtain ⟨⟨h1, h2, h3⟩, _⟩ := Hd.out.mem w d
            exact ⟨h3, h1.cell 5⟩
          · rw [← He.out]
            simp only [Tr.place, Hp.out, Hl.out, Hb.out, if_true, if_false, show ¬ (1 : Nat) = 0 by omega]
  · rintro W ⟨h1, B⟩ hd
    have c0 : W.cell? ⟨w.heap.size + 1, 0, none⟩ = some (.pointer (some ⟨(Tr.place q (tr, 0) t).1, (Tr.place q (tr, 0) t).2, none⟩)) := B.cell 0
    have k2 : Kp w W := h1.kp kw (by simp)
    have hs1 := kw.size
    go_wp2_with fail
    refine jump_ret ?_
    refine takes_one hd (fun W' hO => ⟨_, ?_, rfl, hO.kp k2 (by simp; omega)⟩)
    simp [results, Tryd.results40, go_sem]
end Go.Proofs.YtfaiponmjjbgoaaDoor
