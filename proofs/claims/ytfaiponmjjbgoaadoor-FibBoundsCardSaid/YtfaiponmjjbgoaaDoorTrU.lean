/- The trie's Take. -/
import Derived.Test.YtfaiponmjjbgoaaDoorTrT
namespace Go.Proofs.YtfaiponmjjbgoaaDoor
open Go.RowKit
attribute [local go_sem] Oper.semAt_some

theorem Turned.trans {w w1 w2 : World} {tr : Nat} {t t1 t2 : Tr} {m1 m2 : Int} (h : Turned w w1 tr t t1 m1) (k : Turned w1 w2 tr t1 t2 m2) : Turned w w2 tr t t2 m2 :=
  ⟨k.trie, ⟨k.only.os.trans h.only.os, k.only.tape.trans h.only.tape, k.only.output.trans h.only.output, Nat.le_trans h.only.size k.only.size, fun i hi hn => (k.only.block i (Nat.lt_of_lt_of_le hi h.only.size) (fun hc => by
      rcases List.mem_cons.1 hc with e | hc
      · exact hn (by simp [e])
      · rcases h.sub i hc with e | e
        · exact hn (by simp [e])
        · omega)).trans (h.only.block i hi hn)⟩, fun b hb => by
      rcases k.sub b hb with e | e
      · exact h.sub b e
      · exact .inr (Nat.le_trans h.only.size e)⟩
theorem Turned.keep {w w1 w2 : World} {tr : Nat} {t t2 : Tr} {m2 : Int} (k : Kp w w1) (h : Turned w1 w2 tr t t2 m2) : Turned w w2 tr t t2 m2 :=
  ⟨h.trie, (Only.of_kp k).trans h.only, fun b hb => by
      rcases h.sub b hb with e | e
      · exact .inl e
      · exact .inr (Nat.le_trans k.size e)⟩

theorem TrieM.many_ {w : World} {tr : Nat} {t : Tr} {many : Int} (h : TrieM w tr t many) (m : Int) : TrieM (w.setCell ⟨tr, 1, none⟩ (.int .i64 m)) tr t m :=
  ⟨h.blk.set_ 1 _, h.tm.only ((Only.refl [tr] w).setCell (.inl (by simp)) _) (fun c hc => by simp; intro e; subst e; exact h.out hc), h.wf, h.nd, h.out⟩
theorem RelsAt.only {w w' : World} {bs : List Nat} (h : RelsAt w) (k : Only bs w w') (hn : 0 ∉ bs) : RelsAt w' := ⟨k.cell h.1 hn, k.cell h.2.1 hn, k.cell h.2.2.1 hn, k.cell h.2.2.2 hn⟩

def TakePost (w : World) (tr : Nat) (q : Pn) (u many : Int) (t : Tr) (e : Ending) (w' : World) : Prop :=
  e = .returned (.tuple #[.int .i64 u, .bool true, .int .i64 0]) ∧ ∃ t', Turned w w' tr t t' (many - 1) ∧ ∀ r : Pn × Int, r ∈ t'.rows ↔ r.1 ≠ q ∧ r ∈ t.rows

set_option maxRecDepth 100000 in
set_option maxHeartbeats 2000000 in
theorem take_had (tr : Nat) (q : Pn) (u many : Int) (t : Tr) (b : Nat) (x y : Tr) (w : World) (hG : RelsAt w) (hT : TrieM w tr t many) (hq : q.ok) (hl : t.look q = .node b q u true x y) (hm0 : 0 ≤ many) (hm1 : many ≤ 1000000) (hGn : 0 ∉ tr :: t.bs) :
    Calls Tryd.prog 25 #[.pointer (some ⟨tr, 0, none⟩), .agg #[.int .u32 q.a, .int .i64 q.l]] w (TakePost w tr q u many t) := by
  have Hq := Lib.hid hq
  have Hck := Lib.hid (show checkP q.pi = 0 by simp [checkP, pi_ok hq])
  have HT := Lib.hid hT
  have HG := Lib.hid hG
  have Hl := Lib.hid hl
  have HGn := Lib.hid hGn
  have HT1 := Lib.hid (hT.blk.alloc (.cells #[.int .u32 q.a, .int .i64 q.l] 29))
  have hpn := ptr_ne_nil
  have ht1 := pfx_eq_t
  clear hT hq hG hl hGn
  go_enter Tryd.func25, Tryd.ntmps25
  go_wp2_with fail
  refine wp_scope_fwd 0 rfl ?_
  go_wp2_with fail
  refine (none_any tr _ many _ HT1.out).mono ?_
  rintro e w' ⟨rfl, rfl⟩
  go_wp2_with fail
  refine (check_any q.pi _ Hq.out.1).mono ?_
  rintro e w1 ⟨rfl, hK1⟩
  rw [Hck.out]
  have kw : Kp w w1 := ((Kp.refl _).alloc _).trans hK1
  have P1 : Blk w1 w.heap.size 29 #[.int .u32 q.a, .int .i64 q.l] := (Blk.new w _ _).keep hK1
  clear hK1
  have p0 : w1.cell? ⟨w.heap.size, 0, none⟩ = some (.int .u32 q.a) := P1.cell 0
  have p1 : w1.cell? ⟨w.heap.size, 1, none⟩ = some (.int .i64 q.l) := P1.cell 1
  go_wp2_with fail
  refine (place_any tr q many t _ (HG.out.keep kw) (HT.out.blk.keep kw) (HT.out.tm.keep kw) HT.out.wf Hq.out).mono ?_
  rintro e w2 ⟨rfl, hK2⟩
  have k2 : Kp w w2 := kw.trans hK2
  have P2 := P1.keep hK2
  clear p0 p1
  have p0 : w2.cell? ⟨w.heap.size, 0, none⟩ = some (.int .u32 q.a) := P2.cell 0
  have p1 : w2.cell? ⟨w.heap.size, 1, none⟩ = some (.int .i64 q.l) := P2.cell 1
  have T2 := HT.out.keep k2
  have hc := place_cell (q := q) (A := (tr, 0)) T2.tm (T2.blk.cell 0)
  have hs := look_TM (q := q) T2.tm
  rw [Hl.out] at hc hs
  have hc' : w2.cell? ⟨(Tr.place q (tr, 0) t).1, (Tr.place q (tr, 0) t).2, none⟩ = some (.pointer (some ⟨b, 0, none⟩)) := hc
  obtain ⟨N, _, _⟩ := hs
  have n0 : w2.cell? ⟨b, 0, none⟩ = some (.int .u32 q.a) := N.cell 0
  have n1 : w2.cell? ⟨b, 1, none⟩ = some (.int .i64 q.l) := N.cell 1
  have n2 : w2.cell? ⟨b, 2, none⟩ = some (.int .i64 u) := N.cell 2
  have n3 : w2.cell? ⟨b, 3, none⟩ = some (.bool true) := N.cell 3
  have z2 := N.frozen 2
  have z3 := N.frozen 3
  have m1 : w2.cell? ⟨tr, 1, none⟩ = some (.int .i64 many) := T2.blk.cell 1
  have zm := T2.blk.frozen 1
  have hbl : b ∈ t.bs := look_sub (q := q) (by rw [Hl.out]; simp [Tr.bs])
  have hbt : ¬ b = tr := fun e => HT.out.out (by rw [← e]; exact hbl)
  have hbt' : ¬ tr = b := fun e => hbt e.symm
  have hbw : b < w.heap.size := HT.out.tm.lt b hbl
  have hbw' : ¬ w.heap.size = b := by omega
  have htw : tr < w.heap.size := HT.out.blk.lt
  have htw' : ¬ w.heap.size = tr := by omega
  clear hc hK2
  go_wp2_with fail
  go_quiet (fail)
  go_wp2_with fail
  have hO : Only [b] w (((w2.drewN nq).setCell ⟨b, 2, none⟩ (.int .i64 0)).setCell ⟨b, 3, none⟩ (.bool false)) := ((Only.of_kp (k2.drewN nq)).setCell (.inl (by simp)) _).setCell (.inl (by simp)) _
  obtain ⟨r1, r2, r3, r4⟩ := set_put (v := 0) (h := false) HT.out Hq.out Hl.out hO (((N.drewN nq).set_ 2 _).set_ 3 _)
  have r5 := r1.many_ (many - 1)
  have hO5 : Only (tr :: t.bs) w ((((w2.drewN nq).setCell ⟨b, 2, none⟩ (.int .i64 0)).setCell ⟨b, 3, none⟩ (.bool false)).setCell ⟨tr, 1, none⟩ (.int .i64 (many - 1))) :=
    (⟨r2.os, r2.tape, r2.output, r2.size, fun k hk hn => r2.block k hk (fun h => hn (List.mem_cons.2 (.inr h)))⟩ : Only (tr :: t.bs) w _).setCell (.inl (by simp)) _
  have U5 : Turned w _ tr t (setT q 0 false t) (many - 1) := ⟨r5, hO5, fun c hc => .inl (r3 c hc)⟩
  refine (tidy_any tr q (many - 1) (setT q 0 false t) _ (HG.out.only hO5 HGn.out) r5 Hq.out).mono ?_
  rintro e w6 ⟨rfl, U6⟩
  have U := Lib.hid (U5.trans U6)
  have H4 := Lib.hid r4
  clear r1 r2 r3 r4 r5 hO hO5 U5 U6
  go_wp2_with fail
  refine jump_ret ?_
  refine bodyPost_ret (v := .tuple #[.int .i64 u, .bool true, .int .i64 0]) (by simp [results, Tryd.results25, go_sem]) rfl ⟨rfl, _, U.out, fun r => ?_⟩
  rw [tidy_rows, H4.out]
  simp

set_option maxRecDepth 100000 in
set_option maxHeartbeats 2000000 in
theorem take_not (tr : Nat) (q : Pn) (many : Int) (t : Tr) (w : World) (hG : RelsAt w) (hT : TrieM w tr t many) (hq : q.ok) (hno : ∀ u, (q, u) ∉ t.rows) :
    Calls Tryd.prog 25 #[.pointer (some ⟨tr, 0, none⟩), .agg #[.int .u32 q.a, .int .i64 q.l]] w fun e w' => e = .returned (.tuple #[.int .i64 0, .bool false, .int .i64 0]) ∧ Kp w w' := by
  have Hq := Lib.hid hq
  have Hck := Lib.hid (show checkP q.pi = 0 by simp [checkP, pi_ok hq])
  have HT := Lib.hid hT
  have HG := Lib.hid hG
  have Hno := Lib.hid hno
  have HT1 := Lib.hid (hT.blk.alloc (.cells #[.int .u32 q.a, .int .i64 q.l] 29))
  have hpn := ptr_ne_nil
  have hpe := ptr_eq_nil
  have ht1 := pfx_eq_t
  clear hT hq hG hno
  go_enter Tryd.func25, Tryd.ntmps25
  go_wp2_with fail
  refine wp_scope_fwd 0 rfl ?_
  go_wp2_with fail
  refine (none_any tr _ many _ HT1.out).mono ?_
  rintro e w' ⟨rfl, rfl⟩
  go_wp2_with fail
  refine (check_any q.pi _ Hq.out.1).mono ?_
  rintro e w1 ⟨rfl, hK1⟩
  rw [Hck.out]
  have kw : Kp w w1 := ((Kp.refl _).alloc _).trans hK1
  have P1 : Blk w1 w.heap.size 29 #[.int .u32 q.a, .int .i64 q.l] := (Blk.new w _ _).keep hK1
  clear hK1
  have p0 : w1.cell? ⟨w.heap.size, 0, none⟩ = some (.int .u32 q.a) := P1.cell 0
  have p1 : w1.cell? ⟨w.heap.size, 1, none⟩ = some (.int .i64 q.l) := P1.cell 1
  go_wp2_with fail
  refine (place_any tr q many t _ (HG.out.keep kw) (HT.out.blk.keep kw) (HT.out.tm.keep kw) HT.out.wf Hq.out).mono ?_
  rintro e w2 ⟨rfl, hK2⟩
  have k2 : Kp w w2 := kw.trans hK2
  have P2 := P1.keep hK2
  clear p0 p1
  have p0 : w2.cell? ⟨w.heap.size, 0, none⟩ = some (.int .u32 q.a) := P2.cell 0
  have p1 : w2.cell? ⟨w.heap.size, 1, none⟩ = some (.int .i64 q.l) := P2.cell 1
  have T2 := HT.out.keep k2
  have hc := place_cell (q := q) (A := (tr, 0)) T2.tm (T2.blk.cell 0)
  have hs := look_TM (q := q) T2.tm
  have hx := fun b p v h x y => no_look (b := b) (p := p) (v := v) (h := h) (x := x) (y := y) Hq.out HT.out.wf Hno.out
  have Hx := Lib.hid hx; clear hx
  clear hK2
  obtain ⟨S, hS⟩ : ∃ S, t.look q = S := ⟨_, rfl⟩
  rw [hS] at hc hs
  have HS := Lib.hid hS; clear hS
  cases S with
  | nil =>
    have hc' : w2.cell? ⟨(Tr.place q (tr, 0) t).1, (Tr.place q (tr, 0) t).2, none⟩ = some (.pointer none) := hc
    clear hc hs
    go_wp2_with fail
    go_quiet (fail)
    go_wp2_with fail
    refine jump_ret ?_
    exact bodyPost_ret (v := .tuple #[.int .i64 0, .bool false, .int .i64 0]) (by simp [results, Tryd.results25, go_sem]) rfl ⟨rfl, k2.drewN _⟩
  | node b p u h x y =>
    have hc' : w2.cell? ⟨(Tr.place q (tr, 0) t).1, (Tr.place q (tr, 0) t).2, none⟩ = some (.pointer (some ⟨b, 0, none⟩)) := hc
    obtain ⟨N, _, _⟩ := hs
    have n0 : w2.cell? ⟨b, 0, none⟩ = some (.int .u32 p.a) := N.cell 0
    have n1 : w2.cell? ⟨b, 1, none⟩ = some (.int .i64 p.l) := N.cell 1
    have n3 : w2.cell? ⟨b, 3, none⟩ = some (.bool h) := N.cell 3
    clear hc
    by_cases e : p = q
    · have hf := Hx.out b p u h x y HS.out e
      subst e hf
      go_wp2_with fail
      go_quiet (fail)
      go_wp2_with fail
      refine jump_ret ?_
      exact bodyPost_ret (v := .tuple #[.int .i64 0, .bool false, .int .i64 0]) (by simp [results, Tryd.results25, go_sem]) rfl ⟨rfl, k2.drewN _⟩
    · have hne := fun w => pfx_eq_f w e
      have He := Lib.hid e; clear e
      go_wp2_with fail
      go_quiet (fail)
      go_wp2_with fail
      refine jump_ret ?_
      exact bodyPost_ret (v := .tuple #[.int .i64 0, .bool false, .int .i64 0]) (by simp [results, Tryd.results25, go_sem]) rfl ⟨rfl, k2.drewN _⟩
end Go.Proofs.YtfaiponmjjbgoaaDoor
