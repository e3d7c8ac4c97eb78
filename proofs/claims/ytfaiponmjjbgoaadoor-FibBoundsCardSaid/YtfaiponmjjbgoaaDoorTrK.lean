/- The trie's Put. -/
import Derived.Test.YtfaiponmjjbgoaaDoorTrJ
namespace Go.Proofs.YtfaiponmjjbgoaaDoor
open Go.RowKit
attribute [local go_sem] Oper.semAt_some

theorem place_blk {w : World} {q : Pn} : ∀ {t : Tr} {A : Nat × Nat}, TM w t → (∃ ty cs, Blk w A.1 ty cs ∧ cs[A.2]? = some t.ptr) → ∃ ty cs, Blk w (Tr.place q A t).1 ty cs ∧ cs[(Tr.place q A t).2]? = some (t.look q).ptr
  | .nil, A, _, h => h
  | .node b p v hh x y, A, ⟨h0, hx, hy⟩, h => by
    simp only [Tr.place, Tr.look]
    split
    · split
      · exact h
      · split
        · exact place_blk hx ⟨_, _, h0, rfl⟩
        · exact place_blk hy ⟨_, _, h0, rfl⟩
    · exact h
theorem place_out {q : Pn} {t : Tr} {tr : Nat} (hn : t.bs.Nodup) (ho : tr ∉ t.bs) : (Tr.place q (tr, 0) t).1 ∉ (t.look q).bs := by
  rcases place_in q t (tr, 0) with e | e
  · rw [e]; exact fun hc => ho (look_sub hc)
  · exact (beside_nd hn).2.2 _ e

/-- A trie that has turned: only its own blocks, and new ones. -/
structure Turned (w w' : World) (tr : Nat) (t t' : Tr) (many' : Int) : Prop where
  trie : TrieM w' tr t' many'
  only : Only (tr :: t.bs) w w'
  sub : ∀ b ∈ t'.bs, b ∈ t.bs ∨ w.heap.size ≤ b

theorem no_look {q : Pn} {t : Tr} (hq : q.ok) (ht : t.Wf) (hno : ∀ u, (q, u) ∉ t.rows) {b : Nat} {p : Pn} {v : Int} {h : Bool} {x y : Tr} (e : t.look q = .node b p v h x y) : p = q → h = false := fun e1 => by
  subst e1
  cases h with
  | false => rfl
  | true => exact absurd ((look_mem hq ht v).2 ⟨b, x, y, e⟩) (hno v)

set_option maxRecDepth 100000 in
set_option maxHeartbeats 2000000 in
theorem put_over (tr : Nat) (q : Pn) (v u many : Int) (t : Tr) (b : Nat) (x y : Tr) (w : World) (hG : RelsAt w) (hT : TrieM w tr t many) (hq : q.ok) (hl : t.look q = .node b q u true x y) :
    Calls Tryd.prog 24 #[.pointer (some ⟨tr, 0, none⟩), .agg #[.int .u32 q.a, .int .i64 q.l], .int .i64 v] w fun e w' => e = .returned (.tuple #[.int .i64 u, .bool true, .int .i64 0]) ∧ Turned w w' tr t (setT q v true t) many := by
  have Hq := Lib.hid hq
  have Hck := Lib.hid (show checkP q.pi = 0 by simp [checkP, pi_ok hq])
  have HT := Lib.hid hT
  have HG := Lib.hid hG
  have Hl := Lib.hid hl
  have HT1 := Lib.hid (hT.blk.alloc (.cells #[.int .u32 q.a, .int .i64 q.l] 29))
  have hpn := ptr_ne_nil
  have ht1 := pfx_eq_t
  clear hT hq hG hl
  go_enter Tryd.func24, Tryd.ntmps24
  go_wp2_with fail
  refine wp_scope_fwd 0 rfl ?_
  go_wp2_with fail
  refine (none_any tr _ many _ HT1.out).mono ?_
  rintro e w' ⟨rfl, rfl⟩
  go_wp2_with fail
  refine (check_any q.pi _ Hq.out.1).mono ?_
  rintro e w1 ⟨rfl, hK1⟩
  rw [Hck.out]
  have kw : Kp w w1 := ((Kp.refl _).alloc _).trans hK1
  have P1 : Blk w1 w.heap.size 29 #[.int .u32 q.a, .int .i64 q.l] := (Blk.new w _ _).keep hK1
  clear hK1
  have p0 : w1.cell? ⟨w.heap.size, 0, none⟩ = some (.int .u32 q.a) := P1.cell 0
  have p1 : w1.cell? ⟨w.heap.size, 1, none⟩ = some (.int .i64 q.l) := P1.cell 1
  go_wp2_with fail
  refine (place_any tr q many t _ (HG.out.keep kw) (HT.out.blk.keep kw) (HT.out.tm.keep kw) HT.out.wf Hq.out).mono ?_
  rintro e w2 ⟨rfl, hK2⟩
  have k2 : Kp w w2 := kw.trans hK2
  have P2 := P1.keep hK2
  clear p0 p1
  have p0 : w2.cell? ⟨w.heap.size, 0, none⟩ = some (.int .u32 q.a) := P2.cell 0
  have p1 : w2.cell? ⟨w.heap.size, 1, none⟩ = some (.int .i64 q.l) := P2.cell 1
  have T2 := HT.out.keep k2
  have hc := place_cell (q := q) (A := (tr, 0)) T2.tm (T2.blk.cell 0)
  have hs := look_TM (q := q) T2.tm
  rw [Hl.out] at hc hs
  have hc' : w2.cell? ⟨(Tr.place q (tr, 0) t).1, (Tr.place q (tr, 0) t).2, none⟩ = some (.pointer (some ⟨b, 0, none⟩)) := hc
  obtain ⟨N, _, _⟩ := hs
  have n0 : w2.cell? ⟨b, 0, none⟩ = some (.int .u32 q.a) := N.cell 0
  have n1 : w2.cell? ⟨b, 1, none⟩ = some (.int .i64 q.l) := N.cell 1
  have n2 : w2.cell? ⟨b, 2, none⟩ = some (.int .i64 u) := N.cell 2
  have n3 : w2.cell? ⟨b, 3, none⟩ = some (.bool true) := N.cell 3
  have z2 := N.frozen 2
  clear hc hK2
  go_wp2_with fail
  go_quiet (fail)
  go_wp2_with fail
  refine jump_ret ?_
  have hO : Only [b] w ((w2.drewN nq).setCell ⟨b, 2, none⟩ (.int .i64 v)) := (Only.of_kp (k2.drewN nq)).setCell (.inl (by simp)) _
  obtain ⟨r1, r2, r3, r4⟩ := set_put (v := v) (h := true) HT.out Hq.out Hl.out hO ((N.drewN nq).set_ 2 _)
  refine bodyPost_ret (v := .tuple #[.int .i64 u, .bool true, .int .i64 0]) (by simp [results, Tryd.results24, go_sem]) rfl ⟨rfl, r1, ?_, fun c hc => .inl (r3 c hc)⟩
  exact ⟨r2.os, r2.tape, r2.output, r2.size, fun k hk hn => r2.block k hk (fun h => hn (List.mem_cons.2 (.inr h)))⟩

def NewPost (w : World) (tr : Nat) (q : Pn) (v many : Int) (t : Tr) (w' : World) : Prop := ∃ t', Turned w w' tr t t' (many + 1) ∧ ∀ r : Pn × Int, r ∈ t'.rows ↔ r = (q, v) ∨ r ∈ t.rows
def FullOr (w : World) (tr : Nat) (q : Pn) (v many : Int) (t : Tr) (e : Ending) (w' : World) : Prop :=
  (512 ≤ many ∧ e = .returned (.tuple #[.int .i64 0, .bool false, .int .i64 3]) ∧ Kp w w') ∨ (many < 512 ∧ e = .returned (.tuple #[.int .i64 0, .bool false, .int .i64 0]) ∧ NewPost w tr q v many t w')

set_option maxRecDepth 100000 in
set_option maxHeartbeats 2000000 in
theorem put_new (tr : Nat) (q : Pn) (v many : Int) (t : Tr) (w : World) (hG : RelsAt w) (hT : TrieM w tr t many) (hq : q.ok) (hno : ∀ u, (q, u) ∉ t.rows) (hm0 : 0 ≤ many) (hm1 : many ≤ 1000000) :
    Calls Tryd.prog 24 #[.pointer (some ⟨tr, 0, none⟩), .agg #[.int .u32 q.a, .int .i64 q.l], .int .i64 v] w (FullOr w tr q v many t) := by
  have Hq := Lib.hid hq
  have Hck := Lib.hid (show checkP q.pi = 0 by simp [checkP, pi_ok hq])
  have HT := Lib.hid hT
  have HG := Lib.hid hG
  have Hno := Lib.hid hno
  have HT1 := Lib.hid (hT.blk.alloc (.cells #[.int .u32 q.a, .int .i64 q.l] 29))
  have hpn := ptr_ne_nil
  have hpe := ptr_eq_nil
  have ht1 := pfx_eq_t
  clear hT hq hG hno
  go_enter Tryd.func24, Tryd.ntmps24
  go_wp2_with fail
  refine wp_scope_fwd 0 rfl ?_
  go_wp2_with fail
  refine (none_any tr _ many _ HT1.out).mono ?_
  rintro e w' ⟨rfl, rfl⟩
  go_wp2_with fail
  refine (check_any q.pi _ Hq.out.1).mono ?_
  rintro e w1 ⟨rfl, hK1⟩
  rw [Hck.out]
  have kw : Kp w w1 := ((Kp.refl _).alloc _).trans hK1
  have P1 : Blk w1 w.heap.size 29 #[.int .u32 q.a, .int .i64 q.l] := (Blk.new w _ _).keep hK1
  clear hK1
  have p0 : w1.cell? ⟨w.heap.size, 0, none⟩ = some (.int .u32 q.a) := P1.cell 0
  have p1 : w1.cell? ⟨w.heap.size, 1, none⟩ = some (.int .i64 q.l) := P1.cell 1
  go_wp2_with fail
  refine (place_any tr q many t _ (HG.out.keep kw) (HT.out.blk.keep kw) (HT.out.tm.keep kw) HT.out.wf Hq.out).mono ?_
  rintro e w2 ⟨rfl, hK2⟩
  have k2 : Kp w w2 := kw.trans hK2
  have P2 := P1.keep hK2
  clear p0 p1
  have p0 : w2.cell? ⟨w.heap.size, 0, none⟩ = some (.int .u32 q.a) := P2.cell 0
  have p1 : w2.cell? ⟨w.heap.size, 1, none⟩ = some (.int .i64 q.l) := P2.cell 1
  have T2 := HT.out.keep k2
  have hc := place_cell (q := q) (A := (tr, 0)) T2.tm (T2.blk.cell 0)
  have hs := look_TM (q := q) T2.tm
  have hx := fun b p v h x y => no_look (b := b) (p := p) (v := v) (h := h) (x := x) (y := y) Hq.out HT.out.wf Hno.out
  have Hx := Lib.hid hx; clear hx
  clear hK2
  obtain ⟨S, hS⟩ : ∃ S, t.look q = S := ⟨_, rfl⟩
  rw [hS] at hc hs
  have HS := Lib.hid hS; clear hS
  go_wp2_with fail
  go_upto_region 8 with (fail)
  go_cut [37] from 22 to 37 (fun s wx => s = .bool false ∧ Kp w2 wx)
  case first =>
    cases S with
    | nil =>
      simp only [Tr.ptr]
      go_quiet (fail)
      go_wp2_with fail
      go_meet
      case rel => exact ⟨rfl, (Kp.refl _).drewN _⟩
    | node b p u h x y =>
      obtain ⟨N, _, _⟩ := hs
      have n0 : w2.cell? ⟨b, 0, none⟩ = some (.int .u32 p.a) := N.cell 0
      have n1 : w2.cell? ⟨b, 1, none⟩ = some (.int .i64 p.l) := N.cell 1
      have n3 : w2.cell? ⟨b, 3, none⟩ = some (.bool h) := N.cell 3
      simp only [Tr.ptr]
      by_cases e : p = q
      · have hf := Hx.out b p u h x y HS.out e
        subst e hf
        go_quiet (fail)
        go_wp2_with fail
        go_meet
        case rel => exact ⟨rfl, (Kp.refl _).drewN _⟩
      · have hne := fun w => pfx_eq_f w e
        have He := Lib.hid e; clear e
        go_quiet (fail)
        go_wp2_with fail
        go_meet
        case rel => exact ⟨rfl, (Kp.refl _).drewN _⟩
  case rest =>
    obtain ⟨rfl, hKc⟩ := hcut
    have k3 := k2.trans hKc
    have T3 := Lib.hid (HT.out.keep k3)
    have P3 := P2.keep hKc
    clear p0 p1 hc hs
    have p0 : wc.cell? ⟨w.heap.size, 0, none⟩ = some (.int .u32 q.a) := P3.cell 0
    have p1 : wc.cell? ⟨w.heap.size, 1, none⟩ = some (.int .i64 q.l) := P3.cell 1
    have m1 : wc.cell? ⟨tr, 1, none⟩ = some (.int .i64 many) := T3.out.blk.cell 1
    by_cases hf : 512 ≤ many
    · have hd : decide (512 ≤ many) = true := by simpa using hf
      go_wp2_with fail
      go_step3
      refine ⟨rfl, ?_⟩
      go_wp2_with fail
      refine noGoto_ret ?_
      refine bodyPost_ret (v := .tuple #[.int .i64 0, .bool false, .int .i64 3]) (by simp [results, Tryd.results24, go_sem]) rfl (.inl ⟨hf, rfl, k3⟩)
    · have hd : decide (512 ≤ many) = false := by simpa using hf
      obtain ⟨ty, cs, hPB, hPC⟩ := place_blk (q := q) (A := (tr, 0)) T3.out.tm ⟨_, _, T3.out.blk, rfl⟩
      have Hcs := Lib.hid hPC; clear hPC
      clear hd
      have hd : decide (512 ≤ many) = false := by simpa using hf
      go_wp2_with fail
      refine (hang_any _ _ ty cs q v (t.look q) _ hPB Hcs.out (look_TM T3.out.tm) (place_out T3.out.nd T3.out.out) (beside_nd T3.out.nd).2.1 Hq.out (look_wf T3.out.wf) (fun b p u h x y e => look_kind Hq.out e)).mono ?_
      rintro e w4 ⟨rfl, hP⟩
      obtain ⟨t', hT', hO, hsub, hr⟩ := hang_put T3.out Hq.out Hno.out hP
      have HT' := Lib.hid hT'; clear hT'
      have hr' := Lib.hid hr; clear hr
      have m1' : w4.cell? ⟨tr, 1, none⟩ = some (.int .i64 many) := HT'.out.blk.cell 1
      have zm := HT'.out.blk.frozen 1
      clear m1 p0 p1
      go_wp2_with fail
      refine jump_ret ?_
      refine bodyPost_ret (v := .tuple #[.int .i64 0, .bool false, .int .i64 0]) (by simp [results, Tryd.results24, go_sem]) rfl (.inr ⟨by omega, rfl, t', ⟨?_, ?_, ?_⟩, hr'.out⟩)
      · have hset := (Only.refl [tr] w4).setCell (p := ⟨tr, 1, none⟩) (.inl (by simp)) (.int .i64 (many + 1))
        exact ⟨HT'.out.blk.set_ 1 _, HT'.out.tm.only hset (fun c hc => by simp; intro e; subst e; exact HT'.out.out hc), HT'.out.wf, HT'.out.nd, HT'.out.out⟩
      · exact ((Only.of_kp k3).trans ⟨hO.os, hO.tape, hO.output, hO.size, hO.block⟩).setCell (.inl (by simp)) _
      · intro c hc
        rcases hsub c hc with e | e
        · exact .inl e
        · exact .inr (Nat.le_trans k3.size e)
end Go.Proofs.YtfaiponmjjbgoaaDoor
