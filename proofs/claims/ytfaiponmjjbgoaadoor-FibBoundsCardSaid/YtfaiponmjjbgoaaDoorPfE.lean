/- prefix.Common. -/
import Derived.Test.YtfaiponmjjbgoaaDoorPfD
import Derived.Test.YtfaiponmjjbgoaaDoorRange3
import Derived.BigGuardIn
namespace Go.Proofs.YtfaiponmjjbgoaaDoor
open Go.RowKit
attribute [local go_sem] Oper.semAt_some

def CmI (w0 : World) (lo : Nat) (p q : Pn) (k : Nat) (W : World) : Prop :=
  Only [lo] w0 W ∧ (∀ j, j < k → (p.take j).holds q) ∧ Blk W lo 29 #[.int .u32 (p.take (k - 1)).a, .int .i64 (p.take (k - 1)).l]
def CmZ (w0 : World) (lo : Nat) (c : Pn) (W : World) : Prop := Only [lo] w0 W ∧ Blk W lo 29 #[.int .u32 c.a, .int .i64 c.l]

set_option maxRecDepth 100000 in
set_option maxHeartbeats 2000000 in
theorem common_any (p q : Pn) (w : World) (hp : p.ok) (hq : q.ok) :
    Calls Tryd.prog 51 #[.agg #[.int .u32 p.a, .int .i64 p.l], .agg #[.int .u32 q.a, .int .i64 q.l]] w fun e w' => e = .returned (.tuple #[.agg #[.int .u32 (p.com q).a, .int .i64 (p.com q).l], .int .i64 0]) ∧ Kp w w' := by
  have Hp := Lib.hid hp
  have Hq := Lib.hid hq
  have hpl := hp.2.1
  have hql := hq.2.1
  clear hp hq
  obtain ⟨W, hW, kW, B0, B1, B2, B3, hsz⟩ : ∃ W, (((w.alloc (.cells #[.int .u32 p.a, .int .i64 p.l] 29)).alloc (.cells #[.int .u32 q.a, .int .i64 q.l] 29)).alloc (.cells #[.int .u32 0, .int .i64 0] 29)).alloc (.cells #[.int .u32 0, .int .i64 0] 29) = W ∧ Kp w W ∧
      Blk W w.heap.size 29 #[.int .u32 p.a, .int .i64 p.l] ∧ Blk W (w.heap.size + 1) 29 #[.int .u32 q.a, .int .i64 q.l] ∧ Blk W (w.heap.size + 1 + 1) 29 #[.int .u32 0, .int .i64 0] ∧ Blk W (w.heap.size + 1 + 1 + 1) 29 #[.int .u32 0, .int .i64 0] ∧ Hid (W.heap.size = w.heap.size + 4) :=
    ⟨_, rfl, ((((Kp.refl _).alloc _).alloc _).alloc _).alloc _, (((Blk.new w _ _).alloc _).alloc _).alloc _, ((Blk.new1 w _ _ _).alloc _).alloc _,
      by have := Blk.new1 (w.alloc (.cells #[.int .u32 p.a, .int .i64 p.l] 29)) (.cells #[.int .u32 q.a, .int .i64 q.l] 29) 29 #[.int .u32 0, .int .i64 0]; rw [World.size_alloc] at this; exact this.alloc _,
      by have := Blk.new1 ((w.alloc (.cells #[.int .u32 p.a, .int .i64 p.l] 29)).alloc (.cells #[.int .u32 q.a, .int .i64 q.l] 29)) (.cells #[.int .u32 0, .int .i64 0] 29) 29 #[.int .u32 0, .int .i64 0]; rw [World.size_alloc, World.size_alloc] at this; exact this,
      Lib.hid (by simp)⟩
  have p0 : W.cell? ⟨w.heap.size, 0, none⟩ = some (.int .u32 p.a) := B0.cell 0
  have p1 : W.cell? ⟨w.heap.size, 1, none⟩ = some (.int .i64 p.l) := B0.cell 1
  have q0 : W.cell? ⟨w.heap.size + 1, 0, none⟩ = some (.int .u32 q.a) := B1.cell 0
  have q1 : W.cell? ⟨w.heap.size + 1, 1, none⟩ = some (.int .i64 q.l) := B1.cell 1
  have hrd : Rd (W.alloc (.cells #[.int .u32 p.a, .int .i64 p.l, .int .u32 q.a, .int .i64 q.l] 29)) 2 PI.enc (some ⟨W.heap.size, 0, none⟩) [p.pi, q.pi] := Rd.of_blk (Blk.new W _ _) (by omega) PI.len (by unfold maxLen; simp) rfl
  have Hrd := Lib.hid hrd; clear hrd
  refine calls_of_wp_marks Tryd.func51 rfl ?_; simp only [Tryd.ntmps51, List.size_toArray, List.length_cons, List.length_nil, Nat.reduceAdd, Nat.reduceSub, Array.replicate_succ, Array.replicate_zero, List.push_toArray, List.append_toArray, List.nil_append, List.cons_append]
  go_wp2_with fail
  refine wp_scope_fwd 0 rfl ?_
  go_wp2_with fail
  refine (mayBe_any _ 2 [p.pi, q.pi] _ Hrd.out (by simp) (fun k hk => by
    have hk2 : k = 0 ∨ k = 1 := by simp at hk; omega
    rcases hk2 with rfl | rfl
    · exact Hp.out.1
    · exact Hq.out.1)).mono ?_
  rintro e w1 ⟨rfl, hK1⟩
  rw [show [p.pi, q.pi].all PI.okB = true by simp [pi_ok Hp.out, pi_ok Hq.out]]
  have k1 : Kp W w1 := ((Kp.refl _).alloc _).trans hK1
  have C0 := B0.keep k1
  clear p0 p1 q0 q1 hW hK1 Hrd
  have p0 : w1.cell? ⟨w.heap.size, 0, none⟩ = some (.int .u32 p.a) := C0.cell 0
  have p1 : w1.cell? ⟨w.heap.size, 1, none⟩ = some (.int .i64 p.l) := C0.cell 1
  go_wp2_with fail
  go_step3
  go_wp2_with fail
  refine (around_any p _).mono ?_
  rintro e w2 ⟨rfl, A2, hK2⟩
  have k2 : Kp W w2 := k1.trans hK2
  have D1 := B1.keep k2
  have D2 := B2.keep k2
  have D3 := B3.keep k2
  have kw := kW.trans k2
  have hA := A2.lt
  have hs1 := k1.size
  have hsW := hsz.out
  clear hK2 C0 p0 p1 B0 B1 B2 B3
  have lift : Hid (∀ V V', Only [w.heap.size + 1 + 1 + 1] w2 V → Only [w2.heap.size, w2.heap.size + 1] V V' → Only [w.heap.size + 1 + 1 + 1] w2 V') := fun V V' h1 hO =>
    ⟨hO.os.trans h1.os, hO.tape.trans h1.tape, hO.output.trans h1.output, Nat.le_trans h1.size hO.size, fun i hi hn => (hO.block i (Nat.lt_of_lt_of_le hi h1.size) (by simp; omega)).trans (h1.block i hi hn)⟩
  have hlo : w.heap.size + 1 + 1 + 1 < w1.heap.size := by omega
  have Hs := Lib.hid hsW; clear hsW
  go_wp2_with fail
  refine wp_range_join_a (N := p.l + 1) rfl call_around1 (around1_iter w1.heap.size p Hp.out) (fun _ _ => rfl)
    (CmI w2 (w.heap.size + 1 + 1 + 1) p q) (fun _ V => CmZ w2 (w.heap.size + 1 + 1 + 1) (p.com q) V) (CmZ w2 (w.heap.size + 1 + 1 + 1) (p.com q)) ?_ ?_ ?_ ?_ ?_ (fun _ _ _ _ h => h) ?_ ?_
  · rintro k V V' ⟨h1, h2, B⟩ hO
    exact ⟨lift.out V V' h1 hO, h2, B.only hO (by simp; omega)⟩
  · rintro k V V' ⟨h1, B⟩ hO
    exact ⟨lift.out V V' h1 hO, B.only hO (by simp; omega)⟩
  · rintro k V ⟨h1, _, _⟩
    exact A2.only h1 (by simp; omega)
  · exact ⟨Only.refl _ _, fun j hj => by omega, by rw [show 0 - 1 = 0 from rfl, take_zero Hp.out]; exact D3⟩
  · rintro V ⟨h1, h2, B⟩
    exact ⟨h1, by rw [com_whole (h2 p.l (by omega))]; exact B⟩
  · intro l k V hk ⟨h1, h2, B⟩ hV
    gi_wp2_with fail
    refine ⟨⟨Below.heap_alloc V _ _ (by omega), Below.heap_alloc V _ _ (by omega)⟩, fun U => Only [w.heap.size + 1 + 1 + 1] w2 U ∧ Blk U (w.heap.size + 1 + 1 + 1) 29 #[.int .u32 (p.take (k - 1)).a, .int .i64 (p.take (k - 1)).l] ∧ Blk U V.heap.size 29 #[.int .u32 (cut p.a k), .int .i64 k], ⟨h1.alloc _, B.alloc _, Blk.new V _ _⟩, ?_, ?_⟩
    · rintro U U' ⟨j1, j2, j3⟩ hO
      exact ⟨lift.out U U' j1 hO, j2.only hO (by simp; omega), j3.only hO (by simp; omega)⟩
    rintro U ⟨j1, j2, j3⟩ hU
    have E1 := D1.only j1 (by simp)
    have u0 : U.cell? ⟨V.heap.size, 0, none⟩ = some (.int .u32 (cut p.a k)) := j3.cell 0
    have u1 : U.cell? ⟨V.heap.size, 1, none⟩ = some (.int .i64 k) := j3.cell 1
    have q0 : U.cell? ⟨w.heap.size + 1, 0, none⟩ = some (.int .u32 q.a) := E1.cell 0
    have q1 : U.cell? ⟨w.heap.size + 1, 1, none⟩ = some (.int .i64 q.l) := E1.cell 1
    have H2 := Lib.hid h2; clear h2
    have hok := Lib.hid (take_ok Hp.out (show k ≤ p.l by omega))
    gi_wp2_with fail
    refine ⟨trivial, rfl, calls_round l ((holds_any (p.take k) q _ hok.out.1 Hq.out.1 hok.out.2.1 hql).mono ?_)⟩
    rintro e U2 ⟨rfl, hKU⟩
    have j1' : Only [w.heap.size + 1 + 1 + 1] w2 U2 := j1.trans (Only.of_kp hKU)
    have kept : Kept2 w2 U U2 := ⟨hKU.heap (by omega), hKU.heap (by omega)⟩
    by_cases hh : (p.take k).holds q
    · rw [show holdsI (p.take k) q = 1 by simp [holdsI, hh]]
      have F3 := j3.keep hKU
      have F2 := j2.keep hKU
      clear u0 u1 q0 q1
      have u0 : U2.cell? ⟨V.heap.size, 0, none⟩ = some (.int .u32 (cut p.a k)) := F3.cell 0
      have u1 : U2.cell? ⟨V.heap.size, 1, none⟩ = some (.int .i64 k) := F3.cell 1
      have x0 : U2.cell? ⟨w.heap.size + 1 + 1 + 1, 0, none⟩ = some (.int .u32 (p.take (k - 1)).a) := F2.cell 0
      have x1 : U2.cell? ⟨w.heap.size + 1 + 1 + 1, 1, none⟩ = some (.int .i64 (p.take (k - 1)).l) := F2.cell 1
      have z0 := F2.frozen 0
      have z1 := F2.frozen 1
      have Hh := Lib.hid hh; clear hh
      gi_wp2_with fail
      refine ⟨⟨((Below.heap_setCell _ _ _ _ (by simp; omega)).trans (Below.heap_setCell _ _ _ _ (by simp; omega))).trans kept.1, ((Below.heap_setCell _ _ _ _ (by simp; omega)).trans (Below.heap_setCell _ _ _ _ (by simp; omega))).trans kept.2⟩, (j1'.setCell (.inl (by simp)) _).setCell (.inl (by simp)) _, fun j hj => ?_, ?_⟩
      · by_cases e : j = k
        · subst e; exact Hh.out
        · exact H2.out j (by omega)
      · rw [Nat.add_sub_cancel]; exact (F2.set_ 0 _).set_ 1 _
    · rw [show holdsI (p.take k) q = 0 by simp [holdsI, hh]]
      have F2 := j2.keep hKU
      have Hh := Lib.hid hh; clear hh
      gi_wp2_with fail
      have hk1 : 0 < k := by
        rcases Nat.eq_zero_or_pos k with rfl | h
        · exact absurd (take_zero_holds Hp.out Hq.out) Hh.out
        · exact h
      exact ⟨kept, rfl, j1', by rw [com_break Hp.out Hq.out (show k ≤ p.l by omega) (H2.out (k - 1) (by omega)) Hh.out]; exact F2⟩
  · rintro V ⟨h1, B⟩ hd
    have c0 : V.cell? ⟨w.heap.size + 1 + 1 + 1, 0, none⟩ = some (.int .u32 (p.com q).a) := B.cell 0
    have c1 : V.cell? ⟨w.heap.size + 1 + 1 + 1, 1, none⟩ = some (.int .i64 (p.com q).l) := B.cell 1
    have D2' := D2.only h1 (by simp)
    have z0 := D2'.frozen 0
    have z1 := D2'.frozen 1
    have y0 : V.cell? ⟨w.heap.size + 1 + 1, 0, none⟩ = some (.int .u32 0) := D2'.cell 0
    have y1 : V.cell? ⟨w.heap.size + 1 + 1, 1, none⟩ = some (.int .i64 0) := D2'.cell 1
    go_wp2_with fail
    have R := (D2'.set_ 0 (.int .u32 (p.com q).a)).set_ 1 (.int .i64 (p.com q).l)
    have hd' : ((V.setCell ⟨w.heap.size + 1 + 1, 0, none⟩ (.int .u32 (p.com q).a)).setCell ⟨w.heap.size + 1 + 1, 1, none⟩ (.int .i64 (p.com q).l)).heap[w2.heap.size]? = some (.deferred (some [])) :=
      ((Below.heap_setCell _ _ _ _ (by simp; omega)).trans (Below.heap_setCell _ _ _ _ (by simp; omega))).trans hd
    have k3 : Kp w ((V.setCell ⟨w.heap.size + 1 + 1, 0, none⟩ (.int .u32 (p.com q).a)).setCell ⟨w.heap.size + 1 + 1, 1, none⟩ (.int .i64 (p.com q).l)) :=
      (((Only.refl [w.heap.size + 1 + 1] V).setCell (.inl (by simp)) _).setCell (.inl (by simp)) _).kp (h1.kp kw (by simp; omega)) (by simp; omega)
    refine jump_ret ?_
    refine takes_one hd' (fun V' hO => ⟨.tuple #[.agg #[.int .u32 (p.com q).a, .int .i64 (p.com q).l], .int .i64 0], ?_, rfl, hO.kp k3 (by simp; omega)⟩)
    have r0 : V'.cell? ⟨w.heap.size + 1 + 1, 0, none⟩ = some (.int .u32 (p.com q).a) := (R.only hO (by simp; omega)).cell 0
    have r1 : V'.cell? ⟨w.heap.size + 1 + 1, 1, none⟩ = some (.int .i64 (p.com q).l) := (R.only hO (by simp; omega)).cell 1
    simp [results, Tryd.results51, go_sem, r0, r1]
end Go.Proofs.YtfaiponmjjbgoaaDoor
