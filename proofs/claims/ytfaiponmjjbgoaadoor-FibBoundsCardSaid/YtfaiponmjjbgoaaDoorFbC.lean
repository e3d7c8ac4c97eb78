/- fib's put: a hop in the place of its prefix's. -/
import Derived.Test.YtfaiponmjjbgoaaDoorFbB
namespace Go.Proofs.YtfaiponmjjbgoaaDoor
open Go.RowKit
attribute [local go_sem] Oper.semAt_some

def PutHad (w : World) (A : Option Addr) (k : Nat) (h : Hp) (e : Ending) (w' : World) : Prop := e = .returned (.int .i64 0) ∧ ∃ g, A = some ⟨g, 0, none⟩ ∧ ∃ W, Kp w W ∧ w' = set6 W g (k * 6) h
set_option maxRecDepth 100000 in
set_option maxHeartbeats 2000000 in
theorem fput_had (f tr : Nat) (t : Tr) (A : Option Addr) (c : Nat) (H : List Hp) (h : Hp) (k : Nat) (w : World) (hG : RelsAt w) (m : FibM w f tr t A c H) (hk : k < H.length) (hgot : (t.look h.p).got h.p = ((k : Int), true)) (hq : h.p.ok) :
    Calls Tryd.prog 17 #[.pointer (some ⟨f, 0, none⟩), .agg #[.int .u32 h.p.a, .int .i64 h.p.l, .bool h.d, .int .i64 h.f, .int .u32 h.x, .int .i64 h.m]] w (PutHad w A k h) := by
  have HM := Lib.hid m
  have HG := Lib.hid hG
  have Hq := Lib.hid hq
  have Hg := Lib.hid hgot
  have hlen := m.room
  obtain ⟨W, hW, kW, B0⟩ : ∃ W, w.alloc (.cells #[.int .u32 h.p.a, .int .i64 h.p.l, .bool h.d, .int .i64 h.f, .int .u32 h.x, .int .i64 h.m] 41) = W ∧ Kp w W ∧ Blk W w.heap.size 41 #[.int .u32 h.p.a, .int .i64 h.p.l, .bool h.d, .int .i64 h.f, .int .u32 h.x, .int .i64 h.m] := ⟨_, rfl, (Kp.refl _).alloc _, Blk.new w _ _⟩
  clear m hG hq hgot
  go_enter Tryd.func17, Tryd.ntmps17
  go_wp2_with fail
  have HM1 := Lib.hid (HM.out.keep kW)
  have f0 : W.cell? ⟨f, 0, none⟩ = some (.pointer (some ⟨tr, 0, none⟩)) := HM1.out.blk.cell 0
  have b0 : W.cell? ⟨w.heap.size, 0, none⟩ = some (.int .u32 h.p.a) := B0.cell 0
  have b1 : W.cell? ⟨w.heap.size, 1, none⟩ = some (.int .i64 h.p.l) := B0.cell 1
  go_region_held3 (fun w' => w'.cell? ⟨f, 0, none⟩ = some (.pointer (some ⟨tr, 0, none⟩)) ∧ w'.cell? ⟨w.heap.size, 0, none⟩ = some (.int .u32 h.p.a) ∧ w'.cell? ⟨w.heap.size, 1, none⟩ = some (.int .i64 h.p.l))
    (first | exact ⟨Ka.cell f0, Ka.cell b0, Ka.cell b1⟩ | go_keep)
    (first | (go_at_call 23; refine (kplace_any tr h.p _ t _ (HG.out.keep kW.drew) (HM1.out.trie.keep (Kp.refl W).drew) Hq.out).mono ?_; rintro e wa ⟨rfl, hKa⟩; rw [Hg.out]; have Ka : Kp W wa := (Kp.refl W).drew.trans hKa))
  have k2 := kW.trans Ka
  have B2 := B0.keep Ka
  clear f0 b0 b1 HM1 B0 hKa
  go_wp2_with fail
  refine wp_tail 7 (by kernel_rfl) (by kernel_rfl) (fun V2 hV2 => ?_)
  have k3 : Kp w V2 := by rw [hV2]; exact k2.drew
  have B3 := B2.drew; rw [← hV2] at B3
  have M3 := Lib.hid (HM.out.keep k3)
  clear hV2 k2 B2
  have hown := M3.out.own
  obtain ⟨g, cur, hA, hB, hc, _⟩ := hown.some_ (by omega)
  subst hA
  have f1 : V2.cell? ⟨f, 1, none⟩ = some (.slice (some ⟨g, 0, none⟩) H.length c) := M3.out.blk.cell 1
  have b0 : V2.cell? ⟨w.heap.size, 0, none⟩ = some (.int .u32 h.p.a) := B3.cell 0
  have b1 : V2.cell? ⟨w.heap.size, 1, none⟩ = some (.int .i64 h.p.l) := B3.cell 1
  have b2 : V2.cell? ⟨w.heap.size, 2, none⟩ = some (.bool h.d) := B3.cell 2
  have b3 : V2.cell? ⟨w.heap.size, 3, none⟩ = some (.int .i64 h.f) := B3.cell 3
  have b4 : V2.cell? ⟨w.heap.size, 4, none⟩ = some (.int .u32 h.x) := B3.cell 4
  have b5 : V2.cell? ⟨w.heap.size, 5, none⟩ = some (.int .i64 h.m) := B3.cell 5
  obtain ⟨_, _, he, g0, g1, g2, g3, g4, g5⟩ := hop_at (hown.rdAt (by decide) Hp.len) hk
  injection he with he; injection he with he1 he2
  subst he1 he2
  simp only [Nat.zero_add] at g0 g1 g2 g3 g4 g5
  have z0 := hB.frozen (k * 6)
  have z1 := hB.frozen (k * 6 + 1)
  have z2 := hB.frozen (k * 6 + 2)
  have z3 := hB.frozen (k * 6 + 3)
  have z4 := hB.frozen (k * 6 + 4)
  have z5 := hB.frozen (k * 6 + 5)
  clear hown hB
  simp only [List.take_succ_cons, List.take_zero, List.drop_succ_cons, List.drop_zero]
  repeat still_step
  refine wpStill_nil ?_
  go_wp2_with fail
  go_ret
  exact ⟨rfl, g, rfl, V2, k3, by simp [set6]⟩
end Go.Proofs.YtfaiponmjjbgoaaDoor
