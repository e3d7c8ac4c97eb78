/- route.Check. -/
import Derived.Test.YtfaiponmjjbgoaaDoorRtB
import Derived.Test.YtfaiponmjjbgoaaDoorTrA
import Derived.Deep.DeepCutAuto
namespace Go.Proofs.YtfaiponmjjbgoaaDoor
open Go.RowKit

theorem assert_fn (w : World) (f : FuncId) : (Instr.typeAssert (.iface 69 (.func (.func f) #[] #[])) 20 69 false).run Tryd.prog w = .ok (.func (.func f) #[] #[]) w := by kernel_rfl

set_option maxRecDepth 100000 in
set_option maxHeartbeats 2000000 in
theorem check_hit (r : Rt) (j : Nat) (fid : FuncId) (b : Bool) (w : World) (ha : r.p.a < 4294967296) (hf : Instr.findNow (.int .i64) (.int .i64 r.s) [stE 0, stE 1, stE 2, stE 3, stE 4] 0 = some (some (j, .iface 69 (.func (.func fid) #[] #[]))))
    (hc : ∀ args w, (callFunc fid args).run Tryd.prog w = .ok (.enter fid args) w) (hst : ∀ w, Calls Tryd.prog fid #[.agg #[.int .u32 r.p.a, .int .i64 r.p.l, .int .i64 r.s, .int .i64 r.m, .int .i64 r.l, .int .i64 r.f, .int .u32 r.x, .int .i64 r.d, .bool r.c]] w fun e w' => e = .returned (.bool b) ∧ Kp w w') :
    Calls Tryd.prog 15 #[.agg #[.int .u32 r.p.a, .int .i64 r.p.l, .int .i64 r.s, .int .i64 r.m, .int .i64 r.l, .int .i64 r.f, .int .u32 r.x, .int .i64 r.d, .bool r.c]] w fun e w' => e = .returned (.int .i64 (if b && toldB r.p then 0 else 2)) ∧ Kp w w' := by
  obtain ⟨T, hT⟩ : ∃ T, toldB r.p = T := ⟨_, rfl⟩
  rw [hT]
  have HT := Lib.hid hT; clear hT
  have Hf := Lib.hid hf; clear hf
  have Hst := Lib.hid hst; clear hst
  have hta := assert_fn
  obtain ⟨W, hW, kW, B0, B1⟩ : ∃ W, (w.alloc (.cells #[.int .u32 r.p.a, .int .i64 r.p.l, .int .i64 r.s, .int .i64 r.m, .int .i64 r.l, .int .i64 r.f, .int .u32 r.x, .int .i64 r.d, .bool r.c] 31)).alloc (.cells #[.int .u32 r.p.a, .int .i64 r.p.l, .int .i64 r.s, .int .i64 r.m, .int .i64 r.l, .int .i64 r.f, .int .u32 r.x, .int .i64 r.d, .bool r.c] 65) = W ∧ Kp w W ∧ Blk W w.heap.size 31 #[.int .u32 r.p.a, .int .i64 r.p.l, .int .i64 r.s, .int .i64 r.m, .int .i64 r.l, .int .i64 r.f, .int .u32 r.x, .int .i64 r.d, .bool r.c] ∧ Blk W (w.heap.size + 1) 65 #[.int .u32 r.p.a, .int .i64 r.p.l, .int .i64 r.s, .int .i64 r.m, .int .i64 r.l, .int .i64 r.f, .int .u32 r.x, .int .i64 r.d, .bool r.c] :=
    ⟨_, rfl, ((Kp.refl _).alloc _).alloc _, (Blk.new w _ _).alloc _, Blk.new1 w _ _ _⟩
  have s2 : W.cell? ⟨w.heap.size, 2, none⟩ = some (.int .i64 r.s) := B0.cell 2
  go_enter Tryd.func15, Tryd.ntmps15
  go_wp2_with fail
  go_upto_region 2 with (fail)
  go_cut [4, 5] from 8 to 14 (fun s4 s5 wx => s4 = .iface 69 (.func (.func fid) #[] #[]) ∧ s5 = .bool true ∧ Kp W wx)
  case first =>
    go_region_held3 (fun w' => w'.cell? ⟨w.heap.size, 2, none⟩ = some (.int .i64 r.s)) (first | exact Ka.cell s2 | go_keep)
      (first | (go_at_call 21; refine (states_any _).mono ?_; rintro e wa ⟨rfl, hwa⟩; have Ka : Kp W wa := (by rw [hwa]; exact (Kp.refl W).drew.alloc _); have hlk := look_hit wa W.heap.size (by rw [hwa]; exact World.alloc_heap_new W.drew _) r.s j _ Hf.out; clear hwa))
    go_wp2_with fail
    go_meet
    case rel => exact ⟨rfl, rfl, Ka⟩
  case rest =>
    obtain ⟨rfl, rfl, hKc⟩ := hcut
    have k2 := kW.trans hKc
    have D := B1.keep hKc
    clear s2 hW
    have c0 : wc.cell? ⟨w.heap.size + 1, 0, none⟩ = some (.int .u32 r.p.a) := D.cell 0
    have c1 : wc.cell? ⟨w.heap.size + 1, 1, none⟩ = some (.int .i64 r.p.l) := D.cell 1
    have c2 : wc.cell? ⟨w.heap.size + 1, 2, none⟩ = some (.int .i64 r.s) := D.cell 2
    have c3 : wc.cell? ⟨w.heap.size + 1, 3, none⟩ = some (.int .i64 r.m) := D.cell 3
    have c4 : wc.cell? ⟨w.heap.size + 1, 4, none⟩ = some (.int .i64 r.l) := D.cell 4
    have c5 : wc.cell? ⟨w.heap.size + 1, 5, none⟩ = some (.int .i64 r.f) := D.cell 5
    have c6 : wc.cell? ⟨w.heap.size + 1, 6, none⟩ = some (.int .u32 r.x) := D.cell 6
    have c7 : wc.cell? ⟨w.heap.size + 1, 7, none⟩ = some (.int .i64 r.d) := D.cell 7
    have c8 : wc.cell? ⟨w.heap.size + 1, 8, none⟩ = some (.bool r.c) := D.cell 8
    go_wp2_with fail
    refine wp_region_any (by kernel_rfl) ?_
    change wpAny _ _ _ _ _ _ _ (World.drew _)
    obtain ⟨V, hV⟩ : ∃ V, wc.drew = V := ⟨_, rfl⟩
    have KV : Kp wc V := by rw [← hV]; exact (Kp.refl _).drew
    rw [hV]
    have DV := D.keep KV
    clear hV c0 c1 c2 c3 c4 c5 c6 c7 c8
    have c0 : V.cell? ⟨w.heap.size + 1, 0, none⟩ = some (.int .u32 r.p.a) := DV.cell 0
    have c1 : V.cell? ⟨w.heap.size + 1, 1, none⟩ = some (.int .i64 r.p.l) := DV.cell 1
    have c2 : V.cell? ⟨w.heap.size + 1, 2, none⟩ = some (.int .i64 r.s) := DV.cell 2
    have c3 : V.cell? ⟨w.heap.size + 1, 3, none⟩ = some (.int .i64 r.m) := DV.cell 3
    have c4 : V.cell? ⟨w.heap.size + 1, 4, none⟩ = some (.int .i64 r.l) := DV.cell 4
    have c5 : V.cell? ⟨w.heap.size + 1, 5, none⟩ = some (.int .i64 r.f) := DV.cell 5
    have c6 : V.cell? ⟨w.heap.size + 1, 6, none⟩ = some (.int .u32 r.x) := DV.cell 6
    have c7 : V.cell? ⟨w.heap.size + 1, 7, none⟩ = some (.int .i64 r.d) := DV.cell 7
    have c8 : V.cell? ⟨w.heap.size + 1, 8, none⟩ = some (.bool r.c) := DV.cell 8
    refine wpAny_take (i := 0) (v := .bool true) rfl (by kernel_rfl) (by kernel_rfl) (by kernel_rfl) (fun _ _ _ h => h) (Or.inl ⟨by rfl, fun w => by go_simp⟩) ?_
    refine wpAny_take (i := 1) (v := .bool false) rfl (by kernel_rfl) (by kernel_rfl) (by kernel_rfl) (fun _ _ _ h => h) (Or.inl ⟨by rfl, fun w => by go_simp⟩) ?_
    refine wpAny_take (i := 2) (v := .bool false) rfl (by kernel_rfl) (by kernel_rfl) (by kernel_rfl) (fun _ _ _ h => h) (Or.inl ⟨by rfl, fun w => by go_simp⟩) ?_
    refine wpAny_take (i := 3) (v := .iface 69 (.func (.func fid) #[] #[])) rfl (by kernel_rfl) (by kernel_rfl) (by kernel_rfl) (fun _ _ _ h => h) (Or.inl ⟨by rfl, fun w => by go_simp⟩) ?_
    refine wpAny_take (i := 4) (v := .func (.func fid) #[] #[]) rfl (by kernel_rfl) (by kernel_rfl) (by kernel_rfl) (fun _ _ _ h => h) (Or.inl ⟨by rfl, fun w => by go_simp⟩) ?_
    refine wpAny_rest 5 rfl (by kernel_rfl) ?_
    simp only [List.drop_succ_cons, List.drop_zero]
    go_wp2_with fail
    refine (Hst.out _).mono ?_
    rintro e wa ⟨rfl, hKa⟩
    have ka := k2.trans (KV.trans hKa)
    have Da := DV.keep hKa
    clear c0 c1 c2 c3 c4 c5 c6 c7 c8
    have c0 : wa.cell? ⟨w.heap.size + 1, 0, none⟩ = some (.int .u32 r.p.a) := Da.cell 0
    have c1 : wa.cell? ⟨w.heap.size + 1, 1, none⟩ = some (.int .i64 r.p.l) := Da.cell 1
    have c2 : wa.cell? ⟨w.heap.size + 1, 2, none⟩ = some (.int .i64 r.s) := Da.cell 2
    have c3 : wa.cell? ⟨w.heap.size + 1, 3, none⟩ = some (.int .i64 r.m) := Da.cell 3
    have c4 : wa.cell? ⟨w.heap.size + 1, 4, none⟩ = some (.int .i64 r.l) := Da.cell 4
    have c5 : wa.cell? ⟨w.heap.size + 1, 5, none⟩ = some (.int .i64 r.f) := Da.cell 5
    have c6 : wa.cell? ⟨w.heap.size + 1, 6, none⟩ = some (.int .u32 r.x) := Da.cell 6
    have c7 : wa.cell? ⟨w.heap.size + 1, 7, none⟩ = some (.int .i64 r.d) := Da.cell 7
    have c8 : wa.cell? ⟨w.heap.size + 1, 8, none⟩ = some (.bool r.c) := Da.cell 8
    cases b with
    | false =>
      go_wp2_with fail
      go_ret
      exact ⟨rfl, ka⟩
    | true =>
      go_wp2_with fail
      refine (isTold_any r _ ha).mono ?_
      rintro e wb ⟨rfl, hKb⟩
      rw [HT.out]
      cases T with
      | true =>
        go_wp2_with fail
        go_ret
        exact ⟨rfl, ka.trans hKb⟩
      | false =>
        go_wp2_with fail
        go_ret
        exact ⟨rfl, ka.trans hKb⟩

set_option maxRecDepth 100000 in
set_option maxHeartbeats 2000000 in
theorem check_miss (r : Rt) (w : World) (hf : Instr.findNow (.int .i64) (.int .i64 r.s) [stE 0, stE 1, stE 2, stE 3, stE 4] 0 = some none) :
    Calls Tryd.prog 15 #[.agg #[.int .u32 r.p.a, .int .i64 r.p.l, .int .i64 r.s, .int .i64 r.m, .int .i64 r.l, .int .i64 r.f, .int .u32 r.x, .int .i64 r.d, .bool r.c]] w fun e w' => e = .returned (.int .i64 2) ∧ Kp w w' := by
  have Hf := Lib.hid hf; clear hf
  obtain ⟨W, hW, kW, B0, B1⟩ : ∃ W, (w.alloc (.cells #[.int .u32 r.p.a, .int .i64 r.p.l, .int .i64 r.s, .int .i64 r.m, .int .i64 r.l, .int .i64 r.f, .int .u32 r.x, .int .i64 r.d, .bool r.c] 31)).alloc (.cells #[.int .u32 r.p.a, .int .i64 r.p.l, .int .i64 r.s, .int .i64 r.m, .int .i64 r.l, .int .i64 r.f, .int .u32 r.x, .int .i64 r.d, .bool r.c] 65) = W ∧ Kp w W ∧ Blk W w.heap.size 31 #[.int .u32 r.p.a, .int .i64 r.p.l, .int .i64 r.s, .int .i64 r.m, .int .i64 r.l, .int .i64 r.f, .int .u32 r.x, .int .i64 r.d, .bool r.c] ∧ Blk W (w.heap.size + 1) 65 #[.int .u32 r.p.a, .int .i64 r.p.l, .int .i64 r.s, .int .i64 r.m, .int .i64 r.l, .int .i64 r.f, .int .u32 r.x, .int .i64 r.d, .bool r.c] :=
    ⟨_, rfl, ((Kp.refl _).alloc _).alloc _, (Blk.new w _ _).alloc _, Blk.new1 w _ _ _⟩
  have s2 : W.cell? ⟨w.heap.size, 2, none⟩ = some (.int .i64 r.s) := B0.cell 2
  go_enter Tryd.func15, Tryd.ntmps15
  go_wp2_with fail
  go_upto_region 2 with (fail)
  go_cut [4, 5] from 8 to 14 (fun s4 s5 wx => s4 = .nilIface ∧ s5 = .bool false ∧ Kp W wx)
  case first =>
    go_region_held3 (fun w' => w'.cell? ⟨w.heap.size, 2, none⟩ = some (.int .i64 r.s)) (first | exact Ka.cell s2 | go_keep)
      (first | (go_at_call 21; refine (states_any _).mono ?_; rintro e wa ⟨rfl, hwa⟩; have Ka : Kp W wa := (by rw [hwa]; exact (Kp.refl W).drew.alloc _); have hlk := look_miss wa W.heap.size (by rw [hwa]; exact World.alloc_heap_new W.drew _) r.s Hf.out; clear hwa))
    go_wp2_with fail
    go_meet
    case rel => exact ⟨rfl, rfl, Ka⟩
  case rest =>
    obtain ⟨rfl, rfl, hKc⟩ := hcut
    have k2 := kW.trans hKc
    go_wp2_with fail
    go_quiet (fail)
    go_wp2_with fail
    go_ret
    exact ⟨rfl, k2.drewN _⟩
end Go.Proofs.YtfaiponmjjbgoaaDoor
