/- Lemmas and contracts for the theorem of this claim: VRtB, VGen2. -/
import Derived.Test.YtffckpkikdlbpaaGreatDoorZtAf
set_option linter.unusedSimpArgs false
set_option linter.unusedVariables false
namespace Go.Proofs.YtffckpkikdlbpaaGreatDoor
open Go.RowKit
def OfPost (p : PI) (w : World) (e : Ending) (w' : World) : Prop := ∃ x0 x1 x2 x3 x4 x5 : Int, e = .returned (.tuple #[.agg #[.int .i64 x0, .int .i64 x1, .int .u32 x2, .int .u32 x3, .int .u32 x4, .int .u32 x5], .int .i64 (if toldB p then 0 else 2)]) ∧ Kp w w'
set_option maxRecDepth 100000 in
set_option maxHeartbeats 1000000 in
theorem of_any (p : PI) (w : World) (ha : p.a < 4294967296) : Calls Tryz.prog 133 #[.agg #[.int .u32 p.a, .int .i64 p.l], .int .i64 1] w (OfPost p w) := by
  obtain ⟨W, hW, kW, B0, B1⟩ : ∃ W, (w.alloc (.cells #[.int .u32 p.a, .int .i64 p.l] 29)).alloc (.cells #[.int .i64 0, .int .i64 0, .int .u32 0, .int .u32 0, .int .u32 0, .int .u32 0] 192) = W ∧ Kp w W ∧ Blk W w.heap.size 29 #[.int .u32 p.a, .int .i64 p.l] ∧ Blk W (w.heap.size + 1) 192 #[.int .i64 0, .int .i64 0, .int .u32 0, .int .u32 0, .int .u32 0, .int .u32 0] :=
    ⟨_, rfl, ((Kp.refl _).alloc _).alloc _, (Blk.new w _ _).alloc _, Blk.new1 w _ _ _⟩
  have p0 : W.cell? ⟨w.heap.size, 0, none⟩ = some (.int .u32 p.a) := B0.cell 0
  have p1 : W.cell? ⟨w.heap.size, 1, none⟩ = some (.int .i64 p.l) := B0.cell 1
  go_enter Tryz.func133, Tryz.ntmps133
  go_wp2_with fail
  refine (check_any p _ ha).mono ?_
  rintro e w1 ⟨rfl, hK1⟩
  have k1 := kW.trans hK1
  have C0 := B0.keep hK1
  have C1 := B1.keep hK1
  clear hW p0 p1
  have p0 : w1.cell? ⟨w.heap.size, 0, none⟩ = some (.int .u32 p.a) := C0.cell 0
  have e0 : w1.cell? ⟨w.heap.size + 1, 0, none⟩ = some (.int .i64 0) := C1.cell 0
  have e1 : w1.cell? ⟨w.heap.size + 1, 1, none⟩ = some (.int .i64 0) := C1.cell 1
  have e2 : w1.cell? ⟨w.heap.size + 1, 2, none⟩ = some (.int .u32 0) := C1.cell 2
  have e3 : w1.cell? ⟨w.heap.size + 1, 3, none⟩ = some (.int .u32 0) := C1.cell 3
  have e4 : w1.cell? ⟨w.heap.size + 1, 4, none⟩ = some (.int .u32 0) := C1.cell 4
  have e5 : w1.cell? ⟨w.heap.size + 1, 5, none⟩ = some (.int .u32 0) := C1.cell 5
  have z0 := C1.frozen 0
  have z1 := C1.frozen 1
  have z2 := C1.frozen 2
  have z3 := C1.frozen 3
  have z4 := C1.frozen 4
  have z5 := C1.frozen 5
  cases hok : p.okB with
  | false =>
    have Hck := Lib.hid (show checkP p = 2 by simp [checkP, hok])
    have Ht := Lib.hid (show (if toldB p then (0 : Int) else 2) = 2 by simp [toldB, hok])
    rw [Hck.out]
    clear hok
    go_wp2_with fail
    have R := (((((C1.set_ 0 (.int .i64 0)).set_ 1 (.int .i64 0)).set_ 2 (.int .u32 0)).set_ 3 (.int .u32 0)).set_ 4 (.int .u32 0)).set_ 5 (.int .u32 0)
    have kz := (((((k1.setCell (p := ⟨w.heap.size + 1, 0, none⟩) (by simp) (.int .i64 0)).setCell (p := ⟨w.heap.size + 1, 1, none⟩) (by simp) (.int .i64 0)).setCell (p := ⟨w.heap.size + 1, 2, none⟩) (by simp) (.int .u32 0)).setCell (p := ⟨w.heap.size + 1, 3, none⟩) (by simp) (.int .u32 0)).setCell (p := ⟨w.heap.size + 1, 4, none⟩) (by simp) (.int .u32 0)).setCell (p := ⟨w.heap.size + 1, 5, none⟩) (by simp) (.int .u32 0)
    generalize (((((w1.setCell ⟨w.heap.size + 1, 0, none⟩ (.int .i64 0)).setCell ⟨w.heap.size + 1, 1, none⟩ (.int .i64 0)).setCell ⟨w.heap.size + 1, 2, none⟩ (.int .u32 0)).setCell ⟨w.heap.size + 1, 3, none⟩ (.int .u32 0)).setCell ⟨w.heap.size + 1, 4, none⟩ (.int .u32 0)).setCell ⟨w.heap.size + 1, 5, none⟩ (.int .u32 0) = Z at R kz ⊢
    have r0 : Z.cell? ⟨w.heap.size + 1, 0, none⟩ = some (.int .i64 0) := R.cell 0
    have r1 : Z.cell? ⟨w.heap.size + 1, 1, none⟩ = some (.int .i64 0) := R.cell 1
    have r2 : Z.cell? ⟨w.heap.size + 1, 2, none⟩ = some (.int .u32 0) := R.cell 2
    have r3 : Z.cell? ⟨w.heap.size + 1, 3, none⟩ = some (.int .u32 0) := R.cell 3
    have r4 : Z.cell? ⟨w.heap.size + 1, 4, none⟩ = some (.int .u32 0) := R.cell 4
    have r5 : Z.cell? ⟨w.heap.size + 1, 5, none⟩ = some (.int .u32 0) := R.cell 5
    exact bodyPost_ret (v := .tuple #[.agg #[.int .i64 0, .int .i64 0, .int .u32 0, .int .u32 0, .int .u32 0, .int .u32 0], .int .i64 2]) (by simp [results, Tryz.results133, go_sem, r0, r1, r2, r3, r4, r5]) rfl ⟨0, 0, 0, 0, 0, 0, by rw [Ht.out], kz⟩
  | true =>
    obtain ⟨hpk, hpl⟩ := pn_ok hok ha
    obtain ⟨n, hn⟩ : ∃ n, p.l.toNat = n := ⟨_, rfl⟩
    have hpl' : p.l = (n : Int) := by rw [← hn]; exact hpl
    have hn32 : n ≤ 32 := by rw [← hn]; exact hpk.2.1
    have hcut : cut p.a n = p.a := by rw [← hn]; exact hpk.2.2
    have Hck := Lib.hid (show checkP p = 0 by simp [checkP, hok])
    have Ht := Lib.hid (show toldB p = !badKind p.a n by simp [toldB, hok, hn])
    have Hcut := Lib.hid hcut
    rw [Hck.out]
    have p1 : w1.cell? ⟨w.heap.size, 1, none⟩ = some (.int .i64 n) := by rw [← hpl']; exact C0.cell 1
    clear hok hpk hpl hn hpl' hcut
    go_wp2_with fail
    refine (mask_is n _ hn32).mono ?_
    rintro e w' ⟨rfl, rfl⟩
    obtain ⟨V, hV, kV, D0⟩ : ∃ V, w1.alloc (.cells #[.int .i64 2, .int .i64 0, .int .u32 p.a, .int .u32 (maskN n), .int .u32 0, .int .u32 1] 192) = V ∧ Kp w1 V ∧ Blk V w1.heap.size 192 #[.int .i64 2, .int .i64 0, .int .u32 p.a, .int .u32 (maskN n), .int .u32 0, .int .u32 1] := ⟨_, rfl, (Kp.refl _).alloc _, Blk.new w1 _ _⟩
    have d0 : V.cell? ⟨w1.heap.size, 0, none⟩ = some (.int .i64 2) := D0.cell 0
    have d1 : V.cell? ⟨w1.heap.size, 1, none⟩ = some (.int .i64 0) := D0.cell 1
    have d2 : V.cell? ⟨w1.heap.size, 2, none⟩ = some (.int .u32 p.a) := D0.cell 2
    have d3 : V.cell? ⟨w1.heap.size, 3, none⟩ = some (.int .u32 (maskN n)) := D0.cell 3
    have d4 : V.cell? ⟨w1.heap.size, 4, none⟩ = some (.int .u32 0) := D0.cell 4
    have d5 : V.cell? ⟨w1.heap.size, 5, none⟩ = some (.int .u32 1) := D0.cell 5
    go_wp2_with fail
    refine (why_any p.a n _ ha hn32 Hcut.out).mono ?_
    rintro e w2 ⟨rfl, hK2⟩
    have kv2 := kV.trans hK2
    have k2 := k1.trans kv2
    have E1 := C1.keep kv2
    have E0 := D0.keep hK2
    clear hV d0 d1 d2 d3 d4 d5 e0 e1 e2 e3 e4 e5 z0 z1 z2 z3 z4 z5 p0 p1
    have d0 : w2.cell? ⟨w1.heap.size, 0, none⟩ = some (.int .i64 2) := E0.cell 0
    have d1 : w2.cell? ⟨w1.heap.size, 1, none⟩ = some (.int .i64 0) := E0.cell 1
    have d2 : w2.cell? ⟨w1.heap.size, 2, none⟩ = some (.int .u32 p.a) := E0.cell 2
    have d3 : w2.cell? ⟨w1.heap.size, 3, none⟩ = some (.int .u32 (maskN n)) := E0.cell 3
    have d4 : w2.cell? ⟨w1.heap.size, 4, none⟩ = some (.int .u32 0) := E0.cell 4
    have d5 : w2.cell? ⟨w1.heap.size, 5, none⟩ = some (.int .u32 1) := E0.cell 5
    have e0 : w2.cell? ⟨w.heap.size + 1, 0, none⟩ = some (.int .i64 0) := E1.cell 0
    have e1 : w2.cell? ⟨w.heap.size + 1, 1, none⟩ = some (.int .i64 0) := E1.cell 1
    have e2 : w2.cell? ⟨w.heap.size + 1, 2, none⟩ = some (.int .u32 0) := E1.cell 2
    have e3 : w2.cell? ⟨w.heap.size + 1, 3, none⟩ = some (.int .u32 0) := E1.cell 3
    have e4 : w2.cell? ⟨w.heap.size + 1, 4, none⟩ = some (.int .u32 0) := E1.cell 4
    have e5 : w2.cell? ⟨w.heap.size + 1, 5, none⟩ = some (.int .u32 0) := E1.cell 5
    have z0 := E1.frozen 0
    have z1 := E1.frozen 1
    have z2 := E1.frozen 2
    have z3 := E1.frozen 3
    have z4 := E1.frozen 4
    have z5 := E1.frozen 5
    have fin : Hid (∀ (a0 a1 a2 a3 a4 a5 : Value), ∃ Z, (((((w2.setCell ⟨w.heap.size + 1, 0, none⟩ a0).setCell ⟨w.heap.size + 1, 1, none⟩ a1).setCell ⟨w.heap.size + 1, 2, none⟩ a2).setCell ⟨w.heap.size + 1, 3, none⟩ a3).setCell ⟨w.heap.size + 1, 4, none⟩ a4).setCell ⟨w.heap.size + 1, 5, none⟩ a5 = Z ∧ Blk Z (w.heap.size + 1) 192 #[a0, a1, a2, a3, a4, a5] ∧ Kp w Z) := fun a0 a1 a2 a3 a4 a5 =>
      ⟨_, rfl, (((((E1.set_ 0 a0).set_ 1 a1).set_ 2 a2).set_ 3 a3).set_ 4 a4).set_ 5 a5, (((((k2.setCell (p := ⟨w.heap.size + 1, 0, none⟩) (by simp) a0).setCell (p := ⟨w.heap.size + 1, 1, none⟩) (by simp) a1).setCell (p := ⟨w.heap.size + 1, 2, none⟩) (by simp) a2).setCell (p := ⟨w.heap.size + 1, 3, none⟩) (by simp) a3).setCell (p := ⟨w.heap.size + 1, 4, none⟩) (by simp) a4).setCell (p := ⟨w.heap.size + 1, 5, none⟩) (by simp) a5⟩
    cases hb : badKind p.a n with
    | true =>
      have Hw := Lib.hid (show whyN p.a n = 4 by simp [whyN, hb])
      have Ht2 := Lib.hid (show (if toldB p then (0 : Int) else 2) = 2 by rw [Ht.out, hb]; rfl)
      rw [Hw.out]
      clear hb
      obtain ⟨Z, hZ, R, kz⟩ := fin.out (.int .i64 0) (.int .i64 0) (.int .u32 0) (.int .u32 0) (.int .u32 0) (.int .u32 0)
      go_wp2_with fail
      have r0 : Z.cell? ⟨w.heap.size + 1, 0, none⟩ = some (.int .i64 0) := R.cell 0
      have r1 : Z.cell? ⟨w.heap.size + 1, 1, none⟩ = some (.int .i64 0) := R.cell 1
      have r2 : Z.cell? ⟨w.heap.size + 1, 2, none⟩ = some (.int .u32 0) := R.cell 2
      have r3 : Z.cell? ⟨w.heap.size + 1, 3, none⟩ = some (.int .u32 0) := R.cell 3
      have r4 : Z.cell? ⟨w.heap.size + 1, 4, none⟩ = some (.int .u32 0) := R.cell 4
      have r5 : Z.cell? ⟨w.heap.size + 1, 5, none⟩ = some (.int .u32 0) := R.cell 5
      exact bodyPost_ret (v := .tuple #[.agg #[.int .i64 0, .int .i64 0, .int .u32 0, .int .u32 0, .int .u32 0, .int .u32 0], .int .i64 2]) (by simp [results, Tryz.results133, go_sem, r0, r1, r2, r3, r4, r5]) rfl ⟨0, 0, 0, 0, 0, 0, by rw [Ht2.out], kz⟩
    | false =>
      have Hw := Lib.hid (show whyN p.a n = 0 by simp [whyN, hb])
      have Ht2 := Lib.hid (show (if toldB p then (0 : Int) else 2) = 0 by rw [Ht.out, hb]; rfl)
      rw [Hw.out]
      clear hb
      obtain ⟨Z, hZ, R, kz⟩ := fin.out (.int .i64 2) (.int .i64 0) (.int .u32 p.a) (.int .u32 (maskN n)) (.int .u32 0) (.int .u32 1)
      go_wp2_with fail
      have r0 : Z.cell? ⟨w.heap.size + 1, 0, none⟩ = some (.int .i64 2) := R.cell 0
      have r1 : Z.cell? ⟨w.heap.size + 1, 1, none⟩ = some (.int .i64 0) := R.cell 1
      have r2 : Z.cell? ⟨w.heap.size + 1, 2, none⟩ = some (.int .u32 p.a) := R.cell 2
      have r3 : Z.cell? ⟨w.heap.size + 1, 3, none⟩ = some (.int .u32 (maskN n)) := R.cell 3
      have r4 : Z.cell? ⟨w.heap.size + 1, 4, none⟩ = some (.int .u32 0) := R.cell 4
      have r5 : Z.cell? ⟨w.heap.size + 1, 5, none⟩ = some (.int .u32 1) := R.cell 5
      exact bodyPost_ret (v := .tuple #[.agg #[.int .i64 2, .int .i64 0, .int .u32 p.a, .int .u32 (maskN n), .int .u32 0, .int .u32 1], .int .i64 0]) (by simp [results, Tryz.results133, go_sem, r0, r1, r2, r3, r4, r5]) rfl ⟨2, 0, p.a, maskN n, 0, 1, by rw [Ht2.out], kz⟩
set_option maxRecDepth 100000 in
set_option maxHeartbeats 1000000 in
theorem isTold_any (r : Rt) (w : World) (ha : r.p.a < 4294967296) : Calls Tryz.prog 136 #[.agg #[.int .u32 r.p.a, .int .i64 r.p.l, .int .i64 r.s, .int .i64 r.m, .int .i64 r.l, .int .i64 r.f, .int .u32 r.x, .int .i64 r.d, .bool r.c]] w fun e w' => e = .returned (.bool (toldB r.p)) ∧ Kp w w' := by
  go_enter Tryz.func136, Tryz.ntmps136
  go_wp2_with fail
  refine (of_any r.p _ ha).mono ?_
  rintro e w1 ⟨x0, x1, x2, x3, x4, x5, rfl, hK1⟩
  have k1 : Kp w w1 := ((Kp.refl _).alloc _).trans hK1
  cases h : toldB r.p with
  | true =>
    have H := Lib.hid h; clear h
    simp only [if_true]
    go_wp2_with fail
    go_ret
    exact ⟨by rw [H.out]; rfl, k1.alloc _⟩
  | false =>
    have H := Lib.hid h; clear h
    simp only [Bool.false_eq_true, if_false]
    go_wp2_with fail
    go_ret
    exact ⟨by rw [H.out]; rfl, k1.alloc _⟩
theorem check_int (w : World) (n : Nat) (e : Bool) (k : Int) : (Instr.checkKey e (n + 1) 46 (.int .i64 k)).run Tryz.prog w = .ok () w := by
  unfold Instr.checkKey
  simp [run_underlying Tryz.underlying46, Result.andThen]
theorem find_int (w : World) (k : Int) (es : List MapEntry) {r : Option (Nat × Value)} (h : Instr.findNow (.int .i64) (.int .i64 k) es 0 = some r) : (Instr.findKey 46 (.int .i64 k) es).run Tryz.prog w = .ok r w := by
  unfold Instr.findKey
  simp [run_underlying Tryz.underlying46, Result.andThen, h]
theorem set_new (w : World) (o o' : Obj) : ({ w.alloc o with heap := (w.alloc o).heap.setIfInBounds w.heap.size o' } : World) = w.alloc o' := by
  have h : (w.heap.push o).setIfInBounds w.heap.size o' = w.heap.push o' := by
    apply Array.ext_getElem?
    intro i
    rw [Array.getElem?_setIfInBounds, Array.getElem?_push, Array.getElem?_push]
    by_cases e : w.heap.size = i
    · subst e; simp
    · simp [e, Ne.symm e]
  unfold World.alloc
  simp only [h]
theorem ins_run (w : World) (es : Array MapEntry) (clock : Nat) (k : Int) (v : Value) (h : Instr.findNow (.int .i64) (.int .i64 k) es.toList 0 = some none) :
    (Instr.mapUpdate 197 (.map (some w.heap.size)) (.int .i64 k) v).run Tryz.prog (w.alloc (.map es clock)) = .ok () (w.alloc (.map (es.push { key := .int .i64 k, val := v, born := clock }) (clock + 1))) := by
  have hb : (w.alloc (.map es clock)).heap[w.heap.size]? = some (.map es clock) := World.alloc_heap_new w _
  unfold Instr.mapUpdate
  simp [run_underlying Tryz.underlying197, MapKept.run_getObj_map hb, check_int, find_int _ _ _ h, MapKept.run_setObj_map _ hb, Result.andThen]
  exact set_new w _ _
theorem ins0 (w : World) (v0 : Value) : (Instr.mapUpdate 197 (.map (some w.heap.size)) (.int .i64 0) v0).run Tryz.prog (w.alloc (.map #[] 0)) = .ok () (w.alloc (.map #[{ key := .int .i64 0, val := v0, born := 0 }] 1)) := ins_run w #[] 0 0 v0 rfl
theorem ins1 (w : World) (v0 v1 : Value) : (Instr.mapUpdate 197 (.map (some w.heap.size)) (.int .i64 1) v1).run Tryz.prog (w.alloc (.map #[{ key := .int .i64 0, val := v0, born := 0 }] 1)) = .ok () (w.alloc (.map #[{ key := .int .i64 0, val := v0, born := 0 }, { key := .int .i64 1, val := v1, born := 1 }] 2)) := ins_run w #[{ key := .int .i64 0, val := v0, born := 0 }] 1 1 v1 rfl
theorem ins2 (w : World) (v0 v1 v2 : Value) : (Instr.mapUpdate 197 (.map (some w.heap.size)) (.int .i64 2) v2).run Tryz.prog (w.alloc (.map #[{ key := .int .i64 0, val := v0, born := 0 }, { key := .int .i64 1, val := v1, born := 1 }] 2)) = .ok () (w.alloc (.map #[{ key := .int .i64 0, val := v0, born := 0 }, { key := .int .i64 1, val := v1, born := 1 }, { key := .int .i64 2, val := v2, born := 2 }] 3)) := ins_run w #[{ key := .int .i64 0, val := v0, born := 0 }, { key := .int .i64 1, val := v1, born := 1 }] 2 2 v2 rfl
theorem ins3 (w : World) (v0 v1 v2 v3 : Value) : (Instr.mapUpdate 197 (.map (some w.heap.size)) (.int .i64 3) v3).run Tryz.prog (w.alloc (.map #[{ key := .int .i64 0, val := v0, born := 0 }, { key := .int .i64 1, val := v1, born := 1 }, { key := .int .i64 2, val := v2, born := 2 }] 3)) = .ok () (w.alloc (.map #[{ key := .int .i64 0, val := v0, born := 0 }, { key := .int .i64 1, val := v1, born := 1 }, { key := .int .i64 2, val := v2, born := 2 }, { key := .int .i64 3, val := v3, born := 3 }] 4)) := ins_run w #[{ key := .int .i64 0, val := v0, born := 0 }, { key := .int .i64 1, val := v1, born := 1 }, { key := .int .i64 2, val := v2, born := 2 }] 3 3 v3 rfl
theorem ins4 (w : World) (v0 v1 v2 v3 v4 : Value) : (Instr.mapUpdate 197 (.map (some w.heap.size)) (.int .i64 4) v4).run Tryz.prog (w.alloc (.map #[{ key := .int .i64 0, val := v0, born := 0 }, { key := .int .i64 1, val := v1, born := 1 }, { key := .int .i64 2, val := v2, born := 2 }, { key := .int .i64 3, val := v3, born := 3 }] 4)) = .ok () (w.alloc (.map #[{ key := .int .i64 0, val := v0, born := 0 }, { key := .int .i64 1, val := v1, born := 1 }, { key := .int .i64 2, val := v2, born := 2 }, { key := .int .i64 3, val := v3, born := 3 }, { key := .int .i64 4, val := v4, born := 4 }] 5)) := ins_run w #[{ key := .int .i64 0, val := v0, born := 0 }, { key := .int .i64 1, val := v1, born := 1 }, { key := .int .i64 2, val := v2, born := 2 }, { key := .int .i64 3, val := v3, born := 3 }] 4 4 v4 rfl
def stFn : Nat → FuncId
  | 0 => 171
  | 1 => 174
  | 2 => 175
  | 3 => 177
  | _ => 178
def stV (k : Nat) : Value := .iface 199 (.func (.func (stFn k)) #[] #[])
def stE (k : Nat) : MapEntry := { key := .int .i64 k, val := stV k, born := k }
set_option maxRecDepth 100000 in
set_option maxHeartbeats 1000000 in
theorem states_any (w : World) : Calls Tryz.prog 135 #[] w fun e w' => e = .returned (.map (some w.heap.size)) ∧ w' = w.alloc (.map #[stE 0, stE 1, stE 2, stE 3, stE 4] 5) := by
  have hmm := @run_makeMap Tryz.prog
  have i0 := ins0 w
  have i1 := ins1 w
  have i2 := ins2 w
  have i3 := ins3 w
  have i4 := ins4 w
  go_enter Tryz.func135, Tryz.ntmps135
  go_wp2_with fail
  go_ret
  exact ⟨rfl, rfl⟩
theorem find_st (k : Int) : Instr.findNow (.int .i64) (.int .i64 k) [stE 0, stE 1, stE 2, stE 3, stE 4] 0 =
    some (if k = 0 then some (0, stV 0) else if k = 1 then some (1, stV 1) else if k = 2 then some (2, stV 2) else if k = 3 then some (3, stV 3) else if k = 4 then some (4, stV 4) else none) := by
  have hb : ∀ (a b : Int), (a == b) = decide (a = b) := fun a b => by cases h : a == b <;> simp_all
  simp only [Instr.findNow, Instr.sameNow, stE, if_true, hb]
  by_cases h0 : k = 0
  · simp [h0]
  · by_cases h1 : k = 1
    · simp [h1]
    · by_cases h2 : k = 2
      · simp [h2]
      · by_cases h3 : k = 3
        · simp [h3]
        · by_cases h4 : k = 4
          · simp [h4]
          · simp [h0, h1, h2, h3, h4]
theorem look_hit (w : World) (r : Nat) (hr : w.heap[r]? = some (.map #[stE 0, stE 1, stE 2, stE 3, stE 4] 5)) (k : Int) (j : Nat) (v : Value) (h : Instr.findNow (.int .i64) (.int .i64 k) [stE 0, stE 1, stE 2, stE 3, stE 4] 0 = some (some (j, v))) :
    (Instr.lookup 197 (.map (some r)) (.int .i64 k) true).run Tryz.prog w = .ok (.tuple #[v, .bool true]) w := by
  unfold Instr.lookup
  simp [run_underlying Tryz.underlying197, MapKept.run_getObj_map hr, check_int, find_int _ _ _ h, Result.andThen]
theorem zero_any_ (w : World) : (zeroValue 20).run Tryz.prog w = .ok .nilIface w := by kernel_rfl
theorem look_miss (w : World) (r : Nat) (hr : w.heap[r]? = some (.map #[stE 0, stE 1, stE 2, stE 3, stE 4] 5)) (k : Int) (h : Instr.findNow (.int .i64) (.int .i64 k) [stE 0, stE 1, stE 2, stE 3, stE 4] 0 = some none) :
    (Instr.lookup 197 (.map (some r)) (.int .i64 k) true).run Tryz.prog w = .ok (.tuple #[.nilIface, .bool false]) w := by
  unfold Instr.lookup
  simp [run_underlying Tryz.underlying197, MapKept.run_getObj_map hr, check_int, find_int _ _ _ h, Result.andThen, zero_any_]
end Go.Proofs.YtffckpkikdlbpaaGreatDoor

namespace Go.Proofs.YtffckpkikdlbpaaGreatDoor
theorem wpAny_rest {P : Program} {Q : Exit → Act → World → Prop} {a : Act} {w : World} {fuel : Nat} {L : List Oper} {listed : Array Bool} (k : Nat) (hf : fuel = (L.drop k).length)
    (hB : Region.seqB .any L.toArray (L.drop k).length k listed = true) (h : wpList P L.toArray Q (L.drop k) a w) : wpAny P .any L.toArray Q fuel listed a w := by
  subst hf
  exact wpAny_of_seq (L.drop k) k listed a w (fun j => by simp) hB h
end Go.Proofs.YtffckpkikdlbpaaGreatDoor
