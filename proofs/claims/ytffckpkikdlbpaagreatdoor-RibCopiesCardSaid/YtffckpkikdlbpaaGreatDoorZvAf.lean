/- Lemmas and contracts for the theorem of this claim: VRtB, VGen2, VRtC, VRtD, POrd. -/
import Derived.Test.YtffckpkikdlbpaaGreatDoorZvAe
import Derived.Deep.DeepCutAuto
set_option linter.all false
set_option maxHeartbeats 16000000
namespace Go.Proofs.YtffckpkikdlbpaaGreatDoor
section
open Go.RowKit
def OfPost (p : PI) (w : World) (e : Ending) (w' : World) : Prop := ∃ x0 x1 x2 x3 x4 x5 : Int, e = .returned (.tuple #[.agg #[.int .i64 x0, .int .i64 x1, .int .u32 x2, .int .u32 x3, .int .u32 x4, .int .u32 x5], .int .i64 (if toldB p then 0 else 2)]) ∧ Kp w w'
set_option maxRecDepth 100000 in
theorem vlD (p : PI) (w : World) (ha : p.a < 4294967296) : Calls Tryz.prog 133 #[.agg #[.int .u32 p.a, .int .i64 p.l], .int .i64 1] w (OfPost p w) := by
 obtain ⟨W, hW, kW, B0, B1⟩ : ∃ W, (w.alloc (.cells #[.int .u32 p.a, .int .i64 p.l] 29)).alloc (.cells #[.int .i64 0, .int .i64 0, .int .u32 0, .int .u32 0, .int .u32 0, .int .u32 0] 192) = W ∧ Kp w W ∧ Blk W w.heap.size 29 #[.int .u32 p.a, .int .i64 p.l] ∧ Blk W (w.heap.size + 1) 192 #[.int .i64 0, .int .i64 0, .int .u32 0, .int .u32 0, .int .u32 0, .int .u32 0] :=
  ⟨_, rfl, ((Kp.refl _).alloc _).alloc _, (Blk.new w _ _).alloc _, Blk.new1 w _ _ _⟩
 obtain ⟨p0, p1⟩ := Blk.p2 B0
 go_enter Tryz.func133, Tryz.ntmps133
 go_wp2_with fail
 refine (veD p _ ha).mono ?_
 rintro e w1 ⟨rfl, hK1⟩
 have k1 := kW.trans hK1
 have C0 := B0.keep hK1
 have C1 := B1.keep hK1
 clear hW p0 p1
 have p0 : w1.cell? ⟨w.heap.size, 0, none⟩ = some (.int .u32 p.a) := C0.cell 0
 obtain ⟨e0, e1, e2, e3, e4, e5⟩ := Blk.v6 C1 (.int .i64 0) (.int .i64 0) (.int .u32 0) (.int .u32 0) (.int .u32 0) (.int .u32 0) rfl
 have z0 := Blk.frozen C1
 cases hok : p.okB with
 | false =>
  have Hck := Lib.hid (show checkP p = 2 by simp [checkP, hok])
  have Ht := Lib.hid (show (if toldB p then (0 : Int) else 2) = 2 by simp [toldB, hok])
  rw [Hck.out]
  clear hok
  go_wp2_with fail
  have R := (((((C1.set_ 0 (.int .i64 0)).set_ 1 (.int .i64 0)).set_ 2 (.int .u32 0)).set_ 3 (.int .u32 0)).set_ 4 (.int .u32 0)).set_ 5 (.int .u32 0)
  have kz := (((((k1.setCell (p := ⟨w.heap.size + 1, 0, none⟩) (by simp) (.int .i64 0)).setCell (p := ⟨w.heap.size + 1, 1, none⟩) (by simp) (.int .i64 0)).setCell (p := ⟨w.heap.size + 1, 2, none⟩) (by simp) (.int .u32 0)).setCell (p := ⟨w.heap.size + 1, 3, none⟩) (by simp) (.int .u32 0)).setCell (p := ⟨w.heap.size + 1, 4, none⟩) (by simp) (.int .u32 0)).setCell (p := ⟨w.heap.size + 1, 5, none⟩) (by simp) (.int .u32 0)
  generalize (((((w1.setCell ⟨w.heap.size + 1, 0, none⟩ (.int .i64 0)).setCell ⟨w.heap.size + 1, 1, none⟩ (.int .i64 0)).setCell ⟨w.heap.size + 1, 2, none⟩ (.int .u32 0)).setCell ⟨w.heap.size + 1, 3, none⟩ (.int .u32 0)).setCell ⟨w.heap.size + 1, 4, none⟩ (.int .u32 0)).setCell ⟨w.heap.size + 1, 5, none⟩ (.int .u32 0) = Z at R kz ⊢
  obtain ⟨r0, r1, r2, r3, r4, r5⟩ := Blk.v6 R (.int .i64 0) (.int .i64 0) (.int .u32 0) (.int .u32 0) (.int .u32 0) (.int .u32 0) rfl
  exact bodyPost_ret (v := .tuple #[.agg #[.int .i64 0, .int .i64 0, .int .u32 0, .int .u32 0, .int .u32 0, .int .u32 0], .int .i64 2]) (by simp [results, Tryz.results133, go_sem, r0, r1, r2, r3, r4, r5]) rfl ⟨0, 0, 0, 0, 0, 0, by rw [Ht.out], kz⟩
 | true =>
  obtain ⟨hpk, hpl⟩ := pn_ok hok ha
  obtain ⟨n, hn⟩ : ∃ n, p.l.toNat = n := ⟨_, rfl⟩
  have hpl' : p.l = (n : Int) := by rw [← hn]; exact hpl
  have hn32 : n ≤ 32 := by rw [← hn]; exact hpk.2.1
  have hcut : cut p.a n = p.a := by rw [← hn]; exact hpk.2.2
  have Hck := Lib.hid (show checkP p = 0 by simp [checkP, hok])
  have Ht := Lib.hid (show toldB p = !badKind p.a n by simp [toldB, hok, hn])
  have Hcut := Lib.hid hcut
  rw [Hck.out]
  have p1 : w1.cell? ⟨w.heap.size, 1, none⟩ = some (.int .i64 n) := by rw [← hpl']; exact C0.cell 1
  clear hok hpk hpl hn hpl' hcut
  go_wp2_with fail
  refine (vhR n _ hn32).mono ?_
  rintro e w' ⟨rfl, rfl⟩
  obtain ⟨V, hV, kV, D0⟩ := Blk.al1 (w := w1) rfl #[.int .i64 2, .int .i64 0, .int .u32 p.a, .int .u32 (maskN n), .int .u32 0, .int .u32 1] 192
  obtain ⟨d0, d1, d2, d3, d4, d5⟩ := Blk.v6 D0 (.int .i64 2) (.int .i64 0) (.int .u32 p.a) (.int .u32 (maskN n)) (.int .u32 0) (.int .u32 1) rfl
  go_wp2_with fail
  refine (vmu p.a n _ ha hn32 Hcut.out).mono ?_
  rintro e w2 ⟨rfl, hK2⟩
  have kv2 := kV.trans hK2
  have k2 := k1.trans kv2
  have E1 := C1.keep kv2
  have E0 := D0.keep hK2
  clear hV d0 d1 d2 d3 d4 d5 e0 e1 e2 e3 e4 e5 z0 p0 p1
  obtain ⟨d0, d1, d2, d3, d4, d5⟩ := Blk.v6 E0 (.int .i64 2) (.int .i64 0) (.int .u32 p.a) (.int .u32 (maskN n)) (.int .u32 0) (.int .u32 1) rfl
  obtain ⟨e0, e1, e2, e3, e4, e5⟩ := Blk.v6 E1 (.int .i64 0) (.int .i64 0) (.int .u32 0) (.int .u32 0) (.int .u32 0) (.int .u32 0) rfl
  have z0 := Blk.frozen E1
  have fin : Hid (∀ (a0 a1 a2 a3 a4 a5 : Value), ∃ Z, (((((w2.setCell ⟨w.heap.size + 1, 0, none⟩ a0).setCell ⟨w.heap.size + 1, 1, none⟩ a1).setCell ⟨w.heap.size + 1, 2, none⟩ a2).setCell ⟨w.heap.size + 1, 3, none⟩ a3).setCell ⟨w.heap.size + 1, 4, none⟩ a4).setCell ⟨w.heap.size + 1, 5, none⟩ a5 = Z ∧ Blk Z (w.heap.size + 1) 192 #[a0, a1, a2, a3, a4, a5] ∧ Kp w Z) := fun a0 a1 a2 a3 a4 a5 =>
   ⟨_, rfl, (((((E1.set_ 0 a0).set_ 1 a1).set_ 2 a2).set_ 3 a3).set_ 4 a4).set_ 5 a5, (((((k2.setCell (p := ⟨w.heap.size + 1, 0, none⟩) (by simp) a0).setCell (p := ⟨w.heap.size + 1, 1, none⟩) (by simp) a1).setCell (p := ⟨w.heap.size + 1, 2, none⟩) (by simp) a2).setCell (p := ⟨w.heap.size + 1, 3, none⟩) (by simp) a3).setCell (p := ⟨w.heap.size + 1, 4, none⟩) (by simp) a4).setCell (p := ⟨w.heap.size + 1, 5, none⟩) (by simp) a5⟩
  cases hb : badKind p.a n with
  | true =>
   have Hw := Lib.hid (show whyN p.a n = 4 by simp [whyN, hb])
   have Ht2 := Lib.hid (show (if toldB p then (0 : Int) else 2) = 2 by rw [Ht.out, hb]; rfl)
   rw [Hw.out]
   clear hb
   obtain ⟨Z, hZ, R, kz⟩ := fin.out (.int .i64 0) (.int .i64 0) (.int .u32 0) (.int .u32 0) (.int .u32 0) (.int .u32 0)
   go_wp2_with fail
   obtain ⟨r0, r1, r2, r3, r4, r5⟩ := Blk.v6 R (.int .i64 0) (.int .i64 0) (.int .u32 0) (.int .u32 0) (.int .u32 0) (.int .u32 0) rfl
   exact bodyPost_ret (v := .tuple #[.agg #[.int .i64 0, .int .i64 0, .int .u32 0, .int .u32 0, .int .u32 0, .int .u32 0], .int .i64 2]) (by simp [results, Tryz.results133, go_sem, r0, r1, r2, r3, r4, r5]) rfl ⟨0, 0, 0, 0, 0, 0, by rw [Ht2.out], kz⟩
  | false =>
   have Hw := Lib.hid (show whyN p.a n = 0 by simp [whyN, hb])
   have Ht2 := Lib.hid (show (if toldB p then (0 : Int) else 2) = 0 by rw [Ht.out, hb]; rfl)
   rw [Hw.out]
   clear hb
   obtain ⟨Z, hZ, R, kz⟩ := fin.out (.int .i64 2) (.int .i64 0) (.int .u32 p.a) (.int .u32 (maskN n)) (.int .u32 0) (.int .u32 1)
   go_wp2_with fail
   obtain ⟨r0, r1, r2, r3, r4, r5⟩ := Blk.v6 R (.int .i64 2) (.int .i64 0) (.int .u32 p.a) (.int .u32 (maskN n)) (.int .u32 0) (.int .u32 1) rfl
   exact bodyPost_ret (v := .tuple #[.agg #[.int .i64 2, .int .i64 0, .int .u32 p.a, .int .u32 (maskN n), .int .u32 0, .int .u32 1], .int .i64 0]) (by simp [results, Tryz.results133, go_sem, r0, r1, r2, r3, r4, r5]) rfl ⟨2, 0, p.a, maskN n, 0, 1, by rw [Ht2.out], kz⟩
set_option maxRecDepth 100000 in
theorem vgG (r : Rt) (w : World) (ha : r.p.a < 4294967296) : Calls Tryz.prog 136 #[.agg #[.int .u32 r.p.a, .int .i64 r.p.l, .int .i64 r.s, .int .i64 r.m, .int .i64 r.l, .int .i64 r.f, .int .u32 r.x, .int .i64 r.d, .bool r.c]] w fun e w' => e = .returned (.bool (toldB r.p)) ∧ Kp w w' := by
 go_enter Tryz.func136, Tryz.ntmps136
 go_wp2_with fail
 refine (vlD r.p _ ha).mono ?_
 rintro e w1 ⟨x0, x1, x2, x3, x4, x5, rfl, hK1⟩
 have k1 : Kp w w1 := ((Kp.refl _).alloc _).trans hK1
 cases h : toldB r.p with
 | true =>
  have H := Lib.hid h; clear h
  simp only [if_true]
  go_wp2_with fail
  go_ret
  exact ⟨by rw [H.out]; rfl, k1.alloc _⟩
 | false =>
  have H := Lib.hid h; clear h
  simp only [Bool.false_eq_true, if_false]
  go_wp2_with fail
  go_ret
  exact ⟨by rw [H.out]; rfl, k1.alloc _⟩
theorem vcZ (w : World) (n : Nat) (e : Bool) (k : Int) : (Instr.checkKey e (n + 1) 46 (.int .i64 k)).run Tryz.prog w = .ok () w := by
 unfold Instr.checkKey
 simp [run_underlying Tryz.underlying46, Result.andThen]
theorem vea (w : World) (k : Int) (es : List MapEntry) {r : Option (Nat × Value)} (h : Instr.findNow (.int .i64) (.int .i64 k) es 0 = some r) : (Instr.findKey 46 (.int .i64 k) es).run Tryz.prog w = .ok r w := by
 unfold Instr.findKey
 simp [run_underlying Tryz.underlying46, Result.andThen, h]
theorem vmA (w : World) (o o' : Obj) : ({ w.alloc o with heap := (w.alloc o).heap.setIfInBounds w.heap.size o' } : World) = w.alloc o' := by
 have h : (w.heap.push o).setIfInBounds w.heap.size o' = w.heap.push o' := by
  apply Array.ext_getElem?
  intro i
  rw [Array.getElem?_setIfInBounds, Array.getElem?_push, Array.getElem?_push]
  by_cases e : w.heap.size = i
  ·subst e; simp
  ·simp [e, Ne.symm e]
 unfold World.alloc
 simp only [h]
theorem vda (w : World) (es : Array MapEntry) (clock : Nat) (k : Int) (v : Value) (h : Instr.findNow (.int .i64) (.int .i64 k) es.toList 0 = some none) :
  (Instr.mapUpdate 197 (.map (some w.heap.size)) (.int .i64 k) v).run Tryz.prog (w.alloc (.map es clock)) = .ok () (w.alloc (.map (es.push { key := .int .i64 k, val := v, born := clock }) (clock + 1))) := by
 have hb : (w.alloc (.map es clock)).heap[w.heap.size]? = some (.map es clock) := World.alloc_heap_new w _
 unfold Instr.mapUpdate
 simp [run_underlying Tryz.underlying197, MapKept.run_getObj_map hb, vcZ, vea _ _ _ h, MapKept.run_setObj_map _ hb, Result.andThen]
 exact vmA w _ _
theorem ins0 (w : World) (v0 : Value) : (Instr.mapUpdate 197 (.map (some w.heap.size)) (.int .i64 0) v0).run Tryz.prog (w.alloc (.map #[] 0)) = .ok () (w.alloc (.map #[{ key := .int .i64 0, val := v0, born := 0 }] 1)) := vda w #[] 0 0 v0 rfl
theorem ins1 (w : World) (v0 v1 : Value) : (Instr.mapUpdate 197 (.map (some w.heap.size)) (.int .i64 1) v1).run Tryz.prog (w.alloc (.map #[{ key := .int .i64 0, val := v0, born := 0 }] 1)) = .ok () (w.alloc (.map #[{ key := .int .i64 0, val := v0, born := 0 }, { key := .int .i64 1, val := v1, born := 1 }] 2)) := vda w #[{ key := .int .i64 0, val := v0, born := 0 }] 1 1 v1 rfl
theorem ins2 (w : World) (v0 v1 v2 : Value) : (Instr.mapUpdate 197 (.map (some w.heap.size)) (.int .i64 2) v2).run Tryz.prog (w.alloc (.map #[{ key := .int .i64 0, val := v0, born := 0 }, { key := .int .i64 1, val := v1, born := 1 }] 2)) = .ok () (w.alloc (.map #[{ key := .int .i64 0, val := v0, born := 0 }, { key := .int .i64 1, val := v1, born := 1 }, { key := .int .i64 2, val := v2, born := 2 }] 3)) := vda w #[{ key := .int .i64 0, val := v0, born := 0 }, { key := .int .i64 1, val := v1, born := 1 }] 2 2 v2 rfl
theorem ins3 (w : World) (v0 v1 v2 v3 : Value) : (Instr.mapUpdate 197 (.map (some w.heap.size)) (.int .i64 3) v3).run Tryz.prog (w.alloc (.map #[{ key := .int .i64 0, val := v0, born := 0 }, { key := .int .i64 1, val := v1, born := 1 }, { key := .int .i64 2, val := v2, born := 2 }] 3)) = .ok () (w.alloc (.map #[{ key := .int .i64 0, val := v0, born := 0 }, { key := .int .i64 1, val := v1, born := 1 }, { key := .int .i64 2, val := v2, born := 2 }, { key := .int .i64 3, val := v3, born := 3 }] 4)) := vda w #[{ key := .int .i64 0, val := v0, born := 0 }, { key := .int .i64 1, val := v1, born := 1 }, { key := .int .i64 2, val := v2, born := 2 }] 3 3 v3 rfl
theorem ins4 (w : World) (v0 v1 v2 v3 v4 : Value) : (Instr.mapUpdate 197 (.map (some w.heap.size)) (.int .i64 4) v4).run Tryz.prog (w.alloc (.map #[{ key := .int .i64 0, val := v0, born := 0 }, { key := .int .i64 1, val := v1, born := 1 }, { key := .int .i64 2, val := v2, born := 2 }, { key := .int .i64 3, val := v3, born := 3 }] 4)) = .ok () (w.alloc (.map #[{ key := .int .i64 0, val := v0, born := 0 }, { key := .int .i64 1, val := v1, born := 1 }, { key := .int .i64 2, val := v2, born := 2 }, { key := .int .i64 3, val := v3, born := 3 }, { key := .int .i64 4, val := v4, born := 4 }] 5)) := vda w #[{ key := .int .i64 0, val := v0, born := 0 }, { key := .int .i64 1, val := v1, born := 1 }, { key := .int .i64 2, val := v2, born := 2 }, { key := .int .i64 3, val := v3, born := 3 }] 4 4 v4 rfl
def stFn : Nat → FuncId
 | 0 => 171
 | 1 => 174
 | 2 => 175
 | 3 => 177
 | _ => 178
def stV (k : Nat) : Value := .iface 199 (.func (.func (stFn k)) #[] #[])
def stE (k : Nat) : MapEntry := { key := .int .i64 k, val := stV k, born := k }
set_option maxRecDepth 100000 in
theorem vdF (w : World) : Calls Tryz.prog 135 #[] w fun e w' => e = .returned (.map (some w.heap.size)) ∧ w' = w.alloc (.map #[stE 0, stE 1, stE 2, stE 3, stE 4] 5) := by
 have hmm := @run_makeMap Tryz.prog
 have i0 := ins0 w
 have i1 := ins1 w
 have i2 := ins2 w
 have i3 := ins3 w
 have i4 := ins4 w
 go_enter Tryz.func135, Tryz.ntmps135
 go_wp2_with fail
 go_ret
 exact ⟨rfl, rfl⟩
theorem vmB (k : Int) : Instr.findNow (.int .i64) (.int .i64 k) [stE 0, stE 1, stE 2, stE 3, stE 4] 0 =
  some (if k = 0 then some (0, stV 0) else if k = 1 then some (1, stV 1) else if k = 2 then some (2, stV 2) else if k = 3 then some (3, stV 3) else if k = 4 then some (4, stV 4) else none) := by
 have hb : ∀ (a b : Int), (a == b) = decide (a = b) := fun a b => by cases h : a == b <;> simp_all
 simp only [Instr.findNow, Instr.sameNow, stE, if_true, hb]
 by_cases h0 : k = 0
 ·simp [h0]
 ·by_cases h1 : k = 1
  ·simp [h1]
  ·by_cases h2 : k = 2
   ·simp [h2]
   ·by_cases h3 : k = 3
    ·simp [h3]
    ·by_cases h4 : k = 4
     ·simp [h4]
     ·simp [h0, h1, h2, h3, h4]
theorem vkf (w : World) (r : Nat) (hr : w.heap[r]? = some (.map #[stE 0, stE 1, stE 2, stE 3, stE 4] 5)) (k : Int) (j : Nat) (v : Value) (h : Instr.findNow (.int .i64) (.int .i64 k) [stE 0, stE 1, stE 2, stE 3, stE 4] 0 = some (some (j, v))) :
  (Instr.lookup 197 (.map (some r)) (.int .i64 k) true).run Tryz.prog w = .ok (.tuple #[v, .bool true]) w := by
 unfold Instr.lookup
 simp [run_underlying Tryz.underlying197, MapKept.run_getObj_map hr, vcZ, vea _ _ _ h, Result.andThen]
theorem vhU (w : World) : (zeroValue 20).run Tryz.prog w = .ok .nilIface w := by kernel_rfl
theorem vhV (w : World) (r : Nat) (hr : w.heap[r]? = some (.map #[stE 0, stE 1, stE 2, stE 3, stE 4] 5)) (k : Int) (h : Instr.findNow (.int .i64) (.int .i64 k) [stE 0, stE 1, stE 2, stE 3, stE 4] 0 = some none) :
  (Instr.lookup 197 (.map (some r)) (.int .i64 k) true).run Tryz.prog w = .ok (.tuple #[.nilIface, .bool false]) w := by
 unfold Instr.lookup
 simp [run_underlying Tryz.underlying197, MapKept.run_getObj_map hr, vcZ, vea _ _ _ h, Result.andThen, vhU]
end

section
theorem vdG {P : Program} {Q : Exit → Act → World → Prop} {a : Act} {w : World} {fuel : Nat} {L : List Oper} {listed : Array Bool} (k : Nat) (hf : fuel = (L.drop k).length)
  (hB : Region.seqB .any L.toArray (L.drop k).length k listed = true) (h : wpList P L.toArray Q (L.drop k) a w) : wpAny P .any L.toArray Q fuel listed a w := by
 subst hf
 exact wpAny_of_seq (L.drop k) k listed a w (fun j => by simp) hB h
end

section
open Go.RowKit
theorem vhW (w : World) (f : FuncId) : (Instr.typeAssert (.iface 199 (.func (.func f) #[] #[])) 20 199 false).run Tryz.prog w = .ok (.func (.func f) #[] #[]) w := by kernel_rfl
set_option maxRecDepth 100000 in
theorem vbn (r : Rt) (j : Nat) (fid : FuncId) (b : Bool) (w : World) (ha : r.p.a < 4294967296) (hf : Instr.findNow (.int .i64) (.int .i64 r.s) [stE 0, stE 1, stE 2, stE 3, stE 4] 0 = some (some (j, .iface 199 (.func (.func fid) #[] #[]))))
  (hc : ∀ args w, (callFunc fid args).run Tryz.prog w = .ok (.enter fid args) w) (hst : ∀ w, Calls Tryz.prog fid #[.agg #[.int .u32 r.p.a, .int .i64 r.p.l, .int .i64 r.s, .int .i64 r.m, .int .i64 r.l, .int .i64 r.f, .int .u32 r.x, .int .i64 r.d, .bool r.c]] w fun e w' => e = .returned (.bool b) ∧ Kp w w') :
  Calls Tryz.prog 98 #[.agg #[.int .u32 r.p.a, .int .i64 r.p.l, .int .i64 r.s, .int .i64 r.m, .int .i64 r.l, .int .i64 r.f, .int .u32 r.x, .int .i64 r.d, .bool r.c]] w fun e w' => e = .returned (.int .i64 (if b && toldB r.p then 0 else 2)) ∧ Kp w w' := by
 obtain ⟨T, hT⟩ : ∃ T, toldB r.p = T := ⟨_, rfl⟩
 rw [hT]
 have HT := Lib.hid hT; clear hT
 have Hf := Lib.hid hf; clear hf
 have Hst := Lib.hid hst; clear hst
 have hta := vhW
 obtain ⟨W, hW, kW, B0, B1⟩ : ∃ W, (w.alloc (.cells #[.int .u32 r.p.a, .int .i64 r.p.l, .int .i64 r.s, .int .i64 r.m, .int .i64 r.l, .int .i64 r.f, .int .u32 r.x, .int .i64 r.d, .bool r.c] 48)).alloc (.cells #[.int .u32 r.p.a, .int .i64 r.p.l, .int .i64 r.s, .int .i64 r.m, .int .i64 r.l, .int .i64 r.f, .int .u32 r.x, .int .i64 r.d, .bool r.c] 170) = W ∧ Kp w W ∧ Blk W w.heap.size 48 #[.int .u32 r.p.a, .int .i64 r.p.l, .int .i64 r.s, .int .i64 r.m, .int .i64 r.l, .int .i64 r.f, .int .u32 r.x, .int .i64 r.d, .bool r.c] ∧ Blk W (w.heap.size + 1) 170 #[.int .u32 r.p.a, .int .i64 r.p.l, .int .i64 r.s, .int .i64 r.m, .int .i64 r.l, .int .i64 r.f, .int .u32 r.x, .int .i64 r.d, .bool r.c] :=
  ⟨_, rfl, ((Kp.refl _).alloc _).alloc _, (Blk.new w _ _).alloc _, Blk.new1 w _ _ _⟩
 have s2 : W.cell? ⟨w.heap.size, 2, none⟩ = some (.int .i64 r.s) := B0.cell 2
 go_enter Tryz.func98, Tryz.ntmps98
 go_wp2_with fail
 go_upto_region 2 with (fail)
 go_cut [4, 5] from 8 to 14 (fun s4 s5 wx => s4 = .iface 199 (.func (.func fid) #[] #[]) ∧ s5 = .bool true ∧ Kp W wx)
 case first =>
  go_region_held3 (fun w' => w'.cell? ⟨w.heap.size, 2, none⟩ = some (.int .i64 r.s)) (first | exact Ka.cell s2 | go_keep)
   (first | (go_at_call 135; refine (vdF _).mono ?_; rintro e wa ⟨rfl, hwa⟩; have Ka : Kp W wa := (by rw [hwa]; exact (Kp.refl W).drew.alloc _); have hlk := vkf wa W.heap.size (by rw [hwa]; exact World.alloc_heap_new W.drew _) r.s j _ Hf.out; clear hwa))
  go_wp2_with fail
  go_meet
  case rel => exact ⟨rfl, rfl, Ka⟩
 case rest =>
  obtain ⟨rfl, rfl, hKc⟩ := hcut
  have k2 := kW.trans hKc
  have D := B1.keep hKc
  clear s2 hW
  have c0 := Blk.f D rfl
  go_wp2_with fail
  refine wp_region_any (by kernel_rfl) ?_
  change wpAny _ _ _ _ _ _ _ (World.drew _)
  obtain ⟨V, hV⟩ : ∃ V, wc.drew = V := ⟨_, rfl⟩
  have KV : Kp wc V := by rw [← hV]; exact (Kp.refl _).drew
  rw [hV]
  have DV := D.keep KV
  clear hV c0
  have c0 := Blk.f DV rfl
  refine wpAny_take (i := 0) (v := .bool true) rfl (by kernel_rfl) (by kernel_rfl) (by kernel_rfl) (fun _ _ _ h => h) (Or.inl ⟨by rfl, fun w => by go_simp⟩) ?_
  refine wpAny_take (i := 1) (v := .bool false) rfl (by kernel_rfl) (by kernel_rfl) (by kernel_rfl) (fun _ _ _ h => h) (Or.inl ⟨by rfl, fun w => by go_simp⟩) ?_
  refine wpAny_take (i := 2) (v := .bool false) rfl (by kernel_rfl) (by kernel_rfl) (by kernel_rfl) (fun _ _ _ h => h) (Or.inl ⟨by rfl, fun w => by go_simp⟩) ?_
  refine wpAny_take (i := 3) (v := .iface 199 (.func (.func fid) #[] #[])) rfl (by kernel_rfl) (by kernel_rfl) (by kernel_rfl) (fun _ _ _ h => h) (Or.inl ⟨by rfl, fun w => by go_simp⟩) ?_
  refine wpAny_take (i := 4) (v := .func (.func fid) #[] #[]) rfl (by kernel_rfl) (by kernel_rfl) (by kernel_rfl) (fun _ _ _ h => h) (Or.inl ⟨by rfl, fun w => by go_simp⟩) ?_
  refine vdG 5 rfl (by kernel_rfl) ?_
  simp only [List.drop_succ_cons, List.drop_zero]
  go_wp2_with fail
  refine (Hst.out _).mono ?_
  rintro e wa ⟨rfl, hKa⟩
  have ka := k2.trans (KV.trans hKa)
  have Da := DV.keep hKa
  clear c0
  have c0 := Blk.f Da rfl
  cases b with
  | false =>
   go_wp2_with fail
   go_ret
   exact ⟨rfl, ka⟩
  | true =>
   go_wp2_with fail
   refine (vgG r _ ha).mono ?_
   rintro e wb ⟨rfl, hKb⟩
   rw [HT.out]
   cases T with
   | true =>
    go_wp2_with fail
    go_ret
    exact ⟨rfl, ka.trans hKb⟩
   | false =>
    go_wp2_with fail
    go_ret
    exact ⟨rfl, ka.trans hKb⟩
set_option maxRecDepth 100000 in
theorem vgH (r : Rt) (w : World) (hf : Instr.findNow (.int .i64) (.int .i64 r.s) [stE 0, stE 1, stE 2, stE 3, stE 4] 0 = some none) :
  Calls Tryz.prog 98 #[.agg #[.int .u32 r.p.a, .int .i64 r.p.l, .int .i64 r.s, .int .i64 r.m, .int .i64 r.l, .int .i64 r.f, .int .u32 r.x, .int .i64 r.d, .bool r.c]] w fun e w' => e = .returned (.int .i64 2) ∧ Kp w w' := by
 have Hf := Lib.hid hf; clear hf
 obtain ⟨W, hW, kW, B0, B1⟩ : ∃ W, (w.alloc (.cells #[.int .u32 r.p.a, .int .i64 r.p.l, .int .i64 r.s, .int .i64 r.m, .int .i64 r.l, .int .i64 r.f, .int .u32 r.x, .int .i64 r.d, .bool r.c] 48)).alloc (.cells #[.int .u32 r.p.a, .int .i64 r.p.l, .int .i64 r.s, .int .i64 r.m, .int .i64 r.l, .int .i64 r.f, .int .u32 r.x, .int .i64 r.d, .bool r.c] 170) = W ∧ Kp w W ∧ Blk W w.heap.size 48 #[.int .u32 r.p.a, .int .i64 r.p.l, .int .i64 r.s, .int .i64 r.m, .int .i64 r.l, .int .i64 r.f, .int .u32 r.x, .int .i64 r.d, .bool r.c] ∧ Blk W (w.heap.size + 1) 170 #[.int .u32 r.p.a, .int .i64 r.p.l, .int .i64 r.s, .int .i64 r.m, .int .i64 r.l, .int .i64 r.f, .int .u32 r.x, .int .i64 r.d, .bool r.c] :=
  ⟨_, rfl, ((Kp.refl _).alloc _).alloc _, (Blk.new w _ _).alloc _, Blk.new1 w _ _ _⟩
 have s2 : W.cell? ⟨w.heap.size, 2, none⟩ = some (.int .i64 r.s) := B0.cell 2
 go_enter Tryz.func98, Tryz.ntmps98
 go_wp2_with fail
 go_upto_region 2 with (fail)
 go_cut [4, 5] from 8 to 14 (fun s4 s5 wx => s4 = .nilIface ∧ s5 = .bool false ∧ Kp W wx)
 case first =>
  go_region_held3 (fun w' => w'.cell? ⟨w.heap.size, 2, none⟩ = some (.int .i64 r.s)) (first | exact Ka.cell s2 | go_keep)
   (first | (go_at_call 135; refine (vdF _).mono ?_; rintro e wa ⟨rfl, hwa⟩; have Ka : Kp W wa := (by rw [hwa]; exact (Kp.refl W).drew.alloc _); have hlk := vhV wa W.heap.size (by rw [hwa]; exact World.alloc_heap_new W.drew _) r.s Hf.out; clear hwa))
  go_wp2_with fail
  go_meet
  case rel => exact ⟨rfl, rfl, Ka⟩
 case rest =>
  obtain ⟨rfl, rfl, hKc⟩ := hcut
  have k2 := kW.trans hKc
  go_wp2_with fail
  go_quiet (fail)
  go_wp2_with fail
  go_ret
  exact ⟨rfl, k2.drewN _⟩
theorem vkg (args : Array Value) (w : World) : (callFunc 171 args).run Tryz.prog w = .ok (.enter 171 args) w := by kernel_rfl
theorem vkh (args : Array Value) (w : World) : (callFunc 174 args).run Tryz.prog w = .ok (.enter 174 args) w := by kernel_rfl
theorem vki (args : Array Value) (w : World) : (callFunc 175 args).run Tryz.prog w = .ok (.enter 175 args) w := by kernel_rfl
theorem vkj (args : Array Value) (w : World) : (callFunc 177 args).run Tryz.prog w = .ok (.enter 177 args) w := by kernel_rfl
theorem vkk (args : Array Value) (w : World) : (callFunc 178 args).run Tryz.prog w = .ok (.enter 178 args) w := by kernel_rfl
theorem vdH (r : Rt) (w : World) (ha : r.p.a < 4294967296) (hx : r.x < 4294967296) : Calls Tryz.prog 98 #[.agg #[.int .u32 r.p.a, .int .i64 r.p.l, .int .i64 r.s, .int .i64 r.m, .int .i64 r.l, .int .i64 r.f, .int .u32 r.x, .int .i64 r.d, .bool r.c]] w fun e w' => e = .returned (.int .i64 (checkR r)) ∧ Kp w w' := by
 have hf := vmB r.s
 by_cases h0 : r.s = 0
 ·have hb : stateB r = (hasB r 0 0 && (nowB r && !r.c)) := by simp [stateB, h0]
  refine (vbn r 0 171 (hasB r 0 0 && (nowB r && !r.c)) w ha (by rw [hf]; simp [h0, stV, stFn]) vkg (fun w => vmv r w)).mono ?_
  rintro e w' ⟨rfl, hK⟩
  exact ⟨by simp only [checkR, hb], hK⟩
 by_cases h1 : r.s = 1
 ·have hb : stateB r = (hasB r 1 0 && nowB r) := by simp [stateB, h1]
  refine (vbn r 1 174 (hasB r 1 0 && nowB r) w ha (by rw [hf]; simp [h1, stV, stFn]) vkh (fun w => vmw r w)).mono ?_
  rintro e w' ⟨rfl, hK⟩
  exact ⟨by simp only [checkR, hb], hK⟩
 by_cases h2 : r.s = 2
 ·have hb : stateB r = (withB 2 15 r.m && (hasB r r.m 0 && someB r)) := by simp [stateB, h2]
  refine (vbn r 2 175 (withB 2 15 r.m && (hasB r r.m 0 && someB r)) w ha (by rw [hf]; simp [h2, stV, stFn]) vki (fun w => vmy r w hx)).mono ?_
  rintro e w' ⟨rfl, hK⟩
  exact ⟨by simp only [checkR, hb], hK⟩
 by_cases h3 : r.s = 3
 ·have hb : stateB r = (withB 2 15 r.l && (hasB r 16 r.l && someB r)) := by simp [stateB, h3]
  refine (vbn r 3 177 (withB 2 15 r.l && (hasB r 16 r.l && someB r)) w ha (by rw [hf]; simp [h3, stV, stFn]) vkj (fun w => vmz r w hx)).mono ?_
  rintro e w' ⟨rfl, hK⟩
  exact ⟨by simp only [checkR, hb], hK⟩
 by_cases h4 : r.s = 4
 ·have hb : stateB r = (hasB r 16 0 && someB r) := by simp [stateB, h4]
  refine (vbn r 4 178 (hasB r 16 0 && someB r) w ha (by rw [hf]; simp [h4, stV, stFn]) vkk (fun w => vmx r w hx)).mono ?_
  rintro e w' ⟨rfl, hK⟩
  exact ⟨by simp only [checkR, hb], hK⟩
 have hb : stateB r = false := by simp [stateB, h0, h1, h2, h3, h4]
 simp only [h0, h1, h2, h3, h4, if_false] at hf
 refine (vgH r w hf).mono ?_
 rintro e w' ⟨rfl, hK⟩
 exact ⟨by simp [checkR, hb], hK⟩
def cmpI (x y : Int) : Int := if x < y then -1 else if y < x then 1 else 0
def ordI (a l b k : Int) : Int := if cmpI a b = 0 then cmpI l k else cmpI a b
theorem veb (x : Int) (w : World) : Calls Tryz.prog 163 #[.int .u32 x] w fun e w' => e = .returned (.bool false) ∧ w = w' := by
 go_enter Tryz.func163, Tryz.ntmps163
 go_wp2_with fail
 go_ret
 exact ⟨rfl, rfl⟩
theorem vec (x : Int) (w : World) : Calls Tryz.prog 164 #[.int .i64 x] w fun e w' => e = .returned (.bool false) ∧ w = w' := by
 go_enter Tryz.func164, Tryz.ntmps164
 go_wp2_with fail
 go_ret
 exact ⟨rfl, rfl⟩
theorem vfX (x y : Int) (w : World) : Calls Tryz.prog 123 #[.int .u32 x, .int .u32 y] w fun e w' => e = .returned (.int .i64 (cmpI x y)) ∧ w = w' := by
 obtain ⟨r, hr⟩ : ∃ r, cmpI x y = r := ⟨_, rfl⟩
 rw [hr]
 have Hr := Lib.hid hr; clear hr
 by_cases h1 : x < y
 ·have d1 : decide (x < y) = true := by simpa using h1
  have e : r = -1 := by rw [← Hr.out]; simp [cmpI, h1]
  subst e
  clear h1 Hr
  go_enter Tryz.func123, Tryz.ntmps123
  go_wp2_with (go_at_call 163; refine (veb _ _).mono ?_; rintro e w' ⟨rfl, rfl⟩)
  go_ret
  exact ⟨rfl, rfl⟩
 ·have d1 : decide (x < y) = false := by simpa using h1
  by_cases h2 : y < x
  ·have d2 : decide (y < x) = true := by simpa using h2
   have e : r = 1 := by rw [← Hr.out]; simp [cmpI, h1, h2]
   subst e
   clear h1 h2 Hr
   go_enter Tryz.func123, Tryz.ntmps123
   go_wp2_with (go_at_call 163; refine (veb _ _).mono ?_; rintro e w' ⟨rfl, rfl⟩)
   go_ret
   exact ⟨rfl, rfl⟩
  ·have d2 : decide (y < x) = false := by simpa using h2
   have e : r = 0 := by rw [← Hr.out]; simp [cmpI, h1, h2]
   subst e
   clear h1 h2 Hr
   go_enter Tryz.func123, Tryz.ntmps123
   go_wp2_with (go_at_call 163; refine (veb _ _).mono ?_; rintro e w' ⟨rfl, rfl⟩)
   go_ret
   exact ⟨rfl, rfl⟩
theorem vfY (x y : Int) (w : World) : Calls Tryz.prog 124 #[.int .i64 x, .int .i64 y] w fun e w' => e = .returned (.int .i64 (cmpI x y)) ∧ w = w' := by
 obtain ⟨r, hr⟩ : ∃ r, cmpI x y = r := ⟨_, rfl⟩
 rw [hr]
 have Hr := Lib.hid hr; clear hr
 by_cases h1 : x < y
 ·have d1 : decide (x < y) = true := by simpa using h1
  have e : r = -1 := by rw [← Hr.out]; simp [cmpI, h1]
  subst e
  clear h1 Hr
  go_enter Tryz.func124, Tryz.ntmps124
  go_wp2_with (go_at_call 164; refine (vec _ _).mono ?_; rintro e w' ⟨rfl, rfl⟩)
  go_ret
  exact ⟨rfl, rfl⟩
 ·have d1 : decide (x < y) = false := by simpa using h1
  by_cases h2 : y < x
  ·have d2 : decide (y < x) = true := by simpa using h2
   have e : r = 1 := by rw [← Hr.out]; simp [cmpI, h1, h2]
   subst e
   clear h1 h2 Hr
   go_enter Tryz.func124, Tryz.ntmps124
   go_wp2_with (go_at_call 164; refine (vec _ _).mono ?_; rintro e w' ⟨rfl, rfl⟩)
   go_ret
   exact ⟨rfl, rfl⟩
  ·have d2 : decide (y < x) = false := by simpa using h2
   have e : r = 0 := by rw [← Hr.out]; simp [cmpI, h1, h2]
   subst e
   clear h1 h2 Hr
   go_enter Tryz.func124, Tryz.ntmps124
   go_wp2_with (go_at_call 164; refine (vec _ _).mono ?_; rintro e w' ⟨rfl, rfl⟩)
   go_ret
   exact ⟨rfl, rfl⟩
set_option maxRecDepth 100000 in
theorem vhX (x y : Int) (g : Nat) (w : World) (hB : Blk w g 3 #[.int .i64 x, .int .i64 y]) : Calls Tryz.prog 122 #[.slice (some ⟨g, 0, none⟩) 2 2] w fun e w' => e = .returned (.int .i64 (if x = 0 then y else x)) ∧ w = w' := by
 obtain ⟨c0, c1⟩ := Blk.v2 hB (.int .i64 x) (.int .i64 y) rfl
 clear hB
 obtain ⟨r, hr⟩ : ∃ r, (if x = 0 then y else x) = r := ⟨_, rfl⟩
 rw [hr]
 have Hr := Lib.hid hr; clear hr
 go_enter Tryz.func122, Tryz.ntmps122
 go_wp2_with fail
 go_loop [8] (fun i => ∃ k : Nat, k ≤ 2 ∧ i = .int .i64 k ∧ Hid (0 < k → x = 0) ∧ Hid (1 < k → y = 0)) (fun i => 2 - (intOf i).toNat)
 case atStart => exact ⟨0, by omega, rfl, fun h => absurd h (by omega), fun h => absurd h (by omega)⟩
 case round =>
  obtain ⟨k, hk, rfl, h0, h1⟩ := hrel
  have hc3 : k = 0 ∨ k = 1 ∨ k = 2 := by omega
  rcases hc3 with rfl | rfl | rfl
  ·by_cases hx : x = 0
   ·subst hx
    go_wp2_with fail
    go_round
    case rel => exact ⟨1, by omega, by go_num, fun _ => by trivial, fun h => absurd h (by omega)⟩
    case measure => simp [intOf]
   ·have hx1 : (x != 0) = true := by simpa using hx
    have e : r = x := by rw [← Hr.out, if_neg hx]
    subst e
    clear hx Hr
    go_wp2_with fail
    go_ret
    exact ⟨rfl, rfl⟩
  ·have hx : x = 0 := h0.out (by omega)
   subst hx
   have e : r = y := by rw [← Hr.out, if_pos rfl]
   subst e
   clear Hr h0 h1
   by_cases hy : r = 0
   ·subst hy
    go_wp2_with fail
    go_round
    case rel => exact ⟨2, by omega, by go_num, fun _ => by trivial, fun _ => by trivial⟩
    case measure => simp [intOf]
   ·have hy1 : (r != 0) = true := by simpa using hy
    clear hy
    go_wp2_with fail
    go_ret
    exact ⟨rfl, rfl⟩
  ·have hx : x = 0 := h0.out (by omega)
   have hy : y = 0 := h1.out (by omega)
   subst hx hy
   have e : r = 0 := by rw [← Hr.out, if_pos rfl]
   subst e
   clear Hr h0 h1
   go_wp2_with fail
   go_ret
   exact ⟨rfl, rfl⟩
set_option maxRecDepth 100000 in
theorem vhY (a l b k : Int) (w : World) : Calls Tryz.prog 86 #[.agg #[.int .u32 a, .int .i64 l], .agg #[.int .u32 b, .int .i64 k]] w fun e w' => e = .returned (.int .i64 (ordI a l b k)) ∧ Kp w w' := by
 obtain ⟨W, hW, kW, B0, B1⟩ := Blk.al2 (w := w) rfl #[.int .u32 a, .int .i64 l] 29 #[.int .u32 b, .int .i64 k] 29
 obtain ⟨x, hx⟩ : ∃ x, cmpI a b = x := ⟨_, rfl⟩
 obtain ⟨y, hy⟩ : ∃ y, cmpI l k = y := ⟨_, rfl⟩
 have Hx := Lib.hid hx
 have Hy := Lib.hid hy
 have Hr : Hid (ordI a l b k = if x = 0 then y else x) := by rw [← hx, ← hy]; exact Lib.hid rfl
 clear hx hy
 go_enter Tryz.func86, Tryz.ntmps86
 go_wp2_with fail
 refine vhH 10 (by kernel_rfl) (by kernel_rfl) (fun V hV => ?_)
 have KV : Kp W V := by rw [hV]; exact (Kp.refl _).drew
 obtain ⟨p0, p1⟩ := Blk.v2 (B0.keep KV) (.int .u32 a) (.int .i64 l) rfl
 obtain ⟨q0, q1⟩ := Blk.v2 (B1.keep KV) (.int .u32 b) (.int .i64 k) rfl
 clear hV hW
 simp only [List.take_succ_cons, List.take_zero, List.drop_succ_cons, List.drop_zero]
 still_step
 still_step
 still_step
 still_step
 still_call (by refine (vfX a b _).mono ?_; rintro e w' ⟨rfl, rfl⟩; rw [Hx.out]; exact ⟨rfl, rfl⟩)
 still_step
 still_step
 still_step
 still_step
 still_call (by refine (vfY l k _).mono ?_; rintro e w' ⟨rfl, rfl⟩; rw [Hy.out]; exact ⟨rfl, rfl⟩)
 refine wpStill_nil ?_
 clear p0 p1 q0 q1
 go_wp2_with fail
 refine (vhX x y V.heap.size _ (Blk.new V _ _)).mono ?_
 rintro e w' ⟨rfl, rfl⟩
 rw [← Hr.out]
 go_wp2_with fail
 go_ret
 exact ⟨rfl, (kW.trans KV).alloc _⟩
set_option maxRecDepth 100000 in
theorem vfl (w : World) (a l b k : Int) : (binOp .eql 29 (.agg #[.int .u32 a, .int .i64 l]) (.agg #[.int .u32 b, .int .i64 k])).run Tryz.prog w = .ok (.bool (a == b && l == k)) w := by
 rw [run_eql_struct, run_equalIn_agg w 9999 _ _ _ Tryz.underlying29 (by kernel_rfl)]
 simp [Op.eqFields, part, go_sem, Tryz.underlying3, Tryz.underlying27]
 by_cases h1 : a = b <;> by_cases h2 : l = k <;> simp [h1, h2]
theorem vhZ {x y : Int} (h : x < y) : cmpI x y = -1 := by unfold cmpI; rw [if_pos h]
theorem via {x y : Int} (h : y < x) : cmpI x y = 1 := by unfold cmpI; rw [if_neg (by omega), if_pos h]
theorem vcy (x : Int) : cmpI x x = 0 := by unfold cmpI; rw [if_neg (by omega), if_neg (by omega)]
set_option maxRecDepth 100000 in
theorem vaX (a l b k : Int) (w : World) : Calls Tryz.prog 117 #[.agg #[.int .u32 a, .int .i64 l], .agg #[.int .u32 b, .int .i64 k]] w fun e w' => e = .returned (.int .i64 (ordI a l b k)) ∧ Kp w w' := by
 have k2 : Kp w ((w.alloc (.cells #[.int .u32 a, .int .i64 l] 29)).alloc (.cells #[.int .u32 b, .int .i64 k] 29)) := ((Kp.refl _).alloc _).alloc _
 have hf := vfl
 rcases Int.lt_trichotomy a b with h1 | h1 | h1
 ·have e : ordI a l b k = -1 := by unfold ordI; rw [vhZ h1, if_neg (by decide)]
  rw [e]
  have d0 : (a == b) = false := by rw [beq_eq_false_iff_ne]; omega
  have d1 : decide (a < b) = true := by simpa using h1
  clear e
  go_enter Tryz.func117, Tryz.ntmps117
  go_wp2_with fail
  all_goals first
   | (go_ret; exact ⟨rfl, k2⟩)
   | omega
 ·subst h1
  have d0 : (a == a) = true := by simp
  have d1 : decide (a < a) = false := by simp
  rcases Int.lt_trichotomy l k with h2 | h2 | h2
  ·have e : ordI a l a k = -1 := by unfold ordI; rw [vcy, if_pos rfl, vhZ h2]
   rw [e]
   have d2 : (l == k) = false := by rw [beq_eq_false_iff_ne]; omega
   have d3 : decide (l < k) = true := by simpa using h2
   clear e
   go_enter Tryz.func117, Tryz.ntmps117
   go_wp2_with fail
   all_goals first
    | (go_ret; exact ⟨rfl, k2⟩)
    | omega
  ·subst h2
   have e : ordI a l a l = 0 := by unfold ordI; rw [vcy, if_pos rfl, vcy]
   rw [e]
   have d2 : (l == l) = true := by simp
   clear e
   go_enter Tryz.func117, Tryz.ntmps117
   go_wp2_with fail
   all_goals first
    | (go_ret; exact ⟨rfl, k2⟩)
    | omega
  ·have e : ordI a l a k = 1 := by unfold ordI; rw [vcy, if_pos rfl, via h2]
   rw [e]
   have d2 : (l == k) = false := by rw [beq_eq_false_iff_ne]; omega
   have d3 : decide (l < k) = false := by rw [decide_eq_false_iff_not]; omega
   clear e
   go_enter Tryz.func117, Tryz.ntmps117
   go_wp2_with fail
   all_goals first
    | (go_ret; exact ⟨rfl, k2⟩)
    | omega
 ·have e : ordI a l b k = 1 := by unfold ordI; rw [via h1, if_neg (by decide)]
  rw [e]
  have d0 : (a == b) = false := by rw [beq_eq_false_iff_ne]; omega
  have d1 : decide (a < b) = false := by rw [decide_eq_false_iff_not]; omega
  clear e
  go_enter Tryz.func117, Tryz.ntmps117
  go_wp2_with fail
  all_goals first
   | (go_ret; exact ⟨rfl, k2⟩)
   | omega
end

end Go.Proofs.YtffckpkikdlbpaaGreatDoor
