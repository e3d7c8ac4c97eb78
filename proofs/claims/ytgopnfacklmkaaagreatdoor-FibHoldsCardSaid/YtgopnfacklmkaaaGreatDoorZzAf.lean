/- Lemmas and contracts for the theorem of this claim: VRtC, VRtD, POrd, HeapL, QueL, TmA. -/
import Derived.Test.YtgopnfacklmkaaaGreatDoorZzAe
import Derived.Deep.DeepCutAuto
set_option linter.all false
set_option maxHeartbeats 16000000
namespace Go.Proofs.YtgopnfacklmkaaaGreatDoor
section
open Go.RowKit
theorem vja (w : World) (f : FuncId) : (Instr.typeAssert (.iface 302 (.func (.func f) #[] #[])) 20 302 false).run Tryz.prog w = .ok (.func (.func f) #[] #[]) w := by kernel_rfl
set_option maxRecDepth 100000 in
theorem vbE (r : Rt) (j : Nat) (fid : FuncId) (b : Bool) (w : World) (ha : r.p.a < 4294967296) (hf : Instr.findNow (.int .i64) (.int .i64 r.s) [stE 0, stE 1, stE 2, stE 3, stE 4] 0 = some (some (j, .iface 302 (.func (.func fid) #[] #[]))))
  (hc : ∀ args w, (callFunc fid args).run Tryz.prog w = .ok (.enter fid args) w) (hst : ∀ w, Calls Tryz.prog fid #[.agg #[.int .u32 r.p.a, .int .i64 r.p.l, .int .i64 r.s, .int .i64 r.m, .int .i64 r.l, .int .i64 r.f, .int .u32 r.x, .int .i64 r.d, .bool r.c]] w fun e w' => e = .returned (.bool b) ∧ Kp w w') :
  Calls Tryz.prog 118 #[.agg #[.int .u32 r.p.a, .int .i64 r.p.l, .int .i64 r.s, .int .i64 r.m, .int .i64 r.l, .int .i64 r.f, .int .u32 r.x, .int .i64 r.d, .bool r.c]] w fun e w' => e = .returned (.int .i64 (if b && toldB r.p then 0 else 2)) ∧ Kp w w' := by
 obtain ⟨T, hT⟩ : ∃ T, toldB r.p = T := ⟨_, rfl⟩
 rw [hT]
 have HT := Lib.hid hT; clear hT
 have Hf := Lib.hid hf; clear hf
 have Hst := Lib.hid hst; clear hst
 have hta := vja
 obtain ⟨W, hW, kW, B0, B1⟩ : ∃ W, (w.alloc (.cells #[.int .u32 r.p.a, .int .i64 r.p.l, .int .i64 r.s, .int .i64 r.m, .int .i64 r.l, .int .i64 r.f, .int .u32 r.x, .int .i64 r.d, .bool r.c] 52)).alloc (.cells #[.int .u32 r.p.a, .int .i64 r.p.l, .int .i64 r.s, .int .i64 r.m, .int .i64 r.l, .int .i64 r.f, .int .u32 r.x, .int .i64 r.d, .bool r.c] 255) = W ∧ Kp w W ∧ Blk W w.heap.size 52 #[.int .u32 r.p.a, .int .i64 r.p.l, .int .i64 r.s, .int .i64 r.m, .int .i64 r.l, .int .i64 r.f, .int .u32 r.x, .int .i64 r.d, .bool r.c] ∧ Blk W (w.heap.size + 1) 255 #[.int .u32 r.p.a, .int .i64 r.p.l, .int .i64 r.s, .int .i64 r.m, .int .i64 r.l, .int .i64 r.f, .int .u32 r.x, .int .i64 r.d, .bool r.c] :=
  ⟨_, rfl, ((Kp.refl _).alloc _).alloc _, (Blk.new w _ _).alloc _, Blk.new1 w _ _ _⟩
 have s2 : W.cell? ⟨w.heap.size, 2, none⟩ = some (.int .i64 r.s) := B0.cell 2
 go_enter Tryz.func118, Tryz.ntmps118
 go_wp2_with fail
 go_upto_region 2 with (fail)
 go_cut [4, 5] from 8 to 14 (fun s4 s5 wx => s4 = .iface 302 (.func (.func fid) #[] #[]) ∧ s5 = .bool true ∧ Kp W wx)
 case first =>
  go_region_held3 (fun w' => w'.cell? ⟨w.heap.size, 2, none⟩ = some (.int .i64 r.s)) (first | exact Ka.cell s2 | go_keep)
   (first | (go_at_call 172; refine (veq _).mono ?_; rintro e wa ⟨rfl, hwa⟩; have Ka : Kp W wa := (by rw [hwa]; exact (Kp.refl W).drew.alloc _); have hlk := vlu wa W.heap.size (by rw [hwa]; exact World.alloc_heap_new W.drew _) r.s j _ Hf.out; clear hwa))
  go_wp2_with fail
  go_meet
  case rel => exact ⟨rfl, rfl, Ka⟩
 case rest =>
  obtain ⟨rfl, rfl, hKc⟩ := hcut
  have k2 := kW.trans hKc
  have D := B1.keep hKc
  clear s2 hW
  have c0 := Blk.f D rfl
  go_wp2_with fail
  refine wp_region_any (by kernel_rfl) ?_
  change wpAny _ _ _ _ _ _ _ (World.drew _)
  obtain ⟨V, hV⟩ : ∃ V, wc.drew = V := ⟨_, rfl⟩
  have KV : Kp wc V := by rw [← hV]; exact (Kp.refl _).drew
  rw [hV]
  have DV := D.keep KV
  clear hV c0
  have c0 := Blk.f DV rfl
  refine wpAny_take (i := 0) (v := .bool true) rfl (by kernel_rfl) (by kernel_rfl) (by kernel_rfl) (fun _ _ _ h => h) (Or.inl ⟨by rfl, fun w => by go_simp⟩) ?_
  refine wpAny_take (i := 1) (v := .bool false) rfl (by kernel_rfl) (by kernel_rfl) (by kernel_rfl) (fun _ _ _ h => h) (Or.inl ⟨by rfl, fun w => by go_simp⟩) ?_
  refine wpAny_take (i := 2) (v := .bool false) rfl (by kernel_rfl) (by kernel_rfl) (by kernel_rfl) (fun _ _ _ h => h) (Or.inl ⟨by rfl, fun w => by go_simp⟩) ?_
  refine wpAny_take (i := 3) (v := .iface 302 (.func (.func fid) #[] #[])) rfl (by kernel_rfl) (by kernel_rfl) (by kernel_rfl) (fun _ _ _ h => h) (Or.inl ⟨by rfl, fun w => by go_simp⟩) ?_
  refine wpAny_take (i := 4) (v := .func (.func fid) #[] #[]) rfl (by kernel_rfl) (by kernel_rfl) (by kernel_rfl) (fun _ _ _ h => h) (Or.inl ⟨by rfl, fun w => by go_simp⟩) ?_
  refine vam 5 rfl (by kernel_rfl) ?_
  simp only [List.drop_succ_cons, List.drop_zero]
  go_wp2_with fail
  refine (Hst.out _).mono ?_
  rintro e wa ⟨rfl, hKa⟩
  have ka := k2.trans (KV.trans hKa)
  have Da := DV.keep hKa
  clear c0
  have c0 := Blk.f Da rfl
  cases b with
  | false =>
   go_wp2_with fail
   go_ret
   exact ⟨rfl, ka⟩
  | true =>
   go_wp2_with fail
   refine (vhI r _ ha).mono ?_
   rintro e wb ⟨rfl, hKb⟩
   rw [HT.out]
   cases T with
   | true =>
    go_wp2_with fail
    go_ret
    exact ⟨rfl, ka.trans hKb⟩
   | false =>
    go_wp2_with fail
    go_ret
    exact ⟨rfl, ka.trans hKb⟩
set_option maxRecDepth 100000 in
theorem vhJ (r : Rt) (w : World) (hf : Instr.findNow (.int .i64) (.int .i64 r.s) [stE 0, stE 1, stE 2, stE 3, stE 4] 0 = some none) :
  Calls Tryz.prog 118 #[.agg #[.int .u32 r.p.a, .int .i64 r.p.l, .int .i64 r.s, .int .i64 r.m, .int .i64 r.l, .int .i64 r.f, .int .u32 r.x, .int .i64 r.d, .bool r.c]] w fun e w' => e = .returned (.int .i64 2) ∧ Kp w w' := by
 have Hf := Lib.hid hf; clear hf
 obtain ⟨W, hW, kW, B0, B1⟩ : ∃ W, (w.alloc (.cells #[.int .u32 r.p.a, .int .i64 r.p.l, .int .i64 r.s, .int .i64 r.m, .int .i64 r.l, .int .i64 r.f, .int .u32 r.x, .int .i64 r.d, .bool r.c] 52)).alloc (.cells #[.int .u32 r.p.a, .int .i64 r.p.l, .int .i64 r.s, .int .i64 r.m, .int .i64 r.l, .int .i64 r.f, .int .u32 r.x, .int .i64 r.d, .bool r.c] 255) = W ∧ Kp w W ∧ Blk W w.heap.size 52 #[.int .u32 r.p.a, .int .i64 r.p.l, .int .i64 r.s, .int .i64 r.m, .int .i64 r.l, .int .i64 r.f, .int .u32 r.x, .int .i64 r.d, .bool r.c] ∧ Blk W (w.heap.size + 1) 255 #[.int .u32 r.p.a, .int .i64 r.p.l, .int .i64 r.s, .int .i64 r.m, .int .i64 r.l, .int .i64 r.f, .int .u32 r.x, .int .i64 r.d, .bool r.c] :=
  ⟨_, rfl, ((Kp.refl _).alloc _).alloc _, (Blk.new w _ _).alloc _, Blk.new1 w _ _ _⟩
 have s2 : W.cell? ⟨w.heap.size, 2, none⟩ = some (.int .i64 r.s) := B0.cell 2
 go_enter Tryz.func118, Tryz.ntmps118
 go_wp2_with fail
 go_upto_region 2 with (fail)
 go_cut [4, 5] from 8 to 14 (fun s4 s5 wx => s4 = .nilIface ∧ s5 = .bool false ∧ Kp W wx)
 case first =>
  go_region_held3 (fun w' => w'.cell? ⟨w.heap.size, 2, none⟩ = some (.int .i64 r.s)) (first | exact Ka.cell s2 | go_keep)
   (first | (go_at_call 172; refine (veq _).mono ?_; rintro e wa ⟨rfl, hwa⟩; have Ka : Kp W wa := (by rw [hwa]; exact (Kp.refl W).drew.alloc _); have hlk := viZ wa W.heap.size (by rw [hwa]; exact World.alloc_heap_new W.drew _) r.s Hf.out; clear hwa))
  go_wp2_with fail
  go_meet
  case rel => exact ⟨rfl, rfl, Ka⟩
 case rest =>
  obtain ⟨rfl, rfl, hKc⟩ := hcut
  have k2 := kW.trans hKc
  go_wp2_with fail
  go_quiet (fail)
  go_wp2_with fail
  go_ret
  exact ⟨rfl, k2.drewN _⟩
theorem vlv (args : Array Value) (w : World) : (callFunc 244 args).run Tryz.prog w = .ok (.enter 244 args) w := by kernel_rfl
theorem vlw (args : Array Value) (w : World) : (callFunc 247 args).run Tryz.prog w = .ok (.enter 247 args) w := by kernel_rfl
theorem vlx (args : Array Value) (w : World) : (callFunc 248 args).run Tryz.prog w = .ok (.enter 248 args) w := by kernel_rfl
theorem vly (args : Array Value) (w : World) : (callFunc 250 args).run Tryz.prog w = .ok (.enter 250 args) w := by kernel_rfl
theorem vlz (args : Array Value) (w : World) : (callFunc 251 args).run Tryz.prog w = .ok (.enter 251 args) w := by kernel_rfl
theorem vbo (r : Rt) (w : World) (ha : r.p.a < 4294967296) (hx : r.x < 4294967296) : Calls Tryz.prog 118 #[.agg #[.int .u32 r.p.a, .int .i64 r.p.l, .int .i64 r.s, .int .i64 r.m, .int .i64 r.l, .int .i64 r.f, .int .u32 r.x, .int .i64 r.d, .bool r.c]] w fun e w' => e = .returned (.int .i64 (checkR r)) ∧ Kp w w' := by
 have hf := vnI r.s
 by_cases h0 : r.s = 0
 ·have hb : stateB r = (hasB r 0 0 && (nowB r && !r.c)) := by simp [stateB, h0]
  refine (vbE r 0 244 (hasB r 0 0 && (nowB r && !r.c)) w ha (by rw [hf]; simp [h0, stV, stFn]) vlv (fun w => vnB r w)).mono ?_
  rintro e w' ⟨rfl, hK⟩
  exact ⟨by simp only [checkR, hb], hK⟩
 by_cases h1 : r.s = 1
 ·have hb : stateB r = (hasB r 1 0 && nowB r) := by simp [stateB, h1]
  refine (vbE r 1 247 (hasB r 1 0 && nowB r) w ha (by rw [hf]; simp [h1, stV, stFn]) vlw (fun w => vnC r w)).mono ?_
  rintro e w' ⟨rfl, hK⟩
  exact ⟨by simp only [checkR, hb], hK⟩
 by_cases h2 : r.s = 2
 ·have hb : stateB r = (withB 2 15 r.m && (hasB r r.m 0 && someB r)) := by simp [stateB, h2]
  refine (vbE r 2 248 (withB 2 15 r.m && (hasB r r.m 0 && someB r)) w ha (by rw [hf]; simp [h2, stV, stFn]) vlx (fun w => vnE r w hx)).mono ?_
  rintro e w' ⟨rfl, hK⟩
  exact ⟨by simp only [checkR, hb], hK⟩
 by_cases h3 : r.s = 3
 ·have hb : stateB r = (withB 2 15 r.l && (hasB r 16 r.l && someB r)) := by simp [stateB, h3]
  refine (vbE r 3 250 (withB 2 15 r.l && (hasB r 16 r.l && someB r)) w ha (by rw [hf]; simp [h3, stV, stFn]) vly (fun w => vnF r w hx)).mono ?_
  rintro e w' ⟨rfl, hK⟩
  exact ⟨by simp only [checkR, hb], hK⟩
 by_cases h4 : r.s = 4
 ·have hb : stateB r = (hasB r 16 0 && someB r) := by simp [stateB, h4]
  refine (vbE r 4 251 (hasB r 16 0 && someB r) w ha (by rw [hf]; simp [h4, stV, stFn]) vlz (fun w => vnD r w hx)).mono ?_
  rintro e w' ⟨rfl, hK⟩
  exact ⟨by simp only [checkR, hb], hK⟩
 have hb : stateB r = false := by simp [stateB, h0, h1, h2, h3, h4]
 simp only [h0, h1, h2, h3, h4, if_false] at hf
 refine (vhJ r w hf).mono ?_
 rintro e w' ⟨rfl, hK⟩
 exact ⟨by simp [checkR, hb], hK⟩
def cmpI (x y : Int) : Int := if x < y then -1 else if y < x then 1 else 0
def ordI (a l b k : Int) : Int := if cmpI a b = 0 then cmpI l k else cmpI a b
theorem veL (x : Int) (w : World) : Calls Tryz.prog 275 #[.int .u32 x] w fun e w' => e = .returned (.bool false) ∧ w = w' := by
 go_enter Tryz.func275, Tryz.ntmps275
 go_wp2_with fail
 go_ret
 exact ⟨rfl, rfl⟩
theorem veM (x : Int) (w : World) : Calls Tryz.prog 276 #[.int .i64 x] w fun e w' => e = .returned (.bool false) ∧ w = w' := by
 go_enter Tryz.func276, Tryz.ntmps276
 go_wp2_with fail
 go_ret
 exact ⟨rfl, rfl⟩
theorem vgT (x y : Int) (w : World) : Calls Tryz.prog 209 #[.int .u32 x, .int .u32 y] w fun e w' => e = .returned (.int .i64 (cmpI x y)) ∧ w = w' := by
 obtain ⟨r, hr⟩ : ∃ r, cmpI x y = r := ⟨_, rfl⟩
 rw [hr]
 have Hr := Lib.hid hr; clear hr
 by_cases h1 : x < y
 ·have d1 : decide (x < y) = true := by simpa using h1
  have e : r = -1 := by rw [← Hr.out]; simp [cmpI, h1]
  subst e
  clear h1 Hr
  go_enter Tryz.func209, Tryz.ntmps209
  go_wp2_with (go_at_call 275; refine (veL _ _).mono ?_; rintro e w' ⟨rfl, rfl⟩)
  go_ret
  exact ⟨rfl, rfl⟩
 ·have d1 : decide (x < y) = false := by simpa using h1
  by_cases h2 : y < x
  ·have d2 : decide (y < x) = true := by simpa using h2
   have e : r = 1 := by rw [← Hr.out]; simp [cmpI, h1, h2]
   subst e
   clear h1 h2 Hr
   go_enter Tryz.func209, Tryz.ntmps209
   go_wp2_with (go_at_call 275; refine (veL _ _).mono ?_; rintro e w' ⟨rfl, rfl⟩)
   go_ret
   exact ⟨rfl, rfl⟩
  ·have d2 : decide (y < x) = false := by simpa using h2
   have e : r = 0 := by rw [← Hr.out]; simp [cmpI, h1, h2]
   subst e
   clear h1 h2 Hr
   go_enter Tryz.func209, Tryz.ntmps209
   go_wp2_with (go_at_call 275; refine (veL _ _).mono ?_; rintro e w' ⟨rfl, rfl⟩)
   go_ret
   exact ⟨rfl, rfl⟩
theorem vgU (x y : Int) (w : World) : Calls Tryz.prog 210 #[.int .i64 x, .int .i64 y] w fun e w' => e = .returned (.int .i64 (cmpI x y)) ∧ w = w' := by
 obtain ⟨r, hr⟩ : ∃ r, cmpI x y = r := ⟨_, rfl⟩
 rw [hr]
 have Hr := Lib.hid hr; clear hr
 by_cases h1 : x < y
 ·have d1 : decide (x < y) = true := by simpa using h1
  have e : r = -1 := by rw [← Hr.out]; simp [cmpI, h1]
  subst e
  clear h1 Hr
  go_enter Tryz.func210, Tryz.ntmps210
  go_wp2_with (go_at_call 276; refine (veM _ _).mono ?_; rintro e w' ⟨rfl, rfl⟩)
  go_ret
  exact ⟨rfl, rfl⟩
 ·have d1 : decide (x < y) = false := by simpa using h1
  by_cases h2 : y < x
  ·have d2 : decide (y < x) = true := by simpa using h2
   have e : r = 1 := by rw [← Hr.out]; simp [cmpI, h1, h2]
   subst e
   clear h1 h2 Hr
   go_enter Tryz.func210, Tryz.ntmps210
   go_wp2_with (go_at_call 276; refine (veM _ _).mono ?_; rintro e w' ⟨rfl, rfl⟩)
   go_ret
   exact ⟨rfl, rfl⟩
  ·have d2 : decide (y < x) = false := by simpa using h2
   have e : r = 0 := by rw [← Hr.out]; simp [cmpI, h1, h2]
   subst e
   clear h1 h2 Hr
   go_enter Tryz.func210, Tryz.ntmps210
   go_wp2_with (go_at_call 276; refine (veM _ _).mono ?_; rintro e w' ⟨rfl, rfl⟩)
   go_ret
   exact ⟨rfl, rfl⟩
set_option maxRecDepth 100000 in
theorem vjb (x y : Int) (g : Nat) (w : World) (hB : Blk w g 3 #[.int .i64 x, .int .i64 y]) : Calls Tryz.prog 208 #[.slice (some ⟨g, 0, none⟩) 2 2] w fun e w' => e = .returned (.int .i64 (if x = 0 then y else x)) ∧ w = w' := by
 obtain ⟨c0, c1⟩ := Blk.v2 hB (.int .i64 x) (.int .i64 y) rfl
 clear hB
 obtain ⟨r, hr⟩ : ∃ r, (if x = 0 then y else x) = r := ⟨_, rfl⟩
 rw [hr]
 have Hr := Lib.hid hr; clear hr
 go_enter Tryz.func208, Tryz.ntmps208
 go_wp2_with fail
 go_loop [8] (fun i => ∃ k : Nat, k ≤ 2 ∧ i = .int .i64 k ∧ Hid (0 < k → x = 0) ∧ Hid (1 < k → y = 0)) (fun i => 2 - (intOf i).toNat)
 case atStart => exact ⟨0, by omega, rfl, fun h => absurd h (by omega), fun h => absurd h (by omega)⟩
 case round =>
  obtain ⟨k, hk, rfl, h0, h1⟩ := hrel
  have hc3 : k = 0 ∨ k = 1 ∨ k = 2 := by omega
  rcases hc3 with rfl | rfl | rfl
  ·by_cases hx : x = 0
   ·subst hx
    go_wp2_with fail
    go_round
    case rel => exact ⟨1, by omega, by go_num, fun _ => by trivial, fun h => absurd h (by omega)⟩
    case measure => simp [intOf]
   ·have hx1 : (x != 0) = true := by simpa using hx
    have e : r = x := by rw [← Hr.out, if_neg hx]
    subst e
    clear hx Hr
    go_wp2_with fail
    go_ret
    exact ⟨rfl, rfl⟩
  ·have hx : x = 0 := h0.out (by omega)
   subst hx
   have e : r = y := by rw [← Hr.out, if_pos rfl]
   subst e
   clear Hr h0 h1
   by_cases hy : r = 0
   ·subst hy
    go_wp2_with fail
    go_round
    case rel => exact ⟨2, by omega, by go_num, fun _ => by trivial, fun _ => by trivial⟩
    case measure => simp [intOf]
   ·have hy1 : (r != 0) = true := by simpa using hy
    clear hy
    go_wp2_with fail
    go_ret
    exact ⟨rfl, rfl⟩
  ·have hx : x = 0 := h0.out (by omega)
   have hy : y = 0 := h1.out (by omega)
   subst hx hy
   have e : r = 0 := by rw [← Hr.out, if_pos rfl]
   subst e
   clear Hr h0 h1
   go_wp2_with fail
   go_ret
   exact ⟨rfl, rfl⟩
set_option maxRecDepth 100000 in
theorem vfv (a l b k : Int) (w : World) : Calls Tryz.prog 152 #[.agg #[.int .u32 a, .int .i64 l], .agg #[.int .u32 b, .int .i64 k]] w fun e w' => e = .returned (.int .i64 (ordI a l b k)) ∧ Kp w w' := by
 obtain ⟨W, hW, kW, B0, B1⟩ := Blk.al2 (w := w) rfl #[.int .u32 a, .int .i64 l] 39 #[.int .u32 b, .int .i64 k] 39
 obtain ⟨x, hx⟩ : ∃ x, cmpI a b = x := ⟨_, rfl⟩
 obtain ⟨y, hy⟩ : ∃ y, cmpI l k = y := ⟨_, rfl⟩
 have Hx := Lib.hid hx
 have Hy := Lib.hid hy
 have Hr : Hid (ordI a l b k = if x = 0 then y else x) := by rw [← hx, ← hy]; exact Lib.hid rfl
 clear hx hy
 go_enter Tryz.func152, Tryz.ntmps152
 go_wp2_with fail
 refine vau 10 (by kernel_rfl) (by kernel_rfl) (fun V hV => ?_)
 have KV : Kp W V := by rw [hV]; exact (Kp.refl _).drew
 obtain ⟨p0, p1⟩ := Blk.v2 (B0.keep KV) (.int .u32 a) (.int .i64 l) rfl
 obtain ⟨q0, q1⟩ := Blk.v2 (B1.keep KV) (.int .u32 b) (.int .i64 k) rfl
 clear hV hW
 simp only [List.take_succ_cons, List.take_zero, List.drop_succ_cons, List.drop_zero]
 still_step
 still_step
 still_step
 still_step
 still_call (by refine (vgT a b _).mono ?_; rintro e w' ⟨rfl, rfl⟩; rw [Hx.out]; exact ⟨rfl, rfl⟩)
 still_step
 still_step
 still_step
 still_step
 still_call (by refine (vgU l k _).mono ?_; rintro e w' ⟨rfl, rfl⟩; rw [Hy.out]; exact ⟨rfl, rfl⟩)
 refine wpStill_nil ?_
 clear p0 p1 q0 q1
 go_wp2_with fail
 refine (vjb x y V.heap.size _ (Blk.new V _ _)).mono ?_
 rintro e w' ⟨rfl, rfl⟩
 rw [← Hr.out]
 go_wp2_with fail
 go_ret
 exact ⟨rfl, (kW.trans KV).alloc _⟩
set_option maxRecDepth 100000 in
theorem vnJ (w : World) (a l b k : Int) : (binOp .eql 39 (.agg #[.int .u32 a, .int .i64 l]) (.agg #[.int .u32 b, .int .i64 k])).run Tryz.prog w = .ok (.bool (a == b && l == k)) w := by
 rw [run_eql_struct, run_equalIn_agg w 9999 _ _ _ Tryz.underlying39 (by kernel_rfl)]
 simp [Op.eqFields, part, go_sem, Tryz.underlying3, Tryz.underlying37]
 by_cases h1 : a = b <;> by_cases h2 : l = k <;> simp [h1, h2]
theorem vjc (x : Int) : cmpI x x = 0 := by unfold cmpI; rw [if_neg (by omega), if_neg (by omega)]
end

section
def parH (k : Nat) : Nat := (k - 1) / 2
def swH {α : Type} (f : Nat → α) (i j : Nat) : Nat → α := fun k => if k = i then f j else if k = j then f i else f k
theorem swH_l {α : Type} (f : Nat → α) (i j : Nat) : swH f i j i = f j := by unfold swH; rw [if_pos rfl]
theorem swH_r {α : Type} (f : Nat → α) (i j : Nat) : swH f i j j = f i := by
 unfold swH
 by_cases h : j = i
 ·rw [if_pos h, h]
 ·rw [if_neg h, if_pos rfl]
theorem swH_o {α : Type} (f : Nat → α) {i j k : Nat} (hi : k ≠ i) (hj : k ≠ j) : swH f i j k = f k := by unfold swH; rw [if_neg hi, if_neg hj]
theorem vaz {k : Nat} (h : 0 < k) : parH k < k := by unfold parH; omega
theorem vhK {i j : Nat} (h : j = 2 * i + 1 ∨ j = 2 * i + 2) : parH j = i ∧ 0 < j := by unfold parH; omega
theorem vde {k i : Nat} (hk : 0 < k) (h : parH k = i) : k = 2 * i + 1 ∨ k = 2 * i + 2 := by unfold parH at h; omega
structure OrdH {α : Type} (lt : α → α → Bool) : Prop where
 asym : ∀ a b, lt a b = true → lt b a = false
 trans : ∀ a b c, lt b a = false → lt c b = false → lt c a = false
variable {α : Type} {lt : α → α → Bool}
def Heap (lt : α → α → Bool) (f : Nat → α) (n : Nat) : Prop := ∀ k, 0 < k → k < n → lt (f k) (f (parH k)) = false
structure HeapBut (lt : α → α → Bool) (f : Nat → α) (n b : Nat) : Prop where
 rel : ∀ k, 0 < k → k < n → k ≠ b → parH k ≠ b → lt (f k) (f (parH k)) = false
 grand : ∀ k, 0 < k → k < n → parH k = b → 0 < b → lt (f k) (f (parH b)) = false
structure UpH (lt : α → α → Bool) (f : Nat → α) (n j : Nat) : Prop where
 but : HeapBut lt f n j
 below : ∀ k, 0 < k → k < n → parH k = j → lt (f k) (f j) = false
theorem UpH.done {f : Nat → α} {n j : Nat} (h : UpH lt f n j) (hj : j = 0 ∨ lt (f j) (f (parH j)) = false) : Heap lt f n := by
 intro k h0 hn
 by_cases h1 : k = j
 ·subst h1
  rcases hj with hj | hj
  ·omega
  ·exact hj
 ·by_cases h2 : parH k = j
  ·rw [h2]; exact h.below k h0 hn h2
  ·exact h.but.rel k h0 hn h1 h2
theorem UpH.step (o : OrdH lt) {f : Nat → α} {n j : Nat} (h : UpH lt f n j) (h0 : 0 < j) (hn : j < n) (hl : lt (f j) (f (parH j)) = true) : UpH lt (swH f (parH j) j) n (parH j) := by
 have hp := vaz h0
 refine ⟨⟨?_, ?_⟩, ?_⟩
 ·intro k k0 kn kne kp
  have hkj : k ≠ j := fun e => kp (by rw [e])
  rw [swH_o f kne hkj]
  by_cases hpj : parH k = j
  ·rw [hpj, swH_r]
   exact h.but.grand k k0 kn hpj h0
  ·rw [swH_o f kp hpj]
   exact h.but.rel k k0 kn hkj hpj
 ·intro k k0 kn kp p0
  have hpp := vaz p0
  rw [swH_o (k := parH (parH j)) f (by omega) (by omega)]
  have hup : lt (f (parH j)) (f (parH (parH j))) = false := h.but.rel (parH j) p0 (by omega) (by omega) (by omega)
  by_cases hkj : k = j
  ·subst hkj
   rw [swH_r]
   exact hup
  ·have hkp : k ≠ parH j := by have := vaz k0; omega
   rw [swH_o f hkp hkj]
   refine o.trans _ (f (parH j)) _ hup ?_
   have := h.but.rel k k0 kn hkj (by omega)
   rw [kp] at this
   exact this
 ·intro k k0 kn kp
  rw [swH_l]
  by_cases hkj : k = j
  ·subst hkj
   rw [swH_r]
   exact o.asym _ _ hl
  ·have hkp : k ≠ parH j := by have := vaz k0; omega
   rw [swH_o f hkp hkj]
   have h3 := h.but.rel k k0 kn hkj (by omega)
   rw [kp] at h3
   exact o.trans _ (f (parH j)) _ (o.asym _ _ hl) h3
structure DownH (lt : α → α → Bool) (f : Nat → α) (n i0 i : Nat) : Prop where
 but : HeapBut lt f n i
 above : i ≠ i0 → 0 < i → lt (f i) (f (parH i)) = false
theorem DownH.stay {f : Nat → α} {n i0 i : Nat} (h : DownH lt f n i0 i) (hc : ∀ k, 0 < k → k < n → parH k = i → lt (f k) (f i) = false) : UpH lt f n i ∧ (i ≠ i0 → Heap lt f n) :=
 ⟨⟨h.but, hc⟩, fun hne => UpH.done ⟨h.but, hc⟩ (by
  by_cases h0 : i = 0
  ·exact .inl h0
  ·exact .inr (h.above hne (by omega)))⟩
theorem DownH.step (o : OrdH lt) {f : Nat → α} {n i0 i j : Nat} (h : DownH lt f n i0 i) (hj : j = 2 * i + 1 ∨ j = 2 * i + 2) (hn : j < n) (hl : lt (f j) (f i) = true) (hs : ∀ k, 0 < k → k < n → parH k = i → k ≠ j → lt (f k) (f j) = false) (hi0 : i0 ≤ i) : DownH lt (swH f i j) n i0 j ∧ i0 < j := by
 obtain ⟨hp, j0⟩ := vhK hj
 have hij : i < j := by omega
 refine ⟨⟨⟨?_, ?_⟩, ?_⟩, by omega⟩
 ·intro k k0 kn kne kp
  by_cases hki : k = i
  ·subst hki
   have := vaz k0
   rw [swH_l, swH_o (k := parH k) f (by omega) (by omega)]
   exact h.but.grand j j0 hn hp k0
  ·rw [swH_o f hki kne]
   by_cases hpi : parH k = i
   ·rw [hpi, swH_l]
    exact hs k k0 kn hpi kne
   ·rw [swH_o f hpi kp]
    exact h.but.rel k k0 kn hki hpi
 ·intro k k0 kn kp _
  have := vaz k0
  rw [hp, swH_l, swH_o (k := k) f (by omega) (by omega)]
  have h3 := h.but.rel k k0 kn (by omega) (by omega)
  rw [kp] at h3
  exact h3
 ·intro _ _
  rw [swH_r, hp, swH_l]
  exact o.asym _ _ hl
theorem Heap.least (o : OrdH lt) {f : Nat → α} {n : Nat} (h : Heap lt f n) : ∀ k, k < n → lt (f k) (f 0) = false := by
 intro k
 induction k using Nat.strongRecOn with
 | _ k ih =>
  intro hk
  rcases Nat.eq_zero_or_pos k with h0 | h0
  ·subst h0
   cases hc : lt (f 0) (f 0) with
   | false => rfl
   | true => have := o.asym _ _ hc; rw [hc] at this; exact this
  ·exact o.trans _ (f (parH k)) _ (ih (parH k) (vaz h0) (by have := vaz h0; omega)) (h k h0 hk)
theorem Heap.less {f : Nat → α} {n m : Nat} (h : Heap lt f n) (hm : m ≤ n) : Heap lt f m := fun k h0 hk => h k h0 (by omega)
theorem Heap.push {f : Nat → α} {n : Nat} (h : Heap lt f n) : UpH lt f (n + 1) n :=
 ⟨⟨fun k h0 hn hk hp => h k h0 (by omega), fun k h0 hn hp hb => by have := vaz h0; omega⟩, fun k h0 hn hp => by have := vaz h0; omega⟩
theorem Heap.put (o : OrdH lt) {f g : Nat → α} {n i : Nat} (h : Heap lt f n) (hg : ∀ k, k < n → k ≠ i → g k = f k) (hi : i < n) : DownH lt g n i i :=
 ⟨⟨fun k h0 hn hk hp => by
   have := vaz h0
   rw [hg k hn hk, hg (parH k) (by omega) hp]
   exact h k h0 hn,
  fun k h0 hn hp hb => by
   have h1 := vaz h0
   have h2 := vaz hb
   rw [hg k hn (by omega), hg (parH i) (by omega) (by omega)]
   have e := h k h0 hn
   rw [hp] at e
   exact o.trans _ (f i) _ (h i hb hi) e⟩,
  fun hne => absurd rfl hne⟩
end

section
structure Tw where
 k : Int
 p : PI
 d : Int
def ordT (r s : Tw) : Int := if cmpI r.d s.d ≠ 0 then cmpI r.d s.d else if cmpI r.k s.k ≠ 0 then cmpI r.k s.k else ordI r.p.a r.p.l s.p.a s.p.l
def ltT (r s : Tw) : Bool := decide (ordT r s < 0)
theorem vdf {x y : Int} : cmpI x y < 0 ↔ x < y := by unfold cmpI; split <;> (try split) <;> omega
theorem vaR {x y : Int} : cmpI x y = 0 ↔ x = y := by unfold cmpI; split <;> (try split) <;> omega
theorem vgV {a l b k : Int} : ordI a l b k < 0 ↔ a < b ∨ (a = b ∧ l < k) := by
 unfold ordI
 split
 ·rename_i h
  rw [vaR] at h
  rw [vdf]
  omega
 ·rename_i h
  rw [vaR] at h
  rw [vdf]
  omega
theorem vjd {r s : Tw} : ltT r s = true ↔ r.d < s.d ∨ (r.d = s.d ∧ (r.k < s.k ∨ (r.k = s.k ∧ ((r.p.a : Int) < s.p.a ∨ ((r.p.a : Int) = s.p.a ∧ r.p.l < s.p.l))))) := by
 unfold ltT
 rw [decide_eq_true_eq]
 unfold ordT
 by_cases h1 : r.d = s.d
 ·rw [if_neg (by rw [Decidable.not_not, vaR]; exact h1)]
  by_cases h2 : r.k = s.k
  ·rw [if_neg (by rw [Decidable.not_not, vaR]; exact h2), vgV]
   omega
  ·rw [if_pos (by rw [Ne, vaR]; exact h2), vdf]
   omega
 ·rw [if_pos (by rw [Ne, vaR]; exact h1), vdf]
  omega
theorem vdy {r s : Tw} : ltT r s = false ↔ ¬ (r.d < s.d ∨ (r.d = s.d ∧ (r.k < s.k ∨ (r.k = s.k ∧ ((r.p.a : Int) < s.p.a ∨ ((r.p.a : Int) = s.p.a ∧ r.p.l < s.p.l)))))) := by
 rw [← vjd]
 cases ltT r s <;> simp
theorem vbj : OrdH ltT := by
 constructor
 ·intro a b h
  rw [vjd] at h
  rw [vdy]
  omega
 ·intro a b c h1 h2
  rw [vdy] at h1 h2 ⊢
  omega
def swapL {α : Type} (l : List α) (i j : Nat) (hi : i < l.length) (hj : j < l.length) : List α := (l.set i l[j]).set j l[i]
theorem vaF {α : Type} (l : List α) (i j : Nat) (hi : i < l.length) (hj : j < l.length) : (swapL l i j hi hj).length = l.length := by unfold swapL; simp
theorem vaW {α : Type} (l : List α) (i j : Nat) (hi : i < l.length) (hj : j < l.length) : (swapL l i j hi hj).Perm l := List.set_set_perm hi hj
theorem vlA {α : Type} (l : List α) (d : α) (i j : Nat) (hi : i < l.length) (hj : j < l.length) : (fun k => (swapL l i j hi hj).getD k d) = swH (fun k => l.getD k d) i j := by
 funext k
 unfold swapL swH
 simp only [List.getD_eq_getElem?_getD, List.getElem?_set]
 by_cases h1 : k = i
 ·subst h1
  rw [if_pos rfl]
  by_cases h2 : j = k
  ·subst h2
   simp [hi]
  ·rw [if_neg h2]
   simp [hi, hj]
 ·rw [if_neg h1]
  by_cases h2 : k = j
  ·subst h2
   simp [hi, hj]
  ·rw [if_neg h2, if_neg (fun e => h2 e.symm), if_neg (fun e => h1 e.symm)]
end

section
open Go.RowKit
theorem veN (x : Int) (w : World) : Calls Tryz.prog 359 #[.int .i64 x] w fun e w' => e = .returned (.bool false) ∧ w = w' := by
 go_enter Tryz.func359, Tryz.ntmps359
 go_wp2_with fail
 go_ret
 exact ⟨rfl, rfl⟩
theorem vlB (x y : Int) (w : World) : Calls Tryz.prog 357 #[.int .i64 x, .int .i64 y] w fun e w' => e = .returned (.int .i64 (cmpI x y)) ∧ w = w' := by
 obtain ⟨r, hr⟩ : ∃ r, cmpI x y = r := ⟨_, rfl⟩
 rw [hr]
 have Hr := Lib.hid hr; clear hr
 by_cases h1 : x < y
 ·have d1 : decide (x < y) = true := by simpa using h1
  have e : r = -1 := by rw [← Hr.out]; simp [cmpI, h1]
  subst e
  clear h1 Hr
  go_enter Tryz.func357, Tryz.ntmps357
  go_wp2_with (go_at_call 359; refine (veN _ _).mono ?_; rintro e w' ⟨rfl, rfl⟩)
  go_ret
  exact ⟨rfl, rfl⟩
 ·have d1 : decide (x < y) = false := by simpa using h1
  by_cases h2 : y < x
  ·have d2 : decide (y < x) = true := by simpa using h2
   have e : r = 1 := by rw [← Hr.out]; simp [cmpI, h1, h2]
   subst e
   clear h1 h2 Hr
   go_enter Tryz.func357, Tryz.ntmps357
   go_wp2_with (go_at_call 359; refine (veN _ _).mono ?_; rintro e w' ⟨rfl, rfl⟩)
   go_ret
   exact ⟨rfl, rfl⟩
  ·have d2 : decide (y < x) = false := by simpa using h2
   have e : r = 0 := by rw [← Hr.out]; simp [cmpI, h1, h2]
   subst e
   clear h1 h2 Hr
   go_enter Tryz.func357, Tryz.ntmps357
   go_wp2_with (go_at_call 359; refine (veN _ _).mono ?_; rintro e w' ⟨rfl, rfl⟩)
   go_ret
   exact ⟨rfl, rfl⟩
theorem veO (x : Int) (w : World) : Calls Tryz.prog 360 #[.int .i64 x] w fun e w' => e = .returned (.bool false) ∧ w = w' := by
 go_enter Tryz.func360, Tryz.ntmps360
 go_wp2_with fail
 go_ret
 exact ⟨rfl, rfl⟩
theorem vlC (x y : Int) (w : World) : Calls Tryz.prog 358 #[.int .i64 x, .int .i64 y] w fun e w' => e = .returned (.int .i64 (cmpI x y)) ∧ w = w' := by
 obtain ⟨r, hr⟩ : ∃ r, cmpI x y = r := ⟨_, rfl⟩
 rw [hr]
 have Hr := Lib.hid hr; clear hr
 by_cases h1 : x < y
 ·have d1 : decide (x < y) = true := by simpa using h1
  have e : r = -1 := by rw [← Hr.out]; simp [cmpI, h1]
  subst e
  clear h1 Hr
  go_enter Tryz.func358, Tryz.ntmps358
  go_wp2_with (go_at_call 360; refine (veO _ _).mono ?_; rintro e w' ⟨rfl, rfl⟩)
  go_ret
  exact ⟨rfl, rfl⟩
 ·have d1 : decide (x < y) = false := by simpa using h1
  by_cases h2 : y < x
  ·have d2 : decide (y < x) = true := by simpa using h2
   have e : r = 1 := by rw [← Hr.out]; simp [cmpI, h1, h2]
   subst e
   clear h1 h2 Hr
   go_enter Tryz.func358, Tryz.ntmps358
   go_wp2_with (go_at_call 360; refine (veO _ _).mono ?_; rintro e w' ⟨rfl, rfl⟩)
   go_ret
   exact ⟨rfl, rfl⟩
  ·have d2 : decide (y < x) = false := by simpa using h2
   have e : r = 0 := by rw [← Hr.out]; simp [cmpI, h1, h2]
   subst e
   clear h1 h2 Hr
   go_enter Tryz.func358, Tryz.ntmps358
   go_wp2_with (go_at_call 360; refine (veO _ _).mono ?_; rintro e w' ⟨rfl, rfl⟩)
   go_ret
   exact ⟨rfl, rfl⟩
def or3 (x y z : Int) : Int := if x ≠ 0 then x else if y ≠ 0 then y else z
set_option maxRecDepth 100000 in
theorem vlD (x y z : Int) (g : Nat) (w : World) (hB : Blk w g 3 #[.int .i64 x, .int .i64 y, .int .i64 z]) : Calls Tryz.prog 208 #[.slice (some ⟨g, 0, none⟩) 3 3] w fun e w' => e = .returned (.int .i64 (or3 x y z)) ∧ w = w' := by
 obtain ⟨c0, c1, c2⟩ := Blk.v3 hB (.int .i64 x) (.int .i64 y) (.int .i64 z) rfl
 clear hB
 obtain ⟨r, hr⟩ : ∃ r, or3 x y z = r := ⟨_, rfl⟩
 rw [hr]
 have Hr := Lib.hid hr; clear hr
 go_enter Tryz.func208, Tryz.ntmps208
 go_wp2_with fail
 go_loop [8] (fun i => ∃ k : Nat, k ≤ 3 ∧ i = .int .i64 k ∧ Hid (0 < k → x = 0) ∧ Hid (1 < k → y = 0) ∧ Hid (2 < k → z = 0)) (fun i => 3 - (intOf i).toNat)
 case atStart => exact ⟨0, by omega, rfl, fun h => absurd h (by omega), fun h => absurd h (by omega), fun h => absurd h (by omega)⟩
 case round =>
  obtain ⟨k, hk, rfl, h0, h1, h2⟩ := hrel
  have hc3 : k = 0 ∨ k = 1 ∨ k = 2 ∨ k = 3 := by omega
  rcases hc3 with rfl | rfl | rfl | rfl
  ·by_cases hx : x = 0
   ·subst hx
    go_wp2_with fail
    go_round
    case rel => exact ⟨1, by omega, by go_num, fun _ => by trivial, fun h => absurd h (by omega), fun h => absurd h (by omega)⟩
    case measure => simp [intOf]
   ·have hx1 : (x != 0) = true := by simpa using hx
    have e : r = x := by rw [← Hr.out, or3, if_pos hx]
    subst e
    clear hx Hr
    go_wp2_with fail
    go_ret
    exact ⟨rfl, rfl⟩
  ·have hx : x = 0 := h0.out (by omega)
   subst hx
   by_cases hy : y = 0
   ·subst hy
    clear h0 h1 h2
    go_wp2_with fail
    go_round
    case rel => exact ⟨2, by omega, by go_num, fun _ => by trivial, fun _ => by trivial, fun h => absurd h (by omega)⟩
    case measure => simp [intOf]
   ·have hy1 : (y != 0) = true := by simpa using hy
    have e : r = y := by rw [← Hr.out, or3, if_neg (by simp), if_pos hy]
    subst e
    clear hy Hr h0 h1 h2
    go_wp2_with fail
    go_ret
    exact ⟨rfl, rfl⟩
  ·have hx : x = 0 := h0.out (by omega)
   have hy : y = 0 := h1.out (by omega)
   subst hx hy
   have e : r = z := by rw [← Hr.out, or3, if_neg (by simp), if_neg (by simp)]
   subst e
   clear Hr h0 h1 h2
   by_cases hz : r = 0
   ·subst hz
    go_wp2_with fail
    go_round
    case rel => exact ⟨3, by omega, by go_num, fun _ => by trivial, fun _ => by trivial, fun _ => by trivial⟩
    case measure => simp [intOf]
   ·have hz1 : (r != 0) = true := by simpa using hz
    clear hz
    go_wp2_with fail
    go_ret
    exact ⟨rfl, rfl⟩
  ·have hx : x = 0 := h0.out (by omega)
   have hy : y = 0 := h1.out (by omega)
   have hz : z = 0 := h2.out (by omega)
   subst hx hy hz
   have e : r = 0 := by rw [← Hr.out, or3, if_neg (by simp), if_neg (by simp)]
   subst e
   clear Hr h0 h1 h2
   go_wp2_with fail
   go_ret
   exact ⟨rfl, rfl⟩
def Tw.enc (r : Tw) : List Value := [.int .i64 r.k, .int .u32 r.p.a, .int .i64 r.p.l, .int .i64 r.d]
theorem Tw.len (r : Tw) : r.enc.length = 4 := rfl
set_option maxRecDepth 100000 in
theorem vfw (r s : Tw) (w : World) : Calls Tryz.prog 356 #[.agg #[.int .i64 r.k, .int .u32 r.p.a, .int .i64 r.p.l, .int .i64 r.d], .agg #[.int .i64 s.k, .int .u32 s.p.a, .int .i64 s.p.l, .int .i64 s.d]] w fun e w' => e = .returned (.int .i64 (ordT r s)) ∧ Kp w w' := by
 obtain ⟨W, hW, kW, B0, B1⟩ := Blk.al2 (w := w) rfl #[.int .i64 r.k, .int .u32 r.p.a, .int .i64 r.p.l, .int .i64 r.d] 337 #[.int .i64 s.k, .int .u32 s.p.a, .int .i64 s.p.l, .int .i64 s.d] 337
 obtain ⟨x, hx⟩ : ∃ x, cmpI r.d s.d = x := ⟨_, rfl⟩
 obtain ⟨y, hy⟩ : ∃ y, cmpI r.k s.k = y := ⟨_, rfl⟩
 obtain ⟨z, hz⟩ : ∃ z, ordI r.p.a r.p.l s.p.a s.p.l = z := ⟨_, rfl⟩
 have Hx := Lib.hid hx
 have Hy := Lib.hid hy
 have Hz := Lib.hid hz
 have Hr : Hid (ordT r s = or3 x y z) := by rw [← hx, ← hy, ← hz]; exact Lib.hid rfl
 clear hx hy hz
 obtain ⟨p0, p1, p2, p3⟩ := Blk.v4 B0 (.int .i64 r.k) (.int .u32 r.p.a) (.int .i64 r.p.l) (.int .i64 r.d) rfl
 obtain ⟨q0, q1, q2, q3⟩ := Blk.v4 B1 (.int .i64 s.k) (.int .u32 s.p.a) (.int .i64 s.p.l) (.int .i64 s.d) rfl
 have K : Kp W W.drew := (Kp.refl W).drew
 go_enter Tryz.func356, Tryz.ntmps356
 go_wp2_with fail
 try rw [hW]
 clear hW
 go_region_held3 (fun w' => w'.cell? ⟨w.heap.size, 0, none⟩ = some (.int .i64 r.k) ∧ w'.cell? ⟨w.heap.size, 1, none⟩ = some (.int .u32 r.p.a) ∧ w'.cell? ⟨w.heap.size, 2, none⟩ = some (.int .i64 r.p.l) ∧ w'.cell? ⟨w.heap.size, 3, none⟩ = some (.int .i64 r.d) ∧ w'.cell? ⟨w.heap.size + 1, 0, none⟩ = some (.int .i64 s.k) ∧ w'.cell? ⟨w.heap.size + 1, 1, none⟩ = some (.int .u32 s.p.a) ∧ w'.cell? ⟨w.heap.size + 1, 2, none⟩ = some (.int .i64 s.p.l) ∧ w'.cell? ⟨w.heap.size + 1, 3, none⟩ = some (.int .i64 s.d))
  (first | exact ⟨K.cell p0, K.cell p1, K.cell p2, K.cell p3, K.cell q0, K.cell q1, K.cell q2, K.cell q3⟩ | exact ⟨(K.alloc _).cell p0, (K.alloc _).cell p1, (K.alloc _).cell p2, (K.alloc _).cell p3, (K.alloc _).cell q0, (K.alloc _).cell q1, (K.alloc _).cell q2, (K.alloc _).cell q3⟩ | go_keep)
  (first
   | (go_at_call 357; refine (vlB r.d s.d _).mono ?_; rintro e w' ⟨rfl, rfl⟩; rw [Hx.out])
   | (go_at_call 358; refine (vlC r.k s.k _).mono ?_; rintro e w' ⟨rfl, rfl⟩; rw [Hy.out])
   | (go_at_call 152; refine (vfv r.p.a r.p.l s.p.a s.p.l _).mono ?_; rintro e wv ⟨rfl, hKv⟩; rw [Hz.out]; have K := K.trans hKv; clear hKv)
   | (go_at_call 208; refine (vlD x y z _ _ (Blk.new _ _ _)).mono ?_; rintro e w' ⟨rfl, rfl⟩; rw [← Hr.out]))
 all_goals (try go_wp2_with fail)
 all_goals go_ret
 all_goals exact ⟨rfl, (kW.trans K).alloc _⟩
end

end Go.Proofs.YtgopnfacklmkaaaGreatDoor
