/- Lemmas and contracts for the theorem of this claim: RqD, ShR, SoE, SoF, SoG. -/
import Derived.Test.YtgopnfacklmkaaaGreatDoorZyAy
import Derived.Shelf.SlSortCmp.WholeK
import Derived.Shelf.SlMaps.Clone
import Derived.Shelf.SlMaps.Equal
import Derived.Test.YtgopnfacklmkaaaGreatDoorProg
import Derived.Shelf.SlSortCmp.NoneTotal
set_option linter.all false
set_option maxHeartbeats 16000000
namespace Go.Proofs.YtgopnfacklmkaaaGreatDoor
section
open Go.RowKit Go.Maps
def akE (x : PI × Nat) : List Value := [.int .u32 (x.1.a : Int), .int .i64 x.1.l, .int .i64 (x.2 : Nat)]
theorem vht (x : PI × Nat) : (akE x).length = 3 := rfl
theorem ak_at {w : World} {A : Option Addr} {xs : List (PI × Nat)} (h : Rd w 3 akE A xs) {k : Nat} (hk : k < xs.length) : ∃ b off, A = some ⟨b, off, none⟩ ∧ w.cell? ⟨b, off + k * 3, none⟩ = some (.int .u32 (xs[k].1.a : Int)) ∧ w.cell? ⟨b, off + k * 3 + 1, none⟩ = some (.int .i64 xs[k].1.l) ∧ w.cell? ⟨b, off + k * 3 + 2, none⟩ = some (.int .i64 (xs[k].2 : Nat)) := by
 obtain ⟨b, off, e, hc⟩ := h k hk
 exact ⟨b, off, e, hc 0 _ rfl, hc 1 _ rfl, hc 2 _ rfl⟩
theorem dg_at {w : World} {A : Option Addr} {xs : List Pc} (h : Rd w 2 Pc.encD A xs) {k : Nat} (hk : k < xs.length) : ∃ b off, A = some ⟨b, off, none⟩ ∧ w.cell? ⟨b, off + k * 2, none⟩ = some (.int .i64 xs[k].c) ∧ w.cell? ⟨b, off + k * 2 + 1, none⟩ = some (.slice xs[k].A xs[k].n xs[k].m) := by
 obtain ⟨b, off, e, hc⟩ := h k hk
 exact ⟨b, off, e, hc 0 _ rfl, hc 1 _ rfl⟩
theorem vhu (args : Array Value) (w : World) : (callFunc 130 args).run Tryz.prog w = .ok (.enter 130 args) w := by kernel_rfl
theorem vhv (args : Array Value) (w : World) : (callFunc 106 args).run Tryz.prog w = .ok (.enter 106 args) w := by kernel_rfl
theorem vje (args : Array Value) (w : World) : (callFunc 105 args).run Tryz.prog w = .ok (.enter 105 args) w := by kernel_rfl
theorem vfZ (args : Array Value) (w : World) : (callFunc 127 args).run Tryz.prog w = .ok (.enter 127 args) w := by kernel_rfl
set_option maxRecDepth 100000 in
theorem vkY (x : PI × Nat) (w : World) : Calls Tryz.prog 105 #[.agg #[.int .u32 (x.1.a : Int), .int .i64 x.1.l, .int .i64 (x.2 : Nat)]] w fun e w' => e = .returned (.agg #[.int .u32 (x.1.a : Int), .int .i64 x.1.l]) ∧ Kp w w' := by
 obtain ⟨b, hb⟩ : ∃ b, w.heap.size = b := ⟨_, rfl⟩
 obtain ⟨W, hW, kW, B0, B1⟩ := Blk.al2 hb #[.int .u32 (x.1.a : Int), .int .i64 x.1.l, .int .i64 (x.2 : Nat)] 116 #[.int .u32 0, .int .i64 0] 39
 have u := Blk.f B0 rfl
 have y := Blk.f B1 rfl
 have f := Blk.frozen B1
 have hbs : w.heap.size ≤ b + 1 := by omega
 have B9 := Lib.hid ((B1.set_ 0 (.int .u32 (x.1.a : Int))).set_ 1 (.int .i64 x.1.l))
 have HK := Lib.hid ((kW.setCell (p := ⟨b + 1, 0, none⟩) hbs (.int .u32 (x.1.a : Int))).setCell (p := ⟨b + 1, 1, none⟩) hbs (.int .i64 x.1.l))
 clear B0 B1 kW
 go_enter Tryz.func105, Tryz.ntmps105
 go_wp2_with fail
 have v := Blk.f (l := [.int .u32 (x.1.a : Int), .int .i64 x.1.l]) B9.out rfl
 exact bodyPost_ret (v := .agg #[.int .u32 (x.1.a : Int), .int .i64 x.1.l]) (by simp [results, Tryz.results105, go_sem, v]) rfl ⟨rfl, HK.out⟩
set_option maxRecDepth 100000 in
theorem vhw (t : Nat) (fc : Int) (h : Rt → En) (A : Option Addr) (m : Nat) (xs : List Rt) (w : World) (hR : Rd w 9 Rt.enc A xs) (hg : ∀ x ∈ xs, ∀ W, Kp w W → Calls Tryz.prog 130 #[looV t fc, roV x] W fun e w' => e = .returned (enV (h x)) ∧ Kp W w') (hn : xs.length ≤ 900000) :
  Calls Tryz.prog 129 #[.slice A xs.length m, .func (.func 130) #[looV t fc] #[]] w fun r w' => ∃ A2 m2, r = .returned (.slice A2 xs.length m2) ∧ Own w' w.heap.size 66 6 En.enc (.slice A2 xs.length m2) (xs.map h) ∧ Kp w w' := by
 have HG := Lib.hid hg
 have HR := Lib.hid hR
 have hcl := vhu
 have R0 : Hid (Own w w.heap.size 66 6 En.enc (.slice none 0 0) ((xs.take 0).map h) ∧ Kp w w) := Lib.hid ⟨by rw [List.take_zero]; exact Own.nil _ _ _ _ _, Kp.refl _⟩
 clear hg hR
 go_enter Tryz.func129, Tryz.ntmps129
 go_wp2_with fail
 go_loopw [5, 7, 10] (fun v _ i wr => ∃ j : Nat, j ≤ xs.length ∧ i = .int .i64 j ∧ Hid (Own wr w.heap.size 66 6 En.enc v ((xs.take j).map h) ∧ Kp w wr)) (fun _ _ i _ => xs.length - (intOf i).toNat)
 case atStart => exact ⟨0, Nat.zero_le _, rfl, R0⟩
 case round =>
  obtain ⟨j, hj, rfl, R⟩ := hrel
  obtain ⟨Av, cv, hv⟩ := R.out.1.form
  subst hv
  by_cases hlt : j < xs.length
  ·have hj1 : (j : Int) < (xs.length : Int) := by omega
   have hj0 : (0 : Int) ≤ (j : Int) := by omega
   obtain ⟨b, off, hA, s0, s1, s2, s3, s4, s5, s6, s7, s8⟩ := vhq (HR.out.keep R.out.2) hlt
   subst hA
   have hmap : (xs.take (j + 1)).map h = (xs.take j).map h ++ [h xs[j]] := by rw [List.take_succ_eq_append_getElem hlt, List.map_append]; rfl
   have hmem : xs[j] ∈ xs := List.getElem_mem hlt
   obtain ⟨x, hx⟩ : ∃ x, xs[j] = x := ⟨_, rfl⟩
   rw [hx] at s0 s1 s2 s3 s4 s5 s6 s7 s8 hmap hmem
   obtain ⟨V, hV, kV, BV⟩ := Blk.al1 (w := wr) rfl #[.int .u32 (x.p.a : Int), .int .i64 x.p.l, .int .i64 x.s, .int .i64 x.m, .int .i64 x.l, .int .i64 x.f, .int .u32 (x.x : Int), .int .i64 x.d, .bool x.c] 52
   have y := Blk.f BV rfl
   have hc := HG.out x hmem V (R.out.2.trans kV)
   obtain ⟨z, hz⟩ : ∃ z, h x = z := ⟨_, rfl⟩
   rw [hz] at hc hmap
   have HC := Lib.hid hc
   have HM := Lib.hid hmap
   have hl : ((xs.take j).map h).length = j := by rw [List.length_map, List.length_take]; omega
   have HOV := Lib.hid (R.out.1.keep kV)
   obtain ⟨acc, hacc⟩ : ∃ acc, (xs.take j).map h = acc := ⟨_, rfl⟩
   rw [hacc] at hl HOV HM
   rw [hacc]
   have HKV := Lib.hid (R.out.2.trans kV)
   have HLN := Lib.hid hl
   have hfit : (acc.length + 1) * (32 + 1) ≤ 140737488355328 := by omega
   clear hx hz hc hmap hmem hl kV BV hacc
   go_wp2_with fail
   refine HC.out.mono ?_
   rintro e w1 ⟨rfl, K1⟩
   have HO1 := Lib.hid (HOV.out.keep K1)
   have HK1 := Lib.hid (HKV.out.trans K1)
   have hbase : w.heap.size ≤ w1.heap.size := HK1.out.size
   clear s0 s1 s2 s3 s4 s5 s6 s7 s8 y hV K1
   go_wp2_with (at_builtin; go_must (refine vai EEn rfl _ _ rfl z rfl HO1.out HK1.out (Nat.le_refl _) hbase rfl rfl rfl rfl rfl hfit ?_); intro v3 w3 hown3 hK3 hg3; obtain ⟨A3, c3, rfl⟩ := hown3.form1; have HO3 := Lib.hid hown3; have HK3 := Lib.hid hK3; clear hown3 hK3 hg3)
   go_roundw
   case rel => exact ⟨j + 1, by omega, by go_num, Lib.hid ⟨by rw [HM.out]; exact HO3.out, HK3.out⟩⟩
   case measure => simp [intOf]; omega
  ·obtain rfl : j = xs.length := by omega
   have hlast := R.out
   rw [List.take_length] at hlast
   have hl : ((xs.take xs.length).map h).length = xs.length := by rw [List.take_length, List.length_map]
   rw [hl]
   rw [show (xs.map h).length = xs.length from List.length_map _] at hlast
   have HE := Lib.hid hlast
   clear hlast hl
   go_wp2_with fail
   go_ret
   exact ⟨Av, cv, rfl, by first | exact HE.out.1 | (rw [List.take_length] at HE; exact HE.out.1), HE.out.2⟩
set_option maxRecDepth 100000 in
theorem vhx (t : Nat) (fc : Int) (h : PI → En) (A : Option Addr) (m : Nat) (xs : List PI) (w : World) (hR : Rd w 2 PI.enc A xs) (hg : ∀ x ∈ xs, ∀ W, Kp w W → Calls Tryz.prog 106 #[looV t fc, .agg #[.int .u32 (x.a : Int), .int .i64 x.l]] W fun e w' => e = .returned (enV (h x)) ∧ Kp W w') (hn : xs.length ≤ 900000) :
  Calls Tryz.prog 103 #[.slice A xs.length m, .func (.func 106) #[looV t fc] #[]] w fun r w' => ∃ A2 m2, r = .returned (.slice A2 xs.length m2) ∧ Own w' w.heap.size 66 6 En.enc (.slice A2 xs.length m2) (xs.map h) ∧ Kp w w' := by
 have HG := Lib.hid hg
 have HR := Lib.hid hR
 have hcl := vhv
 have R0 : Hid (Own w w.heap.size 66 6 En.enc (.slice none 0 0) ((xs.take 0).map h) ∧ Kp w w) := Lib.hid ⟨by rw [List.take_zero]; exact Own.nil _ _ _ _ _, Kp.refl _⟩
 clear hg hR
 go_enter Tryz.func103, Tryz.ntmps103
 go_wp2_with fail
 go_loopw [5, 7, 10] (fun v _ i wr => ∃ j : Nat, j ≤ xs.length ∧ i = .int .i64 j ∧ Hid (Own wr w.heap.size 66 6 En.enc v ((xs.take j).map h) ∧ Kp w wr)) (fun _ _ i _ => xs.length - (intOf i).toNat)
 case atStart => exact ⟨0, Nat.zero_le _, rfl, R0⟩
 case round =>
  obtain ⟨j, hj, rfl, R⟩ := hrel
  obtain ⟨Av, cv, hv⟩ := R.out.1.form
  subst hv
  by_cases hlt : j < xs.length
  ·have hj1 : (j : Int) < (xs.length : Int) := by omega
   have hj0 : (0 : Int) ≤ (j : Int) := by omega
   obtain ⟨b, off, hA, s0, s1⟩ := pi_at (HR.out.keep R.out.2) hlt
   subst hA
   have hmap : (xs.take (j + 1)).map h = (xs.take j).map h ++ [h xs[j]] := by rw [List.take_succ_eq_append_getElem hlt, List.map_append]; rfl
   have hmem : xs[j] ∈ xs := List.getElem_mem hlt
   obtain ⟨x, hx⟩ : ∃ x, xs[j] = x := ⟨_, rfl⟩
   rw [hx] at s0 s1 hmap hmem
   obtain ⟨V, hV, kV, BV⟩ := Blk.al1 (w := wr) rfl #[.int .u32 (x.a : Int), .int .i64 x.l] 39
   have y := Blk.f BV rfl
   have hc := HG.out x hmem V (R.out.2.trans kV)
   obtain ⟨z, hz⟩ : ∃ z, h x = z := ⟨_, rfl⟩
   rw [hz] at hc hmap
   have HC := Lib.hid hc
   have HM := Lib.hid hmap
   have hl : ((xs.take j).map h).length = j := by rw [List.length_map, List.length_take]; omega
   have HOV := Lib.hid (R.out.1.keep kV)
   obtain ⟨acc, hacc⟩ : ∃ acc, (xs.take j).map h = acc := ⟨_, rfl⟩
   rw [hacc] at hl HOV HM
   rw [hacc]
   have HKV := Lib.hid (R.out.2.trans kV)
   have HLN := Lib.hid hl
   have hfit : (acc.length + 1) * (32 + 1) ≤ 140737488355328 := by omega
   clear hx hz hc hmap hmem hl kV BV hacc
   go_wp2_with fail
   refine HC.out.mono ?_
   rintro e w1 ⟨rfl, K1⟩
   have HO1 := Lib.hid (HOV.out.keep K1)
   have HK1 := Lib.hid (HKV.out.trans K1)
   have hbase : w.heap.size ≤ w1.heap.size := HK1.out.size
   clear s0 s1 y hV K1
   go_wp2_with (at_builtin; go_must (refine vai EEn rfl _ _ rfl z rfl HO1.out HK1.out (Nat.le_refl _) hbase rfl rfl rfl rfl rfl hfit ?_); intro v3 w3 hown3 hK3 hg3; obtain ⟨A3, c3, rfl⟩ := hown3.form1; have HO3 := Lib.hid hown3; have HK3 := Lib.hid hK3; clear hown3 hK3 hg3)
   go_roundw
   case rel => exact ⟨j + 1, by omega, by go_num, Lib.hid ⟨by rw [HM.out]; exact HO3.out, HK3.out⟩⟩
   case measure => simp [intOf]; omega
  ·obtain rfl : j = xs.length := by omega
   have hlast := R.out
   rw [List.take_length] at hlast
   have hl : ((xs.take xs.length).map h).length = xs.length := by rw [List.take_length, List.length_map]
   rw [hl]
   rw [show (xs.map h).length = xs.length from List.length_map _] at hlast
   have HE := Lib.hid hlast
   clear hlast hl
   go_wp2_with fail
   go_ret
   exact ⟨Av, cv, rfl, by first | exact HE.out.1 | (rw [List.take_length] at HE; exact HE.out.1), HE.out.2⟩
set_option maxRecDepth 100000 in
theorem vhy  (h : (PI × Nat) → PI) (A : Option Addr) (m : Nat) (xs : List (PI × Nat)) (w : World) (hR : Rd w 3 akE A xs) (hg : ∀ x ∈ xs, ∀ W, Kp w W → Calls Tryz.prog 105 #[.agg #[.int .u32 (x.1.a : Int), .int .i64 x.1.l, .int .i64 (x.2 : Nat)]] W fun e w' => e = .returned (.agg #[.int .u32 ((h x).a : Int), .int .i64 (h x).l]) ∧ Kp W w') (hn : xs.length ≤ 900000) :
  Calls Tryz.prog 104 #[.slice A xs.length m, .func (.func 105) #[] #[]] w fun r w' => ∃ A2 m2, r = .returned (.slice A2 xs.length m2) ∧ Own w' w.heap.size 39 2 PI.enc (.slice A2 xs.length m2) (xs.map h) ∧ Kp w w' := by
 have HG := Lib.hid hg
 have HR := Lib.hid hR
 have hcl := vje
 have R0 : Hid (Own w w.heap.size 39 2 PI.enc (.slice none 0 0) ((xs.take 0).map h) ∧ Kp w w) := Lib.hid ⟨by rw [List.take_zero]; exact Own.nil _ _ _ _ _, Kp.refl _⟩
 clear hg hR
 go_enter Tryz.func104, Tryz.ntmps104
 go_wp2_with fail
 go_loopw [5, 7, 10] (fun v _ i wr => ∃ j : Nat, j ≤ xs.length ∧ i = .int .i64 j ∧ Hid (Own wr w.heap.size 39 2 PI.enc v ((xs.take j).map h) ∧ Kp w wr)) (fun _ _ i _ => xs.length - (intOf i).toNat)
 case atStart => exact ⟨0, Nat.zero_le _, rfl, R0⟩
 case round =>
  obtain ⟨j, hj, rfl, R⟩ := hrel
  obtain ⟨Av, cv, hv⟩ := R.out.1.form
  subst hv
  by_cases hlt : j < xs.length
  ·have hj1 : (j : Int) < (xs.length : Int) := by omega
   have hj0 : (0 : Int) ≤ (j : Int) := by omega
   obtain ⟨b, off, hA, s0, s1, s2⟩ := ak_at (HR.out.keep R.out.2) hlt
   subst hA
   have hmap : (xs.take (j + 1)).map h = (xs.take j).map h ++ [h xs[j]] := by rw [List.take_succ_eq_append_getElem hlt, List.map_append]; rfl
   have hmem : xs[j] ∈ xs := List.getElem_mem hlt
   obtain ⟨x, hx⟩ : ∃ x, xs[j] = x := ⟨_, rfl⟩
   rw [hx] at s0 s1 s2 hmap hmem
   obtain ⟨V, hV, kV, BV⟩ := Blk.al1 (w := wr) rfl #[.int .u32 (x.1.a : Int), .int .i64 x.1.l, .int .i64 (x.2 : Nat)] 116
   have y := Blk.f BV rfl
   have hc := HG.out x hmem V (R.out.2.trans kV)
   obtain ⟨z, hz⟩ : ∃ z, h x = z := ⟨_, rfl⟩
   rw [hz] at hc hmap
   have HC := Lib.hid hc
   have HM := Lib.hid hmap
   have hl : ((xs.take j).map h).length = j := by rw [List.length_map, List.length_take]; omega
   have HOV := Lib.hid (R.out.1.keep kV)
   obtain ⟨acc, hacc⟩ : ∃ acc, (xs.take j).map h = acc := ⟨_, rfl⟩
   rw [hacc] at hl HOV HM
   rw [hacc]
   have HKV := Lib.hid (R.out.2.trans kV)
   have HLN := Lib.hid hl
   have hfit : (acc.length + 1) * (16 + 1) ≤ 140737488355328 := by omega
   clear hx hz hc hmap hmem hl kV BV hacc
   go_wp2_with fail
   refine HC.out.mono ?_
   rintro e w1 ⟨rfl, K1⟩
   have HO1 := Lib.hid (HOV.out.keep K1)
   have HK1 := Lib.hid (HKV.out.trans K1)
   have hbase : w.heap.size ≤ w1.heap.size := HK1.out.size
   clear s0 s1 s2 y hV K1
   go_wp2_with (at_builtin; go_must (refine vai EPfx rfl _ _ rfl z rfl HO1.out HK1.out (Nat.le_refl _) hbase rfl rfl rfl rfl rfl hfit ?_); intro v3 w3 hown3 hK3 hg3; obtain ⟨A3, c3, rfl⟩ := hown3.form1; have HO3 := Lib.hid hown3; have HK3 := Lib.hid hK3; clear hown3 hK3 hg3)
   go_roundw
   case rel => exact ⟨j + 1, by omega, by go_num, Lib.hid ⟨by rw [HM.out]; exact HO3.out, HK3.out⟩⟩
   case measure => simp [intOf]; omega
  ·obtain rfl : j = xs.length := by omega
   have hlast := R.out
   rw [List.take_length] at hlast
   have hl : ((xs.take xs.length).map h).length = xs.length := by rw [List.take_length, List.length_map]
   rw [hl]
   rw [show (xs.map h).length = xs.length from List.length_map _] at hlast
   have HE := Lib.hid hlast
   clear hlast hl
   go_wp2_with fail
   go_ret
   exact ⟨Av, cv, rfl, by first | exact HE.out.1 | (rw [List.take_length] at HE; exact HE.out.1), HE.out.2⟩
theorem EBs : ElemOf Tryz.prog 59 64 (.slice none 0 0) 1 24 := ⟨Tryz.underlying59, by kernel_rfl, rfl, by decide⟩
set_option maxRecDepth 100000 in
theorem vhz (c : Int) (A : Option Addr) (m : Nat) (es : List En) (w : World) (hW : WidAt w) (hR : Rd w 6 En.enc A es) (hw : ∀ e ∈ es, e.wf) (hn : es.length ≤ 1000000) (he : encN c es = 0) :
  Calls Tryz.prog 127 #[dgV c A es.length m] w fun r w' => ∃ A2 m2, r = .returned (.slice A2 (bytesD c es).length m2) ∧ Own w' w.heap.size 5 1 byN (.slice A2 (bytesD c es).length m2) (bytesD c es) ∧ Kp w w' := by
 obtain ⟨b, hb⟩ : ∃ b, w.heap.size = b := ⟨_, rfl⟩
 obtain ⟨W, hWq, kW, B0⟩ := Blk.al1 hb #[.int .i64 c, .slice A es.length m] 30
 have u := Blk.f B0 rfl
 have HX := Lib.hid (vcT c A m es W (hW.keep kW) (hR.keep kW) hw hn)
 have HE := Lib.hid he
 have HK := Lib.hid kW
 unfold EncP at HX
 rw [he] at HX
 clear hW hR hw he B0 kW
 go_enter Tryz.func127, Tryz.ntmps127
 go_wp2_with fail
 refine HX.out.mono ?_
 rintro r w1 ⟨v, rfl, hO, -, K1⟩
 obtain ⟨A2, m2, hv⟩ := (hO trivial).form
 subst hv
 have HO := Lib.hid ((hO trivial).mono HK.out.size)
 have HK1 := Lib.hid (HK.out.trans K1)
 clear hO K1
 go_wp2_with fail
 go_ret
 exact ⟨A2, m2, rfl, HO.out, HK1.out⟩
end

end Go.Proofs.YtgopnfacklmkaaaGreatDoor
namespace Go.Proofs
open Go.Shelf
def Tryz.sortH_ren : Go.Shelf.Ren := ⟨fun | 6 => 150 | 15 => 207 | 14 => 206 | 28 => 273 | 29 => 274 | 20 => 265 | 21 => 266 | 22 => 267 | 23 => 268 | 24 => 269 | 25 => 270 | 26 => 271 | 27 => 272 | 46 => 305 | 47 => 306 | 48 => 307 | 49 => 308 | 50 => 309 | 57 => 328 | n => n, fun | 22 => 171 | 24 => 132 | 25 => 264 | 3 => 3 | 39 => 136 | 0 => 0 | 53 => 36 | 55 => 395 | 4 => 4 | 46 => 389 | 45 => 388 | 50 => 179 | 5 => 5 | 9 => 9 | 66 => 425 | 70 => 429 | 76 => 443 | 77 => 202 | n => n, fun | n => n⟩
theorem Tryz.sortH : Go.Proofs.SlLaysF0.n6 Tryz.prog Tryz.sortH_ren := {
 mixed := by kernel_rfl
 f6 := ⟨Tryz.f150.name, by decide, Tryz.func150.trans (congrArg some (by kernel_rfl))⟩
 f14 := ⟨Tryz.f206.name, by decide, Tryz.func206.trans (congrArg some (by kernel_rfl))⟩
 f15 := Tryz.func207.trans (congrArg some (by kernel_rfl))
 f20 := ⟨Tryz.f265.name, by decide, Tryz.func265.trans (congrArg some (by kernel_rfl))⟩
 f21 := ⟨Tryz.f266.name, by decide, Tryz.func266.trans (congrArg some (by kernel_rfl))⟩
 f22 := ⟨Tryz.f267.name, by decide, Tryz.func267.trans (congrArg some (by kernel_rfl))⟩
 f23 := ⟨Tryz.f268.name, by decide, Tryz.func268.trans (congrArg some (by kernel_rfl))⟩
 f24 := ⟨Tryz.f269.name, by decide, Tryz.func269.trans (congrArg some (by kernel_rfl))⟩
 f25 := ⟨Tryz.f270.name, by decide, Tryz.func270.trans (congrArg some (by kernel_rfl))⟩
 f26 := ⟨Tryz.f271.name, by decide, Tryz.func271.trans (congrArg some (by kernel_rfl))⟩
 f27 := ⟨Tryz.f272.name, by decide, Tryz.func272.trans (congrArg some (by kernel_rfl))⟩
 f28 := Tryz.func273.trans (congrArg some (by kernel_rfl))
 f29 := Tryz.func274.trans (congrArg some (by kernel_rfl))
 f46 := ⟨Tryz.f305.name, by decide, Tryz.func305.trans (congrArg some (by kernel_rfl))⟩
 f47 := Tryz.func306.trans (congrArg some (by kernel_rfl))
 f48 := Tryz.func307.trans (congrArg some (by kernel_rfl))
 f49 := ⟨Tryz.f308.name, by decide, Tryz.func308.trans (congrArg some (by kernel_rfl))⟩
 f50 := ⟨Tryz.f309.name, by decide, Tryz.func309.trans (congrArg some (by kernel_rfl))⟩
 f57 := ⟨Tryz.f328.name, by decide, Tryz.func328.trans (congrArg some (by kernel_rfl))⟩
 t0 := Tryz.underlying0
 a0 := Tryz.isAgg0
 z0 := Tryz.sizeOf0
 v0 := Tryz.zeroValue0
 t3 := Tryz.underlying3
 a3 := Tryz.isAgg3
 z3 := Tryz.sizeOf3
 v3 := Tryz.zeroValue3
 t4 := Tryz.underlying4
 a4 := Tryz.isAgg4
 z4 := Tryz.sizeOf4
 v4 := Tryz.zeroValue4
 t5 := Tryz.underlying5
 a5 := Tryz.isAgg5
 z5 := Tryz.sizeOf5
 v5 := Tryz.zeroValue5
 t9 := Tryz.underlying9
 a9 := Tryz.isAgg9
 z9 := Tryz.sizeOf9
 v9 := Tryz.zeroValue9
 t22 := Tryz.underlying171
 a22 := Tryz.isAgg171
 z22 := Tryz.sizeOf171
 v22 := Tryz.zeroValue171
 t25 := Tryz.underlying264
 a25 := Tryz.isAgg264
 z25 := Tryz.sizeOf264
 v25 := Tryz.zeroValue264
 t39 := Tryz.underlying136
 a39 := Tryz.isAgg136
 z39 := Tryz.sizeOf136
 v39 := Tryz.zeroValue136
 t45 := Tryz.underlying388
 a45 := Tryz.isAgg388
 z45 := Tryz.sizeOf388
 v45 := Tryz.zeroValue388
 t46 := Tryz.underlying389
 a46 := Tryz.isAgg389
 z46 := Tryz.sizeOf389
 v46 := Tryz.zeroValue389
 t50 := Tryz.underlying179
 a50 := Tryz.isAgg179
 z50 := Tryz.sizeOf179
 v50 := Tryz.zeroValue179
 t53 := Tryz.underlying36
 a53 := Tryz.isAgg36
 z53 := Tryz.sizeOf36
 v53 := Tryz.zeroValue36
 t55 := Tryz.underlying395
 a55 := Tryz.isAgg395
 z55 := Tryz.sizeOf395
 v55 := Tryz.zeroValue395
 t66 := Tryz.underlying425
 a66 := Tryz.isAgg425
 z66 := Tryz.sizeOf425
 v66 := Tryz.zeroValue425
 t70 := Tryz.underlying429
 a70 := Tryz.isAgg429
 z70 := Tryz.sizeOf429
 v70 := Tryz.zeroValue429
 t76 := Tryz.underlying443
 a76 := Tryz.isAgg443
 z76 := Tryz.sizeOf443
 v76 := Tryz.zeroValue443
 t77 := Tryz.underlying202
 a77 := Tryz.isAgg202
 z77 := Tryz.sizeOf202
 v77 := Tryz.zeroValue202 }
end Go.Proofs
namespace Go.Proofs.YtgopnfacklmkaaaGreatDoor

section
open Go.RowKit Go.Sort Go.Shelf
theorem vfe {α : Type} {sz : Nat} {enc : α → List Value} (henc : ∀ x, (enc x).length = sz) : ∀ (xs : List α) (i : Nat) (hi : i < xs.length) (j : Nat) (u : Value), (enc (xs[i]'hi))[j]? = some u → (xs.flatMap enc)[i * sz + j]? = some u
 | [], i, hi, _, _, _ => absurd hi (by simp)
 | y :: ys, 0, _, j, u, hu => by
  rw [List.flatMap_cons]
  simp only [List.getElem_cons_zero] at hu
  rw [Nat.zero_mul, Nat.zero_add, List.getElem?_append_left (List.getElem?_eq_some_iff.1 hu).1]
  exact hu
 | y :: ys, i + 1, hi, j, u, hu => by
  rw [List.flatMap_cons]
  simp only [List.getElem_cons_succ] at hu
  rw [List.getElem?_append_right (by rw [henc, Nat.add_mul]; omega), henc]
  have e : (i + 1) * sz + j - sz = i * sz + j := by rw [Nat.add_mul]; omega
  rw [e]
  exact vfe henc ys i (by simpa using hi) j u hu
theorem vdg (d : Array Rt) : (flatK Rt.enc 9 d).toList = d.toList.flatMap Rt.enc := by
 have hlen : (d.toList.flatMap Rt.enc).length = d.size * 9 := by rw [vaM Rt.len]; simp
 refine List.ext_getElem? (fun t => ?_)
 by_cases ht : t < d.size * 9
 ·have hd : t / 9 < d.toList.length := by rw [Array.length_toList]; omega
  have hm : t % 9 < (Rt.enc (d.toList[t / 9]'hd)).length := by rw [Rt.len]; omega
  have h1 := vfe Rt.len d.toList (t / 9) hd (t % 9) _ (List.getElem?_eq_getElem hm)
  rw [show t / 9 * 9 + t % 9 = t by omega] at h1
  rw [h1, List.getElem?_eq_getElem (by rw [Array.length_toList, size_flatK]; exact ht), Array.getElem_toList]
  have h2 := get_flatK Rt.enc 9 d t ht
  rw [getElem!_pos (flatK Rt.enc 9 d) t (by rw [size_flatK]; exact ht)] at h2
  rw [h2, getElem!_pos d (t / 9) (by omega), getElem!_pos _ _ (by rw [Rt.len]; omega)]
  rfl
 ·rw [List.getElem?_eq_none (by rw [Array.length_toList, size_flatK]; omega), List.getElem?_eq_none (by omega)]
theorem Own.holdsK {w : World} {base e g n c : Nat} {xs : List Rt} (h : Own w base e 9 Rt.enc (.slice (some ⟨g, 0, none⟩) n c) xs) : HoldsK Rt.enc 9 w g 0 xs.toArray ∧ g < w.heap.size := by
 have hlt := (World.ownsRow.lt h g rfl).2
 refine ⟨fun t ht => ?_, hlt⟩
 rw [size_flatK] at ht
 simp only [List.size_toArray] at ht
 have hf : (xs.flatMap Rt.enc)[t]? = some ((flatK Rt.enc 9 xs.toArray)[t]!) := by
  have := vdg xs.toArray
  rw [← this, Array.getElem?_toList, getElem!_pos _ t (by rw [size_flatK]; simpa using ht)]
  exact Array.getElem?_eq_getElem _
 have hc := World.ownsRow.cells (g := g) h rfl t _ hf
 have hadd : (⟨g, 0, none⟩ : Addr).add t = ⟨g, 0 + t, none⟩ := by unfold Addr.add; split <;> simp_all
 rw [hadd] at hc
 refine ⟨hc, ?_⟩
 rcases h.2 with ⟨h2, _⟩ | ⟨g', cap, cur, hv, _, hb, _⟩
 ·cases h2
 ·injection hv with hv; injection hv with hv; injection hv with hv
  subst hv
  simp [World.frozen?, hb]
theorem Own.sorted {w : World} {base e g n c m : Nat} {xs ys : List Rt} {os : Array Obj} (h : Own w base e 9 Rt.enc (.slice (some ⟨g, 0, none⟩) n c) xs) (hy : ys.length = xs.length) :
  Own (sortWorldK Rt.enc 9 w g 0 m ys.toArray os) base e 9 Rt.enc (.slice (some ⟨g, 0, none⟩) n c) ys ∧ Only [g] w (sortWorldK Rt.enc 9 w g 0 m ys.toArray os) := by
 obtain ⟨h0, h2⟩ := h
 have hfs : (flatK Rt.enc 9 ys.toArray).size = ys.length * 9 := by rw [size_flatK]; simp
 have hho : ∀ k, k < w.heap.size → (sortWorldK Rt.enc 9 w g 0 m ys.toArray os).heap[k]? = if g = k then (w.heap[k]?).map (onCells (putCells id 0 (flatK Rt.enc 9 ys.toArray))) else w.heap[k]? := fun k hk => by
  show ((w.heap.modify g (onCells (putCells id 0 (flatK Rt.enc 9 ys.toArray)))) ++ os)[k]? = _
  rw [Array.getElem?_append_left (by simpa using hk), Array.getElem?_modify]
 refine ⟨⟨by rw [vaM Rt.len], ?_⟩, ⟨rfl, rfl, rfl, ?_, fun k hk hn => ?_⟩⟩
 ·rcases h2 with ⟨h3, _⟩ | ⟨g', cap, cur, hv, hg, hb, hc1, hc2, hc3, hc4⟩
  ·cases h3
  ·injection hv with hv1 hv2 hv3
   injection hv1 with hv1
   injection hv1 with hv1
   subst hv1 hv3
   have hlt : g < w.heap.size := (Array.getElem?_eq_some_iff.1 hb).1
   refine .inr ⟨g, c, putCells id 0 (flatK Rt.enc 9 ys.toArray) cur, by rw [hv2, hy], hg, ?_, by omega, hc2, by simp [putCells, hc3], ?_⟩
   ·rw [hho g hlt, if_pos rfl, hb]
    rfl
   ·rw [← vdg]
    have hle : xs.length ≤ c := by omega
    refine List.ext_getElem? (fun t => ?_)
    by_cases ht : t < ys.length * 9
    ·rw [List.getElem?_take_of_lt ht, Array.getElem?_toList, Array.getElem?_toList]
     unfold putCells
     have q1 : t < cur.size := by omega
     have q2 : t < (flatK Rt.enc 9 ys.toArray).size := by omega
     rw [Array.getElem?_mapIdx, Array.getElem?_eq_getElem q1, Array.getElem?_eq_getElem q2]
     simp only [Option.map_some, hfs]
     rw [if_pos (by omega), getElem!_pos _ _ (by simp; omega)]
     simp
    ·have q1 : (List.take (ys.length * 9) (putCells id 0 (flatK Rt.enc 9 ys.toArray) cur).toList).length ≤ t := by rw [List.length_take]; omega
     have q2 : (flatK Rt.enc 9 ys.toArray).toList.length ≤ t := by rw [Array.length_toList]; omega
     rw [List.getElem?_eq_none q1, List.getElem?_eq_none q2]
 ·show w.heap.size ≤ ((w.heap.modify g _) ++ os).size
  simp
 ·rw [hho k hk, if_neg (fun e => hn (by simp [e]))]
theorem vhA (args : Array Value) (w : World) : (callFunc 151 args).run Tryz.prog w = .ok (.enter 151 args) w := by kernel_rfl
theorem vjf (w : World) : (isAgg 132).run Tryz.prog w = .ok true w := by kernel_rfl
theorem vkZ (w : World) : (Go.sizeOf 132).run Tryz.prog w = .ok 9 w := by kernel_rfl
theorem Rt.one (r : Rt) : ∀ v ∈ r.enc, v.oneCell' = true := by
 intro v hv
 simp only [Rt.enc, List.mem_cons, List.not_mem_nil, or_false] at hv
 rcases hv with h | h | h | h | h | h | h | h | h <;> subst h <;> rfl
def SortP (base g n c : Nat) (L : List Rt) (w : World) (e : Ending) (w' : World) : Prop := e = .returned (.tuple #[]) ∧ Own w' base 132 9 Rt.enc (.slice (some ⟨g, 0, none⟩) n c) L ∧ Only [g] w w'
theorem vhB (base g n c : Nat) (xs L : List Rt) (u : UpR L) (hp : xs.Perm L) (hn : L.length ≤ 900000) (w : World) (h : Own w base 132 9 Rt.enc (.slice (some ⟨g, 0, none⟩) n c) xs) :
  Calls Tryz.prog 150 #[.slice (some ⟨g, 0, none⟩) n c, .func (.func 151) #[] #[]] w (SortP base g n c L w) := by
 have hlen := hp.length_eq
 have hsz : xs.toArray.size = n := by
  rcases h.2 with ⟨h2, _⟩ | ⟨g', cap, cur, hv, _⟩
  ·cases h2
  ·injection hv with _ hv; simp [hv]
 obtain ⟨hH, hlt⟩ := h.holdsK
 have hcmp : CmpLays Tryz.prog 151 #[] Rt.enc 9 cfR g 0 xs.toArray.size w := fun m os dk hs x y => by
  refine (viZ x y _).mono ?_
  rintro e w' ⟨rfl, hk, hd⟩
  exact ⟨rfl, vfU hk hd⟩
 have H := AnyQ.slices_SortFunc Tryz.sortH 9 vjf vkZ Rt.enc Rt.len Rt.one cfR swoR 151 #[] g 0 c xs.toArray w vhA hcmp hH hlt (by have h3 : xs.toArray.size = xs.length := List.size_toArray; omega)
 rw [hsz] at H
 refine Calls.mono H ?_
 rintro e w' ⟨rfl, d', m, os, h1, h2, rfl⟩
 have hd : d'.toList = L := vhp u (by simpa using hp) (by rw [hsz]; exact h1) (by rw [hsz]; exact h2)
 have e2 : d' = L.toArray := by rw [← hd]
 subst e2
 exact ⟨rfl, h.sorted (by omega)⟩
end

section
open Go.RowKit Go.Shelf Go.Sort
set_option maxRecDepth 100000 in
theorem vhC (r : Rt) (w : World) : Calls Tryz.prog 85 #[roV r] w fun e w' => e = .returned (.bool true) ∧ Kp w w' := by
 go_enter Tryz.func85, Tryz.ntmps85
 go_wp2_with fail
 go_ret
 exact ⟨rfl, (Kp.refl _).alloc _⟩
theorem vga (args : Array Value) (w : World) : (callFunc 85 args).run Tryz.prog w = .ok (.enter 85 args) w := by kernel_rfl
def SortV (base : Nat) (v : Value) (L : List Rt) (w : World) (e : Ending) (w' : World) : Prop := e = .returned (.tuple #[]) ∧ Own w' base 132 9 Rt.enc v L ∧ ∃ bs, (∀ b ∈ bs, base ≤ b) ∧ Only bs w w'
theorem vhD (base : Nat) (A : Option Addr) (n c : Nat) (xs L : List Rt) (u : UpR L) (hp : xs.Perm L) (hn : L.length ≤ 900000) (w : World) (h : Own w base 132 9 Rt.enc (.slice A n c) xs) :
  Calls Tryz.prog 150 #[.slice A n c, .func (.func 151) #[] #[]] w (SortV base (.slice A n c) L w) := by
 cases A with
 | none =>
  have h0 : n = 0 ∧ c = 0 := by
   rcases h.2 with ⟨h2, h3⟩ | ⟨g, cap, cur, hv, _⟩
   ·injection h2 with h4 h5 h6; exact ⟨h5, h6⟩
   ·injection hv with hv; cases hv
  obtain ⟨rfl, rfl⟩ := h0
  have hx : xs = [] := by
   obtain ⟨A', c', hv⟩ := h.form
   injection hv with _ hv
   exact List.length_eq_zero_iff.1 hv.symm
  subst hx
  have hL : L = [] := hp.nil_eq.symm
  subst hL
  refine (AnyF.slices_SortFunc_none Tryz.sortH none 0 _ w).mono ?_
  rintro e w' ⟨rfl, rfl⟩
  exact ⟨rfl, h, [], by simp, Only.refl _ _⟩
 | some a =>
  obtain ⟨g, rfl⟩ : ∃ g, a = ⟨g, 0, none⟩ := by
   rcases h.2 with ⟨h2, _⟩ | ⟨g, cap, cur, hv, _⟩
   ·cases h2
   ·injection hv with hv; injection hv with hv; exact ⟨g, hv⟩
  have hg := (World.ownsRow.lt h g rfl).1
  refine (vhB base g n c xs L u hp hn w h).mono ?_
  rintro e w' ⟨rfl, h1, h2⟩
  exact ⟨rfl, h1, [g], by simpa using hg, h2⟩
set_option maxRecDepth 100000 in
theorem vgb (B t : Nat) (F : List Nat) (T : Tb) (g : FuncId) (f : Rt → Bool) (eg : ∀ args w, (callFunc g args).run Tryz.prog w = .ok (.enter g args) w)
  (hg : ∀ (r : Rt) (W : World), Calls Tryz.prog g #[roV r] W fun e w' => e = .returned (.bool (f r)) ∧ Kp W w') (w : World) (h : TabM w B t F T) :
  Calls Tryz.prog 81 #[.pointer (some ⟨t, 0, none⟩), .func (.func g) #[] #[]] w (SiftP (T.l.filter f) w) := by
 obtain ⟨q, mp, m, A, QF, l, _, X⟩ := h
 have hm : w.cell? ⟨t, 10, none⟩ = some (.map (some mp)) := X.bk.cell 10
 obtain ⟨o, ho⟩ : ∃ o, w.heap[mp]? = some o := ⟨_, Array.getElem?_eq_getElem X.mr.lt⟩
 have hmr : ∀ V : World, V.heap[mp]? = some o → MapR V mp T.l := fun V hV => X.mr.lie (hV.trans ho.symm)
 have hu := X.u
 have hwf := X.wf
 have hn := X.n
 have hmp := X.mr.lt
 have HO := Lib.hid ho
 have HR := Lib.hid hmr
 have HU := Lib.hid hu
 have HW := Lib.hid hwf
 have HG := Lib.hid hg
 have HE := Lib.hid eg
 clear X ho hmr hu hwf hg eg
 go_enter Tryz.func81, Tryz.ntmps81
 go_upto_region 3 with (first | (go_at_call 55; refine (vcn t mp _ hm).mono ?_; rintro e w' ⟨rfl, hw'⟩; rw [hw']; clear hw' w'))
 go_wp2_with fail
 refine (vja mp w).mono ?_
 rintro e w1 ⟨rfl, hB1, K1⟩
 obtain ⟨mb, hmb⟩ : ∃ mb, w.heap.size = mb := ⟨_, rfl⟩
 rw [hmb] at hB1
 rw [hmb]
 have ho1 : w1.heap[mp]? = some o := (K1.heap hmp).trans HO.out
 have HC := Lib.hid (vej T.l mp mb o HU.out HW.out HR.out hn w1 hB1 ho1)
 obtain ⟨vv, hvv⟩ : ∃ vv, valsV mb = vv := ⟨_, rfl⟩
 rw [hvv] at HC ⊢
 clear ho1 hB1 hmb hvv
 go_wp2_with fail
 refine HC.out.mono ?_
 rintro e w2 ⟨A2, n2, c2, s, rfl, hO2, hP2, K2⟩
 obtain ⟨A', c', hv2, hR2⟩ := hO2.rd (by decide) Rt.len
 injection hv2 with ha2 hn2 hc2
 subst ha2 hn2 hc2
 have hsl : s.length ≤ 900000 := by have := hP2.length_eq; omega
 have HS := Lib.hid (vjb s A2 c2 g f HE.out HG.out w2 hR2 (by omega))
 clear hO2 hR2 HC
 go_wp2_with fail
 refine HS.out.mono ?_
 rintro e w3 ⟨v3, rfl, hO3, K3⟩
 obtain ⟨A3, c3, hv3⟩ := hO3.form
 subst hv3
 have K123 := (K1.trans K2).trans K3
 have hfl := List.length_filter_le f T.l
 have HT := Lib.hid (vhD w2.heap.size A3 (s.filter f).length c3 (s.filter f) (T.l.filter f) (HU.out.filter f) (hP2.filter f) (by omega) w3 hO3)
 have hle2 := (K1.trans K2).size
 clear hO3 HS
 go_wp2_with fail
 refine HT.out.mono ?_
 rintro e w4 ⟨rfl, hO4, bs, hbs, hK4⟩
 have HF := Lib.hid (show SiftP (T.l.filter f) w (.returned (.slice A3 (s.filter f).length c3)) w4 from ⟨_, rfl, hO4.mono hle2, hK4.kp K123 (fun b hb => Nat.le_trans hle2 (hbs b hb))⟩)
 clear hO4 hbs hK4 HT hsl hfl
 go_wp2_with fail
 go_ret
 exact HF.out
end

section
open Go.RowKit
theorem ERtR : ElemOf Tryz.prog 81 52 (.agg #[.int .u32 0, .int .i64 0, .int .i64 0, .int .i64 0, .int .i64 0, .int .i64 0, .int .u32 0, .int .i64 0, .bool false]) 9 72 := ⟨Tryz.underlying81, by kernel_rfl, rfl, by decide⟩
end

end Go.Proofs.YtgopnfacklmkaaaGreatDoor
