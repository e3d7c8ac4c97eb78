/- Lemmas and contracts for the theorem of this claim: EnB, OctC, EnC. -/
import Derived.Test.YtgopnfacklmkaaaGreatDoorZyAc
import Derived.Test.YtgopnfacklmkaaaGreatDoorZyAe
set_option linter.all false
set_option maxHeartbeats 16000000
namespace Go.Proofs.YtgopnfacklmkaaaGreatDoor
section
open Go.RowKit
theorem vjY (w : World) : (Instr.typeAssert .nilIface 20 320 true).run Tryz.prog w = .ok (.tuple #[.int .i64 0, .bool false]) w := by kernel_rfl
set_option maxRecDepth 100000 in
theorem vfq (p0 p1 : Value) (w : World) : CallsD Tryz.prog 195 #[p0, p1] .returning w fun en u' w' => en = .returned (.tuple #[]) ∧ u' = .returning ∧ w' = w := by
 have hty := vjY
 refine vah _ _ (rfl : recM .returning = (.nilIface, .returning)) Tryz.func195 rfl rfl rfl ?_
 simp only [Tryz.ntmps195, Act.put, List.size_toArray, List.length_cons, List.length_nil, Nat.reduceAdd, Nat.reduceSub, Array.replicate_succ, Array.replicate_zero, List.push_toArray, List.append_toArray, List.nil_append, List.cons_append]
 go_wp2_with fail
 go_end0
 exact ⟨rfl, trivial, rfl⟩
structure ErS (w : World) (b k r b' c' : Nat) (l : List Nat) (at_ : Nat) (cs : Array Value) (W : World) : Prop where
 o : Blk W b 66 cs
 e : Blk W (b + 1) 44 #[.int .i64 0]
 h : Blk W k 325 #[.pointer (some ⟨r, 0, none⟩)]
 m : RdM W r b' c' l at_
 kp : Kp w W
 wd : WidAt W
 lo : w.heap.size ≤ b ∧ w.heap.size ≤ r ∧ b ≠ r ∧ b + 1 ≠ r ∧ k ≠ r ∧ k ≠ b ∧ b' ≠ b
section
variable {w W W' : World} {b k r b' c' at_ at' : Nat} {l : List Nat} {cs : Array Value}
theorem ErS.next (h : ErS w b k r b' c' l at_ cs W) (hO : Only [r] W W') (hm : RdM W' r b' c' l at') (hw : WidAt w) : ErS w b k r b' c' l at' cs W' := by
 obtain ⟨l1, l2, l3, l4, l5, l6, l7⟩ := h.lo
 have kp : Kp w W' := hO.kp h.kp (by simp; omega)
 exact ⟨h.o.only hO (by simpa using l3), h.e.only hO (by simpa using l4), h.h.only hO (by simpa using l5), hm, kp, hw.keep kp, h.lo⟩
theorem ErS.set (h : ErS w b k r b' c' l at_ cs W) (i : Nat) (v : Value) (h0 : 0 < l.length) (hw : WidAt w) : ErS w b k r b' c' l at_ (cs.setIfInBounds i v) (W.setCell ⟨b, i, none⟩ v) := by
 obtain ⟨l1, l2, l3, l4, l5, l6, l7⟩ := h.lo
 have hO : Only [b] W (W.setCell ⟨b, i, none⟩ v) := (Only.refl [b] W).setCell (p := ⟨b, i, none⟩) (.inl (by simp)) v
 have kp : Kp w (W.setCell ⟨b, i, none⟩ v) := h.kp.setCell (p := ⟨b, i, none⟩) l1 v
 exact ⟨h.o.set_ i v, h.e.only hO (by simp), h.h.only hO (by simpa using l6), h.m.only hO (by simpa using Ne.symm l3) (by simpa using l7) h0, kp, hw.keep kp, h.lo⟩
end
theorem vbc {l : List Nat} {i wd : Nat} (h : i + wd ≤ 20) : atN (l.take 20) i wd = atN l i wd := by
 unfold atN
 rw [List.drop_take, List.take_take, Nat.min_eq_left (by omega)]
set_option maxRecDepth 100000 in
theorem vgv (g off c : Nat) (l : List Nat) (w : World) (hW : WidAt w) (hR : Rd w 1 byN (some ⟨g, off, none⟩) l) (hl : ∀ x ∈ l, x < 256) (h20 : 20 ≤ l.length) (hc : l.length ≤ c) (hn : l.length ≤ 1000000) :
  Calls Tryz.prog 135 #[.slice (some ⟨g, off, none⟩) l.length c] w fun e w' => e = .returned (.tuple #[enV (readEn l), .int .i64 0]) ∧ Kp w w' := by
 obtain ⟨b, hb⟩ : ∃ b, w.heap.size = b := ⟨_, rfl⟩
 obtain ⟨W, hW0, kW, B0, B1⟩ := Blk.al2 hb zeroEC 66 #[.int .i64 0] 44
 have hs : W.heap.size = b + 1 + 1 := by rw [← hW0, ← hb]; simp
 unfold zeroEC at hW0
 have HWD := Lib.hid hW
 have HR2 : Hid (Rd W 1 byN (some ⟨g, off, none⟩) (l.take 20)) := Lib.hid (by have := veq (hR.keep kW) 0 20; simpa using this)
 have HL2 : Hid (∀ x ∈ l.take 20, x < 256) := Lib.hid (fun x hx => hl x (List.mem_of_mem_take hx))
 have HN2 : Hid ((l.take 20).length = 20) := Lib.hid (by rw [List.length_take]; omega)
 obtain ⟨x0, hx0⟩ : ∃ x, atN (l.take 20) 0 2 = x := ⟨_, rfl⟩
 have hb0 : x0 < 4294967296 := by rw [← hx0]; exact vaL _
 obtain ⟨x1, hx1⟩ : ∃ x, atN (l.take 20) 2 2 = x := ⟨_, rfl⟩
 have hb1 : x1 < 4294967296 := by rw [← hx1]; exact vaL _
 obtain ⟨x2, hx2⟩ : ∃ x, atN (l.take 20) 4 4 = x := ⟨_, rfl⟩
 have hb2 : x2 < 4294967296 := by rw [← hx2]; exact vaL _
 obtain ⟨x3, hx3⟩ : ∃ x, atN (l.take 20) 8 4 = x := ⟨_, rfl⟩
 have hb3 : x3 < 4294967296 := by rw [← hx3]; exact vaL _
 obtain ⟨x4, hx4⟩ : ∃ x, atN (l.take 20) 12 4 = x := ⟨_, rfl⟩
 have hb4 : x4 < 4294967296 := by rw [← hx4]; exact vaL _
 obtain ⟨x5, hx5⟩ : ∃ x, atN (l.take 20) 16 4 = x := ⟨_, rfl⟩
 have hb5 : x5 < 4294967296 := by rw [← hx5]; exact vaL _
 have HE : Hid (readEn l = ⟨x0, x1, x2, x3, x4, x5⟩) := Lib.hid (by unfold readEn; rw [← vbc (l := l) (i := 0) (wd := 2) (by decide), ← vbc (l := l) (i := 2) (wd := 2) (by decide), ← vbc (l := l) (i := 4) (wd := 4) (by decide), ← vbc (l := l) (i := 8) (wd := 4) (by decide), ← vbc (l := l) (i := 12) (wd := 4) (by decide), ← vbc (l := l) (i := 16) (wd := 4) (by decide), hx0, hx1, hx2, hx3, hx4, hx5])
 have HX0 := Lib.hid hx0
 have HX1 := Lib.hid hx1
 have HX2 := Lib.hid hx2
 have HX3 := Lib.hid hx3
 have HX4 := Lib.hid hx4
 have HX5 := Lib.hid hx5
 clear hW hR hl hx0 hx1 hx2 hx3 hx4 hx5
 go_enter_defers Tryz.func135, Tryz.ntmps135
 go_wp2_with fail
 all_goals
  (try (have e20 : l.length = 20 := (by omega); rw [e20]))
  have HO := vhT g off c (l.take 20) W HR2.out (by rw [HN2.out]; decide) (by rw [HN2.out]; decide)
  rw [HN2.out] at HO
  refine HO.mono ?_
  rintro e w1 ⟨r, b', c', rfl, hBr, hRr, hcr, hr, hb', hbr, K1⟩
  clear HO hW0
  obtain ⟨k, hk⟩ : ∃ k, w1.heap.size = k := ⟨_, rfl⟩
  obtain ⟨V0, hV, kV, D0⟩ := Blk.al1 hk #[.pointer (some ⟨r, 0, none⟩)] 325
  have HS : Hid (ErS w b k r b' c' (l.take 20) 0 (List.toArray [.int .i64 0, .int .i64 0, .int .u32 0, .int .u32 0, .int .u32 0, .int .u32 0]) V0) := Lib.hid ⟨B0.keep (K1.trans kV), B1.keep (K1.trans kV), D0, ⟨by rw [HN2.out]; exact hBr.keep kV, hRr.keep kV, by rw [HN2.out]; exact hcr, hbr⟩, kW.trans (K1.trans kV), HWD.out.keep (kW.trans (K1.trans kV)), by have h1 := hBr.lt; have h2 := K1.size; exact ⟨by omega, by omega, by omega, by omega, by omega, by omega, by omega⟩⟩
  clear hBr hRr hcr hr hb' hbr K1 kV D0
  go_wp2_with fail
  clear hV hk
  refine (rnextI 2 k r b' c' 0 2 1 rfl (l.take 20) _ HS.out.wd (.inr (.inl ⟨rfl, rfl⟩)) HS.out.h HS.out.m HL2.out (by rw [HN2.out]; decide) (by rw [HN2.out]; decide)).mono ?_
  rintro e w2 ⟨rfl, hO, hm⟩
  rw [HX0.out]
  have HS2 := HS.out.next hO hm HWD.out
  clear hO hm HS
  have z := Blk.frozen HS2.o
  have u := Blk.f HS2.o rfl
  obtain ⟨V1, hV⟩ : ∃ V, w2.setCell ⟨b, 0, none⟩ (.int .i64 (x0 : Int)) = V := ⟨_, rfl⟩
  have HS : Hid (ErS w b k r b' c' (l.take 20) 2 (List.toArray [.int .i64 (x0 : Int), .int .i64 0, .int .u32 0, .int .u32 0, .int .u32 0, .int .u32 0]) V1) := Lib.hid (by rw [← hV]; exact HS2.set 0 _ (by rw [HN2.out]; decide) HWD.out)
  clear HS2
  go_wp2_with fail
  clear hV z u
  refine (rnextI 2 k r b' c' 2 2 1 rfl (l.take 20) _ HS.out.wd (.inr (.inl ⟨rfl, rfl⟩)) HS.out.h HS.out.m HL2.out (by rw [HN2.out]; decide) (by rw [HN2.out]; decide)).mono ?_
  rintro e w3 ⟨rfl, hO, hm⟩
  rw [HX1.out]
  have HS2 := HS.out.next hO hm HWD.out
  clear hO hm HS
  have z := Blk.frozen HS2.o
  have u := Blk.f HS2.o rfl
  obtain ⟨V2, hV⟩ : ∃ V, w3.setCell ⟨b, 1, none⟩ (.int .i64 (x1 : Int)) = V := ⟨_, rfl⟩
  have HS : Hid (ErS w b k r b' c' (l.take 20) 4 (List.toArray [.int .i64 (x0 : Int), .int .i64 (x1 : Int), .int .u32 0, .int .u32 0, .int .u32 0, .int .u32 0]) V2) := Lib.hid (by rw [← hV]; exact HS2.set 1 _ (by rw [HN2.out]; decide) HWD.out)
  clear HS2
  go_wp2_with fail
  clear hV z u
  refine (rnextI 4 k r b' c' 4 4 2 rfl (l.take 20) _ HS.out.wd (.inr (.inr ⟨rfl, rfl⟩)) HS.out.h HS.out.m HL2.out (by rw [HN2.out]; decide) (by rw [HN2.out]; decide)).mono ?_
  rintro e w4 ⟨rfl, hO, hm⟩
  rw [HX2.out]
  have HS2 := HS.out.next hO hm HWD.out
  clear hO hm HS
  have z := Blk.frozen HS2.o
  have u := Blk.f HS2.o rfl
  obtain ⟨V3, hV⟩ : ∃ V, w4.setCell ⟨b, 2, none⟩ (.int .u32 (x2 : Int)) = V := ⟨_, rfl⟩
  have HS : Hid (ErS w b k r b' c' (l.take 20) 8 (List.toArray [.int .i64 (x0 : Int), .int .i64 (x1 : Int), .int .u32 (x2 : Int), .int .u32 0, .int .u32 0, .int .u32 0]) V3) := Lib.hid (by rw [← hV]; exact HS2.set 2 _ (by rw [HN2.out]; decide) HWD.out)
  clear HS2
  go_wp2_with fail
  clear hV z u
  refine (rnextI 4 k r b' c' 8 4 2 rfl (l.take 20) _ HS.out.wd (.inr (.inr ⟨rfl, rfl⟩)) HS.out.h HS.out.m HL2.out (by rw [HN2.out]; decide) (by rw [HN2.out]; decide)).mono ?_
  rintro e w5 ⟨rfl, hO, hm⟩
  rw [HX3.out]
  have HS2 := HS.out.next hO hm HWD.out
  clear hO hm HS
  have z := Blk.frozen HS2.o
  have u := Blk.f HS2.o rfl
  obtain ⟨V4, hV⟩ : ∃ V, w5.setCell ⟨b, 3, none⟩ (.int .u32 (x3 : Int)) = V := ⟨_, rfl⟩
  have HS : Hid (ErS w b k r b' c' (l.take 20) 12 (List.toArray [.int .i64 (x0 : Int), .int .i64 (x1 : Int), .int .u32 (x2 : Int), .int .u32 (x3 : Int), .int .u32 0, .int .u32 0]) V4) := Lib.hid (by rw [← hV]; exact HS2.set 3 _ (by rw [HN2.out]; decide) HWD.out)
  clear HS2
  go_wp2_with fail
  clear hV z u
  refine (rnextI 4 k r b' c' 12 4 2 rfl (l.take 20) _ HS.out.wd (.inr (.inr ⟨rfl, rfl⟩)) HS.out.h HS.out.m HL2.out (by rw [HN2.out]; decide) (by rw [HN2.out]; decide)).mono ?_
  rintro e w6 ⟨rfl, hO, hm⟩
  rw [HX4.out]
  have HS2 := HS.out.next hO hm HWD.out
  clear hO hm HS
  have z := Blk.frozen HS2.o
  have u := Blk.f HS2.o rfl
  obtain ⟨V5, hV⟩ : ∃ V, w6.setCell ⟨b, 4, none⟩ (.int .u32 (x4 : Int)) = V := ⟨_, rfl⟩
  have HS : Hid (ErS w b k r b' c' (l.take 20) 16 (List.toArray [.int .i64 (x0 : Int), .int .i64 (x1 : Int), .int .u32 (x2 : Int), .int .u32 (x3 : Int), .int .u32 (x4 : Int), .int .u32 0]) V5) := Lib.hid (by rw [← hV]; exact HS2.set 4 _ (by rw [HN2.out]; decide) HWD.out)
  clear HS2
  go_wp2_with fail
  clear hV z u
  refine (rnextI 4 k r b' c' 16 4 2 rfl (l.take 20) _ HS.out.wd (.inr (.inr ⟨rfl, rfl⟩)) HS.out.h HS.out.m HL2.out (by rw [HN2.out]; decide) (by rw [HN2.out]; decide)).mono ?_
  rintro e w7 ⟨rfl, hO, hm⟩
  rw [HX5.out]
  have HS2 := HS.out.next hO hm HWD.out
  clear hO hm HS
  have z := Blk.frozen HS2.o
  have u := Blk.f HS2.o rfl
  obtain ⟨V6, hV⟩ : ∃ V, w7.setCell ⟨b, 5, none⟩ (.int .u32 (x5 : Int)) = V := ⟨_, rfl⟩
  have HS : Hid (ErS w b k r b' c' (l.take 20) 20 (List.toArray [.int .i64 (x0 : Int), .int .i64 (x1 : Int), .int .u32 (x2 : Int), .int .u32 (x3 : Int), .int .u32 (x4 : Int), .int .u32 (x5 : Int)]) V6) := Lib.hid (by rw [← hV]; exact HS2.set 5 _ (by rw [HN2.out]; decide) HWD.out)
  clear HS2
  obtain ⟨R, hR, BR, kR⟩ := Blk.putEn HS.out.o ⟨x0, x1, x2, x3, x4, x5⟩ HS.out.kp (by omega)
  have E6 : Blk R (b + 1) 44 #[.int .i64 0] := by rw [← hR]; exact Blk.putEn_far HS.out.e (by omega) _
  simp only [enSet] at hR
  have y := Blk.f HS.out.o rfl
  have yz := Blk.frozen HS.out.o
  have ye : R.cell? ⟨b + 1, 0, none⟩ = some (.int .i64 0) := E6.cell 0
  have yf := Blk.frozen E6
  obtain ⟨R2, hR2, C0, C1, kR2⟩ : ∃ R2, R.setCell ⟨b + 1, 0, none⟩ (.int .i64 0) = R2 ∧ Blk R2 b 66 (enC ⟨x0, x1, x2, x3, x4, x5⟩) ∧ Blk R2 (b + 1) 44 #[.int .i64 0] ∧ Kp w R2 := ⟨_, rfl, BR.far (p := ⟨b + 1, 0, none⟩) (by show b ≠ b + 1; omega) _, E6.set_ 0 _, kR.setCell (p := ⟨b + 1, 0, none⟩) (by show w.heap.size ≤ b + 1; omega) _⟩
  go_wp2_with fail
  clear hV z u
  refine leaves_cons (f := 195) (args := #[.pointer (some ⟨b, 0, none⟩), .pointer (some ⟨b + 1, 0, none⟩)]) (by simp) (by simp [go_sem]) ?_
  refine (vfq _ _ _).mono ?_
  rintro e u' wz ⟨rfl, rfl, rfl⟩
  have r := Blk.f C0 rfl
  have r9 : wz.cell? ⟨b + 1, 0, none⟩ = some (.int .i64 0) := C1.cell 0
  show Leaves _ _ _ _ [] .returning _
  exact ⟨.tuple #[enV (readEn l), .int .i64 0], by rw [HE.out]; simp [results, Tryz.results135, go_sem, r, r9], rfl, kR2⟩
end

section
open Go.RowKit
theorem mk2 (w : World) : (Instr.makeSlice 64 (.int .i64 2) (.int .i64 2)).run Tryz.prog w = .ok (.slice (some ⟨w.heap.size, 0, none⟩) 2 2) (w.alloc (.cells #[.int .u8 0, .int .u8 0] 5)) := by kernel_rfl
theorem mk4 (w : World) : (Instr.makeSlice 64 (.int .i64 4) (.int .i64 4)).run Tryz.prog w = .ok (.slice (some ⟨w.heap.size, 0, none⟩) 4 4) (w.alloc (.cells #[.int .u8 0, .int .u8 0, .int .u8 0, .int .u8 0] 5)) := by kernel_rfl
set_option maxRecDepth 100000 in
theorem vjZ (n : Nat) (w : World) (hn : n < 4294967296) : Calls Tryz.prog 296 #[.int .u32 (n : Int), .int .i64 2] w fun e w' => e = .returned (.slice (some ⟨w.heap.size, 0, none⟩) 2 2) ∧ Blk w' w.heap.size 5 #[.int .u8 ((n : Int) / 256 % 256), .int .u8 ((n : Int) % 256)] ∧ Kp w w' := by
 obtain ⟨g, hg⟩ : ∃ g, w.heap.size = g := ⟨_, rfl⟩
 obtain ⟨W, hW, kW, B0⟩ := Blk.al1 hg #[.int .u8 0, .int .u8 0] 5
 have hm := mk2
 go_enter Tryz.func296, Tryz.ntmps296
 go_wp2_with fail
 clear hW
 go_loopw [11] (fun i wr => ∃ k : Nat, i = .int .i64 k ∧ ((k = 0 ∧ Blk wr g 5 #[.int .u8 0, .int .u8 0]) ∨ (k = 1 ∧ Blk wr g 5 #[.int .u8 ((n : Int) / 256 % 256), .int .u8 0]) ∨ (k = 2 ∧ Blk wr g 5 #[.int .u8 ((n : Int) / 256 % 256), .int .u8 ((n : Int) % 256)])) ∧ Kp w wr) (fun i _ => 2 - (intOf i).toNat)
 case atStart => exact ⟨0, rfl, .inl ⟨rfl, B0⟩, kW⟩
 case round =>
  obtain ⟨k, rfl, hB, hK⟩ := hrel
  rcases hB with ⟨rfl, B⟩ | ⟨rfl, B⟩ | ⟨rfl, B⟩
  ·have u := Blk.f B rfl
   have z := Blk.frozen B
   go_wp2_with fail
   go_roundw
   case rel => exact ⟨1, by go_num, .inr <| .inl ⟨rfl, B.set_ 0 _⟩, hK.setCell (p := ⟨g, 0, none⟩) (by show w.heap.size ≤ g; omega) _⟩
   case measure => simp [intOf]
  ·have u := Blk.f B rfl
   have z := Blk.frozen B
   go_wp2_with fail
   go_roundw
   case rel => exact ⟨2, by go_num, .inr <| .inr <| ⟨rfl, B.set_ 1 _⟩, hK.setCell (p := ⟨g, 1, none⟩) (by show w.heap.size ≤ g; omega) _⟩
   case measure => simp [intOf]
  ·go_wp2_with fail
   go_ret
   rw [hg]
   exact ⟨rfl, B, hK⟩
set_option maxRecDepth 100000 in
theorem vka (n : Nat) (w : World) (hn : n < 4294967296) : Calls Tryz.prog 296 #[.int .u32 (n : Int), .int .i64 4] w fun e w' => e = .returned (.slice (some ⟨w.heap.size, 0, none⟩) 4 4) ∧ Blk w' w.heap.size 5 #[.int .u8 ((n : Int) / 16777216), .int .u8 ((n : Int) / 65536 % 256), .int .u8 ((n : Int) / 256 % 256), .int .u8 ((n : Int) % 256)] ∧ Kp w w' := by
 obtain ⟨g, hg⟩ : ∃ g, w.heap.size = g := ⟨_, rfl⟩
 obtain ⟨W, hW, kW, B0⟩ := Blk.al1 hg #[.int .u8 0, .int .u8 0, .int .u8 0, .int .u8 0] 5
 have hm := mk4
 go_enter Tryz.func296, Tryz.ntmps296
 go_wp2_with fail
 clear hW
 go_loopw [11] (fun i wr => ∃ k : Nat, i = .int .i64 k ∧ ((k = 0 ∧ Blk wr g 5 #[.int .u8 0, .int .u8 0, .int .u8 0, .int .u8 0]) ∨ (k = 1 ∧ Blk wr g 5 #[.int .u8 ((n : Int) / 16777216), .int .u8 0, .int .u8 0, .int .u8 0]) ∨ (k = 2 ∧ Blk wr g 5 #[.int .u8 ((n : Int) / 16777216), .int .u8 ((n : Int) / 65536 % 256), .int .u8 0, .int .u8 0]) ∨ (k = 3 ∧ Blk wr g 5 #[.int .u8 ((n : Int) / 16777216), .int .u8 ((n : Int) / 65536 % 256), .int .u8 ((n : Int) / 256 % 256), .int .u8 0]) ∨ (k = 4 ∧ Blk wr g 5 #[.int .u8 ((n : Int) / 16777216), .int .u8 ((n : Int) / 65536 % 256), .int .u8 ((n : Int) / 256 % 256), .int .u8 ((n : Int) % 256)])) ∧ Kp w wr) (fun i _ => 4 - (intOf i).toNat)
 case atStart => exact ⟨0, rfl, .inl ⟨rfl, B0⟩, kW⟩
 case round =>
  obtain ⟨k, rfl, hB, hK⟩ := hrel
  rcases hB with ⟨rfl, B⟩ | ⟨rfl, B⟩ | ⟨rfl, B⟩ | ⟨rfl, B⟩ | ⟨rfl, B⟩
  ·have u := Blk.f B rfl
   have z := Blk.frozen B
   go_wp2_with fail
   go_roundw
   case rel => exact ⟨1, by go_num, .inr <| .inl ⟨rfl, B.set_ 0 _⟩, hK.setCell (p := ⟨g, 0, none⟩) (by show w.heap.size ≤ g; omega) _⟩
   case measure => simp [intOf]
  ·have u := Blk.f B rfl
   have z := Blk.frozen B
   go_wp2_with fail
   go_roundw
   case rel => exact ⟨2, by go_num, .inr <| .inr <| .inl ⟨rfl, B.set_ 1 _⟩, hK.setCell (p := ⟨g, 1, none⟩) (by show w.heap.size ≤ g; omega) _⟩
   case measure => simp [intOf]
  ·have u := Blk.f B rfl
   have z := Blk.frozen B
   go_wp2_with fail
   go_roundw
   case rel => exact ⟨3, by go_num, .inr <| .inr <| .inr <| .inl ⟨rfl, B.set_ 2 _⟩, hK.setCell (p := ⟨g, 2, none⟩) (by show w.heap.size ≤ g; omega) _⟩
   case measure => simp [intOf]
  ·have u := Blk.f B rfl
   have z := Blk.frozen B
   go_wp2_with fail
   go_roundw
   case rel => exact ⟨4, by go_num, .inr <| .inr <| .inr <| .inr <| ⟨rfl, B.set_ 3 _⟩, hK.setCell (p := ⟨g, 3, none⟩) (by show w.heap.size ≤ g; omega) _⟩
   case measure => simp [intOf]
  ·go_wp2_with fail
   go_ret
   rw [hg]
   exact ⟨rfl, B, hK⟩
def bysC (l : List Nat) : Array Value := (l.map (fun b : Nat => (.int .u8 (b : Int) : Value))).toArray
theorem vlo (n : Nat) : bysC (beN n 2) = #[.int .u8 ((n : Int) / 256 % 256), .int .u8 ((n : Int) % 256)] := by
 simp [bysC, beN]
theorem vlp {n : Nat} (h : n < 4294967296) : bysC (beN n 4) = #[.int .u8 ((n : Int) / 16777216), .int .u8 ((n : Int) / 65536 % 256), .int .u8 ((n : Int) / 256 % 256), .int .u8 ((n : Int) % 256)] := by
 have e : (n : Int) / 16777216 = ((n / 16777216 % 256 : Nat) : Int) := by omega
 rw [e]
 simp [bysC, beN]
def PutP (n wd : Nat) (w : World) (e : Ending) (w' : World) : Prop := e = .returned (.tuple #[.slice (some ⟨w.heap.size, 0, none⟩) wd wd, .int .i64 0]) ∧ Blk w' w.heap.size 5 (bysC (beN n wd)) ∧ Kp w w'
set_option maxRecDepth 100000 in
theorem put_2 (n : Nat) (w : World) (hW : WidAt w) (hn : n < 65536) : Calls Tryz.prog 233 #[.int .u32 (n : Int), .int .i64 2] w (PutP n 2 w) := by
 have HE := Lib.hid (vlo n)
 go_enter Tryz.func233, Tryz.ntmps233
 go_wp2_with fail
 refine vaa 0 rfl ?_
 go_wp2_with fail
 refine (vbi 2 1 (.inr (.inl ⟨rfl, rfl⟩)) _ hW).mono ?_
 rintro e w' ⟨rfl, rfl⟩
 go_wp2_with fail
 refine (vjZ n _ (by omega)).mono ?_
 rintro e w' ⟨rfl, hB, hK⟩
 go_wp2_with fail
 refine vam ?_
 go_ret2
 exact ⟨rfl, by rw [HE.out]; exact hB, hK⟩
set_option maxRecDepth 100000 in
theorem put_4 (n : Nat) (w : World) (hW : WidAt w) (hn : n < 4294967296) : Calls Tryz.prog 233 #[.int .u32 (n : Int), .int .i64 4] w (PutP n 4 w) := by
 have HE := Lib.hid (vlp hn)
 go_enter Tryz.func233, Tryz.ntmps233
 go_wp2_with fail
 refine vaa 0 rfl ?_
 go_wp2_with fail
 refine (vbi 4 2 (.inr (.inr ⟨rfl, rfl⟩)) _ hW).mono ?_
 rintro e w' ⟨rfl, rfl⟩
 go_wp2_with fail
 refine (vka n _ (by omega)).mono ?_
 rintro e w' ⟨rfl, hB, hK⟩
 go_wp2_with fail
 refine vam ?_
 go_ret2
 exact ⟨rfl, by rw [HE.out]; exact hB, hK⟩
end

section
open Go.RowKit
set_option maxRecDepth 100000 in
theorem vjp (n : Nat) (w : World) (hW : WidAt w) (hn : n < 65536) : Calls Tryz.prog 232 #[.int .u32 (n : Int), .int .i64 2] w fun e w' => e = .returned (.slice (some ⟨w.heap.size, 0, none⟩) 2 2) ∧ Blk w' w.heap.size 5 (bysC (beN n 2)) ∧ Kp w w' := by
 go_enter Tryz.func232, Tryz.ntmps232
 go_wp2_with fail
 refine (put_2 n _ hW hn).mono ?_
 rintro e w1 ⟨rfl, hB, hK⟩
 go_wp2_with fail
 go_ret
 exact ⟨rfl, hB, hK⟩
set_option maxRecDepth 100000 in
theorem veO (n : Nat) (w : World) (hW : WidAt w) (hn : n < 4294967296) : Calls Tryz.prog 232 #[.int .u32 (n : Int), .int .i64 4] w fun e w' => e = .returned (.slice (some ⟨w.heap.size, 0, none⟩) 4 4) ∧ Blk w' w.heap.size 5 (bysC (beN n 4)) ∧ Kp w w' := by
 go_enter Tryz.func232, Tryz.ntmps232
 go_wp2_with fail
 refine (put_4 n _ hW hn).mono ?_
 rintro e w1 ⟨rfl, hB, hK⟩
 go_wp2_with fail
 go_ret
 exact ⟨rfl, hB, hK⟩
theorem vgw (l : List Nat) : (bysC l).toList = l.flatMap byN := by
 unfold bysC byN
 rw [List.toList_toArray]
 induction l with
 | nil => rfl
 | cons x l ih => rw [List.map_cons, List.flatMap_cons, ih]; rfl
theorem vlq {w : World} {g : Nat} {l : List Nat} (h : Blk w g 5 (bysC l)) (hl : l.length ≤ maxLen) : Rd w 1 byN (some ⟨g, 0, none⟩) l := Rd.of_blk h (by decide) vaN hl (vgw l)
def RdS (w : World) (A : Option Addr) (LL : List (List Nat)) : Prop := ∀ i (h : i < LL.length), ∃ b off A' c', A = some ⟨b, off, none⟩ ∧ w.cell? ⟨b, off + i, none⟩ = some (.slice A' LL[i].length c') ∧ Rd w 1 byN A' LL[i]
theorem RdS.keep {w w' : World} {A : Option Addr} {LL : List (List Nat)} (h : RdS w A LL) (k : Kp w w') : RdS w' A LL := fun i hi => by
 obtain ⟨b, off, A', c', e, h1, h2⟩ := h i hi
 exact ⟨b, off, A', c', e, k.cell h1, h2.keep k⟩
theorem vgx {LL : List (List Nat)} {k : Nat} (hk : k < LL.length) : (LL.take (k + 1)).flatten = (LL.take k).flatten ++ LL[k] := by
 rw [List.take_succ_eq_append_getElem hk, List.flatten_append]
 simp
theorem vkb {LL : List (List Nat)} (k : Nat) : (LL.take k).flatten.length ≤ LL.flatten.length := by
 conv => rhs; rw [← List.take_append_drop k LL, List.flatten_append, List.length_append]
 omega
set_option maxRecDepth 100000 in
theorem vfr (A : Option Addr) (c : Nat) (LL : List (List Nat)) (w : World) (hR : RdS w A LL) (hn : LL.length ≤ 1000000) (hf : LL.flatten.length ≤ 1000000) : Calls Tryz.prog 234 #[.slice A LL.length c] w fun e w' => ∃ v, e = .returned v ∧ Own w' w.heap.size 5 1 byN v LL.flatten ∧ Kp w w' := by
 have HR := Lib.hid hR
 clear hR
 have R0 : Hid (Own w w.heap.size 5 1 byN (.slice none 0 0) (LL.take 0).flatten) := Lib.hid (Own.nil _ _ _ _ _)
 go_enter Tryz.func234, Tryz.ntmps234
 go_wp2_with fail
 go_loopw [3, 8] (fun s i wr => ∃ k : Nat, k ≤ LL.length ∧ i = .int .i64 k ∧ Hid (Own wr w.heap.size 5 1 byN s (LL.take k).flatten) ∧ Kp w wr) (fun _ i _ => LL.length - (intOf i).toNat)
 case atStart => exact ⟨0, Nat.zero_le _, rfl, R0, Kp.refl _⟩
 case round =>
  obtain ⟨k, hk, rfl, HO, hK⟩ := hrel
  by_cases hlt : k < LL.length
  ·have hki : (k : Int) < (LL.length : Int) := by omega
   have hk0 : (0 : Int) ≤ (k : Int) := by omega
   obtain ⟨b, off, A', c', hA, c0, hr⟩ := (HR.out.keep hK) k hlt
   subst hA
   have HRr := Lib.hid hr
   have HT := Lib.hid (vgx hlt)
   have h1 := vkb (LL := LL) (k + 1)
   rw [HT.out, List.length_append] at h1
   have hfit : ((LL.take k).flatten.length + LL[k].length) * (1 + 1) ≤ 140737488355328 := by omega
   clear hr h1
   have hsz := hK.size
   go_wp2_with (at_builtin; go_loud (refine vat EByt vaN vep rfl _ _ rfl rfl rfl HO.out HRr.out hfit hsz ?_; intro v' w1 hown hg hat; have HN : Hid (Own w1 w.heap.size 5 1 byN v' (LL.take (k + 1)).flatten) := Lib.hid (by rw [HT.out]; exact hown); have hK1 : Kp w w1 := hK.grown hg (fun q hq => (World.ownsRow.lt HO.out q hq).1); clear hown hg hat))
   go_roundw
   case rel => exact ⟨k + 1, by omega, by go_num, HN, hK1⟩
   case measure => simp [intOf]; omega
  ·obtain rfl : k = LL.length := by omega
   have h1 := HO.out
   rw [List.take_length] at h1
   go_wp2_with fail
   go_ret
   exact ⟨_, rfl, h1, hK⟩
structure BtZ where
 g0 : Nat
 g1 : Nat
 g2 : Nat
 g3 : Nat
 g4 : Nat
 g5 : Nat
 s : Nat
 v : Value
def BtZ.g (z : BtZ) : Nat → Nat
 | 0 => z.g0
 | 1 => z.g1
 | 2 => z.g2
 | 3 => z.g3
 | 4 => z.g4
 | _ => z.g5
def bsE (e : En) : Nat → List Nat
 | 0 => beN e.f.toNat 2
 | 1 => beN e.t.toNat 2
 | 2 => beN e.a 4
 | 3 => beN e.m 4
 | 4 => beN e.n 4
 | _ => beN e.k 4
def bix : Nat → Nat
 | 0 => 4
 | 1 => 9
 | 2 => 13
 | 3 => 17
 | 4 => 21
 | _ => 25
theorem vkc : ∀ i, i < 6 → ∀ j, j < 6 → bix i = bix j → i = j := by decide
theorem vgy : ∀ i, i < 6 → bix i ≠ 26 ∧ bix i ≠ 27 := by decide
def btC (z : BtZ) : Array Value := #[.slice (some ⟨z.g0, 0, none⟩) 2 2, .slice (some ⟨z.g1, 0, none⟩) 2 2, .slice (some ⟨z.g2, 0, none⟩) 4 4, .slice (some ⟨z.g3, 0, none⟩) 4 4, .slice (some ⟨z.g4, 0, none⟩) 4 4, .slice (some ⟨z.g5, 0, none⟩) 4 4]
structure BtM (wc : World) (e : En) (z : BtZ) (L : Nat → Bool) (W : World) : Prop where
 kp : Kp wc W
 b : ∀ i, i < 6 → L (bix i) = true → Blk W (z.g i) 5 (bysC (bsE e i))
 s : L 26 = true → Blk W z.s 64 (btC z)
 o : L 27 = true → Own W wc.heap.size 5 1 byN z.v (bytesE e)
section
variable {wc W W' : World} {e : En} {z z' : BtZ} {L L' : Nat → Bool}
theorem BtM.start : BtM wc e z (fun _ => false) wc.drew := ⟨(Kp.refl _).drew, fun _ _ h => (by cases h), fun h => (by cases h), fun h => (by cases h)⟩
theorem BtM.cong (q : ∀ j ∈ [4, 9, 13, 17, 21, 25, 26, 27], L' j = L j) (h : BtM wc e z L W) : BtM wc e z L' W :=
 ⟨h.kp, fun i hi d => h.b i hi (q (bix i) (by have : i = 0 ∨ i = 1 ∨ i = 2 ∨ i = 3 ∨ i = 4 ∨ i = 5 := (by omega); rcases this with rfl | rfl | rfl | rfl | rfl | rfl <;> simp [bix]) ▸ d), fun d => h.s (q 26 (by simp) ▸ d), fun d => h.o (q 27 (by simp) ▸ d)⟩
theorem BtM.at_ (h : BtM wc e z L W) (i : Nat) (hi : i < 6) (hz : ∀ j, j < 6 → j ≠ i → z'.g j = z.g j) (h26 : L 26 = false) (h27 : L 27 = false) (hB : Blk W' (z'.g i) 5 (bysC (bsE e i))) (k : Kp W W') : BtM wc e z' (fun j => j == bix i || L j) W' := by
 obtain ⟨n1, n2⟩ := vgy i hi
 refine ⟨h.kp.trans k, fun j hj d => ?_, fun d => ?_, fun d => ?_⟩
 ·by_cases e1 : j = i
  ·subst e1
   exact hB
  ·have : (bix j == bix i) = false := by simpa using fun q => e1 (vkc j hj i hi q)
   simp only [this, Bool.false_or] at d
   rw [hz j hj e1]
   exact (h.b j hj d).keep k
 ·have : (26 == bix i) = false := by simpa using Ne.symm n1
  simp only [this, Bool.false_or, h26] at d
  cases d
 ·have : (27 == bix i) = false := by simpa using Ne.symm n2
  simp only [this, Bool.false_or, h27] at d
  cases d
theorem BtM.at26 (h : BtM wc e z L W) (h27 : L 27 = false) : BtM wc e { z with s := W.heap.size } (fun j => j == 26 || L j) (W.alloc (.cells (btC z) 64)) := by
 refine ⟨h.kp.alloc _, fun j hj d => ?_, fun _ => Blk.new _ _ _, fun d => ?_⟩
 ·obtain ⟨n1, _⟩ := vgy j hj
  have : (bix j == 26) = false := by simpa using n1
  simp only [this, Bool.false_or] at d
  have hB := (h.b j hj d).alloc (.cells (btC z) 64)
  have : j = 0 ∨ j = 1 ∨ j = 2 ∨ j = 3 ∨ j = 4 ∨ j = 5 := by omega
  rcases this with rfl | rfl | rfl | rfl | rfl | rfl <;> exact hB
 ·have : L 27 = true := d
  rw [h27] at this
  cases this
theorem BtM.at27 {v : Value} (h : BtM wc e z L W) (hO : Own W' W.heap.size 5 1 byN v (bytesE e)) (k : Kp W W') : BtM wc e { z with v := v } (fun j => j == 27 || L j) W' := by
 refine ⟨h.kp.trans k, fun j hj d => ?_, fun d => ?_, fun _ => hO.mono h.kp.size⟩
 ·obtain ⟨_, n1⟩ := vgy j hj
  have : (bix j == 27) = false := by simpa using n1
  simp only [this, Bool.false_or] at d
  have hB := (h.b j hj d).keep k
  have : j = 0 ∨ j = 1 ∨ j = 2 ∨ j = 3 ∨ j = 4 ∨ j = 5 := by omega
  rcases this with rfl | rfl | rfl | rfl | rfl | rfl <;> exact hB
 ·exact (h.s d).keep k
theorem BtM.rds (h : BtM wc e z L W) (hs : L 26 = true) (hb : ∀ i, i < 6 → L (bix i) = true) : RdS W (some ⟨z.s, 0, none⟩) [bsE e 0, bsE e 1, bsE e 2, bsE e 3, bsE e 4, bsE e 5] := fun i hi => by
 have hi : i < 6 := hi
 have hB := h.s hs
 have hr := fun j hj => vlq (h.b j hj (hb j hj)) (by have : j = 0 ∨ j = 1 ∨ j = 2 ∨ j = 3 ∨ j = 4 ∨ j = 5 := (by omega); rcases this with rfl | rfl | rfl | rfl | rfl | rfl <;> simp [bsE, vdi, maxLen])
 refine ⟨z.s, 0, some ⟨z.g i, 0, none⟩, (bsE e i).length, rfl, ?_, ?_⟩
 ·rw [Nat.zero_add, hB.cell]
  have : i = 0 ∨ i = 1 ∨ i = 2 ∨ i = 3 ∨ i = 4 ∨ i = 5 := by omega
  rcases this with rfl | rfl | rfl | rfl | rfl | rfl <;> simp [btC, bsE, BtZ.g, vdi]
 ·have : i = 0 ∨ i = 1 ∨ i = 2 ∨ i = 3 ∨ i = 4 ∨ i = 5 := by omega
  rcases this with rfl | rfl | rfl | rfl | rfl | rfl <;> exact hr _ hi
end
theorem veP (e : En) : [bsE e 0, bsE e 1, bsE e 2, bsE e 3, bsE e 4, bsE e 5].flatten = bytesE e := by simp [bsE, bytesE]
def BytesP (e : En) (w : World) (en : Ending) (w' : World) : Prop := ∃ v, en = .returned (.tuple #[v, .int .i64 0]) ∧ Own w' w.heap.size 5 1 byN v (bytesE e) ∧ Kp w w'
set_option maxRecDepth 100000 in
theorem vcS (e : En) (w : World) (hW : WidAt w) (hw : e.wf) (ho : okEn e = true) : Calls Tryz.prog 167 #[enV e] w (BytesP e w) := by
 obtain ⟨b, hb⟩ : ∃ b, w.heap.size = b := ⟨_, rfl⟩
 obtain ⟨W, hWq, kW, B0⟩ := Blk.al1 hb (enC e) 66
 unfold enC at hWq
 have HWD := Lib.hid (hW.keep kW)
 have HB0 := Lib.hid B0
 have HkW := Lib.hid kW
 obtain ⟨w1, w2, w3, w4⟩ := hw
 obtain ⟨o1, o2, o3, o4⟩ := (vdj e).1 ho
 obtain ⟨f, hf⟩ := Int.eq_ofNat_of_zero_le o1
 obtain ⟨t, ht⟩ := Int.eq_ofNat_of_zero_le o3
 have d1 : decide (e.f < 0) = false := decide_eq_false (by omega)
 have d2 : decide ((65535 : Int) < e.f) = false := decide_eq_false (by omega)
 have d3 : decide (e.t < 0) = false := decide_eq_false (by omega)
 have d4 : decide ((65535 : Int) < e.t) = false := decide_eq_false (by omega)
 have hfb : f < 65536 := by omega
 have htb : t < 65536 := by omega
 have Hf : Hid (e.f = (f : Int)) := Lib.hid hf
 have Ht : Hid (e.t = (t : Int)) := Lib.hid ht
 have Hf2 : Hid (e.f.toNat = f) := Lib.hid (by rw [hf]; rfl)
 have Ht2 : Hid (e.t.toNat = t) := Lib.hid (by rw [ht]; rfl)
 have hwf : IntKind.u32.wrap (f : Int) = (f : Int) := by show (f : Int) % 4294967296 = _; omega
 have hwt : IntKind.u32.wrap (t : Int) = (t : Int) := by show (t : Int) % 4294967296 = _; omega
 have u0 := Blk.f B0 rfl
 clear hW kW B0 hf ht o1 o2 o3 o4
 go_enter Tryz.func167, Tryz.ntmps167
 go_upto_region 4 with (fail)
 clear hWq u0
 refine' vau (BtM W e) [23, 24, 25, 26, 27, 28, 29, 30, 31, 32, 33, 34, 35, 36, 37, 38, 39, 40, 41, 42, 43, 44, 45, 46, 47, 48, 49, 50, 2, 3] (fun z => [.func (.func 232) #[] #[], .pointer (some ⟨b, 0, none⟩), .int .i64 e.f, .int .u32 (f : Int), .slice (some ⟨z.g0, 0, none⟩) 2 2, .func (.func 232) #[] #[], .pointer (some ⟨b, 1, none⟩), .int .i64 e.t, .int .u32 (t : Int), .slice (some ⟨z.g1, 0, none⟩) 2 2, .func (.func 232) #[] #[], .pointer (some ⟨b, 2, none⟩), .int .u32 (e.a : Int), .slice (some ⟨z.g2, 0, none⟩) 4 4, .func (.func 232) #[] #[], .pointer (some ⟨b, 3, none⟩), .int .u32 (e.m : Int), .slice (some ⟨z.g3, 0, none⟩) 4 4, .func (.func 232) #[] #[], .pointer (some ⟨b, 4, none⟩), .int .u32 (e.n : Int), .slice (some ⟨z.g4, 0, none⟩) 4 4, .func (.func 232) #[] #[], .pointer (some ⟨b, 5, none⟩), .int .u32 (e.k : Int), .slice (some ⟨z.g5, 0, none⟩) 4 4, .slice (some ⟨z.s, 0, none⟩) 6 6, z.v, z.v, .int .i64 0]) (List.replicate 30 true) [4, 9, 13, 17, 21, 25, 26, 27] (by kernel_rfl) (by kernel_rfl) (fun _ => rfl) (fun _ => rfl) (fun _ => rfl) ⟨0, 0, 0, 0, 0, 0, 0, undef⟩ BtM.start (fun _ _ _ _ q h => BtM.cong q h) ?_ ?_ ?_
 rotate_left
 ·intro z; simp only [List.zip_cons_cons, List.zip_nil_right, wrC, wrN, List.set_cons_zero, List.set_cons_succ, List.set_nil]; rfl
 ·repeat' (first | refine And.intro ?_ ?_ | exact trivial)
  all_goals intro z L a w9 hLi d hcl hM hO K hK
  all_goals have u := Blk.f (HB0.out.keep hM.kp) rfl
  all_goals try (go_simp; exact hK z _ _ (hO rfl) (fun _ _ => rfl) rfl)
  ·rw [Hf.out]
   go_simp
   exact hK z _ _ (hO rfl) (fun _ _ => rfl) rfl
  ·have n26 := vac _ hcl (i := 26) (j := 4) rfl rfl hLi
   have n27 := vac _ hcl (i := 27) (j := 26) rfl rfl n26
   go_simp
   refine (vjp f _ (HWD.out.keep hM.kp) hfb).mono ?_
   rintro e9 wb ⟨rfl, hB, hKc⟩
   refine hK { z with g0 := w9.heap.size } _ _ (hM.at_ 0 (by decide) (fun j hj hne => ?_) n26 n27 ?_ hKc) (but1 hLi rfl) rfl
   ·have : j = 0 ∨ j = 1 ∨ j = 2 ∨ j = 3 ∨ j = 4 ∨ j = 5 := by omega
    rcases this with rfl | rfl | rfl | rfl | rfl | rfl <;> first | rfl | exact absurd rfl hne
   ·show Blk wb w9.heap.size 5 (bysC (beN e.f.toNat 2))
    rw [Hf2.out]
    exact hB
  ·rw [Ht.out]
   go_simp
   exact hK z _ _ (hO rfl) (fun _ _ => rfl) rfl
  ·have n26 := vac _ hcl (i := 26) (j := 9) rfl rfl hLi
   have n27 := vac _ hcl (i := 27) (j := 26) rfl rfl n26
   go_simp
   refine (vjp t _ (HWD.out.keep hM.kp) htb).mono ?_
   rintro e9 wb ⟨rfl, hB, hKc⟩
   refine hK { z with g1 := w9.heap.size } _ _ (hM.at_ 1 (by decide) (fun j hj hne => ?_) n26 n27 ?_ hKc) (but1 hLi rfl) rfl
   ·have : j = 0 ∨ j = 1 ∨ j = 2 ∨ j = 3 ∨ j = 4 ∨ j = 5 := by omega
    rcases this with rfl | rfl | rfl | rfl | rfl | rfl <;> first | rfl | exact absurd rfl hne
   ·show Blk wb w9.heap.size 5 (bysC (beN e.t.toNat 2))
    rw [Ht2.out]
    exact hB
  ·have n26 := vac _ hcl (i := 26) (j := 13) rfl rfl hLi
   have n27 := vac _ hcl (i := 27) (j := 26) rfl rfl n26
   go_simp
   refine (veO e.a _ (HWD.out.keep hM.kp) w1).mono ?_
   rintro e9 wb ⟨rfl, hB, hKc⟩
   refine hK { z with g2 := w9.heap.size } _ _ (hM.at_ 2 (by decide) (fun j hj hne => ?_) n26 n27 ?_ hKc) (but1 hLi rfl) rfl
   ·have : j = 0 ∨ j = 1 ∨ j = 2 ∨ j = 3 ∨ j = 4 ∨ j = 5 := by omega
    rcases this with rfl | rfl | rfl | rfl | rfl | rfl <;> first | rfl | exact absurd rfl hne
   ·exact hB
  ·have n26 := vac _ hcl (i := 26) (j := 17) rfl rfl hLi
   have n27 := vac _ hcl (i := 27) (j := 26) rfl rfl n26
   go_simp
   refine (veO e.m _ (HWD.out.keep hM.kp) w2).mono ?_
   rintro e9 wb ⟨rfl, hB, hKc⟩
   refine hK { z with g3 := w9.heap.size } _ _ (hM.at_ 3 (by decide) (fun j hj hne => ?_) n26 n27 ?_ hKc) (but1 hLi rfl) rfl
   ·have : j = 0 ∨ j = 1 ∨ j = 2 ∨ j = 3 ∨ j = 4 ∨ j = 5 := by omega
    rcases this with rfl | rfl | rfl | rfl | rfl | rfl <;> first | rfl | exact absurd rfl hne
   ·exact hB
  ·have n26 := vac _ hcl (i := 26) (j := 21) rfl rfl hLi
   have n27 := vac _ hcl (i := 27) (j := 26) rfl rfl n26
   go_simp
   refine (veO e.n _ (HWD.out.keep hM.kp) w3).mono ?_
   rintro e9 wb ⟨rfl, hB, hKc⟩
   refine hK { z with g4 := w9.heap.size } _ _ (hM.at_ 4 (by decide) (fun j hj hne => ?_) n26 n27 ?_ hKc) (but1 hLi rfl) rfl
   ·have : j = 0 ∨ j = 1 ∨ j = 2 ∨ j = 3 ∨ j = 4 ∨ j = 5 := by omega
    rcases this with rfl | rfl | rfl | rfl | rfl | rfl <;> first | rfl | exact absurd rfl hne
   ·exact hB
  ·have n26 := vac _ hcl (i := 26) (j := 25) rfl rfl hLi
   have n27 := vac _ hcl (i := 27) (j := 26) rfl rfl n26
   go_simp
   refine (veO e.k _ (HWD.out.keep hM.kp) w4).mono ?_
   rintro e9 wb ⟨rfl, hB, hKc⟩
   refine hK { z with g5 := w9.heap.size } _ _ (hM.at_ 5 (by decide) (fun j hj hne => ?_) n26 n27 ?_ hKc) (but1 hLi rfl) rfl
   ·have : j = 0 ∨ j = 1 ∨ j = 2 ∨ j = 3 ∨ j = 4 ∨ j = 5 := by omega
    rcases this with rfl | rfl | rfl | rfl | rfl | rfl <;> first | rfl | exact absurd rfl hne
   ·exact hB
  ·have n27 := vac _ hcl (i := 27) (j := 26) rfl rfl hLi
   go_simp
   exact hK { z with s := w9.heap.size } _ _ (hM.at26 n27) (but1 hLi rfl) rfl
  ·have n28 := vac _ hcl (i := 28) (j := 27) rfl rfl hLi
   go_simp
   refine (vfr (some ⟨z.s, 0, none⟩) 6 [bsE e 0, bsE e 1, bsE e 2, bsE e 3, bsE e 4, bsE e 5] _ (hM.rds (d 26 rfl) (fun i hi => ?_)) (by simp) ?_).mono ?_
   ·have : i = 0 ∨ i = 1 ∨ i = 2 ∨ i = 3 ∨ i = 4 ∨ i = 5 := by omega
    have l26 := d 26 rfl
    rcases this with rfl | rfl | rfl | rfl | rfl | rfl
    ·exact hcl 26 _ 4 rfl l26 rfl
    ·exact hcl 26 _ 9 rfl l26 rfl
    ·exact hcl 26 _ 13 rfl l26 rfl
    ·exact hcl 26 _ 17 rfl l26 rfl
    ·exact hcl 26 _ 21 rfl l26 rfl
    ·exact hcl 26 _ 25 rfl l26 rfl
   ·rw [veP, vaG]; decide
   ·rintro e9 wb ⟨v9, rfl, hO9, hKc⟩
    rw [veP] at hO9
    exact hK { z with v := v9 } _ _ (hM.at27 hO9 hKc) (but2 hLi n28 rfl) rfl
 intro z L w9 hL hM
 (try simp only [Exit.then])
 go_wp2_with fail
 go_ret2
 exact ⟨z.v, rfl, (hM.o (hL 27 (by decide))).mono HkW.out.size, HkW.out.trans hM.kp⟩
end

end Go.Proofs.YtgopnfacklmkaaaGreatDoor
