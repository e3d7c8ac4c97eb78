/- Layer 18's Addr: what a call returns. No condition but at most 30 links. -/
import Derived.Test.YtgnhhhcelfaliaaGraphI
namespace Go.Proofs.Ytgnhhhcelfaliaa
open Go.RowKit

def addrN (R : Int) (ls : List Lk) (r l : Int) : Int := if onErr R ls r l = 0 then netI l + (if ((ls[l.toNat]?).map (fun k => k.A)).getD 0 = r then 1 else 2) else 0

set_option maxRecDepth 100000 in
set_option maxHeartbeats 1000000 in
theorem gaddr_any (R r l : Int) (A : Option Addr) (c : Nat) (ls : List Lk) (w : World) (hR : Rd w 3 Lk.enc A ls) (hn : ls.length ≤ 30) :
    Calls Try.prog 13 #[.agg #[.int .i64 R, .slice A ls.length c], .int .i64 r, .int .i64 l] w fun e w' =>
      e = .returned (.tuple #[.int .u32 (addrN R ls r l), .int .i64 (onErr R ls r l)]) ∧ Kp w w' := by
  have hmf := makeFunc_run
  have hK0 : Kp w (((w.alloc (.cells #[.int .i64 R, .slice A ls.length c] 24)).alloc (.cells #[.int .u32 0] 34)).alloc (.cells #[.int .i64 0] 28)) := (((Kp.refl _).alloc _).alloc _).alloc _
  by_cases hon : onErr R ls r l = 0
  · obtain ⟨k, hk, rfl, hr, h0, h1, hh⟩ := onErr_zero hon
    have hl := right_link hr hk
    have h20 := right_20 hr
    have Hon := Lib.hid hon; clear hon
    have H := Lib.hid hr; clear hr
    have HH := Lib.hid hh; clear hh
    go_enter_defers Try.func13, Try.ntmps13
    go_wp2_with fail
    refine (linkOf_ok R r k A c ls _ (hR.keep hK0) hn H.out h0 h1 hk HH.out).mono ?_
    rintro e w1 ⟨rfl, hK1⟩
    have hKw : Kp w w1 := hK0.trans hK1
    have B1 : Blk w1 (w.heap.size + 1) 34 #[.int .u32 0] := ((Blk.new1 w _ _ _).alloc _).keep hK1
    have B2 : Blk w1 (w.heap.size + 1 + 1) 28 #[.int .i64 0] := (Blk.new2 w _ _ _ _).keep hK1
    have b1 := B1.lt
    have b2 := B2.lt
    have n1 : ¬ w.heap.size + 1 = w1.heap.size := by omega
    have n2 : ¬ w.heap.size + 1 + 1 = w1.heap.size := by omega
    go_wp2_with fail
    refine (gnet_ok k _ (by omega) (by omega)).mono ?_
    rintro e w2 ⟨rfl, hK2⟩
    have hKz : Kp w w2 := (hKw.alloc _).trans hK2
    have C1 := (B1.alloc _).keep hK2
    have C2 := (B2.alloc _).keep hK2
    have C3 := (Blk.new w1 54 #[.int .i64 ls[k].A, .int .i64 ls[k].B, .bool ls[k].Up]).keep hK2
    have l1 : w2.cell? ⟨w1.heap.size, 1, none⟩ = some (.int .i64 ls[k].B) := C3.cell 1
    have l1' : ∀ o, (w2.alloc o).cell? ⟨w1.heap.size, 1, none⟩ = some (.int .i64 ls[k].B) := fun o => (C3.alloc o).cell 1
    have c1 : ∀ o, (w2.alloc o).cell? ⟨w.heap.size + 1, 0, none⟩ = some (.int .u32 0) := fun o => (C1.alloc o).cell 0
    have c2 : ∀ o, (w2.alloc o).cell? ⟨w.heap.size + 1 + 1, 0, none⟩ = some (.int .i64 0) := fun o => (C2.alloc o).cell 0
    have z1 : ∀ o, (w2.alloc o).frozen? ⟨w.heap.size + 1, 0, none⟩ = false := fun o => (C1.alloc o).frozen 0
    have z2 : ∀ o, (w2.alloc o).frozen? ⟨w.heap.size + 1 + 1, 0, none⟩ = false := fun o => (C2.alloc o).frozen 0
    have c1' : w2.cell? ⟨w.heap.size + 1, 0, none⟩ = some (.int .u32 0) := C1.cell 0
    have c2' : w2.cell? ⟨w.heap.size + 1 + 1, 0, none⟩ = some (.int .i64 0) := C2.cell 0
    have z1' := C1.frozen 0
    have z2' := C2.frozen 0
    have d1 := C1.lt
    have d2 := C2.lt
    have d3 := C3.lt
    have m1 : ¬ w.heap.size + 1 = w2.heap.size := by omega
    have m2 : ¬ w.heap.size + 1 + 1 = w2.heap.size := by omega
    have m3 : ¬ w1.heap.size = w2.heap.size := by omega
    obtain ⟨n0, n9⟩ := netI_bd (show (0 : Int) ≤ k by omega) (by omega)
    generalize hq : netI k = q at *
    have Hq := Lib.hid hq; clear hq
    go_wp2_with fail
    refine (need_ok _ _).mono ?_
    rintro e w3 ⟨rfl, hw3⟩
    have E1 : Blk w3 (w.heap.size + 1) 34 #[.int .u32 0] := hw3 ▸ ((C1.far (p := ⟨w.heap.size + 1 + 1, 0, none⟩) (by simp) _).alloc _)
    have E2 : Blk w3 (w.heap.size + 1 + 1) 28 #[.int .i64 0] := hw3 ▸ ((C2.set_ 0 (.int .i64 0)).alloc _)
    have E3 : Blk w3 w1.heap.size 54 #[.int .i64 ls[k].A, .int .i64 ls[k].B, .bool ls[k].Up] := hw3 ▸ ((C3.far (p := ⟨w.heap.size + 1 + 1, 0, none⟩) (by simp; omega) _).alloc _)
    have E4 : Blk w3 w2.heap.size 38 #[.int .u32 q, .int .i64 30] := hw3 ▸ (by simpa using Blk.new (w2.setCell ⟨w.heap.size + 1 + 1, 0, none⟩ (.int .i64 0)) 38 #[.int .u32 q, .int .i64 30])
    have hKy : Kp w w3 := hw3 ▸ ((hKz.setCell (by simp; omega) _).alloc _)
    clear hw3 l1 l1' c1 c2 z1 z2 c1' c2' z1' z2' C1 C2 C3 m1 m2 m3
    have l1 : w3.cell? ⟨w1.heap.size, 1, none⟩ = some (.int .i64 ls[k].B) := E3.cell 1
    have p0 : w3.cell? ⟨w2.heap.size, 0, none⟩ = some (.int .u32 q) := E4.cell 0
    have c1 : w3.cell? ⟨w.heap.size + 1, 0, none⟩ = some (.int .u32 0) := E1.cell 0
    have c2 : w3.cell? ⟨w.heap.size + 1 + 1, 0, none⟩ = some (.int .i64 0) := E2.cell 0
    have z1 := E1.frozen 0
    have z2 := E2.frozen 0
    have n1 : ¬ w.heap.size + 1 = w1.heap.size := by omega
    have n1' : ¬ w1.heap.size = w.heap.size + 1 := by omega
    have hss := setCell_twice
    by_cases hb : (r == ls[k].B) = true
    · have Ha : Hid (¬ ls[k].A = r) := Lib.hid (by have := hl.2.2.2.2; simp at hb; rw [hb]; exact this)
      go_wp2_with fail
      refine leaves_cons (f := 44) (args := #[.pointer (some ⟨w.heap.size + 1, 0, none⟩), .pointer (some ⟨w.heap.size + 1 + 1, 0, none⟩)]) (by simp) (by simp [go_sem]) ?_
      refine (idle_addr _ _ _).mono ?_
      rintro e u' w4 ⟨rfl, rfl, hK4⟩
      have D1 := ((E1.set_ 0 (.int .u32 (q + 1 + 1))).far (p := ⟨w.heap.size + 1 + 1, 0, none⟩) (by simp) (.int .i64 0)).keep hK4
      have D2 := ((E2.far (p := ⟨w.heap.size + 1, 0, none⟩) (by simp) (.int .u32 (q + 1 + 1))).set_ 0 (.int .i64 0)).keep hK4
      have d1 : w4.cell? ⟨w.heap.size + 1, 0, none⟩ = some (.int .u32 (q + 1 + 1)) := D1.cell 0
      have d2 : w4.cell? ⟨w.heap.size + 1 + 1, 0, none⟩ = some (.int .i64 0) := D2.cell 0
      show Leaves _ _ _ _ [] .returning _
      exact ⟨.tuple #[.int .u32 (q + 1 + 1), .int .i64 0], by simp [results, Try.results13, go_sem, d1, d2], by rw [addrN, if_pos Hon.out, Hon.out, Int.toNat_natCast, List.getElem?_eq_getElem hk]; simp only [Option.map_some, Option.getD_some]; rw [if_neg Ha.out, Hq.out, Int.add_assoc]; rfl, ((hKy.setCell (by simp) _).setCell (by simp <;> omega) _).trans hK4⟩
    · have hb' : (r == ls[k].B) = false := by simpa using hb
      have Ha := Lib.hid (show ls[k].A = r by have := HH.out; simp only [Lk.has, Bool.or_eq_true, beq_iff_eq] at this; simp at hb'; rcases this with h | h; exact h; exact absurd h.symm hb')
      clear hb
      go_wp2_with fail
      refine leaves_cons (f := 44) (args := #[.pointer (some ⟨w.heap.size + 1, 0, none⟩), .pointer (some ⟨w.heap.size + 1 + 1, 0, none⟩)]) (by simp) (by simp [go_sem]) ?_
      refine (idle_addr _ _ _).mono ?_
      rintro e u' w4 ⟨rfl, rfl, hK4⟩
      have D1 := ((E1.set_ 0 (.int .u32 (q + 1))).far (p := ⟨w.heap.size + 1 + 1, 0, none⟩) (by simp) (.int .i64 0)).keep hK4
      have D2 := ((E2.far (p := ⟨w.heap.size + 1, 0, none⟩) (by simp) (.int .u32 (q + 1))).set_ 0 (.int .i64 0)).keep hK4
      have d1 : w4.cell? ⟨w.heap.size + 1, 0, none⟩ = some (.int .u32 (q + 1)) := D1.cell 0
      have d2 : w4.cell? ⟨w.heap.size + 1 + 1, 0, none⟩ = some (.int .i64 0) := D2.cell 0
      show Leaves _ _ _ _ [] .returning _
      exact ⟨.tuple #[.int .u32 (q + 1), .int .i64 0], by simp [results, Try.results13, go_sem, d1, d2], by rw [addrN, if_pos Hon.out, Hon.out, Int.toNat_natCast, List.getElem?_eq_getElem hk]; simp only [Option.map_some, Option.getD_some]; rw [if_pos Ha.out, Hq.out], ((hKy.setCell (by simp) _).setCell (by simp <;> omega) _).trans hK4⟩
  · have Hon := Lib.hid hon; clear hon
    go_enter_defers Try.func13, Try.ntmps13
    go_wp2_with fail
    refine (linkOf_no R r l A c ls _ (hR.keep hK0) hn Hon.out).mono ?_
    rintro e w1 ⟨rfl, hK1⟩
    have hKw : Kp w w1 := hK0.trans hK1
    have hon := Hon.out
    have B1 : Blk w1 (w.heap.size + 1) 34 #[.int .u32 0] := ((Blk.new1 w _ _ _).alloc _).keep hK1
    have B2 : Blk w1 (w.heap.size + 1 + 1) 28 #[.int .i64 0] := (Blk.new2 w _ _ _ _).keep hK1
    refine leaves_cons (f := 44) (args := #[.pointer (some ⟨w.heap.size + 1, 0, none⟩), .pointer (some ⟨w.heap.size + 1 + 1, 0, none⟩)]) (by simp) (by simp [go_sem]) ?_
    refine (catch_addr _ _ _ _ (onErr R ls r l) w1 (B1.cell 0) (B2.cell 0) (B1.frozen 0) (B2.frozen 0) (by omega)).mono ?_
    rintro e u' w2 ⟨rfl, rfl, c0, c1, ho⟩
    show Leaves _ _ _ _ [] .returning _
    exact ⟨.tuple #[.int .u32 0, .int .i64 (onErr R ls r l)], by simp [results, Try.results13, go_sem, c0, c1], by rw [addrN, if_neg hon], ho.kp hKw (by simp <;> omega)⟩
end Go.Proofs.Ytgnhhhcelfaliaa
