/- Layer 18's Faces, Face, Other, Net, Addr: what each call returns. No condition but at most 30 links. -/
import Derived.Test.YtgnhhhcelfaliaaGraphG
namespace Go.Proofs.Ytgnhhhcelfaliaa
open Go.RowKit

theorem makeFunc_run (fn : Fn) (first cap : Array Value) (w : World) : (Instr.makeFunc fn first cap).run Try.prog w = .ok (.func fn first cap) w := rfl

def facesE (R : Int) (ls : List Lk) (r : Int) : List Int := if routerErr R ls r = 0 then faces ls r else []

def FacesPost (R : Int) (ls : List Lk) (r : Int) (w : World) (e : Ending) (w' : World) : Prop :=
  ∃ v, e = .returned (.tuple #[v, .int .i64 (routerErr R ls r)]) ∧ OwnI w' w.heap.size v (facesE R ls r) ∧ Kp w w'

set_option maxHeartbeats 1000000 in
theorem gfaces_any (R r : Int) (A : Option Addr) (c : Nat) (ls : List Lk) (w : World) (hR : Rd w 3 Lk.enc A ls) (hn : ls.length ≤ 30) :
    Calls Try.prog 10 #[.agg #[.int .i64 R, .slice A ls.length c], .int .i64 r] w (FacesPost R ls r w) := by
  have hmf := makeFunc_run
  go_enter_defers Try.func10, Try.ntmps10
  go_wp2_with fail
  have hK0 : Kp w ((((w.alloc (.cells #[.int .i64 R, .slice A ls.length c] 24)).alloc (.cells #[.slice none 0 0] 27)).alloc (.cells #[.int .i64 0] 28)).alloc (.cells #[.int .i64 R, .slice A ls.length c] 73)) := ((((Kp.refl _).alloc _).alloc _).alloc _).alloc _
  refine (may_any R A c ls _ (hR.keep hK0) hn).mono ?_
  rintro e w1 ⟨hy, hno, hK1⟩
  have hKw : Kp w w1 := hK0.trans hK1
  have B0 : Blk w1 w.heap.size 24 #[.int .i64 R, .slice A ls.length c] := ((((Blk.new w _ _).alloc _).alloc _).alloc _).keep hK1
  have B1 : Blk w1 (w.heap.size + 1) 27 #[.slice none 0 0] := (((Blk.new1 w _ _ _).alloc _).alloc _).keep hK1
  have B2 : Blk w1 (w.heap.size + 1 + 1) 28 #[.int .i64 0] := ((Blk.new2 w _ _ _ _).alloc _).keep hK1
  have B3 : Blk w1 (w.heap.size + 1 + 1 + 1) 73 #[.int .i64 R, .slice A ls.length c] := (Blk.new3 w _ _ _ _ _).keep hK1
  clear hK1 hK0
  cases hr : right R ls with
  | false =>
    obtain rfl := hno hr
    have He : routerErr R ls r = 2 := by simp [routerErr, hr]
    refine leaves_cons (f := 36) (args := #[.pointer (some ⟨w.heap.size + 1, 0, none⟩), .pointer (some ⟨w.heap.size + 1 + 1, 0, none⟩)]) (by simp) (by simp [go_sem]) ?_
    refine (catch_faces _ _ _ _ 2 w1 (B1.cell 0) (B2.cell 0) (B1.frozen 0) (B2.frozen 0) (by omega)).mono ?_
    rintro e u' w2 ⟨rfl, rfl, c0, c1, ho⟩
    show Leaves _ _ _ _ [] .returning _
    exact ⟨.tuple #[.slice none 0 0, .int .i64 2], by simp [results, Try.results10, go_sem, c0, c1], .slice none 0 0, by rw [He], by rw [facesE, He]; exact Own.nil _ _ _ _ _, ho.kp hKw (by simp <;> omega)⟩
  | true =>
    obtain rfl := hy hr
    clear hy hno
    have H := Lib.hid hr; clear hr
    have g0 : w1.cell? ⟨w.heap.size, 0, none⟩ = some (.int .i64 R) := B0.cell 0
    have k0 : w1.cell? ⟨w.heap.size + 1 + 1 + 1, 0, none⟩ = some (.int .i64 R) := B3.cell 0
    have k1 : w1.cell? ⟨w.heap.size + 1 + 1 + 1, 1, none⟩ = some (.slice A ls.length c) := B3.cell 1
    by_cases h0 : 0 ≤ r ∧ r < R
    · have Hr := Lib.hid (show routerErr R ls r = 0 by simp [routerErr, H.out, h0])
      go_wp2_with fail
      refine (at_ok r R _ h0.1 h0.2).mono ?_
      rintro e w2 ⟨rfl, rfl⟩
      go_wp2_with fail
      refine (faces_any R r A c ls _ (hR.keep hKw) (by omega)).mono ?_
      rintro e w2 ⟨v, rfl, hown, hK2⟩
      have hsz := B3.lt
      have hKz := hKw.trans hK2
      have C1 := B1.keep hK2
      have C2 := B2.keep hK2
      have c1 : w2.cell? ⟨w.heap.size + 1, 0, none⟩ = some (.slice none 0 0) := C1.cell 0
      have c2 : w2.cell? ⟨w.heap.size + 1 + 1, 0, none⟩ = some (.int .i64 0) := C2.cell 0
      have z1 := C1.frozen 0
      have z2 := C2.frozen 0
      obtain ⟨A1, cc, rfl⟩ := hown.form
      go_wp2_with fail
      refine leaves_cons (f := 36) (args := #[.pointer (some ⟨w.heap.size + 1, 0, none⟩), .pointer (some ⟨w.heap.size + 1 + 1, 0, none⟩)]) (by simp) (by simp [go_sem]) ?_
      refine (idle_faces _ _ _).mono ?_
      rintro e u' w3 ⟨rfl, rfl, hK3⟩
      have D1 := ((C1.set_ 0 (.slice A1 (faces ls r).length cc)).far (p := ⟨w.heap.size + 1 + 1, 0, none⟩) (by simp) (.int .i64 0)).keep hK3
      have D2 := ((C2.far (p := ⟨w.heap.size + 1, 0, none⟩) (by simp) (.slice A1 (faces ls r).length cc)).set_ 0 (.int .i64 0)).keep hK3
      have d1 : w3.cell? ⟨w.heap.size + 1, 0, none⟩ = some (.slice A1 (faces ls r).length cc) := D1.cell 0
      have d2 : w3.cell? ⟨w.heap.size + 1 + 1, 0, none⟩ = some (.int .i64 0) := D2.cell 0
      show Leaves _ _ _ _ [] .returning _
      refine ⟨.tuple #[.slice A1 (faces ls r).length cc, .int .i64 0], by simp [results, Try.results10, go_sem, d1, d2], .slice A1 (faces ls r).length cc, by rw [Hr.out], ?_, ((hKz.setCell (by simp) _).setCell (by simp <;> omega) _).trans hK3⟩
      rw [facesE, if_pos Hr.out]
      exact ((((hown.setBelow (by simp; omega) _).setBelow (by simp; omega) _)).keep hK3).mono (by omega)
    · go_wp2_with fail
      refine (at_no r R _ (by omega)).mono ?_
      rintro e w2 ⟨rfl, rfl⟩
      have He : routerErr R ls r = 4 := by simp [routerErr, H.out, h0]
      refine leaves_cons (f := 36) (args := #[.pointer (some ⟨w.heap.size + 1, 0, none⟩), .pointer (some ⟨w.heap.size + 1 + 1, 0, none⟩)]) (by simp) (by simp [go_sem]) ?_
      refine (catch_faces _ _ _ _ 4 w1 (B1.cell 0) (B2.cell 0) (B1.frozen 0) (B2.frozen 0) (by omega)).mono ?_
      rintro e u' w2 ⟨rfl, rfl, c0, c1, ho⟩
      show Leaves _ _ _ _ [] .returning _
      exact ⟨.tuple #[.slice none 0 0, .int .i64 4], by simp [results, Try.results10, go_sem, c0, c1], .slice none 0 0, by rw [He], by rw [facesE, He]; exact Own.nil _ _ _ _ _, ho.kp hKw (by simp <;> omega)⟩
end Go.Proofs.Ytgnhhhcelfaliaa
