/- Layer 18: Check and Set. No condition but at most 30 links. -/
import Derived.Test.YtgnhhhcelfaliaaGraphS
import Derived.Deep.RegionHeld3
namespace Go.Proofs.Ytgnhhhcelfaliaa
open Go.RowKit

set_option maxRecDepth 100000 in
set_option maxHeartbeats 400000 in
theorem catch_check (p0 : Nat) (x : Value) (e : Int) (w : World) (h0 : w.cell? ⟨p0, 0, none⟩ = some x) (f0 : w.frozen? ⟨p0, 0, none⟩ = false) :
    CallsD Try.prog 52 #[.pointer (some ⟨p0, 0, none⟩)] (gaveUp e) w fun en u' w' =>
      en = .returned (.tuple #[]) ∧ u' = caught e ∧ w'.cell? ⟨p0, 0, none⟩ = some (.int .i64 e) ∧ Only [p0] w w' := by
  have b0 := World.block_lt_of_cell? w _ h0
  simp only at b0
  have n0 : ¬ p0 = w.heap.size := by omega
  have hty := ta_yes
  refine callsD_rec _ _ (recM_gaveUp e) Try.func52 rfl rfl rfl ?_
  simp only [Try.ntmps52, Act.put, List.size_toArray, List.length_cons, List.length_nil, Nat.reduceAdd, Nat.reduceSub, Array.replicate_succ, Array.replicate_zero, List.push_toArray, List.append_toArray, List.nil_append, List.cons_append]
  go_wp2_with fail
  go_end0
  exact ⟨rfl, trivial, ((Kp.refl _).alloc _).cell (World.cell?_setCell_same _ _ _ h0), ((Only.refl _ _).setCell (.inl (by simp)) _).alloc _⟩

set_option maxRecDepth 100000 in
set_option maxHeartbeats 400000 in
theorem idle_check (p0 : Value) (w : World) :
    CallsD Try.prog 52 #[p0] .returning w fun en u' w' => en = .returned (.tuple #[]) ∧ u' = .returning ∧ Kp w w' := by
  have hty := ta_nil
  refine callsD_rec _ _ recM_returning Try.func52 rfl rfl rfl ?_
  simp only [Try.ntmps52, Act.put, List.size_toArray, List.length_cons, List.length_nil, Nat.reduceAdd, Nat.reduceSub, Array.replicate_succ, Array.replicate_zero, List.push_toArray, List.append_toArray, List.nil_append, List.cons_append]
  go_wp2_with fail
  go_end0
  exact ⟨rfl, trivial, (Kp.refl _).alloc _⟩

def checkE (R : Int) (ls : List Lk) : Int := if right R ls then 0 else 2

set_option maxRecDepth 100000 in
set_option maxHeartbeats 1000000 in
theorem gcheck_any (R : Int) (A : Option Addr) (c : Nat) (ls : List Lk) (w : World) (hR : Rd w 3 Lk.enc A ls) (hn : ls.length ≤ 30) :
    Calls Try.prog 30 #[.agg #[.int .i64 R, .slice A ls.length c]] w fun e w' => e = .returned (.int .i64 (checkE R ls)) ∧ Kp w w' := by
  have hmf := makeFunc_run
  have hK0 : Kp w ((w.alloc (.cells #[.int .i64 R, .slice A ls.length c] 24)).alloc (.cells #[.int .i64 0] 28)) := ((Kp.refl _).alloc _).alloc _
  cases hr : right R ls with
  | false =>
    have H := Lib.hid hr; clear hr
    go_enter_defers Try.func30, Try.ntmps30
    go_wp2_with fail
    refine (may_any R A c ls _ (hR.keep hK0) hn).mono ?_
    rintro e w1 ⟨hy, hno, hK1⟩
    have hKw : Kp w w1 := hK0.trans hK1
    have B1 : Blk w1 (w.heap.size + 1) 28 #[.int .i64 0] := (Blk.new1 w _ _ _).keep hK1
    obtain rfl := hno H.out
    refine leaves_cons (f := 52) (args := #[.pointer (some ⟨w.heap.size + 1, 0, none⟩)]) (by simp) (by simp [go_sem]) ?_
    refine (catch_check _ _ 2 w1 (B1.cell 0) (B1.frozen 0)).mono ?_
    rintro e u' w2 ⟨rfl, rfl, c0, hO⟩
    show Leaves _ _ _ _ [] .returning _
    exact ⟨.int .i64 2, by simp [results, Try.results30, go_sem, c0], by simp [checkE, H.out], hO.kp hKw (by simp <;> omega)⟩
  | true =>
    have H := Lib.hid hr; clear hr
    go_enter_defers Try.func30, Try.ntmps30
    go_wp2_with fail
    refine (may_any R A c ls _ (hR.keep hK0) hn).mono ?_
    rintro e w1 ⟨hy, hno, hK1⟩
    have hKw : Kp w w1 := hK0.trans hK1
    have B1 : Blk w1 (w.heap.size + 1) 28 #[.int .i64 0] := (Blk.new1 w _ _ _).keep hK1
    obtain rfl := hy H.out
    clear hy hno
    have c1 : w1.cell? ⟨w.heap.size + 1, 0, none⟩ = some (.int .i64 0) := B1.cell 0
    have z1 := B1.frozen 0
    go_wp2_with fail
    refine leaves_cons (f := 52) (args := #[.pointer (some ⟨w.heap.size + 1, 0, none⟩)]) (by simp) (by simp [go_sem]) ?_
    refine (idle_check _ _).mono ?_
    rintro e u' w2 ⟨rfl, rfl, hK2⟩
    have y1 : w2.cell? ⟨w.heap.size + 1, 0, none⟩ = some (.int .i64 0) := ((B1.set_ 0 (.int .i64 0)).keep hK2).cell 0
    show Leaves _ _ _ _ [] .returning _
    exact ⟨.int .i64 0, by simp [results, Try.results30, go_sem, y1], by simp [checkE, H.out], (hKw.setCell (by simp) _).trans hK2⟩

theorem Blk.set2 {w : World} {g : Nat} {t : TypeId} {a b x y : Value} (h : Blk w g t #[a, b]) : Blk ((w.setCell ⟨g, 0, none⟩ x).setCell ⟨g, 1, none⟩ y) g t #[x, y] := by
  have := (h.set_ 0 x).set_ 1 y
  simpa using this

set_option maxRecDepth 100000 in
set_option maxHeartbeats 400000 in
theorem catch_set (p0 p1 : Nat) (a b y : Value) (e : Int) (w : World) (h0 : Blk w p0 24 #[a, b]) (h1 : Blk w p1 28 #[y]) (hne : ¬ p0 = p1) :
    CallsD Try.prog 54 #[.pointer (some ⟨p0, 0, none⟩), .pointer (some ⟨p1, 0, none⟩)] (gaveUp e) w fun en u' w' =>
      en = .returned (.tuple #[]) ∧ u' = caught e ∧ Blk w' p0 24 #[.int .i64 0, .slice none 0 0] ∧ Blk w' p1 28 #[.int .i64 e] ∧ Only [p0, p1] w w' := by
  have b0 := h0.lt
  have b1 := h1.lt
  have n0 : ¬ p0 = w.heap.size := by omega
  have n1 : ¬ p1 = w.heap.size := by omega
  have n2 : ¬ p1 = p0 := by omega
  have c0 : w.cell? ⟨p0, 0, none⟩ = some a := h0.cell 0
  have c1 : w.cell? ⟨p0, 1, none⟩ = some b := h0.cell 1
  have c2 : w.cell? ⟨p1, 0, none⟩ = some y := h1.cell 0
  have z0 := h0.frozen 0
  have z1 := h0.frozen 1
  have z2 := h1.frozen 0
  have hty := ta_yes
  refine callsD_rec _ _ (recM_gaveUp e) Try.func54 rfl rfl rfl ?_
  simp only [Try.ntmps54, Act.put, List.size_toArray, List.length_cons, List.length_nil, Nat.reduceAdd, Nat.reduceSub, Array.replicate_succ, Array.replicate_zero, List.push_toArray, List.append_toArray, List.nil_append, List.cons_append]
  go_wp2_with fail
  go_region
  all_goals (try go_wp2_with fail)
  all_goals go_end0
  exact ⟨rfl, trivial, ((h0.set2.far (p := ⟨p1, 0, none⟩) hne _).alloc _).drew, ((((h1.far (p := ⟨p0, 0, none⟩) n2 _).far (p := ⟨p0, 1, none⟩) n2 _).set_ 0 _).alloc _).drew, (((((Only.refl _ _).setCell (.inl (by simp)) _).setCell (.inl (by simp)) _).setCell (.inl (by simp)) _).alloc _).drew⟩

set_option maxRecDepth 100000 in
set_option maxHeartbeats 400000 in
theorem idle_set (p0 p1 : Value) (w : World) :
    CallsD Try.prog 54 #[p0, p1] .returning w fun en u' w' => en = .returned (.tuple #[]) ∧ u' = .returning ∧ Kp w w' := by
  have hty := ta_nil
  refine callsD_rec _ _ recM_returning Try.func54 rfl rfl rfl ?_
  simp only [Try.ntmps54, Act.put, List.size_toArray, List.length_cons, List.length_nil, Nat.reduceAdd, Nat.reduceSub, Array.replicate_succ, Array.replicate_zero, List.push_toArray, List.append_toArray, List.nil_append, List.cons_append]
  go_wp2_with fail
  go_end0
  exact ⟨rfl, trivial, (Kp.refl _).alloc _⟩

def setErr (R : Int) (ls : List Lk) (l : Int) : Int := if right R ls then (if 0 ≤ l ∧ l < ls.length then 0 else 4) else 2

set_option maxRecDepth 100000 in
set_option maxHeartbeats 1000000 in
theorem gset_no (R l : Int) (up : Bool) (A : Option Addr) (c : Nat) (ls : List Lk) (w : World) (hR : Rd w 3 Lk.enc A ls) (hn : ls.length ≤ 30) (he : ¬ setErr R ls l = 0) :
    Calls Try.prog 34 #[.agg #[.int .i64 R, .slice A ls.length c], .int .i64 l, .bool up] w fun e w' => e = .returned (.tuple #[.agg #[.int .i64 0, .slice none 0 0], .int .i64 (setErr R ls l)]) ∧ Kp w w' := by
  have hmf := makeFunc_run
  have hK0 : Kp w (((w.alloc (.cells #[.int .i64 R, .slice A ls.length c] 24)).alloc (.cells #[.int .i64 0, .slice none 0 0] 24)).alloc (.cells #[.int .i64 0] 28)) := (((Kp.refl _).alloc _).alloc _).alloc _
  cases hr : right R ls with
  | false =>
    have H := Lib.hid hr
    have He := Lib.hid (show setErr R ls l = 2 by simp [setErr, hr]); clear hr he
    go_enter_defers Try.func34, Try.ntmps34
    go_wp2_with fail
    refine (may_any R A c ls _ (hR.keep hK0) hn).mono ?_
    rintro e w1 ⟨hy, hno, hK1⟩
    have hKw : Kp w w1 := hK0.trans hK1
    have B1 : Blk w1 (w.heap.size + 1) 24 #[.int .i64 0, .slice none 0 0] := ((Blk.new1 w _ _ _).alloc _).keep hK1
    have B2 : Blk w1 (w.heap.size + 1 + 1) 28 #[.int .i64 0] := (Blk.new2 w _ _ _ _).keep hK1
    obtain rfl := hno H.out
    refine leaves_cons (f := 54) (args := #[.pointer (some ⟨w.heap.size + 1, 0, none⟩), .pointer (some ⟨w.heap.size + 1 + 1, 0, none⟩)]) (by simp) (by simp [go_sem]) ?_
    refine (catch_set _ _ _ _ _ 2 w1 B1 B2 (by omega)).mono ?_
    rintro e u' w2 ⟨rfl, rfl, C0, C1, hO⟩
    have c0 : w2.cell? ⟨w.heap.size + 1, 0, none⟩ = some (.int .i64 0) := C0.cell 0
    have c1 : w2.cell? ⟨w.heap.size + 1, 1, none⟩ = some (.slice none 0 0) := C0.cell 1
    have c2 : w2.cell? ⟨w.heap.size + 1 + 1, 0, none⟩ = some (.int .i64 2) := C1.cell 0
    show Leaves _ _ _ _ [] .returning _
    exact ⟨.tuple #[.agg #[.int .i64 0, .slice none 0 0], .int .i64 2], by simp [results, Try.results34, go_sem, c0, c1, c2], by rw [He.out], hO.kp hKw (by simp <;> omega)⟩
  | true =>
    have H := Lib.hid hr
    have hl : l < 0 ∨ (ls.length : Int) ≤ l := by
      unfold setErr at he
      rw [hr] at he
      simp at he
      omega
    have He := Lib.hid (show setErr R ls l = 4 by unfold setErr; rw [hr, if_pos rfl, if_neg (by omega)]); clear hr he
    go_enter_defers Try.func34, Try.ntmps34
    go_wp2_with fail
    refine (may_any R A c ls _ (hR.keep hK0) hn).mono ?_
    rintro e w1 ⟨hy, hno, hK1⟩
    have hKw : Kp w w1 := hK0.trans hK1
    have B0 : Blk w1 w.heap.size 24 #[.int .i64 R, .slice A ls.length c] := (((Blk.new w _ _).alloc _).alloc _).keep hK1
    have B1 : Blk w1 (w.heap.size + 1) 24 #[.int .i64 0, .slice none 0 0] := ((Blk.new1 w _ _ _).alloc _).keep hK1
    have B2 : Blk w1 (w.heap.size + 1 + 1) 28 #[.int .i64 0] := (Blk.new2 w _ _ _ _).keep hK1
    obtain rfl := hy H.out
    clear hy hno
    have g1 : w1.cell? ⟨w.heap.size, 1, none⟩ = some (.slice A ls.length c) := B0.cell 1
    go_wp2_with fail
    refine (at_no l ls.length _ (by omega)).mono ?_
    rintro e w4 ⟨rfl, rfl⟩
    refine leaves_cons (f := 54) (args := #[.pointer (some ⟨w.heap.size + 1, 0, none⟩), .pointer (some ⟨w.heap.size + 1 + 1, 0, none⟩)]) (by simp) (by simp [go_sem]) ?_
    refine (catch_set _ _ _ _ _ 4 w1 B1 B2 (by omega)).mono ?_
    rintro e u' w2 ⟨rfl, rfl, C0, C1, hO⟩
    have c0 : w2.cell? ⟨w.heap.size + 1, 0, none⟩ = some (.int .i64 0) := C0.cell 0
    have c1 : w2.cell? ⟨w.heap.size + 1, 1, none⟩ = some (.slice none 0 0) := C0.cell 1
    have c2 : w2.cell? ⟨w.heap.size + 1 + 1, 0, none⟩ = some (.int .i64 4) := C1.cell 0
    show Leaves _ _ _ _ [] .returning _
    exact ⟨.tuple #[.agg #[.int .i64 0, .slice none 0 0], .int .i64 4], by simp [results, Try.results34, go_sem, c0, c1, c2], by rw [He.out], hO.kp hKw (by simp <;> omega)⟩

set_option maxRecDepth 100000 in
set_option maxHeartbeats 2000000 in
theorem gset_ok (R : Int) (k : Nat) (up : Bool) (A : Option Addr) (c : Nat) (ls : List Lk) (w : World) (hR : Rd w 3 Lk.enc A ls) (hn : ls.length ≤ 30) (hr : right R ls = true) (hk : k < ls.length) :
    Calls Try.prog 34 #[.agg #[.int .i64 R, .slice A ls.length c], .int .i64 k, .bool up] w fun e w' => ∃ g cap, e = .returned (.tuple #[.agg #[.int .i64 R, .slice (some ⟨g, 0, none⟩) ls.length cap], .int .i64 0]) ∧ Rd w' 3 Lk.enc (some ⟨g, 0, none⟩) (setUp ls k up) ∧ Kp w w' := by
  have hmf := makeFunc_run
  have hK0 : Kp w (((w.alloc (.cells #[.int .i64 R, .slice A ls.length c] 24)).alloc (.cells #[.int .i64 0, .slice none 0 0] 24)).alloc (.cells #[.int .i64 0] 28)) := (((Kp.refl _).alloc _).alloc _).alloc _
  have H := Lib.hid hr; clear hr
  obtain ⟨b, off, rfl, _⟩ := lk_at hR hk
  go_enter_defers Try.func34, Try.ntmps34
  go_wp2_with fail
  refine (may_any R _ c ls _ (hR.keep hK0) hn).mono ?_
  rintro e w1 ⟨hy, hno, hK1⟩
  have hKw : Kp w w1 := hK0.trans hK1
  have B0 : Blk w1 w.heap.size 24 #[.int .i64 R, .slice (some ⟨b, off, none⟩) ls.length c] := (((Blk.new w _ _).alloc _).alloc _).keep hK1
  have B1 : Blk w1 (w.heap.size + 1) 24 #[.int .i64 0, .slice none 0 0] := ((Blk.new1 w _ _ _).alloc _).keep hK1
  have B2 : Blk w1 (w.heap.size + 1 + 1) 28 #[.int .i64 0] := (Blk.new2 w _ _ _ _).keep hK1
  obtain rfl := hy H.out
  clear hy hno hK0 hK1
  have g0 : w1.cell? ⟨w.heap.size, 0, none⟩ = some (.int .i64 R) := B0.cell 0
  have g1 : w1.cell? ⟨w.heap.size, 1, none⟩ = some (.slice (some ⟨b, off, none⟩) ls.length c) := B0.cell 1
  go_wp2_with fail
  refine (at_ok k ls.length _ (by omega) (by omega)).mono ?_
  rintro e w4 ⟨rfl, rfl⟩
  have hb2 := B2.lt
  go_upto_region 4 with (fail)
  go_cut [] from 17 to 22 (fun wx => ∃ g cap, Own wx (w.heap.size + 1 + 1 + 1) 54 3 Lk.enc (.slice (some ⟨g, 0, none⟩) ls.length cap) ls ∧ w.heap.size + 1 + 1 < g ∧ Blk wx (w.heap.size + 1) 24 #[.int .i64 R, .slice (some ⟨g, 0, none⟩) ls.length cap] ∧ Blk wx (w.heap.size + 1 + 1) 28 #[.int .i64 0] ∧ Kp w wx)
  case first =>
    have x0 : w1.cell? ⟨w.heap.size + 1, 0, none⟩ = some (.int .i64 0) := B1.cell 0
    have x1 : w1.cell? ⟨w.heap.size + 1, 1, none⟩ = some (.slice none 0 0) := B1.cell 1
    go_region_held3 (fun w' => w'.cell? ⟨w.heap.size, 0, none⟩ = some (.int .i64 R) ∧ w'.cell? ⟨w.heap.size, 1, none⟩ = some (.slice (some ⟨b, off, none⟩) ls.length c))
      (first | go_keep | exact ⟨K5.cell g0, K5.cell g1⟩)
      (first | (go_at_call 55; refine (clone_any b off c ls _ (hR.keep hKw.drew) hn).mono ?_; rintro e w5 ⟨v5, rfl, hown5, hK5⟩; have K5 : Kp w1 w5 := (Kp.refl w1).drew.trans hK5; obtain ⟨g, cap, rfl, hgb⟩ := hown5.some (by omega); have C1 := B1.keep K5; have C2 := B2.keep K5; have y0 : w5.cell? ⟨w.heap.size + 1, 0, none⟩ = some (.int .i64 0) := C1.cell 0; have y1 : w5.cell? ⟨w.heap.size + 1, 1, none⟩ = some (.slice none 0 0) := C1.cell 1; have z0 := C1.frozen 0; have z1 := C1.frozen 1))
    have hgb' : w1.heap.size ≤ g := hgb
    go_wp2_with fail
    go_meet
    case rel =>
      have o1 := (hown5.mono (base' := w.heap.size + 1 + 1 + 1) (by show _ ≤ w1.heap.size; omega)).setBelow (p := ⟨w.heap.size + 1, 0, none⟩) (by show w.heap.size + 1 < _; omega) (.int .i64 R)
      have o2 := o1.setBelow (p := ⟨w.heap.size + 1, 1, none⟩) (by show w.heap.size + 1 < _; omega) (.slice (some ⟨g, 0, none⟩) ls.length cap)
      exact ⟨g, cap, o2, by omega, C1.set2, (C2.far (by simp) _).far (by simp) _, ((hKw.trans K5).setCell (by simp) _).setCell (by simp) _⟩
  case rest =>
    obtain ⟨g, cap, hown, hg, C1, C2, hK⟩ := hcut
    clear g0 g1 B0 B1 B2 hKw hb2
    have y0 : wc.cell? ⟨w.heap.size + 1, 0, none⟩ = some (.int .i64 R) := C1.cell 0
    have y1 : wc.cell? ⟨w.heap.size + 1, 1, none⟩ = some (.slice (some ⟨g, 0, none⟩) ls.length cap) := C1.cell 1
    have y2 : wc.cell? ⟨w.heap.size + 1 + 1, 0, none⟩ = some (.int .i64 0) := C2.cell 0
    have z0 := C1.frozen 0
    have z1 := C1.frozen 1
    have z2 := C2.frozen 0
    have zz := World.ownsRow.frozenAt hown (k * 3 + 2)
    have cc := (World.ownsRow.cellAt hown (k * 3 + 2) (by omega)).trans (lk_flat ls k hk)
    have n1 : ¬ g = w.heap.size + 1 := by omega
    have n2 : ¬ w.heap.size + 1 = g := by omega
    have n3 : ¬ g = w.heap.size + 1 + 1 := by omega
    have n4 : ¬ w.heap.size + 1 + 1 = g := by omega
    go_wp2_with fail
    refine leaves_cons (f := 54) (args := #[.pointer (some ⟨w.heap.size + 1, 0, none⟩), .pointer (some ⟨w.heap.size + 1 + 1, 0, none⟩)]) (by simp) (by simp [go_sem]) ?_
    refine (idle_set _ _ _).mono ?_
    rintro e u' w6 ⟨rfl, rfl, hK6⟩
    have o1 := (World.ownsRow.stored hown (k * 3 + 2) (.bool up)).1
    rw [setUp_flat up ls k hk, ← setUp_len ls k up] at o1
    have o2 := Own.setBelow (enc := Lk.enc) (p := ⟨w.heap.size + 1, 0, none⟩) o1 (by show w.heap.size + 1 < _; omega) (.int .i64 R)
    have o3 := Own.setBelow (enc := Lk.enc) (p := ⟨w.heap.size + 1, 1, none⟩) o2 (by show w.heap.size + 1 < _; omega) (.slice (some ⟨g, 0, none⟩) ls.length cap)
    have o4 := Own.setBelow (enc := Lk.enc) (p := ⟨w.heap.size + 1 + 1, 0, none⟩) o3 (by show w.heap.size + 1 + 1 < _; omega) (.int .i64 0)
    have r4 := (Rd.of_own (by omega) Lk.len o4).keep hK6
    have D1 := (((C1.far (p := ⟨g, k * 3 + 2, none⟩) n2 (.bool up)).set2 (x := .int .i64 R) (y := .slice (some ⟨g, 0, none⟩) ls.length cap)).far (p := ⟨w.heap.size + 1 + 1, 0, none⟩) (by simp) (.int .i64 0)).keep hK6
    have D2 := ((((C2.far (p := ⟨g, k * 3 + 2, none⟩) n4 (.bool up)).far (p := ⟨w.heap.size + 1, 0, none⟩) (by simp) (.int .i64 R)).far (p := ⟨w.heap.size + 1, 1, none⟩) (by simp) (.slice (some ⟨g, 0, none⟩) ls.length cap)).set_ 0 (.int .i64 0)).keep hK6
    have x0 : w6.cell? ⟨w.heap.size + 1, 0, none⟩ = some (.int .i64 R) := D1.cell 0
    have x1 : w6.cell? ⟨w.heap.size + 1, 1, none⟩ = some (.slice (some ⟨g, 0, none⟩) ls.length cap) := D1.cell 1
    have x2 : w6.cell? ⟨w.heap.size + 1 + 1, 0, none⟩ = some (.int .i64 0) := D2.cell 0
    show Leaves _ _ _ _ [] .returning _
    exact ⟨.tuple #[.agg #[.int .i64 R, .slice (some ⟨g, 0, none⟩) ls.length cap], .int .i64 0], by simp [results, Try.results34, go_sem, x0, x1, x2], g, cap, rfl, r4, ((((hK.setCell (by show _ ≤ g; omega) _).setCell (by simp) _).setCell (by simp) _).setCell (by simp <;> omega) _).trans hK6⟩
end Go.Proofs.Ytgnhhhcelfaliaa
