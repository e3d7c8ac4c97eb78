/- Proved here: THE TIED CARD of ScriptParses of the package waywardenlaw26: for every input the law returns true, and each argument reads behind the call as it read before (Rows.ScriptParsesCardSaid). Conditions: the listed variables of the library start as the program's text lays them, which the card ties. -/
import Derived.Test.YtbfimimhgdkpaaaGreatDoorZdG
import Derived.Deep.RegionWith
import Derived.Carry
import Derived.ChangeMaps5
import Derived.Test.YtbfimimhgdkpaaaGreatDoorTie
import Derived.Test.YtbfimimhgdkpaaaGreatDoorCards
import Derived.SevenTiedAt
set_option linter.unusedSimpArgs false
set_option linter.unusedVariables false
/- The reference of package script: Plain. No condition. -/
namespace Go.Proofs.YtbfimimhgdkpaaaGreatDoor
open Go.RowKit

theorem has_a {kd : Int} {k : Nat} (hkd : Hid (kd = (k : Int))) (hk : k ≤ 8) {h : Bool} (hh : Hid (decide (Pt.a ∈ partsOf k) = h)) (w : World) : Calls Tryz.prog 41 #[.int .i64 kd, .int .u8 97] w fun e w' => e = .returned (.bool h) ∧ Kp w w' := by
  have hkd := hkd.out
  have hh := hh.out
  subst hh; subst hkd; exact has_any .a k hk w
theorem has_b {kd : Int} {k : Nat} (hkd : Hid (kd = (k : Int))) (hk : k ≤ 8) {h : Bool} (hh : Hid (decide (Pt.b ∈ partsOf k) = h)) (w : World) : Calls Tryz.prog 41 #[.int .i64 kd, .int .u8 98] w fun e w' => e = .returned (.bool h) ∧ Kp w w' := by
  have hkd := hkd.out
  have hh := hh.out
  subst hh; subst hkd; exact has_any .b k hk w
theorem has_c {kd : Int} {k : Nat} (hkd : Hid (kd = (k : Int))) (hk : k ≤ 8) {h : Bool} (hh : Hid (decide (Pt.c ∈ partsOf k) = h)) (w : World) : Calls Tryz.prog 41 #[.int .i64 kd, .int .u8 99] w fun e w' => e = .returned (.bool h) ∧ Kp w w' := by
  have hkd := hkd.out
  have hh := hh.out
  subst hh; subst hkd; exact has_any .c k hk w
theorem has_d {kd : Int} {k : Nat} (hkd : Hid (kd = (k : Int))) (hk : k ≤ 8) {h : Bool} (hh : Hid (decide (Pt.d ∈ partsOf k) = h)) (w : World) : Calls Tryz.prog 41 #[.int .i64 kd, .int .u8 100] w fun e w' => e = .returned (.bool h) ∧ Kp w w' := by
  have hkd := hkd.out
  have hh := hh.out
  subst hh; subst hkd; exact has_any .d k hk w
theorem has_s {kd : Int} {k : Nat} (hkd : Hid (kd = (k : Int))) (hk : k ≤ 8) {h : Bool} (hh : Hid (decide (Pt.s ∈ partsOf k) = h)) (w : World) : Calls Tryz.prog 41 #[.int .i64 kd, .int .u8 115] w fun e w' => e = .returned (.bool h) ∧ Kp w w' := by
  have hkd := hkd.out
  have hh := hh.out
  subst hh; subst hkd; exact has_any .s k hk w
theorem has_x {kd : Int} {k : Nat} (hkd : Hid (kd = (k : Int))) (hk : k ≤ 8) {h : Bool} (hh : Hid (decide (Pt.x ∈ partsOf k) = h)) (w : World) : Calls Tryz.prog 41 #[.int .i64 kd, .int .u8 120] w fun e w' => e = .returned (.bool h) ∧ Kp w w' := by
  have hkd := hkd.out
  have hh := hh.out
  subst hh; subst hkd; exact has_any .x k hk w
theorem plain_bad {e : Ev} (h : ¬ (1 ≤ e.kind ∧ e.kind ≤ 8) ∨ ¬ (e.c = 0 ∨ e.c = 1) ∨ ¬ e.bytes.length ≤ 600) : plainP e = false := by
  simp only [plainP]
  rcases h with h | h | h
  · rw [decide_eq_false h]; rfl
  · rw [decide_eq_false h]; simp
  · rw [decide_eq_false h]; simp
set_option maxRecDepth 100000 in
set_option maxHeartbeats 1000000 in
theorem rplain_bad (e : Ev) (bv : Value) (A : Option Addr) (c : Nat) (hbv : bv = .slice A e.bytes.length c) (w : World) (h : ¬ (1 ≤ e.kind ∧ e.kind ≤ 8) ∨ ¬ (e.c = 0 ∨ e.c = 1) ∨ ¬ e.bytes.length ≤ 600) :
    Calls Tryz.prog 12 #[evV e bv] w fun en w' => en = .returned (.bool (plainP e)) ∧ Kp w w' := by
  have H := Lib.hid (plain_bad h)
  subst hbv
  by_cases h1 : e.kind < 1
  · clear h
    go_enter Tryz.func12, Tryz.ntmps12
    go_wp2_with fail
    go_ret
    exact ⟨by rw [H.out]; rfl, (Kp.refl _).alloc _⟩
  · have g1 : decide (e.kind < 1) = false := decide_eq_false h1
    by_cases h2 : 8 < e.kind
    · clear h h1
      go_enter Tryz.func12, Tryz.ntmps12
      go_wp2_with fail
      go_ret
      exact ⟨by rw [H.out]; rfl, (Kp.refl _).alloc _⟩
    · have g2 : decide ((8 : Int) < e.kind) = false := decide_eq_false h2
      by_cases h3 : e.c < 0
      · clear h h1 h2
        go_enter Tryz.func12, Tryz.ntmps12
        go_wp2_with fail
        go_ret
        exact ⟨by rw [H.out]; rfl, (Kp.refl _).alloc _⟩
      · have g3 : decide (e.c < 0) = false := decide_eq_false h3
        by_cases h4 : 1 < e.c
        · clear h h1 h2 h3
          go_enter Tryz.func12, Tryz.ntmps12
          go_wp2_with fail
          go_ret
          exact ⟨by rw [H.out]; rfl, (Kp.refl _).alloc _⟩
        · have g4 : decide ((1 : Int) < e.c) = false := decide_eq_false h4
          have g5 : (600 : Int) < (e.bytes.length : Int) := by omega
          clear h h1 h2 h3 h4
          go_enter Tryz.func12, Tryz.ntmps12
          go_wp2_with fail
          go_ret
          exact ⟨by rw [H.out]; rfl, (Kp.refl _).alloc _⟩
set_option maxRecDepth 100000 in
set_option maxHeartbeats 4000000 in
theorem rplain_d (e : Ev) (A : Option Addr) (c k : Nat) (w : World) (hk : e.kind = (k : Int)) (hc : k = 1) (h3 : e.c = 0 ∨ e.c = 1) (h4 : e.bytes.length ≤ 600) :
    Calls Tryz.prog 12 #[evV e (.slice A e.bytes.length c)] w fun en w' => en = .returned (.bool (plainP e)) ∧ Kp w w' := by
  have hk8 : k ≤ 8 := by omega
  have pa := Lib.hid (show decide (Pt.a ∈ partsOf k) = false by rcases hc with rfl <;> decide)
  have pb := Lib.hid (show decide (Pt.b ∈ partsOf k) = false by rcases hc with rfl <;> decide)
  have pc := Lib.hid (show decide (Pt.c ∈ partsOf k) = false by rcases hc with rfl <;> decide)
  have pd := Lib.hid (show decide (Pt.d ∈ partsOf k) = true by rcases hc with rfl <;> decide)
  have ps := Lib.hid (show decide (Pt.s ∈ partsOf k) = false by rcases hc with rfl <;> decide)
  have px := Lib.hid (show decide (Pt.x ∈ partsOf k) = false by rcases hc with rfl <;> decide)
  have HP := Lib.hid (show plainP e = decide (e.a = 0 ∧ e.b = 0 ∧ e.c = 0 ∧ e.src = 0 ∧ e.bytes = []) by
    obtain ⟨kd, ea, eb, ec, ed, es, ex⟩ := e
    simp only at hk h3 h4 ⊢
    subst hk
    rw [Bool.eq_iff_iff, decide_eq_true_iff]
    rcases hc with rfl <;> simp only [plainP, partsOf, List.foldl_cons, List.foldl_nil, putE, ev0, Bool.and_eq_true, decide_eq_true_eq, Ev.mk.injEq, Int.toNat_natCast, true_and, and_true] <;> grind)
  have g1 : decide (e.kind < 1) = false := decide_eq_false (by omega)
  have g2 : decide ((8 : Int) < e.kind) = false := decide_eq_false (by omega)
  have g3 : decide (e.c < 0) = false := decide_eq_false (by omega)
  have g4 : decide ((1 : Int) < e.c) = false := decide_eq_false (by omega)
  have g5 : decide ((600 : Int) < (e.bytes.length : Int)) = false := decide_eq_false (by omega)
  clear h3 h4 hc
  have HK := Lib.hid hk
  clear hk
  by_cases za : e.a = 0
  rotate_left
  · have H := Lib.hid (show plainP e = false by rw [HP.out, decide_eq_false]; intro h; exact za h.1)
    have ya : (e.a == 0) = false := by rw [beq_eq_false_iff_ne]; exact za
    clear za
    go_enter Tryz.func12, Tryz.ntmps12
    go_wp2_with fail
    obtain ⟨W, hW, kw, q1, q2, q3, q4, q5, q6⟩ : ∃ W, w.alloc (.cells (evC e (.slice A e.bytes.length c)) 27) = W ∧ Kp w W ∧ W.cell? ⟨w.heap.size, 1, none⟩ = some (.int .i64 e.a) ∧ W.cell? ⟨w.heap.size, 2, none⟩ = some (.int .i64 e.b) ∧ W.cell? ⟨w.heap.size, 3, none⟩ = some (.int .i64 e.c) ∧ W.cell? ⟨w.heap.size, 4, none⟩ = some (.int .i64 e.draw) ∧ W.cell? ⟨w.heap.size, 5, none⟩ = some (.int .u32 (e.src : Int)) ∧ W.cell? ⟨w.heap.size, 6, none⟩ = some (.slice A e.bytes.length c) := ⟨_, rfl, (Kp.refl w).alloc _, (Blk.new w _ _).cell 1, (Blk.new w _ _).cell 2, (Blk.new w _ _).cell 3, (Blk.new w _ _).cell 4, (Blk.new w _ _).cell 5, (Blk.new w _ _).cell 6⟩
    simp only [evC] at hW
    rw [hW]
    clear hW
    go_wp2_with (first | (go_at_call_of 41 (Value.int .u8 97); refine (has_a HK hk8 pa _).mono ?_; rintro en w2 ⟨rfl, hK2⟩; have kw := kw.trans hK2; have q1 := hK2.cell q1; have q2 := hK2.cell q2; have q3 := hK2.cell q3; have q4 := hK2.cell q4; have q5 := hK2.cell q5; have q6 := hK2.cell q6) | (go_at_call_of 41 (Value.int .u8 98); refine (has_b HK hk8 pb _).mono ?_; rintro en w2 ⟨rfl, hK2⟩; have kw := kw.trans hK2; have q1 := hK2.cell q1; have q2 := hK2.cell q2; have q3 := hK2.cell q3; have q4 := hK2.cell q4; have q5 := hK2.cell q5; have q6 := hK2.cell q6) | (go_at_call_of 41 (Value.int .u8 99); refine (has_c HK hk8 pc _).mono ?_; rintro en w2 ⟨rfl, hK2⟩; have kw := kw.trans hK2; have q1 := hK2.cell q1; have q2 := hK2.cell q2; have q3 := hK2.cell q3; have q4 := hK2.cell q4; have q5 := hK2.cell q5; have q6 := hK2.cell q6) | (go_at_call_of 41 (Value.int .u8 100); refine (has_d HK hk8 pd _).mono ?_; rintro en w2 ⟨rfl, hK2⟩; have kw := kw.trans hK2; have q1 := hK2.cell q1; have q2 := hK2.cell q2; have q3 := hK2.cell q3; have q4 := hK2.cell q4; have q5 := hK2.cell q5; have q6 := hK2.cell q6) | (go_at_call_of 41 (Value.int .u8 115); refine (has_s HK hk8 ps _).mono ?_; rintro en w2 ⟨rfl, hK2⟩; have kw := kw.trans hK2; have q1 := hK2.cell q1; have q2 := hK2.cell q2; have q3 := hK2.cell q3; have q4 := hK2.cell q4; have q5 := hK2.cell q5; have q6 := hK2.cell q6) | (go_at_call_of 41 (Value.int .u8 120); refine (has_x HK hk8 px _).mono ?_; rintro en w2 ⟨rfl, hK2⟩; have kw := kw.trans hK2; have q1 := hK2.cell q1; have q2 := hK2.cell q2; have q3 := hK2.cell q3; have q4 := hK2.cell q4; have q5 := hK2.cell q5; have q6 := hK2.cell q6))
    go_ret
    exact ⟨by rw [H.out]; rfl, kw⟩
  have ya : (e.a == 0) = true := by rw [za]; rfl
  by_cases zb : e.b = 0
  rotate_left
  · have H := Lib.hid (show plainP e = false by rw [HP.out, decide_eq_false]; intro h; exact zb h.2.1)
    have yb : (e.b == 0) = false := by rw [beq_eq_false_iff_ne]; exact zb
    clear za zb
    go_enter Tryz.func12, Tryz.ntmps12
    go_wp2_with fail
    obtain ⟨W, hW, kw, q1, q2, q3, q4, q5, q6⟩ : ∃ W, w.alloc (.cells (evC e (.slice A e.bytes.length c)) 27) = W ∧ Kp w W ∧ W.cell? ⟨w.heap.size, 1, none⟩ = some (.int .i64 e.a) ∧ W.cell? ⟨w.heap.size, 2, none⟩ = some (.int .i64 e.b) ∧ W.cell? ⟨w.heap.size, 3, none⟩ = some (.int .i64 e.c) ∧ W.cell? ⟨w.heap.size, 4, none⟩ = some (.int .i64 e.draw) ∧ W.cell? ⟨w.heap.size, 5, none⟩ = some (.int .u32 (e.src : Int)) ∧ W.cell? ⟨w.heap.size, 6, none⟩ = some (.slice A e.bytes.length c) := ⟨_, rfl, (Kp.refl w).alloc _, (Blk.new w _ _).cell 1, (Blk.new w _ _).cell 2, (Blk.new w _ _).cell 3, (Blk.new w _ _).cell 4, (Blk.new w _ _).cell 5, (Blk.new w _ _).cell 6⟩
    simp only [evC] at hW
    rw [hW]
    clear hW
    go_wp2_with (first | (go_at_call_of 41 (Value.int .u8 97); refine (has_a HK hk8 pa _).mono ?_; rintro en w2 ⟨rfl, hK2⟩; have kw := kw.trans hK2; have q1 := hK2.cell q1; have q2 := hK2.cell q2; have q3 := hK2.cell q3; have q4 := hK2.cell q4; have q5 := hK2.cell q5; have q6 := hK2.cell q6) | (go_at_call_of 41 (Value.int .u8 98); refine (has_b HK hk8 pb _).mono ?_; rintro en w2 ⟨rfl, hK2⟩; have kw := kw.trans hK2; have q1 := hK2.cell q1; have q2 := hK2.cell q2; have q3 := hK2.cell q3; have q4 := hK2.cell q4; have q5 := hK2.cell q5; have q6 := hK2.cell q6) | (go_at_call_of 41 (Value.int .u8 99); refine (has_c HK hk8 pc _).mono ?_; rintro en w2 ⟨rfl, hK2⟩; have kw := kw.trans hK2; have q1 := hK2.cell q1; have q2 := hK2.cell q2; have q3 := hK2.cell q3; have q4 := hK2.cell q4; have q5 := hK2.cell q5; have q6 := hK2.cell q6) | (go_at_call_of 41 (Value.int .u8 100); refine (has_d HK hk8 pd _).mono ?_; rintro en w2 ⟨rfl, hK2⟩; have kw := kw.trans hK2; have q1 := hK2.cell q1; have q2 := hK2.cell q2; have q3 := hK2.cell q3; have q4 := hK2.cell q4; have q5 := hK2.cell q5; have q6 := hK2.cell q6) | (go_at_call_of 41 (Value.int .u8 115); refine (has_s HK hk8 ps _).mono ?_; rintro en w2 ⟨rfl, hK2⟩; have kw := kw.trans hK2; have q1 := hK2.cell q1; have q2 := hK2.cell q2; have q3 := hK2.cell q3; have q4 := hK2.cell q4; have q5 := hK2.cell q5; have q6 := hK2.cell q6) | (go_at_call_of 41 (Value.int .u8 120); refine (has_x HK hk8 px _).mono ?_; rintro en w2 ⟨rfl, hK2⟩; have kw := kw.trans hK2; have q1 := hK2.cell q1; have q2 := hK2.cell q2; have q3 := hK2.cell q3; have q4 := hK2.cell q4; have q5 := hK2.cell q5; have q6 := hK2.cell q6))
    go_ret
    exact ⟨by rw [H.out]; rfl, kw⟩
  have yb : (e.b == 0) = true := by rw [zb]; rfl
  by_cases zc : e.c = 0
  rotate_left
  · have H := Lib.hid (show plainP e = false by rw [HP.out, decide_eq_false]; intro h; exact zc h.2.2.1)
    have yc : (e.c == 0) = false := by rw [beq_eq_false_iff_ne]; exact zc
    clear za zb zc
    go_enter Tryz.func12, Tryz.ntmps12
    go_wp2_with fail
    obtain ⟨W, hW, kw, q1, q2, q3, q4, q5, q6⟩ : ∃ W, w.alloc (.cells (evC e (.slice A e.bytes.length c)) 27) = W ∧ Kp w W ∧ W.cell? ⟨w.heap.size, 1, none⟩ = some (.int .i64 e.a) ∧ W.cell? ⟨w.heap.size, 2, none⟩ = some (.int .i64 e.b) ∧ W.cell? ⟨w.heap.size, 3, none⟩ = some (.int .i64 e.c) ∧ W.cell? ⟨w.heap.size, 4, none⟩ = some (.int .i64 e.draw) ∧ W.cell? ⟨w.heap.size, 5, none⟩ = some (.int .u32 (e.src : Int)) ∧ W.cell? ⟨w.heap.size, 6, none⟩ = some (.slice A e.bytes.length c) := ⟨_, rfl, (Kp.refl w).alloc _, (Blk.new w _ _).cell 1, (Blk.new w _ _).cell 2, (Blk.new w _ _).cell 3, (Blk.new w _ _).cell 4, (Blk.new w _ _).cell 5, (Blk.new w _ _).cell 6⟩
    simp only [evC] at hW
    rw [hW]
    clear hW
    go_wp2_with (first | (go_at_call_of 41 (Value.int .u8 97); refine (has_a HK hk8 pa _).mono ?_; rintro en w2 ⟨rfl, hK2⟩; have kw := kw.trans hK2; have q1 := hK2.cell q1; have q2 := hK2.cell q2; have q3 := hK2.cell q3; have q4 := hK2.cell q4; have q5 := hK2.cell q5; have q6 := hK2.cell q6) | (go_at_call_of 41 (Value.int .u8 98); refine (has_b HK hk8 pb _).mono ?_; rintro en w2 ⟨rfl, hK2⟩; have kw := kw.trans hK2; have q1 := hK2.cell q1; have q2 := hK2.cell q2; have q3 := hK2.cell q3; have q4 := hK2.cell q4; have q5 := hK2.cell q5; have q6 := hK2.cell q6) | (go_at_call_of 41 (Value.int .u8 99); refine (has_c HK hk8 pc _).mono ?_; rintro en w2 ⟨rfl, hK2⟩; have kw := kw.trans hK2; have q1 := hK2.cell q1; have q2 := hK2.cell q2; have q3 := hK2.cell q3; have q4 := hK2.cell q4; have q5 := hK2.cell q5; have q6 := hK2.cell q6) | (go_at_call_of 41 (Value.int .u8 100); refine (has_d HK hk8 pd _).mono ?_; rintro en w2 ⟨rfl, hK2⟩; have kw := kw.trans hK2; have q1 := hK2.cell q1; have q2 := hK2.cell q2; have q3 := hK2.cell q3; have q4 := hK2.cell q4; have q5 := hK2.cell q5; have q6 := hK2.cell q6) | (go_at_call_of 41 (Value.int .u8 115); refine (has_s HK hk8 ps _).mono ?_; rintro en w2 ⟨rfl, hK2⟩; have kw := kw.trans hK2; have q1 := hK2.cell q1; have q2 := hK2.cell q2; have q3 := hK2.cell q3; have q4 := hK2.cell q4; have q5 := hK2.cell q5; have q6 := hK2.cell q6) | (go_at_call_of 41 (Value.int .u8 120); refine (has_x HK hk8 px _).mono ?_; rintro en w2 ⟨rfl, hK2⟩; have kw := kw.trans hK2; have q1 := hK2.cell q1; have q2 := hK2.cell q2; have q3 := hK2.cell q3; have q4 := hK2.cell q4; have q5 := hK2.cell q5; have q6 := hK2.cell q6))
    go_ret
    exact ⟨by rw [H.out]; rfl, kw⟩
  have yc : (e.c == 0) = true := by rw [zc]; rfl
  by_cases zs : e.src = 0
  rotate_left
  · have H := Lib.hid (show plainP e = false by rw [HP.out, decide_eq_false]; intro h; exact zs h.2.2.2.1)
    have ys : ((e.src : Int) == 0) = false := by rw [beq_eq_false_iff_ne]; omega
    clear za zb zc zs
    go_enter Tryz.func12, Tryz.ntmps12
    go_wp2_with fail
    obtain ⟨W, hW, kw, q1, q2, q3, q4, q5, q6⟩ : ∃ W, w.alloc (.cells (evC e (.slice A e.bytes.length c)) 27) = W ∧ Kp w W ∧ W.cell? ⟨w.heap.size, 1, none⟩ = some (.int .i64 e.a) ∧ W.cell? ⟨w.heap.size, 2, none⟩ = some (.int .i64 e.b) ∧ W.cell? ⟨w.heap.size, 3, none⟩ = some (.int .i64 e.c) ∧ W.cell? ⟨w.heap.size, 4, none⟩ = some (.int .i64 e.draw) ∧ W.cell? ⟨w.heap.size, 5, none⟩ = some (.int .u32 (e.src : Int)) ∧ W.cell? ⟨w.heap.size, 6, none⟩ = some (.slice A e.bytes.length c) := ⟨_, rfl, (Kp.refl w).alloc _, (Blk.new w _ _).cell 1, (Blk.new w _ _).cell 2, (Blk.new w _ _).cell 3, (Blk.new w _ _).cell 4, (Blk.new w _ _).cell 5, (Blk.new w _ _).cell 6⟩
    simp only [evC] at hW
    rw [hW]
    clear hW
    go_wp2_with (first | (go_at_call_of 41 (Value.int .u8 97); refine (has_a HK hk8 pa _).mono ?_; rintro en w2 ⟨rfl, hK2⟩; have kw := kw.trans hK2; have q1 := hK2.cell q1; have q2 := hK2.cell q2; have q3 := hK2.cell q3; have q4 := hK2.cell q4; have q5 := hK2.cell q5; have q6 := hK2.cell q6) | (go_at_call_of 41 (Value.int .u8 98); refine (has_b HK hk8 pb _).mono ?_; rintro en w2 ⟨rfl, hK2⟩; have kw := kw.trans hK2; have q1 := hK2.cell q1; have q2 := hK2.cell q2; have q3 := hK2.cell q3; have q4 := hK2.cell q4; have q5 := hK2.cell q5; have q6 := hK2.cell q6) | (go_at_call_of 41 (Value.int .u8 99); refine (has_c HK hk8 pc _).mono ?_; rintro en w2 ⟨rfl, hK2⟩; have kw := kw.trans hK2; have q1 := hK2.cell q1; have q2 := hK2.cell q2; have q3 := hK2.cell q3; have q4 := hK2.cell q4; have q5 := hK2.cell q5; have q6 := hK2.cell q6) | (go_at_call_of 41 (Value.int .u8 100); refine (has_d HK hk8 pd _).mono ?_; rintro en w2 ⟨rfl, hK2⟩; have kw := kw.trans hK2; have q1 := hK2.cell q1; have q2 := hK2.cell q2; have q3 := hK2.cell q3; have q4 := hK2.cell q4; have q5 := hK2.cell q5; have q6 := hK2.cell q6) | (go_at_call_of 41 (Value.int .u8 115); refine (has_s HK hk8 ps _).mono ?_; rintro en w2 ⟨rfl, hK2⟩; have kw := kw.trans hK2; have q1 := hK2.cell q1; have q2 := hK2.cell q2; have q3 := hK2.cell q3; have q4 := hK2.cell q4; have q5 := hK2.cell q5; have q6 := hK2.cell q6) | (go_at_call_of 41 (Value.int .u8 120); refine (has_x HK hk8 px _).mono ?_; rintro en w2 ⟨rfl, hK2⟩; have kw := kw.trans hK2; have q1 := hK2.cell q1; have q2 := hK2.cell q2; have q3 := hK2.cell q3; have q4 := hK2.cell q4; have q5 := hK2.cell q5; have q6 := hK2.cell q6))
    go_ret
    exact ⟨by rw [H.out]; rfl, kw⟩
  have ys : ((e.src : Int) == 0) = true := by rw [zs]; rfl
  by_cases zx : e.bytes = []
  rotate_left
  · have H := Lib.hid (show plainP e = false by rw [HP.out, decide_eq_false]; intro h; exact zx h.2.2.2.2)
    have yx : ((e.bytes.length : Int) == 0) = false := by rw [beq_eq_false_iff_ne]; have := List.length_pos_iff.2 zx; omega
    clear za zb zc zs zx
    go_enter Tryz.func12, Tryz.ntmps12
    go_wp2_with fail
    obtain ⟨W, hW, kw, q1, q2, q3, q4, q5, q6⟩ : ∃ W, w.alloc (.cells (evC e (.slice A e.bytes.length c)) 27) = W ∧ Kp w W ∧ W.cell? ⟨w.heap.size, 1, none⟩ = some (.int .i64 e.a) ∧ W.cell? ⟨w.heap.size, 2, none⟩ = some (.int .i64 e.b) ∧ W.cell? ⟨w.heap.size, 3, none⟩ = some (.int .i64 e.c) ∧ W.cell? ⟨w.heap.size, 4, none⟩ = some (.int .i64 e.draw) ∧ W.cell? ⟨w.heap.size, 5, none⟩ = some (.int .u32 (e.src : Int)) ∧ W.cell? ⟨w.heap.size, 6, none⟩ = some (.slice A e.bytes.length c) := ⟨_, rfl, (Kp.refl w).alloc _, (Blk.new w _ _).cell 1, (Blk.new w _ _).cell 2, (Blk.new w _ _).cell 3, (Blk.new w _ _).cell 4, (Blk.new w _ _).cell 5, (Blk.new w _ _).cell 6⟩
    simp only [evC] at hW
    rw [hW]
    clear hW
    go_wp2_with (first | (go_at_call_of 41 (Value.int .u8 97); refine (has_a HK hk8 pa _).mono ?_; rintro en w2 ⟨rfl, hK2⟩; have kw := kw.trans hK2; have q1 := hK2.cell q1; have q2 := hK2.cell q2; have q3 := hK2.cell q3; have q4 := hK2.cell q4; have q5 := hK2.cell q5; have q6 := hK2.cell q6) | (go_at_call_of 41 (Value.int .u8 98); refine (has_b HK hk8 pb _).mono ?_; rintro en w2 ⟨rfl, hK2⟩; have kw := kw.trans hK2; have q1 := hK2.cell q1; have q2 := hK2.cell q2; have q3 := hK2.cell q3; have q4 := hK2.cell q4; have q5 := hK2.cell q5; have q6 := hK2.cell q6) | (go_at_call_of 41 (Value.int .u8 99); refine (has_c HK hk8 pc _).mono ?_; rintro en w2 ⟨rfl, hK2⟩; have kw := kw.trans hK2; have q1 := hK2.cell q1; have q2 := hK2.cell q2; have q3 := hK2.cell q3; have q4 := hK2.cell q4; have q5 := hK2.cell q5; have q6 := hK2.cell q6) | (go_at_call_of 41 (Value.int .u8 100); refine (has_d HK hk8 pd _).mono ?_; rintro en w2 ⟨rfl, hK2⟩; have kw := kw.trans hK2; have q1 := hK2.cell q1; have q2 := hK2.cell q2; have q3 := hK2.cell q3; have q4 := hK2.cell q4; have q5 := hK2.cell q5; have q6 := hK2.cell q6) | (go_at_call_of 41 (Value.int .u8 115); refine (has_s HK hk8 ps _).mono ?_; rintro en w2 ⟨rfl, hK2⟩; have kw := kw.trans hK2; have q1 := hK2.cell q1; have q2 := hK2.cell q2; have q3 := hK2.cell q3; have q4 := hK2.cell q4; have q5 := hK2.cell q5; have q6 := hK2.cell q6) | (go_at_call_of 41 (Value.int .u8 120); refine (has_x HK hk8 px _).mono ?_; rintro en w2 ⟨rfl, hK2⟩; have kw := kw.trans hK2; have q1 := hK2.cell q1; have q2 := hK2.cell q2; have q3 := hK2.cell q3; have q4 := hK2.cell q4; have q5 := hK2.cell q5; have q6 := hK2.cell q6))
    go_ret
    exact ⟨by rw [H.out]; rfl, kw⟩
  have yx : ((e.bytes.length : Int) == 0) = true := by rw [zx]; rfl
  have H := Lib.hid (show plainP e = true by rw [HP.out, decide_eq_true_iff]; exact ⟨za, zb, zc, zs, zx⟩)
  clear za zb zc zs zx
  go_enter Tryz.func12, Tryz.ntmps12
  go_wp2_with fail
  obtain ⟨W, hW, kw, q1, q2, q3, q4, q5, q6⟩ : ∃ W, w.alloc (.cells (evC e (.slice A e.bytes.length c)) 27) = W ∧ Kp w W ∧ W.cell? ⟨w.heap.size, 1, none⟩ = some (.int .i64 e.a) ∧ W.cell? ⟨w.heap.size, 2, none⟩ = some (.int .i64 e.b) ∧ W.cell? ⟨w.heap.size, 3, none⟩ = some (.int .i64 e.c) ∧ W.cell? ⟨w.heap.size, 4, none⟩ = some (.int .i64 e.draw) ∧ W.cell? ⟨w.heap.size, 5, none⟩ = some (.int .u32 (e.src : Int)) ∧ W.cell? ⟨w.heap.size, 6, none⟩ = some (.slice A e.bytes.length c) := ⟨_, rfl, (Kp.refl w).alloc _, (Blk.new w _ _).cell 1, (Blk.new w _ _).cell 2, (Blk.new w _ _).cell 3, (Blk.new w _ _).cell 4, (Blk.new w _ _).cell 5, (Blk.new w _ _).cell 6⟩
  simp only [evC] at hW
  rw [hW]
  clear hW
  go_wp2_with (first | (go_at_call_of 41 (Value.int .u8 97); refine (has_a HK hk8 pa _).mono ?_; rintro en w2 ⟨rfl, hK2⟩; have kw := kw.trans hK2; have q1 := hK2.cell q1; have q2 := hK2.cell q2; have q3 := hK2.cell q3; have q4 := hK2.cell q4; have q5 := hK2.cell q5; have q6 := hK2.cell q6) | (go_at_call_of 41 (Value.int .u8 98); refine (has_b HK hk8 pb _).mono ?_; rintro en w2 ⟨rfl, hK2⟩; have kw := kw.trans hK2; have q1 := hK2.cell q1; have q2 := hK2.cell q2; have q3 := hK2.cell q3; have q4 := hK2.cell q4; have q5 := hK2.cell q5; have q6 := hK2.cell q6) | (go_at_call_of 41 (Value.int .u8 99); refine (has_c HK hk8 pc _).mono ?_; rintro en w2 ⟨rfl, hK2⟩; have kw := kw.trans hK2; have q1 := hK2.cell q1; have q2 := hK2.cell q2; have q3 := hK2.cell q3; have q4 := hK2.cell q4; have q5 := hK2.cell q5; have q6 := hK2.cell q6) | (go_at_call_of 41 (Value.int .u8 100); refine (has_d HK hk8 pd _).mono ?_; rintro en w2 ⟨rfl, hK2⟩; have kw := kw.trans hK2; have q1 := hK2.cell q1; have q2 := hK2.cell q2; have q3 := hK2.cell q3; have q4 := hK2.cell q4; have q5 := hK2.cell q5; have q6 := hK2.cell q6) | (go_at_call_of 41 (Value.int .u8 115); refine (has_s HK hk8 ps _).mono ?_; rintro en w2 ⟨rfl, hK2⟩; have kw := kw.trans hK2; have q1 := hK2.cell q1; have q2 := hK2.cell q2; have q3 := hK2.cell q3; have q4 := hK2.cell q4; have q5 := hK2.cell q5; have q6 := hK2.cell q6) | (go_at_call_of 41 (Value.int .u8 120); refine (has_x HK hk8 px _).mono ?_; rintro en w2 ⟨rfl, hK2⟩; have kw := kw.trans hK2; have q1 := hK2.cell q1; have q2 := hK2.cell q2; have q3 := hK2.cell q3; have q4 := hK2.cell q4; have q5 := hK2.cell q5; have q6 := hK2.cell q6))
  go_ret
  exact ⟨by rw [H.out]; rfl, kw⟩
set_option maxRecDepth 100000 in
set_option maxHeartbeats 4000000 in
theorem rplain_ad (e : Ev) (A : Option Addr) (c k : Nat) (w : World) (hk : e.kind = (k : Int)) (hc : k = 2 ∨ k = 3 ∨ k = 7) (h3 : e.c = 0 ∨ e.c = 1) (h4 : e.bytes.length ≤ 600) :
    Calls Tryz.prog 12 #[evV e (.slice A e.bytes.length c)] w fun en w' => en = .returned (.bool (plainP e)) ∧ Kp w w' := by
  have hk8 : k ≤ 8 := by omega
  have pa := Lib.hid (show decide (Pt.a ∈ partsOf k) = true by rcases hc with rfl | rfl | rfl <;> decide)
  have pb := Lib.hid (show decide (Pt.b ∈ partsOf k) = false by rcases hc with rfl | rfl | rfl <;> decide)
  have pc := Lib.hid (show decide (Pt.c ∈ partsOf k) = false by rcases hc with rfl | rfl | rfl <;> decide)
  have pd := Lib.hid (show decide (Pt.d ∈ partsOf k) = true by rcases hc with rfl | rfl | rfl <;> decide)
  have ps := Lib.hid (show decide (Pt.s ∈ partsOf k) = false by rcases hc with rfl | rfl | rfl <;> decide)
  have px := Lib.hid (show decide (Pt.x ∈ partsOf k) = false by rcases hc with rfl | rfl | rfl <;> decide)
  have HP := Lib.hid (show plainP e = decide (e.b = 0 ∧ e.c = 0 ∧ e.src = 0 ∧ e.bytes = []) by
    obtain ⟨kd, ea, eb, ec, ed, es, ex⟩ := e
    simp only at hk h3 h4 ⊢
    subst hk
    rw [Bool.eq_iff_iff, decide_eq_true_iff]
    rcases hc with rfl | rfl | rfl <;> simp only [plainP, partsOf, List.foldl_cons, List.foldl_nil, putE, ev0, Bool.and_eq_true, decide_eq_true_eq, Ev.mk.injEq, Int.toNat_natCast, true_and, and_true] <;> grind)
  have g1 : decide (e.kind < 1) = false := decide_eq_false (by omega)
  have g2 : decide ((8 : Int) < e.kind) = false := decide_eq_false (by omega)
  have g3 : decide (e.c < 0) = false := decide_eq_false (by omega)
  have g4 : decide ((1 : Int) < e.c) = false := decide_eq_false (by omega)
  have g5 : decide ((600 : Int) < (e.bytes.length : Int)) = false := decide_eq_false (by omega)
  clear h3 h4 hc
  have HK := Lib.hid hk
  clear hk
  by_cases zb : e.b = 0
  rotate_left
  · have H := Lib.hid (show plainP e = false by rw [HP.out, decide_eq_false]; intro h; exact zb h.1)
    have yb : (e.b == 0) = false := by rw [beq_eq_false_iff_ne]; exact zb
    clear zb
    go_enter Tryz.func12, Tryz.ntmps12
    go_wp2_with fail
    obtain ⟨W, hW, kw, q1, q2, q3, q4, q5, q6⟩ : ∃ W, w.alloc (.cells (evC e (.slice A e.bytes.length c)) 27) = W ∧ Kp w W ∧ W.cell? ⟨w.heap.size, 1, none⟩ = some (.int .i64 e.a) ∧ W.cell? ⟨w.heap.size, 2, none⟩ = some (.int .i64 e.b) ∧ W.cell? ⟨w.heap.size, 3, none⟩ = some (.int .i64 e.c) ∧ W.cell? ⟨w.heap.size, 4, none⟩ = some (.int .i64 e.draw) ∧ W.cell? ⟨w.heap.size, 5, none⟩ = some (.int .u32 (e.src : Int)) ∧ W.cell? ⟨w.heap.size, 6, none⟩ = some (.slice A e.bytes.length c) := ⟨_, rfl, (Kp.refl w).alloc _, (Blk.new w _ _).cell 1, (Blk.new w _ _).cell 2, (Blk.new w _ _).cell 3, (Blk.new w _ _).cell 4, (Blk.new w _ _).cell 5, (Blk.new w _ _).cell 6⟩
    simp only [evC] at hW
    rw [hW]
    clear hW
    go_wp2_with (first | (go_at_call_of 41 (Value.int .u8 97); refine (has_a HK hk8 pa _).mono ?_; rintro en w2 ⟨rfl, hK2⟩; have kw := kw.trans hK2; have q1 := hK2.cell q1; have q2 := hK2.cell q2; have q3 := hK2.cell q3; have q4 := hK2.cell q4; have q5 := hK2.cell q5; have q6 := hK2.cell q6) | (go_at_call_of 41 (Value.int .u8 98); refine (has_b HK hk8 pb _).mono ?_; rintro en w2 ⟨rfl, hK2⟩; have kw := kw.trans hK2; have q1 := hK2.cell q1; have q2 := hK2.cell q2; have q3 := hK2.cell q3; have q4 := hK2.cell q4; have q5 := hK2.cell q5; have q6 := hK2.cell q6) | (go_at_call_of 41 (Value.int .u8 99); refine (has_c HK hk8 pc _).mono ?_; rintro en w2 ⟨rfl, hK2⟩; have kw := kw.trans hK2; have q1 := hK2.cell q1; have q2 := hK2.cell q2; have q3 := hK2.cell q3; have q4 := hK2.cell q4; have q5 := hK2.cell q5; have q6 := hK2.cell q6) | (go_at_call_of 41 (Value.int .u8 100); refine (has_d HK hk8 pd _).mono ?_; rintro en w2 ⟨rfl, hK2⟩; have kw := kw.trans hK2; have q1 := hK2.cell q1; have q2 := hK2.cell q2; have q3 := hK2.cell q3; have q4 := hK2.cell q4; have q5 := hK2.cell q5; have q6 := hK2.cell q6) | (go_at_call_of 41 (Value.int .u8 115); refine (has_s HK hk8 ps _).mono ?_; rintro en w2 ⟨rfl, hK2⟩; have kw := kw.trans hK2; have q1 := hK2.cell q1; have q2 := hK2.cell q2; have q3 := hK2.cell q3; have q4 := hK2.cell q4; have q5 := hK2.cell q5; have q6 := hK2.cell q6) | (go_at_call_of 41 (Value.int .u8 120); refine (has_x HK hk8 px _).mono ?_; rintro en w2 ⟨rfl, hK2⟩; have kw := kw.trans hK2; have q1 := hK2.cell q1; have q2 := hK2.cell q2; have q3 := hK2.cell q3; have q4 := hK2.cell q4; have q5 := hK2.cell q5; have q6 := hK2.cell q6))
    go_ret
    exact ⟨by rw [H.out]; rfl, kw⟩
  have yb : (e.b == 0) = true := by rw [zb]; rfl
  by_cases zc : e.c = 0
  rotate_left
  · have H := Lib.hid (show plainP e = false by rw [HP.out, decide_eq_false]; intro h; exact zc h.2.1)
    have yc : (e.c == 0) = false := by rw [beq_eq_false_iff_ne]; exact zc
    clear zb zc
    go_enter Tryz.func12, Tryz.ntmps12
    go_wp2_with fail
    obtain ⟨W, hW, kw, q1, q2, q3, q4, q5, q6⟩ : ∃ W, w.alloc (.cells (evC e (.slice A e.bytes.length c)) 27) = W ∧ Kp w W ∧ W.cell? ⟨w.heap.size, 1, none⟩ = some (.int .i64 e.a) ∧ W.cell? ⟨w.heap.size, 2, none⟩ = some (.int .i64 e.b) ∧ W.cell? ⟨w.heap.size, 3, none⟩ = some (.int .i64 e.c) ∧ W.cell? ⟨w.heap.size, 4, none⟩ = some (.int .i64 e.draw) ∧ W.cell? ⟨w.heap.size, 5, none⟩ = some (.int .u32 (e.src : Int)) ∧ W.cell? ⟨w.heap.size, 6, none⟩ = some (.slice A e.bytes.length c) := ⟨_, rfl, (Kp.refl w).alloc _, (Blk.new w _ _).cell 1, (Blk.new w _ _).cell 2, (Blk.new w _ _).cell 3, (Blk.new w _ _).cell 4, (Blk.new w _ _).cell 5, (Blk.new w _ _).cell 6⟩
    simp only [evC] at hW
    rw [hW]
    clear hW
    go_wp2_with (first | (go_at_call_of 41 (Value.int .u8 97); refine (has_a HK hk8 pa _).mono ?_; rintro en w2 ⟨rfl, hK2⟩; have kw := kw.trans hK2; have q1 := hK2.cell q1; have q2 := hK2.cell q2; have q3 := hK2.cell q3; have q4 := hK2.cell q4; have q5 := hK2.cell q5; have q6 := hK2.cell q6) | (go_at_call_of 41 (Value.int .u8 98); refine (has_b HK hk8 pb _).mono ?_; rintro en w2 ⟨rfl, hK2⟩; have kw := kw.trans hK2; have q1 := hK2.cell q1; have q2 := hK2.cell q2; have q3 := hK2.cell q3; have q4 := hK2.cell q4; have q5 := hK2.cell q5; have q6 := hK2.cell q6) | (go_at_call_of 41 (Value.int .u8 99); refine (has_c HK hk8 pc _).mono ?_; rintro en w2 ⟨rfl, hK2⟩; have kw := kw.trans hK2; have q1 := hK2.cell q1; have q2 := hK2.cell q2; have q3 := hK2.cell q3; have q4 := hK2.cell q4; have q5 := hK2.cell q5; have q6 := hK2.cell q6) | (go_at_call_of 41 (Value.int .u8 100); refine (has_d HK hk8 pd _).mono ?_; rintro en w2 ⟨rfl, hK2⟩; have kw := kw.trans hK2; have q1 := hK2.cell q1; have q2 := hK2.cell q2; have q3 := hK2.cell q3; have q4 := hK2.cell q4; have q5 := hK2.cell q5; have q6 := hK2.cell q6) | (go_at_call_of 41 (Value.int .u8 115); refine (has_s HK hk8 ps _).mono ?_; rintro en w2 ⟨rfl, hK2⟩; have kw := kw.trans hK2; have q1 := hK2.cell q1; have q2 := hK2.cell q2; have q3 := hK2.cell q3; have q4 := hK2.cell q4; have q5 := hK2.cell q5; have q6 := hK2.cell q6) | (go_at_call_of 41 (Value.int .u8 120); refine (has_x HK hk8 px _).mono ?_; rintro en w2 ⟨rfl, hK2⟩; have kw := kw.trans hK2; have q1 := hK2.cell q1; have q2 := hK2.cell q2; have q3 := hK2.cell q3; have q4 := hK2.cell q4; have q5 := hK2.cell q5; have q6 := hK2.cell q6))
    go_ret
    exact ⟨by rw [H.out]; rfl, kw⟩
  have yc : (e.c == 0) = true := by rw [zc]; rfl
  by_cases zs : e.src = 0
  rotate_left
  · have H := Lib.hid (show plainP e = false by rw [HP.out, decide_eq_false]; intro h; exact zs h.2.2.1)
    have ys : ((e.src : Int) == 0) = false := by rw [beq_eq_false_iff_ne]; omega
    clear zb zc zs
    go_enter Tryz.func12, Tryz.ntmps12
    go_wp2_with fail
    obtain ⟨W, hW, kw, q1, q2, q3, q4, q5, q6⟩ : ∃ W, w.alloc (.cells (evC e (.slice A e.bytes.length c)) 27) = W ∧ Kp w W ∧ W.cell? ⟨w.heap.size, 1, none⟩ = some (.int .i64 e.a) ∧ W.cell? ⟨w.heap.size, 2, none⟩ = some (.int .i64 e.b) ∧ W.cell? ⟨w.heap.size, 3, none⟩ = some (.int .i64 e.c) ∧ W.cell? ⟨w.heap.size, 4, none⟩ = some (.int .i64 e.draw) ∧ W.cell? ⟨w.heap.size, 5, none⟩ = some (.int .u32 (e.src : Int)) ∧ W.cell? ⟨w.heap.size, 6, none⟩ = some (.slice A e.bytes.length c) := ⟨_, rfl, (Kp.refl w).alloc _, (Blk.new w _ _).cell 1, (Blk.new w _ _).cell 2, (Blk.new w _ _).cell 3, (Blk.new w _ _).cell 4, (Blk.new w _ _).cell 5, (Blk.new w _ _).cell 6⟩
    simp only [evC] at hW
    rw [hW]
    clear hW
    go_wp2_with (first | (go_at_call_of 41 (Value.int .u8 97); refine (has_a HK hk8 pa _).mono ?_; rintro en w2 ⟨rfl, hK2⟩; have kw := kw.trans hK2; have q1 := hK2.cell q1; have q2 := hK2.cell q2; have q3 := hK2.cell q3; have q4 := hK2.cell q4; have q5 := hK2.cell q5; have q6 := hK2.cell q6) | (go_at_call_of 41 (Value.int .u8 98); refine (has_b HK hk8 pb _).mono ?_; rintro en w2 ⟨rfl, hK2⟩; have kw := kw.trans hK2; have q1 := hK2.cell q1; have q2 := hK2.cell q2; have q3 := hK2.cell q3; have q4 := hK2.cell q4; have q5 := hK2.cell q5; have q6 := hK2.cell q6) | (go_at_call_of 41 (Value.int .u8 99); refine (has_c HK hk8 pc _).mono ?_; rintro en w2 ⟨rfl, hK2⟩; have kw := kw.trans hK2; have q1 := hK2.cell q1; have q2 := hK2.cell q2; have q3 := hK2.cell q3; have q4 := hK2.cell q4; have q5 := hK2.cell q5; have q6 := hK2.cell q6) | (go_at_call_of 41 (Value.int .u8 100); refine (has_d HK hk8 pd _).mono ?_; rintro en w2 ⟨rfl, hK2⟩; have kw := kw.trans hK2; have q1 := hK2.cell q1; have q2 := hK2.cell q2; have q3 := hK2.cell q3; have q4 := hK2.cell q4; have q5 := hK2.cell q5; have q6 := hK2.cell q6) | (go_at_call_of 41 (Value.int .u8 115); refine (has_s HK hk8 ps _).mono ?_; rintro en w2 ⟨rfl, hK2⟩; have kw := kw.trans hK2; have q1 := hK2.cell q1; have q2 := hK2.cell q2; have q3 := hK2.cell q3; have q4 := hK2.cell q4; have q5 := hK2.cell q5; have q6 := hK2.cell q6) | (go_at_call_of 41 (Value.int .u8 120); refine (has_x HK hk8 px _).mono ?_; rintro en w2 ⟨rfl, hK2⟩; have kw := kw.trans hK2; have q1 := hK2.cell q1; have q2 := hK2.cell q2; have q3 := hK2.cell q3; have q4 := hK2.cell q4; have q5 := hK2.cell q5; have q6 := hK2.cell q6))
    go_ret
    exact ⟨by rw [H.out]; rfl, kw⟩
  have ys : ((e.src : Int) == 0) = true := by rw [zs]; rfl
  by_cases zx : e.bytes = []
  rotate_left
  · have H := Lib.hid (show plainP e = false by rw [HP.out, decide_eq_false]; intro h; exact zx h.2.2.2)
    have yx : ((e.bytes.length : Int) == 0) = false := by rw [beq_eq_false_iff_ne]; have := List.length_pos_iff.2 zx; omega
    clear zb zc zs zx
    go_enter Tryz.func12, Tryz.ntmps12
    go_wp2_with fail
    obtain ⟨W, hW, kw, q1, q2, q3, q4, q5, q6⟩ : ∃ W, w.alloc (.cells (evC e (.slice A e.bytes.length c)) 27) = W ∧ Kp w W ∧ W.cell? ⟨w.heap.size, 1, none⟩ = some (.int .i64 e.a) ∧ W.cell? ⟨w.heap.size, 2, none⟩ = some (.int .i64 e.b) ∧ W.cell? ⟨w.heap.size, 3, none⟩ = some (.int .i64 e.c) ∧ W.cell? ⟨w.heap.size, 4, none⟩ = some (.int .i64 e.draw) ∧ W.cell? ⟨w.heap.size, 5, none⟩ = some (.int .u32 (e.src : Int)) ∧ W.cell? ⟨w.heap.size, 6, none⟩ = some (.slice A e.bytes.length c) := ⟨_, rfl, (Kp.refl w).alloc _, (Blk.new w _ _).cell 1, (Blk.new w _ _).cell 2, (Blk.new w _ _).cell 3, (Blk.new w _ _).cell 4, (Blk.new w _ _).cell 5, (Blk.new w _ _).cell 6⟩
    simp only [evC] at hW
    rw [hW]
    clear hW
    go_wp2_with (first | (go_at_call_of 41 (Value.int .u8 97); refine (has_a HK hk8 pa _).mono ?_; rintro en w2 ⟨rfl, hK2⟩; have kw := kw.trans hK2; have q1 := hK2.cell q1; have q2 := hK2.cell q2; have q3 := hK2.cell q3; have q4 := hK2.cell q4; have q5 := hK2.cell q5; have q6 := hK2.cell q6) | (go_at_call_of 41 (Value.int .u8 98); refine (has_b HK hk8 pb _).mono ?_; rintro en w2 ⟨rfl, hK2⟩; have kw := kw.trans hK2; have q1 := hK2.cell q1; have q2 := hK2.cell q2; have q3 := hK2.cell q3; have q4 := hK2.cell q4; have q5 := hK2.cell q5; have q6 := hK2.cell q6) | (go_at_call_of 41 (Value.int .u8 99); refine (has_c HK hk8 pc _).mono ?_; rintro en w2 ⟨rfl, hK2⟩; have kw := kw.trans hK2; have q1 := hK2.cell q1; have q2 := hK2.cell q2; have q3 := hK2.cell q3; have q4 := hK2.cell q4; have q5 := hK2.cell q5; have q6 := hK2.cell q6) | (go_at_call_of 41 (Value.int .u8 100); refine (has_d HK hk8 pd _).mono ?_; rintro en w2 ⟨rfl, hK2⟩; have kw := kw.trans hK2; have q1 := hK2.cell q1; have q2 := hK2.cell q2; have q3 := hK2.cell q3; have q4 := hK2.cell q4; have q5 := hK2.cell q5; have q6 := hK2.cell q6) | (go_at_call_of 41 (Value.int .u8 115); refine (has_s HK hk8 ps _).mono ?_; rintro en w2 ⟨rfl, hK2⟩; have kw := kw.trans hK2; have q1 := hK2.cell q1; have q2 := hK2.cell q2; have q3 := hK2.cell q3; have q4 := hK2.cell q4; have q5 := hK2.cell q5; have q6 := hK2.cell q6) | (go_at_call_of 41 (Value.int .u8 120); refine (has_x HK hk8 px _).mono ?_; rintro en w2 ⟨rfl, hK2⟩; have kw := kw.trans hK2; have q1 := hK2.cell q1; have q2 := hK2.cell q2; have q3 := hK2.cell q3; have q4 := hK2.cell q4; have q5 := hK2.cell q5; have q6 := hK2.cell q6))
    go_ret
    exact ⟨by rw [H.out]; rfl, kw⟩
  have yx : ((e.bytes.length : Int) == 0) = true := by rw [zx]; rfl
  have H := Lib.hid (show plainP e = true by rw [HP.out, decide_eq_true_iff]; exact ⟨zb, zc, zs, zx⟩)
  clear zb zc zs zx
  go_enter Tryz.func12, Tryz.ntmps12
  go_wp2_with fail
  obtain ⟨W, hW, kw, q1, q2, q3, q4, q5, q6⟩ : ∃ W, w.alloc (.cells (evC e (.slice A e.bytes.length c)) 27) = W ∧ Kp w W ∧ W.cell? ⟨w.heap.size, 1, none⟩ = some (.int .i64 e.a) ∧ W.cell? ⟨w.heap.size, 2, none⟩ = some (.int .i64 e.b) ∧ W.cell? ⟨w.heap.size, 3, none⟩ = some (.int .i64 e.c) ∧ W.cell? ⟨w.heap.size, 4, none⟩ = some (.int .i64 e.draw) ∧ W.cell? ⟨w.heap.size, 5, none⟩ = some (.int .u32 (e.src : Int)) ∧ W.cell? ⟨w.heap.size, 6, none⟩ = some (.slice A e.bytes.length c) := ⟨_, rfl, (Kp.refl w).alloc _, (Blk.new w _ _).cell 1, (Blk.new w _ _).cell 2, (Blk.new w _ _).cell 3, (Blk.new w _ _).cell 4, (Blk.new w _ _).cell 5, (Blk.new w _ _).cell 6⟩
  simp only [evC] at hW
  rw [hW]
  clear hW
  go_wp2_with (first | (go_at_call_of 41 (Value.int .u8 97); refine (has_a HK hk8 pa _).mono ?_; rintro en w2 ⟨rfl, hK2⟩; have kw := kw.trans hK2; have q1 := hK2.cell q1; have q2 := hK2.cell q2; have q3 := hK2.cell q3; have q4 := hK2.cell q4; have q5 := hK2.cell q5; have q6 := hK2.cell q6) | (go_at_call_of 41 (Value.int .u8 98); refine (has_b HK hk8 pb _).mono ?_; rintro en w2 ⟨rfl, hK2⟩; have kw := kw.trans hK2; have q1 := hK2.cell q1; have q2 := hK2.cell q2; have q3 := hK2.cell q3; have q4 := hK2.cell q4; have q5 := hK2.cell q5; have q6 := hK2.cell q6) | (go_at_call_of 41 (Value.int .u8 99); refine (has_c HK hk8 pc _).mono ?_; rintro en w2 ⟨rfl, hK2⟩; have kw := kw.trans hK2; have q1 := hK2.cell q1; have q2 := hK2.cell q2; have q3 := hK2.cell q3; have q4 := hK2.cell q4; have q5 := hK2.cell q5; have q6 := hK2.cell q6) | (go_at_call_of 41 (Value.int .u8 100); refine (has_d HK hk8 pd _).mono ?_; rintro en w2 ⟨rfl, hK2⟩; have kw := kw.trans hK2; have q1 := hK2.cell q1; have q2 := hK2.cell q2; have q3 := hK2.cell q3; have q4 := hK2.cell q4; have q5 := hK2.cell q5; have q6 := hK2.cell q6) | (go_at_call_of 41 (Value.int .u8 115); refine (has_s HK hk8 ps _).mono ?_; rintro en w2 ⟨rfl, hK2⟩; have kw := kw.trans hK2; have q1 := hK2.cell q1; have q2 := hK2.cell q2; have q3 := hK2.cell q3; have q4 := hK2.cell q4; have q5 := hK2.cell q5; have q6 := hK2.cell q6) | (go_at_call_of 41 (Value.int .u8 120); refine (has_x HK hk8 px _).mono ?_; rintro en w2 ⟨rfl, hK2⟩; have kw := kw.trans hK2; have q1 := hK2.cell q1; have q2 := hK2.cell q2; have q3 := hK2.cell q3; have q4 := hK2.cell q4; have q5 := hK2.cell q5; have q6 := hK2.cell q6))
  go_ret
  exact ⟨by rw [H.out]; rfl, kw⟩
set_option maxRecDepth 100000 in
set_option maxHeartbeats 4000000 in
theorem rplain_a (e : Ev) (A : Option Addr) (c k : Nat) (w : World) (hk : e.kind = (k : Int)) (hc : k = 4) (h3 : e.c = 0 ∨ e.c = 1) (h4 : e.bytes.length ≤ 600) :
    Calls Tryz.prog 12 #[evV e (.slice A e.bytes.length c)] w fun en w' => en = .returned (.bool (plainP e)) ∧ Kp w w' := by
  have hk8 : k ≤ 8 := by omega
  have pa := Lib.hid (show decide (Pt.a ∈ partsOf k) = true by rcases hc with rfl <;> decide)
  have pb := Lib.hid (show decide (Pt.b ∈ partsOf k) = false by rcases hc with rfl <;> decide)
  have pc := Lib.hid (show decide (Pt.c ∈ partsOf k) = false by rcases hc with rfl <;> decide)
  have pd := Lib.hid (show decide (Pt.d ∈ partsOf k) = false by rcases hc with rfl <;> decide)
  have ps := Lib.hid (show decide (Pt.s ∈ partsOf k) = false by rcases hc with rfl <;> decide)
  have px := Lib.hid (show decide (Pt.x ∈ partsOf k) = false by rcases hc with rfl <;> decide)
  have HP := Lib.hid (show plainP e = decide (e.b = 0 ∧ e.c = 0 ∧ e.draw = 0 ∧ e.src = 0 ∧ e.bytes = []) by
    obtain ⟨kd, ea, eb, ec, ed, es, ex⟩ := e
    simp only at hk h3 h4 ⊢
    subst hk
    rw [Bool.eq_iff_iff, decide_eq_true_iff]
    rcases hc with rfl <;> simp only [plainP, partsOf, List.foldl_cons, List.foldl_nil, putE, ev0, Bool.and_eq_true, decide_eq_true_eq, Ev.mk.injEq, Int.toNat_natCast, true_and, and_true] <;> grind)
  have g1 : decide (e.kind < 1) = false := decide_eq_false (by omega)
  have g2 : decide ((8 : Int) < e.kind) = false := decide_eq_false (by omega)
  have g3 : decide (e.c < 0) = false := decide_eq_false (by omega)
  have g4 : decide ((1 : Int) < e.c) = false := decide_eq_false (by omega)
  have g5 : decide ((600 : Int) < (e.bytes.length : Int)) = false := decide_eq_false (by omega)
  clear h3 h4 hc
  have HK := Lib.hid hk
  clear hk
  by_cases zb : e.b = 0
  rotate_left
  · have H := Lib.hid (show plainP e = false by rw [HP.out, decide_eq_false]; intro h; exact zb h.1)
    have yb : (e.b == 0) = false := by rw [beq_eq_false_iff_ne]; exact zb
    clear zb
    go_enter Tryz.func12, Tryz.ntmps12
    go_wp2_with fail
    obtain ⟨W, hW, kw, q1, q2, q3, q4, q5, q6⟩ : ∃ W, w.alloc (.cells (evC e (.slice A e.bytes.length c)) 27) = W ∧ Kp w W ∧ W.cell? ⟨w.heap.size, 1, none⟩ = some (.int .i64 e.a) ∧ W.cell? ⟨w.heap.size, 2, none⟩ = some (.int .i64 e.b) ∧ W.cell? ⟨w.heap.size, 3, none⟩ = some (.int .i64 e.c) ∧ W.cell? ⟨w.heap.size, 4, none⟩ = some (.int .i64 e.draw) ∧ W.cell? ⟨w.heap.size, 5, none⟩ = some (.int .u32 (e.src : Int)) ∧ W.cell? ⟨w.heap.size, 6, none⟩ = some (.slice A e.bytes.length c) := ⟨_, rfl, (Kp.refl w).alloc _, (Blk.new w _ _).cell 1, (Blk.new w _ _).cell 2, (Blk.new w _ _).cell 3, (Blk.new w _ _).cell 4, (Blk.new w _ _).cell 5, (Blk.new w _ _).cell 6⟩
    simp only [evC] at hW
    rw [hW]
    clear hW
    go_wp2_with (first | (go_at_call_of 41 (Value.int .u8 97); refine (has_a HK hk8 pa _).mono ?_; rintro en w2 ⟨rfl, hK2⟩; have kw := kw.trans hK2; have q1 := hK2.cell q1; have q2 := hK2.cell q2; have q3 := hK2.cell q3; have q4 := hK2.cell q4; have q5 := hK2.cell q5; have q6 := hK2.cell q6) | (go_at_call_of 41 (Value.int .u8 98); refine (has_b HK hk8 pb _).mono ?_; rintro en w2 ⟨rfl, hK2⟩; have kw := kw.trans hK2; have q1 := hK2.cell q1; have q2 := hK2.cell q2; have q3 := hK2.cell q3; have q4 := hK2.cell q4; have q5 := hK2.cell q5; have q6 := hK2.cell q6) | (go_at_call_of 41 (Value.int .u8 99); refine (has_c HK hk8 pc _).mono ?_; rintro en w2 ⟨rfl, hK2⟩; have kw := kw.trans hK2; have q1 := hK2.cell q1; have q2 := hK2.cell q2; have q3 := hK2.cell q3; have q4 := hK2.cell q4; have q5 := hK2.cell q5; have q6 := hK2.cell q6) | (go_at_call_of 41 (Value.int .u8 100); refine (has_d HK hk8 pd _).mono ?_; rintro en w2 ⟨rfl, hK2⟩; have kw := kw.trans hK2; have q1 := hK2.cell q1; have q2 := hK2.cell q2; have q3 := hK2.cell q3; have q4 := hK2.cell q4; have q5 := hK2.cell q5; have q6 := hK2.cell q6) | (go_at_call_of 41 (Value.int .u8 115); refine (has_s HK hk8 ps _).mono ?_; rintro en w2 ⟨rfl, hK2⟩; have kw := kw.trans hK2; have q1 := hK2.cell q1; have q2 := hK2.cell q2; have q3 := hK2.cell q3; have q4 := hK2.cell q4; have q5 := hK2.cell q5; have q6 := hK2.cell q6) | (go_at_call_of 41 (Value.int .u8 120); refine (has_x HK hk8 px _).mono ?_; rintro en w2 ⟨rfl, hK2⟩; have kw := kw.trans hK2; have q1 := hK2.cell q1; have q2 := hK2.cell q2; have q3 := hK2.cell q3; have q4 := hK2.cell q4; have q5 := hK2.cell q5; have q6 := hK2.cell q6))
    go_ret
    exact ⟨by rw [H.out]; rfl, kw⟩
  have yb : (e.b == 0) = true := by rw [zb]; rfl
  by_cases zc : e.c = 0
  rotate_left
  · have H := Lib.hid (show plainP e = false by rw [HP.out, decide_eq_false]; intro h; exact zc h.2.1)
    have yc : (e.c == 0) = false := by rw [beq_eq_false_iff_ne]; exact zc
    clear zb zc
    go_enter Tryz.func12, Tryz.ntmps12
    go_wp2_with fail
    obtain ⟨W, hW, kw, q1, q2, q3, q4, q5, q6⟩ : ∃ W, w.alloc (.cells (evC e (.slice A e.bytes.length c)) 27) = W ∧ Kp w W ∧ W.cell? ⟨w.heap.size, 1, none⟩ = some (.int .i64 e.a) ∧ W.cell? ⟨w.heap.size, 2, none⟩ = some (.int .i64 e.b) ∧ W.cell? ⟨w.heap.size, 3, none⟩ = some (.int .i64 e.c) ∧ W.cell? ⟨w.heap.size, 4, none⟩ = some (.int .i64 e.draw) ∧ W.cell? ⟨w.heap.size, 5, none⟩ = some (.int .u32 (e.src : Int)) ∧ W.cell? ⟨w.heap.size, 6, none⟩ = some (.slice A e.bytes.length c) := ⟨_, rfl, (Kp.refl w).alloc _, (Blk.new w _ _).cell 1, (Blk.new w _ _).cell 2, (Blk.new w _ _).cell 3, (Blk.new w _ _).cell 4, (Blk.new w _ _).cell 5, (Blk.new w _ _).cell 6⟩
    simp only [evC] at hW
    rw [hW]
    clear hW
    go_wp2_with (first | (go_at_call_of 41 (Value.int .u8 97); refine (has_a HK hk8 pa _).mono ?_; rintro en w2 ⟨rfl, hK2⟩; have kw := kw.trans hK2; have q1 := hK2.cell q1; have q2 := hK2.cell q2; have q3 := hK2.cell q3; have q4 := hK2.cell q4; have q5 := hK2.cell q5; have q6 := hK2.cell q6) | (go_at_call_of 41 (Value.int .u8 98); refine (has_b HK hk8 pb _).mono ?_; rintro en w2 ⟨rfl, hK2⟩; have kw := kw.trans hK2; have q1 := hK2.cell q1; have q2 := hK2.cell q2; have q3 := hK2.cell q3; have q4 := hK2.cell q4; have q5 := hK2.cell q5; have q6 := hK2.cell q6) | (go_at_call_of 41 (Value.int .u8 99); refine (has_c HK hk8 pc _).mono ?_; rintro en w2 ⟨rfl, hK2⟩; have kw := kw.trans hK2; have q1 := hK2.cell q1; have q2 := hK2.cell q2; have q3 := hK2.cell q3; have q4 := hK2.cell q4; have q5 := hK2.cell q5; have q6 := hK2.cell q6) | (go_at_call_of 41 (Value.int .u8 100); refine (has_d HK hk8 pd _).mono ?_; rintro en w2 ⟨rfl, hK2⟩; have kw := kw.trans hK2; have q1 := hK2.cell q1; have q2 := hK2.cell q2; have q3 := hK2.cell q3; have q4 := hK2.cell q4; have q5 := hK2.cell q5; have q6 := hK2.cell q6) | (go_at_call_of 41 (Value.int .u8 115); refine (has_s HK hk8 ps _).mono ?_; rintro en w2 ⟨rfl, hK2⟩; have kw := kw.trans hK2; have q1 := hK2.cell q1; have q2 := hK2.cell q2; have q3 := hK2.cell q3; have q4 := hK2.cell q4; have q5 := hK2.cell q5; have q6 := hK2.cell q6) | (go_at_call_of 41 (Value.int .u8 120); refine (has_x HK hk8 px _).mono ?_; rintro en w2 ⟨rfl, hK2⟩; have kw := kw.trans hK2; have q1 := hK2.cell q1; have q2 := hK2.cell q2; have q3 := hK2.cell q3; have q4 := hK2.cell q4; have q5 := hK2.cell q5; have q6 := hK2.cell q6))
    go_ret
    exact ⟨by rw [H.out]; rfl, kw⟩
  have yc : (e.c == 0) = true := by rw [zc]; rfl
  by_cases zd : e.draw = 0
  rotate_left
  · have H := Lib.hid (show plainP e = false by rw [HP.out, decide_eq_false]; intro h; exact zd h.2.2.1)
    have yd : (e.draw == 0) = false := by rw [beq_eq_false_iff_ne]; exact zd
    clear zb zc zd
    go_enter Tryz.func12, Tryz.ntmps12
    go_wp2_with fail
    obtain ⟨W, hW, kw, q1, q2, q3, q4, q5, q6⟩ : ∃ W, w.alloc (.cells (evC e (.slice A e.bytes.length c)) 27) = W ∧ Kp w W ∧ W.cell? ⟨w.heap.size, 1, none⟩ = some (.int .i64 e.a) ∧ W.cell? ⟨w.heap.size, 2, none⟩ = some (.int .i64 e.b) ∧ W.cell? ⟨w.heap.size, 3, none⟩ = some (.int .i64 e.c) ∧ W.cell? ⟨w.heap.size, 4, none⟩ = some (.int .i64 e.draw) ∧ W.cell? ⟨w.heap.size, 5, none⟩ = some (.int .u32 (e.src : Int)) ∧ W.cell? ⟨w.heap.size, 6, none⟩ = some (.slice A e.bytes.length c) := ⟨_, rfl, (Kp.refl w).alloc _, (Blk.new w _ _).cell 1, (Blk.new w _ _).cell 2, (Blk.new w _ _).cell 3, (Blk.new w _ _).cell 4, (Blk.new w _ _).cell 5, (Blk.new w _ _).cell 6⟩
    simp only [evC] at hW
    rw [hW]
    clear hW
    go_wp2_with (first | (go_at_call_of 41 (Value.int .u8 97); refine (has_a HK hk8 pa _).mono ?_; rintro en w2 ⟨rfl, hK2⟩; have kw := kw.trans hK2; have q1 := hK2.cell q1; have q2 := hK2.cell q2; have q3 := hK2.cell q3; have q4 := hK2.cell q4; have q5 := hK2.cell q5; have q6 := hK2.cell q6) | (go_at_call_of 41 (Value.int .u8 98); refine (has_b HK hk8 pb _).mono ?_; rintro en w2 ⟨rfl, hK2⟩; have kw := kw.trans hK2; have q1 := hK2.cell q1; have q2 := hK2.cell q2; have q3 := hK2.cell q3; have q4 := hK2.cell q4; have q5 := hK2.cell q5; have q6 := hK2.cell q6) | (go_at_call_of 41 (Value.int .u8 99); refine (has_c HK hk8 pc _).mono ?_; rintro en w2 ⟨rfl, hK2⟩; have kw := kw.trans hK2; have q1 := hK2.cell q1; have q2 := hK2.cell q2; have q3 := hK2.cell q3; have q4 := hK2.cell q4; have q5 := hK2.cell q5; have q6 := hK2.cell q6) | (go_at_call_of 41 (Value.int .u8 100); refine (has_d HK hk8 pd _).mono ?_; rintro en w2 ⟨rfl, hK2⟩; have kw := kw.trans hK2; have q1 := hK2.cell q1; have q2 := hK2.cell q2; have q3 := hK2.cell q3; have q4 := hK2.cell q4; have q5 := hK2.cell q5; have q6 := hK2.cell q6) | (go_at_call_of 41 (Value.int .u8 115); refine (has_s HK hk8 ps _).mono ?_; rintro en w2 ⟨rfl, hK2⟩; have kw := kw.trans hK2; have q1 := hK2.cell q1; have q2 := hK2.cell q2; have q3 := hK2.cell q3; have q4 := hK2.cell q4; have q5 := hK2.cell q5; have q6 := hK2.cell q6) | (go_at_call_of 41 (Value.int .u8 120); refine (has_x HK hk8 px _).mono ?_; rintro en w2 ⟨rfl, hK2⟩; have kw := kw.trans hK2; have q1 := hK2.cell q1; have q2 := hK2.cell q2; have q3 := hK2.cell q3; have q4 := hK2.cell q4; have q5 := hK2.cell q5; have q6 := hK2.cell q6))
    go_ret
    exact ⟨by rw [H.out]; rfl, kw⟩
  have yd : (e.draw == 0) = true := by rw [zd]; rfl
  by_cases zs : e.src = 0
  rotate_left
  · have H := Lib.hid (show plainP e = false by rw [HP.out, decide_eq_false]; intro h; exact zs h.2.2.2.1)
    have ys : ((e.src : Int) == 0) = false := by rw [beq_eq_false_iff_ne]; omega
    clear zb zc zd zs
    go_enter Tryz.func12, Tryz.ntmps12
    go_wp2_with fail
    obtain ⟨W, hW, kw, q1, q2, q3, q4, q5, q6⟩ : ∃ W, w.alloc (.cells (evC e (.slice A e.bytes.length c)) 27) = W ∧ Kp w W ∧ W.cell? ⟨w.heap.size, 1, none⟩ = some (.int .i64 e.a) ∧ W.cell? ⟨w.heap.size, 2, none⟩ = some (.int .i64 e.b) ∧ W.cell? ⟨w.heap.size, 3, none⟩ = some (.int .i64 e.c) ∧ W.cell? ⟨w.heap.size, 4, none⟩ = some (.int .i64 e.draw) ∧ W.cell? ⟨w.heap.size, 5, none⟩ = some (.int .u32 (e.src : Int)) ∧ W.cell? ⟨w.heap.size, 6, none⟩ = some (.slice A e.bytes.length c) := ⟨_, rfl, (Kp.refl w).alloc _, (Blk.new w _ _).cell 1, (Blk.new w _ _).cell 2, (Blk.new w _ _).cell 3, (Blk.new w _ _).cell 4, (Blk.new w _ _).cell 5, (Blk.new w _ _).cell 6⟩
    simp only [evC] at hW
    rw [hW]
    clear hW
    go_wp2_with (first | (go_at_call_of 41 (Value.int .u8 97); refine (has_a HK hk8 pa _).mono ?_; rintro en w2 ⟨rfl, hK2⟩; have kw := kw.trans hK2; have q1 := hK2.cell q1; have q2 := hK2.cell q2; have q3 := hK2.cell q3; have q4 := hK2.cell q4; have q5 := hK2.cell q5; have q6 := hK2.cell q6) | (go_at_call_of 41 (Value.int .u8 98); refine (has_b HK hk8 pb _).mono ?_; rintro en w2 ⟨rfl, hK2⟩; have kw := kw.trans hK2; have q1 := hK2.cell q1; have q2 := hK2.cell q2; have q3 := hK2.cell q3; have q4 := hK2.cell q4; have q5 := hK2.cell q5; have q6 := hK2.cell q6) | (go_at_call_of 41 (Value.int .u8 99); refine (has_c HK hk8 pc _).mono ?_; rintro en w2 ⟨rfl, hK2⟩; have kw := kw.trans hK2; have q1 := hK2.cell q1; have q2 := hK2.cell q2; have q3 := hK2.cell q3; have q4 := hK2.cell q4; have q5 := hK2.cell q5; have q6 := hK2.cell q6) | (go_at_call_of 41 (Value.int .u8 100); refine (has_d HK hk8 pd _).mono ?_; rintro en w2 ⟨rfl, hK2⟩; have kw := kw.trans hK2; have q1 := hK2.cell q1; have q2 := hK2.cell q2; have q3 := hK2.cell q3; have q4 := hK2.cell q4; have q5 := hK2.cell q5; have q6 := hK2.cell q6) | (go_at_call_of 41 (Value.int .u8 115); refine (has_s HK hk8 ps _).mono ?_; rintro en w2 ⟨rfl, hK2⟩; have kw := kw.trans hK2; have q1 := hK2.cell q1; have q2 := hK2.cell q2; have q3 := hK2.cell q3; have q4 := hK2.cell q4; have q5 := hK2.cell q5; have q6 := hK2.cell q6) | (go_at_call_of 41 (Value.int .u8 120); refine (has_x HK hk8 px _).mono ?_; rintro en w2 ⟨rfl, hK2⟩; have kw := kw.trans hK2; have q1 := hK2.cell q1; have q2 := hK2.cell q2; have q3 := hK2.cell q3; have q4 := hK2.cell q4; have q5 := hK2.cell q5; have q6 := hK2.cell q6))
    go_ret
    exact ⟨by rw [H.out]; rfl, kw⟩
  have ys : ((e.src : Int) == 0) = true := by rw [zs]; rfl
  by_cases zx : e.bytes = []
  rotate_left
  · have H := Lib.hid (show plainP e = false by rw [HP.out, decide_eq_false]; intro h; exact zx h.2.2.2.2)
    have yx : ((e.bytes.length : Int) == 0) = false := by rw [beq_eq_false_iff_ne]; have := List.length_pos_iff.2 zx; omega
    clear zb zc zd zs zx
    go_enter Tryz.func12, Tryz.ntmps12
    go_wp2_with fail
    obtain ⟨W, hW, kw, q1, q2, q3, q4, q5, q6⟩ : ∃ W, w.alloc (.cells (evC e (.slice A e.bytes.length c)) 27) = W ∧ Kp w W ∧ W.cell? ⟨w.heap.size, 1, none⟩ = some (.int .i64 e.a) ∧ W.cell? ⟨w.heap.size, 2, none⟩ = some (.int .i64 e.b) ∧ W.cell? ⟨w.heap.size, 3, none⟩ = some (.int .i64 e.c) ∧ W.cell? ⟨w.heap.size, 4, none⟩ = some (.int .i64 e.draw) ∧ W.cell? ⟨w.heap.size, 5, none⟩ = some (.int .u32 (e.src : Int)) ∧ W.cell? ⟨w.heap.size, 6, none⟩ = some (.slice A e.bytes.length c) := ⟨_, rfl, (Kp.refl w).alloc _, (Blk.new w _ _).cell 1, (Blk.new w _ _).cell 2, (Blk.new w _ _).cell 3, (Blk.new w _ _).cell 4, (Blk.new w _ _).cell 5, (Blk.new w _ _).cell 6⟩
    simp only [evC] at hW
    rw [hW]
    clear hW
    go_wp2_with (first | (go_at_call_of 41 (Value.int .u8 97); refine (has_a HK hk8 pa _).mono ?_; rintro en w2 ⟨rfl, hK2⟩; have kw := kw.trans hK2; have q1 := hK2.cell q1; have q2 := hK2.cell q2; have q3 := hK2.cell q3; have q4 := hK2.cell q4; have q5 := hK2.cell q5; have q6 := hK2.cell q6) | (go_at_call_of 41 (Value.int .u8 98); refine (has_b HK hk8 pb _).mono ?_; rintro en w2 ⟨rfl, hK2⟩; have kw := kw.trans hK2; have q1 := hK2.cell q1; have q2 := hK2.cell q2; have q3 := hK2.cell q3; have q4 := hK2.cell q4; have q5 := hK2.cell q5; have q6 := hK2.cell q6) | (go_at_call_of 41 (Value.int .u8 99); refine (has_c HK hk8 pc _).mono ?_; rintro en w2 ⟨rfl, hK2⟩; have kw := kw.trans hK2; have q1 := hK2.cell q1; have q2 := hK2.cell q2; have q3 := hK2.cell q3; have q4 := hK2.cell q4; have q5 := hK2.cell q5; have q6 := hK2.cell q6) | (go_at_call_of 41 (Value.int .u8 100); refine (has_d HK hk8 pd _).mono ?_; rintro en w2 ⟨rfl, hK2⟩; have kw := kw.trans hK2; have q1 := hK2.cell q1; have q2 := hK2.cell q2; have q3 := hK2.cell q3; have q4 := hK2.cell q4; have q5 := hK2.cell q5; have q6 := hK2.cell q6) | (go_at_call_of 41 (Value.int .u8 115); refine (has_s HK hk8 ps _).mono ?_; rintro en w2 ⟨rfl, hK2⟩; have kw := kw.trans hK2; have q1 := hK2.cell q1; have q2 := hK2.cell q2; have q3 := hK2.cell q3; have q4 := hK2.cell q4; have q5 := hK2.cell q5; have q6 := hK2.cell q6) | (go_at_call_of 41 (Value.int .u8 120); refine (has_x HK hk8 px _).mono ?_; rintro en w2 ⟨rfl, hK2⟩; have kw := kw.trans hK2; have q1 := hK2.cell q1; have q2 := hK2.cell q2; have q3 := hK2.cell q3; have q4 := hK2.cell q4; have q5 := hK2.cell q5; have q6 := hK2.cell q6))
    go_ret
    exact ⟨by rw [H.out]; rfl, kw⟩
  have yx : ((e.bytes.length : Int) == 0) = true := by rw [zx]; rfl
  have H := Lib.hid (show plainP e = true by rw [HP.out, decide_eq_true_iff]; exact ⟨zb, zc, zd, zs, zx⟩)
  clear zb zc zd zs zx
  go_enter Tryz.func12, Tryz.ntmps12
  go_wp2_with fail
  obtain ⟨W, hW, kw, q1, q2, q3, q4, q5, q6⟩ : ∃ W, w.alloc (.cells (evC e (.slice A e.bytes.length c)) 27) = W ∧ Kp w W ∧ W.cell? ⟨w.heap.size, 1, none⟩ = some (.int .i64 e.a) ∧ W.cell? ⟨w.heap.size, 2, none⟩ = some (.int .i64 e.b) ∧ W.cell? ⟨w.heap.size, 3, none⟩ = some (.int .i64 e.c) ∧ W.cell? ⟨w.heap.size, 4, none⟩ = some (.int .i64 e.draw) ∧ W.cell? ⟨w.heap.size, 5, none⟩ = some (.int .u32 (e.src : Int)) ∧ W.cell? ⟨w.heap.size, 6, none⟩ = some (.slice A e.bytes.length c) := ⟨_, rfl, (Kp.refl w).alloc _, (Blk.new w _ _).cell 1, (Blk.new w _ _).cell 2, (Blk.new w _ _).cell 3, (Blk.new w _ _).cell 4, (Blk.new w _ _).cell 5, (Blk.new w _ _).cell 6⟩
  simp only [evC] at hW
  rw [hW]
  clear hW
  go_wp2_with (first | (go_at_call_of 41 (Value.int .u8 97); refine (has_a HK hk8 pa _).mono ?_; rintro en w2 ⟨rfl, hK2⟩; have kw := kw.trans hK2; have q1 := hK2.cell q1; have q2 := hK2.cell q2; have q3 := hK2.cell q3; have q4 := hK2.cell q4; have q5 := hK2.cell q5; have q6 := hK2.cell q6) | (go_at_call_of 41 (Value.int .u8 98); refine (has_b HK hk8 pb _).mono ?_; rintro en w2 ⟨rfl, hK2⟩; have kw := kw.trans hK2; have q1 := hK2.cell q1; have q2 := hK2.cell q2; have q3 := hK2.cell q3; have q4 := hK2.cell q4; have q5 := hK2.cell q5; have q6 := hK2.cell q6) | (go_at_call_of 41 (Value.int .u8 99); refine (has_c HK hk8 pc _).mono ?_; rintro en w2 ⟨rfl, hK2⟩; have kw := kw.trans hK2; have q1 := hK2.cell q1; have q2 := hK2.cell q2; have q3 := hK2.cell q3; have q4 := hK2.cell q4; have q5 := hK2.cell q5; have q6 := hK2.cell q6) | (go_at_call_of 41 (Value.int .u8 100); refine (has_d HK hk8 pd _).mono ?_; rintro en w2 ⟨rfl, hK2⟩; have kw := kw.trans hK2; have q1 := hK2.cell q1; have q2 := hK2.cell q2; have q3 := hK2.cell q3; have q4 := hK2.cell q4; have q5 := hK2.cell q5; have q6 := hK2.cell q6) | (go_at_call_of 41 (Value.int .u8 115); refine (has_s HK hk8 ps _).mono ?_; rintro en w2 ⟨rfl, hK2⟩; have kw := kw.trans hK2; have q1 := hK2.cell q1; have q2 := hK2.cell q2; have q3 := hK2.cell q3; have q4 := hK2.cell q4; have q5 := hK2.cell q5; have q6 := hK2.cell q6) | (go_at_call_of 41 (Value.int .u8 120); refine (has_x HK hk8 px _).mono ?_; rintro en w2 ⟨rfl, hK2⟩; have kw := kw.trans hK2; have q1 := hK2.cell q1; have q2 := hK2.cell q2; have q3 := hK2.cell q3; have q4 := hK2.cell q4; have q5 := hK2.cell q5; have q6 := hK2.cell q6))
  go_ret
  exact ⟨by rw [H.out]; rfl, kw⟩
set_option maxRecDepth 100000 in
set_option maxHeartbeats 4000000 in
theorem rplain_ac (e : Ev) (A : Option Addr) (c k : Nat) (w : World) (hk : e.kind = (k : Int)) (hc : k = 5) (h3 : e.c = 0 ∨ e.c = 1) (h4 : e.bytes.length ≤ 600) :
    Calls Tryz.prog 12 #[evV e (.slice A e.bytes.length c)] w fun en w' => en = .returned (.bool (plainP e)) ∧ Kp w w' := by
  have hk8 : k ≤ 8 := by omega
  have pa := Lib.hid (show decide (Pt.a ∈ partsOf k) = true by rcases hc with rfl <;> decide)
  have pb := Lib.hid (show decide (Pt.b ∈ partsOf k) = false by rcases hc with rfl <;> decide)
  have pc := Lib.hid (show decide (Pt.c ∈ partsOf k) = true by rcases hc with rfl <;> decide)
  have pd := Lib.hid (show decide (Pt.d ∈ partsOf k) = false by rcases hc with rfl <;> decide)
  have ps := Lib.hid (show decide (Pt.s ∈ partsOf k) = false by rcases hc with rfl <;> decide)
  have px := Lib.hid (show decide (Pt.x ∈ partsOf k) = false by rcases hc with rfl <;> decide)
  have HP := Lib.hid (show plainP e = decide (e.b = 0 ∧ e.draw = 0 ∧ e.src = 0 ∧ e.bytes = []) by
    obtain ⟨kd, ea, eb, ec, ed, es, ex⟩ := e
    simp only at hk h3 h4 ⊢
    subst hk
    rw [Bool.eq_iff_iff, decide_eq_true_iff]
    rcases hc with rfl <;> simp only [plainP, partsOf, List.foldl_cons, List.foldl_nil, putE, ev0, Bool.and_eq_true, decide_eq_true_eq, Ev.mk.injEq, Int.toNat_natCast, true_and, and_true] <;> grind)
  have g1 : decide (e.kind < 1) = false := decide_eq_false (by omega)
  have g2 : decide ((8 : Int) < e.kind) = false := decide_eq_false (by omega)
  have g3 : decide (e.c < 0) = false := decide_eq_false (by omega)
  have g4 : decide ((1 : Int) < e.c) = false := decide_eq_false (by omega)
  have g5 : decide ((600 : Int) < (e.bytes.length : Int)) = false := decide_eq_false (by omega)
  clear h3 h4 hc
  have HK := Lib.hid hk
  clear hk
  by_cases zb : e.b = 0
  rotate_left
  · have H := Lib.hid (show plainP e = false by rw [HP.out, decide_eq_false]; intro h; exact zb h.1)
    have yb : (e.b == 0) = false := by rw [beq_eq_false_iff_ne]; exact zb
    clear zb
    go_enter Tryz.func12, Tryz.ntmps12
    go_wp2_with fail
    obtain ⟨W, hW, kw, q1, q2, q3, q4, q5, q6⟩ : ∃ W, w.alloc (.cells (evC e (.slice A e.bytes.length c)) 27) = W ∧ Kp w W ∧ W.cell? ⟨w.heap.size, 1, none⟩ = some (.int .i64 e.a) ∧ W.cell? ⟨w.heap.size, 2, none⟩ = some (.int .i64 e.b) ∧ W.cell? ⟨w.heap.size, 3, none⟩ = some (.int .i64 e.c) ∧ W.cell? ⟨w.heap.size, 4, none⟩ = some (.int .i64 e.draw) ∧ W.cell? ⟨w.heap.size, 5, none⟩ = some (.int .u32 (e.src : Int)) ∧ W.cell? ⟨w.heap.size, 6, none⟩ = some (.slice A e.bytes.length c) := ⟨_, rfl, (Kp.refl w).alloc _, (Blk.new w _ _).cell 1, (Blk.new w _ _).cell 2, (Blk.new w _ _).cell 3, (Blk.new w _ _).cell 4, (Blk.new w _ _).cell 5, (Blk.new w _ _).cell 6⟩
    simp only [evC] at hW
    rw [hW]
    clear hW
    go_wp2_with (first | (go_at_call_of 41 (Value.int .u8 97); refine (has_a HK hk8 pa _).mono ?_; rintro en w2 ⟨rfl, hK2⟩; have kw := kw.trans hK2; have q1 := hK2.cell q1; have q2 := hK2.cell q2; have q3 := hK2.cell q3; have q4 := hK2.cell q4; have q5 := hK2.cell q5; have q6 := hK2.cell q6) | (go_at_call_of 41 (Value.int .u8 98); refine (has_b HK hk8 pb _).mono ?_; rintro en w2 ⟨rfl, hK2⟩; have kw := kw.trans hK2; have q1 := hK2.cell q1; have q2 := hK2.cell q2; have q3 := hK2.cell q3; have q4 := hK2.cell q4; have q5 := hK2.cell q5; have q6 := hK2.cell q6) | (go_at_call_of 41 (Value.int .u8 99); refine (has_c HK hk8 pc _).mono ?_; rintro en w2 ⟨rfl, hK2⟩; have kw := kw.trans hK2; have q1 := hK2.cell q1; have q2 := hK2.cell q2; have q3 := hK2.cell q3; have q4 := hK2.cell q4; have q5 := hK2.cell q5; have q6 := hK2.cell q6) | (go_at_call_of 41 (Value.int .u8 100); refine (has_d HK hk8 pd _).mono ?_; rintro en w2 ⟨rfl, hK2⟩; have kw := kw.trans hK2; have q1 := hK2.cell q1; have q2 := hK2.cell q2; have q3 := hK2.cell q3; have q4 := hK2.cell q4; have q5 := hK2.cell q5; have q6 := hK2.cell q6) | (go_at_call_of 41 (Value.int .u8 115); refine (has_s HK hk8 ps _).mono ?_; rintro en w2 ⟨rfl, hK2⟩; have kw := kw.trans hK2; have q1 := hK2.cell q1; have q2 := hK2.cell q2; have q3 := hK2.cell q3; have q4 := hK2.cell q4; have q5 := hK2.cell q5; have q6 := hK2.cell q6) | (go_at_call_of 41 (Value.int .u8 120); refine (has_x HK hk8 px _).mono ?_; rintro en w2 ⟨rfl, hK2⟩; have kw := kw.trans hK2; have q1 := hK2.cell q1; have q2 := hK2.cell q2; have q3 := hK2.cell q3; have q4 := hK2.cell q4; have q5 := hK2.cell q5; have q6 := hK2.cell q6))
    go_ret
    exact ⟨by rw [H.out]; rfl, kw⟩
  have yb : (e.b == 0) = true := by rw [zb]; rfl
  by_cases zd : e.draw = 0
  rotate_left
  · have H := Lib.hid (show plainP e = false by rw [HP.out, decide_eq_false]; intro h; exact zd h.2.1)
    have yd : (e.draw == 0) = false := by rw [beq_eq_false_iff_ne]; exact zd
    clear zb zd
    go_enter Tryz.func12, Tryz.ntmps12
    go_wp2_with fail
    obtain ⟨W, hW, kw, q1, q2, q3, q4, q5, q6⟩ : ∃ W, w.alloc (.cells (evC e (.slice A e.bytes.length c)) 27) = W ∧ Kp w W ∧ W.cell? ⟨w.heap.size, 1, none⟩ = some (.int .i64 e.a) ∧ W.cell? ⟨w.heap.size, 2, none⟩ = some (.int .i64 e.b) ∧ W.cell? ⟨w.heap.size, 3, none⟩ = some (.int .i64 e.c) ∧ W.cell? ⟨w.heap.size, 4, none⟩ = some (.int .i64 e.draw) ∧ W.cell? ⟨w.heap.size, 5, none⟩ = some (.int .u32 (e.src : Int)) ∧ W.cell? ⟨w.heap.size, 6, none⟩ = some (.slice A e.bytes.length c) := ⟨_, rfl, (Kp.refl w).alloc _, (Blk.new w _ _).cell 1, (Blk.new w _ _).cell 2, (Blk.new w _ _).cell 3, (Blk.new w _ _).cell 4, (Blk.new w _ _).cell 5, (Blk.new w _ _).cell 6⟩
    simp only [evC] at hW
    rw [hW]
    clear hW
    go_wp2_with (first | (go_at_call_of 41 (Value.int .u8 97); refine (has_a HK hk8 pa _).mono ?_; rintro en w2 ⟨rfl, hK2⟩; have kw := kw.trans hK2; have q1 := hK2.cell q1; have q2 := hK2.cell q2; have q3 := hK2.cell q3; have q4 := hK2.cell q4; have q5 := hK2.cell q5; have q6 := hK2.cell q6) | (go_at_call_of 41 (Value.int .u8 98); refine (has_b HK hk8 pb _).mono ?_; rintro en w2 ⟨rfl, hK2⟩; have kw := kw.trans hK2; have q1 := hK2.cell q1; have q2 := hK2.cell q2; have q3 := hK2.cell q3; have q4 := hK2.cell q4; have q5 := hK2.cell q5; have q6 := hK2.cell q6) | (go_at_call_of 41 (Value.int .u8 99); refine (has_c HK hk8 pc _).mono ?_; rintro en w2 ⟨rfl, hK2⟩; have kw := kw.trans hK2; have q1 := hK2.cell q1; have q2 := hK2.cell q2; have q3 := hK2.cell q3; have q4 := hK2.cell q4; have q5 := hK2.cell q5; have q6 := hK2.cell q6) | (go_at_call_of 41 (Value.int .u8 100); refine (has_d HK hk8 pd _).mono ?_; rintro en w2 ⟨rfl, hK2⟩; have kw := kw.trans hK2; have q1 := hK2.cell q1; have q2 := hK2.cell q2; have q3 := hK2.cell q3; have q4 := hK2.cell q4; have q5 := hK2.cell q5; have q6 := hK2.cell q6) | (go_at_call_of 41 (Value.int .u8 115); refine (has_s HK hk8 ps _).mono ?_; rintro en w2 ⟨rfl, hK2⟩; have kw := kw.trans hK2; have q1 := hK2.cell q1; have q2 := hK2.cell q2; have q3 := hK2.cell q3; have q4 := hK2.cell q4; have q5 := hK2.cell q5; have q6 := hK2.cell q6) | (go_at_call_of 41 (Value.int .u8 120); refine (has_x HK hk8 px _).mono ?_; rintro en w2 ⟨rfl, hK2⟩; have kw := kw.trans hK2; have q1 := hK2.cell q1; have q2 := hK2.cell q2; have q3 := hK2.cell q3; have q4 := hK2.cell q4; have q5 := hK2.cell q5; have q6 := hK2.cell q6))
    go_ret
    exact ⟨by rw [H.out]; rfl, kw⟩
  have yd : (e.draw == 0) = true := by rw [zd]; rfl
  by_cases zs : e.src = 0
  rotate_left
  · have H := Lib.hid (show plainP e = false by rw [HP.out, decide_eq_false]; intro h; exact zs h.2.2.1)
    have ys : ((e.src : Int) == 0) = false := by rw [beq_eq_false_iff_ne]; omega
    clear zb zd zs
    go_enter Tryz.func12, Tryz.ntmps12
    go_wp2_with fail
    obtain ⟨W, hW, kw, q1, q2, q3, q4, q5, q6⟩ : ∃ W, w.alloc (.cells (evC e (.slice A e.bytes.length c)) 27) = W ∧ Kp w W ∧ W.cell? ⟨w.heap.size, 1, none⟩ = some (.int .i64 e.a) ∧ W.cell? ⟨w.heap.size, 2, none⟩ = some (.int .i64 e.b) ∧ W.cell? ⟨w.heap.size, 3, none⟩ = some (.int .i64 e.c) ∧ W.cell? ⟨w.heap.size, 4, none⟩ = some (.int .i64 e.draw) ∧ W.cell? ⟨w.heap.size, 5, none⟩ = some (.int .u32 (e.src : Int)) ∧ W.cell? ⟨w.heap.size, 6, none⟩ = some (.slice A e.bytes.length c) := ⟨_, rfl, (Kp.refl w).alloc _, (Blk.new w _ _).cell 1, (Blk.new w _ _).cell 2, (Blk.new w _ _).cell 3, (Blk.new w _ _).cell 4, (Blk.new w _ _).cell 5, (Blk.new w _ _).cell 6⟩
    simp only [evC] at hW
    rw [hW]
    clear hW
    go_wp2_with (first | (go_at_call_of 41 (Value.int .u8 97); refine (has_a HK hk8 pa _).mono ?_; rintro en w2 ⟨rfl, hK2⟩; have kw := kw.trans hK2; have q1 := hK2.cell q1; have q2 := hK2.cell q2; have q3 := hK2.cell q3; have q4 := hK2.cell q4; have q5 := hK2.cell q5; have q6 := hK2.cell q6) | (go_at_call_of 41 (Value.int .u8 98); refine (has_b HK hk8 pb _).mono ?_; rintro en w2 ⟨rfl, hK2⟩; have kw := kw.trans hK2; have q1 := hK2.cell q1; have q2 := hK2.cell q2; have q3 := hK2.cell q3; have q4 := hK2.cell q4; have q5 := hK2.cell q5; have q6 := hK2.cell q6) | (go_at_call_of 41 (Value.int .u8 99); refine (has_c HK hk8 pc _).mono ?_; rintro en w2 ⟨rfl, hK2⟩; have kw := kw.trans hK2; have q1 := hK2.cell q1; have q2 := hK2.cell q2; have q3 := hK2.cell q3; have q4 := hK2.cell q4; have q5 := hK2.cell q5; have q6 := hK2.cell q6) | (go_at_call_of 41 (Value.int .u8 100); refine (has_d HK hk8 pd _).mono ?_; rintro en w2 ⟨rfl, hK2⟩; have kw := kw.trans hK2; have q1 := hK2.cell q1; have q2 := hK2.cell q2; have q3 := hK2.cell q3; have q4 := hK2.cell q4; have q5 := hK2.cell q5; have q6 := hK2.cell q6) | (go_at_call_of 41 (Value.int .u8 115); refine (has_s HK hk8 ps _).mono ?_; rintro en w2 ⟨rfl, hK2⟩; have kw := kw.trans hK2; have q1 := hK2.cell q1; have q2 := hK2.cell q2; have q3 := hK2.cell q3; have q4 := hK2.cell q4; have q5 := hK2.cell q5; have q6 := hK2.cell q6) | (go_at_call_of 41 (Value.int .u8 120); refine (has_x HK hk8 px _).mono ?_; rintro en w2 ⟨rfl, hK2⟩; have kw := kw.trans hK2; have q1 := hK2.cell q1; have q2 := hK2.cell q2; have q3 := hK2.cell q3; have q4 := hK2.cell q4; have q5 := hK2.cell q5; have q6 := hK2.cell q6))
    go_ret
    exact ⟨by rw [H.out]; rfl, kw⟩
  have ys : ((e.src : Int) == 0) = true := by rw [zs]; rfl
  by_cases zx : e.bytes = []
  rotate_left
  · have H := Lib.hid (show plainP e = false by rw [HP.out, decide_eq_false]; intro h; exact zx h.2.2.2)
    have yx : ((e.bytes.length : Int) == 0) = false := by rw [beq_eq_false_iff_ne]; have := List.length_pos_iff.2 zx; omega
    clear zb zd zs zx
    go_enter Tryz.func12, Tryz.ntmps12
    go_wp2_with fail
    obtain ⟨W, hW, kw, q1, q2, q3, q4, q5, q6⟩ : ∃ W, w.alloc (.cells (evC e (.slice A e.bytes.length c)) 27) = W ∧ Kp w W ∧ W.cell? ⟨w.heap.size, 1, none⟩ = some (.int .i64 e.a) ∧ W.cell? ⟨w.heap.size, 2, none⟩ = some (.int .i64 e.b) ∧ W.cell? ⟨w.heap.size, 3, none⟩ = some (.int .i64 e.c) ∧ W.cell? ⟨w.heap.size, 4, none⟩ = some (.int .i64 e.draw) ∧ W.cell? ⟨w.heap.size, 5, none⟩ = some (.int .u32 (e.src : Int)) ∧ W.cell? ⟨w.heap.size, 6, none⟩ = some (.slice A e.bytes.length c) := ⟨_, rfl, (Kp.refl w).alloc _, (Blk.new w _ _).cell 1, (Blk.new w _ _).cell 2, (Blk.new w _ _).cell 3, (Blk.new w _ _).cell 4, (Blk.new w _ _).cell 5, (Blk.new w _ _).cell 6⟩
    simp only [evC] at hW
    rw [hW]
    clear hW
    go_wp2_with (first | (go_at_call_of 41 (Value.int .u8 97); refine (has_a HK hk8 pa _).mono ?_; rintro en w2 ⟨rfl, hK2⟩; have kw := kw.trans hK2; have q1 := hK2.cell q1; have q2 := hK2.cell q2; have q3 := hK2.cell q3; have q4 := hK2.cell q4; have q5 := hK2.cell q5; have q6 := hK2.cell q6) | (go_at_call_of 41 (Value.int .u8 98); refine (has_b HK hk8 pb _).mono ?_; rintro en w2 ⟨rfl, hK2⟩; have kw := kw.trans hK2; have q1 := hK2.cell q1; have q2 := hK2.cell q2; have q3 := hK2.cell q3; have q4 := hK2.cell q4; have q5 := hK2.cell q5; have q6 := hK2.cell q6) | (go_at_call_of 41 (Value.int .u8 99); refine (has_c HK hk8 pc _).mono ?_; rintro en w2 ⟨rfl, hK2⟩; have kw := kw.trans hK2; have q1 := hK2.cell q1; have q2 := hK2.cell q2; have q3 := hK2.cell q3; have q4 := hK2.cell q4; have q5 := hK2.cell q5; have q6 := hK2.cell q6) | (go_at_call_of 41 (Value.int .u8 100); refine (has_d HK hk8 pd _).mono ?_; rintro en w2 ⟨rfl, hK2⟩; have kw := kw.trans hK2; have q1 := hK2.cell q1; have q2 := hK2.cell q2; have q3 := hK2.cell q3; have q4 := hK2.cell q4; have q5 := hK2.cell q5; have q6 := hK2.cell q6) | (go_at_call_of 41 (Value.int .u8 115); refine (has_s HK hk8 ps _).mono ?_; rintro en w2 ⟨rfl, hK2⟩; have kw := kw.trans hK2; have q1 := hK2.cell q1; have q2 := hK2.cell q2; have q3 := hK2.cell q3; have q4 := hK2.cell q4; have q5 := hK2.cell q5; have q6 := hK2.cell q6) | (go_at_call_of 41 (Value.int .u8 120); refine (has_x HK hk8 px _).mono ?_; rintro en w2 ⟨rfl, hK2⟩; have kw := kw.trans hK2; have q1 := hK2.cell q1; have q2 := hK2.cell q2; have q3 := hK2.cell q3; have q4 := hK2.cell q4; have q5 := hK2.cell q5; have q6 := hK2.cell q6))
    go_ret
    exact ⟨by rw [H.out]; rfl, kw⟩
  have yx : ((e.bytes.length : Int) == 0) = true := by rw [zx]; rfl
  have H := Lib.hid (show plainP e = true by rw [HP.out, decide_eq_true_iff]; exact ⟨zb, zd, zs, zx⟩)
  clear zb zd zs zx
  go_enter Tryz.func12, Tryz.ntmps12
  go_wp2_with fail
  obtain ⟨W, hW, kw, q1, q2, q3, q4, q5, q6⟩ : ∃ W, w.alloc (.cells (evC e (.slice A e.bytes.length c)) 27) = W ∧ Kp w W ∧ W.cell? ⟨w.heap.size, 1, none⟩ = some (.int .i64 e.a) ∧ W.cell? ⟨w.heap.size, 2, none⟩ = some (.int .i64 e.b) ∧ W.cell? ⟨w.heap.size, 3, none⟩ = some (.int .i64 e.c) ∧ W.cell? ⟨w.heap.size, 4, none⟩ = some (.int .i64 e.draw) ∧ W.cell? ⟨w.heap.size, 5, none⟩ = some (.int .u32 (e.src : Int)) ∧ W.cell? ⟨w.heap.size, 6, none⟩ = some (.slice A e.bytes.length c) := ⟨_, rfl, (Kp.refl w).alloc _, (Blk.new w _ _).cell 1, (Blk.new w _ _).cell 2, (Blk.new w _ _).cell 3, (Blk.new w _ _).cell 4, (Blk.new w _ _).cell 5, (Blk.new w _ _).cell 6⟩
  simp only [evC] at hW
  rw [hW]
  clear hW
  go_wp2_with (first | (go_at_call_of 41 (Value.int .u8 97); refine (has_a HK hk8 pa _).mono ?_; rintro en w2 ⟨rfl, hK2⟩; have kw := kw.trans hK2; have q1 := hK2.cell q1; have q2 := hK2.cell q2; have q3 := hK2.cell q3; have q4 := hK2.cell q4; have q5 := hK2.cell q5; have q6 := hK2.cell q6) | (go_at_call_of 41 (Value.int .u8 98); refine (has_b HK hk8 pb _).mono ?_; rintro en w2 ⟨rfl, hK2⟩; have kw := kw.trans hK2; have q1 := hK2.cell q1; have q2 := hK2.cell q2; have q3 := hK2.cell q3; have q4 := hK2.cell q4; have q5 := hK2.cell q5; have q6 := hK2.cell q6) | (go_at_call_of 41 (Value.int .u8 99); refine (has_c HK hk8 pc _).mono ?_; rintro en w2 ⟨rfl, hK2⟩; have kw := kw.trans hK2; have q1 := hK2.cell q1; have q2 := hK2.cell q2; have q3 := hK2.cell q3; have q4 := hK2.cell q4; have q5 := hK2.cell q5; have q6 := hK2.cell q6) | (go_at_call_of 41 (Value.int .u8 100); refine (has_d HK hk8 pd _).mono ?_; rintro en w2 ⟨rfl, hK2⟩; have kw := kw.trans hK2; have q1 := hK2.cell q1; have q2 := hK2.cell q2; have q3 := hK2.cell q3; have q4 := hK2.cell q4; have q5 := hK2.cell q5; have q6 := hK2.cell q6) | (go_at_call_of 41 (Value.int .u8 115); refine (has_s HK hk8 ps _).mono ?_; rintro en w2 ⟨rfl, hK2⟩; have kw := kw.trans hK2; have q1 := hK2.cell q1; have q2 := hK2.cell q2; have q3 := hK2.cell q3; have q4 := hK2.cell q4; have q5 := hK2.cell q5; have q6 := hK2.cell q6) | (go_at_call_of 41 (Value.int .u8 120); refine (has_x HK hk8 px _).mono ?_; rintro en w2 ⟨rfl, hK2⟩; have kw := kw.trans hK2; have q1 := hK2.cell q1; have q2 := hK2.cell q2; have q3 := hK2.cell q3; have q4 := hK2.cell q4; have q5 := hK2.cell q5; have q6 := hK2.cell q6))
  go_ret
  exact ⟨by rw [H.out]; rfl, kw⟩
set_option maxRecDepth 100000 in
set_option maxHeartbeats 4000000 in
theorem rplain_abcd (e : Ev) (A : Option Addr) (c k : Nat) (w : World) (hk : e.kind = (k : Int)) (hc : k = 6) (h3 : e.c = 0 ∨ e.c = 1) (h4 : e.bytes.length ≤ 600) :
    Calls Tryz.prog 12 #[evV e (.slice A e.bytes.length c)] w fun en w' => en = .returned (.bool (plainP e)) ∧ Kp w w' := by
  have hk8 : k ≤ 8 := by omega
  have pa := Lib.hid (show decide (Pt.a ∈ partsOf k) = true by rcases hc with rfl <;> decide)
  have pb := Lib.hid (show decide (Pt.b ∈ partsOf k) = true by rcases hc with rfl <;> decide)
  have pc := Lib.hid (show decide (Pt.c ∈ partsOf k) = true by rcases hc with rfl <;> decide)
  have pd := Lib.hid (show decide (Pt.d ∈ partsOf k) = true by rcases hc with rfl <;> decide)
  have ps := Lib.hid (show decide (Pt.s ∈ partsOf k) = false by rcases hc with rfl <;> decide)
  have px := Lib.hid (show decide (Pt.x ∈ partsOf k) = false by rcases hc with rfl <;> decide)
  have HP := Lib.hid (show plainP e = decide (e.src = 0 ∧ e.bytes = []) by
    obtain ⟨kd, ea, eb, ec, ed, es, ex⟩ := e
    simp only at hk h3 h4 ⊢
    subst hk
    rw [Bool.eq_iff_iff, decide_eq_true_iff]
    rcases hc with rfl <;> simp only [plainP, partsOf, List.foldl_cons, List.foldl_nil, putE, ev0, Bool.and_eq_true, decide_eq_true_eq, Ev.mk.injEq, Int.toNat_natCast, true_and, and_true] <;> grind)
  have g1 : decide (e.kind < 1) = false := decide_eq_false (by omega)
  have g2 : decide ((8 : Int) < e.kind) = false := decide_eq_false (by omega)
  have g3 : decide (e.c < 0) = false := decide_eq_false (by omega)
  have g4 : decide ((1 : Int) < e.c) = false := decide_eq_false (by omega)
  have g5 : decide ((600 : Int) < (e.bytes.length : Int)) = false := decide_eq_false (by omega)
  clear h3 h4 hc
  have HK := Lib.hid hk
  clear hk
  by_cases zs : e.src = 0
  rotate_left
  · have H := Lib.hid (show plainP e = false by rw [HP.out, decide_eq_false]; intro h; exact zs h.1)
    have ys : ((e.src : Int) == 0) = false := by rw [beq_eq_false_iff_ne]; omega
    clear zs
    go_enter Tryz.func12, Tryz.ntmps12
    go_wp2_with fail
    obtain ⟨W, hW, kw, q1, q2, q3, q4, q5, q6⟩ : ∃ W, w.alloc (.cells (evC e (.slice A e.bytes.length c)) 27) = W ∧ Kp w W ∧ W.cell? ⟨w.heap.size, 1, none⟩ = some (.int .i64 e.a) ∧ W.cell? ⟨w.heap.size, 2, none⟩ = some (.int .i64 e.b) ∧ W.cell? ⟨w.heap.size, 3, none⟩ = some (.int .i64 e.c) ∧ W.cell? ⟨w.heap.size, 4, none⟩ = some (.int .i64 e.draw) ∧ W.cell? ⟨w.heap.size, 5, none⟩ = some (.int .u32 (e.src : Int)) ∧ W.cell? ⟨w.heap.size, 6, none⟩ = some (.slice A e.bytes.length c) := ⟨_, rfl, (Kp.refl w).alloc _, (Blk.new w _ _).cell 1, (Blk.new w _ _).cell 2, (Blk.new w _ _).cell 3, (Blk.new w _ _).cell 4, (Blk.new w _ _).cell 5, (Blk.new w _ _).cell 6⟩
    simp only [evC] at hW
    rw [hW]
    clear hW
    go_wp2_with (first | (go_at_call_of 41 (Value.int .u8 97); refine (has_a HK hk8 pa _).mono ?_; rintro en w2 ⟨rfl, hK2⟩; have kw := kw.trans hK2; have q1 := hK2.cell q1; have q2 := hK2.cell q2; have q3 := hK2.cell q3; have q4 := hK2.cell q4; have q5 := hK2.cell q5; have q6 := hK2.cell q6) | (go_at_call_of 41 (Value.int .u8 98); refine (has_b HK hk8 pb _).mono ?_; rintro en w2 ⟨rfl, hK2⟩; have kw := kw.trans hK2; have q1 := hK2.cell q1; have q2 := hK2.cell q2; have q3 := hK2.cell q3; have q4 := hK2.cell q4; have q5 := hK2.cell q5; have q6 := hK2.cell q6) | (go_at_call_of 41 (Value.int .u8 99); refine (has_c HK hk8 pc _).mono ?_; rintro en w2 ⟨rfl, hK2⟩; have kw := kw.trans hK2; have q1 := hK2.cell q1; have q2 := hK2.cell q2; have q3 := hK2.cell q3; have q4 := hK2.cell q4; have q5 := hK2.cell q5; have q6 := hK2.cell q6) | (go_at_call_of 41 (Value.int .u8 100); refine (has_d HK hk8 pd _).mono ?_; rintro en w2 ⟨rfl, hK2⟩; have kw := kw.trans hK2; have q1 := hK2.cell q1; have q2 := hK2.cell q2; have q3 := hK2.cell q3; have q4 := hK2.cell q4; have q5 := hK2.cell q5; have q6 := hK2.cell q6) | (go_at_call_of 41 (Value.int .u8 115); refine (has_s HK hk8 ps _).mono ?_; rintro en w2 ⟨rfl, hK2⟩; have kw := kw.trans hK2; have q1 := hK2.cell q1; have q2 := hK2.cell q2; have q3 := hK2.cell q3; have q4 := hK2.cell q4; have q5 := hK2.cell q5; have q6 := hK2.cell q6) | (go_at_call_of 41 (Value.int .u8 120); refine (has_x HK hk8 px _).mono ?_; rintro en w2 ⟨rfl, hK2⟩; have kw := kw.trans hK2; have q1 := hK2.cell q1; have q2 := hK2.cell q2; have q3 := hK2.cell q3; have q4 := hK2.cell q4; have q5 := hK2.cell q5; have q6 := hK2.cell q6))
    go_ret
    exact ⟨by rw [H.out]; rfl, kw⟩
  have ys : ((e.src : Int) == 0) = true := by rw [zs]; rfl
  by_cases zx : e.bytes = []
  rotate_left
  · have H := Lib.hid (show plainP e = false by rw [HP.out, decide_eq_false]; intro h; exact zx h.2)
    have yx : ((e.bytes.length : Int) == 0) = false := by rw [beq_eq_false_iff_ne]; have := List.length_pos_iff.2 zx; omega
    clear zs zx
    go_enter Tryz.func12, Tryz.ntmps12
    go_wp2_with fail
    obtain ⟨W, hW, kw, q1, q2, q3, q4, q5, q6⟩ : ∃ W, w.alloc (.cells (evC e (.slice A e.bytes.length c)) 27) = W ∧ Kp w W ∧ W.cell? ⟨w.heap.size, 1, none⟩ = some (.int .i64 e.a) ∧ W.cell? ⟨w.heap.size, 2, none⟩ = some (.int .i64 e.b) ∧ W.cell? ⟨w.heap.size, 3, none⟩ = some (.int .i64 e.c) ∧ W.cell? ⟨w.heap.size, 4, none⟩ = some (.int .i64 e.draw) ∧ W.cell? ⟨w.heap.size, 5, none⟩ = some (.int .u32 (e.src : Int)) ∧ W.cell? ⟨w.heap.size, 6, none⟩ = some (.slice A e.bytes.length c) := ⟨_, rfl, (Kp.refl w).alloc _, (Blk.new w _ _).cell 1, (Blk.new w _ _).cell 2, (Blk.new w _ _).cell 3, (Blk.new w _ _).cell 4, (Blk.new w _ _).cell 5, (Blk.new w _ _).cell 6⟩
    simp only [evC] at hW
    rw [hW]
    clear hW
    go_wp2_with (first | (go_at_call_of 41 (Value.int .u8 97); refine (has_a HK hk8 pa _).mono ?_; rintro en w2 ⟨rfl, hK2⟩; have kw := kw.trans hK2; have q1 := hK2.cell q1; have q2 := hK2.cell q2; have q3 := hK2.cell q3; have q4 := hK2.cell q4; have q5 := hK2.cell q5; have q6 := hK2.cell q6) | (go_at_call_of 41 (Value.int .u8 98); refine (has_b HK hk8 pb _).mono ?_; rintro en w2 ⟨rfl, hK2⟩; have kw := kw.trans hK2; have q1 := hK2.cell q1; have q2 := hK2.cell q2; have q3 := hK2.cell q3; have q4 := hK2.cell q4; have q5 := hK2.cell q5; have q6 := hK2.cell q6) | (go_at_call_of 41 (Value.int .u8 99); refine (has_c HK hk8 pc _).mono ?_; rintro en w2 ⟨rfl, hK2⟩; have kw := kw.trans hK2; have q1 := hK2.cell q1; have q2 := hK2.cell q2; have q3 := hK2.cell q3; have q4 := hK2.cell q4; have q5 := hK2.cell q5; have q6 := hK2.cell q6) | (go_at_call_of 41 (Value.int .u8 100); refine (has_d HK hk8 pd _).mono ?_; rintro en w2 ⟨rfl, hK2⟩; have kw := kw.trans hK2; have q1 := hK2.cell q1; have q2 := hK2.cell q2; have q3 := hK2.cell q3; have q4 := hK2.cell q4; have q5 := hK2.cell q5; have q6 := hK2.cell q6) | (go_at_call_of 41 (Value.int .u8 115); refine (has_s HK hk8 ps _).mono ?_; rintro en w2 ⟨rfl, hK2⟩; have kw := kw.trans hK2; have q1 := hK2.cell q1; have q2 := hK2.cell q2; have q3 := hK2.cell q3; have q4 := hK2.cell q4; have q5 := hK2.cell q5; have q6 := hK2.cell q6) | (go_at_call_of 41 (Value.int .u8 120); refine (has_x HK hk8 px _).mono ?_; rintro en w2 ⟨rfl, hK2⟩; have kw := kw.trans hK2; have q1 := hK2.cell q1; have q2 := hK2.cell q2; have q3 := hK2.cell q3; have q4 := hK2.cell q4; have q5 := hK2.cell q5; have q6 := hK2.cell q6))
    go_ret
    exact ⟨by rw [H.out]; rfl, kw⟩
  have yx : ((e.bytes.length : Int) == 0) = true := by rw [zx]; rfl
  have H := Lib.hid (show plainP e = true by rw [HP.out, decide_eq_true_iff]; exact ⟨zs, zx⟩)
  clear zs zx
  go_enter Tryz.func12, Tryz.ntmps12
  go_wp2_with fail
  obtain ⟨W, hW, kw, q1, q2, q3, q4, q5, q6⟩ : ∃ W, w.alloc (.cells (evC e (.slice A e.bytes.length c)) 27) = W ∧ Kp w W ∧ W.cell? ⟨w.heap.size, 1, none⟩ = some (.int .i64 e.a) ∧ W.cell? ⟨w.heap.size, 2, none⟩ = some (.int .i64 e.b) ∧ W.cell? ⟨w.heap.size, 3, none⟩ = some (.int .i64 e.c) ∧ W.cell? ⟨w.heap.size, 4, none⟩ = some (.int .i64 e.draw) ∧ W.cell? ⟨w.heap.size, 5, none⟩ = some (.int .u32 (e.src : Int)) ∧ W.cell? ⟨w.heap.size, 6, none⟩ = some (.slice A e.bytes.length c) := ⟨_, rfl, (Kp.refl w).alloc _, (Blk.new w _ _).cell 1, (Blk.new w _ _).cell 2, (Blk.new w _ _).cell 3, (Blk.new w _ _).cell 4, (Blk.new w _ _).cell 5, (Blk.new w _ _).cell 6⟩
  simp only [evC] at hW
  rw [hW]
  clear hW
  go_wp2_with (first | (go_at_call_of 41 (Value.int .u8 97); refine (has_a HK hk8 pa _).mono ?_; rintro en w2 ⟨rfl, hK2⟩; have kw := kw.trans hK2; have q1 := hK2.cell q1; have q2 := hK2.cell q2; have q3 := hK2.cell q3; have q4 := hK2.cell q4; have q5 := hK2.cell q5; have q6 := hK2.cell q6) | (go_at_call_of 41 (Value.int .u8 98); refine (has_b HK hk8 pb _).mono ?_; rintro en w2 ⟨rfl, hK2⟩; have kw := kw.trans hK2; have q1 := hK2.cell q1; have q2 := hK2.cell q2; have q3 := hK2.cell q3; have q4 := hK2.cell q4; have q5 := hK2.cell q5; have q6 := hK2.cell q6) | (go_at_call_of 41 (Value.int .u8 99); refine (has_c HK hk8 pc _).mono ?_; rintro en w2 ⟨rfl, hK2⟩; have kw := kw.trans hK2; have q1 := hK2.cell q1; have q2 := hK2.cell q2; have q3 := hK2.cell q3; have q4 := hK2.cell q4; have q5 := hK2.cell q5; have q6 := hK2.cell q6) | (go_at_call_of 41 (Value.int .u8 100); refine (has_d HK hk8 pd _).mono ?_; rintro en w2 ⟨rfl, hK2⟩; have kw := kw.trans hK2; have q1 := hK2.cell q1; have q2 := hK2.cell q2; have q3 := hK2.cell q3; have q4 := hK2.cell q4; have q5 := hK2.cell q5; have q6 := hK2.cell q6) | (go_at_call_of 41 (Value.int .u8 115); refine (has_s HK hk8 ps _).mono ?_; rintro en w2 ⟨rfl, hK2⟩; have kw := kw.trans hK2; have q1 := hK2.cell q1; have q2 := hK2.cell q2; have q3 := hK2.cell q3; have q4 := hK2.cell q4; have q5 := hK2.cell q5; have q6 := hK2.cell q6) | (go_at_call_of 41 (Value.int .u8 120); refine (has_x HK hk8 px _).mono ?_; rintro en w2 ⟨rfl, hK2⟩; have kw := kw.trans hK2; have q1 := hK2.cell q1; have q2 := hK2.cell q2; have q3 := hK2.cell q3; have q4 := hK2.cell q4; have q5 := hK2.cell q5; have q6 := hK2.cell q6))
  go_ret
  exact ⟨by rw [H.out]; rfl, kw⟩
set_option maxRecDepth 100000 in
set_option maxHeartbeats 4000000 in
theorem rplain_abdsx (e : Ev) (A : Option Addr) (c k : Nat) (w : World) (hk : e.kind = (k : Int)) (hc : k = 8) (h3 : e.c = 0 ∨ e.c = 1) (h4 : e.bytes.length ≤ 600) :
    Calls Tryz.prog 12 #[evV e (.slice A e.bytes.length c)] w fun en w' => en = .returned (.bool (plainP e)) ∧ Kp w w' := by
  have hk8 : k ≤ 8 := by omega
  have pa := Lib.hid (show decide (Pt.a ∈ partsOf k) = true by rcases hc with rfl <;> decide)
  have pb := Lib.hid (show decide (Pt.b ∈ partsOf k) = true by rcases hc with rfl <;> decide)
  have pc := Lib.hid (show decide (Pt.c ∈ partsOf k) = false by rcases hc with rfl <;> decide)
  have pd := Lib.hid (show decide (Pt.d ∈ partsOf k) = true by rcases hc with rfl <;> decide)
  have ps := Lib.hid (show decide (Pt.s ∈ partsOf k) = true by rcases hc with rfl <;> decide)
  have px := Lib.hid (show decide (Pt.x ∈ partsOf k) = true by rcases hc with rfl <;> decide)
  have HP := Lib.hid (show plainP e = decide (e.c = 0) by
    obtain ⟨kd, ea, eb, ec, ed, es, ex⟩ := e
    simp only at hk h3 h4 ⊢
    subst hk
    rw [Bool.eq_iff_iff, decide_eq_true_iff]
    rcases hc with rfl <;> simp only [plainP, partsOf, List.foldl_cons, List.foldl_nil, putE, ev0, Bool.and_eq_true, decide_eq_true_eq, Ev.mk.injEq, Int.toNat_natCast, true_and, and_true] <;> grind)
  have g1 : decide (e.kind < 1) = false := decide_eq_false (by omega)
  have g2 : decide ((8 : Int) < e.kind) = false := decide_eq_false (by omega)
  have g3 : decide (e.c < 0) = false := decide_eq_false (by omega)
  have g4 : decide ((1 : Int) < e.c) = false := decide_eq_false (by omega)
  have g5 : decide ((600 : Int) < (e.bytes.length : Int)) = false := decide_eq_false (by omega)
  clear h3 h4 hc
  have HK := Lib.hid hk
  clear hk
  by_cases zc : e.c = 0
  rotate_left
  · have H := Lib.hid (show plainP e = false by rw [HP.out, decide_eq_false]; intro h; exact zc h)
    have yc : (e.c == 0) = false := by rw [beq_eq_false_iff_ne]; exact zc
    clear zc
    go_enter Tryz.func12, Tryz.ntmps12
    go_wp2_with fail
    obtain ⟨W, hW, kw, q1, q2, q3, q4, q5, q6⟩ : ∃ W, w.alloc (.cells (evC e (.slice A e.bytes.length c)) 27) = W ∧ Kp w W ∧ W.cell? ⟨w.heap.size, 1, none⟩ = some (.int .i64 e.a) ∧ W.cell? ⟨w.heap.size, 2, none⟩ = some (.int .i64 e.b) ∧ W.cell? ⟨w.heap.size, 3, none⟩ = some (.int .i64 e.c) ∧ W.cell? ⟨w.heap.size, 4, none⟩ = some (.int .i64 e.draw) ∧ W.cell? ⟨w.heap.size, 5, none⟩ = some (.int .u32 (e.src : Int)) ∧ W.cell? ⟨w.heap.size, 6, none⟩ = some (.slice A e.bytes.length c) := ⟨_, rfl, (Kp.refl w).alloc _, (Blk.new w _ _).cell 1, (Blk.new w _ _).cell 2, (Blk.new w _ _).cell 3, (Blk.new w _ _).cell 4, (Blk.new w _ _).cell 5, (Blk.new w _ _).cell 6⟩
    simp only [evC] at hW
    rw [hW]
    clear hW
    go_wp2_with (first | (go_at_call_of 41 (Value.int .u8 97); refine (has_a HK hk8 pa _).mono ?_; rintro en w2 ⟨rfl, hK2⟩; have kw := kw.trans hK2; have q1 := hK2.cell q1; have q2 := hK2.cell q2; have q3 := hK2.cell q3; have q4 := hK2.cell q4; have q5 := hK2.cell q5; have q6 := hK2.cell q6) | (go_at_call_of 41 (Value.int .u8 98); refine (has_b HK hk8 pb _).mono ?_; rintro en w2 ⟨rfl, hK2⟩; have kw := kw.trans hK2; have q1 := hK2.cell q1; have q2 := hK2.cell q2; have q3 := hK2.cell q3; have q4 := hK2.cell q4; have q5 := hK2.cell q5; have q6 := hK2.cell q6) | (go_at_call_of 41 (Value.int .u8 99); refine (has_c HK hk8 pc _).mono ?_; rintro en w2 ⟨rfl, hK2⟩; have kw := kw.trans hK2; have q1 := hK2.cell q1; have q2 := hK2.cell q2; have q3 := hK2.cell q3; have q4 := hK2.cell q4; have q5 := hK2.cell q5; have q6 := hK2.cell q6) | (go_at_call_of 41 (Value.int .u8 100); refine (has_d HK hk8 pd _).mono ?_; rintro en w2 ⟨rfl, hK2⟩; have kw := kw.trans hK2; have q1 := hK2.cell q1; have q2 := hK2.cell q2; have q3 := hK2.cell q3; have q4 := hK2.cell q4; have q5 := hK2.cell q5; have q6 := hK2.cell q6) | (go_at_call_of 41 (Value.int .u8 115); refine (has_s HK hk8 ps _).mono ?_; rintro en w2 ⟨rfl, hK2⟩; have kw := kw.trans hK2; have q1 := hK2.cell q1; have q2 := hK2.cell q2; have q3 := hK2.cell q3; have q4 := hK2.cell q4; have q5 := hK2.cell q5; have q6 := hK2.cell q6) | (go_at_call_of 41 (Value.int .u8 120); refine (has_x HK hk8 px _).mono ?_; rintro en w2 ⟨rfl, hK2⟩; have kw := kw.trans hK2; have q1 := hK2.cell q1; have q2 := hK2.cell q2; have q3 := hK2.cell q3; have q4 := hK2.cell q4; have q5 := hK2.cell q5; have q6 := hK2.cell q6))
    go_ret
    exact ⟨by rw [H.out]; rfl, kw⟩
  have yc : (e.c == 0) = true := by rw [zc]; rfl
  have H := Lib.hid (show plainP e = true by rw [HP.out, decide_eq_true_iff]; exact zc)
  clear zc
  go_enter Tryz.func12, Tryz.ntmps12
  go_wp2_with fail
  obtain ⟨W, hW, kw, q1, q2, q3, q4, q5, q6⟩ : ∃ W, w.alloc (.cells (evC e (.slice A e.bytes.length c)) 27) = W ∧ Kp w W ∧ W.cell? ⟨w.heap.size, 1, none⟩ = some (.int .i64 e.a) ∧ W.cell? ⟨w.heap.size, 2, none⟩ = some (.int .i64 e.b) ∧ W.cell? ⟨w.heap.size, 3, none⟩ = some (.int .i64 e.c) ∧ W.cell? ⟨w.heap.size, 4, none⟩ = some (.int .i64 e.draw) ∧ W.cell? ⟨w.heap.size, 5, none⟩ = some (.int .u32 (e.src : Int)) ∧ W.cell? ⟨w.heap.size, 6, none⟩ = some (.slice A e.bytes.length c) := ⟨_, rfl, (Kp.refl w).alloc _, (Blk.new w _ _).cell 1, (Blk.new w _ _).cell 2, (Blk.new w _ _).cell 3, (Blk.new w _ _).cell 4, (Blk.new w _ _).cell 5, (Blk.new w _ _).cell 6⟩
  simp only [evC] at hW
  rw [hW]
  clear hW
  go_wp2_with (first | (go_at_call_of 41 (Value.int .u8 97); refine (has_a HK hk8 pa _).mono ?_; rintro en w2 ⟨rfl, hK2⟩; have kw := kw.trans hK2; have q1 := hK2.cell q1; have q2 := hK2.cell q2; have q3 := hK2.cell q3; have q4 := hK2.cell q4; have q5 := hK2.cell q5; have q6 := hK2.cell q6) | (go_at_call_of 41 (Value.int .u8 98); refine (has_b HK hk8 pb _).mono ?_; rintro en w2 ⟨rfl, hK2⟩; have kw := kw.trans hK2; have q1 := hK2.cell q1; have q2 := hK2.cell q2; have q3 := hK2.cell q3; have q4 := hK2.cell q4; have q5 := hK2.cell q5; have q6 := hK2.cell q6) | (go_at_call_of 41 (Value.int .u8 99); refine (has_c HK hk8 pc _).mono ?_; rintro en w2 ⟨rfl, hK2⟩; have kw := kw.trans hK2; have q1 := hK2.cell q1; have q2 := hK2.cell q2; have q3 := hK2.cell q3; have q4 := hK2.cell q4; have q5 := hK2.cell q5; have q6 := hK2.cell q6) | (go_at_call_of 41 (Value.int .u8 100); refine (has_d HK hk8 pd _).mono ?_; rintro en w2 ⟨rfl, hK2⟩; have kw := kw.trans hK2; have q1 := hK2.cell q1; have q2 := hK2.cell q2; have q3 := hK2.cell q3; have q4 := hK2.cell q4; have q5 := hK2.cell q5; have q6 := hK2.cell q6) | (go_at_call_of 41 (Value.int .u8 115); refine (has_s HK hk8 ps _).mono ?_; rintro en w2 ⟨rfl, hK2⟩; have kw := kw.trans hK2; have q1 := hK2.cell q1; have q2 := hK2.cell q2; have q3 := hK2.cell q3; have q4 := hK2.cell q4; have q5 := hK2.cell q5; have q6 := hK2.cell q6) | (go_at_call_of 41 (Value.int .u8 120); refine (has_x HK hk8 px _).mono ?_; rintro en w2 ⟨rfl, hK2⟩; have kw := kw.trans hK2; have q1 := hK2.cell q1; have q2 := hK2.cell q2; have q3 := hK2.cell q3; have q4 := hK2.cell q4; have q5 := hK2.cell q5; have q6 := hK2.cell q6))
  go_ret
  exact ⟨by rw [H.out]; rfl, kw⟩
theorem rplain_any (e : Ev) (A : Option Addr) (c : Nat) (w : World) : Calls Tryz.prog 12 #[evV e (.slice A e.bytes.length c)] w fun en w' => en = .returned (.bool (plainP e)) ∧ Kp w w' := by
  by_cases h : ¬ (1 ≤ e.kind ∧ e.kind ≤ 8) ∨ ¬ (e.c = 0 ∨ e.c = 1) ∨ ¬ e.bytes.length ≤ 600
  · exact rplain_bad e _ A c rfl w h
  · simp only [not_or, Decidable.not_not] at h
    obtain ⟨hk, h3, h4⟩ := h
    replace h3 : e.c = 0 ∨ e.c = 1 := by omega
    obtain ⟨k, hkk⟩ : ∃ k : Nat, e.kind = (k : Int) := ⟨e.kind.toNat, by omega⟩
    have : k = 1 ∨ k = 2 ∨ k = 3 ∨ k = 4 ∨ k = 5 ∨ k = 6 ∨ k = 7 ∨ k = 8 := by omega
    rcases this with h | h | h | h | h | h | h | h
    · exact rplain_d e A c k w hkk h h3 h4
    · exact rplain_ad e A c k w hkk (.inl h) h3 h4
    · exact rplain_ad e A c k w hkk (.inr (.inl h)) h3 h4
    · exact rplain_a e A c k w hkk h h3 h4
    · exact rplain_ac e A c k w hkk h h3 h4
    · exact rplain_abcd e A c k w hkk h h3 h4
    · exact rplain_ad e A c k w hkk (.inr (.inr h)) h3 h4
    · exact rplain_abdsx e A c k w hkk h h3 h4
end Go.Proofs.YtbfimimhgdkpaaaGreatDoor

/- Layer 26: num, works. No condition but the library's variables. -/
namespace Go.Proofs.YtbfimimhgdkpaaaGreatDoor
open Go.RowKit

theorem num26_any (n : Int) (w : World) : Calls Tryz.prog 13 #[.int .i64 n] w fun e w' => e = .returned (.int .i64 n) ∧ w = w' := by
  go_enter Tryz.func13, Tryz.ntmps13
  go_wp2_with fail
  go_ret
  exact ⟨rfl, rfl⟩
theorem plain_1 : plainP ⟨1, 0, 0, 0, -3, 0, []⟩ = true := by decide +kernel
theorem text_1 : textE ⟨1, 0, 0, 0, -3, 0, []⟩ = [116, 105, 99, 107, 32, 45, 51] := by decide +kernel
theorem plain_2 : plainP ⟨5, 1, 0, 1, 0, 0, []⟩ = true := by decide +kernel
theorem text_2 : textE ⟨5, 1, 0, 1, 0, 0, []⟩ = [99, 117, 116, 32, 49, 32, 117, 112] := by decide +kernel
theorem plain_3 : plainP ⟨8, 0, 2, 0, 5, 167772418, [2, 10]⟩ = true := by decide +kernel
theorem text_3 : textE ⟨8, 0, 2, 0, 5, 167772418, [2, 10]⟩ = [98, 121, 116, 101, 115, 32, 48, 32, 50, 32, 49, 48, 46, 48, 46, 49, 46, 50, 32, 48, 50, 48, 97, 32, 53] := by decide +kernel
theorem parse_1 : parseE [116, 105, 99, 107, 32, 48, 51] = none := by decide +kernel
theorem parse_2 : parseE [116, 105, 99, 107] = none := by decide +kernel
theorem parse_3 : parseE [99, 117, 116, 32, 49, 32, 111, 110] = none := by decide +kernel
theorem read_1 : refReadE [116, 105, 99, 107, 32, 48, 10, 109, 97, 105, 108, 32, 48, 32, 48] = ([], 1, 260) := by decide +kernel
theorem wtext_1 (w : World) (L : LibOk w) : Calls Tryz.prog 11 #[.agg #[.int .i64 1, .int .i64 0, .int .i64 0, .int .i64 0, .int .i64 (-3), .int .u32 0, .slice none 0 0]] w fun en w' => en = .returned (.tuple #[.string ⟨#[116, 105, 99, 107, 32, 45, 51]⟩, .int .i64 0]) ∧ Kp w w' := by
  have h := text_any ⟨1, 0, 0, 0, -3, 0, []⟩ none 0 w L ⟨by decide, by decide, by decide, by decide, by decide, by decide, by decide⟩ (by decide) (by decide) (Rd.nil _ _ _ _) (by decide)
  rw [if_pos plain_1, text_1] at h
  exact h
theorem wtext_2 (w : World) (L : LibOk w) : Calls Tryz.prog 11 #[.agg #[.int .i64 5, .int .i64 1, .int .i64 0, .int .i64 1, .int .i64 0, .int .u32 0, .slice none 0 0]] w fun en w' => en = .returned (.tuple #[.string ⟨#[99, 117, 116, 32, 49, 32, 117, 112]⟩, .int .i64 0]) ∧ Kp w w' := by
  have h := text_any ⟨5, 1, 0, 1, 0, 0, []⟩ none 0 w L ⟨by decide, by decide, by decide, by decide, by decide, by decide, by decide⟩ (by decide) (by decide) (Rd.nil _ _ _ _) (by decide)
  rw [if_pos plain_2, text_2] at h
  exact h
theorem wtext_3 (w : World) (L : LibOk w) (g : Nat) (hB : Blk w g 5 #[.int .u8 2, .int .u8 10]) : Calls Tryz.prog 11 #[.agg #[.int .i64 8, .int .i64 0, .int .i64 2, .int .i64 0, .int .i64 5, .int .u32 167772418, .slice (some ⟨g, 0, none⟩) 2 2]] w fun en w' => en = .returned (.tuple #[.string ⟨#[98, 121, 116, 101, 115, 32, 48, 32, 50, 32, 49, 48, 46, 48, 46, 49, 46, 50, 32, 48, 50, 48, 97, 32, 53]⟩, .int .i64 0]) ∧ Kp w w' := by
  have hR : Rd w 1 byteE (some ⟨g, 0, none⟩) [2, 10] := Rd.of_blk hB (by decide) byteE_len (by simp [maxLen]) (by rfl)
  have h := text_any ⟨8, 0, 2, 0, 5, 167772418, [2, 10]⟩ (some ⟨g, 0, none⟩) 2 w L ⟨by decide, by decide, by decide, by decide, by decide, by decide, by decide⟩ (by decide) (by decide) hR (by decide)
  rw [if_pos plain_3, text_3] at h
  exact h
theorem wparse_1 (w : World) (L : LibOk w) : Calls Tryz.prog 14 #[.string ⟨#[116, 105, 99, 107, 32, 48, 51]⟩] w fun en w' => en = .returned (.tuple #[.agg #[.int .i64 0, .int .i64 0, .int .i64 0, .int .i64 0, .int .i64 0, .int .u32 0, .slice none 0 0], .int .i64 260]) ∧ Kp w w' := by
  refine (parse_any ⟨#[116, 105, 99, 107, 32, 48, 51]⟩ (by decide) w L).mono ?_
  rintro en w' ⟨hK, _, hN⟩
  exact ⟨hN parse_1, hK⟩
theorem wparse_2 (w : World) (L : LibOk w) : Calls Tryz.prog 14 #[.string ⟨#[116, 105, 99, 107]⟩] w fun en w' => en = .returned (.tuple #[.agg #[.int .i64 0, .int .i64 0, .int .i64 0, .int .i64 0, .int .i64 0, .int .u32 0, .slice none 0 0], .int .i64 260]) ∧ Kp w w' := by
  refine (parse_any ⟨#[116, 105, 99, 107]⟩ (by decide) w L).mono ?_
  rintro en w' ⟨hK, _, hN⟩
  exact ⟨hN parse_2, hK⟩
theorem wparse_3 (w : World) (L : LibOk w) : Calls Tryz.prog 14 #[.string ⟨#[99, 117, 116, 32, 49, 32, 111, 110]⟩] w fun en w' => en = .returned (.tuple #[.agg #[.int .i64 0, .int .i64 0, .int .i64 0, .int .i64 0, .int .i64 0, .int .u32 0, .slice none 0 0], .int .i64 260]) ∧ Kp w w' := by
  refine (parse_any ⟨#[99, 117, 116, 32, 49, 32, 111, 110]⟩ (by decide) w L).mono ?_
  rintro en w' ⟨hK, _, hN⟩
  exact ⟨hN parse_3, hK⟩
theorem wread_1 (w : World) (L : LibOk w) : Calls Tryz.prog 26 #[.string ⟨#[116, 105, 99, 107, 32, 48, 10, 109, 97, 105, 108, 32, 48, 32, 48]⟩] w fun en w' => (∃ A c, en = .returned (.tuple #[.slice A 0 c, .int .i64 1, .int .i64 260])) ∧ Kp w w' := by
  refine (read_any ⟨#[116, 105, 99, 107, 32, 48, 10, 109, 97, 105, 108, 32, 48, 32, 48]⟩ (by decide) w L).mono ?_
  rintro en w' ⟨hK, A, c, e, _⟩
  have h : refReadE (⟨#[116, 105, 99, 107, 32, 48, 10, 109, 97, 105, 108, 32, 48, 32, 48]⟩ : ByteArray).data.toList = ([], 1, 260) := read_1
  rw [h] at e
  exact ⟨⟨A, c, e⟩, hK⟩
set_option maxRecDepth 100000 in
set_option maxHeartbeats 4000000 in
theorem works26_any (w : World) (L : LibOk w) : Calls Tryz.prog 10 #[] w fun e w' => e = .returned (.bool true) ∧ Kp w w' := by
  have HL := Lib.hid L; clear L
  go_enter Tryz.func10, Tryz.ntmps10
  go_wp2_with fail
  refine (wtext_1 _ HL.out).mono ?_
  rintro e w1 ⟨rfl, K1⟩
  go_wp2_with fail
  refine (wtext_2 _ (HL.out.keep K1)).mono ?_
  rintro e w2 ⟨rfl, K2⟩
  replace K2 := K1.trans K2
  clear K1
  go_wp2_with fail
  have B3 := Blk.new w2 5 #[.int .u8 2, .int .u8 10]
  have K3 : Kp w (w2.alloc (.cells #[.int .u8 2, .int .u8 10] 5)) := K2.alloc _
  refine (wtext_3 _ (HL.out.keep K3) _ B3).mono ?_
  rintro e w3 ⟨rfl, K4⟩
  replace K4 := K3.trans K4
  clear K3 B3 K2
  go_wp2_with fail
  refine (wparse_1 _ (HL.out.keep K4)).mono ?_
  rintro e w4 ⟨rfl, K5⟩
  replace K5 := K4.trans K5
  clear K4
  go_wp2_with fail
  obtain ⟨W5, hW5, k5⟩ : ∃ W5, w4.alloc (.cells #[.int .i64 0, .int .i64 0, .int .i64 0, .int .i64 0, .int .i64 0, .int .u32 0, .slice none 0 0] 27) = W5 ∧ Kp w W5 := ⟨_, rfl, K5.alloc _⟩
  rw [hW5]
  clear hW5 K5
  refine (wparse_2 _ (HL.out.keep k5)).mono ?_
  rintro e w6 ⟨rfl, K6⟩
  replace K6 := k5.trans K6
  clear k5
  go_wp2_with fail
  obtain ⟨W7, hW7, k7⟩ : ∃ W7, w6.alloc (.cells #[.int .i64 0, .int .i64 0, .int .i64 0, .int .i64 0, .int .i64 0, .int .u32 0, .slice none 0 0] 27) = W7 ∧ Kp w W7 := ⟨_, rfl, K6.alloc _⟩
  rw [hW7]
  clear hW7 K6
  refine (wparse_3 _ (HL.out.keep k7)).mono ?_
  rintro e w8 ⟨rfl, K8⟩
  replace K8 := k7.trans K8
  clear k7
  go_wp2_with fail
  obtain ⟨W9, hW9, k9⟩ : ∃ W9, w8.alloc (.cells #[.int .i64 0, .int .i64 0, .int .i64 0, .int .i64 0, .int .i64 0, .int .u32 0, .slice none 0 0] 27) = W9 ∧ Kp w W9 := ⟨_, rfl, K8.alloc _⟩
  rw [hW9]
  clear hW9 K8
  refine (wread_1 _ (HL.out.keep k9)).mono ?_
  rintro e w10 ⟨⟨A, c, rfl⟩, K10⟩
  replace K10 := k9.trans K10
  clear k9
  go_wp2_with (first | (go_at_call 13; refine (num26_any _ _).mono ?_; rintro e w' ⟨rfl, rfl⟩))
  go_ret
  exact ⟨rfl, K10⟩
end Go.Proofs.YtbfimimhgdkpaaaGreatDoor

/- Layer 26: ScriptTexts and ScriptParses, walked. No condition but the library's variables and what the types hold. -/
namespace Go.Proofs.YtbfimimhgdkpaaaGreatDoor
open Go.RowKit

theorem plainP_c {e : Ev} (h : plainP e = true) : e.c = 0 ∨ e.c = 1 := by
  simp only [plainP, Bool.and_eq_true, decide_eq_true_eq] at h
  exact h.2.2.1
set_option maxRecDepth 100000 in
set_option maxHeartbeats 4000000 in
theorem texts_walk (e : Ev) (A : Option Addr) (c : Nat) (w : World) (L : LibOk w) (ok : EvOk e) (h0 : -9223372036854775808 ≤ e.kind) (h1 : e.kind ≤ 9223372036854775807) (hA : Rd w 1 byteE A e.bytes) :
    Calls Tryz.prog 3 #[evV e (.slice A e.bytes.length c)] w fun en w' => en = .returned (.bool true) ∧ Kp w w' := by
  have HL := Lib.hid L
  have HA := Lib.hid hA
  have kb : Kp w (w.alloc (.cells (evC e (.slice A e.bytes.length c)) 27)) := (Kp.refl w).alloc _
  have bb := Blk.new w 27 (evC e (.slice A e.bytes.length c))
  clear L hA
  by_cases hlong : 700 < e.bytes.length
  · have hd : decide ((700 : Int) < (e.bytes.length : Int)) = true := by rw [decide_eq_true_iff]; omega
    have hd2 : decide (700 < e.bytes.length) = true := by rw [decide_eq_true_iff]; exact hlong
    have hi : (700 : Int) < (e.bytes.length : Int) := by omega
    go_enter Tryz.func3, Tryz.ntmps3
    go_wp2_with fail
    obtain ⟨W, hW, kW⟩ : ∃ W, w.alloc (.cells (evC e (.slice A e.bytes.length c)) 27) = W ∧ Kp w W := ⟨_, rfl, kb⟩
    simp only [evC] at hW
    rw [hW]
    clear hW kb bb
    refine (works26_any W (HL.out.keep kW)).mono ?_
    rintro en w' ⟨rfl, hK⟩
    go_wp2_with fail
    go_ret
    exact ⟨rfl, kW.trans hK⟩
  · have hd : decide ((700 : Int) < (e.bytes.length : Int)) = false := by rw [decide_eq_false_iff_not]; omega
    have hd2 : decide (700 < e.bytes.length) = false := by rw [decide_eq_false_iff_not]; exact hlong
    have hi : ¬ (700 : Int) < (e.bytes.length : Int) := by omega
    have hi2 : (e.bytes.length : Int) ≤ 700 := by omega
    have hl : e.bytes.length ≤ 1000000 := by omega
    cases hp : plainP e with
    | false =>
      go_enter Tryz.func3, Tryz.ntmps3
      go_wp2_with fail
      obtain ⟨W, hW, kW, BW⟩ : ∃ W, w.alloc (.cells (evC e (.slice A e.bytes.length c)) 27) = W ∧ Kp w W ∧ Blk W w.heap.size 27 (evC e (.slice A e.bytes.length c)) := ⟨_, rfl, kb, bb⟩
      simp only [evC] at hW
      rw [hW]
      clear hW kb bb
      refine (text_any e A c W (HL.out.keep kW) ok h0 h1 (HA.out.keep kW) hl).mono ?_
      rintro en w1 ⟨rfl, K1⟩
      rw [if_neg (by rw [hp]; simp)]
      have BW := BW.keep K1
      replace kW := kW.trans K1
      have q0 : w1.cell? ⟨w.heap.size, 0, none⟩ = some (.int .i64 e.kind) := BW.cell 0
      have q1 : w1.cell? ⟨w.heap.size, 1, none⟩ = some (.int .i64 e.a) := BW.cell 1
      have q2 : w1.cell? ⟨w.heap.size, 2, none⟩ = some (.int .i64 e.b) := BW.cell 2
      have q3 : w1.cell? ⟨w.heap.size, 3, none⟩ = some (.int .i64 e.c) := BW.cell 3
      have q4 : w1.cell? ⟨w.heap.size, 4, none⟩ = some (.int .i64 e.draw) := BW.cell 4
      have q5 : w1.cell? ⟨w.heap.size, 5, none⟩ = some (.int .u32 (e.src : Int)) := BW.cell 5
      have q6 : w1.cell? ⟨w.heap.size, 6, none⟩ = some (.slice A e.bytes.length c) := BW.cell 6
      clear K1
      go_wp2_with fail
      refine (rplain_any e A c w1).mono ?_
      rintro en w2 ⟨rfl, K2⟩
      rw [hp]
      replace kW := kW.trans K2
      go_wp2_with (first | (go_at_call 13; refine (num26_any _ _).mono ?_; rintro en w' ⟨rfl, rfl⟩) | (go_at_call 10; refine (works26_any _ (HL.out.keep kW)).mono ?_; rintro en w3 ⟨rfl, K3⟩))
      go_ret
      exact ⟨rfl, kW.trans K3⟩
    | true =>
      obtain ⟨p1, p8, p6⟩ := plainP_parts hp
      obtain ⟨k, hk⟩ : ∃ k : Nat, e.kind = (k : Int) := ⟨e.kind.toNat, by omega⟩
      have hsh := textE_short ok p6 hk (by omega)
      have Hpt := Lib.hid (parse_text hp ok)
      have Hc := Lib.hid (plainP_c hp)
      have Hk := Lib.hid hk
      obtain ⟨S, hS⟩ : ∃ S, strB (textE e) = S := ⟨_, rfl⟩
      have hSs : S.size ≤ 1000000 := by rw [← hS]; show (textE e).toArray.size ≤ _; simp; omega
      have HS := Lib.hid hS
      clear hS hk hsh
      go_enter Tryz.func3, Tryz.ntmps3
      go_wp2_with fail
      obtain ⟨W, hW, kW, BW⟩ : ∃ W, w.alloc (.cells (evC e (.slice A e.bytes.length c)) 27) = W ∧ Kp w W ∧ Blk W w.heap.size 27 (evC e (.slice A e.bytes.length c)) := ⟨_, rfl, kb, bb⟩
      simp only [evC] at hW
      rw [hW]
      clear hW kb bb
      refine (text_any e A c W (HL.out.keep kW) ok h0 h1 (HA.out.keep kW) hl).mono ?_
      rintro en w1 ⟨rfl, K1⟩
      rw [if_pos hp, HS.out]
      have BW := BW.keep K1
      replace kW := kW.trans K1
      have q0 : w1.cell? ⟨w.heap.size, 0, none⟩ = some (.int .i64 e.kind) := BW.cell 0
      have q1 : w1.cell? ⟨w.heap.size, 1, none⟩ = some (.int .i64 e.a) := BW.cell 1
      have q2 : w1.cell? ⟨w.heap.size, 2, none⟩ = some (.int .i64 e.b) := BW.cell 2
      have q3 : w1.cell? ⟨w.heap.size, 3, none⟩ = some (.int .i64 e.c) := BW.cell 3
      have q4 : w1.cell? ⟨w.heap.size, 4, none⟩ = some (.int .i64 e.draw) := BW.cell 4
      have q5 : w1.cell? ⟨w.heap.size, 5, none⟩ = some (.int .u32 (e.src : Int)) := BW.cell 5
      have q6 : w1.cell? ⟨w.heap.size, 6, none⟩ = some (.slice A e.bytes.length c) := BW.cell 6
      clear K1
      go_wp2_with fail
      refine (rplain_any e A c w1).mono ?_
      rintro en w2 ⟨rfl, K2⟩
      rw [hp]
      have BW := BW.keep K2
      replace kW := kW.trans K2
      clear q0 q1 q2 q3 q4 q5 q6 K2
      go_wp2_with fail
      refine (parse_any S hSs w2 (HL.out.keep kW)).mono ?_
      rintro en w3 ⟨K3, hY, _⟩
      obtain ⟨A3, c3, rfl, hR3⟩ := hY e (by rw [← HS.out, strB_list]; exact Hpt.out)
      clear hY
      have BW := BW.keep K3
      replace kW := kW.trans K3
      have HR3 := Lib.hid hR3
      clear hR3 K3
      have al := fun o => (Kp.refl w3).alloc o
      have hwn := BW.lt
      have r0 : ∀ o, (w3.alloc o).cell? ⟨w.heap.size, 0, none⟩ = some (.int .i64 e.kind) := fun o => (al o).cell (BW.cell 0)
      have r1 : ∀ o, (w3.alloc o).cell? ⟨w.heap.size, 1, none⟩ = some (.int .i64 e.a) := fun o => (al o).cell (BW.cell 1)
      have r2 : ∀ o, (w3.alloc o).cell? ⟨w.heap.size, 2, none⟩ = some (.int .i64 e.b) := fun o => (al o).cell (BW.cell 2)
      have r3 : ∀ o, (w3.alloc o).cell? ⟨w.heap.size, 3, none⟩ = some (.int .i64 e.c) := fun o => (al o).cell (BW.cell 3)
      have r4 : ∀ o, (w3.alloc o).cell? ⟨w.heap.size, 4, none⟩ = some (.int .i64 e.draw) := fun o => (al o).cell (BW.cell 4)
      have r5 : ∀ o, (w3.alloc o).cell? ⟨w.heap.size, 5, none⟩ = some (.int .u32 (e.src : Int)) := fun o => (al o).cell (BW.cell 5)
      have r6 : ∀ o, (w3.alloc o).cell? ⟨w.heap.size, 6, none⟩ = some (.slice A e.bytes.length c) := fun o => (al o).cell (BW.cell 6)
      have B5 := Blk.new w3 27 (evC e (.slice A3 e.bytes.length c3))
      clear al
      go_wp2_with fail
      obtain ⟨W5, hW5, k5⟩ : ∃ W5, w3.alloc (.cells (evC e (.slice A3 e.bytes.length c3)) 27) = W5 ∧ Kp w3 W5 := ⟨_, rfl, (Kp.refl _).alloc _⟩
      rw [hW5] at B5
      simp only [evC] at hW5
      rw [hW5]
      clear hW5 r0 r1 r2 r3 r4 r5 r6
      have BW := BW.keep k5
      replace kW := kW.trans k5
      replace HR3 := Lib.hid (HR3.out.keep k5)
      clear k5
      refine (rtext_any e A c k Hk.out (by have := Hk.out; omega) (by have := Hk.out; omega) W5 (HL.out.keep kW) ok (HA.out.keep kW) p6 Hc.out).mono ?_
      rintro en w6 ⟨rfl, K6⟩
      rw [HS.out]
      have BW := BW.keep K6
      have B5 := B5.keep K6
      replace kW := kW.trans K6
      replace HR3 := Lib.hid (HR3.out.keep K6)
      clear K6
      have q0 : w6.cell? ⟨w.heap.size, 0, none⟩ = some (.int .i64 e.kind) := BW.cell 0
      have q1 : w6.cell? ⟨w.heap.size, 1, none⟩ = some (.int .i64 e.a) := BW.cell 1
      have q2 : w6.cell? ⟨w.heap.size, 2, none⟩ = some (.int .i64 e.b) := BW.cell 2
      have q3 : w6.cell? ⟨w.heap.size, 3, none⟩ = some (.int .i64 e.c) := BW.cell 3
      have q4 : w6.cell? ⟨w.heap.size, 4, none⟩ = some (.int .i64 e.draw) := BW.cell 4
      have q5 : w6.cell? ⟨w.heap.size, 5, none⟩ = some (.int .u32 (e.src : Int)) := BW.cell 5
      have q6 : w6.cell? ⟨w.heap.size, 6, none⟩ = some (.slice A e.bytes.length c) := BW.cell 6
      have s0 : w6.cell? ⟨w3.heap.size, 0, none⟩ = some (.int .i64 e.kind) := B5.cell 0
      have s1 : w6.cell? ⟨w3.heap.size, 1, none⟩ = some (.int .i64 e.a) := B5.cell 1
      have s2 : w6.cell? ⟨w3.heap.size, 2, none⟩ = some (.int .i64 e.b) := B5.cell 2
      have s3 : w6.cell? ⟨w3.heap.size, 3, none⟩ = some (.int .i64 e.c) := B5.cell 3
      have s4 : w6.cell? ⟨w3.heap.size, 4, none⟩ = some (.int .i64 e.draw) := B5.cell 4
      have s5 : w6.cell? ⟨w3.heap.size, 5, none⟩ = some (.int .u32 (e.src : Int)) := B5.cell 5
      have s6 : w6.cell? ⟨w3.heap.size, 6, none⟩ = some (.slice A3 e.bytes.length c3) := B5.cell 6
      go_wp2_with (first | (go_at_call 13; refine (num26_any _ _).mono ?_; rintro en w' ⟨rfl, rfl⟩))
      refine (rsame_any e e A3 A c3 c w6 HR3.out (HA.out.keep kW)).mono ?_
      rintro en w7 ⟨rfl, K7⟩
      rw [show decide (e = e) = true by simp]
      have BW := BW.keep K7
      have B5 := B5.keep K7
      replace kW := kW.trans K7
      replace HR3 := Lib.hid (HR3.out.keep K7)
      replace q0 := K7.cell q0
      replace q1 := K7.cell q1
      replace q2 := K7.cell q2
      replace q3 := K7.cell q3
      replace q4 := K7.cell q4
      replace q5 := K7.cell q5
      replace q6 := K7.cell q6
      replace s0 := K7.cell s0
      replace s1 := K7.cell s1
      replace s2 := K7.cell s2
      replace s3 := K7.cell s3
      replace s4 := K7.cell s4
      replace s5 := K7.cell s5
      replace s6 := K7.cell s6
      clear K7
      go_wp2_with fail
      refine (same_any e e A3 A c3 c w7 HR3.out (HA.out.keep kW)).mono ?_
      rintro en w8 ⟨rfl, K8⟩
      rw [show decide (e = e) = true by simp]
      replace kW := kW.trans K8
      clear q0 q1 q2 q3 q4 q5 q6 s0 s1 s2 s3 s4 s5 s6 K8
      go_wp2_with (first | (go_at_call 10; refine (works26_any _ (HL.out.keep kW)).mono ?_; rintro en w9 ⟨rfl, K9⟩))
      go_ret
      exact ⟨rfl, kW.trans K9⟩
set_option maxRecDepth 100000 in
set_option maxHeartbeats 4000000 in
theorem parses_walk (s : ByteArray) (w : World) (L : LibOk w) : Calls Tryz.prog 4 #[.string s] w fun en w' => en = .returned (.bool true) ∧ Kp w w' := by
  have HL := Lib.hid L
  clear L
  by_cases hlong : 1300 < s.size
  · have hi : (1300 : Int) < (s.size : Int) := by omega
    go_enter Tryz.func4, Tryz.ntmps4
    go_wp2_with fail
    refine (works26_any w HL.out).mono ?_
    rintro en w' ⟨rfl, hK⟩
    go_wp2_with fail
    go_ret
    exact ⟨rfl, hK⟩
  · have hi : (s.size : Int) ≤ 1300 := by omega
    have hs2 : s.size ≤ 1000000 := by omega
    cases hp : parseE s.data.toList with
    | none =>
      have Hp := Lib.hid hp
      clear hp
      go_enter Tryz.func4, Tryz.ntmps4
      go_wp2_with fail
      refine (parse_any s hs2 w HL.out).mono ?_
      rintro en w1 ⟨K1, _, hN⟩
      obtain rfl := hN Hp.out
      clear hN
      go_wp2_with fail
      obtain ⟨W2, hW2, k2, B2⟩ : ∃ W2, w1.alloc (.cells (evC (ev0 0) (.slice none 0 0)) 27) = W2 ∧ Kp w1 W2 ∧ Blk W2 w1.heap.size 27 (evC (ev0 0) (.slice none 0 0)) := ⟨_, rfl, (Kp.refl _).alloc _, Blk.new _ _ _⟩
      simp only [evC] at hW2
      rw [hW2]
      clear hW2
      refine (rparse_any s hs2 W2).mono ?_
      rintro en w3 ⟨K3, _, hN⟩
      obtain rfl := hN Hp.out
      clear hN
      have B3 := B2.keep K3
      have al := fun o => (Kp.refl w3).alloc o
      have hlt3 := B3.lt
      have r0 : ∀ o, (w3.alloc o).cell? ⟨w1.heap.size, 0, none⟩ = some (.int .i64 (ev0 0).kind) := fun o => (al o).cell (B3.cell 0)
      have r1 : ∀ o, (w3.alloc o).cell? ⟨w1.heap.size, 1, none⟩ = some (.int .i64 (ev0 0).a) := fun o => (al o).cell (B3.cell 1)
      have r2 : ∀ o, (w3.alloc o).cell? ⟨w1.heap.size, 2, none⟩ = some (.int .i64 (ev0 0).b) := fun o => (al o).cell (B3.cell 2)
      have r3 : ∀ o, (w3.alloc o).cell? ⟨w1.heap.size, 3, none⟩ = some (.int .i64 (ev0 0).c) := fun o => (al o).cell (B3.cell 3)
      have r4 : ∀ o, (w3.alloc o).cell? ⟨w1.heap.size, 4, none⟩ = some (.int .i64 (ev0 0).draw) := fun o => (al o).cell (B3.cell 4)
      have r5 : ∀ o, (w3.alloc o).cell? ⟨w1.heap.size, 5, none⟩ = some (.int .u32 ((ev0 0).src : Int)) := fun o => (al o).cell (B3.cell 5)
      have r6 : ∀ o, (w3.alloc o).cell? ⟨w1.heap.size, 6, none⟩ = some (.slice none 0 0) := fun o => (al o).cell (B3.cell 6)
      clear al
      go_wp2_with fail
      obtain ⟨W5, hW5, k5⟩ : ∃ W5, w3.alloc (.cells (evC (ev0 0) (.slice none 0 0)) 27) = W5 ∧ Kp w3 W5 := ⟨_, rfl, (Kp.refl _).alloc _⟩
      simp only [evC] at hW5
      rw [hW5]
      clear hW5 r0 r1 r2 r3 r4 r5 r6
      have kW : Kp w W5 := ((K1.trans k2).trans K3).trans k5
      refine (rsame_any (ev0 0) (ev0 0) none none 0 0 W5 (Rd.nil _ _ _ _) (Rd.nil _ _ _ _)).mono ?_
      rintro en w6 ⟨rfl, K6⟩
      rw [show decide (ev0 0 = ev0 0) = true by simp]
      replace kW := kW.trans K6
      clear K1 k2 K3 k5 K6
      go_wp2_with (first | (go_at_call 13; refine (num26_any _ _).mono ?_; rintro en w' ⟨rfl, rfl⟩) | (go_at_call 10; refine (works26_any _ (HL.out.keep kW)).mono ?_; rintro en w9 ⟨rfl, K9⟩))
      go_ret
      exact ⟨rfl, kW.trans K9⟩
    | some t =>
      obtain ⟨hpl, ok, htx⟩ := parse_sound hp
      obtain ⟨p1, p8, p6⟩ := plainP_parts hpl
      have Hp := Lib.hid hp
      have hts : strB (textE t) = s := by rw [htx]
      have Hts := Lib.hid hts
      clear hp htx hts
      go_enter Tryz.func4, Tryz.ntmps4
      go_wp2_with fail
      refine (parse_any s hs2 w HL.out).mono ?_
      rintro en w1 ⟨K1, hY, _⟩
      obtain ⟨A1, c1, rfl, hR1⟩ := hY t Hp.out
      clear hY
      go_wp2_with fail
      obtain ⟨W2, hW2, k2, B2⟩ : ∃ W2, w1.alloc (.cells (evC t (.slice A1 t.bytes.length c1)) 27) = W2 ∧ Kp w1 W2 ∧ Blk W2 w1.heap.size 27 (evC t (.slice A1 t.bytes.length c1)) := ⟨_, rfl, (Kp.refl _).alloc _, Blk.new _ _ _⟩
      simp only [evC] at hW2
      rw [hW2]
      clear hW2
      refine (rparse_any s hs2 W2).mono ?_
      rintro en w3 ⟨K3, hY, _⟩
      obtain ⟨A3, c3, rfl, hR3⟩ := hY t Hp.out
      clear hY
      have B3 := B2.keep K3
      have al := fun o => (Kp.refl w3).alloc o
      have hlt3 := B3.lt
      have r0 : ∀ o, (w3.alloc o).cell? ⟨w1.heap.size, 0, none⟩ = some (.int .i64 t.kind) := fun o => (al o).cell (B3.cell 0)
      have r1 : ∀ o, (w3.alloc o).cell? ⟨w1.heap.size, 1, none⟩ = some (.int .i64 t.a) := fun o => (al o).cell (B3.cell 1)
      have r2 : ∀ o, (w3.alloc o).cell? ⟨w1.heap.size, 2, none⟩ = some (.int .i64 t.b) := fun o => (al o).cell (B3.cell 2)
      have r3 : ∀ o, (w3.alloc o).cell? ⟨w1.heap.size, 3, none⟩ = some (.int .i64 t.c) := fun o => (al o).cell (B3.cell 3)
      have r4 : ∀ o, (w3.alloc o).cell? ⟨w1.heap.size, 4, none⟩ = some (.int .i64 t.draw) := fun o => (al o).cell (B3.cell 4)
      have r5 : ∀ o, (w3.alloc o).cell? ⟨w1.heap.size, 5, none⟩ = some (.int .u32 (t.src : Int)) := fun o => (al o).cell (B3.cell 5)
      have r6 : ∀ o, (w3.alloc o).cell? ⟨w1.heap.size, 6, none⟩ = some (.slice A1 t.bytes.length c1) := fun o => (al o).cell (B3.cell 6)
      have HR1 := Lib.hid ((hR1.keep k2).keep K3)
      have HR3 := Lib.hid hR3
      clear al hR1 hR3
      go_wp2_with fail
      obtain ⟨W5, hW5, k5⟩ : ∃ W5, w3.alloc (.cells (evC t (.slice A3 t.bytes.length c3)) 27) = W5 ∧ Kp w3 W5 := ⟨_, rfl, (Kp.refl _).alloc _⟩
      simp only [evC] at hW5
      rw [hW5]
      clear hW5 r0 r1 r2 r3 r4 r5 r6
      have kW : Kp w W5 := ((K1.trans k2).trans K3).trans k5
      refine (rsame_any t t A1 A3 c1 c3 W5 (HR1.out.keep k5) (HR3.out.keep k5)).mono ?_
      rintro en w6 ⟨rfl, K6⟩
      rw [show decide (t = t) = true by simp]
      replace kW := kW.trans K6
      have B6 := (B3.keep k5).keep K6
      have HR6 := Lib.hid ((HR1.out.keep k5).keep K6)
      have q0 : w6.cell? ⟨w1.heap.size, 0, none⟩ = some (.int .i64 t.kind) := B6.cell 0
      have q1 : w6.cell? ⟨w1.heap.size, 1, none⟩ = some (.int .i64 t.a) := B6.cell 1
      have q2 : w6.cell? ⟨w1.heap.size, 2, none⟩ = some (.int .i64 t.b) := B6.cell 2
      have q3 : w6.cell? ⟨w1.heap.size, 3, none⟩ = some (.int .i64 t.c) := B6.cell 3
      have q4 : w6.cell? ⟨w1.heap.size, 4, none⟩ = some (.int .i64 t.draw) := B6.cell 4
      have q5 : w6.cell? ⟨w1.heap.size, 5, none⟩ = some (.int .u32 (t.src : Int)) := B6.cell 5
      have q6 : w6.cell? ⟨w1.heap.size, 6, none⟩ = some (.slice A1 t.bytes.length c1) := B6.cell 6
      clear K1 k2 K3 k5 K6 B2 B3 HR1 HR3
      go_wp2_with (first | (go_at_call 13; refine (num26_any _ _).mono ?_; rintro en w' ⟨rfl, rfl⟩))
      refine (text_any t A1 c1 w6 (HL.out.keep kW) ok (by omega) (by omega) HR6.out (by omega)).mono ?_
      rintro en w7 ⟨rfl, K7⟩
      rw [if_pos hpl, Hts.out]
      replace kW := kW.trans K7
      clear q0 q1 q2 q3 q4 q5 q6 K7
      go_wp2_with (first | (go_at_call 13; refine (num26_any _ _).mono ?_; rintro en w' ⟨rfl, rfl⟩) | (go_at_call 10; refine (works26_any _ (HL.out.keep kW)).mono ?_; rintro en w9 ⟨rfl, K9⟩))
      go_ret
      exact ⟨rfl, kW.trans K9⟩
end Go.Proofs.YtbfimimhgdkpaaaGreatDoor

namespace Go.Proofs.YtbfimimhgdkpaaaGreatDoor
open Go Go.ChangeMaps Go.ChangeShapes Go.WideShapes Go.ChangeAt Go.RowKit Go.Joins Go.Deep

set_option maxRecDepth 100000 in
theorem scriptParses_lifted (os : Os) (started : os.Started) (H : Type) (enc : TypeId × Value → H) :
    ReturnsInHanded {} Tryz.checked os 4 .any (fun w args => (Rows.scriptParsesSpec.pre enc Tryz.prog Tryz.f4 [] false w args ∧ laidMetH Tryz.prog libLaid w) ∧ sizedMet enc Tryz.prog Tryz.f4 (OpenSpec.ofChange Rows.scriptParsesSpec) false w args)
      (Rows.scriptParsesSpec.post enc Tryz.prog Tryz.f4 false true false false) := by
  refine returnsInHanded_of_change_and (C := Tryz.checked) (X := fun w _ => laidMetH Tryz.prog libLaid w) (fun _ _ _ hh h => h.of_heap hh) Tryz.own started (by kernel_rfl) Tryz.func4
    (ChangeSpec.witness_shaped (enc := enc) (C := Tryz.checked) (os := os) (X := fun w _ => laidMetH Tryz.prog libLaid w) false (World.doorLaid Tryz.prog 400 os) #[.string ⟨#[]⟩] 8 rfl (World.shaped_of_RefB (by kernel_rfl) (by kernel_rfl)) (by kernel_rfl) (by kernel_rfl) (by kernel_rfl) (door_met os _)) ?_
  intro W base args ds gs before hval0 hW _ _ hL _
  have hval : ∀ (j : Nat) t v, Tryz.f4.params[j]? = some t → args[j]? = some v → Value.okWide Tryz.prog W .any base t v := hval0
  have hW' := hW
  obtain ⟨p, q, hA0, hV, rfl, hfz, hnd⟩ := hW
  have hA : DataW.TrodAll enc Tryz.prog W 0 (fun _ => true) true Tryz.f4.params.toList args.toList ds p := hA0
  rw [Tryz.params4] at hA hval
  obtain ⟨v0, d0, rfl, rfl, h0⟩ := trodAll_one hA
  obtain ⟨rfl, rfl⟩ := trodVars_none hV
  obtain ⟨s0, rfl, rfl, rfl, hs0⟩ := open_string Tryz.underlying9 (hval 0 _ v0 rfl rfl) h0
  clear hA0 hval0
  refine (parses_walk s0 W (lib_of_laid hL)).mono fun e W' ⟨he, hK⟩ => ?_
  subst he
  refine ⟨_, rfl, law_post hW' rfl rfl rfl rfl rfl ?_ hK⟩
  intro t ht
  rw [Tryz.params4] at ht
  simp only [List.mem_cons, List.not_mem_nil, or_false] at ht
  subst ht
  exact ⟨by kernel_rfl, of_decide_eq_true (by kernel_rfl)⟩

theorem scriptParses_holds : Rows.ScriptParsesSaid :=
  OpenClaim.holds_of_wide 4 Tryz.f4 rfl rfl rfl rfl rfl rfl rfl ⟨rfl, rfl, rfl, rfl, rfl⟩ rfl rfl rfl rfl rfl (by kernel_rfl) Tryz.func4 (by kernel_rfl)
    (of_decide_eq_true (by kernel_rfl)) (by unfold Func.isWrapper; first | (rw [if_pos (by decide +kernel)]; kernel_rfl) | (rw [if_neg (by decide +kernel)]; exact ⟨rfl, rfl⟩))
    (fun os started H enc _ => scriptParses_lifted os started H enc)

theorem scriptParses_card_holds : Rows.ScriptParsesCardSaid :=
  Claim7.holds_tied_plain_at .later [] [.data, .data, .data, .sentinel, .sentinel] true (true, "1aea2c8cef665afaa4649297a74689a0df77dd72ec979528462e8733c892845e") true
    scriptParses_holds (fun _ h => by cases h) (by kernel_rfl) (fun _ h => by cases h) scriptParses_row_tie rfl ⟨rfl, rfl⟩ (by kernel_rfl) rfl
    (fun f fn hf hfn => by
      obtain rfl : f = 4 := Option.some.inj ((show Tryz.prog.funcNamed "waywarden/waywardenlaw26.ScriptParses" = some 4 by kernel_rfl).symm.trans hf) |>.symm
      obtain rfl : fn = Tryz.f4 := (Option.some.inj (Tryz.func4.symm.trans hfn)).symm
      exact ⟨by kernel_rfl, fun j t ht => by
        rw [Tryz.params4] at ht
        have hm : t ∈ [9] := by simpa using Array.mem_of_getElem? ht
        have hall : ([9].all fun u => !Tryz.prog.wantsStandIn u) = true := by kernel_rfl
        exact (show Tryz.prog.wantsStandIn t = false by simpa using List.all_eq_true.1 hall t hm)⟩)
    (by kernel_rfl)
end Go.Proofs.YtbfimimhgdkpaaaGreatDoor
