/- Lemmas and contracts for the theorem of this claim: ScW, SdC, SdE. -/
import Derived.Test.YtbfimimhgdkpaaaGreatDoorZfG
import Derived.Deep.RegionWith
set_option linter.unusedSimpArgs false
set_option linter.unusedVariables false
/- The reference of package script: Plain. No condition. -/
namespace Go.Proofs.YtbfimimhgdkpaaaGreatDoor
open Go.RowKit

theorem has_a {kd : Int} {k : Nat} (hkd : Hid (kd = (k : Int))) (hk : k ≤ 8) {h : Bool} (hh : Hid (decide (Pt.a ∈ partsOf k) = h)) (w : World) : Calls Tryz.prog 41 #[.int .i64 kd, .int .u8 97] w fun e w' => e = .returned (.bool h) ∧ Kp w w' := by
  have hkd := hkd.out
  have hh := hh.out
  subst hh; subst hkd; exact has_any .a k hk w
theorem has_b {kd : Int} {k : Nat} (hkd : Hid (kd = (k : Int))) (hk : k ≤ 8) {h : Bool} (hh : Hid (decide (Pt.b ∈ partsOf k) = h)) (w : World) : Calls Tryz.prog 41 #[.int .i64 kd, .int .u8 98] w fun e w' => e = .returned (.bool h) ∧ Kp w w' := by
  have hkd := hkd.out
  have hh := hh.out
  subst hh; subst hkd; exact has_any .b k hk w
theorem has_c {kd : Int} {k : Nat} (hkd : Hid (kd = (k : Int))) (hk : k ≤ 8) {h : Bool} (hh : Hid (decide (Pt.c ∈ partsOf k) = h)) (w : World) : Calls Tryz.prog 41 #[.int .i64 kd, .int .u8 99] w fun e w' => e = .returned (.bool h) ∧ Kp w w' := by
  have hkd := hkd.out
  have hh := hh.out
  subst hh; subst hkd; exact has_any .c k hk w
theorem has_d {kd : Int} {k : Nat} (hkd : Hid (kd = (k : Int))) (hk : k ≤ 8) {h : Bool} (hh : Hid (decide (Pt.d ∈ partsOf k) = h)) (w : World) : Calls Tryz.prog 41 #[.int .i64 kd, .int .u8 100] w fun e w' => e = .returned (.bool h) ∧ Kp w w' := by
  have hkd := hkd.out
  have hh := hh.out
  subst hh; subst hkd; exact has_any .d k hk w
theorem has_s {kd : Int} {k : Nat} (hkd : Hid (kd = (k : Int))) (hk : k ≤ 8) {h : Bool} (hh : Hid (decide (Pt.s ∈ partsOf k) = h)) (w : World) : Calls Tryz.prog 41 #[.int .i64 kd, .int .u8 115] w fun e w' => e = .returned (.bool h) ∧ Kp w w' := by
  have hkd := hkd.out
  have hh := hh.out
  subst hh; subst hkd; exact has_any .s k hk w
theorem has_x {kd : Int} {k : Nat} (hkd : Hid (kd = (k : Int))) (hk : k ≤ 8) {h : Bool} (hh : Hid (decide (Pt.x ∈ partsOf k) = h)) (w : World) : Calls Tryz.prog 41 #[.int .i64 kd, .int .u8 120] w fun e w' => e = .returned (.bool h) ∧ Kp w w' := by
  have hkd := hkd.out
  have hh := hh.out
  subst hh; subst hkd; exact has_any .x k hk w
theorem plain_bad {e : Ev} (h : ¬ (1 ≤ e.kind ∧ e.kind ≤ 8) ∨ ¬ (e.c = 0 ∨ e.c = 1) ∨ ¬ e.bytes.length ≤ 600) : plainP e = false := by
  simp only [plainP]
  rcases h with h | h | h
  · rw [decide_eq_false h]; rfl
  · rw [decide_eq_false h]; simp
  · rw [decide_eq_false h]; simp
set_option maxRecDepth 100000 in
set_option maxHeartbeats 1000000 in
theorem rplain_bad (e : Ev) (bv : Value) (A : Option Addr) (c : Nat) (hbv : bv = .slice A e.bytes.length c) (w : World) (h : ¬ (1 ≤ e.kind ∧ e.kind ≤ 8) ∨ ¬ (e.c = 0 ∨ e.c = 1) ∨ ¬ e.bytes.length ≤ 600) :
    Calls Tryz.prog 12 #[evV e bv] w fun en w' => en = .returned (.bool (plainP e)) ∧ Kp w w' := by
  have H := Lib.hid (plain_bad h)
  subst hbv
  by_cases h1 : e.kind < 1
  · clear h
    go_enter Tryz.func12, Tryz.ntmps12
    go_wp2_with fail
    go_ret
    exact ⟨by rw [H.out]; rfl, (Kp.refl _).alloc _⟩
  · have g1 : decide (e.kind < 1) = false := decide_eq_false h1
    by_cases h2 : 8 < e.kind
    · clear h h1
      go_enter Tryz.func12, Tryz.ntmps12
      go_wp2_with fail
      go_ret
      exact ⟨by rw [H.out]; rfl, (Kp.refl _).alloc _⟩
    · have g2 : decide ((8 : Int) < e.kind) = false := decide_eq_false h2
      by_cases h3 : e.c < 0
      · clear h h1 h2
        go_enter Tryz.func12, Tryz.ntmps12
        go_wp2_with fail
        go_ret
        exact ⟨by rw [H.out]; rfl, (Kp.refl _).alloc _⟩
      · have g3 : decide (e.c < 0) = false := decide_eq_false h3
        by_cases h4 : 1 < e.c
        · clear h h1 h2 h3
          go_enter Tryz.func12, Tryz.ntmps12
          go_wp2_with fail
          go_ret
          exact ⟨by rw [H.out]; rfl, (Kp.refl _).alloc _⟩
        · have g4 : decide ((1 : Int) < e.c) = false := decide_eq_false h4
          have g5 : (600 : Int) < (e.bytes.length : Int) := by omega
          clear h h1 h2 h3 h4
          go_enter Tryz.func12, Tryz.ntmps12
          go_wp2_with fail
          go_ret
          exact ⟨by rw [H.out]; rfl, (Kp.refl _).alloc _⟩
set_option maxRecDepth 100000 in
set_option maxHeartbeats 4000000 in
theorem rplain_d (e : Ev) (A : Option Addr) (c k : Nat) (w : World) (hk : e.kind = (k : Int)) (hc : k = 1) (h3 : e.c = 0 ∨ e.c = 1) (h4 : e.bytes.length ≤ 600) :
    Calls Tryz.prog 12 #[evV e (.slice A e.bytes.length c)] w fun en w' => en = .returned (.bool (plainP e)) ∧ Kp w w' := by
  have hk8 : k ≤ 8 := by omega
  have pa := Lib.hid (show decide (Pt.a ∈ partsOf k) = false by rcases hc with rfl <;> decide)
  have pb := Lib.hid (show decide (Pt.b ∈ partsOf k) = false by rcases hc with rfl <;> decide)
  have pc := Lib.hid (show decide (Pt.c ∈ partsOf k) = false by rcases hc with rfl <;> decide)
  have pd := Lib.hid (show decide (Pt.d ∈ partsOf k) = true by rcases hc with rfl <;> decide)
  have ps := Lib.hid (show decide (Pt.s ∈ partsOf k) = false by rcases hc with rfl <;> decide)
  have px := Lib.hid (show decide (Pt.x ∈ partsOf k) = false by rcases hc with rfl <;> decide)
  have HP := Lib.hid (show plainP e = decide (e.a = 0 ∧ e.b = 0 ∧ e.c = 0 ∧ e.src = 0 ∧ e.bytes = []) by
    obtain ⟨kd, ea, eb, ec, ed, es, ex⟩ := e
    simp only at hk h3 h4 ⊢
    subst hk
    rw [Bool.eq_iff_iff, decide_eq_true_iff]
    rcases hc with rfl <;> simp only [plainP, partsOf, List.foldl_cons, List.foldl_nil, putE, ev0, Bool.and_eq_true, decide_eq_true_eq, Ev.mk.injEq, Int.toNat_natCast, true_and, and_true] <;> grind)
  have g1 : decide (e.kind < 1) = false := decide_eq_false (by omega)
  have g2 : decide ((8 : Int) < e.kind) = false := decide_eq_false (by omega)
  have g3 : decide (e.c < 0) = false := decide_eq_false (by omega)
  have g4 : decide ((1 : Int) < e.c) = false := decide_eq_false (by omega)
  have g5 : decide ((600 : Int) < (e.bytes.length : Int)) = false := decide_eq_false (by omega)
  clear h3 h4 hc
  have HK := Lib.hid hk
  clear hk
  by_cases za : e.a = 0
  rotate_left
  · have H := Lib.hid (show plainP e = false by rw [HP.out, decide_eq_false]; intro h; exact za h.1)
    have ya : (e.a == 0) = false := by rw [beq_eq_false_iff_ne]; exact za
    clear za
    go_enter Tryz.func12, Tryz.ntmps12
    go_wp2_with fail
    obtain ⟨W, hW, kw, q1, q2, q3, q4, q5, q6⟩ : ∃ W, w.alloc (.cells (evC e (.slice A e.bytes.length c)) 27) = W ∧ Kp w W ∧ W.cell? ⟨w.heap.size, 1, none⟩ = some (.int .i64 e.a) ∧ W.cell? ⟨w.heap.size, 2, none⟩ = some (.int .i64 e.b) ∧ W.cell? ⟨w.heap.size, 3, none⟩ = some (.int .i64 e.c) ∧ W.cell? ⟨w.heap.size, 4, none⟩ = some (.int .i64 e.draw) ∧ W.cell? ⟨w.heap.size, 5, none⟩ = some (.int .u32 (e.src : Int)) ∧ W.cell? ⟨w.heap.size, 6, none⟩ = some (.slice A e.bytes.length c) := ⟨_, rfl, (Kp.refl w).alloc _, (Blk.new w _ _).cell 1, (Blk.new w _ _).cell 2, (Blk.new w _ _).cell 3, (Blk.new w _ _).cell 4, (Blk.new w _ _).cell 5, (Blk.new w _ _).cell 6⟩
    simp only [evC] at hW
    rw [hW]
    clear hW
    go_wp2_with (first | (go_at_call_of 41 (Value.int .u8 97); refine (has_a HK hk8 pa _).mono ?_; rintro en w2 ⟨rfl, hK2⟩; have kw := kw.trans hK2; have q1 := hK2.cell q1; have q2 := hK2.cell q2; have q3 := hK2.cell q3; have q4 := hK2.cell q4; have q5 := hK2.cell q5; have q6 := hK2.cell q6) | (go_at_call_of 41 (Value.int .u8 98); refine (has_b HK hk8 pb _).mono ?_; rintro en w2 ⟨rfl, hK2⟩; have kw := kw.trans hK2; have q1 := hK2.cell q1; have q2 := hK2.cell q2; have q3 := hK2.cell q3; have q4 := hK2.cell q4; have q5 := hK2.cell q5; have q6 := hK2.cell q6) | (go_at_call_of 41 (Value.int .u8 99); refine (has_c HK hk8 pc _).mono ?_; rintro en w2 ⟨rfl, hK2⟩; have kw := kw.trans hK2; have q1 := hK2.cell q1; have q2 := hK2.cell q2; have q3 := hK2.cell q3; have q4 := hK2.cell q4; have q5 := hK2.cell q5; have q6 := hK2.cell q6) | (go_at_call_of 41 (Value.int .u8 100); refine (has_d HK hk8 pd _).mono ?_; rintro en w2 ⟨rfl, hK2⟩; have kw := kw.trans hK2; have q1 := hK2.cell q1; have q2 := hK2.cell q2; have q3 := hK2.cell q3; have q4 := hK2.cell q4; have q5 := hK2.cell q5; have q6 := hK2.cell q6) | (go_at_call_of 41 (Value.int .u8 115); refine (has_s HK hk8 ps _).mono ?_; rintro en w2 ⟨rfl, hK2⟩; have kw := kw.trans hK2; have q1 := hK2.cell q1; have q2 := hK2.cell q2; have q3 := hK2.cell q3; have q4 := hK2.cell q4; have q5 := hK2.cell q5; have q6 := hK2.cell q6) | (go_at_call_of 41 (Value.int .u8 120); refine (has_x HK hk8 px _).mono ?_; rintro en w2 ⟨rfl, hK2⟩; have kw := kw.trans hK2; have q1 := hK2.cell q1; have q2 := hK2.cell q2; have q3 := hK2.cell q3; have q4 := hK2.cell q4; have q5 := hK2.cell q5; have q6 := hK2.cell q6))
    go_ret
    exact ⟨by rw [H.out]; rfl, kw⟩
  have ya : (e.a == 0) = true := by rw [za]; rfl
  by_cases zb : e.b = 0
  rotate_left
  · have H := Lib.hid (show plainP e = false by rw [HP.out, decide_eq_false]; intro h; exact zb h.2.1)
    have yb : (e.b == 0) = false := by rw [beq_eq_false_iff_ne]; exact zb
    clear za zb
    go_enter Tryz.func12, Tryz.ntmps12
    go_wp2_with fail
    obtain ⟨W, hW, kw, q1, q2, q3, q4, q5, q6⟩ : ∃ W, w.alloc (.cells (evC e (.slice A e.bytes.length c)) 27) = W ∧ Kp w W ∧ W.cell? ⟨w.heap.size, 1, none⟩ = some (.int .i64 e.a) ∧ W.cell? ⟨w.heap.size, 2, none⟩ = some (.int .i64 e.b) ∧ W.cell? ⟨w.heap.size, 3, none⟩ = some (.int .i64 e.c) ∧ W.cell? ⟨w.heap.size, 4, none⟩ = some (.int .i64 e.draw) ∧ W.cell? ⟨w.heap.size, 5, none⟩ = some (.int .u32 (e.src : Int)) ∧ W.cell? ⟨w.heap.size, 6, none⟩ = some (.slice A e.bytes.length c) := ⟨_, rfl, (Kp.refl w).alloc _, (Blk.new w _ _).cell 1, (Blk.new w _ _).cell 2, (Blk.new w _ _).cell 3, (Blk.new w _ _).cell 4, (Blk.new w _ _).cell 5, (Blk.new w _ _).cell 6⟩
    simp only [evC] at hW
    rw [hW]
    clear hW
    go_wp2_with (first | (go_at_call_of 41 (Value.int .u8 97); refine (has_a HK hk8 pa _).mono ?_; rintro en w2 ⟨rfl, hK2⟩; have kw := kw.trans hK2; have q1 := hK2.cell q1; have q2 := hK2.cell q2; have q3 := hK2.cell q3; have q4 := hK2.cell q4; have q5 := hK2.cell q5; have q6 := hK2.cell q6) | (go_at_call_of 41 (Value.int .u8 98); refine (has_b HK hk8 pb _).mono ?_; rintro en w2 ⟨rfl, hK2⟩; have kw := kw.trans hK2; have q1 := hK2.cell q1; have q2 := hK2.cell q2; have q3 := hK2.cell q3; have q4 := hK2.cell q4; have q5 := hK2.cell q5; have q6 := hK2.cell q6) | (go_at_call_of 41 (Value.int .u8 99); refine (has_c HK hk8 pc _).mono ?_; rintro en w2 ⟨rfl, hK2⟩; have kw := kw.trans hK2; have q1 := hK2.cell q1; have q2 := hK2.cell q2; have q3 := hK2.cell q3; have q4 := hK2.cell q4; have q5 := hK2.cell q5; have q6 := hK2.cell q6) | (go_at_call_of 41 (Value.int .u8 100); refine (has_d HK hk8 pd _).mono ?_; rintro en w2 ⟨rfl, hK2⟩; have kw := kw.trans hK2; have q1 := hK2.cell q1; have q2 := hK2.cell q2; have q3 := hK2.cell q3; have q4 := hK2.cell q4; have q5 := hK2.cell q5; have q6 := hK2.cell q6) | (go_at_call_of 41 (Value.int .u8 115); refine (has_s HK hk8 ps _).mono ?_; rintro en w2 ⟨rfl, hK2⟩; have kw := kw.trans hK2; have q1 := hK2.cell q1; have q2 := hK2.cell q2; have q3 := hK2.cell q3; have q4 := hK2.cell q4; have q5 := hK2.cell q5; have q6 := hK2.cell q6) | (go_at_call_of 41 (Value.int .u8 120); refine (has_x HK hk8 px _).mono ?_; rintro en w2 ⟨rfl, hK2⟩; have kw := kw.trans hK2; have q1 := hK2.cell q1; have q2 := hK2.cell q2; have q3 := hK2.cell q3; have q4 := hK2.cell q4; have q5 := hK2.cell q5; have q6 := hK2.cell q6))
    go_ret
    exact ⟨by rw [H.out]; rfl, kw⟩
  have yb : (e.b == 0) = true := by rw [zb]; rfl
  by_cases zc : e.c = 0
  rotate_left
  · have H := Lib.hid (show plainP e = false by rw [HP.out, decide_eq_false]; intro h; exact zc h.2.2.1)
    have yc : (e.c == 0) = false := by rw [beq_eq_false_iff_ne]; exact zc
    clear za zb zc
    go_enter Tryz.func12, Tryz.ntmps12
    go_wp2_with fail
    obtain ⟨W, hW, kw, q1, q2, q3, q4, q5, q6⟩ : ∃ W, w.alloc (.cells (evC e (.slice A e.bytes.length c)) 27) = W ∧ Kp w W ∧ W.cell? ⟨w.heap.size, 1, none⟩ = some (.int .i64 e.a) ∧ W.cell? ⟨w.heap.size, 2, none⟩ = some (.int .i64 e.b) ∧ W.cell? ⟨w.heap.size, 3, none⟩ = some (.int .i64 e.c) ∧ W.cell? ⟨w.heap.size, 4, none⟩ = some (.int .i64 e.draw) ∧ W.cell? ⟨w.heap.size, 5, none⟩ = some (.int .u32 (e.src : Int)) ∧ W.cell? ⟨w.heap.size, 6, none⟩ = some (.slice A e.bytes.length c) := ⟨_, rfl, (Kp.refl w).alloc _, (Blk.new w _ _).cell 1, (Blk.new w _ _).cell 2, (Blk.new w _ _).cell 3, (Blk.new w _ _).cell 4, (Blk.new w _ _).cell 5, (Blk.new w _ _).cell 6⟩
    simp only [evC] at hW
    rw [hW]
    clear hW
    go_wp2_with (first | (go_at_call_of 41 (Value.int .u8 97); refine (has_a HK hk8 pa _).mono ?_; rintro en w2 ⟨rfl, hK2⟩; have kw := kw.trans hK2; have q1 := hK2.cell q1; have q2 := hK2.cell q2; have q3 := hK2.cell q3; have q4 := hK2.cell q4; have q5 := hK2.cell q5; have q6 := hK2.cell q6) | (go_at_call_of 41 (Value.int .u8 98); refine (has_b HK hk8 pb _).mono ?_; rintro en w2 ⟨rfl, hK2⟩; have kw := kw.trans hK2; have q1 := hK2.cell q1; have q2 := hK2.cell q2; have q3 := hK2.cell q3; have q4 := hK2.cell q4; have q5 := hK2.cell q5; have q6 := hK2.cell q6) | (go_at_call_of 41 (Value.int .u8 99); refine (has_c HK hk8 pc _).mono ?_; rintro en w2 ⟨rfl, hK2⟩; have kw := kw.trans hK2; have q1 := hK2.cell q1; have q2 := hK2.cell q2; have q3 := hK2.cell q3; have q4 := hK2.cell q4; have q5 := hK2.cell q5; have q6 := hK2.cell q6) | (go_at_call_of 41 (Value.int .u8 100); refine (has_d HK hk8 pd _).mono ?_; rintro en w2 ⟨rfl, hK2⟩; have kw := kw.trans hK2; have q1 := hK2.cell q1; have q2 := hK2.cell q2; have q3 := hK2.cell q3; have q4 := hK2.cell q4; have q5 := hK2.cell q5; have q6 := hK2.cell q6) | (go_at_call_of 41 (Value.int .u8 115); refine (has_s HK hk8 ps _).mono ?_; rintro en w2 ⟨rfl, hK2⟩; have kw := kw.trans hK2; have q1 := hK2.cell q1; have q2 := hK2.cell q2; have q3 := hK2.cell q3; have q4 := hK2.cell q4; have q5 := hK2.cell q5; have q6 := hK2.cell q6) | (go_at_call_of 41 (Value.int .u8 120); refine (has_x HK hk8 px _).mono ?_; rintro en w2 ⟨rfl, hK2⟩; have kw := kw.trans hK2; have q1 := hK2.cell q1; have q2 := hK2.cell q2; have q3 := hK2.cell q3; have q4 := hK2.cell q4; have q5 := hK2.cell q5; have q6 := hK2.cell q6))
    go_ret
    exact ⟨by rw [H.out]; rfl, kw⟩
  have yc : (e.c == 0) = true := by rw [zc]; rfl
  by_cases zs : e.src = 0
  rotate_left
  · have H := Lib.hid (show plainP e = false by rw [HP.out, decide_eq_false]; intro h; exact zs h.2.2.2.1)
    have ys : ((e.src : Int) == 0) = false := by rw [beq_eq_false_iff_ne]; omega
    clear za zb zc zs
    go_enter Tryz.func12, Tryz.ntmps12
    go_wp2_with fail
    obtain ⟨W, hW, kw, q1, q2, q3, q4, q5, q6⟩ : ∃ W, w.alloc (.cells (evC e (.slice A e.bytes.length c)) 27) = W ∧ Kp w W ∧ W.cell? ⟨w.heap.size, 1, none⟩ = some (.int .i64 e.a) ∧ W.cell? ⟨w.heap.size, 2, none⟩ = some (.int .i64 e.b) ∧ W.cell? ⟨w.heap.size, 3, none⟩ = some (.int .i64 e.c) ∧ W.cell? ⟨w.heap.size, 4, none⟩ = some (.int .i64 e.draw) ∧ W.cell? ⟨w.heap.size, 5, none⟩ = some (.int .u32 (e.src : Int)) ∧ W.cell? ⟨w.heap.size, 6, none⟩ = some (.slice A e.bytes.length c) := ⟨_, rfl, (Kp.refl w).alloc _, (Blk.new w _ _).cell 1, (Blk.new w _ _).cell 2, (Blk.new w _ _).cell 3, (Blk.new w _ _).cell 4, (Blk.new w _ _).cell 5, (Blk.new w _ _).cell 6⟩
    simp only [evC] at hW
    rw [hW]
    clear hW
    go_wp2_with (first | (go_at_call_of 41 (Value.int .u8 97); refine (has_a HK hk8 pa _).mono ?_; rintro en w2 ⟨rfl, hK2⟩; have kw := kw.trans hK2; have q1 := hK2.cell q1; have q2 := hK2.cell q2; have q3 := hK2.cell q3; have q4 := hK2.cell q4; have q5 := hK2.cell q5; have q6 := hK2.cell q6) | (go_at_call_of 41 (Value.int .u8 98); refine (has_b HK hk8 pb _).mono ?_; rintro en w2 ⟨rfl, hK2⟩; have kw := kw.trans hK2; have q1 := hK2.cell q1; have q2 := hK2.cell q2; have q3 := hK2.cell q3; have q4 := hK2.cell q4; have q5 := hK2.cell q5; have q6 := hK2.cell q6) | (go_at_call_of 41 (Value.int .u8 99); refine (has_c HK hk8 pc _).mono ?_; rintro en w2 ⟨rfl, hK2⟩; have kw := kw.trans hK2; have q1 := hK2.cell q1; have q2 := hK2.cell q2; have q3 := hK2.cell q3; have q4 := hK2.cell q4; have q5 := hK2.cell q5; have q6 := hK2.cell q6) | (go_at_call_of 41 (Value.int .u8 100); refine (has_d HK hk8 pd _).mono ?_; rintro en w2 ⟨rfl, hK2⟩; have kw := kw.trans hK2; have q1 := hK2.cell q1; have q2 := hK2.cell q2; have q3 := hK2.cell q3; have q4 := hK2.cell q4; have q5 := hK2.cell q5; have q6 := hK2.cell q6) | (go_at_call_of 41 (Value.int .u8 115); refine (has_s HK hk8 ps _).mono ?_; rintro en w2 ⟨rfl, hK2⟩; have kw := kw.trans hK2; have q1 := hK2.cell q1; have q2 := hK2.cell q2; have q3 := hK2.cell q3; have q4 := hK2.cell q4; have q5 := hK2.cell q5; have q6 := hK2.cell q6) | (go_at_call_of 41 (Value.int .u8 120); refine (has_x HK hk8 px _).mono ?_; rintro en w2 ⟨rfl, hK2⟩; have kw := kw.trans hK2; have q1 := hK2.cell q1; have q2 := hK2.cell q2; have q3 := hK2.cell q3; have q4 := hK2.cell q4; have q5 := hK2.cell q5; have q6 := hK2.cell q6))
    go_ret
    exact ⟨by rw [H.out]; rfl, kw⟩
  have ys : ((e.src : Int) == 0) = true := by rw [zs]; rfl
  by_cases zx : e.bytes = []
  rotate_left
  · have H := Lib.hid (show plainP e = false by rw [HP.out, decide_eq_false]; intro h; exact zx h.2.2.2.2)
    have yx : ((e.bytes.length : Int) == 0) = false := by rw [beq_eq_false_iff_ne]; have := List.length_pos_iff.2 zx; omega
    clear za zb zc zs zx
    go_enter Tryz.func12, Tryz.ntmps12
    go_wp2_with fail
    obtain ⟨W, hW, kw, q1, q2, q3, q4, q5, q6⟩ : ∃ W, w.alloc (.cells (evC e (.slice A e.bytes.length c)) 27) = W ∧ Kp w W ∧ W.cell? ⟨w.heap.size, 1, none⟩ = some (.int .i64 e.a) ∧ W.cell? ⟨w.heap.size, 2, none⟩ = some (.int .i64 e.b) ∧ W.cell? ⟨w.heap.size, 3, none⟩ = some (.int .i64 e.c) ∧ W.cell? ⟨w.heap.size, 4, none⟩ = some (.int .i64 e.draw) ∧ W.cell? ⟨w.heap.size, 5, none⟩ = some (.int .u32 (e.src : Int)) ∧ W.cell? ⟨w.heap.size, 6, none⟩ = some (.slice A e.bytes.length c) := ⟨_, rfl, (Kp.refl w).alloc _, (Blk.new w _ _).cell 1, (Blk.new w _ _).cell 2, (Blk.new w _ _).cell 3, (Blk.new w _ _).cell 4, (Blk.new w _ _).cell 5, (Blk.new w _ _).cell 6⟩
    simp only [evC] at hW
    rw [hW]
    clear hW
    go_wp2_with (first | (go_at_call_of 41 (Value.int .u8 97); refine (has_a HK hk8 pa _).mono ?_; rintro en w2 ⟨rfl, hK2⟩; have kw := kw.trans hK2; have q1 := hK2.cell q1; have q2 := hK2.cell q2; have q3 := hK2.cell q3; have q4 := hK2.cell q4; have q5 := hK2.cell q5; have q6 := hK2.cell q6) | (go_at_call_of 41 (Value.int .u8 98); refine (has_b HK hk8 pb _).mono ?_; rintro en w2 ⟨rfl, hK2⟩; have kw := kw.trans hK2; have q1 := hK2.cell q1; have q2 := hK2.cell q2; have q3 := hK2.cell q3; have q4 := hK2.cell q4; have q5 := hK2.cell q5; have q6 := hK2.cell q6) | (go_at_call_of 41 (Value.int .u8 99); refine (has_c HK hk8 pc _).mono ?_; rintro en w2 ⟨rfl, hK2⟩; have kw := kw.trans hK2; have q1 := hK2.cell q1; have q2 := hK2.cell q2; have q3 := hK2.cell q3; have q4 := hK2.cell q4; have q5 := hK2.cell q5; have q6 := hK2.cell q6) | (go_at_call_of 41 (Value.int .u8 100); refine (has_d HK hk8 pd _).mono ?_; rintro en w2 ⟨rfl, hK2⟩; have kw := kw.trans hK2; have q1 := hK2.cell q1; have q2 := hK2.cell q2; have q3 := hK2.cell q3; have q4 := hK2.cell q4; have q5 := hK2.cell q5; have q6 := hK2.cell q6) | (go_at_call_of 41 (Value.int .u8 115); refine (has_s HK hk8 ps _).mono ?_; rintro en w2 ⟨rfl, hK2⟩; have kw := kw.trans hK2; have q1 := hK2.cell q1; have q2 := hK2.cell q2; have q3 := hK2.cell q3; have q4 := hK2.cell q4; have q5 := hK2.cell q5; have q6 := hK2.cell q6) | (go_at_call_of 41 (Value.int .u8 120); refine (has_x HK hk8 px _).mono ?_; rintro en w2 ⟨rfl, hK2⟩; have kw := kw.trans hK2; have q1 := hK2.cell q1; have q2 := hK2.cell q2; have q3 := hK2.cell q3; have q4 := hK2.cell q4; have q5 := hK2.cell q5; have q6 := hK2.cell q6))
    go_ret
    exact ⟨by rw [H.out]; rfl, kw⟩
  have yx : ((e.bytes.length : Int) == 0) = true := by rw [zx]; rfl
  have H := Lib.hid (show plainP e = true by rw [HP.out, decide_eq_true_iff]; exact ⟨za, zb, zc, zs, zx⟩)
  clear za zb zc zs zx
  go_enter Tryz.func12, Tryz.ntmps12
  go_wp2_with fail
  obtain ⟨W, hW, kw, q1, q2, q3, q4, q5, q6⟩ : ∃ W, w.alloc (.cells (evC e (.slice A e.bytes.length c)) 27) = W ∧ Kp w W ∧ W.cell? ⟨w.heap.size, 1, none⟩ = some (.int .i64 e.a) ∧ W.cell? ⟨w.heap.size, 2, none⟩ = some (.int .i64 e.b) ∧ W.cell? ⟨w.heap.size, 3, none⟩ = some (.int .i64 e.c) ∧ W.cell? ⟨w.heap.size, 4, none⟩ = some (.int .i64 e.draw) ∧ W.cell? ⟨w.heap.size, 5, none⟩ = some (.int .u32 (e.src : Int)) ∧ W.cell? ⟨w.heap.size, 6, none⟩ = some (.slice A e.bytes.length c) := ⟨_, rfl, (Kp.refl w).alloc _, (Blk.new w _ _).cell 1, (Blk.new w _ _).cell 2, (Blk.new w _ _).cell 3, (Blk.new w _ _).cell 4, (Blk.new w _ _).cell 5, (Blk.new w _ _).cell 6⟩
  simp only [evC] at hW
  rw [hW]
  clear hW
  go_wp2_with (first | (go_at_call_of 41 (Value.int .u8 97); refine (has_a HK hk8 pa _).mono ?_; rintro en w2 ⟨rfl, hK2⟩; have kw := kw.trans hK2; have q1 := hK2.cell q1; have q2 := hK2.cell q2; have q3 := hK2.cell q3; have q4 := hK2.cell q4; have q5 := hK2.cell q5; have q6 := hK2.cell q6) | (go_at_call_of 41 (Value.int .u8 98); refine (has_b HK hk8 pb _).mono ?_; rintro en w2 ⟨rfl, hK2⟩; have kw := kw.trans hK2; have q1 := hK2.cell q1; have q2 := hK2.cell q2; have q3 := hK2.cell q3; have q4 := hK2.cell q4; have q5 := hK2.cell q5; have q6 := hK2.cell q6) | (go_at_call_of 41 (Value.int .u8 99); refine (has_c HK hk8 pc _).mono ?_; rintro en w2 ⟨rfl, hK2⟩; have kw := kw.trans hK2; have q1 := hK2.cell q1; have q2 := hK2.cell q2; have q3 := hK2.cell q3; have q4 := hK2.cell q4; have q5 := hK2.cell q5; have q6 := hK2.cell q6) | (go_at_call_of 41 (Value.int .u8 100); refine (has_d HK hk8 pd _).mono ?_; rintro en w2 ⟨rfl, hK2⟩; have kw := kw.trans hK2; have q1 := hK2.cell q1; have q2 := hK2.cell q2; have q3 := hK2.cell q3; have q4 := hK2.cell q4; have q5 := hK2.cell q5; have q6 := hK2.cell q6) | (go_at_call_of 41 (Value.int .u8 115); refine (has_s HK hk8 ps _).mono ?_; rintro en w2 ⟨rfl, hK2⟩; have kw := kw.trans hK2; have q1 := hK2.cell q1; have q2 := hK2.cell q2; have q3 := hK2.cell q3; have q4 := hK2.cell q4; have q5 := hK2.cell q5; have q6 := hK2.cell q6) | (go_at_call_of 41 (Value.int .u8 120); refine (has_x HK hk8 px _).mono ?_; rintro en w2 ⟨rfl, hK2⟩; have kw := kw.trans hK2; have q1 := hK2.cell q1; have q2 := hK2.cell q2; have q3 := hK2.cell q3; have q4 := hK2.cell q4; have q5 := hK2.cell q5; have q6 := hK2.cell q6))
  go_ret
  exact ⟨by rw [H.out]; rfl, kw⟩
set_option maxRecDepth 100000 in
set_option maxHeartbeats 4000000 in
theorem rplain_ad (e : Ev) (A : Option Addr) (c k : Nat) (w : World) (hk : e.kind = (k : Int)) (hc : k = 2 ∨ k = 3 ∨ k = 7) (h3 : e.c = 0 ∨ e.c = 1) (h4 : e.bytes.length ≤ 600) :
    Calls Tryz.prog 12 #[evV e (.slice A e.bytes.length c)] w fun en w' => en = .returned (.bool (plainP e)) ∧ Kp w w' := by
  have hk8 : k ≤ 8 := by omega
  have pa := Lib.hid (show decide (Pt.a ∈ partsOf k) = true by rcases hc with rfl | rfl | rfl <;> decide)
  have pb := Lib.hid (show decide (Pt.b ∈ partsOf k) = false by rcases hc with rfl | rfl | rfl <;> decide)
  have pc := Lib.hid (show decide (Pt.c ∈ partsOf k) = false by rcases hc with rfl | rfl | rfl <;> decide)
  have pd := Lib.hid (show decide (Pt.d ∈ partsOf k) = true by rcases hc with rfl | rfl | rfl <;> decide)
  have ps := Lib.hid (show decide (Pt.s ∈ partsOf k) = false by rcases hc with rfl | rfl | rfl <;> decide)
  have px := Lib.hid (show decide (Pt.x ∈ partsOf k) = false by rcases hc with rfl | rfl | rfl <;> decide)
  have HP := Lib.hid (show plainP e = decide (e.b = 0 ∧ e.c = 0 ∧ e.src = 0 ∧ e.bytes = []) by
    obtain ⟨kd, ea, eb, ec, ed, es, ex⟩ := e
    simp only at hk h3 h4 ⊢
    subst hk
    rw [Bool.eq_iff_iff, decide_eq_true_iff]
    rcases hc with rfl | rfl | rfl <;> simp only [plainP, partsOf, List.foldl_cons, List.foldl_nil, putE, ev0, Bool.and_eq_true, decide_eq_true_eq, Ev.mk.injEq, Int.toNat_natCast, true_and, and_true] <;> grind)
  have g1 : decide (e.kind < 1) = false := decide_eq_false (by omega)
  have g2 : decide ((8 : Int) < e.kind) = false := decide_eq_false (by omega)
  have g3 : decide (e.c < 0) = false := decide_eq_false (by omega)
  have g4 : decide ((1 : Int) < e.c) = false := decide_eq_false (by omega)
  have g5 : decide ((600 : Int) < (e.bytes.length : Int)) = false := decide_eq_false (by omega)
  clear h3 h4 hc
  have HK := Lib.hid hk
  clear hk
  by_cases zb : e.b = 0
  rotate_left
  · have H := Lib.hid (show plainP e = false by rw [HP.out, decide_eq_false]; intro h; exact zb h.1)
    have yb : (e.b == 0) = false := by rw [beq_eq_false_iff_ne]; exact zb
    clear zb
    go_enter Tryz.func12, Tryz.ntmps12
    go_wp2_with fail
    obtain ⟨W, hW, kw, q1, q2, q3, q4, q5, q6⟩ : ∃ W, w.alloc (.cells (evC e (.slice A e.bytes.length c)) 27) = W ∧ Kp w W ∧ W.cell? ⟨w.heap.size, 1, none⟩ = some (.int .i64 e.a) ∧ W.cell? ⟨w.heap.size, 2, none⟩ = some (.int .i64 e.b) ∧ W.cell? ⟨w.heap.size, 3, none⟩ = some (.int .i64 e.c) ∧ W.cell? ⟨w.heap.size, 4, none⟩ = some (.int .i64 e.draw) ∧ W.cell? ⟨w.heap.size, 5, none⟩ = some (.int .u32 (e.src : Int)) ∧ W.cell? ⟨w.heap.size, 6, none⟩ = some (.slice A e.bytes.length c) := ⟨_, rfl, (Kp.refl w).alloc _, (Blk.new w _ _).cell 1, (Blk.new w _ _).cell 2, (Blk.new w _ _).cell 3, (Blk.new w _ _).cell 4, (Blk.new w _ _).cell 5, (Blk.new w _ _).cell 6⟩
    simp only [evC] at hW
    rw [hW]
    clear hW
    go_wp2_with (first | (go_at_call_of 41 (Value.int .u8 97); refine (has_a HK hk8 pa _).mono ?_; rintro en w2 ⟨rfl, hK2⟩; have kw := kw.trans hK2; have q1 := hK2.cell q1; have q2 := hK2.cell q2; have q3 := hK2.cell q3; have q4 := hK2.cell q4; have q5 := hK2.cell q5; have q6 := hK2.cell q6) | (go_at_call_of 41 (Value.int .u8 98); refine (has_b HK hk8 pb _).mono ?_; rintro en w2 ⟨rfl, hK2⟩; have kw := kw.trans hK2; have q1 := hK2.cell q1; have q2 := hK2.cell q2; have q3 := hK2.cell q3; have q4 := hK2.cell q4; have q5 := hK2.cell q5; have q6 := hK2.cell q6) | (go_at_call_of 41 (Value.int .u8 99); refine (has_c HK hk8 pc _).mono ?_; rintro en w2 ⟨rfl, hK2⟩; have kw := kw.trans hK2; have q1 := hK2.cell q1; have q2 := hK2.cell q2; have q3 := hK2.cell q3; have q4 := hK2.cell q4; have q5 := hK2.cell q5; have q6 := hK2.cell q6) | (go_at_call_of 41 (Value.int .u8 100); refine (has_d HK hk8 pd _).mono ?_; rintro en w2 ⟨rfl, hK2⟩; have kw := kw.trans hK2; have q1 := hK2.cell q1; have q2 := hK2.cell q2; have q3 := hK2.cell q3; have q4 := hK2.cell q4; have q5 := hK2.cell q5; have q6 := hK2.cell q6) | (go_at_call_of 41 (Value.int .u8 115); refine (has_s HK hk8 ps _).mono ?_; rintro en w2 ⟨rfl, hK2⟩; have kw := kw.trans hK2; have q1 := hK2.cell q1; have q2 := hK2.cell q2; have q3 := hK2.cell q3; have q4 := hK2.cell q4; have q5 := hK2.cell q5; have q6 := hK2.cell q6) | (go_at_call_of 41 (Value.int .u8 120); refine (has_x HK hk8 px _).mono ?_; rintro en w2 ⟨rfl, hK2⟩; have kw := kw.trans hK2; have q1 := hK2.cell q1; have q2 := hK2.cell q2; have q3 := hK2.cell q3; have q4 := hK2.cell q4; have q5 := hK2.cell q5; have q6 := hK2.cell q6))
    go_ret
    exact ⟨by rw [H.out]; rfl, kw⟩
  have yb : (e.b == 0) = true := by rw [zb]; rfl
  by_cases zc : e.c = 0
  rotate_left
  · have H := Lib.hid (show plainP e = false by rw [HP.out, decide_eq_false]; intro h; exact zc h.2.1)
    have yc : (e.c == 0) = false := by rw [beq_eq_false_iff_ne]; exact zc
    clear zb zc
    go_enter Tryz.func12, Tryz.ntmps12
    go_wp2_with fail
    obtain ⟨W, hW, kw, q1, q2, q3, q4, q5, q6⟩ : ∃ W, w.alloc (.cells (evC e (.slice A e.bytes.length c)) 27) = W ∧ Kp w W ∧ W.cell? ⟨w.heap.size, 1, none⟩ = some (.int .i64 e.a) ∧ W.cell? ⟨w.heap.size, 2, none⟩ = some (.int .i64 e.b) ∧ W.cell? ⟨w.heap.size, 3, none⟩ = some (.int .i64 e.c) ∧ W.cell? ⟨w.heap.size, 4, none⟩ = some (.int .i64 e.draw) ∧ W.cell? ⟨w.heap.size, 5, none⟩ = some (.int .u32 (e.src : Int)) ∧ W.cell? ⟨w.heap.size, 6, none⟩ = some (.slice A e.bytes.length c) := ⟨_, rfl, (Kp.refl w).alloc _, (Blk.new w _ _).cell 1, (Blk.new w _ _).cell 2, (Blk.new w _ _).cell 3, (Blk.new w _ _).cell 4, (Blk.new w _ _).cell 5, (Blk.new w _ _).cell 6⟩
    simp only [evC] at hW
    rw [hW]
    clear hW
    go_wp2_with (first | (go_at_call_of 41 (Value.int .u8 97); refine (has_a HK hk8 pa _).mono ?_; rintro en w2 ⟨rfl, hK2⟩; have kw := kw.trans hK2; have q1 := hK2.cell q1; have q2 := hK2.cell q2; have q3 := hK2.cell q3; have q4 := hK2.cell q4; have q5 := hK2.cell q5; have q6 := hK2.cell q6) | (go_at_call_of 41 (Value.int .u8 98); refine (has_b HK hk8 pb _).mono ?_; rintro en w2 ⟨rfl, hK2⟩; have kw := kw.trans hK2; have q1 := hK2.cell q1; have q2 := hK2.cell q2; have q3 := hK2.cell q3; have q4 := hK2.cell q4; have q5 := hK2.cell q5; have q6 := hK2.cell q6) | (go_at_call_of 41 (Value.int .u8 99); refine (has_c HK hk8 pc _).mono ?_; rintro en w2 ⟨rfl, hK2⟩; have kw := kw.trans hK2; have q1 := hK2.cell q1; have q2 := hK2.cell q2; have q3 := hK2.cell q3; have q4 := hK2.cell q4; have q5 := hK2.cell q5; have q6 := hK2.cell q6) | (go_at_call_of 41 (Value.int .u8 100); refine (has_d HK hk8 pd _).mono ?_; rintro en w2 ⟨rfl, hK2⟩; have kw := kw.trans hK2; have q1 := hK2.cell q1; have q2 := hK2.cell q2; have q3 := hK2.cell q3; have q4 := hK2.cell q4; have q5 := hK2.cell q5; have q6 := hK2.cell q6) | (go_at_call_of 41 (Value.int .u8 115); refine (has_s HK hk8 ps _).mono ?_; rintro en w2 ⟨rfl, hK2⟩; have kw := kw.trans hK2; have q1 := hK2.cell q1; have q2 := hK2.cell q2; have q3 := hK2.cell q3; have q4 := hK2.cell q4; have q5 := hK2.cell q5; have q6 := hK2.cell q6) | (go_at_call_of 41 (Value.int .u8 120); refine (has_x HK hk8 px _).mono ?_; rintro en w2 ⟨rfl, hK2⟩; have kw := kw.trans hK2; have q1 := hK2.cell q1; have q2 := hK2.cell q2; have q3 := hK2.cell q3; have q4 := hK2.cell q4; have q5 := hK2.cell q5; have q6 := hK2.cell q6))
    go_ret
    exact ⟨by rw [H.out]; rfl, kw⟩
  have yc : (e.c == 0) = true := by rw [zc]; rfl
  by_cases zs : e.src = 0
  rotate_left
  · have H := Lib.hid (show plainP e = false by rw [HP.out, decide_eq_false]; intro h; exact zs h.2.2.1)
    have ys : ((e.src : Int) == 0) = false := by rw [beq_eq_false_iff_ne]; omega
    clear zb zc zs
    go_enter Tryz.func12, Tryz.ntmps12
    go_wp2_with fail
    obtain ⟨W, hW, kw, q1, q2, q3, q4, q5, q6⟩ : ∃ W, w.alloc (.cells (evC e (.slice A e.bytes.length c)) 27) = W ∧ Kp w W ∧ W.cell? ⟨w.heap.size, 1, none⟩ = some (.int .i64 e.a) ∧ W.cell? ⟨w.heap.size, 2, none⟩ = some (.int .i64 e.b) ∧ W.cell? ⟨w.heap.size, 3, none⟩ = some (.int .i64 e.c) ∧ W.cell? ⟨w.heap.size, 4, none⟩ = some (.int .i64 e.draw) ∧ W.cell? ⟨w.heap.size, 5, none⟩ = some (.int .u32 (e.src : Int)) ∧ W.cell? ⟨w.heap.size, 6, none⟩ = some (.slice A e.bytes.length c) := ⟨_, rfl, (Kp.refl w).alloc _, (Blk.new w _ _).cell 1, (Blk.new w _ _).cell 2, (Blk.new w _ _).cell 3, (Blk.new w _ _).cell 4, (Blk.new w _ _).cell 5, (Blk.new w _ _).cell 6⟩
    simp only [evC] at hW
    rw [hW]
    clear hW
    go_wp2_with (first | (go_at_call_of 41 (Value.int .u8 97); refine (has_a HK hk8 pa _).mono ?_; rintro en w2 ⟨rfl, hK2⟩; have kw := kw.trans hK2; have q1 := hK2.cell q1; have q2 := hK2.cell q2; have q3 := hK2.cell q3; have q4 := hK2.cell q4; have q5 := hK2.cell q5; have q6 := hK2.cell q6) | (go_at_call_of 41 (Value.int .u8 98); refine (has_b HK hk8 pb _).mono ?_; rintro en w2 ⟨rfl, hK2⟩; have kw := kw.trans hK2; have q1 := hK2.cell q1; have q2 := hK2.cell q2; have q3 := hK2.cell q3; have q4 := hK2.cell q4; have q5 := hK2.cell q5; have q6 := hK2.cell q6) | (go_at_call_of 41 (Value.int .u8 99); refine (has_c HK hk8 pc _).mono ?_; rintro en w2 ⟨rfl, hK2⟩; have kw := kw.trans hK2; have q1 := hK2.cell q1; have q2 := hK2.cell q2; have q3 := hK2.cell q3; have q4 := hK2.cell q4; have q5 := hK2.cell q5; have q6 := hK2.cell q6) | (go_at_call_of 41 (Value.int .u8 100); refine (has_d HK hk8 pd _).mono ?_; rintro en w2 ⟨rfl, hK2⟩; have kw := kw.trans hK2; have q1 := hK2.cell q1; have q2 := hK2.cell q2; have q3 := hK2.cell q3; have q4 := hK2.cell q4; have q5 := hK2.cell q5; have q6 := hK2.cell q6) | (go_at_call_of 41 (Value.int .u8 115); refine (has_s HK hk8 ps _).mono ?_; rintro en w2 ⟨rfl, hK2⟩; have kw := kw.trans hK2; have q1 := hK2.cell q1; have q2 := hK2.cell q2; have q3 := hK2.cell q3; have q4 := hK2.cell q4; have q5 := hK2.cell q5; have q6 := hK2.cell q6) | (go_at_call_of 41 (Value.int .u8 120); refine (has_x HK hk8 px _).mono ?_; rintro en w2 ⟨rfl, hK2⟩; have kw := kw.trans hK2; have q1 := hK2.cell q1; have q2 := hK2.cell q2; have q3 := hK2.cell q3; have q4 := hK2.cell q4; have q5 := hK2.cell q5; have q6 := hK2.cell q6))
    go_ret
    exact ⟨by rw [H.out]; rfl, kw⟩
  have ys : ((e.src : Int) == 0) = true := by rw [zs]; rfl
  by_cases zx : e.bytes = []
  rotate_left
  · have H := Lib.hid (show plainP e = false by rw [HP.out, decide_eq_false]; intro h; exact zx h.2.2.2)
    have yx : ((e.bytes.length : Int) == 0) = false := by rw [beq_eq_false_iff_ne]; have := List.length_pos_iff.2 zx; omega
    clear zb zc zs zx
    go_enter Tryz.func12, Tryz.ntmps12
    go_wp2_with fail
    obtain ⟨W, hW, kw, q1, q2, q3, q4, q5, q6⟩ : ∃ W, w.alloc (.cells (evC e (.slice A e.bytes.length c)) 27) = W ∧ Kp w W ∧ W.cell? ⟨w.heap.size, 1, none⟩ = some (.int .i64 e.a) ∧ W.cell? ⟨w.heap.size, 2, none⟩ = some (.int .i64 e.b) ∧ W.cell? ⟨w.heap.size, 3, none⟩ = some (.int .i64 e.c) ∧ W.cell? ⟨w.heap.size, 4, none⟩ = some (.int .i64 e.draw) ∧ W.cell? ⟨w.heap.size, 5, none⟩ = some (.int .u32 (e.src : Int)) ∧ W.cell? ⟨w.heap.size, 6, none⟩ = some (.slice A e.bytes.length c) := ⟨_, rfl, (Kp.refl w).alloc _, (Blk.new w _ _).cell 1, (Blk.new w _ _).cell 2, (Blk.new w _ _).cell 3, (Blk.new w _ _).cell 4, (Blk.new w _ _).cell 5, (Blk.new w _ _).cell 6⟩
    simp only [evC] at hW
    rw [hW]
    clear hW
    go_wp2_with (first | (go_at_call_of 41 (Value.int .u8 97); refine (has_a HK hk8 pa _).mono ?_; rintro en w2 ⟨rfl, hK2⟩; have kw := kw.trans hK2; have q1 := hK2.cell q1; have q2 := hK2.cell q2; have q3 := hK2.cell q3; have q4 := hK2.cell q4; have q5 := hK2.cell q5; have q6 := hK2.cell q6) | (go_at_call_of 41 (Value.int .u8 98); refine (has_b HK hk8 pb _).mono ?_; rintro en w2 ⟨rfl, hK2⟩; have kw := kw.trans hK2; have q1 := hK2.cell q1; have q2 := hK2.cell q2; have q3 := hK2.cell q3; have q4 := hK2.cell q4; have q5 := hK2.cell q5; have q6 := hK2.cell q6) | (go_at_call_of 41 (Value.int .u8 99); refine (has_c HK hk8 pc _).mono ?_; rintro en w2 ⟨rfl, hK2⟩; have kw := kw.trans hK2; have q1 := hK2.cell q1; have q2 := hK2.cell q2; have q3 := hK2.cell q3; have q4 := hK2.cell q4; have q5 := hK2.cell q5; have q6 := hK2.cell q6) | (go_at_call_of 41 (Value.int .u8 100); refine (has_d HK hk8 pd _).mono ?_; rintro en w2 ⟨rfl, hK2⟩; have kw := kw.trans hK2; have q1 := hK2.cell q1; have q2 := hK2.cell q2; have q3 := hK2.cell q3; have q4 := hK2.cell q4; have q5 := hK2.cell q5; have q6 := hK2.cell q6) | (go_at_call_of 41 (Value.int .u8 115); refine (has_s HK hk8 ps _).mono ?_; rintro en w2 ⟨rfl, hK2⟩; have kw := kw.trans hK2; have q1 := hK2.cell q1; have q2 := hK2.cell q2; have q3 := hK2.cell q3; have q4 := hK2.cell q4; have q5 := hK2.cell q5; have q6 := hK2.cell q6) | (go_at_call_of 41 (Value.int .u8 120); refine (has_x HK hk8 px _).mono ?_; rintro en w2 ⟨rfl, hK2⟩; have kw := kw.trans hK2; have q1 := hK2.cell q1; have q2 := hK2.cell q2; have q3 := hK2.cell q3; have q4 := hK2.cell q4; have q5 := hK2.cell q5; have q6 := hK2.cell q6))
    go_ret
    exact ⟨by rw [H.out]; rfl, kw⟩
  have yx : ((e.bytes.length : Int) == 0) = true := by rw [zx]; rfl
  have H := Lib.hid (show plainP e = true by rw [HP.out, decide_eq_true_iff]; exact ⟨zb, zc, zs, zx⟩)
  clear zb zc zs zx
  go_enter Tryz.func12, Tryz.ntmps12
  go_wp2_with fail
  obtain ⟨W, hW, kw, q1, q2, q3, q4, q5, q6⟩ : ∃ W, w.alloc (.cells (evC e (.slice A e.bytes.length c)) 27) = W ∧ Kp w W ∧ W.cell? ⟨w.heap.size, 1, none⟩ = some (.int .i64 e.a) ∧ W.cell? ⟨w.heap.size, 2, none⟩ = some (.int .i64 e.b) ∧ W.cell? ⟨w.heap.size, 3, none⟩ = some (.int .i64 e.c) ∧ W.cell? ⟨w.heap.size, 4, none⟩ = some (.int .i64 e.draw) ∧ W.cell? ⟨w.heap.size, 5, none⟩ = some (.int .u32 (e.src : Int)) ∧ W.cell? ⟨w.heap.size, 6, none⟩ = some (.slice A e.bytes.length c) := ⟨_, rfl, (Kp.refl w).alloc _, (Blk.new w _ _).cell 1, (Blk.new w _ _).cell 2, (Blk.new w _ _).cell 3, (Blk.new w _ _).cell 4, (Blk.new w _ _).cell 5, (Blk.new w _ _).cell 6⟩
  simp only [evC] at hW
  rw [hW]
  clear hW
  go_wp2_with (first | (go_at_call_of 41 (Value.int .u8 97); refine (has_a HK hk8 pa _).mono ?_; rintro en w2 ⟨rfl, hK2⟩; have kw := kw.trans hK2; have q1 := hK2.cell q1; have q2 := hK2.cell q2; have q3 := hK2.cell q3; have q4 := hK2.cell q4; have q5 := hK2.cell q5; have q6 := hK2.cell q6) | (go_at_call_of 41 (Value.int .u8 98); refine (has_b HK hk8 pb _).mono ?_; rintro en w2 ⟨rfl, hK2⟩; have kw := kw.trans hK2; have q1 := hK2.cell q1; have q2 := hK2.cell q2; have q3 := hK2.cell q3; have q4 := hK2.cell q4; have q5 := hK2.cell q5; have q6 := hK2.cell q6) | (go_at_call_of 41 (Value.int .u8 99); refine (has_c HK hk8 pc _).mono ?_; rintro en w2 ⟨rfl, hK2⟩; have kw := kw.trans hK2; have q1 := hK2.cell q1; have q2 := hK2.cell q2; have q3 := hK2.cell q3; have q4 := hK2.cell q4; have q5 := hK2.cell q5; have q6 := hK2.cell q6) | (go_at_call_of 41 (Value.int .u8 100); refine (has_d HK hk8 pd _).mono ?_; rintro en w2 ⟨rfl, hK2⟩; have kw := kw.trans hK2; have q1 := hK2.cell q1; have q2 := hK2.cell q2; have q3 := hK2.cell q3; have q4 := hK2.cell q4; have q5 := hK2.cell q5; have q6 := hK2.cell q6) | (go_at_call_of 41 (Value.int .u8 115); refine (has_s HK hk8 ps _).mono ?_; rintro en w2 ⟨rfl, hK2⟩; have kw := kw.trans hK2; have q1 := hK2.cell q1; have q2 := hK2.cell q2; have q3 := hK2.cell q3; have q4 := hK2.cell q4; have q5 := hK2.cell q5; have q6 := hK2.cell q6) | (go_at_call_of 41 (Value.int .u8 120); refine (has_x HK hk8 px _).mono ?_; rintro en w2 ⟨rfl, hK2⟩; have kw := kw.trans hK2; have q1 := hK2.cell q1; have q2 := hK2.cell q2; have q3 := hK2.cell q3; have q4 := hK2.cell q4; have q5 := hK2.cell q5; have q6 := hK2.cell q6))
  go_ret
  exact ⟨by rw [H.out]; rfl, kw⟩
set_option maxRecDepth 100000 in
set_option maxHeartbeats 4000000 in
theorem rplain_a (e : Ev) (A : Option Addr) (c k : Nat) (w : World) (hk : e.kind = (k : Int)) (hc : k = 4) (h3 : e.c = 0 ∨ e.c = 1) (h4 : e.bytes.length ≤ 600) :
    Calls Tryz.prog 12 #[evV e (.slice A e.bytes.length c)] w fun en w' => en = .returned (.bool (plainP e)) ∧ Kp w w' := by
  have hk8 : k ≤ 8 := by omega
  have pa := Lib.hid (show decide (Pt.a ∈ partsOf k) = true by rcases hc with rfl <;> decide)
  have pb := Lib.hid (show decide (Pt.b ∈ partsOf k) = false by rcases hc with rfl <;> decide)
  have pc := Lib.hid (show decide (Pt.c ∈ partsOf k) = false by rcases hc with rfl <;> decide)
  have pd := Lib.hid (show decide (Pt.d ∈ partsOf k) = false by rcases hc with rfl <;> decide)
  have ps := Lib.hid (show decide (Pt.s ∈ partsOf k) = false by rcases hc with rfl <;> decide)
  have px := Lib.hid (show decide (Pt.x ∈ partsOf k) = false by rcases hc with rfl <;> decide)
  have HP := Lib.hid (show plainP e = decide (e.b = 0 ∧ e.c = 0 ∧ e.draw = 0 ∧ e.src = 0 ∧ e.bytes = []) by
    obtain ⟨kd, ea, eb, ec, ed, es, ex⟩ := e
    simp only at hk h3 h4 ⊢
    subst hk
    rw [Bool.eq_iff_iff, decide_eq_true_iff]
    rcases hc with rfl <;> simp only [plainP, partsOf, List.foldl_cons, List.foldl_nil, putE, ev0, Bool.and_eq_true, decide_eq_true_eq, Ev.mk.injEq, Int.toNat_natCast, true_and, and_true] <;> grind)
  have g1 : decide (e.kind < 1) = false := decide_eq_false (by omega)
  have g2 : decide ((8 : Int) < e.kind) = false := decide_eq_false (by omega)
  have g3 : decide (e.c < 0) = false := decide_eq_false (by omega)
  have g4 : decide ((1 : Int) < e.c) = false := decide_eq_false (by omega)
  have g5 : decide ((600 : Int) < (e.bytes.length : Int)) = false := decide_eq_false (by omega)
  clear h3 h4 hc
  have HK := Lib.hid hk
  clear hk
  by_cases zb : e.b = 0
  rotate_left
  · have H := Lib.hid (show plainP e = false by rw [HP.out, decide_eq_false]; intro h; exact zb h.1)
    have yb : (e.b == 0) = false := by rw [beq_eq_false_iff_ne]; exact zb
    clear zb
    go_enter Tryz.func12, Tryz.ntmps12
    go_wp2_with fail
    obtain ⟨W, hW, kw, q1, q2, q3, q4, q5, q6⟩ : ∃ W, w.alloc (.cells (evC e (.slice A e.bytes.length c)) 27) = W ∧ Kp w W ∧ W.cell? ⟨w.heap.size, 1, none⟩ = some (.int .i64 e.a) ∧ W.cell? ⟨w.heap.size, 2, none⟩ = some (.int .i64 e.b) ∧ W.cell? ⟨w.heap.size, 3, none⟩ = some (.int .i64 e.c) ∧ W.cell? ⟨w.heap.size, 4, none⟩ = some (.int .i64 e.draw) ∧ W.cell? ⟨w.heap.size, 5, none⟩ = some (.int .u32 (e.src : Int)) ∧ W.cell? ⟨w.heap.size, 6, none⟩ = some (.slice A e.bytes.length c) := ⟨_, rfl, (Kp.refl w).alloc _, (Blk.new w _ _).cell 1, (Blk.new w _ _).cell 2, (Blk.new w _ _).cell 3, (Blk.new w _ _).cell 4, (Blk.new w _ _).cell 5, (Blk.new w _ _).cell 6⟩
    simp only [evC] at hW
    rw [hW]
    clear hW
    go_wp2_with (first | (go_at_call_of 41 (Value.int .u8 97); refine (has_a HK hk8 pa _).mono ?_; rintro en w2 ⟨rfl, hK2⟩; have kw := kw.trans hK2; have q1 := hK2.cell q1; have q2 := hK2.cell q2; have q3 := hK2.cell q3; have q4 := hK2.cell q4; have q5 := hK2.cell q5; have q6 := hK2.cell q6) | (go_at_call_of 41 (Value.int .u8 98); refine (has_b HK hk8 pb _).mono ?_; rintro en w2 ⟨rfl, hK2⟩; have kw := kw.trans hK2; have q1 := hK2.cell q1; have q2 := hK2.cell q2; have q3 := hK2.cell q3; have q4 := hK2.cell q4; have q5 := hK2.cell q5; have q6 := hK2.cell q6) | (go_at_call_of 41 (Value.int .u8 99); refine (has_c HK hk8 pc _).mono ?_; rintro en w2 ⟨rfl, hK2⟩; have kw := kw.trans hK2; have q1 := hK2.cell q1; have q2 := hK2.cell q2; have q3 := hK2.cell q3; have q4 := hK2.cell q4; have q5 := hK2.cell q5; have q6 := hK2.cell q6) | (go_at_call_of 41 (Value.int .u8 100); refine (has_d HK hk8 pd _).mono ?_; rintro en w2 ⟨rfl, hK2⟩; have kw := kw.trans hK2; have q1 := hK2.cell q1; have q2 := hK2.cell q2; have q3 := hK2.cell q3; have q4 := hK2.cell q4; have q5 := hK2.cell q5; have q6 := hK2.cell q6) | (go_at_call_of 41 (Value.int .u8 115); refine (has_s HK hk8 ps _).mono ?_; rintro en w2 ⟨rfl, hK2⟩; have kw := kw.trans hK2; have q1 := hK2.cell q1; have q2 := hK2.cell q2; have q3 := hK2.cell q3; have q4 := hK2.cell q4; have q5 := hK2.cell q5; have q6 := hK2.cell q6) | (go_at_call_of 41 (Value.int .u8 120); refine (has_x HK hk8 px _).mono ?_; rintro en w2 ⟨rfl, hK2⟩; have kw := kw.trans hK2; have q1 := hK2.cell q1; have q2 := hK2.cell q2; have q3 := hK2.cell q3; have q4 := hK2.cell q4; have q5 := hK2.cell q5; have q6 := hK2.cell q6))
    go_ret
    exact ⟨by rw [H.out]; rfl, kw⟩
  have yb : (e.b == 0) = true := by rw [zb]; rfl
  by_cases zc : e.c = 0
  rotate_left
  · have H := Lib.hid (show plainP e = false by rw [HP.out, decide_eq_false]; intro h; exact zc h.2.1)
    have yc : (e.c == 0) = false := by rw [beq_eq_false_iff_ne]; exact zc
    clear zb zc
    go_enter Tryz.func12, Tryz.ntmps12
    go_wp2_with fail
    obtain ⟨W, hW, kw, q1, q2, q3, q4, q5, q6⟩ : ∃ W, w.alloc (.cells (evC e (.slice A e.bytes.length c)) 27) = W ∧ Kp w W ∧ W.cell? ⟨w.heap.size, 1, none⟩ = some (.int .i64 e.a) ∧ W.cell? ⟨w.heap.size, 2, none⟩ = some (.int .i64 e.b) ∧ W.cell? ⟨w.heap.size, 3, none⟩ = some (.int .i64 e.c) ∧ W.cell? ⟨w.heap.size, 4, none⟩ = some (.int .i64 e.draw) ∧ W.cell? ⟨w.heap.size, 5, none⟩ = some (.int .u32 (e.src : Int)) ∧ W.cell? ⟨w.heap.size, 6, none⟩ = some (.slice A e.bytes.length c) := ⟨_, rfl, (Kp.refl w).alloc _, (Blk.new w _ _).cell 1, (Blk.new w _ _).cell 2, (Blk.new w _ _).cell 3, (Blk.new w _ _).cell 4, (Blk.new w _ _).cell 5, (Blk.new w _ _).cell 6⟩
    simp only [evC] at hW
    rw [hW]
    clear hW
    go_wp2_with (first | (go_at_call_of 41 (Value.int .u8 97); refine (has_a HK hk8 pa _).mono ?_; rintro en w2 ⟨rfl, hK2⟩; have kw := kw.trans hK2; have q1 := hK2.cell q1; have q2 := hK2.cell q2; have q3 := hK2.cell q3; have q4 := hK2.cell q4; have q5 := hK2.cell q5; have q6 := hK2.cell q6) | (go_at_call_of 41 (Value.int .u8 98); refine (has_b HK hk8 pb _).mono ?_; rintro en w2 ⟨rfl, hK2⟩; have kw := kw.trans hK2; have q1 := hK2.cell q1; have q2 := hK2.cell q2; have q3 := hK2.cell q3; have q4 := hK2.cell q4; have q5 := hK2.cell q5; have q6 := hK2.cell q6) | (go_at_call_of 41 (Value.int .u8 99); refine (has_c HK hk8 pc _).mono ?_; rintro en w2 ⟨rfl, hK2⟩; have kw := kw.trans hK2; have q1 := hK2.cell q1; have q2 := hK2.cell q2; have q3 := hK2.cell q3; have q4 := hK2.cell q4; have q5 := hK2.cell q5; have q6 := hK2.cell q6) | (go_at_call_of 41 (Value.int .u8 100); refine (has_d HK hk8 pd _).mono ?_; rintro en w2 ⟨rfl, hK2⟩; have kw := kw.trans hK2; have q1 := hK2.cell q1; have q2 := hK2.cell q2; have q3 := hK2.cell q3; have q4 := hK2.cell q4; have q5 := hK2.cell q5; have q6 := hK2.cell q6) | (go_at_call_of 41 (Value.int .u8 115); refine (has_s HK hk8 ps _).mono ?_; rintro en w2 ⟨rfl, hK2⟩; have kw := kw.trans hK2; have q1 := hK2.cell q1; have q2 := hK2.cell q2; have q3 := hK2.cell q3; have q4 := hK2.cell q4; have q5 := hK2.cell q5; have q6 := hK2.cell q6) | (go_at_call_of 41 (Value.int .u8 120); refine (has_x HK hk8 px _).mono ?_; rintro en w2 ⟨rfl, hK2⟩; have kw := kw.trans hK2; have q1 := hK2.cell q1; have q2 := hK2.cell q2; have q3 := hK2.cell q3; have q4 := hK2.cell q4; have q5 := hK2.cell q5; have q6 := hK2.cell q6))
    go_ret
    exact ⟨by rw [H.out]; rfl, kw⟩
  have yc : (e.c == 0) = true := by rw [zc]; rfl
  by_cases zd : e.draw = 0
  rotate_left
  · have H := Lib.hid (show plainP e = false by rw [HP.out, decide_eq_false]; intro h; exact zd h.2.2.1)
    have yd : (e.draw == 0) = false := by rw [beq_eq_false_iff_ne]; exact zd
    clear zb zc zd
    go_enter Tryz.func12, Tryz.ntmps12
    go_wp2_with fail
    obtain ⟨W, hW, kw, q1, q2, q3, q4, q5, q6⟩ : ∃ W, w.alloc (.cells (evC e (.slice A e.bytes.length c)) 27) = W ∧ Kp w W ∧ W.cell? ⟨w.heap.size, 1, none⟩ = some (.int .i64 e.a) ∧ W.cell? ⟨w.heap.size, 2, none⟩ = some (.int .i64 e.b) ∧ W.cell? ⟨w.heap.size, 3, none⟩ = some (.int .i64 e.c) ∧ W.cell? ⟨w.heap.size, 4, none⟩ = some (.int .i64 e.draw) ∧ W.cell? ⟨w.heap.size, 5, none⟩ = some (.int .u32 (e.src : Int)) ∧ W.cell? ⟨w.heap.size, 6, none⟩ = some (.slice A e.bytes.length c) := ⟨_, rfl, (Kp.refl w).alloc _, (Blk.new w _ _).cell 1, (Blk.new w _ _).cell 2, (Blk.new w _ _).cell 3, (Blk.new w _ _).cell 4, (Blk.new w _ _).cell 5, (Blk.new w _ _).cell 6⟩
    simp only [evC] at hW
    rw [hW]
    clear hW
    go_wp2_with (first | (go_at_call_of 41 (Value.int .u8 97); refine (has_a HK hk8 pa _).mono ?_; rintro en w2 ⟨rfl, hK2⟩; have kw := kw.trans hK2; have q1 := hK2.cell q1; have q2 := hK2.cell q2; have q3 := hK2.cell q3; have q4 := hK2.cell q4; have q5 := hK2.cell q5; have q6 := hK2.cell q6) | (go_at_call_of 41 (Value.int .u8 98); refine (has_b HK hk8 pb _).mono ?_; rintro en w2 ⟨rfl, hK2⟩; have kw := kw.trans hK2; have q1 := hK2.cell q1; have q2 := hK2.cell q2; have q3 := hK2.cell q3; have q4 := hK2.cell q4; have q5 := hK2.cell q5; have q6 := hK2.cell q6) | (go_at_call_of 41 (Value.int .u8 99); refine (has_c HK hk8 pc _).mono ?_; rintro en w2 ⟨rfl, hK2⟩; have kw := kw.trans hK2; have q1 := hK2.cell q1; have q2 := hK2.cell q2; have q3 := hK2.cell q3; have q4 := hK2.cell q4; have q5 := hK2.cell q5; have q6 := hK2.cell q6) | (go_at_call_of 41 (Value.int .u8 100); refine (has_d HK hk8 pd _).mono ?_; rintro en w2 ⟨rfl, hK2⟩; have kw := kw.trans hK2; have q1 := hK2.cell q1; have q2 := hK2.cell q2; have q3 := hK2.cell q3; have q4 := hK2.cell q4; have q5 := hK2.cell q5; have q6 := hK2.cell q6) | (go_at_call_of 41 (Value.int .u8 115); refine (has_s HK hk8 ps _).mono ?_; rintro en w2 ⟨rfl, hK2⟩; have kw := kw.trans hK2; have q1 := hK2.cell q1; have q2 := hK2.cell q2; have q3 := hK2.cell q3; have q4 := hK2.cell q4; have q5 := hK2.cell q5; have q6 := hK2.cell q6) | (go_at_call_of 41 (Value.int .u8 120); refine (has_x HK hk8 px _).mono ?_; rintro en w2 ⟨rfl, hK2⟩; have kw := kw.trans hK2; have q1 := hK2.cell q1; have q2 := hK2.cell q2; have q3 := hK2.cell q3; have q4 := hK2.cell q4; have q5 := hK2.cell q5; have q6 := hK2.cell q6))
    go_ret
    exact ⟨by rw [H.out]; rfl, kw⟩
  have yd : (e.draw == 0) = true := by rw [zd]; rfl
  by_cases zs : e.src = 0
  rotate_left
  · have H := Lib.hid (show plainP e = false by rw [HP.out, decide_eq_false]; intro h; exact zs h.2.2.2.1)
    have ys : ((e.src : Int) == 0) = false := by rw [beq_eq_false_iff_ne]; omega
    clear zb zc zd zs
    go_enter Tryz.func12, Tryz.ntmps12
    go_wp2_with fail
    obtain ⟨W, hW, kw, q1, q2, q3, q4, q5, q6⟩ : ∃ W, w.alloc (.cells (evC e (.slice A e.bytes.length c)) 27) = W ∧ Kp w W ∧ W.cell? ⟨w.heap.size, 1, none⟩ = some (.int .i64 e.a) ∧ W.cell? ⟨w.heap.size, 2, none⟩ = some (.int .i64 e.b) ∧ W.cell? ⟨w.heap.size, 3, none⟩ = some (.int .i64 e.c) ∧ W.cell? ⟨w.heap.size, 4, none⟩ = some (.int .i64 e.draw) ∧ W.cell? ⟨w.heap.size, 5, none⟩ = some (.int .u32 (e.src : Int)) ∧ W.cell? ⟨w.heap.size, 6, none⟩ = some (.slice A e.bytes.length c) := ⟨_, rfl, (Kp.refl w).alloc _, (Blk.new w _ _).cell 1, (Blk.new w _ _).cell 2, (Blk.new w _ _).cell 3, (Blk.new w _ _).cell 4, (Blk.new w _ _).cell 5, (Blk.new w _ _).cell 6⟩
    simp only [evC] at hW
    rw [hW]
    clear hW
    go_wp2_with (first | (go_at_call_of 41 (Value.int .u8 97); refine (has_a HK hk8 pa _).mono ?_; rintro en w2 ⟨rfl, hK2⟩; have kw := kw.trans hK2; have q1 := hK2.cell q1; have q2 := hK2.cell q2; have q3 := hK2.cell q3; have q4 := hK2.cell q4; have q5 := hK2.cell q5; have q6 := hK2.cell q6) | (go_at_call_of 41 (Value.int .u8 98); refine (has_b HK hk8 pb _).mono ?_; rintro en w2 ⟨rfl, hK2⟩; have kw := kw.trans hK2; have q1 := hK2.cell q1; have q2 := hK2.cell q2; have q3 := hK2.cell q3; have q4 := hK2.cell q4; have q5 := hK2.cell q5; have q6 := hK2.cell q6) | (go_at_call_of 41 (Value.int .u8 99); refine (has_c HK hk8 pc _).mono ?_; rintro en w2 ⟨rfl, hK2⟩; have kw := kw.trans hK2; have q1 := hK2.cell q1; have q2 := hK2.cell q2; have q3 := hK2.cell q3; have q4 := hK2.cell q4; have q5 := hK2.cell q5; have q6 := hK2.cell q6) | (go_at_call_of 41 (Value.int .u8 100); refine (has_d HK hk8 pd _).mono ?_; rintro en w2 ⟨rfl, hK2⟩; have kw := kw.trans hK2; have q1 := hK2.cell q1; have q2 := hK2.cell q2; have q3 := hK2.cell q3; have q4 := hK2.cell q4; have q5 := hK2.cell q5; have q6 := hK2.cell q6) | (go_at_call_of 41 (Value.int .u8 115); refine (has_s HK hk8 ps _).mono ?_; rintro en w2 ⟨rfl, hK2⟩; have kw := kw.trans hK2; have q1 := hK2.cell q1; have q2 := hK2.cell q2; have q3 := hK2.cell q3; have q4 := hK2.cell q4; have q5 := hK2.cell q5; have q6 := hK2.cell q6) | (go_at_call_of 41 (Value.int .u8 120); refine (has_x HK hk8 px _).mono ?_; rintro en w2 ⟨rfl, hK2⟩; have kw := kw.trans hK2; have q1 := hK2.cell q1; have q2 := hK2.cell q2; have q3 := hK2.cell q3; have q4 := hK2.cell q4; have q5 := hK2.cell q5; have q6 := hK2.cell q6))
    go_ret
    exact ⟨by rw [H.out]; rfl, kw⟩
  have ys : ((e.src : Int) == 0) = true := by rw [zs]; rfl
  by_cases zx : e.bytes = []
  rotate_left
  · have H := Lib.hid (show plainP e = false by rw [HP.out, decide_eq_false]; intro h; exact zx h.2.2.2.2)
    have yx : ((e.bytes.length : Int) == 0) = false := by rw [beq_eq_false_iff_ne]; have := List.length_pos_iff.2 zx; omega
    clear zb zc zd zs zx
    go_enter Tryz.func12, Tryz.ntmps12
    go_wp2_with fail
    obtain ⟨W, hW, kw, q1, q2, q3, q4, q5, q6⟩ : ∃ W, w.alloc (.cells (evC e (.slice A e.bytes.length c)) 27) = W ∧ Kp w W ∧ W.cell? ⟨w.heap.size, 1, none⟩ = some (.int .i64 e.a) ∧ W.cell? ⟨w.heap.size, 2, none⟩ = some (.int .i64 e.b) ∧ W.cell? ⟨w.heap.size, 3, none⟩ = some (.int .i64 e.c) ∧ W.cell? ⟨w.heap.size, 4, none⟩ = some (.int .i64 e.draw) ∧ W.cell? ⟨w.heap.size, 5, none⟩ = some (.int .u32 (e.src : Int)) ∧ W.cell? ⟨w.heap.size, 6, none⟩ = some (.slice A e.bytes.length c) := ⟨_, rfl, (Kp.refl w).alloc _, (Blk.new w _ _).cell 1, (Blk.new w _ _).cell 2, (Blk.new w _ _).cell 3, (Blk.new w _ _).cell 4, (Blk.new w _ _).cell 5, (Blk.new w _ _).cell 6⟩
    simp only [evC] at hW
    rw [hW]
    clear hW
    go_wp2_with (first | (go_at_call_of 41 (Value.int .u8 97); refine (has_a HK hk8 pa _).mono ?_; rintro en w2 ⟨rfl, hK2⟩; have kw := kw.trans hK2; have q1 := hK2.cell q1; have q2 := hK2.cell q2; have q3 := hK2.cell q3; have q4 := hK2.cell q4; have q5 := hK2.cell q5; have q6 := hK2.cell q6) | (go_at_call_of 41 (Value.int .u8 98); refine (has_b HK hk8 pb _).mono ?_; rintro en w2 ⟨rfl, hK2⟩; have kw := kw.trans hK2; have q1 := hK2.cell q1; have q2 := hK2.cell q2; have q3 := hK2.cell q3; have q4 := hK2.cell q4; have q5 := hK2.cell q5; have q6 := hK2.cell q6) | (go_at_call_of 41 (Value.int .u8 99); refine (has_c HK hk8 pc _).mono ?_; rintro en w2 ⟨rfl, hK2⟩; have kw := kw.trans hK2; have q1 := hK2.cell q1; have q2 := hK2.cell q2; have q3 := hK2.cell q3; have q4 := hK2.cell q4; have q5 := hK2.cell q5; have q6 := hK2.cell q6) | (go_at_call_of 41 (Value.int .u8 100); refine (has_d HK hk8 pd _).mono ?_; rintro en w2 ⟨rfl, hK2⟩; have kw := kw.trans hK2; have q1 := hK2.cell q1; have q2 := hK2.cell q2; have q3 := hK2.cell q3; have q4 := hK2.cell q4; have q5 := hK2.cell q5; have q6 := hK2.cell q6) | (go_at_call_of 41 (Value.int .u8 115); refine (has_s HK hk8 ps _).mono ?_; rintro en w2 ⟨rfl, hK2⟩; have kw := kw.trans hK2; have q1 := hK2.cell q1; have q2 := hK2.cell q2; have q3 := hK2.cell q3; have q4 := hK2.cell q4; have q5 := hK2.cell q5; have q6 := hK2.cell q6) | (go_at_call_of 41 (Value.int .u8 120); refine (has_x HK hk8 px _).mono ?_; rintro en w2 ⟨rfl, hK2⟩; have kw := kw.trans hK2; have q1 := hK2.cell q1; have q2 := hK2.cell q2; have q3 := hK2.cell q3; have q4 := hK2.cell q4; have q5 := hK2.cell q5; have q6 := hK2.cell q6))
    go_ret
    exact ⟨by rw [H.out]; rfl, kw⟩
  have yx : ((e.bytes.length : Int) == 0) = true := by rw [zx]; rfl
  have H := Lib.hid (show plainP e = true by rw [HP.out, decide_eq_true_iff]; exact ⟨zb, zc, zd, zs, zx⟩)
  clear zb zc zd zs zx
  go_enter Tryz.func12, Tryz.ntmps12
  go_wp2_with fail
  obtain ⟨W, hW, kw, q1, q2, q3, q4, q5, q6⟩ : ∃ W, w.alloc (.cells (evC e (.slice A e.bytes.length c)) 27) = W ∧ Kp w W ∧ W.cell? ⟨w.heap.size, 1, none⟩ = some (.int .i64 e.a) ∧ W.cell? ⟨w.heap.size, 2, none⟩ = some (.int .i64 e.b) ∧ W.cell? ⟨w.heap.size, 3, none⟩ = some (.int .i64 e.c) ∧ W.cell? ⟨w.heap.size, 4, none⟩ = some (.int .i64 e.draw) ∧ W.cell? ⟨w.heap.size, 5, none⟩ = some (.int .u32 (e.src : Int)) ∧ W.cell? ⟨w.heap.size, 6, none⟩ = some (.slice A e.bytes.length c) := ⟨_, rfl, (Kp.refl w).alloc _, (Blk.new w _ _).cell 1, (Blk.new w _ _).cell 2, (Blk.new w _ _).cell 3, (Blk.new w _ _).cell 4, (Blk.new w _ _).cell 5, (Blk.new w _ _).cell 6⟩
  simp only [evC] at hW
  rw [hW]
  clear hW
  go_wp2_with (first | (go_at_call_of 41 (Value.int .u8 97); refine (has_a HK hk8 pa _).mono ?_; rintro en w2 ⟨rfl, hK2⟩; have kw := kw.trans hK2; have q1 := hK2.cell q1; have q2 := hK2.cell q2; have q3 := hK2.cell q3; have q4 := hK2.cell q4; have q5 := hK2.cell q5; have q6 := hK2.cell q6) | (go_at_call_of 41 (Value.int .u8 98); refine (has_b HK hk8 pb _).mono ?_; rintro en w2 ⟨rfl, hK2⟩; have kw := kw.trans hK2; have q1 := hK2.cell q1; have q2 := hK2.cell q2; have q3 := hK2.cell q3; have q4 := hK2.cell q4; have q5 := hK2.cell q5; have q6 := hK2.cell q6) | (go_at_call_of 41 (Value.int .u8 99); refine (has_c HK hk8 pc _).mono ?_; rintro en w2 ⟨rfl, hK2⟩; have kw := kw.trans hK2; have q1 := hK2.cell q1; have q2 := hK2.cell q2; have q3 := hK2.cell q3; have q4 := hK2.cell q4; have q5 := hK2.cell q5; have q6 := hK2.cell q6) | (go_at_call_of 41 (Value.int .u8 100); refine (has_d HK hk8 pd _).mono ?_; rintro en w2 ⟨rfl, hK2⟩; have kw := kw.trans hK2; have q1 := hK2.cell q1; have q2 := hK2.cell q2; have q3 := hK2.cell q3; have q4 := hK2.cell q4; have q5 := hK2.cell q5; have q6 := hK2.cell q6) | (go_at_call_of 41 (Value.int .u8 115); refine (has_s HK hk8 ps _).mono ?_; rintro en w2 ⟨rfl, hK2⟩; have kw := kw.trans hK2; have q1 := hK2.cell q1; have q2 := hK2.cell q2; have q3 := hK2.cell q3; have q4 := hK2.cell q4; have q5 := hK2.cell q5; have q6 := hK2.cell q6) | (go_at_call_of 41 (Value.int .u8 120); refine (has_x HK hk8 px _).mono ?_; rintro en w2 ⟨rfl, hK2⟩; have kw := kw.trans hK2; have q1 := hK2.cell q1; have q2 := hK2.cell q2; have q3 := hK2.cell q3; have q4 := hK2.cell q4; have q5 := hK2.cell q5; have q6 := hK2.cell q6))
  go_ret
  exact ⟨by rw [H.out]; rfl, kw⟩
set_option maxRecDepth 100000 in
set_option maxHeartbeats 4000000 in
theorem rplain_ac (e : Ev) (A : Option Addr) (c k : Nat) (w : World) (hk : e.kind = (k : Int)) (hc : k = 5) (h3 : e.c = 0 ∨ e.c = 1) (h4 : e.bytes.length ≤ 600) :
    Calls Tryz.prog 12 #[evV e (.slice A e.bytes.length c)] w fun en w' => en = .returned (.bool (plainP e)) ∧ Kp w w' := by
  have hk8 : k ≤ 8 := by omega
  have pa := Lib.hid (show decide (Pt.a ∈ partsOf k) = true by rcases hc with rfl <;> decide)
  have pb := Lib.hid (show decide (Pt.b ∈ partsOf k) = false by rcases hc with rfl <;> decide)
  have pc := Lib.hid (show decide (Pt.c ∈ partsOf k) = true by rcases hc with rfl <;> decide)
  have pd := Lib.hid (show decide (Pt.d ∈ partsOf k) = false by rcases hc with rfl <;> decide)
  have ps := Lib.hid (show decide (Pt.s ∈ partsOf k) = false by rcases hc with rfl <;> decide)
  have px := Lib.hid (show decide (Pt.x ∈ partsOf k) = false by rcases hc with rfl <;> decide)
  have HP := Lib.hid (show plainP e = decide (e.b = 0 ∧ e.draw = 0 ∧ e.src = 0 ∧ e.bytes = []) by
    obtain ⟨kd, ea, eb, ec, ed, es, ex⟩ := e
    simp only at hk h3 h4 ⊢
    subst hk
    rw [Bool.eq_iff_iff, decide_eq_true_iff]
    rcases hc with rfl <;> simp only [plainP, partsOf, List.foldl_cons, List.foldl_nil, putE, ev0, Bool.and_eq_true, decide_eq_true_eq, Ev.mk.injEq, Int.toNat_natCast, true_and, and_true] <;> grind)
  have g1 : decide (e.kind < 1) = false := decide_eq_false (by omega)
  have g2 : decide ((8 : Int) < e.kind) = false := decide_eq_false (by omega)
  have g3 : decide (e.c < 0) = false := decide_eq_false (by omega)
  have g4 : decide ((1 : Int) < e.c) = false := decide_eq_false (by omega)
  have g5 : decide ((600 : Int) < (e.bytes.length : Int)) = false := decide_eq_false (by omega)
  clear h3 h4 hc
  have HK := Lib.hid hk
  clear hk
  by_cases zb : e.b = 0
  rotate_left
  · have H := Lib.hid (show plainP e = false by rw [HP.out, decide_eq_false]; intro h; exact zb h.1)
    have yb : (e.b == 0) = false := by rw [beq_eq_false_iff_ne]; exact zb
    clear zb
    go_enter Tryz.func12, Tryz.ntmps12
    go_wp2_with fail
    obtain ⟨W, hW, kw, q1, q2, q3, q4, q5, q6⟩ : ∃ W, w.alloc (.cells (evC e (.slice A e.bytes.length c)) 27) = W ∧ Kp w W ∧ W.cell? ⟨w.heap.size, 1, none⟩ = some (.int .i64 e.a) ∧ W.cell? ⟨w.heap.size, 2, none⟩ = some (.int .i64 e.b) ∧ W.cell? ⟨w.heap.size, 3, none⟩ = some (.int .i64 e.c) ∧ W.cell? ⟨w.heap.size, 4, none⟩ = some (.int .i64 e.draw) ∧ W.cell? ⟨w.heap.size, 5, none⟩ = some (.int .u32 (e.src : Int)) ∧ W.cell? ⟨w.heap.size, 6, none⟩ = some (.slice A e.bytes.length c) := ⟨_, rfl, (Kp.refl w).alloc _, (Blk.new w _ _).cell 1, (Blk.new w _ _).cell 2, (Blk.new w _ _).cell 3, (Blk.new w _ _).cell 4, (Blk.new w _ _).cell 5, (Blk.new w _ _).cell 6⟩
    simp only [evC] at hW
    rw [hW]
    clear hW
    go_wp2_with (first | (go_at_call_of 41 (Value.int .u8 97); refine (has_a HK hk8 pa _).mono ?_; rintro en w2 ⟨rfl, hK2⟩; have kw := kw.trans hK2; have q1 := hK2.cell q1; have q2 := hK2.cell q2; have q3 := hK2.cell q3; have q4 := hK2.cell q4; have q5 := hK2.cell q5; have q6 := hK2.cell q6) | (go_at_call_of 41 (Value.int .u8 98); refine (has_b HK hk8 pb _).mono ?_; rintro en w2 ⟨rfl, hK2⟩; have kw := kw.trans hK2; have q1 := hK2.cell q1; have q2 := hK2.cell q2; have q3 := hK2.cell q3; have q4 := hK2.cell q4; have q5 := hK2.cell q5; have q6 := hK2.cell q6) | (go_at_call_of 41 (Value.int .u8 99); refine (has_c HK hk8 pc _).mono ?_; rintro en w2 ⟨rfl, hK2⟩; have kw := kw.trans hK2; have q1 := hK2.cell q1; have q2 := hK2.cell q2; have q3 := hK2.cell q3; have q4 := hK2.cell q4; have q5 := hK2.cell q5; have q6 := hK2.cell q6) | (go_at_call_of 41 (Value.int .u8 100); refine (has_d HK hk8 pd _).mono ?_; rintro en w2 ⟨rfl, hK2⟩; have kw := kw.trans hK2; have q1 := hK2.cell q1; have q2 := hK2.cell q2; have q3 := hK2.cell q3; have q4 := hK2.cell q4; have q5 := hK2.cell q5; have q6 := hK2.cell q6) | (go_at_call_of 41 (Value.int .u8 115); refine (has_s HK hk8 ps _).mono ?_; rintro en w2 ⟨rfl, hK2⟩; have kw := kw.trans hK2; have q1 := hK2.cell q1; have q2 := hK2.cell q2; have q3 := hK2.cell q3; have q4 := hK2.cell q4; have q5 := hK2.cell q5; have q6 := hK2.cell q6) | (go_at_call_of 41 (Value.int .u8 120); refine (has_x HK hk8 px _).mono ?_; rintro en w2 ⟨rfl, hK2⟩; have kw := kw.trans hK2; have q1 := hK2.cell q1; have q2 := hK2.cell q2; have q3 := hK2.cell q3; have q4 := hK2.cell q4; have q5 := hK2.cell q5; have q6 := hK2.cell q6))
    go_ret
    exact ⟨by rw [H.out]; rfl, kw⟩
  have yb : (e.b == 0) = true := by rw [zb]; rfl
  by_cases zd : e.draw = 0
  rotate_left
  · have H := Lib.hid (show plainP e = false by rw [HP.out, decide_eq_false]; intro h; exact zd h.2.1)
    have yd : (e.draw == 0) = false := by rw [beq_eq_false_iff_ne]; exact zd
    clear zb zd
    go_enter Tryz.func12, Tryz.ntmps12
    go_wp2_with fail
    obtain ⟨W, hW, kw, q1, q2, q3, q4, q5, q6⟩ : ∃ W, w.alloc (.cells (evC e (.slice A e.bytes.length c)) 27) = W ∧ Kp w W ∧ W.cell? ⟨w.heap.size, 1, none⟩ = some (.int .i64 e.a) ∧ W.cell? ⟨w.heap.size, 2, none⟩ = some (.int .i64 e.b) ∧ W.cell? ⟨w.heap.size, 3, none⟩ = some (.int .i64 e.c) ∧ W.cell? ⟨w.heap.size, 4, none⟩ = some (.int .i64 e.draw) ∧ W.cell? ⟨w.heap.size, 5, none⟩ = some (.int .u32 (e.src : Int)) ∧ W.cell? ⟨w.heap.size, 6, none⟩ = some (.slice A e.bytes.length c) := ⟨_, rfl, (Kp.refl w).alloc _, (Blk.new w _ _).cell 1, (Blk.new w _ _).cell 2, (Blk.new w _ _).cell 3, (Blk.new w _ _).cell 4, (Blk.new w _ _).cell 5, (Blk.new w _ _).cell 6⟩
    simp only [evC] at hW
    rw [hW]
    clear hW
    go_wp2_with (first | (go_at_call_of 41 (Value.int .u8 97); refine (has_a HK hk8 pa _).mono ?_; rintro en w2 ⟨rfl, hK2⟩; have kw := kw.trans hK2; have q1 := hK2.cell q1; have q2 := hK2.cell q2; have q3 := hK2.cell q3; have q4 := hK2.cell q4; have q5 := hK2.cell q5; have q6 := hK2.cell q6) | (go_at_call_of 41 (Value.int .u8 98); refine (has_b HK hk8 pb _).mono ?_; rintro en w2 ⟨rfl, hK2⟩; have kw := kw.trans hK2; have q1 := hK2.cell q1; have q2 := hK2.cell q2; have q3 := hK2.cell q3; have q4 := hK2.cell q4; have q5 := hK2.cell q5; have q6 := hK2.cell q6) | (go_at_call_of 41 (Value.int .u8 99); refine (has_c HK hk8 pc _).mono ?_; rintro en w2 ⟨rfl, hK2⟩; have kw := kw.trans hK2; have q1 := hK2.cell q1; have q2 := hK2.cell q2; have q3 := hK2.cell q3; have q4 := hK2.cell q4; have q5 := hK2.cell q5; have q6 := hK2.cell q6) | (go_at_call_of 41 (Value.int .u8 100); refine (has_d HK hk8 pd _).mono ?_; rintro en w2 ⟨rfl, hK2⟩; have kw := kw.trans hK2; have q1 := hK2.cell q1; have q2 := hK2.cell q2; have q3 := hK2.cell q3; have q4 := hK2.cell q4; have q5 := hK2.cell q5; have q6 := hK2.cell q6) | (go_at_call_of 41 (Value.int .u8 115); refine (has_s HK hk8 ps _).mono ?_; rintro en w2 ⟨rfl, hK2⟩; have kw := kw.trans hK2; have q1 := hK2.cell q1; have q2 := hK2.cell q2; have q3 := hK2.cell q3; have q4 := hK2.cell q4; have q5 := hK2.cell q5; have q6 := hK2.cell q6) | (go_at_call_of 41 (Value.int .u8 120); refine (has_x HK hk8 px _).mono ?_; rintro en w2 ⟨rfl, hK2⟩; have kw := kw.trans hK2; have q1 := hK2.cell q1; have q2 := hK2.cell q2; have q3 := hK2.cell q3; have q4 := hK2.cell q4; have q5 := hK2.cell q5; have q6 := hK2.cell q6))
    go_ret
    exact ⟨by rw [H.out]; rfl, kw⟩
  have yd : (e.draw == 0) = true := by rw [zd]; rfl
  by_cases zs : e.src = 0
  rotate_left
  · have H := Lib.hid (show plainP e = false by rw [HP.out, decide_eq_false]; intro h; exact zs h.2.2.1)
    have ys : ((e.src : Int) == 0) = false := by rw [beq_eq_false_iff_ne]; omega
    clear zb zd zs
    go_enter Tryz.func12, Tryz.ntmps12
    go_wp2_with fail
    obtain ⟨W, hW, kw, q1, q2, q3, q4, q5, q6⟩ : ∃ W, w.alloc (.cells (evC e (.slice A e.bytes.length c)) 27) = W ∧ Kp w W ∧ W.cell? ⟨w.heap.size, 1, none⟩ = some (.int .i64 e.a) ∧ W.cell? ⟨w.heap.size, 2, none⟩ = some (.int .i64 e.b) ∧ W.cell? ⟨w.heap.size, 3, none⟩ = some (.int .i64 e.c) ∧ W.cell? ⟨w.heap.size, 4, none⟩ = some (.int .i64 e.draw) ∧ W.cell? ⟨w.heap.size, 5, none⟩ = some (.int .u32 (e.src : Int)) ∧ W.cell? ⟨w.heap.size, 6, none⟩ = some (.slice A e.bytes.length c) := ⟨_, rfl, (Kp.refl w).alloc _, (Blk.new w _ _).cell 1, (Blk.new w _ _).cell 2, (Blk.new w _ _).cell 3, (Blk.new w _ _).cell 4, (Blk.new w _ _).cell 5, (Blk.new w _ _).cell 6⟩
    simp only [evC] at hW
    rw [hW]
    clear hW
    go_wp2_with (first | (go_at_call_of 41 (Value.int .u8 97); refine (has_a HK hk8 pa _).mono ?_; rintro en w2 ⟨rfl, hK2⟩; have kw := kw.trans hK2; have q1 := hK2.cell q1; have q2 := hK2.cell q2; have q3 := hK2.cell q3; have q4 := hK2.cell q4; have q5 := hK2.cell q5; have q6 := hK2.cell q6) | (go_at_call_of 41 (Value.int .u8 98); refine (has_b HK hk8 pb _).mono ?_; rintro en w2 ⟨rfl, hK2⟩; have kw := kw.trans hK2; have q1 := hK2.cell q1; have q2 := hK2.cell q2; have q3 := hK2.cell q3; have q4 := hK2.cell q4; have q5 := hK2.cell q5; have q6 := hK2.cell q6) | (go_at_call_of 41 (Value.int .u8 99); refine (has_c HK hk8 pc _).mono ?_; rintro en w2 ⟨rfl, hK2⟩; have kw := kw.trans hK2; have q1 := hK2.cell q1; have q2 := hK2.cell q2; have q3 := hK2.cell q3; have q4 := hK2.cell q4; have q5 := hK2.cell q5; have q6 := hK2.cell q6) | (go_at_call_of 41 (Value.int .u8 100); refine (has_d HK hk8 pd _).mono ?_; rintro en w2 ⟨rfl, hK2⟩; have kw := kw.trans hK2; have q1 := hK2.cell q1; have q2 := hK2.cell q2; have q3 := hK2.cell q3; have q4 := hK2.cell q4; have q5 := hK2.cell q5; have q6 := hK2.cell q6) | (go_at_call_of 41 (Value.int .u8 115); refine (has_s HK hk8 ps _).mono ?_; rintro en w2 ⟨rfl, hK2⟩; have kw := kw.trans hK2; have q1 := hK2.cell q1; have q2 := hK2.cell q2; have q3 := hK2.cell q3; have q4 := hK2.cell q4; have q5 := hK2.cell q5; have q6 := hK2.cell q6) | (go_at_call_of 41 (Value.int .u8 120); refine (has_x HK hk8 px _).mono ?_; rintro en w2 ⟨rfl, hK2⟩; have kw := kw.trans hK2; have q1 := hK2.cell q1; have q2 := hK2.cell q2; have q3 := hK2.cell q3; have q4 := hK2.cell q4; have q5 := hK2.cell q5; have q6 := hK2.cell q6))
    go_ret
    exact ⟨by rw [H.out]; rfl, kw⟩
  have ys : ((e.src : Int) == 0) = true := by rw [zs]; rfl
  by_cases zx : e.bytes = []
  rotate_left
  · have H := Lib.hid (show plainP e = false by rw [HP.out, decide_eq_false]; intro h; exact zx h.2.2.2)
    have yx : ((e.bytes.length : Int) == 0) = false := by rw [beq_eq_false_iff_ne]; have := List.length_pos_iff.2 zx; omega
    clear zb zd zs zx
    go_enter Tryz.func12, Tryz.ntmps12
    go_wp2_with fail
    obtain ⟨W, hW, kw, q1, q2, q3, q4, q5, q6⟩ : ∃ W, w.alloc (.cells (evC e (.slice A e.bytes.length c)) 27) = W ∧ Kp w W ∧ W.cell? ⟨w.heap.size, 1, none⟩ = some (.int .i64 e.a) ∧ W.cell? ⟨w.heap.size, 2, none⟩ = some (.int .i64 e.b) ∧ W.cell? ⟨w.heap.size, 3, none⟩ = some (.int .i64 e.c) ∧ W.cell? ⟨w.heap.size, 4, none⟩ = some (.int .i64 e.draw) ∧ W.cell? ⟨w.heap.size, 5, none⟩ = some (.int .u32 (e.src : Int)) ∧ W.cell? ⟨w.heap.size, 6, none⟩ = some (.slice A e.bytes.length c) := ⟨_, rfl, (Kp.refl w).alloc _, (Blk.new w _ _).cell 1, (Blk.new w _ _).cell 2, (Blk.new w _ _).cell 3, (Blk.new w _ _).cell 4, (Blk.new w _ _).cell 5, (Blk.new w _ _).cell 6⟩
    simp only [evC] at hW
    rw [hW]
    clear hW
    go_wp2_with (first | (go_at_call_of 41 (Value.int .u8 97); refine (has_a HK hk8 pa _).mono ?_; rintro en w2 ⟨rfl, hK2⟩; have kw := kw.trans hK2; have q1 := hK2.cell q1; have q2 := hK2.cell q2; have q3 := hK2.cell q3; have q4 := hK2.cell q4; have q5 := hK2.cell q5; have q6 := hK2.cell q6) | (go_at_call_of 41 (Value.int .u8 98); refine (has_b HK hk8 pb _).mono ?_; rintro en w2 ⟨rfl, hK2⟩; have kw := kw.trans hK2; have q1 := hK2.cell q1; have q2 := hK2.cell q2; have q3 := hK2.cell q3; have q4 := hK2.cell q4; have q5 := hK2.cell q5; have q6 := hK2.cell q6) | (go_at_call_of 41 (Value.int .u8 99); refine (has_c HK hk8 pc _).mono ?_; rintro en w2 ⟨rfl, hK2⟩; have kw := kw.trans hK2; have q1 := hK2.cell q1; have q2 := hK2.cell q2; have q3 := hK2.cell q3; have q4 := hK2.cell q4; have q5 := hK2.cell q5; have q6 := hK2.cell q6) | (go_at_call_of 41 (Value.int .u8 100); refine (has_d HK hk8 pd _).mono ?_; rintro en w2 ⟨rfl, hK2⟩; have kw := kw.trans hK2; have q1 := hK2.cell q1; have q2 := hK2.cell q2; have q3 := hK2.cell q3; have q4 := hK2.cell q4; have q5 := hK2.cell q5; have q6 := hK2.cell q6) | (go_at_call_of 41 (Value.int .u8 115); refine (has_s HK hk8 ps _).mono ?_; rintro en w2 ⟨rfl, hK2⟩; have kw := kw.trans hK2; have q1 := hK2.cell q1; have q2 := hK2.cell q2; have q3 := hK2.cell q3; have q4 := hK2.cell q4; have q5 := hK2.cell q5; have q6 := hK2.cell q6) | (go_at_call_of 41 (Value.int .u8 120); refine (has_x HK hk8 px _).mono ?_; rintro en w2 ⟨rfl, hK2⟩; have kw := kw.trans hK2; have q1 := hK2.cell q1; have q2 := hK2.cell q2; have q3 := hK2.cell q3; have q4 := hK2.cell q4; have q5 := hK2.cell q5; have q6 := hK2.cell q6))
    go_ret
    exact ⟨by rw [H.out]; rfl, kw⟩
  have yx : ((e.bytes.length : Int) == 0) = true := by rw [zx]; rfl
  have H := Lib.hid (show plainP e = true by rw [HP.out, decide_eq_true_iff]; exact ⟨zb, zd, zs, zx⟩)
  clear zb zd zs zx
  go_enter Tryz.func12, Tryz.ntmps12
  go_wp2_with fail
  obtain ⟨W, hW, kw, q1, q2, q3, q4, q5, q6⟩ : ∃ W, w.alloc (.cells (evC e (.slice A e.bytes.length c)) 27) = W ∧ Kp w W ∧ W.cell? ⟨w.heap.size, 1, none⟩ = some (.int .i64 e.a) ∧ W.cell? ⟨w.heap.size, 2, none⟩ = some (.int .i64 e.b) ∧ W.cell? ⟨w.heap.size, 3, none⟩ = some (.int .i64 e.c) ∧ W.cell? ⟨w.heap.size, 4, none⟩ = some (.int .i64 e.draw) ∧ W.cell? ⟨w.heap.size, 5, none⟩ = some (.int .u32 (e.src : Int)) ∧ W.cell? ⟨w.heap.size, 6, none⟩ = some (.slice A e.bytes.length c) := ⟨_, rfl, (Kp.refl w).alloc _, (Blk.new w _ _).cell 1, (Blk.new w _ _).cell 2, (Blk.new w _ _).cell 3, (Blk.new w _ _).cell 4, (Blk.new w _ _).cell 5, (Blk.new w _ _).cell 6⟩
  simp only [evC] at hW
  rw [hW]
  clear hW
  go_wp2_with (first | (go_at_call_of 41 (Value.int .u8 97); refine (has_a HK hk8 pa _).mono ?_; rintro en w2 ⟨rfl, hK2⟩; have kw := kw.trans hK2; have q1 := hK2.cell q1; have q2 := hK2.cell q2; have q3 := hK2.cell q3; have q4 := hK2.cell q4; have q5 := hK2.cell q5; have q6 := hK2.cell q6) | (go_at_call_of 41 (Value.int .u8 98); refine (has_b HK hk8 pb _).mono ?_; rintro en w2 ⟨rfl, hK2⟩; have kw := kw.trans hK2; have q1 := hK2.cell q1; have q2 := hK2.cell q2; have q3 := hK2.cell q3; have q4 := hK2.cell q4; have q5 := hK2.cell q5; have q6 := hK2.cell q6) | (go_at_call_of 41 (Value.int .u8 99); refine (has_c HK hk8 pc _).mono ?_; rintro en w2 ⟨rfl, hK2⟩; have kw := kw.trans hK2; have q1 := hK2.cell q1; have q2 := hK2.cell q2; have q3 := hK2.cell q3; have q4 := hK2.cell q4; have q5 := hK2.cell q5; have q6 := hK2.cell q6) | (go_at_call_of 41 (Value.int .u8 100); refine (has_d HK hk8 pd _).mono ?_; rintro en w2 ⟨rfl, hK2⟩; have kw := kw.trans hK2; have q1 := hK2.cell q1; have q2 := hK2.cell q2; have q3 := hK2.cell q3; have q4 := hK2.cell q4; have q5 := hK2.cell q5; have q6 := hK2.cell q6) | (go_at_call_of 41 (Value.int .u8 115); refine (has_s HK hk8 ps _).mono ?_; rintro en w2 ⟨rfl, hK2⟩; have kw := kw.trans hK2; have q1 := hK2.cell q1; have q2 := hK2.cell q2; have q3 := hK2.cell q3; have q4 := hK2.cell q4; have q5 := hK2.cell q5; have q6 := hK2.cell q6) | (go_at_call_of 41 (Value.int .u8 120); refine (has_x HK hk8 px _).mono ?_; rintro en w2 ⟨rfl, hK2⟩; have kw := kw.trans hK2; have q1 := hK2.cell q1; have q2 := hK2.cell q2; have q3 := hK2.cell q3; have q4 := hK2.cell q4; have q5 := hK2.cell q5; have q6 := hK2.cell q6))
  go_ret
  exact ⟨by rw [H.out]; rfl, kw⟩
set_option maxRecDepth 100000 in
set_option maxHeartbeats 4000000 in
theorem rplain_abcd (e : Ev) (A : Option Addr) (c k : Nat) (w : World) (hk : e.kind = (k : Int)) (hc : k = 6) (h3 : e.c = 0 ∨ e.c = 1) (h4 : e.bytes.length ≤ 600) :
    Calls Tryz.prog 12 #[evV e (.slice A e.bytes.length c)] w fun en w' => en = .returned (.bool (plainP e)) ∧ Kp w w' := by
  have hk8 : k ≤ 8 := by omega
  have pa := Lib.hid (show decide (Pt.a ∈ partsOf k) = true by rcases hc with rfl <;> decide)
  have pb := Lib.hid (show decide (Pt.b ∈ partsOf k) = true by rcases hc with rfl <;> decide)
  have pc := Lib.hid (show decide (Pt.c ∈ partsOf k) = true by rcases hc with rfl <;> decide)
  have pd := Lib.hid (show decide (Pt.d ∈ partsOf k) = true by rcases hc with rfl <;> decide)
  have ps := Lib.hid (show decide (Pt.s ∈ partsOf k) = false by rcases hc with rfl <;> decide)
  have px := Lib.hid (show decide (Pt.x ∈ partsOf k) = false by rcases hc with rfl <;> decide)
  have HP := Lib.hid (show plainP e = decide (e.src = 0 ∧ e.bytes = []) by
    obtain ⟨kd, ea, eb, ec, ed, es, ex⟩ := e
    simp only at hk h3 h4 ⊢
    subst hk
    rw [Bool.eq_iff_iff, decide_eq_true_iff]
    rcases hc with rfl <;> simp only [plainP, partsOf, List.foldl_cons, List.foldl_nil, putE, ev0, Bool.and_eq_true, decide_eq_true_eq, Ev.mk.injEq, Int.toNat_natCast, true_and, and_true] <;> grind)
  have g1 : decide (e.kind < 1) = false := decide_eq_false (by omega)
  have g2 : decide ((8 : Int) < e.kind) = false := decide_eq_false (by omega)
  have g3 : decide (e.c < 0) = false := decide_eq_false (by omega)
  have g4 : decide ((1 : Int) < e.c) = false := decide_eq_false (by omega)
  have g5 : decide ((600 : Int) < (e.bytes.length : Int)) = false := decide_eq_false (by omega)
  clear h3 h4 hc
  have HK := Lib.hid hk
  clear hk
  by_cases zs : e.src = 0
  rotate_left
  · have H := Lib.hid (show plainP e = false by rw [HP.out, decide_eq_false]; intro h; exact zs h.1)
    have ys : ((e.src : Int) == 0) = false := by rw [beq_eq_false_iff_ne]; omega
    clear zs
    go_enter Tryz.func12, Tryz.ntmps12
    go_wp2_with fail
    obtain ⟨W, hW, kw, q1, q2, q3, q4, q5, q6⟩ : ∃ W, w.alloc (.cells (evC e (.slice A e.bytes.length c)) 27) = W ∧ Kp w W ∧ W.cell? ⟨w.heap.size, 1, none⟩ = some (.int .i64 e.a) ∧ W.cell? ⟨w.heap.size, 2, none⟩ = some (.int .i64 e.b) ∧ W.cell? ⟨w.heap.size, 3, none⟩ = some (.int .i64 e.c) ∧ W.cell? ⟨w.heap.size, 4, none⟩ = some (.int .i64 e.draw) ∧ W.cell? ⟨w.heap.size, 5, none⟩ = some (.int .u32 (e.src : Int)) ∧ W.cell? ⟨w.heap.size, 6, none⟩ = some (.slice A e.bytes.length c) := ⟨_, rfl, (Kp.refl w).alloc _, (Blk.new w _ _).cell 1, (Blk.new w _ _).cell 2, (Blk.new w _ _).cell 3, (Blk.new w _ _).cell 4, (Blk.new w _ _).cell 5, (Blk.new w _ _).cell 6⟩
    simp only [evC] at hW
    rw [hW]
    clear hW
    go_wp2_with (first | (go_at_call_of 41 (Value.int .u8 97); refine (has_a HK hk8 pa _).mono ?_; rintro en w2 ⟨rfl, hK2⟩; have kw := kw.trans hK2; have q1 := hK2.cell q1; have q2 := hK2.cell q2; have q3 := hK2.cell q3; have q4 := hK2.cell q4; have q5 := hK2.cell q5; have q6 := hK2.cell q6) | (go_at_call_of 41 (Value.int .u8 98); refine (has_b HK hk8 pb _).mono ?_; rintro en w2 ⟨rfl, hK2⟩; have kw := kw.trans hK2; have q1 := hK2.cell q1; have q2 := hK2.cell q2; have q3 := hK2.cell q3; have q4 := hK2.cell q4; have q5 := hK2.cell q5; have q6 := hK2.cell q6) | (go_at_call_of 41 (Value.int .u8 99); refine (has_c HK hk8 pc _).mono ?_; rintro en w2 ⟨rfl, hK2⟩; have kw := kw.trans hK2; have q1 := hK2.cell q1; have q2 := hK2.cell q2; have q3 := hK2.cell q3; have q4 := hK2.cell q4; have q5 := hK2.cell q5; have q6 := hK2.cell q6) | (go_at_call_of 41 (Value.int .u8 100); refine (has_d HK hk8 pd _).mono ?_; rintro en w2 ⟨rfl, hK2⟩; have kw := kw.trans hK2; have q1 := hK2.cell q1; have q2 := hK2.cell q2; have q3 := hK2.cell q3; have q4 := hK2.cell q4; have q5 := hK2.cell q5; have q6 := hK2.cell q6) | (go_at_call_of 41 (Value.int .u8 115); refine (has_s HK hk8 ps _).mono ?_; rintro en w2 ⟨rfl, hK2⟩; have kw := kw.trans hK2; have q1 := hK2.cell q1; have q2 := hK2.cell q2; have q3 := hK2.cell q3; have q4 := hK2.cell q4; have q5 := hK2.cell q5; have q6 := hK2.cell q6) | (go_at_call_of 41 (Value.int .u8 120); refine (has_x HK hk8 px _).mono ?_; rintro en w2 ⟨rfl, hK2⟩; have kw := kw.trans hK2; have q1 := hK2.cell q1; have q2 := hK2.cell q2; have q3 := hK2.cell q3; have q4 := hK2.cell q4; have q5 := hK2.cell q5; have q6 := hK2.cell q6))
    go_ret
    exact ⟨by rw [H.out]; rfl, kw⟩
  have ys : ((e.src : Int) == 0) = true := by rw [zs]; rfl
  by_cases zx : e.bytes = []
  rotate_left
  · have H := Lib.hid (show plainP e = false by rw [HP.out, decide_eq_false]; intro h; exact zx h.2)
    have yx : ((e.bytes.length : Int) == 0) = false := by rw [beq_eq_false_iff_ne]; have := List.length_pos_iff.2 zx; omega
    clear zs zx
    go_enter Tryz.func12, Tryz.ntmps12
    go_wp2_with fail
    obtain ⟨W, hW, kw, q1, q2, q3, q4, q5, q6⟩ : ∃ W, w.alloc (.cells (evC e (.slice A e.bytes.length c)) 27) = W ∧ Kp w W ∧ W.cell? ⟨w.heap.size, 1, none⟩ = some (.int .i64 e.a) ∧ W.cell? ⟨w.heap.size, 2, none⟩ = some (.int .i64 e.b) ∧ W.cell? ⟨w.heap.size, 3, none⟩ = some (.int .i64 e.c) ∧ W.cell? ⟨w.heap.size, 4, none⟩ = some (.int .i64 e.draw) ∧ W.cell? ⟨w.heap.size, 5, none⟩ = some (.int .u32 (e.src : Int)) ∧ W.cell? ⟨w.heap.size, 6, none⟩ = some (.slice A e.bytes.length c) := ⟨_, rfl, (Kp.refl w).alloc _, (Blk.new w _ _).cell 1, (Blk.new w _ _).cell 2, (Blk.new w _ _).cell 3, (Blk.new w _ _).cell 4, (Blk.new w _ _).cell 5, (Blk.new w _ _).cell 6⟩
    simp only [evC] at hW
    rw [hW]
    clear hW
    go_wp2_with (first | (go_at_call_of 41 (Value.int .u8 97); refine (has_a HK hk8 pa _).mono ?_; rintro en w2 ⟨rfl, hK2⟩; have kw := kw.trans hK2; have q1 := hK2.cell q1; have q2 := hK2.cell q2; have q3 := hK2.cell q3; have q4 := hK2.cell q4; have q5 := hK2.cell q5; have q6 := hK2.cell q6) | (go_at_call_of 41 (Value.int .u8 98); refine (has_b HK hk8 pb _).mono ?_; rintro en w2 ⟨rfl, hK2⟩; have kw := kw.trans hK2; have q1 := hK2.cell q1; have q2 := hK2.cell q2; have q3 := hK2.cell q3; have q4 := hK2.cell q4; have q5 := hK2.cell q5; have q6 := hK2.cell q6) | (go_at_call_of 41 (Value.int .u8 99); refine (has_c HK hk8 pc _).mono ?_; rintro en w2 ⟨rfl, hK2⟩; have kw := kw.trans hK2; have q1 := hK2.cell q1; have q2 := hK2.cell q2; have q3 := hK2.cell q3; have q4 := hK2.cell q4; have q5 := hK2.cell q5; have q6 := hK2.cell q6) | (go_at_call_of 41 (Value.int .u8 100); refine (has_d HK hk8 pd _).mono ?_; rintro en w2 ⟨rfl, hK2⟩; have kw := kw.trans hK2; have q1 := hK2.cell q1; have q2 := hK2.cell q2; have q3 := hK2.cell q3; have q4 := hK2.cell q4; have q5 := hK2.cell q5; have q6 := hK2.cell q6) | (go_at_call_of 41 (Value.int .u8 115); refine (has_s HK hk8 ps _).mono ?_; rintro en w2 ⟨rfl, hK2⟩; have kw := kw.trans hK2; have q1 := hK2.cell q1; have q2 := hK2.cell q2; have q3 := hK2.cell q3; have q4 := hK2.cell q4; have q5 := hK2.cell q5; have q6 := hK2.cell q6) | (go_at_call_of 41 (Value.int .u8 120); refine (has_x HK hk8 px _).mono ?_; rintro en w2 ⟨rfl, hK2⟩; have kw := kw.trans hK2; have q1 := hK2.cell q1; have q2 := hK2.cell q2; have q3 := hK2.cell q3; have q4 := hK2.cell q4; have q5 := hK2.cell q5; have q6 := hK2.cell q6))
    go_ret
    exact ⟨by rw [H.out]; rfl, kw⟩
  have yx : ((e.bytes.length : Int) == 0) = true := by rw [zx]; rfl
  have H := Lib.hid (show plainP e = true by rw [HP.out, decide_eq_true_iff]; exact ⟨zs, zx⟩)
  clear zs zx
  go_enter Tryz.func12, Tryz.ntmps12
  go_wp2_with fail
  obtain ⟨W, hW, kw, q1, q2, q3, q4, q5, q6⟩ : ∃ W, w.alloc (.cells (evC e (.slice A e.bytes.length c)) 27) = W ∧ Kp w W ∧ W.cell? ⟨w.heap.size, 1, none⟩ = some (.int .i64 e.a) ∧ W.cell? ⟨w.heap.size, 2, none⟩ = some (.int .i64 e.b) ∧ W.cell? ⟨w.heap.size, 3, none⟩ = some (.int .i64 e.c) ∧ W.cell? ⟨w.heap.size, 4, none⟩ = some (.int .i64 e.draw) ∧ W.cell? ⟨w.heap.size, 5, none⟩ = some (.int .u32 (e.src : Int)) ∧ W.cell? ⟨w.heap.size, 6, none⟩ = some (.slice A e.bytes.length c) := ⟨_, rfl, (Kp.refl w).alloc _, (Blk.new w _ _).cell 1, (Blk.new w _ _).cell 2, (Blk.new w _ _).cell 3, (Blk.new w _ _).cell 4, (Blk.new w _ _).cell 5, (Blk.new w _ _).cell 6⟩
  simp only [evC] at hW
  rw [hW]
  clear hW
  go_wp2_with (first | (go_at_call_of 41 (Value.int .u8 97); refine (has_a HK hk8 pa _).mono ?_; rintro en w2 ⟨rfl, hK2⟩; have kw := kw.trans hK2; have q1 := hK2.cell q1; have q2 := hK2.cell q2; have q3 := hK2.cell q3; have q4 := hK2.cell q4; have q5 := hK2.cell q5; have q6 := hK2.cell q6) | (go_at_call_of 41 (Value.int .u8 98); refine (has_b HK hk8 pb _).mono ?_; rintro en w2 ⟨rfl, hK2⟩; have kw := kw.trans hK2; have q1 := hK2.cell q1; have q2 := hK2.cell q2; have q3 := hK2.cell q3; have q4 := hK2.cell q4; have q5 := hK2.cell q5; have q6 := hK2.cell q6) | (go_at_call_of 41 (Value.int .u8 99); refine (has_c HK hk8 pc _).mono ?_; rintro en w2 ⟨rfl, hK2⟩; have kw := kw.trans hK2; have q1 := hK2.cell q1; have q2 := hK2.cell q2; have q3 := hK2.cell q3; have q4 := hK2.cell q4; have q5 := hK2.cell q5; have q6 := hK2.cell q6) | (go_at_call_of 41 (Value.int .u8 100); refine (has_d HK hk8 pd _).mono ?_; rintro en w2 ⟨rfl, hK2⟩; have kw := kw.trans hK2; have q1 := hK2.cell q1; have q2 := hK2.cell q2; have q3 := hK2.cell q3; have q4 := hK2.cell q4; have q5 := hK2.cell q5; have q6 := hK2.cell q6) | (go_at_call_of 41 (Value.int .u8 115); refine (has_s HK hk8 ps _).mono ?_; rintro en w2 ⟨rfl, hK2⟩; have kw := kw.trans hK2; have q1 := hK2.cell q1; have q2 := hK2.cell q2; have q3 := hK2.cell q3; have q4 := hK2.cell q4; have q5 := hK2.cell q5; have q6 := hK2.cell q6) | (go_at_call_of 41 (Value.int .u8 120); refine (has_x HK hk8 px _).mono ?_; rintro en w2 ⟨rfl, hK2⟩; have kw := kw.trans hK2; have q1 := hK2.cell q1; have q2 := hK2.cell q2; have q3 := hK2.cell q3; have q4 := hK2.cell q4; have q5 := hK2.cell q5; have q6 := hK2.cell q6))
  go_ret
  exact ⟨by rw [H.out]; rfl, kw⟩
set_option maxRecDepth 100000 in
set_option maxHeartbeats 4000000 in
theorem rplain_abdsx (e : Ev) (A : Option Addr) (c k : Nat) (w : World) (hk : e.kind = (k : Int)) (hc : k = 8) (h3 : e.c = 0 ∨ e.c = 1) (h4 : e.bytes.length ≤ 600) :
    Calls Tryz.prog 12 #[evV e (.slice A e.bytes.length c)] w fun en w' => en = .returned (.bool (plainP e)) ∧ Kp w w' := by
  have hk8 : k ≤ 8 := by omega
  have pa := Lib.hid (show decide (Pt.a ∈ partsOf k) = true by rcases hc with rfl <;> decide)
  have pb := Lib.hid (show decide (Pt.b ∈ partsOf k) = true by rcases hc with rfl <;> decide)
  have pc := Lib.hid (show decide (Pt.c ∈ partsOf k) = false by rcases hc with rfl <;> decide)
  have pd := Lib.hid (show decide (Pt.d ∈ partsOf k) = true by rcases hc with rfl <;> decide)
  have ps := Lib.hid (show decide (Pt.s ∈ partsOf k) = true by rcases hc with rfl <;> decide)
  have px := Lib.hid (show decide (Pt.x ∈ partsOf k) = true by rcases hc with rfl <;> decide)
  have HP := Lib.hid (show plainP e = decide (e.c = 0) by
    obtain ⟨kd, ea, eb, ec, ed, es, ex⟩ := e
    simp only at hk h3 h4 ⊢
    subst hk
    rw [Bool.eq_iff_iff, decide_eq_true_iff]
    rcases hc with rfl <;> simp only [plainP, partsOf, List.foldl_cons, List.foldl_nil, putE, ev0, Bool.and_eq_true, decide_eq_true_eq, Ev.mk.injEq, Int.toNat_natCast, true_and, and_true] <;> grind)
  have g1 : decide (e.kind < 1) = false := decide_eq_false (by omega)
  have g2 : decide ((8 : Int) < e.kind) = false := decide_eq_false (by omega)
  have g3 : decide (e.c < 0) = false := decide_eq_false (by omega)
  have g4 : decide ((1 : Int) < e.c) = false := decide_eq_false (by omega)
  have g5 : decide ((600 : Int) < (e.bytes.length : Int)) = false := decide_eq_false (by omega)
  clear h3 h4 hc
  have HK := Lib.hid hk
  clear hk
  by_cases zc : e.c = 0
  rotate_left
  · have H := Lib.hid (show plainP e = false by rw [HP.out, decide_eq_false]; intro h; exact zc h)
    have yc : (e.c == 0) = false := by rw [beq_eq_false_iff_ne]; exact zc
    clear zc
    go_enter Tryz.func12, Tryz.ntmps12
    go_wp2_with fail
    obtain ⟨W, hW, kw, q1, q2, q3, q4, q5, q6⟩ : ∃ W, w.alloc (.cells (evC e (.slice A e.bytes.length c)) 27) = W ∧ Kp w W ∧ W.cell? ⟨w.heap.size, 1, none⟩ = some (.int .i64 e.a) ∧ W.cell? ⟨w.heap.size, 2, none⟩ = some (.int .i64 e.b) ∧ W.cell? ⟨w.heap.size, 3, none⟩ = some (.int .i64 e.c) ∧ W.cell? ⟨w.heap.size, 4, none⟩ = some (.int .i64 e.draw) ∧ W.cell? ⟨w.heap.size, 5, none⟩ = some (.int .u32 (e.src : Int)) ∧ W.cell? ⟨w.heap.size, 6, none⟩ = some (.slice A e.bytes.length c) := ⟨_, rfl, (Kp.refl w).alloc _, (Blk.new w _ _).cell 1, (Blk.new w _ _).cell 2, (Blk.new w _ _).cell 3, (Blk.new w _ _).cell 4, (Blk.new w _ _).cell 5, (Blk.new w _ _).cell 6⟩
    simp only [evC] at hW
    rw [hW]
    clear hW
    go_wp2_with (first | (go_at_call_of 41 (Value.int .u8 97); refine (has_a HK hk8 pa _).mono ?_; rintro en w2 ⟨rfl, hK2⟩; have kw := kw.trans hK2; have q1 := hK2.cell q1; have q2 := hK2.cell q2; have q3 := hK2.cell q3; have q4 := hK2.cell q4; have q5 := hK2.cell q5; have q6 := hK2.cell q6) | (go_at_call_of 41 (Value.int .u8 98); refine (has_b HK hk8 pb _).mono ?_; rintro en w2 ⟨rfl, hK2⟩; have kw := kw.trans hK2; have q1 := hK2.cell q1; have q2 := hK2.cell q2; have q3 := hK2.cell q3; have q4 := hK2.cell q4; have q5 := hK2.cell q5; have q6 := hK2.cell q6) | (go_at_call_of 41 (Value.int .u8 99); refine (has_c HK hk8 pc _).mono ?_; rintro en w2 ⟨rfl, hK2⟩; have kw := kw.trans hK2; have q1 := hK2.cell q1; have q2 := hK2.cell q2; have q3 := hK2.cell q3; have q4 := hK2.cell q4; have q5 := hK2.cell q5; have q6 := hK2.cell q6) | (go_at_call_of 41 (Value.int .u8 100); refine (has_d HK hk8 pd _).mono ?_; rintro en w2 ⟨rfl, hK2⟩; have kw := kw.trans hK2; have q1 := hK2.cell q1; have q2 := hK2.cell q2; have q3 := hK2.cell q3; have q4 := hK2.cell q4; have q5 := hK2.cell q5; have q6 := hK2.cell q6) | (go_at_call_of 41 (Value.int .u8 115); refine (has_s HK hk8 ps _).mono ?_; rintro en w2 ⟨rfl, hK2⟩; have kw := kw.trans hK2; have q1 := hK2.cell q1; have q2 := hK2.cell q2; have q3 := hK2.cell q3; have q4 := hK2.cell q4; have q5 := hK2.cell q5; have q6 := hK2.cell q6) | (go_at_call_of 41 (Value.int .u8 120); refine (has_x HK hk8 px _).mono ?_; rintro en w2 ⟨rfl, hK2⟩; have kw := kw.trans hK2; have q1 := hK2.cell q1; have q2 := hK2.cell q2; have q3 := hK2.cell q3; have q4 := hK2.cell q4; have q5 := hK2.cell q5; have q6 := hK2.cell q6))
    go_ret
    exact ⟨by rw [H.out]; rfl, kw⟩
  have yc : (e.c == 0) = true := by rw [zc]; rfl
  have H := Lib.hid (show plainP e = true by rw [HP.out, decide_eq_true_iff]; exact zc)
  clear zc
  go_enter Tryz.func12, Tryz.ntmps12
  go_wp2_with fail
  obtain ⟨W, hW, kw, q1, q2, q3, q4, q5, q6⟩ : ∃ W, w.alloc (.cells (evC e (.slice A e.bytes.length c)) 27) = W ∧ Kp w W ∧ W.cell? ⟨w.heap.size, 1, none⟩ = some (.int .i64 e.a) ∧ W.cell? ⟨w.heap.size, 2, none⟩ = some (.int .i64 e.b) ∧ W.cell? ⟨w.heap.size, 3, none⟩ = some (.int .i64 e.c) ∧ W.cell? ⟨w.heap.size, 4, none⟩ = some (.int .i64 e.draw) ∧ W.cell? ⟨w.heap.size, 5, none⟩ = some (.int .u32 (e.src : Int)) ∧ W.cell? ⟨w.heap.size, 6, none⟩ = some (.slice A e.bytes.length c) := ⟨_, rfl, (Kp.refl w).alloc _, (Blk.new w _ _).cell 1, (Blk.new w _ _).cell 2, (Blk.new w _ _).cell 3, (Blk.new w _ _).cell 4, (Blk.new w _ _).cell 5, (Blk.new w _ _).cell 6⟩
  simp only [evC] at hW
  rw [hW]
  clear hW
  go_wp2_with (first | (go_at_call_of 41 (Value.int .u8 97); refine (has_a HK hk8 pa _).mono ?_; rintro en w2 ⟨rfl, hK2⟩; have kw := kw.trans hK2; have q1 := hK2.cell q1; have q2 := hK2.cell q2; have q3 := hK2.cell q3; have q4 := hK2.cell q4; have q5 := hK2.cell q5; have q6 := hK2.cell q6) | (go_at_call_of 41 (Value.int .u8 98); refine (has_b HK hk8 pb _).mono ?_; rintro en w2 ⟨rfl, hK2⟩; have kw := kw.trans hK2; have q1 := hK2.cell q1; have q2 := hK2.cell q2; have q3 := hK2.cell q3; have q4 := hK2.cell q4; have q5 := hK2.cell q5; have q6 := hK2.cell q6) | (go_at_call_of 41 (Value.int .u8 99); refine (has_c HK hk8 pc _).mono ?_; rintro en w2 ⟨rfl, hK2⟩; have kw := kw.trans hK2; have q1 := hK2.cell q1; have q2 := hK2.cell q2; have q3 := hK2.cell q3; have q4 := hK2.cell q4; have q5 := hK2.cell q5; have q6 := hK2.cell q6) | (go_at_call_of 41 (Value.int .u8 100); refine (has_d HK hk8 pd _).mono ?_; rintro en w2 ⟨rfl, hK2⟩; have kw := kw.trans hK2; have q1 := hK2.cell q1; have q2 := hK2.cell q2; have q3 := hK2.cell q3; have q4 := hK2.cell q4; have q5 := hK2.cell q5; have q6 := hK2.cell q6) | (go_at_call_of 41 (Value.int .u8 115); refine (has_s HK hk8 ps _).mono ?_; rintro en w2 ⟨rfl, hK2⟩; have kw := kw.trans hK2; have q1 := hK2.cell q1; have q2 := hK2.cell q2; have q3 := hK2.cell q3; have q4 := hK2.cell q4; have q5 := hK2.cell q5; have q6 := hK2.cell q6) | (go_at_call_of 41 (Value.int .u8 120); refine (has_x HK hk8 px _).mono ?_; rintro en w2 ⟨rfl, hK2⟩; have kw := kw.trans hK2; have q1 := hK2.cell q1; have q2 := hK2.cell q2; have q3 := hK2.cell q3; have q4 := hK2.cell q4; have q5 := hK2.cell q5; have q6 := hK2.cell q6))
  go_ret
  exact ⟨by rw [H.out]; rfl, kw⟩
theorem rplain_any (e : Ev) (A : Option Addr) (c : Nat) (w : World) : Calls Tryz.prog 12 #[evV e (.slice A e.bytes.length c)] w fun en w' => en = .returned (.bool (plainP e)) ∧ Kp w w' := by
  by_cases h : ¬ (1 ≤ e.kind ∧ e.kind ≤ 8) ∨ ¬ (e.c = 0 ∨ e.c = 1) ∨ ¬ e.bytes.length ≤ 600
  · exact rplain_bad e _ A c rfl w h
  · simp only [not_or, Decidable.not_not] at h
    obtain ⟨hk, h3, h4⟩ := h
    replace h3 : e.c = 0 ∨ e.c = 1 := by omega
    obtain ⟨k, hkk⟩ : ∃ k : Nat, e.kind = (k : Int) := ⟨e.kind.toNat, by omega⟩
    have : k = 1 ∨ k = 2 ∨ k = 3 ∨ k = 4 ∨ k = 5 ∨ k = 6 ∨ k = 7 ∨ k = 8 := by omega
    rcases this with h | h | h | h | h | h | h | h
    · exact rplain_d e A c k w hkk h h3 h4
    · exact rplain_ad e A c k w hkk (.inl h) h3 h4
    · exact rplain_ad e A c k w hkk (.inr (.inl h)) h3 h4
    · exact rplain_a e A c k w hkk h h3 h4
    · exact rplain_ac e A c k w hkk h h3 h4
    · exact rplain_abcd e A c k w hkk h h3 h4
    · exact rplain_ad e A c k w hkk (.inr (.inr h)) h3 h4
    · exact rplain_abdsx e A c k w hkk h h3 h4
end Go.Proofs.YtbfimimhgdkpaaaGreatDoor

/- Layer 26: num, works. No condition but the library's variables. -/
namespace Go.Proofs.YtbfimimhgdkpaaaGreatDoor
open Go.RowKit

theorem num26_any (n : Int) (w : World) : Calls Tryz.prog 13 #[.int .i64 n] w fun e w' => e = .returned (.int .i64 n) ∧ w = w' := by
  go_enter Tryz.func13, Tryz.ntmps13
  go_wp2_with fail
  go_ret
  exact ⟨rfl, rfl⟩
theorem plain_1 : plainP ⟨1, 0, 0, 0, -3, 0, []⟩ = true := by decide +kernel
theorem text_1 : textE ⟨1, 0, 0, 0, -3, 0, []⟩ = [116, 105, 99, 107, 32, 45, 51] := by decide +kernel
theorem plain_2 : plainP ⟨5, 1, 0, 1, 0, 0, []⟩ = true := by decide +kernel
theorem text_2 : textE ⟨5, 1, 0, 1, 0, 0, []⟩ = [99, 117, 116, 32, 49, 32, 117, 112] := by decide +kernel
theorem plain_3 : plainP ⟨8, 0, 2, 0, 5, 167772418, [2, 10]⟩ = true := by decide +kernel
theorem text_3 : textE ⟨8, 0, 2, 0, 5, 167772418, [2, 10]⟩ = [98, 121, 116, 101, 115, 32, 48, 32, 50, 32, 49, 48, 46, 48, 46, 49, 46, 50, 32, 48, 50, 48, 97, 32, 53] := by decide +kernel
theorem parse_1 : parseE [116, 105, 99, 107, 32, 48, 51] = none := by decide +kernel
theorem parse_2 : parseE [116, 105, 99, 107] = none := by decide +kernel
theorem parse_3 : parseE [99, 117, 116, 32, 49, 32, 111, 110] = none := by decide +kernel
theorem read_1 : refReadE [116, 105, 99, 107, 32, 48, 10, 109, 97, 105, 108, 32, 48, 32, 48] = ([], 1, 260) := by decide +kernel
theorem wtext_1 (w : World) (L : LibOk w) : Calls Tryz.prog 11 #[.agg #[.int .i64 1, .int .i64 0, .int .i64 0, .int .i64 0, .int .i64 (-3), .int .u32 0, .slice none 0 0]] w fun en w' => en = .returned (.tuple #[.string ⟨#[116, 105, 99, 107, 32, 45, 51]⟩, .int .i64 0]) ∧ Kp w w' := by
  have h := text_any ⟨1, 0, 0, 0, -3, 0, []⟩ none 0 w L ⟨by decide, by decide, by decide, by decide, by decide, by decide, by decide⟩ (by decide) (by decide) (Rd.nil _ _ _ _) (by decide)
  rw [if_pos plain_1, text_1] at h
  exact h
theorem wtext_2 (w : World) (L : LibOk w) : Calls Tryz.prog 11 #[.agg #[.int .i64 5, .int .i64 1, .int .i64 0, .int .i64 1, .int .i64 0, .int .u32 0, .slice none 0 0]] w fun en w' => en = .returned (.tuple #[.string ⟨#[99, 117, 116, 32, 49, 32, 117, 112]⟩, .int .i64 0]) ∧ Kp w w' := by
  have h := text_any ⟨5, 1, 0, 1, 0, 0, []⟩ none 0 w L ⟨by decide, by decide, by decide, by decide, by decide, by decide, by decide⟩ (by decide) (by decide) (Rd.nil _ _ _ _) (by decide)
  rw [if_pos plain_2, text_2] at h
  exact h
theorem wtext_3 (w : World) (L : LibOk w) (g : Nat) (hB : Blk w g 5 #[.int .u8 2, .int .u8 10]) : Calls Tryz.prog 11 #[.agg #[.int .i64 8, .int .i64 0, .int .i64 2, .int .i64 0, .int .i64 5, .int .u32 167772418, .slice (some ⟨g, 0, none⟩) 2 2]] w fun en w' => en = .returned (.tuple #[.string ⟨#[98, 121, 116, 101, 115, 32, 48, 32, 50, 32, 49, 48, 46, 48, 46, 49, 46, 50, 32, 48, 50, 48, 97, 32, 53]⟩, .int .i64 0]) ∧ Kp w w' := by
  have hR : Rd w 1 byteE (some ⟨g, 0, none⟩) [2, 10] := Rd.of_blk hB (by decide) byteE_len (by simp [maxLen]) (by rfl)
  have h := text_any ⟨8, 0, 2, 0, 5, 167772418, [2, 10]⟩ (some ⟨g, 0, none⟩) 2 w L ⟨by decide, by decide, by decide, by decide, by decide, by decide, by decide⟩ (by decide) (by decide) hR (by decide)
  rw [if_pos plain_3, text_3] at h
  exact h
theorem wparse_1 (w : World) (L : LibOk w) : Calls Tryz.prog 14 #[.string ⟨#[116, 105, 99, 107, 32, 48, 51]⟩] w fun en w' => en = .returned (.tuple #[.agg #[.int .i64 0, .int .i64 0, .int .i64 0, .int .i64 0, .int .i64 0, .int .u32 0, .slice none 0 0], .int .i64 260]) ∧ Kp w w' := by
  refine (parse_any ⟨#[116, 105, 99, 107, 32, 48, 51]⟩ (by decide) w L).mono ?_
  rintro en w' ⟨hK, _, hN⟩
  exact ⟨hN parse_1, hK⟩
theorem wparse_2 (w : World) (L : LibOk w) : Calls Tryz.prog 14 #[.string ⟨#[116, 105, 99, 107]⟩] w fun en w' => en = .returned (.tuple #[.agg #[.int .i64 0, .int .i64 0, .int .i64 0, .int .i64 0, .int .i64 0, .int .u32 0, .slice none 0 0], .int .i64 260]) ∧ Kp w w' := by
  refine (parse_any ⟨#[116, 105, 99, 107]⟩ (by decide) w L).mono ?_
  rintro en w' ⟨hK, _, hN⟩
  exact ⟨hN parse_2, hK⟩
theorem wparse_3 (w : World) (L : LibOk w) : Calls Tryz.prog 14 #[.string ⟨#[99, 117, 116, 32, 49, 32, 111, 110]⟩] w fun en w' => en = .returned (.tuple #[.agg #[.int .i64 0, .int .i64 0, .int .i64 0, .int .i64 0, .int .i64 0, .int .u32 0, .slice none 0 0], .int .i64 260]) ∧ Kp w w' := by
  refine (parse_any ⟨#[99, 117, 116, 32, 49, 32, 111, 110]⟩ (by decide) w L).mono ?_
  rintro en w' ⟨hK, _, hN⟩
  exact ⟨hN parse_3, hK⟩
theorem wread_1 (w : World) (L : LibOk w) : Calls Tryz.prog 26 #[.string ⟨#[116, 105, 99, 107, 32, 48, 10, 109, 97, 105, 108, 32, 48, 32, 48]⟩] w fun en w' => (∃ A c, en = .returned (.tuple #[.slice A 0 c, .int .i64 1, .int .i64 260])) ∧ Kp w w' := by
  refine (read_any ⟨#[116, 105, 99, 107, 32, 48, 10, 109, 97, 105, 108, 32, 48, 32, 48]⟩ (by decide) w L).mono ?_
  rintro en w' ⟨hK, A, c, e, _⟩
  have h : refReadE (⟨#[116, 105, 99, 107, 32, 48, 10, 109, 97, 105, 108, 32, 48, 32, 48]⟩ : ByteArray).data.toList = ([], 1, 260) := read_1
  rw [h] at e
  exact ⟨⟨A, c, e⟩, hK⟩
set_option maxRecDepth 100000 in
set_option maxHeartbeats 4000000 in
theorem works26_any (w : World) (L : LibOk w) : Calls Tryz.prog 10 #[] w fun e w' => e = .returned (.bool true) ∧ Kp w w' := by
  have HL := Lib.hid L; clear L
  go_enter Tryz.func10, Tryz.ntmps10
  go_wp2_with fail
  refine (wtext_1 _ HL.out).mono ?_
  rintro e w1 ⟨rfl, K1⟩
  go_wp2_with fail
  refine (wtext_2 _ (HL.out.keep K1)).mono ?_
  rintro e w2 ⟨rfl, K2⟩
  replace K2 := K1.trans K2
  clear K1
  go_wp2_with fail
  have B3 := Blk.new w2 5 #[.int .u8 2, .int .u8 10]
  have K3 : Kp w (w2.alloc (.cells #[.int .u8 2, .int .u8 10] 5)) := K2.alloc _
  refine (wtext_3 _ (HL.out.keep K3) _ B3).mono ?_
  rintro e w3 ⟨rfl, K4⟩
  replace K4 := K3.trans K4
  clear K3 B3 K2
  go_wp2_with fail
  refine (wparse_1 _ (HL.out.keep K4)).mono ?_
  rintro e w4 ⟨rfl, K5⟩
  replace K5 := K4.trans K5
  clear K4
  go_wp2_with fail
  obtain ⟨W5, hW5, k5⟩ : ∃ W5, w4.alloc (.cells #[.int .i64 0, .int .i64 0, .int .i64 0, .int .i64 0, .int .i64 0, .int .u32 0, .slice none 0 0] 27) = W5 ∧ Kp w W5 := ⟨_, rfl, K5.alloc _⟩
  rw [hW5]
  clear hW5 K5
  refine (wparse_2 _ (HL.out.keep k5)).mono ?_
  rintro e w6 ⟨rfl, K6⟩
  replace K6 := k5.trans K6
  clear k5
  go_wp2_with fail
  obtain ⟨W7, hW7, k7⟩ : ∃ W7, w6.alloc (.cells #[.int .i64 0, .int .i64 0, .int .i64 0, .int .i64 0, .int .i64 0, .int .u32 0, .slice none 0 0] 27) = W7 ∧ Kp w W7 := ⟨_, rfl, K6.alloc _⟩
  rw [hW7]
  clear hW7 K6
  refine (wparse_3 _ (HL.out.keep k7)).mono ?_
  rintro e w8 ⟨rfl, K8⟩
  replace K8 := k7.trans K8
  clear k7
  go_wp2_with fail
  obtain ⟨W9, hW9, k9⟩ : ∃ W9, w8.alloc (.cells #[.int .i64 0, .int .i64 0, .int .i64 0, .int .i64 0, .int .i64 0, .int .u32 0, .slice none 0 0] 27) = W9 ∧ Kp w W9 := ⟨_, rfl, K8.alloc _⟩
  rw [hW9]
  clear hW9 K8
  refine (wread_1 _ (HL.out.keep k9)).mono ?_
  rintro e w10 ⟨⟨A, c, rfl⟩, K10⟩
  replace K10 := k9.trans K10
  clear k9
  go_wp2_with (first | (go_at_call 13; refine (num26_any _ _).mono ?_; rintro e w' ⟨rfl, rfl⟩))
  go_ret
  exact ⟨rfl, K10⟩
end Go.Proofs.YtbfimimhgdkpaaaGreatDoor

/- Package script: Each, the iterator over a text's events. No condition but the stated bounds. -/
namespace Go.Proofs.YtbfimimhgdkpaaaGreatDoor
open Go.RowKit
attribute [local go_sem] Oper.semAt_some

theorem jump_normal26 {l : Nat} {J : Act → World → Prop} {Q : Exit → Act → World → Prop} {a : Act} {w : World} (h : Q .normal a w) : Exit.jump l J Q .normal a w := h
def eachEV (bx : Nat) : Value := .func (.func 76) #[] #[.pointer (some ⟨bx, 0, none⟩)]
set_option maxHeartbeats 400000 in
theorem eachE_any (s : ByteArray) (w : World) :
    Calls Tryz.prog 30 #[.string s] w fun e w' => e = .returned (eachEV w.heap.size) ∧ Blk w' w.heap.size 9 #[.string s] ∧ Kp w w' := by
  have hmf := makeFunc_run
  unfold eachEV
  go_enter Tryz.func30, Tryz.ntmps30
  go_wp2_with fail
  go_ret
  exact ⟨rfl, Blk.new w _ _, (Kp.refl _).alloc _⟩
theorem call_eachE1 (args : Array Value) (w : World) : (callFunc 76 args).run Tryz.prog w = .ok (.enter 76 args) w := by kernel_rfl
/-- What an event is handed over as. -/
def EachX (A : List (Nat × Ev)) (B k : Nat) (vs : Array Value) (V : World) : Prop :=
  ∃ n t A0 c, A[k]? = some (n, t) ∧ vs = #[.int .i64 (n : Nat), evV t (.slice A0 t.bytes.length c)] ∧ Rd V 1 byteE A0 t.bytes ∧ ∀ b o, A0 = some ⟨b, o, none⟩ → B ≤ b
structure EaI (I : Nat → Nat → World → Prop) (L : List (List UInt8 × Bool)) (A : List (Nat × Ev)) (yv : Value) (s : ByteArray) (n0 n1 n2 B j : Nat) (V : World) : Prop where
  b0 : Blk V n0 135 #[yv]
  b1 : Blk V n1 3 #[.int .i64 (j : Nat)]
  b2 : Blk V n2 9 #[.string s]
  ik : ∃ k, k ≤ A.length ∧ I B k V ∧ A.drop k = allL (L.drop j) j
set_option maxRecDepth 100000 in
set_option maxHeartbeats 4000000 in
theorem eachE1_iter (bx : Nat) (s : ByteArray) (hs : s.size ≤ 1000000) :
    IterT Tryz.prog 76 #[.pointer (some ⟨bx, 0, none⟩)] (allL (linesS s.data.toList) 0).length (EachX (allL (linesS s.data.toList) 0)) (fun V => Blk V bx 9 #[.string s] ∧ LibOk V) := by
  intro l W I Z hI hZ hM hM0 h0 hy
  obtain ⟨L, hL⟩ : ∃ L, linesS s.data.toList = L := ⟨_, rfl⟩
  have hit := fun bx => each1_iter bx s hs
  have hsub : ∀ y ∈ L, y.1.length ≤ 1000000 := by
    have hlen : s.data.toList.length = s.size := by rw [Array.length_toList]; rfl
    rw [← hL]
    exact fun y hy => Nat.le_trans (linesS_sub _ y hy) (by omega)
  have hLl : L.length ≤ 1000001 := by
    have hlen : s.data.toList.length = s.size := by rw [Array.length_toList]; rfl
    rw [← hL]; have := linesS_len s.data.toList; omega
  rw [hL] at hit hy ⊢
  obtain ⟨A, hA⟩ : ∃ A, allL L 0 = A := ⟨_, rfl⟩
  rw [hA] at hy ⊢
  have HI := Lib.hid hI
  have HZ := Lib.hid hZ
  have HM := Lib.hid hM
  have H0 := Lib.hid h0
  have HY := Lib.hid hy
  have Hit := Lib.hid hit
  have Hsub := Lib.hid hsub
  have HA := Lib.hid hA
  have c0 : W.cell? ⟨bx, 0, none⟩ = some (.string s) := hM0.1.cell 0
  clear hI hZ hM h0 hy hit hsub hL hA
  have al : ∀ o o', ((W.alloc o).alloc o').cell? ⟨bx, 0, none⟩ = some (.string s) := fun o o' => (((Kp.refl W).alloc o).alloc o').cell c0
  have b1 := (Blk.new W 135 #[.func (.yield l) #[] #[]]).alloc (.cells #[.int .i64 0] 3)
  have b2 := Blk.new1 W (.cells #[.func (.yield l) #[] #[]] 135) 3 #[.int .i64 0]
  have kw := ((Kp.refl W).alloc (.cells #[.func (.yield l) #[] #[]] 135)).alloc (.cells #[.int .i64 0] 3)
  clear c0 hM0
  refine calls_of_wp_marks Tryz.func76 rfl ?_; simp only [Tryz.ntmps76, List.size_toArray, List.length_cons, List.length_nil, Nat.reduceAdd, Nat.reduceSub, Array.replicate_succ, Array.replicate_zero, List.push_toArray, List.append_toArray, List.nil_append, List.cons_append]
  go_wp2_with fail
  refine wp_scope_fwd 0 rfl ?_
  go_wp2_with fail
  refine wp_label ?_
  go_wp2_with fail
  obtain ⟨W2, hW2, kW, B1, B2⟩ : ∃ W2, (W.alloc (.cells #[.func (.yield l) #[] #[]] 135)).alloc (.cells #[.int .i64 0] 3) = W2 ∧ Kp W W2 ∧ Blk W2 W.heap.size 135 #[.func (.yield l) #[] #[]] ∧ Blk W2 (W.heap.size + 1) 3 #[.int .i64 0] := ⟨_, rfl, kw, b1, b2⟩
  rw [hW2]
  clear hW2 kw b1 b2 al
  refine (each_any s W2).mono ?_
  rintro e w1 ⟨rfl, hBx, hK1⟩
  have hlt := B2.lt
  have hbx := hBx.lt
  obtain ⟨n2, hn2⟩ : ∃ n2, W2.heap.size = n2 := ⟨_, rfl⟩
  rw [hn2] at hBx hlt hbx ⊢
  clear hn2
  unfold eachV
  go_wp2_with fail
  have I0 : EaI I L A (.func (.yield l) #[] #[]) s W.heap.size (W.heap.size + 1) n2 (w1.heap.size + 2) 0 w1 := ⟨B1.keep hK1, B2.keep hK1, hBx, 0, Nat.zero_le _, H0.out _ w1 (kW.trans hK1) (by omega) (by omega), by rw [List.drop_zero, List.drop_zero]; exact HA.out.symm⟩
  clear B1 B2 hBx kW hK1 H0
  refine wp_range_join (N := L.length) rfl call_each1 (Hit.out n2) (fun _ _ => rfl) (EaI I L A (.func (.yield l) #[] #[]) s W.heap.size (W.heap.size + 1) n2 (w1.heap.size + 2)) (fun _ V => I (w1.heap.size + 2) A.length V ∨ ∃ k, 0 < k ∧ k ≤ A.length ∧ Z (w1.heap.size + 2) k V) (fun V => I (w1.heap.size + 2) A.length V ∨ ∃ k, 0 < k ∧ k ≤ A.length ∧ Z (w1.heap.size + 2) k V) ?_ ?_ (fun j V h => h.b2) I0 ?_ (fun _ _ _ _ h => h) ?_ ?_
  · rintro j V V' ⟨h1, h2, h3, k, hk, hi, hd⟩ hO
    have hT : Turn W.heap.size (w1.heap.size + 2) V V' := Turn.of_only hO (by simp; omega)
    exact ⟨h1.only hO (by simp; omega), h2.only hO (by simp; omega), h3.only hO (by simp; omega), k, hk, HI.out _ _ _ _ (by omega) hi hT, hd⟩
  · rintro j V V' h hO
    have hT : Turn W.heap.size (w1.heap.size + 2) V V' := Turn.of_only hO (by simp; omega)
    rcases h with h | ⟨k, h1, h2, h3⟩
    · exact .inl (HI.out _ _ _ _ (by omega) h hT)
    · exact .inr ⟨k, h1, h2, HZ.out _ _ _ _ (by omega) h3 hT⟩
  · rintro V ⟨_, _, _, k, hk, hi, hd⟩
    rw [List.drop_length] at hd
    simp only [allL, List.drop_eq_nil_iff] at hd
    obtain rfl : k = A.length := by omega
    exact .inl hi
  · intro l2 j V hj _
    gi_wp2_with fail
    refine ⟨trivial, ?_⟩
    intro U hU hsz
    obtain ⟨k, hk, hi, hd⟩ := hU.ik
    have c0 : U.cell? ⟨W.heap.size, 0, none⟩ = some (.func (.yield l) #[] #[]) := hU.b0.cell 0
    have c1 : U.cell? ⟨W.heap.size + 1, 0, none⟩ = some (.int .i64 (j : Nat)) := hU.b1.cell 0
    have z1 := hU.b1.frozen 0
    have LU : LibOk U := (HM.out _ _ _ (by omega) hi).2
    obtain ⟨x, en, hx⟩ : ∃ x en, lineAt L j = (x, en) := ⟨_, _, rfl⟩
    have hdr : L.drop j = (x, en) :: L.drop (j + 1) := by rw [List.drop_eq_getElem_cons hj, ← lineAt_eq hj, hx]
    rw [hdr, allL] at hd
    have hxl : x.length ≤ 1000000 := by
      have := Hsub.out (lineAt L j) (by rw [lineAt_eq hj]; exact List.getElem_mem hj)
      rw [hx] at this
      exact this
    have hj9 : (j : Int) + 1 ≤ 9223372036854775807 := by omega
    simp only [hx]
    clear hdr hx
    have over : A.drop k = [] → I (w1.heap.size + 2) A.length U := fun h => by
      rw [List.drop_eq_nil_iff] at h
      obtain rfl : k = A.length := by omega
      exact hi
    cases en with
    | false =>
      rw [if_pos rfl] at hd
      have Ho := Lib.hid (over hd)
      clear hd over
      refine wpIn_block ?_
      gi_wp2_with fail
      exact ⟨⟨rfl, rfl⟩, rfl, .inl Ho.out⟩
    | true =>
      rw [if_neg (by simp)] at hd
      by_cases hxe : x = []
      · rw [if_pos hxe] at hd
        have hb : (strB x).toList.isEmpty = true := by rw [Lib.toList_data, hxe]; rfl
        have hb2 : x.isEmpty = true := by rw [hxe]; rfl
        have Hd := Lib.hid hd
        clear hd hxe over
        refine wpIn_block ?_
        gi_wp2_with fail
        have Hn : EaI I L A (.func (.yield l) #[] #[]) s W.heap.size (W.heap.size + 1) n2 (w1.heap.size + 2) (j + 1) (U.setCell ⟨W.heap.size + 1, 0, none⟩ (.int .i64 ((j : Int) + 1))) :=
          ⟨hU.b0.far (by simp) _, by simpa using hU.b1.set_ 0 (.int .i64 ((j : Int) + 1)), hU.b2.far (by simp; omega) _, k, hk, HI.out _ _ _ _ (by omega) hi ((Turn.refl _ _ _).setCell (by show W.heap.size ≤ W.heap.size + 1; omega) (by show W.heap.size + 1 < _; omega) _), Hd.out⟩
        exact ⟨⟨Below.heap_setCell _ _ _ _ (by show w1.heap.size ≠ W.heap.size + 1; omega), Below.heap_setCell _ _ _ _ (by show w1.heap.size + 1 ≠ W.heap.size + 1; omega)⟩, Hn⟩
      · rw [if_neg hxe] at hd
        have hb : (strB x).toList.isEmpty = false := by rw [Lib.toList_data]; simpa using hxe
        have hb2 : x.isEmpty = false := by simpa using hxe
        clear hxe
        refine wpIn_block ?_
        gi_wp2_with fail
        refine ⟨trivial, rfl, calls_round l2 ((parse_fresh (strB x) (by show x.toArray.size ≤ _; simpa using hxl) _ LU).mono ?_)⟩
        rintro e U3 ⟨K3, hY, hN⟩
        rw [strB_list] at hY hN
        cases hpe : parseE x with
        | none =>
          rw [hpe] at hd
          have Ho := Lib.hid (over hd)
          obtain rfl := hN hpe
          clear hd over hY hN hpe
          gi_wp2_with (refine ⟨fun _ _ => trivial, ?_⟩)
          have hUs := K3.size
          exact ⟨⟨(Below.heap_alloc _ _ _ (by omega)).trans (K3.heap (by omega)), (Below.heap_alloc _ _ _ (by omega)).trans (K3.heap (by omega))⟩, rfl, .inl (HI.out _ _ _ _ (by omega) Ho.out (Turn.of_kp (K3.alloc _)))⟩
        | some t =>
          rw [hpe] at hd
          simp only at hd
          obtain ⟨A3, c3, rfl, hR3, hF3⟩ := hY t hpe
          have Hd := Lib.hid hd
          clear hd over hY hN hpe
          have hkA : k < A.length := by
            rcases Nat.lt_or_ge k A.length with h | h
            · exact h
            · have := Hd.out; rw [List.drop_eq_nil_of_le h] at this; cases this
          have hget : A[k]? = some (j, t) := by
            have := Hd.out
            rw [List.drop_eq_getElem_cons hkA] at this
            injection this with h1 h2
            rw [List.getElem?_eq_getElem hkA, h1]
          have Hd2 := Lib.hid (show A.drop (k + 1) = allL (L.drop (j + 1)) (j + 1) by
            have := Hd.out
            rw [List.drop_eq_getElem_cons hkA] at this
            injection this)
          obtain ⟨V1, hV1, K13⟩ : ∃ V1, U3.alloc (.cells (evC t (.slice A3 t.bytes.length c3)) 27) = V1 ∧ Kp U3 V1 := ⟨_, rfl, (Kp.refl _).alloc _⟩
          have hUs := K3.size
          have hU1 := K13.size
          obtain ⟨fn, tmps, asg, bd, hrun, hround⟩ := HY.out (w1.heap.size + 2) k V1 #[.int .i64 (j : Nat), evV t (.slice A3 t.bytes.length c3)] hkA (by omega) (by omega) (HI.out _ _ _ _ (by omega) hi (Turn.of_kp (K3.trans K13))) ⟨j, t, A3, c3, hget, rfl, hR3.keep K13, fun b o e => by have := hF3 b o e; omega⟩
          have D0 := (hU.b0.keep K3).keep K13
          have D1 := (hU.b1.keep K3).keep K13
          have D2 := (hU.b2.keep K3).keep K13
          have Hround := Lib.hid hround
          clear hround
          have al : ∀ o, (U3.alloc o).cell? ⟨W.heap.size, 0, none⟩ = some (.func (.yield l) #[] #[]) := fun o => ((Kp.refl U3).alloc o).cell (K3.cell c0)
          have al1 : ∀ o, (U3.alloc o).cell? ⟨W.heap.size + 1, 0, none⟩ = some (.int .i64 (j : Nat)) := fun o => ((Kp.refl U3).alloc o).cell (K3.cell c1)
          have hrun2 := hrun
          rw [← hV1] at hrun2
          simp only [evC] at hrun2
          gi_wp2_with fail
          refine ⟨rfl, ?_⟩
          simp only [evC] at hV1
          rw [hV1]
          clear hV1 hrun hrun2 al al1 c0 c1 z1
          refine (show RoundIn (Fence.wide.inRound l2) 0 _ _ _ _ _ _ _ _ from Hround.out).mono ?_
          clear Hround
          have KU : Kp U V1 := K3.trans K13
          rintro e V' ⟨hR, ⟨rfl, hi2⟩ | ⟨rfl, hz⟩⟩
          · have E0 := D0.ring hR (by omega) (by omega)
            have E1 := D1.ring hR (by omega) (by omega)
            have E2 := D2.ring hR (by omega) (by omega)
            have Hi2 := Lib.hid hi2
            have HR := Lib.hid hR
            clear hi2 hR
            have c1 : V'.cell? ⟨W.heap.size + 1, 0, none⟩ = some (.int .i64 (j : Nat)) := E1.cell 0
            have z1 := E1.frozen 0
            gi_wp2_with fail
            have Hn : EaI I L A (.func (.yield l) #[] #[]) s W.heap.size (W.heap.size + 1) n2 (w1.heap.size + 2) (j + 1) (V'.setCell ⟨W.heap.size + 1, 0, none⟩ (.int .i64 ((j : Int) + 1))) :=
              ⟨E0.far (by simp) _, by simpa using E1.set_ 0 (.int .i64 ((j : Int) + 1)), E2.far (by simp; omega) _, k + 1, by omega, HI.out _ _ _ _ (by omega) Hi2.out ((Turn.refl _ _ _).setCell (by show W.heap.size ≤ W.heap.size + 1; omega) (by show W.heap.size + 1 < _; omega) _), Hd2.out⟩
            exact ⟨⟨(Below.heap_setCell _ _ _ _ (by show w1.heap.size ≠ W.heap.size + 1; omega)).trans ((HR.out.block _ (by omega) (by omega)).trans (KU.heap (by omega))), (Below.heap_setCell _ _ _ _ (by show w1.heap.size + 1 ≠ W.heap.size + 1; omega)).trans ((HR.out.block _ (by omega) (by omega)).trans (KU.heap (by omega)))⟩, Hn⟩
          · have Hz := Lib.hid hz
            have HR := Lib.hid hR
            clear hz hR
            gi_wp2_with fail
            exact ⟨⟨(HR.out.block _ (by omega) (by omega)).trans (KU.heap (by omega)), (HR.out.block _ (by omega) (by omega)).trans (KU.heap (by omega))⟩, rfl, .inr ⟨k + 1, by omega, by omega, Hz.out⟩⟩
  · rintro V hV hd
    refine jump_normal26 ?_
    show Takes [{ target := Target.collected w1.heap.size, args := #[] }] V _
    refine takes_mark hd (fun W' hO => ?_)
    have hT : Turn W.heap.size (w1.heap.size + 2) V W' := Turn.of_only hO (by simp; omega)
    refine ⟨.tuple #[], by simp [results, Tryz.results76, go_sem], rfl, w1.heap.size + 2, by omega, ?_⟩
    rcases hV with h | ⟨k, h1, h2, h3⟩
    · exact .inl (HI.out _ _ _ _ (by omega) h hT)
    · exact .inr ⟨k, h1, h2, HZ.out _ _ _ _ (by omega) h3 hT⟩
end Go.Proofs.YtbfimimhgdkpaaaGreatDoor
