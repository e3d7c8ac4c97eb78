/- Layer 18's deferred closures: what each does when the call gave up, and when it did not. -/
import Derived.Test.YtgnhhhcelfaliaaGraphE
import Derived.Test.YtgnhhhcelfaliaaRec
namespace Go.Proofs.Ytgnhhhcelfaliaa
open Go.RowKit

theorem ta_yes (e : Int) (w : World) : (Instr.typeAssert (.iface 70 (.agg #[.int .i64 e])) 20 70 true).run Try.prog w = .ok (.tuple #[.agg #[.int .i64 e], .bool true]) w := by kernel_rfl
theorem ta_nil (w : World) : (Instr.typeAssert .nilIface 20 70 true).run Try.prog w = .ok (.tuple #[.agg #[.int .i64 0], .bool false]) w := by kernel_rfl

theorem two_set {w : World} {p0 p1 : Nat} {x y a b : Value} {o : Obj} (h0 : w.cell? ⟨p0, 0, none⟩ = some x) (h1 : w.cell? ⟨p1, 0, none⟩ = some y) (hne : ¬ p0 = p1) :
    (((w.setCell ⟨p0, 0, none⟩ a).setCell ⟨p1, 0, none⟩ b).alloc o).drew.cell? ⟨p0, 0, none⟩ = some a ∧ (((w.setCell ⟨p0, 0, none⟩ a).setCell ⟨p1, 0, none⟩ b).alloc o).drew.cell? ⟨p1, 0, none⟩ = some b := by
  have e1 : (w.setCell ⟨p0, 0, none⟩ a).cell? ⟨p0, 0, none⟩ = some a := World.cell?_setCell_same _ _ _ h0
  have e2 : (w.setCell ⟨p0, 0, none⟩ a).cell? ⟨p1, 0, none⟩ = some y := (World.cell?_setCell_other _ _ _ _ (by simp <;> omega)).trans h1
  have e3 : ((w.setCell ⟨p0, 0, none⟩ a).setCell ⟨p1, 0, none⟩ b).cell? ⟨p0, 0, none⟩ = some a := (World.cell?_setCell_other _ _ _ _ (by simp <;> omega)).trans e1
  have e4 : ((w.setCell ⟨p0, 0, none⟩ a).setCell ⟨p1, 0, none⟩ b).cell? ⟨p1, 0, none⟩ = some b := World.cell?_setCell_same _ _ _ e2
  exact ⟨((Kp.refl _).alloc o).drew.cell e3, ((Kp.refl _).alloc o).drew.cell e4⟩

/-- The mode of a frame that gave up with an error; and behind its recover. -/
def gaveUp (e : Int) : FrameMode := .panicking [{ v := .iface 70 (.agg #[.int .i64 e]), recovered := false }]
def caught (e : Int) : FrameMode := .panicking [{ v := .iface 70 (.agg #[.int .i64 e]), recovered := true }]
theorem recM_gaveUp (e : Int) : recM (gaveUp e) = (.iface 70 (.agg #[.int .i64 e]), caught e) := rfl
theorem recM_returning : recM .returning = (.nilIface, .returning) := rfl

set_option maxRecDepth 100000 in
set_option maxHeartbeats 400000 in
theorem catch_faces (p0 p1 : Nat) (x y : Value) (e : Int) (w : World) (h0 : w.cell? ⟨p0, 0, none⟩ = some x) (h1 : w.cell? ⟨p1, 0, none⟩ = some y) (f0 : w.frozen? ⟨p0, 0, none⟩ = false) (f1 : w.frozen? ⟨p1, 0, none⟩ = false) (hne : ¬ p0 = p1) :
    CallsD Try.prog 36 #[.pointer (some ⟨p0, 0, none⟩), .pointer (some ⟨p1, 0, none⟩)] (gaveUp e) w fun en u' w' =>
      en = .returned (.tuple #[]) ∧ u' = caught e ∧ w'.cell? ⟨p0, 0, none⟩ = some (.slice none 0 0) ∧ w'.cell? ⟨p1, 0, none⟩ = some (.int .i64 e) ∧ Only [p0, p1] w w' := by
  have b0 := World.block_lt_of_cell? w _ h0
  have b1 := World.block_lt_of_cell? w _ h1
  simp only at b0 b1
  have n0 : ¬ p0 = w.heap.size := by omega
  have n1 : ¬ p1 = w.heap.size := by omega
  have n2 : ¬ p1 = p0 := by omega
  have hty := ta_yes
  refine callsD_rec _ _ (recM_gaveUp e) Try.func36 rfl rfl rfl ?_
  simp only [Try.ntmps36, Act.put, List.size_toArray, List.length_cons, List.length_nil, Nat.reduceAdd, Nat.reduceSub, Array.replicate_succ, Array.replicate_zero, List.push_toArray, List.append_toArray, List.nil_append, List.cons_append]
  go_wp2_with fail
  go_region
  all_goals (try go_wp2_with fail)
  all_goals go_end0
  all_goals exact ⟨rfl, trivial, (two_set h0 h1 hne).1, (two_set h0 h1 hne).2, ((((Only.refl _ _).setCell (.inl (by simp)) _).setCell (.inl (by simp)) _).alloc _).drew⟩

set_option maxRecDepth 100000 in
set_option maxHeartbeats 400000 in
theorem idle_faces (p0 p1 : Value) (w : World) :
    CallsD Try.prog 36 #[p0, p1] .returning w fun en u' w' => en = .returned (.tuple #[]) ∧ u' = .returning ∧ Kp w w' := by
  have hty := ta_nil
  refine callsD_rec _ _ recM_returning Try.func36 rfl rfl rfl ?_
  simp only [Try.ntmps36, Act.put, List.size_toArray, List.length_cons, List.length_nil, Nat.reduceAdd, Nat.reduceSub, Array.replicate_succ, Array.replicate_zero, List.push_toArray, List.append_toArray, List.nil_append, List.cons_append]
  go_wp2_with fail
  go_end0
  exact ⟨rfl, trivial, (Kp.refl _).alloc _⟩

set_option maxRecDepth 100000 in
set_option maxHeartbeats 400000 in
theorem catch_face (p0 p1 : Nat) (x y : Value) (e : Int) (w : World) (h0 : w.cell? ⟨p0, 0, none⟩ = some x) (h1 : w.cell? ⟨p1, 0, none⟩ = some y) (f0 : w.frozen? ⟨p0, 0, none⟩ = false) (f1 : w.frozen? ⟨p1, 0, none⟩ = false) (hne : ¬ p0 = p1) :
    CallsD Try.prog 40 #[.pointer (some ⟨p0, 0, none⟩), .pointer (some ⟨p1, 0, none⟩)] (gaveUp e) w fun en u' w' =>
      en = .returned (.tuple #[]) ∧ u' = caught e ∧ w'.cell? ⟨p0, 0, none⟩ = some (.int .i64 0) ∧ w'.cell? ⟨p1, 0, none⟩ = some (.int .i64 e) ∧ Only [p0, p1] w w' := by
  have b0 := World.block_lt_of_cell? w _ h0
  have b1 := World.block_lt_of_cell? w _ h1
  simp only at b0 b1
  have n0 : ¬ p0 = w.heap.size := by omega
  have n1 : ¬ p1 = w.heap.size := by omega
  have n2 : ¬ p1 = p0 := by omega
  have hty := ta_yes
  refine callsD_rec _ _ (recM_gaveUp e) Try.func40 rfl rfl rfl ?_
  simp only [Try.ntmps40, Act.put, List.size_toArray, List.length_cons, List.length_nil, Nat.reduceAdd, Nat.reduceSub, Array.replicate_succ, Array.replicate_zero, List.push_toArray, List.append_toArray, List.nil_append, List.cons_append]
  go_wp2_with fail
  go_region
  all_goals (try go_wp2_with fail)
  all_goals go_end0
  all_goals exact ⟨rfl, trivial, (two_set h0 h1 hne).1, (two_set h0 h1 hne).2, ((((Only.refl _ _).setCell (.inl (by simp)) _).setCell (.inl (by simp)) _).alloc _).drew⟩

set_option maxRecDepth 100000 in
set_option maxHeartbeats 400000 in
theorem idle_face (p0 p1 : Value) (w : World) :
    CallsD Try.prog 40 #[p0, p1] .returning w fun en u' w' => en = .returned (.tuple #[]) ∧ u' = .returning ∧ Kp w w' := by
  have hty := ta_nil
  refine callsD_rec _ _ recM_returning Try.func40 rfl rfl rfl ?_
  simp only [Try.ntmps40, Act.put, List.size_toArray, List.length_cons, List.length_nil, Nat.reduceAdd, Nat.reduceSub, Array.replicate_succ, Array.replicate_zero, List.push_toArray, List.append_toArray, List.nil_append, List.cons_append]
  go_wp2_with fail
  go_end0
  exact ⟨rfl, trivial, (Kp.refl _).alloc _⟩

set_option maxRecDepth 100000 in
set_option maxHeartbeats 400000 in
theorem catch_other (p0 p1 : Nat) (x y : Value) (e : Int) (w : World) (h0 : w.cell? ⟨p0, 0, none⟩ = some x) (h1 : w.cell? ⟨p1, 0, none⟩ = some y) (f0 : w.frozen? ⟨p0, 0, none⟩ = false) (f1 : w.frozen? ⟨p1, 0, none⟩ = false) (hne : ¬ p0 = p1) :
    CallsD Try.prog 43 #[.pointer (some ⟨p0, 0, none⟩), .pointer (some ⟨p1, 0, none⟩)] (gaveUp e) w fun en u' w' =>
      en = .returned (.tuple #[]) ∧ u' = caught e ∧ w'.cell? ⟨p0, 0, none⟩ = some (.int .i64 0) ∧ w'.cell? ⟨p1, 0, none⟩ = some (.int .i64 e) ∧ Only [p0, p1] w w' := by
  have b0 := World.block_lt_of_cell? w _ h0
  have b1 := World.block_lt_of_cell? w _ h1
  simp only at b0 b1
  have n0 : ¬ p0 = w.heap.size := by omega
  have n1 : ¬ p1 = w.heap.size := by omega
  have n2 : ¬ p1 = p0 := by omega
  have hty := ta_yes
  refine callsD_rec _ _ (recM_gaveUp e) Try.func43 rfl rfl rfl ?_
  simp only [Try.ntmps43, Act.put, List.size_toArray, List.length_cons, List.length_nil, Nat.reduceAdd, Nat.reduceSub, Array.replicate_succ, Array.replicate_zero, List.push_toArray, List.append_toArray, List.nil_append, List.cons_append]
  go_wp2_with fail
  go_region
  all_goals (try go_wp2_with fail)
  all_goals go_end0
  all_goals exact ⟨rfl, trivial, (two_set h0 h1 hne).1, (two_set h0 h1 hne).2, ((((Only.refl _ _).setCell (.inl (by simp)) _).setCell (.inl (by simp)) _).alloc _).drew⟩

set_option maxRecDepth 100000 in
set_option maxHeartbeats 400000 in
theorem idle_other (p0 p1 : Value) (w : World) :
    CallsD Try.prog 43 #[p0, p1] .returning w fun en u' w' => en = .returned (.tuple #[]) ∧ u' = .returning ∧ Kp w w' := by
  have hty := ta_nil
  refine callsD_rec _ _ recM_returning Try.func43 rfl rfl rfl ?_
  simp only [Try.ntmps43, Act.put, List.size_toArray, List.length_cons, List.length_nil, Nat.reduceAdd, Nat.reduceSub, Array.replicate_succ, Array.replicate_zero, List.push_toArray, List.append_toArray, List.nil_append, List.cons_append]
  go_wp2_with fail
  go_end0
  exact ⟨rfl, trivial, (Kp.refl _).alloc _⟩

set_option maxRecDepth 100000 in
set_option maxHeartbeats 400000 in
theorem catch_addr (p0 p1 : Nat) (x y : Value) (e : Int) (w : World) (h0 : w.cell? ⟨p0, 0, none⟩ = some x) (h1 : w.cell? ⟨p1, 0, none⟩ = some y) (f0 : w.frozen? ⟨p0, 0, none⟩ = false) (f1 : w.frozen? ⟨p1, 0, none⟩ = false) (hne : ¬ p0 = p1) :
    CallsD Try.prog 44 #[.pointer (some ⟨p0, 0, none⟩), .pointer (some ⟨p1, 0, none⟩)] (gaveUp e) w fun en u' w' =>
      en = .returned (.tuple #[]) ∧ u' = caught e ∧ w'.cell? ⟨p0, 0, none⟩ = some (.int .u32 0) ∧ w'.cell? ⟨p1, 0, none⟩ = some (.int .i64 e) ∧ Only [p0, p1] w w' := by
  have b0 := World.block_lt_of_cell? w _ h0
  have b1 := World.block_lt_of_cell? w _ h1
  simp only at b0 b1
  have n0 : ¬ p0 = w.heap.size := by omega
  have n1 : ¬ p1 = w.heap.size := by omega
  have n2 : ¬ p1 = p0 := by omega
  have hty := ta_yes
  refine callsD_rec _ _ (recM_gaveUp e) Try.func44 rfl rfl rfl ?_
  simp only [Try.ntmps44, Act.put, List.size_toArray, List.length_cons, List.length_nil, Nat.reduceAdd, Nat.reduceSub, Array.replicate_succ, Array.replicate_zero, List.push_toArray, List.append_toArray, List.nil_append, List.cons_append]
  go_wp2_with fail
  go_region
  all_goals (try go_wp2_with fail)
  all_goals go_end0
  all_goals exact ⟨rfl, trivial, (two_set h0 h1 hne).1, (two_set h0 h1 hne).2, ((((Only.refl _ _).setCell (.inl (by simp)) _).setCell (.inl (by simp)) _).alloc _).drew⟩

set_option maxRecDepth 100000 in
set_option maxHeartbeats 400000 in
theorem idle_addr (p0 p1 : Value) (w : World) :
    CallsD Try.prog 44 #[p0, p1] .returning w fun en u' w' => en = .returned (.tuple #[]) ∧ u' = .returning ∧ Kp w w' := by
  have hty := ta_nil
  refine callsD_rec _ _ recM_returning Try.func44 rfl rfl rfl ?_
  simp only [Try.ntmps44, Act.put, List.size_toArray, List.length_cons, List.length_nil, Nat.reduceAdd, Nat.reduceSub, Array.replicate_succ, Array.replicate_zero, List.push_toArray, List.append_toArray, List.nil_append, List.cons_append]
  go_wp2_with fail
  go_end0
  exact ⟨rfl, trivial, (Kp.refl _).alloc _⟩

set_option maxRecDepth 100000 in
set_option maxHeartbeats 400000 in
theorem catch_dist (p0 p1 : Nat) (x y : Value) (e : Int) (w : World) (h0 : w.cell? ⟨p0, 0, none⟩ = some x) (h1 : w.cell? ⟨p1, 0, none⟩ = some y) (f0 : w.frozen? ⟨p0, 0, none⟩ = false) (f1 : w.frozen? ⟨p1, 0, none⟩ = false) (hne : ¬ p0 = p1) :
    CallsD Try.prog 47 #[.pointer (some ⟨p0, 0, none⟩), .pointer (some ⟨p1, 0, none⟩)] (gaveUp e) w fun en u' w' =>
      en = .returned (.tuple #[]) ∧ u' = caught e ∧ w'.cell? ⟨p0, 0, none⟩ = some (.slice none 0 0) ∧ w'.cell? ⟨p1, 0, none⟩ = some (.int .i64 e) ∧ Only [p0, p1] w w' := by
  have b0 := World.block_lt_of_cell? w _ h0
  have b1 := World.block_lt_of_cell? w _ h1
  simp only at b0 b1
  have n0 : ¬ p0 = w.heap.size := by omega
  have n1 : ¬ p1 = w.heap.size := by omega
  have n2 : ¬ p1 = p0 := by omega
  have hty := ta_yes
  refine callsD_rec _ _ (recM_gaveUp e) Try.func47 rfl rfl rfl ?_
  simp only [Try.ntmps47, Act.put, List.size_toArray, List.length_cons, List.length_nil, Nat.reduceAdd, Nat.reduceSub, Array.replicate_succ, Array.replicate_zero, List.push_toArray, List.append_toArray, List.nil_append, List.cons_append]
  go_wp2_with fail
  go_region
  all_goals (try go_wp2_with fail)
  all_goals go_end0
  all_goals exact ⟨rfl, trivial, (two_set h0 h1 hne).1, (two_set h0 h1 hne).2, ((((Only.refl _ _).setCell (.inl (by simp)) _).setCell (.inl (by simp)) _).alloc _).drew⟩

set_option maxRecDepth 100000 in
set_option maxHeartbeats 400000 in
theorem idle_dist (p0 p1 : Value) (w : World) :
    CallsD Try.prog 47 #[p0, p1] .returning w fun en u' w' => en = .returned (.tuple #[]) ∧ u' = .returning ∧ Kp w w' := by
  have hty := ta_nil
  refine callsD_rec _ _ recM_returning Try.func47 rfl rfl rfl ?_
  simp only [Try.ntmps47, Act.put, List.size_toArray, List.length_cons, List.length_nil, Nat.reduceAdd, Nat.reduceSub, Array.replicate_succ, Array.replicate_zero, List.push_toArray, List.append_toArray, List.nil_append, List.cons_append]
  go_wp2_with fail
  go_end0
  exact ⟨rfl, trivial, (Kp.refl _).alloc _⟩

end Go.Proofs.Ytgnhhhcelfaliaa
