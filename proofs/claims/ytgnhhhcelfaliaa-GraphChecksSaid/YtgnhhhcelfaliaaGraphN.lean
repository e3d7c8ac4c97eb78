/- slices.Repeat of one number. -/
import Derived.Test.YtgnhhhcelfaliaaGraphM
import Derived.Laws.CopyOwn
import Derived.Deep.RegionLaw
import Derived.StillTailTactics
namespace Go.Proofs.Ytgnhhhcelfaliaa
open Go.RowKit

set_option maxRecDepth 100000 in
set_option maxHeartbeats 1000000 in
theorem mul64_n (n : Int) (h0 : 1 ≤ n) (h1 : n ≤ 20) (w : World) : Calls Try.prog 64 #[.int .u64 1, .int .u64 n] w fun e w' => e = .returned (.tuple #[.int .u64 0, .int .u64 n]) ∧ w = w' := by
  go_enter Try.func64, Try.ntmps64
  go_wp2_with fail
  go_ret2
  refine ⟨?_, rfl⟩
  have hc : n = 1 ∨ n = 2 ∨ n = 3 ∨ n = 4 ∨ n = 5 ∨ n = 6 ∨ n = 7 ∨ n = 8 ∨ n = 9 ∨ n = 10 ∨ n = 11 ∨ n = 12 ∨ n = 13 ∨ n = 14 ∨ n = 15 ∨ n = 16 ∨ n = 17 ∨ n = 18 ∨ n = 19 ∨ n = 20 := by omega
  rcases hc with rfl | rfl | rfl | rfl | rfl | rfl | rfl | rfl | rfl | rfl | rfl | rfl | rfl | rfl | rfl | rfl | rfl | rfl | rfl | rfl <;> rfl

set_option maxRecDepth 100000 in
set_option maxHeartbeats 1000000 in
theorem mul_n (n : Int) (h0 : 1 ≤ n) (h1 : n ≤ 20) (w : World) : Calls Try.prog 61 #[.int .u64 1, .int .u64 n] w fun e w' => e = .returned (.tuple #[.int .u64 0, .int .u64 n]) ∧ w = w' := by
  go_enter Try.func61, Try.ntmps61
  go_wp2_with fail
  refine (mul64_n n h0 h1 _).mono ?_
  rintro e w1 ⟨rfl, rfl⟩
  go_wp2_with fail
  go_ret2
  exact ⟨rfl, rfl⟩

/-- n zeros, as cells. -/
def zrow (n : Nat) : Array Value := (List.replicate n (Value.int .i64 0)).toArray
theorem made_zrow (n : Nat) : madeCells #[Value.int .i64 0] n = zrow n := by
  unfold madeCells zrow
  apply Array.ext
  · simp
  · intro i h1 h2
    simp [Nat.mod_one]
theorem make_ints (n : Nat) (hn : n ≤ 1000000) (W : World) : (Instr.makeSlice 27 (.int .i64 (n : Int)) (.int .i64 (n : Int))).run Try.prog W = .ok (.slice (some ⟨W.heap.size, 0, none⟩) n n) (W.alloc (.cells (zrow n) 3)) := by
  obtain ⟨ht, hinfo, hzs, hsz⟩ := EInt
  obtain ⟨i, hi, hz, hsize, hby⟩ := info_parts hinfo
  have hr := run_make (P := Try.prog) W 27 3 i _ ht hi hz .i64 .i64 n n (by omega) (by omega) (by rw [hby]; omega) (by omega)
  rw [hsize] at hr
  simp only [Int.toNat_natCast, Nat.mul_one] at hr
  rw [hr]
  rw [show (Value.int IntKind.i64 0).cells = #[Value.int .i64 0] from rfl, made_zrow]

/-- k times x, then zeros, n in all. -/
def rep (x : Int) (n k : Nat) : List Value := List.replicate k (.int .i64 x) ++ List.replicate (n - k) (.int .i64 0)
theorem rep_len (x : Int) {n k : Nat} (h : k ≤ n) : (rep x n k).length = n := by simp [rep]; omega
theorem rep_zero (x : Int) (n : Nat) : (rep x n 0).toArray = zrow n := by simp [rep, zrow]
theorem rep_all (x : Int) (n : Nat) : rep x n n = (List.replicate n x).map (Value.int .i64) := by simp [rep]
theorem rep_at (x : Int) {n k j : Nat} (h : j < k) : (rep x n k)[j]? = some (.int .i64 x) := by
  unfold rep; rw [List.getElem?_append_left (by simpa using h)]; simp [h]
theorem rep_splice (x : Int) {n k m : Nat} (h : k + m ≤ n) : splice (rep x n k) k (List.replicate m (.int .i64 x)) = rep x n (k + m) := by
  unfold splice rep
  rw [List.take_left' (by simp), List.length_replicate, ← List.append_assoc, List.replicate_append_replicate]
  congr 1
  rw [List.drop_append, List.drop_eq_nil_of_le (by simp), List.nil_append, List.length_replicate, List.drop_replicate]
  congr 1
  omega

theorem add_off (g o j : Nat) : (⟨g, o, none⟩ : Addr).add j = ⟨g, o + j, none⟩ := by unfold Addr.add; split <;> simp_all

theorem step_rep {ops : Array Oper} {o : Oper} {a : Act} {W w0 : World} {K : Act → World → Prop} {Q : Exit → Act → World → Prop} {E : Prop} (hgd : o.guard = none) (d s : Operand)
    (ho : o.op = .call { callee := .builtin .copy, args := #[d, s], argTypes := #[27, 27] }) {G n k m : Nat} {x : Int} (hB : Hid (Blk W G 3 (rep x n k).toArray)) (hm : Hid (m = min k (n - k))) (hk0 : 1 ≤ k) (hk : k < n) (hK : Kp w0 W) (hG : w0.heap.size ≤ G)
    (hd : a.eval d = .slice (some ⟨G, k, none⟩) (n - k) (n - k)) (hs : a.eval s = .slice (some ⟨G, 0, none⟩) k n)
    (h : ∀ w', Hid (Blk w' G 3 (rep x n (k + m)).toArray) → Kp w0 w' → K (a.put o.dst (.int .i64 m)) w') :
    if Region.wanted o (yielded ops a.tmps) = true then Oper.wp Try.prog o a W K Q else E := by
  have hm' := hm.out
  refine step_copy_splice hgd d s _ _ ho 3 Try.underlying27 (by kernel_rfl) _ _ _ _ _ _ hd hs G k (rep x n k) 3 hB.out (List.replicate m (.int .i64 x)) ?_ ?_ ?_ ?_ w0.heap.size w0 hK hG ?_
  · rw [List.length_replicate, hm']
  · intro _
    refine ⟨rfl, _, rfl, fun j v hv => ?_⟩
    have hj : j < m := by
      have := (List.getElem?_eq_some_iff.1 hv).1
      simpa using this
    have hv' : Value.int .i64 x = v := by simpa [hj] using hv
    rw [add_off, Nat.zero_add, hB.out.cell j, ← hv']
    have := rep_at x (n := n) (k := k) (j := j) (by omega)
    simpa using this
  · rw [List.length_replicate, rep_len x (by omega)]; omega
  · intro v hv
    obtain ⟨_, rfl⟩ := List.mem_replicate.1 hv
    rfl
  · intro w' hg hb
    have e := hg.out
    rw [rep_splice x (by omega)] at e
    rw [List.length_replicate]
    exact h w' e hb

set_option maxRecDepth 100000 in
set_option maxHeartbeats 1000000 in
theorem repeat_n (x : Int) (n : Nat) (h0 : 1 ≤ n) (h1 : n ≤ 20) (b off c : Nat) (w : World) (hx : w.cell? ⟨b, off, none⟩ = some (.int .i64 x)) :
    Calls Try.prog 48 #[.slice (some ⟨b, off, none⟩) 1 c, .int .i64 n] w fun e w' => ∃ g cap, e = .returned (.slice (some ⟨g, 0, none⟩) n cap) ∧ w.heap.size ≤ g ∧ Row w' g cap (List.replicate n x) ∧ Kp w w' := by
  have hmk := make_ints n (by omega)
  have hd1 : decide ((n : Int) < 0) = false := by simp only [decide_eq_false_iff_not]; omega
  have hd2 : decide (9223372036854775807 < (n : Int)) = false := by simp only [decide_eq_false_iff_not]; omega
  go_enter Try.func48, Try.ntmps48
  go_wp2_with fail
  refine (mul_n n (by omega) (by omega) _).mono ?_
  rintro e w1 ⟨rfl, rfl⟩
  go_wp2_with (with_reducible refine wpList_copy_splice (o := ⟨some 33, _, _, _, _, _⟩) rfl (.tmp 31) (.tmp 32) _ _ rfl 3 Try.underlying27 (by kernel_rfl) (some ⟨w.heap.size, 0, none⟩) (some ⟨b, off, none⟩) n n 1 c ?_ ?_ w.heap.size 0 (rep x n 0) 3 ?_ [.int .i64 x] ?_ ?_ ?_ ?_ w.heap.size w ?_ (Nat.le_refl _) ?_)
  · rfl
  · rfl
  · rw [rep_zero]; exact Blk.new w 3 (zrow n)
  · simp [Nat.min_def]; omega
  · intro j v hv
    have hj : j = 0 := by
      have := (List.getElem?_eq_some_iff.1 hv).1
      simpa using this
    subst hj
    rw [Nat.add_zero]
    have hv' : Value.int .i64 x = v := by simpa using hv
    rw [← hv']
    exact ((Kp.refl w).alloc _).cell hx
  · rw [rep_len x (by omega)]; simp; omega
  · intro v hv; simp at hv; subst hv; rfl
  · exact (Kp.refl w).alloc _
  intro w1 Hg hb1
  have Hg1 := Lib.hid (show Blk w1 w.heap.size 3 (rep x n 1).toArray by
    have := Hg.out
    rw [show ([Value.int .i64 x] : List Value) = List.replicate 1 (.int .i64 x) from rfl, rep_splice x (by omega)] at this
    exact this)
  clear Hg
  have hK1 : Kp w w1 := hb1
  clear hb1
  go_wp2_with fail
  go_loopw [8] (fun i wr => ∃ k : Nat, 1 ≤ k ∧ k ≤ n ∧ i = .int .i64 k ∧ Hid (Blk wr w.heap.size 3 (rep x n k).toArray) ∧ Kp w wr) (fun i _ => n - (intOf i).toNat)
  case atStart => exact ⟨1, Nat.le_refl _, h0, rfl, Hg1, hK1⟩
  case round =>
    obtain ⟨k, hk0, hk, rfl, HB, hK⟩ := hrel
    by_cases hlt : k < n
    · have hne : ¬ n = k := by omega
      have hm : ∃ m, m = min k (n - k) := ⟨_, rfl⟩
      obtain ⟨m, hm⟩ := hm
      have hm0 : 1 ≤ m ∧ m ≤ k ∧ k + m ≤ n := by omega
      have Hm := Lib.hid hm; clear hm
      go_wp2_with fail
      go_region_law (((with_reducible refine step_rep (o := ⟨some 45, _, _, _, _, _⟩) (w0 := w) (G := w.heap.size) (n := n) (k := k) (x := x) (m := m) rfl (.tmp 41) (.tmp 44) rfl ?_ Hm hk0 hlt ?_ (Nat.le_refl _) ?_ ?_ ?_); exact HB; exact hK.drew; (simp [Act.eval, Act.put]); (simp [Act.eval, Act.put]); (intro w2 HB2 hK2)))
      all_goals
        simp only [Act.put, List.getElem_toArray, List.getElem_cons_succ, List.getElem_cons_zero, List.setIfInBounds_toArray, List.set_cons_succ, List.set_cons_zero, IntWalk.i64_in ((k : Int) + m) (by omega)]
        go_wp2_with fail
        go_roundw
        case rel => exact ⟨k + m, by omega, by omega, by go_num, HB2, hK2⟩
        case measure => simp [intOf]; omega
    · obtain rfl : k = n := by omega
      go_wp2_with fail
      go_ret
      exact ⟨w.heap.size, k, rfl, Nat.le_refl _, ⟨_, HB.out, by rw [List.size_toArray, rep_len x (Nat.le_refl _)], by simp, by unfold maxLen; omega, by rw [List.length_replicate, rep_all, List.take_of_length_le (by simp)]⟩, hK⟩
end Go.Proofs.Ytgnhhhcelfaliaa
