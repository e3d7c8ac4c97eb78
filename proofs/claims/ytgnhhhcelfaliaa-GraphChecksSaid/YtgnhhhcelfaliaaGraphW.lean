/- The chapter's rows: they hold. -/
import Derived.Test.YtgnhhhcelfaliaaGraphO
import Derived.Test.YtgnhhhcelfaliaaGraphL
import Derived.BigGuardIn
namespace Go.Proofs.Ytgnhhhcelfaliaa
open Go.RowKit
attribute [local go_sem] Oper.semAt_some

def gl : List Lk := [⟨0, 1, true⟩, ⟨1, 2, true⟩, ⟨0, 2, false⟩]

set_option maxHeartbeats 400000 in
theorem num_any (n : Int) (w : World) : Calls Try.prog 15 #[.int .i64 n] w fun e w' => e = .returned (.int .i64 n) ∧ w = w' := by
  go_enter Try.func15, Try.ntmps15
  go_wp2
  go_ret
  exact ⟨rfl, rfl⟩

set_option maxRecDepth 100000 in
set_option maxHeartbeats 1000000 in
theorem given_any (w : World) : Calls Try.prog 35 #[] w fun e w' => ∃ b, e = .returned (.agg #[.int .i64 3, .slice (some ⟨b, 0, none⟩) 3 3]) ∧ Rd w' 3 Lk.enc (some ⟨b, 0, none⟩) gl ∧ Kp w w' := by
  go_enter Try.func35, Try.ntmps35
  go_wp2_with fail
  refine bodyPost_ret (v := .agg #[.int .i64 3, .slice (some ⟨w.heap.size + 1, 0, none⟩) 3 3]) (by simp [results, Try.results35, go_sem]) rfl ⟨w.heap.size + 1, rfl, ?_, by unfold Kp; go_grown⟩
  exact Rd.of_blk (Blk.new1 w _ _ _) (by omega) (fun _ => rfl) (by unfold maxLen; simp [gl]) rfl

theorem gl_facts : routerErr 3 gl 1 = 0 ∧ facesE 3 gl 1 = [0, 1] ∧ onErr 3 gl 2 1 = 0 ∧ faceN 3 gl 2 1 = 0 ∧ otherN 3 gl 2 1 = 1 ∧ addrN 3 gl 2 1 = 180879618 ∧ onErr 3 gl 0 1 = 4 ∧ near 3 gl 1 = [(0, 0), (1, 2)] := by decide +kernel
theorem gl_dist : ownersErr 3 gl [0] = 0 ∧ dist 3 gl [0] = [1, 2, 3] ∧ ownersErr 3 gl [] = 0 ∧ dist 3 gl [] = [16, 16, 16] ∧ ownersErr 3 gl [0, 2] = 0 ∧ dist 3 gl [0, 2] = [1, 2, 1] := by decide +kernel

theorem seq_nil (p : Value) (w : World) : (binOp .eql 56 (.func (.func 51) #[] #[p]) .nilFunc).run Try.prog w = .ok (.bool false) w := by kernel_rfl

theorem takes1 {W : World} {r : Nat} (hd : W.heap[r]? = some (.deferred (some []))) {K : World → Prop} (h : ∀ W', Only [r] W W' → K W') : Takes [{ target := .collected r, args := #[] }] W K :=
  ⟨r, rfl, hd, h _ ((Only.refl [r] W).putObj (by simp) _)⟩

set_option maxRecDepth 100000 in
set_option maxHeartbeats 4000000 in
theorem works_any (w : World) : Calls Try.prog 9 #[] w fun e w' => e = .returned (.bool true) ∧ Kp w w' := by
  refine calls_of_wp_marks Try.func9 rfl ?_; simp only [Try.ntmps9, List.size_toArray, List.length_cons, List.length_nil, Nat.reduceAdd, Nat.reduceSub, Array.replicate_succ, Array.replicate_zero, List.push_toArray, List.append_toArray, List.nil_append, List.cons_append]
  go_wp2_with fail
  refine (given_any _).mono ?_
  rintro e w1 ⟨b, rfl, hrd, hK1⟩
  have B0 : Blk w1 w.heap.size 4 #[.bool false] := (Blk.new w _ _).keep hK1
  have hKw : Kp w w1 := ((Kp.refl _).alloc _).trans hK1
  clear hK1
  go_wp2_with fail
  refine (gfaces_any 3 1 _ 3 gl _ (hrd.keep ((Kp.refl _).alloc _)) (by simp [gl])).mono ?_
  rintro e w2 ⟨v2, rfl, hown2, hK2⟩
  have G : Blk w2 w1.heap.size 24 #[.int .i64 3, .slice (some ⟨b, 0, none⟩) 3 3] := (Blk.new w1 _ _).keep hK2
  have hK12 : Kp w1 w2 := ((Kp.refl _).alloc _).trans hK2
  clear hK2
  have hrd2 := hrd.keep hK12
  rw [gl_facts.1]
  rw [gl_facts.2.1] at hown2
  obtain ⟨A2, c2, rfl, hr2⟩ := hown2.rd (by omega) intE_len
  have g0 : w2.cell? ⟨w1.heap.size, 0, none⟩ = some (.int .i64 3) := G.cell 0
  have g1 : w2.cell? ⟨w1.heap.size, 1, none⟩ = some (.slice (some ⟨b, 0, none⟩) 3 3) := G.cell 1
  go_wp2_with fail
  refine (gface_any 3 2 1 _ 3 gl _ hrd2 (by simp [gl])).mono ?_
  rintro e w3 ⟨rfl, hK3⟩
  rw [gl_facts.2.2.1, gl_facts.2.2.2.1]
  have G2 := G; clear G
  have hrd3 := hrd2.keep hK3
  have G3 := G2.keep hK3
  clear g0 g1 G2 hrd2
  have g0 : w3.cell? ⟨w1.heap.size, 0, none⟩ = some (.int .i64 3) := G3.cell 0
  have g1 : w3.cell? ⟨w1.heap.size, 1, none⟩ = some (.slice (some ⟨b, 0, none⟩) 3 3) := G3.cell 1
  go_wp2_with fail
  refine (gother_any 3 2 1 _ 3 gl _ hrd3 (by simp [gl])).mono ?_
  rintro e w4 ⟨rfl, hK4⟩
  rw [gl_facts.2.2.1, gl_facts.2.2.2.2.1]
  have hrd4 := hrd3.keep hK4
  have G4 := G3.keep hK4
  clear g0 g1 G3 hrd3
  have g0 : w4.cell? ⟨w1.heap.size, 0, none⟩ = some (.int .i64 3) := G4.cell 0
  have g1 : w4.cell? ⟨w1.heap.size, 1, none⟩ = some (.slice (some ⟨b, 0, none⟩) 3 3) := G4.cell 1
  go_wp2_with fail
  refine (gaddr_any 3 2 1 _ 3 gl _ hrd4 (by simp [gl])).mono ?_
  rintro e w5 ⟨rfl, hK5⟩
  rw [gl_facts.2.2.1, gl_facts.2.2.2.2.2.1]
  have hrd5 := hrd4.keep hK5
  have G5 := G4.keep hK5
  clear g0 g1 G4 hrd4
  have g0 : w5.cell? ⟨w1.heap.size, 0, none⟩ = some (.int .i64 3) := G5.cell 0
  have g1 : w5.cell? ⟨w1.heap.size, 1, none⟩ = some (.slice (some ⟨b, 0, none⟩) 3 3) := G5.cell 1
  go_wp2_with fail
  refine (gface_any 3 0 1 _ 3 gl _ hrd5 (by simp [gl])).mono ?_
  rintro e w6 ⟨rfl, hK6⟩
  rw [gl_facts.2.2.2.2.2.2.1]
  generalize faceN 3 gl 0 1 = fz
  have hrd6 := hrd5.keep hK6
  have G6 := G5.keep hK6
  clear g0 g1 G5 hrd5
  have g0 : w6.cell? ⟨w1.heap.size, 0, none⟩ = some (.int .i64 3) := G6.cell 0
  have g1 : w6.cell? ⟨w1.heap.size, 1, none⟩ = some (.slice (some ⟨b, 0, none⟩) 3 3) := G6.cell 1
  have g0' : ∀ o, (w6.alloc o).cell? ⟨w1.heap.size, 0, none⟩ = some (.int .i64 3) := fun o => (G6.alloc o).cell 0
  go_wp2_with fail
  refine (gdist_any 3 _ _ 3 1 gl [0] _ (hrd6.keep ((Kp.refl _).alloc _)) (by simp [gl]) (Rd.of_blk (Blk.new w6 _ _) (by omega) intE_len (by unfold maxLen; simp) rfl) (by simp)).mono ?_
  rintro e w7 ⟨v7, rfl, hown7, hK7'⟩
  have hK7 : Kp w6 w7 := ((Kp.refl _).alloc _).trans hK7'
  clear hK7'
  rw [gl_dist.1] at hown7 ⊢
  rw [if_pos rfl, gl_dist.2.1] at hown7
  obtain ⟨A7, c7, rfl, hr7⟩ := hown7.rd (by omega) intE_len
  clear g0'
  have hrd7 := hrd6.keep hK7
  have G7 := G6.keep hK7
  clear g0 g1 G6 hrd6
  have g0 : w7.cell? ⟨w1.heap.size, 0, none⟩ = some (.int .i64 3) := G7.cell 0
  have g1 : w7.cell? ⟨w1.heap.size, 1, none⟩ = some (.slice (some ⟨b, 0, none⟩) 3 3) := G7.cell 1
  go_wp2_with fail
  refine (gdist_any 3 _ none 3 0 gl [] _ hrd7 (by simp [gl]) (Rd.nil _ _ _ _) (by simp)).mono ?_
  rintro e w8 ⟨v8, rfl, hown8, hK8⟩
  rw [gl_dist.2.2.1] at hown8 ⊢
  rw [if_pos rfl, gl_dist.2.2.2.1] at hown8
  obtain ⟨A8, c8, rfl, hr8⟩ := hown8.rd (by omega) intE_len
  have hrd8 := hrd7.keep hK8
  have G8 := G7.keep hK8
  clear g0 g1 G7 hrd7
  have g0 : w8.cell? ⟨w1.heap.size, 0, none⟩ = some (.int .i64 3) := G8.cell 0
  have g1 : w8.cell? ⟨w1.heap.size, 1, none⟩ = some (.slice (some ⟨b, 0, none⟩) 3 3) := G8.cell 1
  go_wp2_with fail
  refine (gdist_any 3 _ _ 3 2 gl [0, 2] _ (hrd8.keep ((Kp.refl _).alloc _)) (by simp [gl]) (Rd.of_blk (Blk.new w8 _ _) (by omega) intE_len (by unfold maxLen; simp) rfl) (by simp)).mono ?_
  rintro e w9 ⟨v9, rfl, hown9, hK9'⟩
  have hK9 : Kp w8 w9 := ((Kp.refl _).alloc _).trans hK9'
  clear hK9'
  rw [gl_dist.2.2.2.2.1] at hown9 ⊢
  rw [if_pos rfl, gl_dist.2.2.2.2.2] at hown9
  obtain ⟨A9, c9, rfl, hr9⟩ := hown9.rd (by omega) intE_len
  have hrd9 := hrd8.keep hK9
  have G9 := G8.keep hK9
  clear g0 g1 G8 hrd8
  have g0 : w9.cell? ⟨w1.heap.size, 0, none⟩ = some (.int .i64 3) := G9.cell 0
  have g1 : w9.cell? ⟨w1.heap.size, 1, none⟩ = some (.slice (some ⟨b, 0, none⟩) 3 3) := G9.cell 1
  go_wp2_with fail
  refine (gnear_any 3 1 _ 3 gl _ hrd9 (by simp [gl])).mono ?_
  rintro e w10 ⟨p, A10, c10, rfl, hnm, hK10⟩
  rw [gl_facts.2.2.2.2.2.2.2] at hnm
  have k2 : Kp w2 w10 := hK3.trans (hK4.trans (hK5.trans (hK6.trans (hK7.trans (hK8.trans (hK9.trans hK10))))))
  have k7 : Kp w7 w10 := hK8.trans (hK9.trans hK10)
  have k8 : Kp w8 w10 := hK9.trans hK10
  have kw : Kp w w10 := hKw.trans (hK12.trans k2)
  have q2 := hr2.keep k2
  have q7 := hr7.keep k7
  have q8 := hr8.keep k8
  have q9 := hr9.keep hK10
  have R0 := B0.keep (hK12.trans k2)
  clear hr2 hr7 hr8 hr9 hown2 hown7 hown8 hown9 g0 g1 G9 hrd9 hrd B0 hK12 hK3 hK4 hK5 hK6 hK7 hK8 hK9 hK10 k2 k7 k8 hKw
  have hsn := seq_nil
  go_wp2_with (go_at_call 15; refine (num_any _ _).mono ?_; rintro e w' ⟨rfl, rfl⟩)
  have Q0 := Blk.new w10 3 #[.int .i64 0]
  have hi0 : ∀ w, (Instr.index 68 (.agg #[.int .i64 0, .int .i64 2]) (.int .i64 0)).run Try.prog w = .ok (.int .i64 0) w := fun _ => by kernel_rfl
  have hi1 : ∀ w, (Instr.index 68 (.agg #[.int .i64 0, .int .i64 2]) (.int .i64 1)).run Try.prog w = .ok (.int .i64 2) w := fun _ => by kernel_rfl
  refine wp_range (N := 2) rfl call_near1 (near1_iter p c10 A10 [(0, 0), (1, 2)] (by simp)) (fun _ _ => rfl)
    (fun k W => Blk W w10.heap.size 3 #[.int .i64 k] ∧ Kp w10 W)
    (fun _ _ _ => False) ?_ (fun _ _ _ _ h => h.elim) (fun _ _ h => hnm.keep h.2) ⟨Q0, (Kp.refl _).alloc _⟩ ?_ ?_ (fun _ _ _ _ _ h => h.elim)
  · rintro k W W' ⟨h1, h3⟩ hO
    exact ⟨h1.only hO (by simp <;> omega), hO.kp h3 (by simp <;> omega)⟩
  · rintro l k W hk ⟨h1, h3⟩
    have hk2 : k = 0 ∨ k = 1 := by omega
    rcases hk2 with rfl | rfl
    · gi_wp2_with fail
      refine ⟨trivial, ?_⟩
      rintro W2 ⟨j1, j3⟩ hsz
      have x0 : W2.cell? ⟨w10.heap.size, 0, none⟩ = some (.int .i64 0) := j1.cell 0
      have z0 := j1.frozen 0
      gi_wp2_with fail
      refine ⟨⟨Below.heap_setCell _ _ _ _ (by simp), Below.heap_setCell _ _ _ _ (by simp <;> omega)⟩, j1.set_ 0 _, j3.setCell (by simp) _⟩
    · gi_wp2_with fail
      refine ⟨trivial, ?_⟩
      rintro W2 ⟨j1, j3⟩ hsz
      have x0 : W2.cell? ⟨w10.heap.size, 0, none⟩ = some (.int .i64 1) := j1.cell 0
      have z0 := j1.frozen 0
      gi_wp2_with fail
      refine ⟨⟨Below.heap_setCell _ _ _ _ (by simp), Below.heap_setCell _ _ _ _ (by simp <;> omega)⟩, j1.set_ 0 _, j3.setCell (by simp) _⟩
  · rintro W ⟨h1, h3⟩ hd
    have x0 : W.cell? ⟨w10.heap.size, 0, none⟩ = some (.int .i64 2) := h1.cell 0
    have k0 : Kp w10 W := h3
    have s0 : Kp W W := Kp.refl W
    go_wp2_with fail
    refine (rints_any A2 _ c2 2 [0, 1] [0, 1] _ (q2.keep (k0.alloc _)) (Rd.of_blk (Blk.new _ _ _) (by omega) intE_len (by unfold maxLen; simp) rfl) (by simp)).mono ?_
    rintro e W1 ⟨rfl, hK1⟩
    rw [show decide (([0, 1] : List Int) = [0, 1]) = true from by decide]
    have k1 : Kp w10 W1 := (k0.alloc _).trans hK1
    have s1 : Kp W W1 := (s0.alloc _).trans hK1
    clear hK1
    go_wp2_with fail
    refine (rints_any A7 _ c7 3 [1, 2, 3] [1, 2, 3] _ (q7.keep (k1.alloc _)) (Rd.of_blk (Blk.new _ _ _) (by omega) intE_len (by unfold maxLen; simp) rfl) (by simp)).mono ?_
    rintro e W2 ⟨rfl, hK2⟩
    rw [show decide (([1, 2, 3] : List Int) = [1, 2, 3]) = true from by decide]
    have k2 : Kp w10 W2 := (k1.alloc _).trans hK2
    have s2 : Kp W W2 := (s1.alloc _).trans hK2
    clear hK2
    go_wp2_with fail
    refine (rints_any A8 _ c8 3 [16, 16, 16] [16, 16, 16] _ (q8.keep (k2.alloc _)) (Rd.of_blk (Blk.new _ _ _) (by omega) intE_len (by unfold maxLen; simp) rfl) (by simp)).mono ?_
    rintro e W3 ⟨rfl, hK3⟩
    rw [show decide (([16, 16, 16] : List Int) = [16, 16, 16]) = true from by decide]
    have k3 : Kp w10 W3 := (k2.alloc _).trans hK3
    have s3 : Kp W W3 := (s2.alloc _).trans hK3
    clear hK3
    go_wp2_with fail
    refine (rints_any A9 _ c9 3 [1, 2, 1] [1, 2, 1] _ (q9.keep (k3.alloc _)) (Rd.of_blk (Blk.new _ _ _) (by omega) intE_len (by unfold maxLen; simp) rfl) (by simp)).mono ?_
    rintro e W4 ⟨rfl, hK4⟩
    rw [show decide (([1, 2, 1] : List Int) = [1, 2, 1]) = true from by decide]
    have k4 : Kp w10 W4 := (k3.alloc _).trans hK4
    have s4 : Kp W W4 := (s3.alloc _).trans hK4
    clear hK4
    have R4 := R0.keep k4
    have y0 : W4.cell? ⟨w.heap.size, 0, none⟩ = some (.bool false) := R4.cell 0
    have z0 := R4.frozen 0
    have hd4 := (s4.heap (Array.getElem?_eq_some_iff.1 hd).1).trans hd
    simp only [World.size_alloc] at hd4
    have hsz := kw.size
    have R5 := R4.set_ 0 (.bool true)
    have hd5 : (W4.setCell ⟨w.heap.size, 0, none⟩ (.bool true)).heap[w10.heap.size + 1]? = some (.deferred (some [])) := (Below.heap_setCell _ _ _ _ (by simp; omega)).trans hd4
    have k5 : Kp w (W4.setCell ⟨w.heap.size, 0, none⟩ (.bool true)) := (kw.trans k4).setCell (by simp) _
    go_wp2_with fail
    refine takes1 hd5 (fun W5 hO => ⟨.bool true, ?_, rfl, hO.kp k5 (by simp; omega)⟩)
    have u0 : W5.cell? ⟨w.heap.size, 0, none⟩ = some (.bool true) := (R5.only hO (by simp; omega)).cell 0
    simp [results, Try.results9, go_sem, u0]
end Go.Proofs.Ytgnhhhcelfaliaa
