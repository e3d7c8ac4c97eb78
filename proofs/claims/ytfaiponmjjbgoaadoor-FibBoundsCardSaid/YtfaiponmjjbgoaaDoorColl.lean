/- slices.Collect of places, and slices.Backward over them. -/
import Derived.Test.YtfaiponmjjbgoaaDoorTrL
import Derived.Test.YtfaiponmjjbgoaaDoorRound2
namespace Go.Proofs.YtfaiponmjjbgoaaDoor
open Go.RowKit
attribute [local go_sem] Oper.semAt_some

def ptE (A : Nat × Nat) : List Value := [.pointer (some ⟨A.1, A.2, none⟩)]
theorem ptE_len (A : Nat × Nat) : (ptE A).length = 1 := rfl
theorem EPt : ElemOf Tryd.prog 105 83 (.pointer none) 1 8 := ⟨Tryd.underlying105, by kernel_rfl, rfl, by decide⟩

theorem Own.newA {α : Type} {w : World} {base e sz n c : Nat} {enc : α → List Value} {A : Option Addr} {xs : List α} (h : Own w base e sz enc (.slice A n c) xs) : ∀ a, A = some a → base ≤ a.block := by
  rintro a rfl
  rcases h.2 with ⟨h2, _⟩ | ⟨g, cap, cur, hv, hg, _⟩
  · cases h2
  · injection hv with h1; injection h1 with h1; rw [h1]; exact hg
theorem Rd.only {α : Type} {w w' : World} {sz : Nat} {enc : α → List Value} {A : Option Addr} {xs : List α} {bs : List Nat} (h : Rd w sz enc A xs) (k : Only bs w w') (hA : ∀ a, A = some a → a.block ∉ bs) : Rd w' sz enc A xs := fun i hi => by
  obtain ⟨b, off, e, hc⟩ := h i hi
  exact ⟨b, off, e, fun j u hu => k.cell (hc j u hu) (show b ∉ bs from hA ⟨b, off, none⟩ e)⟩

def CollI (w : World) (ps : List (Nat × Nat)) (k : Nat) (W : World) : Prop :=
  ∃ v, Blk W w.heap.size 105 #[v] ∧ Own W (w.heap.size + 1 + 1 + 1) 83 1 ptE v (ps.take k) ∧ Kp w W
def CollPost (w : World) (ps : List (Nat × Nat)) (e : Ending) (w' : World) : Prop := ∃ A c, e = .returned (.slice A ps.length c) ∧ Rd w' 1 ptE A ps ∧ Kp w w' ∧ ∀ a, A = some a → w.heap.size ≤ a.block

set_option maxRecDepth 100000 in
set_option maxHeartbeats 1000000 in
theorem appendSeq_any {gf : FuncId} {caps : Array Value} {M : World → Prop} (ps : List (Nat × Nat)) (hn : ps.length ≤ 1000000) (eg : ∀ args w, (callFunc gf args).run Tryd.prog w = .ok (.enter gf args) w)
    (hit : Iter Tryd.prog gf caps ps.length (fun k => #[.pointer (some ⟨(ps.getD k (0, 0)).1, (ps.getD k (0, 0)).2, none⟩)]) M) (w : World) (hM : ∀ W, Kp w W → M W) :
    Calls Tryd.prog 62 #[.slice none 0 0, .func (.func gf) #[] caps] w (CollPost w ps) := by
  have HM := Lib.hid hM; clear hM
  have Hit := Lib.hid hit; clear hit
  have Heg := Lib.hid eg; clear eg
  refine calls_of_wp_marks Tryd.func62 rfl ?_; simp only [Tryd.ntmps62, List.size_toArray, List.length_cons, List.length_nil, Nat.reduceAdd, Nat.reduceSub, Array.replicate_succ, Array.replicate_zero, List.push_toArray, List.append_toArray, List.nil_append, List.cons_append]
  go_wp2_with fail
  refine wp_range (N := ps.length) rfl Heg.out Hit.out (fun _ _ => rfl) (CollI w ps) (fun _ _ _ => False) ?_ (fun _ _ _ _ h => h.elim) (fun _ _ h => HM.out _ (by obtain ⟨v, _, _, k⟩ := h; exact k)) ?_ ?_ ?_ (fun _ _ _ _ _ h => h.elim)
  · rintro k W W' ⟨v, h1, h2, h3⟩ hO
    simp only [World.size_alloc] at hO
    exact ⟨v, h1.only hO (by simp <;> omega), h2.only hO (by simp <;> omega), hO.kp h3 (by simp <;> omega)⟩
  · exact ⟨_, Blk.new w _ _, by rw [List.take_zero]; exact Own.nil _ _ _ _ _, (Kp.refl _).alloc _⟩
  · intro l k W hk _
    have hget0 : ps.getD k (0, 0) = ps[k] := by simp [List.getD, hk]
    rw [hget0]
    clear hget0
    gi_wp2_with fail
    refine ⟨trivial, ?_⟩
    rintro W2 ⟨v, h1, h2, h3⟩ hsz
    simp only [World.size_alloc] at hsz
    have x0 : W2.cell? ⟨w.heap.size, 0, none⟩ = some v := h1.cell 0
    have z0 := h1.frozen 0
    have hget : ps.getD k (0, 0) = ps[k] := by simp [List.getD, hk]
    have hlen : (ps.take k).length = k := by simp; omega
    have Htk := Lib.hid (show ps.take k ++ [ps[k]] = ps.take (k + 1) by simp)
    have Hlen := Lib.hid hlen; clear hlen
    clear hget
    refine wpIn_block ?_
    refine round_list (by kernel_rfl) (no_out_block no_out_round) ?_
    go_wp2_with (at_builtin; go_must (refine wpList_appx EPt rfl _ _ rfl ps[k] rfl h2 h3 (by omega) (by omega) rfl rfl rfl rfl rfl (by rw [Hlen.out]; omega) ?_); intro v' w2 hown' hK' hg; obtain ⟨A2, c2, rfl⟩ := hown'.form1; have B2 := h1.grown hg (h2.ne (by omega)); have cc2 : w2.cell? ⟨w.heap.size, 0, none⟩ = some v := B2.cell 0; have zz := B2.frozen 0)
    have e1 : w2.heap[w.heap.size + 1]? = W2.heap[w.heap.size + 1]? := hg.block _ (by omega) (h2.ne (by omega))
    have e2 : w2.heap[w.heap.size + 1 + 1]? = W2.heap[w.heap.size + 1 + 1]? := hg.block _ (by omega) (h2.ne (by omega))
    refine ⟨⟨?_, ?_⟩, _, B2.set_ 0 _, ?_, hK'.setCell (by simp) _⟩
    · simp only [World.size_alloc]; exact (Below.heap_setCell _ _ _ _ (by simp)).trans e1
    · simp only [World.size_alloc]; exact (Below.heap_setCell _ _ _ _ (by simp <;> omega)).trans e2
    · rw [← Htk.out]; rw [List.length_take] at hown'; exact Own.setBelow (p := ⟨w.heap.size, 0, none⟩) hown' (show w.heap.size < w.heap.size + 1 + 1 + 1 by omega) _
  · rintro W ⟨v, h1, h2, h3⟩ hd
    rw [List.take_length] at h2
    simp only [World.size_alloc] at hd
    have x0 : W.cell? ⟨w.heap.size, 0, none⟩ = some v := h1.cell 0
    obtain ⟨A, c, rfl, hR⟩ := h2.rd (by decide) ptE_len
    go_wp2_with fail
    simp only [World.size_alloc]
    refine takes_one hd (fun W' hO => ?_)
    refine ⟨.slice A ps.length c, ?_, A, c, rfl, fun i hi => ?_, hO.kp h3 (by simp), fun a ha => by have := h2.newA a ha; omega⟩
    · simp [results, Tryd.results62, go_sem]
    · have hR' := (h2.only hO (by simp <;> omega)).rd (by decide) ptE_len
      obtain ⟨A', c', e, hR'⟩ := hR'
      injection e with e1
      subst e1
      exact hR' i hi

set_option maxHeartbeats 400000 in
theorem collect_any {gf : FuncId} {caps : Array Value} {M : World → Prop} (ps : List (Nat × Nat)) (hn : ps.length ≤ 1000000) (eg : ∀ args w, (callFunc gf args).run Tryd.prog w = .ok (.enter gf args) w)
    (hit : Iter Tryd.prog gf caps ps.length (fun k => #[.pointer (some ⟨(ps.getD k (0, 0)).1, (ps.getD k (0, 0)).2, none⟩)]) M) (w : World) (hM : ∀ W, Kp w W → M W) :
    Calls Tryd.prog 52 #[.func (.func gf) #[] caps] w (CollPost w ps) := by
  have HM := Lib.hid hM; clear hM
  have Hit := Lib.hid hit; clear hit
  have Heg := Lib.hid eg; clear eg
  go_enter Tryd.func52, Tryd.ntmps52
  go_wp2_with fail
  refine (appendSeq_any ps hn Heg.out Hit.out w HM.out).mono ?_
  rintro e w' ⟨A, c, rfl, hR, hK, hA⟩
  have HA := Lib.hid hA; clear hA
  go_wp2_with fail
  go_ret
  exact ⟨A, c, rfl, hR, hK, HA.out⟩

set_option maxHeartbeats 400000 in
theorem backward_any (A : Option Addr) (n c : Nat) (w : World) :
    Calls Tryd.prog 53 #[.slice A n c] w fun e w' => e = .returned (.func (.func 63) #[] #[.pointer (some ⟨w.heap.size, 0, none⟩)]) ∧ Blk w' w.heap.size 105 #[.slice A n c] ∧ Kp w w' := by
  have hmf := makeFunc_run
  go_enter Tryd.func53, Tryd.ntmps53
  go_wp2_with fail
  go_ret
  exact ⟨rfl, Blk.new w _ _, (Kp.refl _).alloc _⟩
theorem call_back1 (args : Array Value) (w : World) : (callFunc 63 args).run Tryd.prog w = .ok (.enter 63 args) w := by kernel_rfl

/-- What Backward's iterator reads. -/
structure BackMem (bx : Nat) (A : Option Addr) (c : Nat) (ps : List (Nat × Nat)) (W : World) : Prop where
  bx : Blk W bx 105 #[.slice A ps.length c]
  rd : Rd W 1 ptE A ps

set_option maxRecDepth 100000 in
set_option maxHeartbeats 1000000 in
theorem back1_iter (bx : Nat) (A : Option Addr) (c : Nat) (ps : List (Nat × Nat)) (hn : ps.length ≤ 1000000) :
    Iter Tryd.prog 63 #[.pointer (some ⟨bx, 0, none⟩)] ps.length
      (fun k => #[.int .i64 ((ps.length : Int) - 1 - k), .pointer (some ⟨(ps.getD (ps.length - 1 - k) (0, 0)).1, (ps.getD (ps.length - 1 - k) (0, 0)).2, none⟩)]) (BackMem bx A c ps) := by
  intro l I Z W hI hZ hM hy h0
  have HI := Lib.hid hI; clear hI
  have HZ := Lib.hid hZ; clear hZ
  have HM := Lib.hid hM; clear hM
  have HY := Lib.hid hy; clear hy
  obtain ⟨N, hN⟩ : ∃ N, ps.length = N := ⟨_, rfl⟩
  have HN := Lib.hid hN
  rw [hN] at HY hn ⊢
  clear hN
  have D0 := HM.out 0 W h0
  have c0 : W.cell? ⟨bx, 0, none⟩ = some (.slice A N c) := by have := D0.bx.cell 0; rw [HN.out] at this; exact this
  have H0 := Lib.hid h0; clear h0
  clear D0
  go_enter Tryd.func63, Tryd.ntmps63
  go_wp2_with fail
  go_loopg [3] N (fun g i wr => ∃ k : Nat, k ≤ N ∧ g = N - k ∧ i = .int .i64 ((N : Int) - 1 - k) ∧ Hid (I k wr))
  case atStart => exact ⟨0, Nat.zero_le _, rfl, by simp, H0⟩
  case round =>
    obtain ⟨k, hk, hg, rfl, hi⟩ := hrel
    have D := HM.out k wr hi.out
    have cb : wr.cell? ⟨bx, 0, none⟩ = some (.slice A N c) := by have := D.bx.cell 0; rw [HN.out] at this; exact this
    by_cases hlt : k < N
    · obtain ⟨b, off, hA, hc⟩ := D.rd (N - 1 - k) (by rw [HN.out]; omega)
      subst hA
      have hc0 := hc 0 _ rfl
      have hget : ps.getD (N - 1 - k) (0, 0) = ps[N - 1 - k]'(by rw [HN.out]; omega) := by
        simp only [List.getD]; rw [List.getElem?_eq_getElem (by rw [HN.out]; omega)]; rfl
      rw [← hget] at hc0
      have hge : (0 : Int) ≤ (N : Int) - 1 - k := by omega
      have hl2 : (N : Int) - 1 - k < N := by omega
      have htn : ((N : Int) - 1 - k).toNat = N - 1 - k := by omega
      have cx : wr.cell? ⟨b, off + ((N : Int) - 1 - k).toNat, none⟩ = some (.pointer (some ⟨(ps.getD (N - 1 - k) (0, 0)).1, (ps.getD (N - 1 - k) (0, 0)).2, none⟩)) := by
        rw [htn]; simpa using hc0
      have cx2 : wr.cell? ⟨b, off + (N - 1 - k), none⟩ = some (.pointer (some ⟨(ps.getD (N - 1 - k) (0, 0)).1, (ps.getD (N - 1 - k) (0, 0)).2, none⟩)) := by
        simpa using hc0
      clear hc hc0 D
      have Hget := Lib.hid hget; clear hget
      have Htn := Lib.hid htn; clear htn
      obtain ⟨fn, tmps, asg, bd, hrun, hround⟩ := HY.out k wr hlt hi.out
      simp only [List.getD_eq_getElem?_getD] at hrun hround cx cx2
      have hd1 : decide ((k : Int) ≤ (N : Int) - 1) = true := by simp; omega
      go_upto_region 3 with (fail)
      refine (wpIn_wide (n := 0)).1 ?_
      gi_wp2_with fail
      refine ⟨rfl, hround.mono ?_⟩
      clear hrun hround
      rintro e W' (⟨rfl, hi2⟩ | ⟨rfl, hz⟩)
      · have Hi2 := Lib.hid hi2; clear hi2
        gi_wp2_with fail
        go_wp2_with fail
        go_roundg (N - (k + 1))
        case rel => exact ⟨k + 1, by omega, rfl, by go_num, Hi2⟩
        case measure => omega
      · have Hz := Lib.hid hz; clear hz
        gi_wp2_with fail
        go_wp2_with fail
        refine bodyPost_ret (v := .tuple #[]) (by simp [results, Tryd.results63, go_sem]) rfl ?_
        exact ⟨rfl, .inr ⟨k + 1, by omega, by omega, Hz.out⟩⟩
    · obtain rfl : k = N := by omega
      have hd : decide ((0 : Int) ≤ (k : Int) - 1 - k) = false := by simp; omega
      have hd2 : decide ((k : Int) ≤ (k : Int) - 1) = false := by simp; omega
      go_wp2_with fail
      go_end0
      exact ⟨rfl, .inl hi.out⟩
end Go.Proofs.YtfaiponmjjbgoaaDoor
