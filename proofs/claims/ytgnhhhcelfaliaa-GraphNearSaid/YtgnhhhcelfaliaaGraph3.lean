/- GraphNear: whatever graph, router and number: the law returns true, and what was there stands. -/
import Derived.Test.YtgnhhhcelfaliaaGraph1
import Derived.Test.YtgnhhhcelfaliaaReg
import Derived.Test.YtgnhhhcelfaliaaRange2
import Derived.Deep.RegionLaw
namespace Go.Proofs.Ytgnhhhcelfaliaa
open Go.RowKit
attribute [local go_sem] Oper.semAt_some

/-- What the law's variables hold. -/
structure NS (w : World) (R r m : Int) (A : Option Addr) (c : Nat) (ls : List Lk) (W : World) : Prop where
  g : Blk W w.heap.size 24 #[.int .i64 R, .slice A ls.length c]
  r : Blk W (w.heap.size + 1) 3 #[.int .i64 r]
  m : Blk W (w.heap.size + 1 + 1) 3 #[.int .i64 m]
  o : Blk W (w.heap.size + 1 + 1 + 1) 4 #[.bool false]
  k : Kp w W

theorem NS.keep {w W W' : World} {R r m : Int} {A : Option Addr} {c : Nat} {ls : List Lk} (h : NS w R r m A c ls W) (hk : Kp W W') : NS w R r m A c ls W' :=
  ⟨h.g.keep hk, h.r.keep hk, h.m.keep hk, h.o.keep hk, h.k.trans hk⟩
theorem NS.only {w W W' : World} {R r m : Int} {A : Option Addr} {c : Nat} {ls : List Lk} {bs : List Nat} (h : NS w R r m A c ls W) (hk : Only bs W W') (hb : ∀ b ∈ bs, w.heap.size + 3 < b) : NS w R r m A c ls W' :=
  ⟨h.g.only hk (fun hm => by have := hb _ hm; omega), h.r.only hk (fun hm => by have := hb _ hm; omega), h.m.only hk (fun hm => by have := hb _ hm; omega), h.o.only hk (fun hm => by have := hb _ hm; omega), hk.kp h.k (fun b hm => by have := hb _ hm; omega)⟩
theorem NS.lt {w W : World} {R r m : Int} {A : Option Addr} {c : Nat} {ls : List Lk} (h : NS w R r m A c ls W) : w.heap.size + 1 + 1 + 1 < W.heap.size := h.o.lt

def wantTo (ls : List Lk) (r : Int) (k : Nat) : List Int := (rowsOf ls r ((faces ls r).take k)).map (·.1)
def want (R : Int) (ls : List Lk) (r : Int) : List Int := (near R ls r).map (·.1)
theorem wantTo_len (ls : List Lk) (r : Int) (k : Nat) : (wantTo ls r k).length ≤ k := by
  unfold wantTo
  rw [List.length_map]
  exact Nat.le_trans (rowsOf_le _ _ _) (List.length_take_le _ _)
theorem wantTo_up {ls : List Lk} {r : Int} {k j : Nat} (hk : k < (faces ls r).length) (hj : j < ls.length) (he : (faces ls r)[k] = (j : Int)) (hu : ls[j].Up = true) : wantTo ls r (k + 1) = wantTo ls r k ++ [(j : Int)] := by
  unfold wantTo; rw [rows_up hk hj he hu]; simp
theorem wantTo_down {ls : List Lk} {r : Int} {k j : Nat} (hk : k < (faces ls r).length) (hj : j < ls.length) (he : (faces ls r)[k] = (j : Int)) (hu : ls[j].Up = false) : wantTo ls r (k + 1) = wantTo ls r k := by
  unfold wantTo; rw [rows_down hk hj he hu]

theorem takes2 {W : World} {r s : Nat} (hd : W.heap[r]? = some (.deferred (some []))) (he : W.heap[s]? = some (.deferred (some []))) (hne : s ≠ r) {K : World → Prop} (h : ∀ W', Only [r, s] W W' → K W') :
    Takes [{ target := .collected r, args := #[] }, { target := .collected s, args := #[] }] W K :=
  ⟨r, rfl, hd, s, rfl, (World.putObj_heap_other hne).trans he, h _ (((Only.refl [r, s] W).putObj (by simp) _).putObj (by simp) _)⟩
/-- The law's turn and count, and a word beside them. -/
def TI (w5 : World) (T N : Nat) (t n : Int) (C : Prop) (W : World) : Prop := Kp w5 W ∧ Blk W T 3 #[.int .i64 t] ∧ Blk W N 3 #[.int .i64 n] ∧ C
theorem TI.only {w5 W W' : World} {T N : Nat} {t n : Int} {C : Prop} {bs : List Nat} (h : TI w5 T N t n C W) (hO : Only bs W W') (h1 : T ∉ bs) (h2 : N ∉ bs) (h3 : ∀ b ∈ bs, w5.heap.size ≤ b) : TI w5 T N t n C W' :=
  ⟨hO.kp h.1 h3, h.2.1.only hO h1, h.2.2.1.only hO h2, h.2.2.2⟩
theorem near_at {R r : Int} {ls : List Lk} {k : Nat} (hk : k < (near R ls r).length) :
    ∃ j : Nat, ∃ hj : j < ls.length, (near R ls r)[k] = ((j : Int), ls[j].A + ls[j].B - r) ∧ right R ls = true ∧ 0 ≤ r ∧ r < R := by
  have hmem := List.getElem_mem hk
  generalize (near R ls r)[k] = x at hmem
  unfold near at hmem
  split at hmem
  · rename_i he
    have hr : right R ls = true ∧ 0 ≤ r ∧ r < R := by
      unfold routerErr at he
      split at he
      · split at he
        · rename_i h1 h2; exact ⟨h1, h2⟩
        · cases he
      · cases he
    unfold rowsOf at hmem
    obtain ⟨i, hi, hx⟩ := List.mem_filterMap.1 hmem
    have hb := facesTo_mem (ls := ls) (r := r) (k := ls.length) hi
    obtain ⟨j, rfl⟩ := Int.eq_ofNat_of_zero_le hb.1
    have hj : j < ls.length := by omega
    refine ⟨j, hj, ?_, hr⟩
    simp only [rowOf, Int.toNat_natCast, List.getElem?_eq_getElem hj] at hx
    split at hx
    · injection hx with hx; exact hx.symm
    · cases hx
  · simp at hmem
theorem want_at {R r : Int} {ls : List Lk} {k : Nat} (hk : k < (near R ls r).length) : ∃ h : k < (want R ls r).length, (want R ls r)[k] = (near R ls r)[k].1 := ⟨by simpa [want] using hk, by simp [want]⟩
theorem want_len (R r : Int) (ls : List Lk) : (want R ls r).length = (near R ls r).length := by simp [want]
theorem near_len {R r : Int} {ls : List Lk} (hn : ls.length ≤ 30) : (near R ls r).length ≤ 30 := by
  unfold near
  split
  · have := facesTo_len ls r ls.length
    have h2 := rowsOf_le ls r (faces ls r)
    unfold faces at h2 ⊢
    omega
  · simp

set_option maxRecDepth 100000 in
set_option maxHeartbeats 4000000 in
theorem near_few (R r m : Int) (A : Option Addr) (c : Nat) (ls : List Lk) (w : World) (hR : Rd w 3 Lk.enc A ls) (hn : ls.length ≤ 30) :
    Calls Try.prog 5 #[.agg #[.int .i64 R, .slice A ls.length c], .int .i64 r, .int .i64 m] w fun e w' => e = .returned (.bool true) ∧ Kp w w' := by
  have H := Lib.hid (few_yes hn)
  refine calls_of_wp_marks Try.func5 rfl ?_; simp only [Try.ntmps5, List.size_toArray, List.length_cons, List.length_nil, Nat.reduceAdd, Nat.reduceSub, Array.replicate_succ, Array.replicate_zero, List.push_toArray, List.append_toArray, List.nil_append, List.cons_append]
  go_wp2_with fail
  refine (few_any R A ls.length c _).mono ?_
  rintro e w1 ⟨rfl, hK1⟩
  rw [H.out]
  have S1 : NS w R r m A c ls w1 := by
    refine NS.keep ⟨?_, ?_, ?_, ?_, ?_⟩ hK1
    · exact (((Blk.new w _ _).alloc _).alloc _).alloc _
    · exact ((Blk.new1 w _ _ _).alloc _).alloc _
    · exact (Blk.new2 w _ _ _ _).alloc _
    · exact Blk.new3 w _ _ _ _ _
    · exact ((((Kp.refl _).alloc _).alloc _).alloc _).alloc _
  clear hK1 H
  have hlt1 := S1.lt
  obtain ⟨wa, hwa, Sa, Pa⟩ : ∃ wa, w1.alloc (.cells #[.slice none 0 0] 27) = wa ∧ NS w R r m A c ls wa ∧ Blk wa w1.heap.size 27 #[.slice none 0 0] := ⟨_, rfl, S1.keep ((Kp.refl _).alloc _), Blk.new w1 _ _⟩
  clear S1
  have g0 : wa.cell? ⟨w.heap.size, 0, none⟩ = some (.int .i64 R) := Sa.g.cell 0
  have g1 : wa.cell? ⟨w.heap.size, 1, none⟩ = some (.slice A ls.length c) := Sa.g.cell 1
  have g2 : wa.cell? ⟨w.heap.size + 1, 0, none⟩ = some (.int .i64 r) := Sa.r.cell 0
  go_wp2_with fail
  obtain ⟨p, hp⟩ : ∃ p, w1.heap.size = p := ⟨_, rfl⟩
  rw [hp] at hlt1 Pa ⊢
  clear hp hwa
  refine (rrouter_any R r A c ls _ (hR.keep Sa.k) hn).mono ?_
  rintro e w2 ⟨rfl, hK2⟩
  have S2 := Sa.keep hK2
  have P2 := Pa.keep hK2
  clear g0 g1 g2 Sa Pa hK2
  have hp2 := P2.lt
  go_upto_if 22 with (fail)
  go_cut [] from 22 to 47 (fun wx => NS w R r m A c ls wx ∧ ∃ A2 c2, Blk wx p 27 #[.slice A2 (want R ls r).length c2] ∧ Rd wx 1 intE A2 (want R ls r))
  case first =>
    by_cases he : routerErr R ls r = 0
    · have Hw := Lib.hid (show want R ls r = wantTo ls r (faces ls r).length by simp [want, wantTo, near, he])
      have hr : right R ls = true ∧ 0 ≤ r ∧ r < R := by
        unfold routerErr at he
        split at he
        · split at he
          · rename_i h1 h2; exact ⟨h1, h2⟩
          · cases he
        · cases he
      have Hr := Lib.hid hr.1; clear hr
      have e1 : (routerErr R ls r == 0) = true := by simp [he]
      clear he
      have g0 : w2.cell? ⟨w.heap.size, 0, none⟩ = some (.int .i64 R) := S2.g.cell 0
      have g1 : w2.cell? ⟨w.heap.size, 1, none⟩ = some (.slice A ls.length c) := S2.g.cell 1
      have g2 : w2.cell? ⟨w.heap.size + 1, 0, none⟩ = some (.int .i64 r) := S2.r.cell 0
      go_wp2_with fail
      refine (rlinks_any R r A c ls _ (hR.keep S2.k) (by omega)).mono ?_
      rintro e w3 ⟨v3, rfl, hown3, hK3⟩
      obtain ⟨A3, c3, rfl, hr3⟩ := hown3.rd (by omega) intE_len
      have hlen : (faces ls r).length ≤ 30 := by have := facesTo_len ls r ls.length; unfold faces; omega
      have S3 := S2.keep hK3
      have P3 := P2.keep hK3
      have hp3 := P3.lt
      clear g0 g1 g2 S2 P2 hK3 e1
      go_wp2_with fail
      go_loopw [9] (fun i wr => ∃ k : Nat, k ≤ (faces ls r).length ∧ i = .int .i64 k ∧ (∃ v, Blk wr p 27 #[v] ∧ OwnI wr w3.heap.size v (wantTo ls r k)) ∧ Only [p] w3 wr) (fun i _ => (faces ls r).length - (intOf i).toNat)
      case atStart => exact ⟨0, Nat.zero_le _, rfl, ⟨_, P3, Own.nil _ _ _ _ _⟩, Only.refl _ _⟩
      case round =>
        obtain ⟨k, hk, rfl, ⟨v, B, hw⟩, hO⟩ := hrel
        have Sr := S3.only hO (by simp; omega)
        have hsz := hO.size
        by_cases hlt : k < (faces ls r).length
        · obtain ⟨j, hj, hjl⟩ := faces_nat hlt
          have hfr : Rd wr 1 intE A3 (faces ls r) := Rd.of_own (by omega) intE_len (hown3.only hO (by simp; omega))
          obtain ⟨b1', off1, rfl, x0⟩ := int_at hfr hlt
          have hb3 := (World.ownsRow.lt hown3 b1' rfl).2
          rw [hj] at x0
          obtain ⟨b, off, rfl, c0, c1, c2⟩ := lk_at (hR.keep Sr.k) hjl
          have g1 : wr.cell? ⟨w.heap.size, 1, none⟩ = some (.slice (some ⟨b, off, none⟩) ls.length c) := Sr.g.cell 1
          have Hj := Lib.hid hj; clear hj
          have hlr := wantTo_len ls r k
          cases hu : ls[j].Up with
          | true =>
            rw [hu] at c2
            have Hu := Lib.hid hu; clear hu
            go_wp2_with fail
            go_quiet (fail)
            go_wp2_with fail
            have v0 : wr.cell? ⟨p, 0, none⟩ = some v := B.cell 0
            have z0 := B.frozen 0
            have hne := hw.ne hp3
            have hpr : p < wr.heap.size := by omega
            have hi0 : (0 : Int) ≤ (k : Int) := by omega
            have hi1 : (k : Int) < ((faces ls r).length : Int) := by omega
            have hn1 := hw.ne hb3
            have hb1 : b1' < wr.heap.size := by omega
            have Hnq := Lib.hid (B.drewN nq)
            have v0' : ∀ n o, ((wr.drewN n).alloc o).cell? ⟨p, 0, none⟩ = some v := fun n o => ((B.drewN n).alloc o).cell 0
            go_region_law ((refine step_appx EInt (by rfl) _ _ (by rfl) (j : Int) (by rfl) ((hw.drewN _).alloc _) (by simp; omega) (by rfl) (e' := 3) (heap_alloc_new _ _) (by rfl) (by rfl) (by rfl) (by omega) ?_; intro g cap w4 hown4 hg hat; have B4 := ((B.drewN _).alloc _).grown hg hne; have z4 := B4.frozen 0; have y4 : w4.cell? ⟨p, 0, none⟩ = some v := B4.cell 0))
            all_goals
              go_wp2_with fail
              go_roundw
              case rel => exact ⟨k + 1, by omega, by go_num, ⟨_, B4.set_ 0 _, by rw [wantTo_up hlt hjl Hj.out Hu.out]; exact hown4.setBelow (p := ⟨p, 0, none⟩) (by show p < _; omega) _⟩, (((hO.drewN _).alloc _).grown hg (fun q hq => (World.ownsRow.lt hw q hq).1)).setCell (.inl (by simp)) _⟩
              case measure => simp [intOf]; omega
          | false =>
            rw [hu] at c2
            have Hu := Lib.hid hu; clear hu
            go_wp2_with fail
            go_quiet (fail)
            go_wp2_with fail
            go_roundw
            case rel => exact ⟨k + 1, by omega, by go_num, ⟨v, B.drewN _, by rw [wantTo_down hlt hjl Hj.out Hu.out]; exact hw.drewN _⟩, hO.drewN _⟩
            case measure => simp [intOf]; omega
        · obtain rfl : k = (faces ls r).length := by omega
          go_wp2_with fail
          go_meet
          case rel =>
            rw [← Hw.out] at hw
            obtain ⟨A2, c2, rfl, hrd2⟩ := hw.rd (by omega) intE_len
            exact ⟨Sr, A2, c2, B, hrd2⟩
    · have Hw := Lib.hid (show want R ls r = [] by simp [want, near, he])
      have e1 : (routerErr R ls r == 0) = false := by simpa using he
      clear he
      go_wp2_with fail
      go_meet
      case rel => rw [Hw.out]; exact ⟨S2, none, 0, P2, Rd.nil _ _ _ _⟩
  case rest =>
    obtain ⟨Sc, A2, c2, Pc, hrd⟩ := hcut
    have g0 : wc.cell? ⟨w.heap.size, 0, none⟩ = some (.int .i64 R) := Sc.g.cell 0
    have g1 : wc.cell? ⟨w.heap.size, 1, none⟩ = some (.slice A ls.length c) := Sc.g.cell 1
    have g2 : wc.cell? ⟨w.heap.size + 1, 0, none⟩ = some (.int .i64 r) := Sc.r.cell 0
    clear S2 P2
    go_wp2_with fail
    refine (gnear_any R r A c ls _ (hR.keep Sc.k) hn).mono ?_
    rintro e w5 ⟨q, A5, c5, rfl, hnm, hK5⟩
    have S5 := Sc.keep hK5
    have P5 := Pc.keep hK5
    have hrd5 := hrd.keep hK5
    clear g0 g1 g2 Sc Pc hrd hK5
    have hsn := seq_nil
    go_wp2_with fail
    clear hsn
    refine wp_loop_rounds 3 ?_
    rw [rounds_succ]
    go_wp2_with fail
    have hlen := near_len (R := R) (r := r) hn
    have hp5 := P5.lt
    have h5lt := S5.lt
    obtain ⟨ws, hws, hK5, T5, N5, hsz5⟩ : ∃ ws, (w5.alloc (.cells #[.int .i64 0] 3)).alloc (.cells #[.int .i64 0] 3) = ws ∧ Kp w5 ws ∧ Blk ws w5.heap.size 3 #[.int .i64 0] ∧ Blk ws (w5.heap.size + 1) 3 #[.int .i64 0] ∧ ws.heap.size = w5.heap.size + 1 + 1 :=
      ⟨_, rfl, ((Kp.refl _).alloc _).alloc _, (Blk.new w5 _ _).alloc _, Blk.new1 w5 _ _ _, by simp⟩
    rw [hws]
    have Hsz5 := Lib.hid hsz5; clear hsz5 hws
    refine wp_range_join (N := (near R ls r).length) rfl call_near1 (near1_iter q c5 A5 (near R ls r) hlen) (fun _ _ => rfl)
      (fun k W => TI w5 w5.heap.size (w5.heap.size + 1) 0 k (k = 0 ∨ (k : Int) < m) W)
      (fun k W => TI w5 w5.heap.size (w5.heap.size + 1) 0 k ((k : Int) = max 1 m) W)
      (fun W => TI w5 w5.heap.size (w5.heap.size + 1) 0 (min (near R ls r).length (max 1 m)) True W)
      ?_ ?_ (fun _ _ h => hnm.keep h.1) ⟨hK5, T5, N5, .inl rfl⟩ ?_ ?_ ?_ ?_
    · intro k W W' h hO
      rw [Hsz5.out] at hO
      exact h.only hO (by simp <;> omega) (by simp <;> omega) (by simp <;> omega)
    · intro k W W' h hO
      rw [Hsz5.out] at hO
      exact h.only hO (by simp <;> omega) (by simp <;> omega) (by simp <;> omega)
    · rintro W ⟨h1, h2, h3, h4⟩
      refine ⟨h1, h2, ?_, trivial⟩
      rw [show min ((near R ls r).length : Int) (max 1 m) = ((near R ls r).length : Int) by omega]
      exact h3
    · rintro k W hk0 hkN ⟨h1, h2, h3, h4⟩
      refine ⟨h1, h2, ?_, trivial⟩
      rw [show min ((near R ls r).length : Int) (max 1 m) = (k : Int) by omega]
      exact h3
    · rintro l k W hk ⟨h1, h2, h3, h4⟩
      obtain ⟨j, hj, hnj, hr, hr0, hr1⟩ := near_at hk
      obtain ⟨hkw, hwk⟩ := want_at hk
      have hlk := right_link hr hj
      have h20 := right_20 hr
      have Hwl := Lib.hid (want_len R r ls)
      rw [hnj] at hwk
      have hx1 : (((near R ls r)[k]?).getD (0, 0)).1 = (j : Int) := by rw [List.getElem?_eq_getElem hk, Option.getD_some, hnj]
      have hx2 : (((near R ls r)[k]?).getD (0, 0)).2 = ls[j].A + ls[j].B - r := by rw [List.getElem?_eq_getElem hk, Option.getD_some, hnj]
      rw [hx1, hx2]
      have Hwk := Lib.hid hwk; clear hwk hx1 hx2 hnj
      have H4 := Lib.hid h4
      clear h1 h2 h3 h4
      gi_wp2_with fail
      rintro W2 ⟨j1, j2, j3, _⟩ hsz
      have S2 := S5.keep j1
      have P2 := P5.keep j1
      obtain ⟨b2, off2, rfl, x0⟩ := int_at (hrd5.keep j1) hkw
      rw [Hwk.out] at x0
      have t0 : W2.cell? ⟨w5.heap.size, 0, none⟩ = some (.int .i64 0) := j2.cell 0
      have n0 : W2.cell? ⟨w5.heap.size + 1, 0, none⟩ = some (.int .i64 k) := j3.cell 0
      have p0 : W2.cell? ⟨p, 0, none⟩ = some (.slice (some ⟨b2, off2, none⟩) (want R ls r).length c2) := P2.cell 0
      have g0 : W2.cell? ⟨w.heap.size, 0, none⟩ = some (.int .i64 R) := S2.g.cell 0
      have g1 : W2.cell? ⟨w.heap.size, 1, none⟩ = some (.slice A ls.length c) := S2.g.cell 1
      have g2 : W2.cell? ⟨w.heap.size + 1, 0, none⟩ = some (.int .i64 r) := S2.r.cell 0
      have g3 : W2.cell? ⟨w.heap.size + 1 + 1, 0, none⟩ = some (.int .i64 m) := S2.m.cell 0
      gi_wp2_with fail
      refine ⟨trivial, rfl, calls_round l ((rother_any R r j A c ls _ (hR.keep S2.k) hj (by omega) (by omega) (by omega)).mono ?_)⟩
      rintro e W3 ⟨rfl, hK3⟩
      have y1 := j1.trans hK3
      have y2 := j2.keep hK3
      have y3 := j3.keep hK3
      have S3 := S5.keep y1
      have z3 := y3.frozen 0
      have kept : ∀ u, Kept2 ws W2 (W3.setCell ⟨w5.heap.size + 1, 0, none⟩ u) := fun u => ⟨(Below.heap_setCell _ _ _ _ (by simp [Hsz5.out])).trans (hK3.heap (by omega)), (Below.heap_setCell _ _ _ _ (by simp [Hsz5.out] <;> omega)).trans (hK3.heap hsz)⟩
      have Hkept := Lib.hid kept; clear kept
      clear t0 n0 p0 g0 g1 g2 g3 S2 P2 x0
      have t0 : W3.cell? ⟨w5.heap.size, 0, none⟩ = some (.int .i64 0) := y2.cell 0
      have n0 : W3.cell? ⟨w5.heap.size + 1, 0, none⟩ = some (.int .i64 k) := y3.cell 0
      have g3 : W3.cell? ⟨w.heap.size + 1 + 1, 0, none⟩ = some (.int .i64 m) := S3.m.cell 0
      have hm1 := S3.m.lt
      have TI2 : ∀ C : Prop, C → TI w5 w5.heap.size (w5.heap.size + 1) 0 (↑(k + 1)) C (W3.setCell ⟨w5.heap.size + 1, 0, none⟩ (.int .i64 (k + 1))) := fun C hC => ⟨y1.setCell (by simp) _, y2.far (by simp) _, by simpa using y3.set_ 0 (.int .i64 (k + 1)), hC⟩
      have HTI := Lib.hid TI2; clear TI2
      by_cases hm : m ≤ (k : Int) + 1
      · gi_wp2_with fail
        exact ⟨Hkept.out _, rfl, HTI.out _ (by have := H4.out; omega)⟩
      · gi_wp2_with fail
        exact ⟨Hkept.out _, HTI.out _ (by omega)⟩
    · rintro W ⟨h1, h2, h3, _⟩ hd
      rw [Hsz5.out] at hd ⊢
      have S6 := S5.keep h1
      have P6 := P5.keep h1
      have t0 : W.cell? ⟨w5.heap.size, 0, none⟩ = some (.int .i64 0) := h2.cell 0
      have n0 : W.cell? ⟨w5.heap.size + 1, 0, none⟩ = some (.int .i64 (min (near R ls r).length (max 1 m))) := h3.cell 0
      have p0 : W.cell? ⟨p, 0, none⟩ = some (.slice A2 (want R ls r).length c2) := P6.cell 0
      have g3 : W.cell? ⟨w.heap.size + 1 + 1, 0, none⟩ = some (.int .i64 m) := S6.m.cell 0
      have Hwl := Lib.hid (want_len R r ls)
      rw [← Hwl.out] at n0
      have hwl : (want R ls r).length ≤ 30 := by rw [Hwl.out]; exact hlen
      clear hlen h3
      go_upto_region 25 with (fail)
      go_cut [109] from 89 to 109 (fun s wx => s = .bool false ∧ W = wx)
      case first =>
        by_cases a1 : m ≤ 1
        · by_cases a2 : (want R ls r).length < 1
          · rw [show min ((want R ls r).length : Int) (max 1 m) = ((want R ls r).length : Int) by omega] at n0
            go_wp2_with fail
            all_goals (go_meet; case rel => exact ⟨rfl, rfl⟩)
          · rw [show min ((want R ls r).length : Int) (max 1 m) = 1 by omega] at n0
            go_wp2_with fail
            all_goals (go_meet; case rel => exact ⟨rfl, rfl⟩)
        · by_cases a2 : ((want R ls r).length : Int) ≤ m
          · rw [show min ((want R ls r).length : Int) (max 1 m) = ((want R ls r).length : Int) by omega] at n0
            go_wp2_with fail
            all_goals (go_meet; case rel => exact ⟨rfl, rfl⟩)
          · rw [show min ((want R ls r).length : Int) (max 1 m) = m by omega] at n0
            go_wp2_with fail
            all_goals (go_meet; case rel => exact ⟨rfl, rfl⟩)
      case rest =>
        obtain ⟨rfl, rfl⟩ := hcut
        clear n0 p0 g3
        go_wp2_with fail
        rw [rounds_succ]
        go_wp2_with fail
        have hK5' := h1
        clear h1 h2 t0 T5 N5 hK5
        have hr6 := hrd5.keep hK5'
        have nm6 := hnm.keep hK5'
        clear S5 P5 hrd5 hnm
        have hw5W := hK5'.size
        have hp6 := P6.lt
        have h6lt := S6.lt
        obtain ⟨ws6, hws, hK6, T6, N6, hsz6⟩ : ∃ ws6, (W.alloc (.cells #[.int .i64 1] 3)).alloc (.cells #[.int .i64 0] 3) = ws6 ∧ Kp W ws6 ∧ Blk ws6 W.heap.size 3 #[.int .i64 1] ∧ Blk ws6 (W.heap.size + 1) 3 #[.int .i64 0] ∧ ws6.heap.size = W.heap.size + 1 + 1 :=
          ⟨_, rfl, ((Kp.refl _).alloc _).alloc _, (Blk.new W _ _).alloc _, Blk.new1 W _ _ _, by simp⟩
        rw [hws]
        have Hsz6 := Lib.hid hsz6; clear hsz6 hws
        refine wp_range_join (N := (near R ls r).length) rfl call_near1 (near1_iter q c5 A5 (near R ls r) (near_len hn)) (fun _ _ => rfl)
          (fun k V => TI W W.heap.size (W.heap.size + 1) 1 k True V) (fun k V => False) (fun V => TI W W.heap.size (W.heap.size + 1) 1 (near R ls r).length True V)
          ?_ (fun _ _ _ h => h.elim) (fun _ _ h => nm6.keep h.1) ⟨hK6, T6, N6, trivial⟩ (fun _ h => h) (fun _ _ _ _ h => h.elim) ?_ ?_
        · intro k V V' h hO
          rw [Hsz6.out] at hO
          exact h.only hO (by simp <;> omega) (by simp <;> omega) (by simp <;> omega)
        · rintro l k V hk ⟨h1, h2, h3, h4⟩
          obtain ⟨j, hj, hnj, hr, hr0, hr1⟩ := near_at hk
          obtain ⟨hkw, hwk⟩ := want_at hk
          have hlk := right_link hr hj
          have h20 := right_20 hr
          rw [hnj] at hwk
          have hx1 : (((near R ls r)[k]?).getD (0, 0)).1 = (j : Int) := by rw [List.getElem?_eq_getElem hk, Option.getD_some, hnj]
          have hx2 : (((near R ls r)[k]?).getD (0, 0)).2 = ls[j].A + ls[j].B - r := by rw [List.getElem?_eq_getElem hk, Option.getD_some, hnj]
          rw [hx1, hx2]
          have Hwk := Lib.hid hwk; clear hwk hx1 hx2 hnj
          clear h1 h2 h3 h4
          gi_wp2_with fail
          rintro W2 ⟨j1, j2, j3, _⟩ hsz
          have S2 := S6.keep j1
          have P2 := P6.keep j1
          obtain ⟨b2, off2, rfl, x0⟩ := int_at (hr6.keep j1) hkw
          rw [Hwk.out] at x0
          have t0 : W2.cell? ⟨W.heap.size, 0, none⟩ = some (.int .i64 1) := j2.cell 0
          have n0 : W2.cell? ⟨W.heap.size + 1, 0, none⟩ = some (.int .i64 k) := j3.cell 0
          have p0 : W2.cell? ⟨p, 0, none⟩ = some (.slice (some ⟨b2, off2, none⟩) (want R ls r).length c2) := P2.cell 0
          have g0 : W2.cell? ⟨w.heap.size, 0, none⟩ = some (.int .i64 R) := S2.g.cell 0
          have g1 : W2.cell? ⟨w.heap.size, 1, none⟩ = some (.slice A ls.length c) := S2.g.cell 1
          have g2 : W2.cell? ⟨w.heap.size + 1, 0, none⟩ = some (.int .i64 r) := S2.r.cell 0
          gi_wp2_with fail
          refine ⟨trivial, rfl, calls_round l ((rother_any R r j A c ls _ (hR.keep S2.k) hj (by omega) (by omega) (by omega)).mono ?_)⟩
          rintro e W3 ⟨rfl, hK3⟩
          have y1 := j1.trans hK3
          have y2 := j2.keep hK3
          have y3 := j3.keep hK3
          have z3 := y3.frozen 0
          have kept : ∀ u, Kept2 ws6 W2 (W3.setCell ⟨W.heap.size + 1, 0, none⟩ u) := fun u => ⟨(Below.heap_setCell _ _ _ _ (by simp [Hsz6.out])).trans (hK3.heap (by omega)), (Below.heap_setCell _ _ _ _ (by simp [Hsz6.out] <;> omega)).trans (hK3.heap hsz)⟩
          have Hkept := Lib.hid kept; clear kept
          clear t0 n0 p0 g0 g1 g2 S2 P2 x0
          have t0 : W3.cell? ⟨W.heap.size, 0, none⟩ = some (.int .i64 1) := y2.cell 0
          have n0 : W3.cell? ⟨W.heap.size + 1, 0, none⟩ = some (.int .i64 k) := y3.cell 0
          have TI2 : TI W W.heap.size (W.heap.size + 1) 1 (↑(k + 1)) True (W3.setCell ⟨W.heap.size + 1, 0, none⟩ (.int .i64 (k + 1))) := ⟨y1.setCell (by simp) _, y2.far (by simp) _, by simpa using y3.set_ 0 (.int .i64 (k + 1)), trivial⟩
          have HTI := Lib.hid TI2; clear TI2
          gi_wp2_with fail
          exact ⟨Hkept.out _, HTI.out⟩
        · rintro V ⟨h1, h2, h3, _⟩ hd2
          rw [Hsz6.out] at hd2 ⊢
          have S7 := S6.keep h1
          have P7 := P6.keep h1
          have t0 : V.cell? ⟨W.heap.size, 0, none⟩ = some (.int .i64 1) := h2.cell 0
          rw [← Hwl.out] at h3
          have n0 : V.cell? ⟨W.heap.size + 1, 0, none⟩ = some (.int .i64 (want R ls r).length) := h3.cell 0
          have p0 : V.cell? ⟨p, 0, none⟩ = some (.slice A2 (want R ls r).length c2) := P7.cell 0
          go_wp2_with fail
          rw [rounds_succ]
          go_wp2_with fail
          refine (works_any _).mono ?_
          rintro e V2 ⟨rfl, hK8⟩
          have hKV : Kp V V2 := ((Kp.refl _).alloc _).trans hK8
          have S8 := S7.keep hKV
          have y0 : V2.cell? ⟨w.heap.size + 1 + 1 + 1, 0, none⟩ = some (.bool false) := S8.o.cell 0
          have z0 := S8.o.frozen 0
          have R5 := S8.o.set_ 0 (.bool true)
          have k5 : Kp w (V2.setCell ⟨w.heap.size + 1 + 1 + 1, 0, none⟩ (.bool true)) := S8.k.setCell (by simp <;> omega) _
          have m1 := ((h1.trans hKV).heap (Array.getElem?_eq_some_iff.1 hd).1).trans hd
          have m2 := (hKV.heap (Array.getElem?_eq_some_iff.1 hd2).1).trans hd2
          have m1' : (V2.setCell ⟨w.heap.size + 1 + 1 + 1, 0, none⟩ (.bool true)).heap[w5.heap.size + 1 + 1]? = some (.deferred (some [])) := (Below.heap_setCell _ _ _ _ (by simp; omega)).trans m1
          have m2' : (V2.setCell ⟨w.heap.size + 1 + 1 + 1, 0, none⟩ (.bool true)).heap[W.heap.size + 1 + 1]? = some (.deferred (some [])) := (Below.heap_setCell _ _ _ _ (by simp; omega)).trans m2
          have hdlt := (Array.getElem?_eq_some_iff.1 hd).1
          clear m1 m2 hd hd2
          go_wp2_with fail
          refine takes2 m2' m1' (by omega) (fun W9 hO => ⟨.bool true, ?_, rfl, hO.kp k5 (by simp; omega)⟩)
          have u0 : W9.cell? ⟨w.heap.size + 1 + 1 + 1, 0, none⟩ = some (.bool true) := (R5.only hO (by simp; omega)).cell 0
          simp [results, Try.results5, go_sem, u0]

set_option maxRecDepth 100000 in
set_option maxHeartbeats 1000000 in
theorem near_many (R r m : Int) (A : Option Addr) (c : Nat) (ls : List Lk) (w : World) (hn : ¬ ls.length ≤ 30) :
    Calls Try.prog 5 #[.agg #[.int .i64 R, .slice A ls.length c], .int .i64 r, .int .i64 m] w fun e w' => e = .returned (.bool true) ∧ Kp w w' := by
  have H := Lib.hid (few_no hn); clear hn
  refine calls_of_wp_marks Try.func5 rfl ?_; simp only [Try.ntmps5, List.size_toArray, List.length_cons, List.length_nil, Nat.reduceAdd, Nat.reduceSub, Array.replicate_succ, Array.replicate_zero, List.push_toArray, List.append_toArray, List.nil_append, List.cons_append]
  go_wp2_with fail
  refine (few_any R A ls.length c _).mono ?_
  rintro e w1 ⟨rfl, hK1⟩
  rw [H.out]
  go_wp2_with fail
  refine (works_any _).mono ?_
  rintro e w2 ⟨rfl, hK2⟩
  have k2 := hK1.trans hK2
  have o2 := (Blk.new3 w _ _ _ _ _).keep k2
  have y0 : w2.cell? ⟨w.heap.size + 1 + 1 + 1, 0, none⟩ = some (.bool false) := o2.cell 0
  have z0 := o2.frozen 0
  have kw : Kp w w2 := (((((Kp.refl _).alloc _).alloc _).alloc _).alloc _).trans k2
  have o3 := o2.set_ 0 (.bool true)
  have y3 : (w2.setCell ⟨w.heap.size + 1 + 1 + 1, 0, none⟩ (.bool true)).cell? ⟨w.heap.size + 1 + 1 + 1, 0, none⟩ = some (.bool true) := o3.cell 0
  go_wp2_with fail
  refine ⟨.bool true, ?_, rfl, kw.setCell (by simp <;> omega) _⟩
  simp [results, Try.results5, go_sem, y3]

theorem graphNear_any (R r m : Int) (A : Option Addr) (c : Nat) (ls : List Lk) (w : World) (hR : Rd w 3 Lk.enc A ls) :
    Calls Try.prog 5 #[.agg #[.int .i64 R, .slice A ls.length c], .int .i64 r, .int .i64 m] w fun e w' => e = .returned (.bool true) ∧ Kp w w' := by
  by_cases hn : ls.length ≤ 30
  · exact near_few R r m A c ls w hR hn
  · exact near_many R r m A c ls w hn
end Go.Proofs.Ytgnhhhcelfaliaa
