/- Lemmas and contracts for the theorem of this claim: ScM, ScN, ScO, ScP, ScQ, ScR. -/
import Derived.Test.YtbfimimhgdkpaaaGreatDoorZfC
import Derived.Lib.ItoaLen
import Derived.StillTailTactics
set_option linter.unusedSimpArgs false
set_option linter.unusedVariables false
/- Package script: plain. No condition but the stated bounds. -/
namespace Go.Proofs.YtbfimimhgdkpaaaGreatDoor
open Go.RowKit Go.Maps

theorem row_rd {w : World} {x y z k g : Nat} (hB : Blk w g 89 (rowC x y z k).toArray) (hk : k ≤ 8) : Rd w 3 (partC x y z) (some ⟨g, 0, none⟩) (partsOf k) := by
  refine Rd.of_blk hB (by decide) (partC_len x y z) ?_ (by simp [rowC])
  have : (partsOf k).length ≤ 5 := by
    have : k = 0 ∨ k = 1 ∨ k = 2 ∨ k = 3 ∨ k = 4 ∨ k = 5 ∨ k = 6 ∨ k = 7 ∨ k = 8 := by omega
    rcases this with rfl | rfl | rfl | rfl | rfl | rfl | rfl | rfl | rfl <;> decide
  simp only [maxLen]; omega
theorem parts_len {k : Nat} (hk : k ≤ 8) : (partsOf k).length ≤ 5 := by
  have : k = 0 ∨ k = 1 ∨ k = 2 ∨ k = 3 ∨ k = 4 ∨ k = 5 ∨ k = 6 ∨ k = 7 ∨ k = 8 := by omega
  rcases this with rfl | rfl | rfl | rfl | rfl | rfl | rfl | rfl | rfl <;> decide
/-- What a round of a loop over parts reads. -/
theorem part_at {w : World} {x y z g : Nat} {ps : List Pt} (h : Rd w 3 (partC x y z) (some ⟨g, 0, none⟩) ps) {j : Nat} (hj : j < ps.length) {p : Pt} (hp : ps[j] = p) :
    ∀ (i : Nat) (u : Value), (partC x y z p)[i]? = some u → w.cell? ⟨g, j * 3 + i, none⟩ = some u := by
  obtain ⟨b, off, e, hc⟩ := h j hj
  injection e with e
  injection e with e1 e2
  subst e1; subst e2
  intro i u hu
  rw [hp] at hc
  have := hc i u hu
  rwa [Nat.zero_add] at this
/-- The event to which so many parts have been put. -/
def putAll (e : Ev) (k j : Nat) : Ev := ((partsOf k).take j).foldl (fun t p => putE p t e) (ev0 k)
theorem putAll_next {e : Ev} {k j : Nat} (hj : j < (partsOf k).length) {p : Pt} (hp : (partsOf k)[j] = p) : putAll e k (j + 1) = putE p (putAll e k j) e := by
  unfold putAll
  rw [List.take_add_one, List.getElem?_eq_getElem hj, hp, List.foldl_append]
  rfl
/-- An event as it stands in memory. -/
def EvAt (w : World) (g : Nat) (T : TypeId) (cs : List Value) (t : Ev) : Prop := ∃ A c, Blk w g T ((evC t (.slice A t.bytes.length c)).toList ++ cs).toArray ∧ Rd w 1 byteE A t.bytes
theorem Rd.only {α : Type} {w w' : World} {sz : Nat} {enc : α → List Value} {A : Option Addr} {xs : List α} {g : Nat} (h : Rd w sz enc A xs) (hO : Only [g] w w') (hn : ∀ b o, A = some ⟨b, o, none⟩ → b ≠ g) : Rd w' sz enc A xs := fun i hi => by
  obtain ⟨b, off, e, hc⟩ := h i hi
  exact ⟨b, off, e, fun j u hu => hO.cell (hc j u hu) (by simpa using hn b off e)⟩

/-- What stands as parts are put. -/
structure PutR (w wa : World) (e : Ev) (k j : Nat) (wr : World) : Prop where
  kp : Kp wa wr
  blk : ∃ A' c', Blk wr wa.heap.size 27 (evC (putAll e k j) (.slice A' (putAll e k j).bytes.length c')) ∧ Rd w 1 byteE A' (putAll e k j).bytes
theorem PutR.next {w wa wr w' : World} {e : Ev} {k j : Nat} (h : Kp wa wr) (hO : Only [wa.heap.size] wr w') {A' : Option Addr} {c' : Nat} {t : Ev} (ht : putAll e k (j + 1) = t) (hB : Blk w' wa.heap.size 27 (evC t (.slice A' t.bytes.length c'))) (hR : Rd w 1 byteE A' t.bytes) : PutR w wa e k (j + 1) w' :=
  ⟨hO.kp h (by simp), A', c', by rw [ht]; exact hB, by rw [ht]; exact hR⟩

set_option maxRecDepth 100000 in
set_option maxHeartbeats 4000000 in
theorem plain_in (e : Ev) (A : Option Addr) (c k : Nat) (hk : e.kind = (k : Int)) (h1 : 1 ≤ k) (h8 : k ≤ 8) (w : World) (hA : Rd w 1 byteE A e.bytes) (hl : e.bytes.length ≤ 1000000) :
    Calls Tryz.prog 37 #[evV e (.slice A e.bytes.length c)] w fun en w' => en = .returned (.bool (plainP e)) ∧ Kp w w' := by
  have hkk : kWf e.kind := by rw [hk]; exact kWf_of (by omega) (by omega)
  have KB : Kp w (w.alloc (.cells (evC e (.slice A e.bytes.length c)) 27)) := (Kp.refl w).alloc _
  have BE := Blk.new w 27 (evC e (.slice A e.bytes.length c))
  have HK := Lib.hid hk
  clear hk
  go_enter Tryz.func37, Tryz.ntmps37
  go_wp2_with fail
  obtain ⟨W, hW, KW, BW⟩ : ∃ W, w.alloc (.cells (evC e (.slice A e.bytes.length c)) 27) = W ∧ Kp w W ∧ Blk W w.heap.size 27 (evC e (.slice A e.bytes.length c)) := ⟨_, rfl, KB, BE⟩
  simp only [evC] at hW
  rw [hW]
  clear hW KB BE
  have q0 : W.cell? ⟨w.heap.size, 0, none⟩ = some (.int .i64 e.kind) := BW.cell 0
  go_region_held3 (fun w' => w'.cell? ⟨w.heap.size, 0, none⟩ = some (.int .i64 e.kind)) (first | exact Kd.cell q0 | go_keep) (first | (go_at_call 39; refine (lines_any _).mono ?_; rintro en wa ⟨x, y, z, b, f, rfl, HL, hx, hy, hz, Ka⟩; have Kd : Kp W wa := (Kp.refl W).drew.trans Ka; obtain ⟨u, hu, g, rfl, hB⟩ := HL.row k h1 h8; have hlk : (Instr.lookup 84 (.map (some b)) (.int .i64 e.kind) true).run Tryz.prog wa = .ok (.tuple #[.slice (some ⟨g, 0, none⟩) (partsOf k).length (partsOf k).length, .bool true]) wa := (by have := HL.map.look hkk; rw [HK.out, hu] at this; rw [HK.out]; exact this)))
  have hwa : W.heap.size ≤ wa.heap.size := Kd.size
  have hxl := HL.box.x.lt
  have hyl := HL.box.y.lt
  have hzl := HL.box.z.lt
  have hn5 := parts_len h8
  have R0 : PutR w wa e k 0 (wa.alloc (.cells #[.int .i64 e.kind, .int .i64 0, .int .i64 0, .int .i64 0, .int .i64 0, .int .u32 0, .slice none 0 0] 27)) := by
    refine ⟨(Kp.refl _).alloc _, none, 0, ?_, Rd.nil _ _ _ _⟩
    have h := Blk.new wa 27 (evC (ev0 (k : Int)) (.slice none 0 0))
    rw [← HK.out] at h
    have e0 : putAll e k 0 = ev0 (k : Int) := rfl
    rw [e0, ← HK.out]
    exact h
  have HR0 := Lib.hid R0; clear R0
  have HRow := Lib.hid (row_rd hB h8)
  have HLb := Lib.hid HL.box
  have BWa := BW.keep Kd
  clear hlk hu HL q0
  go_wp2_with fail
  go_loopw [22] (fun i wr => ∃ j : Nat, j ≤ (partsOf k).length ∧ i = .int .i64 j ∧ Hid (PutR w wa e k j wr)) (fun i _ => (partsOf k).length - (intOf i).toNat)
  case atStart => exact ⟨0, by omega, rfl, HR0⟩
  case round =>
    obtain ⟨j, hj, rfl, R⟩ := hrel
    have BR := BWa.keep R.out.kp
    have hsz := R.out.kp.size
    have r0 : wr.cell? ⟨w.heap.size, 0, none⟩ = some (.int .i64 e.kind) := BR.cell 0
    have r1 : wr.cell? ⟨w.heap.size, 1, none⟩ = some (.int .i64 e.a) := BR.cell 1
    have r2 : wr.cell? ⟨w.heap.size, 2, none⟩ = some (.int .i64 e.b) := BR.cell 2
    have r3 : wr.cell? ⟨w.heap.size, 3, none⟩ = some (.int .i64 e.c) := BR.cell 3
    have r4 : wr.cell? ⟨w.heap.size, 4, none⟩ = some (.int .i64 e.draw) := BR.cell 4
    have r5 : wr.cell? ⟨w.heap.size, 5, none⟩ = some (.int .u32 (e.src : Int)) := BR.cell 5
    have r6 : wr.cell? ⟨w.heap.size, 6, none⟩ = some (.slice A e.bytes.length c) := BR.cell 6
    have hlt0 : w.heap.size < wr.heap.size := BR.lt
    have hne0 : ¬ w.heap.size = wr.heap.size := by omega
    obtain ⟨A', c', hB', hR'⟩ := R.out.blk
    by_cases hlt : j < (partsOf k).length
    · obtain ⟨p, hp⟩ : ∃ p, (partsOf k)[j] = p := ⟨_, rfl⟩
      have Hnx := Lib.hid (putAll_next (e := e) hlt hp)
      have hcell := part_at (HRow.out.keep R.out.kp) hlt hp
      have HB' := Lib.hid hB'; clear hB'
      have hBx := HLb.out.keep R.out.kp
      clear hp
      cases p with
      | a =>
        have d0 : wr.cell? ⟨g, j * 3, none⟩ = some (.func (.func 124) #[] #[.pointer (some ⟨x, 0, none⟩)]) := hcell 0 _ rfl
        have d1 : wr.cell? ⟨g, j * 3 + 1, none⟩ = some (.func (.func 125) #[] #[.pointer (some ⟨x, 0, none⟩)]) := hcell 1 _ rfl
        have d2 : wr.cell? ⟨g, j * 3 + 2, none⟩ = some (.func (.func 127) #[] #[.pointer (some ⟨x, 0, none⟩)]) := hcell 2 _ rfl
        clear hcell
        go_wp2_with fail
        refine (put_a wa.heap.size x 27 _ (by simp [evC]) e _ _ (HB'.out.alloc _) (by omega) ((hBx.keep ((Kp.refl wr).alloc _)).x.cell 0)).mono ?_
        rintro en w2 ⟨rfl, hB2, hO2⟩
        have Hn := Lib.hid (PutR.next (w := w) (e := e) (k := k) (j := j) (R.out.kp.alloc _) hO2 Hnx.out hB2 hR')
        clear hB2 hO2
        go_wp2_with fail
        go_roundw
        case rel => exact ⟨j + 1, by omega, by go_num, Hn⟩
        case measure => simp [intOf]; omega
      | b =>
        have d0 : wr.cell? ⟨g, j * 3, none⟩ = some (.func (.func 124) #[] #[.pointer (some ⟨y, 0, none⟩)]) := hcell 0 _ rfl
        have d1 : wr.cell? ⟨g, j * 3 + 1, none⟩ = some (.func (.func 125) #[] #[.pointer (some ⟨y, 0, none⟩)]) := hcell 1 _ rfl
        have d2 : wr.cell? ⟨g, j * 3 + 2, none⟩ = some (.func (.func 127) #[] #[.pointer (some ⟨y, 0, none⟩)]) := hcell 2 _ rfl
        clear hcell
        go_wp2_with fail
        refine (put_b wa.heap.size y 27 _ (by simp [evC]) e _ _ (HB'.out.alloc _) (by omega) ((hBx.keep ((Kp.refl wr).alloc _)).y.cell 0)).mono ?_
        rintro en w2 ⟨rfl, hB2, hO2⟩
        have Hn := Lib.hid (PutR.next (w := w) (e := e) (k := k) (j := j) (R.out.kp.alloc _) hO2 Hnx.out hB2 hR')
        clear hB2 hO2
        go_wp2_with fail
        go_roundw
        case rel => exact ⟨j + 1, by omega, by go_num, Hn⟩
        case measure => simp [intOf]; omega
      | c =>
        have d0 : wr.cell? ⟨g, j * 3, none⟩ = some (.func (.func 133) #[] #[]) := hcell 0 _ rfl
        have d1 : wr.cell? ⟨g, j * 3 + 1, none⟩ = some (.func (.func 134) #[] #[]) := hcell 1 _ rfl
        have d2 : wr.cell? ⟨g, j * 3 + 2, none⟩ = some (.func (.func 135) #[] #[]) := hcell 2 _ rfl
        clear hcell
        go_wp2_with fail
        refine (put_turn wa.heap.size 27 _ (by simp [evC]) e _ _ (HB'.out.alloc _)).mono ?_
        rintro en w2 ⟨rfl, hB2, hO2⟩
        have Hn := Lib.hid (PutR.next (w := w) (e := e) (k := k) (j := j) (R.out.kp.alloc _) hO2 Hnx.out hB2 hR')
        clear hB2 hO2
        go_wp2_with fail
        go_roundw
        case rel => exact ⟨j + 1, by omega, by go_num, Hn⟩
        case measure => simp [intOf]; omega
      | d =>
        have d0 : wr.cell? ⟨g, j * 3, none⟩ = some (.func (.func 130) #[] #[.pointer (some ⟨z, 0, none⟩)]) := hcell 0 _ rfl
        have d1 : wr.cell? ⟨g, j * 3 + 1, none⟩ = some (.func (.func 131) #[] #[.pointer (some ⟨z, 0, none⟩)]) := hcell 1 _ rfl
        have d2 : wr.cell? ⟨g, j * 3 + 2, none⟩ = some (.func (.func 132) #[] #[.pointer (some ⟨z, 0, none⟩)]) := hcell 2 _ rfl
        clear hcell
        go_wp2_with fail
        refine (put_d wa.heap.size z 27 _ (by simp [evC]) e _ _ (HB'.out.alloc _) (by omega) ((hBx.keep ((Kp.refl wr).alloc _)).z.cell 0)).mono ?_
        rintro en w2 ⟨rfl, hB2, hO2⟩
        have Hn := Lib.hid (PutR.next (w := w) (e := e) (k := k) (j := j) (R.out.kp.alloc _) hO2 Hnx.out hB2 hR')
        clear hB2 hO2
        go_wp2_with fail
        go_roundw
        case rel => exact ⟨j + 1, by omega, by go_num, Hn⟩
        case measure => simp [intOf]; omega
      | s =>
        have d0 : wr.cell? ⟨g, j * 3, none⟩ = some (.func (.func 136) #[] #[]) := hcell 0 _ rfl
        have d1 : wr.cell? ⟨g, j * 3 + 1, none⟩ = some (.func (.func 137) #[] #[]) := hcell 1 _ rfl
        have d2 : wr.cell? ⟨g, j * 3 + 2, none⟩ = some (.func (.func 138) #[] #[]) := hcell 2 _ rfl
        clear hcell
        go_wp2_with fail
        refine (put_src wa.heap.size 27 _ (by simp [evC]) e _ _ (HB'.out.alloc _)).mono ?_
        rintro en w2 ⟨rfl, hB2, hO2⟩
        have Hn := Lib.hid (PutR.next (w := w) (e := e) (k := k) (j := j) (R.out.kp.alloc _) hO2 Hnx.out hB2 hR')
        clear hB2 hO2
        go_wp2_with fail
        go_roundw
        case rel => exact ⟨j + 1, by omega, by go_num, Hn⟩
        case measure => simp [intOf]; omega
      | x =>
        have d0 : wr.cell? ⟨g, j * 3, none⟩ = some (.func (.func 139) #[] #[]) := hcell 0 _ rfl
        have d1 : wr.cell? ⟨g, j * 3 + 1, none⟩ = some (.func (.func 140) #[] #[]) := hcell 1 _ rfl
        have d2 : wr.cell? ⟨g, j * 3 + 2, none⟩ = some (.func (.func 141) #[] #[]) := hcell 2 _ rfl
        clear hcell
        go_wp2_with fail
        refine (put_data wa.heap.size 27 _ (by simp [evC]) e A e.bytes.length c _ (HB'.out.alloc _)).mono ?_
        rintro en w2 ⟨rfl, hB2, hO2⟩
        have Hn := Lib.hid (PutR.next (w := w) (e := e) (k := k) (j := j) (R.out.kp.alloc _) hO2 Hnx.out hB2 hA)
        clear hB2 hO2
        go_wp2_with fail
        go_roundw
        case rel => exact ⟨j + 1, by omega, by go_num, Hn⟩
        case measure => simp [intOf]; omega
    · obtain rfl : j = (partsOf k).length := by omega
      have Ht := Lib.hid (show putAll e k (partsOf k).length = (partsOf e.kind.toNat).foldl (fun t p => putE p t e) (ev0 e.kind) by
        unfold putAll
        rw [List.take_length]
        have : e.kind.toNat = k := by have := HK.out; omega
        rw [this, HK.out])
      obtain ⟨t, ht⟩ : ∃ t, putAll e k (partsOf k).length = t := ⟨_, rfl⟩
      rw [ht] at Ht hB' hR'
      have s0 : wr.cell? ⟨wa.heap.size, 0, none⟩ = some (.int .i64 t.kind) := hB'.cell 0
      have s1 : wr.cell? ⟨wa.heap.size, 1, none⟩ = some (.int .i64 t.a) := hB'.cell 1
      have s2 : wr.cell? ⟨wa.heap.size, 2, none⟩ = some (.int .i64 t.b) := hB'.cell 2
      have s3 : wr.cell? ⟨wa.heap.size, 3, none⟩ = some (.int .i64 t.c) := hB'.cell 3
      have s4 : wr.cell? ⟨wa.heap.size, 4, none⟩ = some (.int .i64 t.draw) := hB'.cell 4
      have s5 : wr.cell? ⟨wa.heap.size, 5, none⟩ = some (.int .u32 (t.src : Int)) := hB'.cell 5
      have s6 : wr.cell? ⟨wa.heap.size, 6, none⟩ = some (.slice A' t.bytes.length c') := hB'.cell 6
      have Kw : Kp w wr := KW.trans (Kd.trans R.out.kp)
      clear ht hB'
      go_wp2_with fail
      refine (same_any t e A' A c' c wr (hR'.keep Kw) (hA.keep Kw)).mono ?_
      rintro en w2 ⟨rfl, hK2⟩
      have hk0 : decide (1 ≤ e.kind ∧ e.kind ≤ 8) = true := by rw [decide_eq_true_iff]; have := HK.out; omega
      have Hk0 := Lib.hid hk0; clear hk0
      have g3 := hK2.cell r3
      have g6 := hK2.cell r6
      by_cases te : t = e
      · have Hd := Lib.hid (show decide ((partsOf e.kind.toNat).foldl (fun t p => putE p t e) (ev0 e.kind) = e) = true by rw [← Ht.out, te]; exact decide_eq_true rfl)
        rw [decide_eq_true te]
        clear te
        by_cases hc0 : e.c = 0
        · have tc : (e.c == 0) = true := by rw [beq_iff_eq]; exact hc0
          have Hc := Lib.hid (show decide (e.c = 0 ∨ e.c = 1) = true from decide_eq_true (.inl hc0)); clear hc0
          have Hf := Lib.hid (show plainP e = decide (e.bytes.length ≤ 600) by simp only [plainP]; rw [Hk0.out, Hd.out, Hc.out]; simp)
          go_wp2_with fail
          go_ret
          exact ⟨by rw [Hf.out]; simp; omega, Kw.trans hK2⟩
        · have tc : (e.c == 0) = false := by rw [beq_eq_false_iff_ne]; exact hc0
          by_cases hc1 : e.c = 1
          · have tc1 : (e.c == 1) = true := by rw [beq_iff_eq]; exact hc1
            have Hc := Lib.hid (show decide (e.c = 0 ∨ e.c = 1) = true from decide_eq_true (.inr hc1)); clear hc0 hc1
            have Hf := Lib.hid (show plainP e = decide (e.bytes.length ≤ 600) by simp only [plainP]; rw [Hk0.out, Hd.out, Hc.out]; simp)
            go_wp2_with fail
            go_ret
            exact ⟨by rw [Hf.out]; simp; omega, Kw.trans hK2⟩
          · have tc1 : (e.c == 1) = false := by rw [beq_eq_false_iff_ne]; exact hc1
            have Hc := Lib.hid (show decide (e.c = 0 ∨ e.c = 1) = false from decide_eq_false (by rintro (h | h); exact hc0 h; exact hc1 h)); clear hc0 hc1
            have Hf := Lib.hid (show plainP e = false by simp only [plainP]; rw [Hk0.out, Hd.out, Hc.out]; simp)
            go_wp2_with fail
            go_ret
            exact ⟨by rw [Hf.out]; rfl, Kw.trans hK2⟩
      · have Hf := Lib.hid (show plainP e = false by
          have : decide ((partsOf e.kind.toNat).foldl (fun t p => putE p t e) (ev0 e.kind) = e) = false := by rw [← Ht.out]; exact decide_eq_false te
          simp only [plainP]; rw [Hk0.out, this]; simp)
        rw [decide_eq_false te]
        clear te
        go_wp2_with fail
        go_ret
        exact ⟨by rw [Hf.out]; rfl, Kw.trans hK2⟩
set_option maxRecDepth 100000 in
set_option maxHeartbeats 2000000 in
theorem plain_out (e : Ev) (bv : Value) (h : e.kind < 1 ∨ 8 < e.kind) (h0 : -9223372036854775808 ≤ e.kind) (h1 : e.kind ≤ 9223372036854775807) (w : World) :
    Calls Tryz.prog 37 #[evV e bv] w fun en w' => en = .returned (.bool (plainP e)) ∧ Kp w w' := by
  have hkk : kWf e.kind := kWf_of h0 h1
  have Hf := Lib.hid (show plainP e = false by simp only [plainP]; rw [decide_eq_false (by omega)]; rfl)
  have HH := Lib.hid h; clear h h0 h1
  have KB : Kp w (w.alloc (.cells (evC e bv) 27)) := (Kp.refl w).alloc _
  have BE := Blk.new w 27 (evC e bv)
  go_enter Tryz.func37, Tryz.ntmps37
  go_wp2_with fail
  obtain ⟨W, hW, KW, BW⟩ : ∃ W, w.alloc (.cells (evC e bv) 27) = W ∧ Kp w W ∧ Blk W w.heap.size 27 (evC e bv) := ⟨_, rfl, KB, BE⟩
  simp only [evC] at hW
  rw [hW]
  clear hW KB BE
  have q0 : W.cell? ⟨w.heap.size, 0, none⟩ = some (.int .i64 e.kind) := BW.cell 0
  go_region_held3 (fun w' => w'.cell? ⟨w.heap.size, 0, none⟩ = some (.int .i64 e.kind)) (first | exact Kd.cell q0 | go_keep) (first | (go_at_call 39; refine (lines_any _).mono ?_; rintro en wa ⟨x, y, z, b, f, rfl, HL, hx, hy, hz, Ka⟩; have Kd : Kp W wa := (Kp.refl W).drew.trans Ka; have hlk : (Instr.lookup 84 (.map (some b)) (.int .i64 e.kind) true).run Tryz.prog wa = .ok (.tuple #[.slice none 0 0, .bool false]) wa := (by have := HL.map.look hkk; rw [HL.no _ hkk HH.out] at this; exact this)))
  all_goals go_wp2_with fail
  all_goals go_ret
  all_goals exact ⟨by rw [Hf.out]; rfl, KW.trans Kd⟩
theorem plain_any (e : Ev) (A : Option Addr) (c : Nat) (w : World) (h0 : -9223372036854775808 ≤ e.kind) (h1 : e.kind ≤ 9223372036854775807) (hA : Rd w 1 byteE A e.bytes) (hl : e.bytes.length ≤ 1000000) :
    Calls Tryz.prog 37 #[evV e (.slice A e.bytes.length c)] w fun en w' => en = .returned (.bool (plainP e)) ∧ Kp w w' := by
  by_cases h : e.kind < 1 ∨ 8 < e.kind
  · exact plain_out e _ h h0 h1 w
  · exact plain_in e A c e.kind.toNat (by omega) (by omega) (by omega) w hA hl
end Go.Proofs.YtbfimimhgdkpaaaGreatDoor

/- Package script: names, a line's words. No condition but the stated bounds. -/
namespace Go.Proofs.YtbfimimhgdkpaaaGreatDoor
open Go.RowKit

def strE (l : List UInt8) : List Value := [.string (strB l)]
theorem strE_len (l : List UInt8) : (strE l).length = 1 := rfl
theorem EStr : ElemOf Tryz.prog 68 9 (.string ⟨#[]⟩) 1 16 := ⟨Tryz.underlying68, by kernel_rfl, rfl, by decide⟩
theorem extract_eq (s : ByteArray) (a b : Nat) : s.extract a b = strB ((s.data.toList.drop a).take (b - a)) := by
  have h := Lib.extract_data s a b
  apply ByteArray.ext
  apply Array.toList_inj.1
  rw [h]
theorem byte_idx {s : ByteArray} {i : Nat} (h : i < s.data.toList.length) : (s.data.toList[i]).toNat = byteAt s i := by
  unfold byteAt
  rw [List.getD_eq_getElem?_getD, List.getElem?_eq_getElem h, Option.getD_some]
theorem seg_ne {s : ByteArray} {a b : Nat} {x : UInt8} (h : ∀ i, a ≤ i → i < b → byteAt s i ≠ x.toNat) : ∀ c ∈ (s.data.toList.drop a).take (b - a), c ≠ x := by
  intro c hc e
  subst e
  obtain ⟨i, hi, he⟩ := List.getElem_of_mem hc
  rw [List.length_take, List.length_drop] at hi
  have hl : a + i < s.data.toList.length := by omega
  have e2 : s.data.toList[a + i] = c := by
    rw [List.getElem_take, List.getElem_drop] at he
    exact he
  exact h (a + i) (by omega) (by omega) (by rw [← byte_idx hl, e2])
theorem parted_seg {s : ByteArray} {a b : Nat} {x : UInt8} (hab : a ≤ b) (hb : b < s.size) (h : ∀ i, a ≤ i → i < b → byteAt s i ≠ x.toNat) (hx : byteAt s b = x.toNat) :
    parted x (s.data.toList.drop a) = ((s.data.toList.drop a).take (b - a)) :: parted x (s.data.toList.drop (b + 1)) := by
  obtain ⟨c, hc, hd⟩ := drop_byte hb
  have hcx : c = x := UInt8.toNat.inj (by rw [hc, hx])
  have e : s.data.toList.drop a = (s.data.toList.drop a).take (b - a) ++ x :: s.data.toList.drop (b + 1) := by
    rw [← hcx, ← hd]
    have : s.data.toList.drop b = (s.data.toList.drop a).drop (b - a) := by rw [List.drop_drop]; congr 1; omega
    rw [this, List.take_append_drop]
  have e2 := parted_at (v := s.data.toList.drop (b + 1)) (seg_ne h)
  rw [← e] at e2
  exact e2
theorem parted_last {s : ByteArray} {a : Nat} {x : UInt8} (h : ∀ i, a ≤ i → i < s.size → byteAt s i ≠ x.toNat) : parted x (s.data.toList.drop a) = [s.data.toList.drop a] := by
  refine parted_one ?_
  have := seg_ne h
  rw [List.take_of_length_le (by rw [List.length_drop, Array.length_toList]; exact Nat.le_refl _)] at this
  exact this
theorem rune_is (s : ByteArray) (i : Nat) (hi : i < s.size) (x : UInt8) (hx : x.toNat < 128) :
    1 ≤ (Utf8.decode s i).2 ∧ i + (Utf8.decode s i).2 ≤ s.size ∧ ((Utf8.decode s i = (x.toNat, 1) ∧ byteAt s i = x.toNat) ∨ ((Utf8.decode s i).1 ≠ x.toNat ∧ ∀ k, k < (Utf8.decode s i).2 → byteAt s (i + k) ≠ x.toNat)) := by
  obtain ⟨a, b, h | h⟩ := rune_any s i hi
  · refine ⟨a, b, ?_⟩
    by_cases he : byteAt s i = x.toNat
    · exact .inl ⟨by rw [h.2, he], he⟩
    · refine .inr ⟨by rw [h.2]; exact he, fun k hk => ?_⟩
      rw [h.2] at hk
      obtain rfl : k = 0 := by simp at hk; exact hk
      exact he
  · exact ⟨a, b, .inr ⟨by omega, fun k hk => by have := h.2 k hk; omega⟩⟩

abbrev namesV : Value := .agg #[.string ⟨#[]⟩, .string ⟨#[116, 105, 99, 107]⟩, .string ⟨#[109, 97, 105, 108]⟩, .string ⟨#[116, 119, 105, 99, 101]⟩, .string ⟨#[108, 111, 115, 101]⟩, .string ⟨#[99, 117, 116]⟩, .string ⟨#[102, 97, 99, 101]⟩, .string ⟨#[115, 116, 97, 114, 116]⟩, .string ⟨#[98, 121, 116, 101, 115]⟩]
set_option maxRecDepth 100000 in
set_option maxHeartbeats 400000 in
theorem names_any (w : World) : Calls Tryz.prog 38 #[] w fun e w' => e = .returned namesV ∧ Kp w w' := by
  go_enter Tryz.func38, Tryz.ntmps38
  go_wp2_with fail
  exact bodyPost_ret (v := namesV) (by simp [results, Tryz.results38, go_sem]) rfl ⟨rfl, (Kp.refl _).alloc _⟩
theorem name_idx (k : Nat) (hk : k ≤ 8) (w : World) : (Instr.index 81 namesV (.int .i64 (k : Int))).run Tryz.prog w = .ok (.string (strB (nameOf k))) w := by
  have : k = 0 ∨ k = 1 ∨ k = 2 ∨ k = 3 ∨ k = 4 ∨ k = 5 ∨ k = 6 ∨ k = 7 ∨ k = 8 := by omega
  rcases this with rfl | rfl | rfl | rfl | rfl | rfl | rfl | rfl | rfl
  · have : (Instr.index 81 namesV (.int .i64 0)).run Tryz.prog w = .ok (.string ⟨#[]⟩) w := by kernel_rfl
    exact this
  · have : (Instr.index 81 namesV (.int .i64 1)).run Tryz.prog w = .ok (.string ⟨#[116, 105, 99, 107]⟩) w := by kernel_rfl
    exact this
  · have : (Instr.index 81 namesV (.int .i64 2)).run Tryz.prog w = .ok (.string ⟨#[109, 97, 105, 108]⟩) w := by kernel_rfl
    exact this
  · have : (Instr.index 81 namesV (.int .i64 3)).run Tryz.prog w = .ok (.string ⟨#[116, 119, 105, 99, 101]⟩) w := by kernel_rfl
    exact this
  · have : (Instr.index 81 namesV (.int .i64 4)).run Tryz.prog w = .ok (.string ⟨#[108, 111, 115, 101]⟩) w := by kernel_rfl
    exact this
  · have : (Instr.index 81 namesV (.int .i64 5)).run Tryz.prog w = .ok (.string ⟨#[99, 117, 116]⟩) w := by kernel_rfl
    exact this
  · have : (Instr.index 81 namesV (.int .i64 6)).run Tryz.prog w = .ok (.string ⟨#[102, 97, 99, 101]⟩) w := by kernel_rfl
    exact this
  · have : (Instr.index 81 namesV (.int .i64 7)).run Tryz.prog w = .ok (.string ⟨#[115, 116, 97, 114, 116]⟩) w := by kernel_rfl
    exact this
  · have : (Instr.index 81 namesV (.int .i64 8)).run Tryz.prog w = .ok (.string ⟨#[98, 121, 116, 101, 115]⟩) w := by kernel_rfl
    exact this

theorem Own.iterAt {α : Type} {w : World} {B e sz : Nat} {enc : α → List Value} {v : Value} {xs : List α} (h : Own w B e sz enc v xs) {k : Nat} {s : ByteArray} {pos : Nat} (hk : w.heap[k]? = some (.stringIter s pos)) (p : Nat) : Own (w.iterAt k s p) B e sz enc v xs := by
  refine ⟨h.1, ?_⟩
  rcases h.2 with h2 | ⟨g, cap, cur, hv, hg, hh, r⟩
  · exact .inl h2
  · refine .inr ⟨g, cap, cur, hv, hg, (Lib.iterAt_other w k g s p ?_).trans hh, r⟩
    rintro rfl
    rw [hk] at hh
    cases hh
def WordsP (s : ByteArray) (w : World) (e : Ending) (w' : World) : Prop :=
  ((parted 32 s.data.toList).length ≤ 6 → ∃ v, e = .returned v ∧ Own w' w.heap.size 9 1 strE v (parted 32 s.data.toList)) ∧ (¬ (parted 32 s.data.toList).length ≤ 6 → e = gaveS 260) ∧ Kp w w'
structure WRel (w : World) (s : ByteArray) (pos a : Nat) (v : Value) (ws : List (List UInt8)) (wr : World) : Prop where
  le : pos ≤ s.size
  fr : a ≤ pos
  it : wr.heap[w.heap.size]? = some (.stringIter s pos)
  own : Own wr (w.heap.size + 1) 9 1 strE v ws
  no : ∀ i, a ≤ i → i < pos → byteAt s i ≠ (32 : UInt8).toNat
  wq : parted 32 s.data.toList = ws ++ parted 32 (s.data.toList.drop a)
  n5 : ws.length ≤ 5
  kp : Kp w wr

set_option maxRecDepth 100000 in
set_option maxHeartbeats 2000000 in
theorem words_any (s : ByteArray) (hs : s.size ≤ 1000000) (w : World) : Calls Tryz.prog 43 #[.string s] w (WordsP s w) := by
  have HR : Hid (WRel w s 0 0 (.slice none 0 0) [] (w.iter s 0)) := Lib.hid ⟨by omega, by omega, World.iter_heap w s 0, Own.nil _ _ _ _ _, fun i _ h => absurd h (by omega), by simp, by decide, (Kp.refl w).alloc _⟩
  have hlen : s.data.toList.length = s.size := by rw [Array.length_toList]; rfl
  have Hlen := Lib.hid hlen; clear hlen
  go_enter Tryz.func43, Tryz.ntmps43
  go_wp2_with fail
  go_loopw [3, 4] (fun v f wr => ∃ pos a ws, f = .int .i64 (a : Nat) ∧ Hid (WRel w s pos a v ws wr)) (fun _ _ wr => s.size - wr.iterPos w.heap.size)
  case atStart => exact ⟨0, 0, [], rfl, HR⟩
  case round =>
    obtain ⟨pos, a, ws, rfl, R⟩ := hrel
    have hk := R.out.it
    have hfr := R.out.fr
    have hle := R.out.le
    have hn5 := R.out.n5
    have hsz := R.out.kp.size
    have hmu : wr.iterPos w.heap.size = pos := by simp [World.iterPos, hk]
    by_cases hp : pos < s.size
    · have hnext : ∀ ty, (Instr.next (.pointer (some ⟨w.heap.size, 0, none⟩)) true ty).run Tryz.prog wr = _ := fun ty => Lib.run_next_any_at wr w.heap.size s pos ty hk hp
      have hr := Lib.hid (rune_is s pos hp 32 (by decide))
      obtain ⟨c, m, hcm⟩ : ∃ c m, Utf8.decode s pos = (c, m) := ⟨_, _, rfl⟩
      rw [hcm] at hnext hr
      simp only at hnext hr
      clear hcm
      have hlt := (Array.getElem?_eq_some_iff.1 hk).1
      have hK1 : Kp w (wr.iterAt w.heap.size s (pos + m)) := Lib.below_iterAt R.out.kp (Nat.le_refl _) s (pos + m)
      have hk1 := Lib.iterAt_heap wr w.heap.size s pos (pos + m) hk
      have hO1 : Own (wr.iterAt w.heap.size s (pos + m)) (w.heap.size + 1) 9 1 strE u3 ws := R.out.own.iterAt hk _
      have R' := R
      generalize wr.iterAt w.heap.size s (pos + m) = W1 at hnext hK1 hk1 hO1
      clear hk
      have hk1s : W1.heap[w.heap.size]? = some (.stringIter s (pos + m)) := hk1
      have hsz1 : w.heap.size + 1 ≤ W1.heap.size := (Array.getElem?_eq_some_iff.1 hk1).1
      obtain ⟨hm1, hm2, hcase⟩ := hr.out
      rcases hcase with ⟨hc, hb⟩ | ⟨hc, hb⟩
      · obtain ⟨rfl, rfl⟩ : c = 32 ∧ m = 1 := by injection hc with h1 h2; exact ⟨h1, h2⟩
        have hseg := Lib.hid (parted_seg (x := 32) hfr hp R.out.no hb)
        have ha0 : (0 : Int) ≤ (a : Int) := by omega
        have ha1 : (a : Int) ≤ (pos : Int) := by omega
        have ha2 : (pos : Int) ≤ (s.size : Int) := by omega
        have Hext := Lib.hid (extract_eq s a pos)
        have hnews : ([.string (s.extract a pos)] : List Value) = strE ((s.data.toList.drop a).take (pos - a)) := by rw [Hext.out]; rfl
        have Hnews := Lib.hid hnews; clear hnews
        clear hc hb
        have hnel := Own.ne hO1 (g := w.heap.size) (by omega)
        go_wp2_with (at_builtin; go_must (refine wpList_appx EStr (w0 := bare W1) rfl _ _ rfl ((s.data.toList.drop a).take (pos - a)) rfl hO1 (bare_kp _) (Nat.zero_le _) hsz1 rfl rfl Hnews.out rfl rfl (by omega) ?_); intro v2 w2 hown2 hK2 hg2; obtain ⟨A2, c2, rfl⟩ := hown2.form1)
        have hK2w : Kp w w2 := hK1.grown hg2 (fun q hq => by have := (World.ownsRow.lt hO1 q hq).1; omega)
        by_cases h6 : ws.length + 1 < 6
        · have Hn : Hid (WRel w s (pos + 1) (pos + 1) (.slice A2 (ws.length + 1) c2) (ws ++ [(s.data.toList.drop a).take (pos - a)]) w2) := Lib.hid
            ⟨hm2, Nat.le_refl _, (hg2.block _ (by omega) hnel).trans hk1s, hown2, fun i h1 h2 => absurd h1 (by omega), by rw [R.out.wq, hseg.out]; simp, by simp; omega, hK2w⟩
          have hmu2 : w2.iterPos w.heap.size = pos + 1 := by simp [World.iterPos, Hn.out.it]
          have hd6 : decide ((ws.length : Int) + 1 < 6) = true := by rw [decide_eq_true_iff]; omega
          rw [hd6]
          refine (need_yes _ _).mono ?_
          rintro e w3 ⟨rfl, rfl⟩
          go_wp2_with fail
          go_roundw
          case rel => exact ⟨pos + 1, pos + 1, _, by go_num, Hn⟩
          case measure => rw [hmu, hmu2]; omega
        · have hd6 : decide ((ws.length : Int) + 1 < 6) = false := by rw [decide_eq_false_iff_not]; omega
          rw [hd6]
          have Hbig := Lib.hid (show ¬ (parted 32 s.data.toList).length ≤ 6 by
            rw [R.out.wq, hseg.out]
            have := List.length_pos_iff.2 (parted_ne 32 (s.data.toList.drop (pos + 1)))
            simp
            omega)
          refine (need_nay _ _).mono ?_
          rintro e w3 ⟨rfl, rfl⟩
          exact ⟨rfl, fun h => absurd h Hbig.out, fun _ => rfl, hK2w⟩
      · have Hn : Hid (WRel w s (pos + m) a u3 ws W1) := Lib.hid
          ⟨hm2, by omega, hk1s, hO1, fun i h1 h2 => by
            rcases Nat.lt_or_ge i pos with h3 | h3
            · exact R.out.no i h1 h3
            · have := hb (i - pos) (by omega)
              rwa [show pos + (i - pos) = i by omega] at this, R.out.wq, hn5, hK1⟩
        have hb32 : ((c : Int) == 32) = false := by rw [beq_eq_false_iff_ne]; have h32 : (32 : UInt8).toNat = 32 := rfl; omega
        have hb33 : ¬ (c : Int) = 32 := by have h32 : (32 : UInt8).toNat = 32 := rfl; omega
        have hmu2 : W1.iterPos w.heap.size = pos + m := by simp [World.iterPos, hk1s]
        clear hc hb
        go_wp2_with fail
        go_roundw
        case rel => exact ⟨pos + m, a, ws, rfl, Hn⟩
        case measure => rw [hmu, hmu2]; omega
    · have hnext : ∀ ty, (Instr.next (.pointer (some ⟨w.heap.size, 0, none⟩)) true ty).run Tryz.prog wr = _ := fun ty => Lib.run_next_end_at wr w.heap.size s pos ty hk hp
      have hps : pos = s.size := by omega
      have hO := R.out.own
      have hKw := R.out.kp
      have hlast := Lib.hid (parted_last (x := 32) (s := s) (a := a) (fun i h1 h2 => R.out.no i h1 (by omega)))
      have Hw := Lib.hid (show parted 32 s.data.toList = ws ++ [s.data.toList.drop a] by rw [R.out.wq, hlast.out])
      have hszr : w.heap.size + 1 ≤ wr.heap.size := (Array.getElem?_eq_some_iff.1 hk).1
      have Hext := Lib.hid (extract_eq s a s.size)
      have hnews : ([.string (s.extract a s.size)] : List Value) = strE (s.data.toList.drop a) := by
        rw [Hext.out, List.take_of_length_le (by rw [List.length_drop, Hlen.out]; exact Nat.le_refl _)]; rfl
      have Hnews := Lib.hid hnews; clear hnews hk
      have ha0 : (0 : Int) ≤ (a : Int) := by omega
      have ha2 : (a : Int) ≤ (s.size : Int) := by omega
      subst hps
      go_wp2_with (at_builtin; go_must (refine wpList_appx EStr (w0 := bare wr) rfl _ _ rfl (s.data.toList.drop a) rfl hO (bare_kp _) (Nat.zero_le _) hszr rfl rfl Hnews.out rfl rfl (by omega) ?_); intro v2 w2 hown2 hK2 hg2; obtain ⟨A2, c2, rfl⟩ := hown2.form1)
      go_ret
      refine ⟨fun _ => ⟨_, rfl, ?_⟩, fun h => absurd (by rw [Hw.out]; simp; omega) h, hKw.grown hg2 (fun q hq => by have := (World.ownsRow.lt hO q hq).1; omega)⟩
      rw [Hw.out]
      exact hown2.mono (by omega)
end Go.Proofs.YtbfimimhgdkpaaaGreatDoor

/- Package script: a line's kind. No condition. -/
namespace Go.Proofs.YtbfimimhgdkpaaaGreatDoor
open Go.RowKit

theorem str_at {w : World} {A : Option Addr} {l : List (List UInt8)} (h : Rd w 1 strE A l) {k : Nat} (hk : k < l.length) :
    ∃ b off : Nat, A = some ⟨b, off, none⟩ ∧ w.cell? ⟨b, off + k, none⟩ = some (.string (strB l[k])) := by
  obtain ⟨b, off, e, hc⟩ := h k hk
  exact ⟨b, off, e, by simpa using hc 0 _ rfl⟩
def KindP (g : Nat) (c1 c2 c3 c4 c5 c6 wv : Value) (h : List UInt8) (w : World) (e : Ending) (w' : World) : Prop :=
  (kindB h ≠ 0 → e = .returned (.tuple #[]) ∧ Blk w' g 98 #[.int .i64 (kindB h : Nat), c1, c2, c3, c4, c5, c6, wv]) ∧ (kindB h = 0 → e = gaveS 260) ∧ Only [g] w w'
set_option maxRecDepth 100000 in
set_option maxHeartbeats 2000000 in
theorem kind_any (g : Nat) (c1 c2 c3 c4 c5 c6 : Value) (b o c : Nat) (h : List UInt8) (ws : List (List UInt8)) (hbg : ¬ b = g) (w : World) (B : Blk w g 98 #[.int .i64 0, c1, c2, c3, c4, c5, c6, .slice (some ⟨b, o, none⟩) (ws.length + 1) c]) (hw : w.cell? ⟨b, o, none⟩ = some (.string (strB h))) :
    Calls Tryz.prog 44 #[.pointer (some ⟨g, 0, none⟩)] w (KindP g c1 c2 c3 c4 c5 c6 (.slice (some ⟨b, o, none⟩) (ws.length + 1) c) h w) := by
  have hg := B.lt
  go_enter Tryz.func44, Tryz.ntmps44
  go_wp2_with (first | (go_at_call 38; refine (names_any _).mono ?_; rintro e w1 ⟨rfl, hK1⟩))
  have B1 := B.keep hK1
  have hw1 := hK1.cell hw
  have hO1 : Only [g] w w1 := Only.of_kp hK1
  clear hw
  go_loopw [5] (fun i wr => ∃ k : Nat, k ≤ 9 ∧ i = .int .i64 k ∧ Hid (Blk wr g 98 #[.int .i64 (kindUp k h : Nat), c1, c2, c3, c4, c5, c6, .slice (some ⟨b, o, none⟩) (ws.length + 1) c]) ∧ wr.cell? ⟨b, o, none⟩ = some (.string (strB h)) ∧ Only [g] w wr) (fun i _ => 9 - (intOf i).toNat)
  case atStart => exact ⟨0, by omega, rfl, B1, hw1, hO1⟩
  case round =>
    obtain ⟨k, hk, rfl, hB, hwr, hO⟩ := hrel
    have q7 : wr.cell? ⟨g, 7, none⟩ = some (.slice (some ⟨b, o, none⟩) (ws.length + 1) c) := hB.out.cell 7
    have q0 : wr.cell? ⟨g, 0, none⟩ = some (.int .i64 (kindUp k h : Nat)) := hB.out.cell 0
    have z0 := hB.out.frozen 0
    by_cases hlt : k < 9
    · have hx := name_idx k (by omega)
      rcases Nat.eq_zero_or_pos k with h0 | h0
      · subst h0
        have hx0 : ∀ w, (Instr.index 81 namesV (.int .i64 0)).run Tryz.prog w = .ok (.string ⟨#[]⟩) w := fun w => hx w
        have Hn := Lib.hid (show kindUp 1 h = kindUp 0 h from rfl)
        go_wp2_with fail
        go_roundw
        case rel => exact ⟨1, by omega, rfl, by rw [Hn.out]; exact hB, hwr, hO⟩
        case measure => simp [intOf]
      · have hgt : (0 : Int) < (k : Int) := by omega
        have hl0 : (0 : Int) < (ws.length : Int) + 1 := by omega
        by_cases he : nameOf k = h
        · have hb : (nameOf k == h) = true := by rw [beq_iff_eq]; exact he
          have Hn := Lib.hid (show kindUp (k + 1) h = k by rw [kindUp, if_pos ⟨h0, he⟩])
          have hl1 : (0 : Int) ≤ (ws.length : Int) := by omega
          clear he
          go_wp2_with fail
          go_roundw
          case rel =>
            refine ⟨k + 1, by omega, by go_num, ?_, ?_, hO.setCell (.inl (by simp)) _⟩
            · rw [Hn.out]
              exact hB.out.set_ 0 _
            · exact (World.cell?_setCell_other _ _ _ _ (by simp [hbg])).trans hwr
          case measure => simp [intOf]; omega
        · have hb : (nameOf k == h) = false := by rw [beq_eq_false_iff_ne]; exact he
          have Hn := Lib.hid (show kindUp (k + 1) h = kindUp k h by rw [kindUp, if_neg (fun hh => he hh.2)])
          have hl1 : (0 : Int) ≤ (ws.length : Int) := by omega
          clear he
          go_wp2_with fail
          go_roundw
          case rel => exact ⟨k + 1, by omega, by go_num, by rw [Hn.out]; exact hB, hwr, hO⟩
          case measure => simp [intOf]; omega
    · obtain rfl : k = 9 := by omega
      by_cases hz : kindUp 9 h = 0
      · have hb : (((kindUp 9 h : Nat) : Int) != 0) = false := by rw [hz]; rfl
        have Hz := Lib.hid hz; clear hz
        go_wp2_with (first | (go_at_call 45; refine (need_nay _ _).mono ?_; rintro e w' ⟨rfl, rfl⟩))
        exact ⟨rfl, fun hh => absurd Hz.out hh, fun _ => rfl, hO⟩
      · have hb : (((kindUp 9 h : Nat) : Int) != 0) = true := by rw [bne_iff_ne]; omega
        have Hz := Lib.hid hz; clear hz
        go_wp2_with (first | (go_at_call 45; refine (need_yes _ _).mono ?_; rintro e w' ⟨rfl, rfl⟩))
        go_end0
        exact ⟨fun _ => ⟨rfl, hB⟩, fun hh => absurd hh Hz.out, hO⟩
end Go.Proofs.YtbfimimhgdkpaaaGreatDoor

/- Package script: Text. No condition but the stated bounds. -/
namespace Go.Proofs.YtbfimimhgdkpaaaGreatDoor
open Go.RowKit Go.Maps

/-- A row of one's own lies apart from blocks of other types. -/
theorem Own.far {α : Type} {w : World} {B e sz : Nat} {enc : α → List Value} {v : Value} {xs : List α} (h : Own w B e sz enc v xs) {g : Nat} {t : TypeId} {cs : Array Value} (hB : Blk w g t cs) (ht : t ≠ e) : some g ≠ v.ownBlock := by
  rintro hv
  rcases h.2 with ⟨h2, _⟩ | ⟨q, cap, cur, hq, _, hh, _⟩
  · rw [h2] at hv; cases hv
  · rw [hq] at hv
    injection hv with hv
    subst hv
    have := hB.symm.trans hh
    injection this with this
    injection this with _ this
    exact ht this
theorem Own.one {w : World} {B g : Nat} {l : List UInt8} {s : ByteArray} (hb : B ≤ g) (hB : Blk w g 9 #[.string s]) (hs : s = strB l) : Own w B 9 1 strE (.slice (some ⟨g, 0, none⟩) 1 1) [l] := by
  subst hs
  exact ⟨by simp [strE], .inr ⟨g, 1, #[.string (strB l)], rfl, hb, hB, Nat.le_refl _, by decide, by simp [strE], by simp [strE]⟩⟩
theorem digits_short {n : Nat} (h : n < 4294967296) : (Lib.decDigits n).length ≤ 21 := by
  have := Lib.itoa_length_le (n : Int) (by omega) (by omega)
  rwa [Lib.itoa_nonneg] at this
theorem tellE_short {e : Ev} (ok : EvOk e) (hl : e.bytes.length ≤ 600) (p : Pt) : (tellE p e).length ≤ 1300 := by
  cases p with
  | a => have := Lib.itoa_length_le e.a ok.a0 ok.a1; simp only [tellE]; omega
  | b => have := Lib.itoa_length_le e.b ok.b0 ok.b1; simp only [tellE]; omega
  | d => have := Lib.itoa_length_le e.draw ok.d0 ok.d1; simp only [tellE]; omega
  | c => simp only [tellE]; split <;> decide
  | s =>
    have h := ok.s1
    have h1 := digits_short (n := e.src / 16777216) (by omega)
    have h2 := digits_short (n := e.src / 65536 % 256) (by omega)
    have h3 := digits_short (n := e.src / 256 % 256) (by omega)
    have h4 := digits_short (n := e.src % 256) (by omega)
    simp only [tellE, textA, List.length_append, List.length_cons]
    omega
  | x =>
    simp only [tellE, hexW]
    split
    · decide
    · rw [hexT_len]; omega
/-- The words of an event's line that stand after so many parts. -/
@[irreducible] def textsE (e : Ev) (k j : Nat) : List (List UInt8) := nameOf k :: ((partsOf k).take j).map (fun p => tellE p e)
theorem textsE_zero (e : Ev) (k : Nat) : textsE e k 0 = [nameOf k] := by unfold textsE; rfl
theorem textsE_next {e : Ev} {k j : Nat} (hj : j < (partsOf k).length) {p : Pt} (hp : (partsOf k)[j] = p) : textsE e k (j + 1) = textsE e k j ++ [tellE p e] := by
  unfold textsE
  rw [List.take_add_one, List.getElem?_eq_getElem hj, hp]
  simp
theorem textsE_len {e : Ev} {k j : Nat} (hk : k ≤ 8) : (textsE e k j).length ≤ 6 := by
  have := parts_len hk
  unfold textsE
  simp
  omega
theorem textsE_all {e : Ev} {k : Nat} (hk : e.kind = (k : Int)) : Lib.join (textsE e k (partsOf k).length) [32] = textE e := by
  unfold textsE
  have : e.kind.toNat = k := by omega
  rw [Lib.join_cons, List.take_length, textE, this, Lib.joinTail, List.map_map, List.flatMap_def]
  rfl
theorem textE_short {e : Ev} (ok : EvOk e) (hl : e.bytes.length ≤ 600) {k : Nat} (hk : e.kind = (k : Int)) (h8 : k ≤ 8) : (textE e).length ≤ 10000 := by
  have h5 := parts_len h8
  have hk2 : e.kind.toNat = k := by omega
  have hn : (nameOf k).length ≤ 5 := by
    have : k = 0 ∨ k = 1 ∨ k = 2 ∨ k = 3 ∨ k = 4 ∨ k = 5 ∨ k = 6 ∨ k = 7 ∨ k = 8 := by omega
    rcases this with rfl | rfl | rfl | rfl | rfl | rfl | rfl | rfl | rfl <;> decide
  have hf : ∀ ps : List Pt, (ps.flatMap (fun p => (32 : UInt8) :: tellE p e)).length ≤ 1301 * ps.length := by
    intro ps
    induction ps with
    | nil => simp
    | cons p ps ih => have := tellE_short ok hl p; simp only [List.flatMap_cons, List.length_append, List.length_cons] at ih ⊢; omega
  have := hf (partsOf k)
  rw [textE, hk2, List.length_append]
  omega
theorem plainP_parts {e : Ev} (h : plainP e = true) : 1 ≤ e.kind ∧ e.kind ≤ 8 ∧ e.bytes.length ≤ 600 := by
  simp only [plainP, Bool.and_eq_true, decide_eq_true_eq] at h
  exact ⟨h.1.1, h.1.2, h.2.2.2⟩

/-- What stands as words are told. -/
structure TextR (w : World) (x y z g : Nat) (e : Ev) (fv : Value) (k j : Nat) (v : Value) (wr : World) : Prop where
  kp : Kp w wr
  ev : Blk wr w.heap.size 27 (evC e fv)
  row : Blk wr g 89 (rowC x y z k).toArray
  box : Boxes wr x y z
  own : Own wr (w.heap.size + 1) 9 1 strE v (textsE e k j)
theorem TextR.next {w wr w2 w3 : World} {x y z g : Nat} {e : Ev} {fv : Value} {k j : Nat} {v v3 : Value} (R : TextR w x y z g e fv k j v wr) {o : Obj} (hK : Kp (wr.alloc o) w2) {t : List UInt8} (hown : Own w3 (w.heap.size + 1) 9 1 strE v3 (textsE e k j ++ [t])) (hg : w2.grownBy w3 v.ownBlock) (ht : textsE e k (j + 1) = textsE e k j ++ [t]) :
    TextR w x y z g e fv k (j + 1) v3 w3 := by
  have K1 : Kp wr w2 := ((Kp.refl wr).alloc o).trans hK
  have O := R.own.keep K1
  exact ⟨(R.kp.trans K1).grown hg (fun q hq => by have := (World.ownsRow.lt O q hq).1; omega),
    (R.ev.keep K1).grown hg (O.far (R.ev.keep K1) (by decide)), (R.row.keep K1).grown hg (O.far (R.row.keep K1) (by decide)),
    ⟨(R.box.x.keep K1).grown hg (O.far (R.box.x.keep K1) (by decide)), (R.box.y.keep K1).grown hg (O.far (R.box.y.keep K1) (by decide)), (R.box.z.keep K1).grown hg (O.far (R.box.z.keep K1) (by decide))⟩, by rw [ht]; exact hown⟩
theorem join_any {w : World} {B : Nat} {A : Option Addr} {c : Nat} {ws : List (List UInt8)} (h : Own w B 9 1 strE (.slice A ws.length c) ws) (hp : ws ≠ []) (hl : (Lib.join ws [32]).length ≤ 1000000) (h6 : ws.length ≤ 6) :
    Calls Tryz.prog 40 #[.slice A ws.length c, .string ⟨#[32]⟩] w fun e w' => e = .returned (.string (strB (Lib.join ws [32]))) ∧ Kp w w' := by
  have hR := h.rdAt (by decide) strE_len
  have hpos : 0 < ws.length := List.length_pos_iff.2 hp
  obtain ⟨b, off, rfl, hc⟩ := hR 0 hpos
  have hlt : b < w.heap.size := World.block_lt_of_cell? w _ (hc 0 _ rfl)
  have hm : (ws.map strB).map (·.data.toList) = ws := by
    rw [List.map_map]
    have : ((fun x : ByteArray => x.data.toList) ∘ strB) = id := by funext l; exact strB_list l
    rw [this, List.map_id]
  have hcap : ws.length ≤ c := by
    rcases h.2 with ⟨h2, _⟩ | ⟨q, cap, cur, hq, _, hh, hcp, _⟩
    · cases h2
    · injection hq with _ _ hq; subst hq; first | exact hcp | omega
  have key := Tryz.strings_Join b off c (ws.map strB) ⟨#[32]⟩ w (by
    intro j s hs
    rw [List.getElem?_map] at hs
    cases hj : ws[j]? with
    | none => rw [hj] at hs; cases hs
    | some l =>
      rw [hj] at hs
      injection hs with hs
      subst hs
      obtain ⟨hj1, hj2⟩ := List.getElem?_eq_some_iff.1 hj
      obtain ⟨b', off', e', hcc⟩ := hR j hj1
      injection e' with e'
      injection e' with e1 e2
      subst e1; subst e2
      have := hcc 0 _ rfl
      rw [hj2] at this
      simpa using this) hlt (by simp; omega) (by simpa using hcap) (by rw [hm]; show (Lib.join ws [32]).length ≤ _; omega)
  rw [hm, List.length_map] at key
  refine key.mono ?_
  rintro e w' ⟨rfl, hb⟩
  exact ⟨rfl, hb⟩

set_option maxRecDepth 100000 in
set_option maxHeartbeats 2000000 in
theorem text_no (e : Ev) (A : Option Addr) (c : Nat) (w : World) (h0 : -9223372036854775808 ≤ e.kind) (h1 : e.kind ≤ 9223372036854775807) (hA : Rd w 1 byteE A e.bytes) (hl : e.bytes.length ≤ 1000000) (hp : plainP e = false) :
    Calls Tryz.prog 11 #[evV e (.slice A e.bytes.length c)] w fun en w' => en = .returned (.tuple #[.string ⟨#[]⟩, .int .i64 2]) ∧ Kp w w' := by
  have KB : Kp w (w.alloc (.cells (evC e (.slice A e.bytes.length c)) 27)) := (Kp.refl w).alloc _
  go_enter Tryz.func11, Tryz.ntmps11
  go_wp2_with (first | (go_at_call 37; refine (plain_any e A c _ h0 h1 (hA.keep KB) hl).mono ?_; rintro en w1 ⟨rfl, hK1⟩; rw [hp]))
  exact bodyPost_ret (v := .tuple #[.string ⟨#[]⟩, .int .i64 2]) (by simp [results, Tryz.results11, go_sem]) rfl ⟨rfl, KB.trans hK1⟩
set_option maxRecDepth 100000 in
set_option maxHeartbeats 4000000 in
theorem text_yes (e : Ev) (A : Option Addr) (c k : Nat) (hk : e.kind = (k : Int)) (h1 : 1 ≤ k) (h8 : k ≤ 8) (w : World) (L : LibOk w) (ok : EvOk e) (hA : Rd w 1 byteE A e.bytes) (hl : e.bytes.length ≤ 600) (hp : plainP e = true) :
    Calls Tryz.prog 11 #[evV e (.slice A e.bytes.length c)] w fun en w' => en = .returned (.tuple #[.string (strB (textE e)), .int .i64 0]) ∧ Kp w w' := by
  have hkk : kWf e.kind := by rw [hk]; exact kWf_of (by omega) (by omega)
  have hk0 : -9223372036854775808 ≤ e.kind := by omega
  have hk1 : e.kind ≤ 9223372036854775807 := by omega
  have KB : Kp w (w.alloc (.cells (evC e (.slice A e.bytes.length c)) 27)) := (Kp.refl w).alloc _
  have BE := Blk.new w 27 (evC e (.slice A e.bytes.length c))
  have Hp := Lib.hid hp
  have Hsh := Lib.hid (textE_short ok hl hk h8)
  have Hall := Lib.hid (textsE_all hk)
  have HK := Lib.hid hk
  clear hk
  go_enter Tryz.func11, Tryz.ntmps11
  go_wp2_with (first | (go_at_call 37; refine (plain_any e A c _ hk0 hk1 (hA.keep KB) (by omega)).mono ?_; rintro en w1 ⟨rfl, hK1⟩; rw [Hp.out]))
  have B1 := BE.keep hK1
  have K1 : Kp w w1 := KB.trans hK1
  clear KB BE hK1
  have q0 : w1.cell? ⟨w.heap.size, 0, none⟩ = some (.int .i64 e.kind) := B1.cell 0
  go_region_held3 (fun w' => w'.cell? ⟨w.heap.size, 0, none⟩ = some (.int .i64 e.kind)) (first | exact Kn.cell q0 | go_keep) (first | (go_at_call 38; refine (names_any _).mono ?_; rintro en wn ⟨rfl, Kn0⟩; have Kn : Kp w1 wn := (Kp.refl w1).drew.trans Kn0; have hx : ∀ w, (Instr.index 81 namesV (.int .i64 e.kind)).run Tryz.prog w = .ok (.string (strB (nameOf k))) w := (by intro w; rw [HK.out]; exact name_idx k h8 w)))
  obtain ⟨W, hW, KW, BW, OW⟩ : ∃ W, wn.alloc (.cells #[.string (strB (nameOf k))] 9) = W ∧ Kp w W ∧ Blk W w.heap.size 27 (evC e (.slice A e.bytes.length c)) ∧ Own W (w.heap.size + 1) 9 1 strE (.slice (some ⟨wn.heap.size, 0, none⟩) 1 1) [nameOf k] := ⟨_, rfl, (K1.trans Kn).alloc _, (B1.keep Kn).alloc _, Own.one (by have := (B1.keep Kn).lt; omega) (Blk.new wn _ _) rfl⟩
  rw [hW]
  clear hW q0 hx
  go_wp2_with fail
  have p0 : W.cell? ⟨w.heap.size, 0, none⟩ = some (.int .i64 e.kind) := BW.cell 0
  go_region_held3 (fun w' => w'.cell? ⟨w.heap.size, 0, none⟩ = some (.int .i64 e.kind)) (first | exact Kd.cell p0 | go_keep) (first | (go_at_call 39; refine (lines_any _).mono ?_; rintro en wa ⟨x, y, z, b, f, rfl, HL, hx, hy, hz, Ka⟩; have Kd : Kp W wa := (Kp.refl W).drew.trans Ka; obtain ⟨u, hu, g, rfl, hB⟩ := HL.row k h1 h8; have hlk : (Instr.lookup 84 (.map (some b)) (.int .i64 e.kind) false).run Tryz.prog wa = .ok (.slice (some ⟨g, 0, none⟩) (partsOf k).length (partsOf k).length) wa := (by have := HL.map.look1 hkk; rw [HK.out, hu] at this; rw [HK.out]; exact this)))
  have hn5 := parts_len h8
  have R0 : Hid (TextR w x y z g e (.slice A e.bytes.length c) k 0 (.slice (some ⟨wn.heap.size, 0, none⟩) 1 1) wa) := Lib.hid ⟨KW.trans Kd, BW.keep Kd, hB, HL.box, by rw [textsE_zero]; exact OW.keep Kd⟩
  clear hlk hu HL p0
  go_wp2_with fail
  go_loopw [4, 20] (fun v i wr => ∃ j : Nat, j ≤ (partsOf k).length ∧ i = .int .i64 j ∧ Hid (TextR w x y z g e (.slice A e.bytes.length c) k j v wr)) (fun _ i _ => (partsOf k).length - (intOf i).toNat)
  case atStart => exact ⟨0, by omega, rfl, R0⟩
  case round =>
    obtain ⟨j, hj, rfl, R⟩ := hrel
    have BR := R.out.ev
    have hsz := R.out.kp.size
    have r0 : wr.cell? ⟨w.heap.size, 0, none⟩ = some (.int .i64 e.kind) := BR.cell 0
    have r1 : wr.cell? ⟨w.heap.size, 1, none⟩ = some (.int .i64 e.a) := BR.cell 1
    have r2 : wr.cell? ⟨w.heap.size, 2, none⟩ = some (.int .i64 e.b) := BR.cell 2
    have r3 : wr.cell? ⟨w.heap.size, 3, none⟩ = some (.int .i64 e.c) := BR.cell 3
    have r4 : wr.cell? ⟨w.heap.size, 4, none⟩ = some (.int .i64 e.draw) := BR.cell 4
    have r5 : wr.cell? ⟨w.heap.size, 5, none⟩ = some (.int .u32 (e.src : Int)) := BR.cell 5
    have r6 : wr.cell? ⟨w.heap.size, 6, none⟩ = some (.slice A e.bytes.length c) := BR.cell 6
    have hlt0 : w.heap.size < wr.heap.size := BR.lt
    have hne0 : ¬ w.heap.size = wr.heap.size := by omega
    by_cases hlt : j < (partsOf k).length
    · obtain ⟨p, hp'⟩ : ∃ p, (partsOf k)[j] = p := ⟨_, rfl⟩
      have Hnx := Lib.hid (textsE_next (e := e) hlt hp')
      have hcell := part_at (row_rd R.out.row h8) hlt hp'
      have hl6 := textsE_len (e := e) (j := j) h8
      clear hp'
      cases p with
      | a =>
        have d0 : wr.cell? ⟨g, j * 3, none⟩ = some (.func (.func 124) #[] #[.pointer (some ⟨x, 0, none⟩)]) := hcell 0 _ rfl
        have d1 : wr.cell? ⟨g, j * 3 + 1, none⟩ = some (.func (.func 125) #[] #[.pointer (some ⟨x, 0, none⟩)]) := hcell 1 _ rfl
        have d2 : wr.cell? ⟨g, j * 3 + 2, none⟩ = some (.func (.func 127) #[] #[.pointer (some ⟨x, 0, none⟩)]) := hcell 2 _ rfl
        clear hcell
        have K2 : Kp w (wr.alloc (.cells #[.func (.func 124) #[] #[.pointer (some ⟨x, 0, none⟩)], .func (.func 125) #[] #[.pointer (some ⟨x, 0, none⟩)], .func (.func 127) #[] #[.pointer (some ⟨x, 0, none⟩)]] 89)) := R.out.kp.alloc _
        have L2 := L.keep K2
        have hB2 := R.out.box.keep ((Kp.refl wr).alloc (.cells #[.func (.func 124) #[] #[.pointer (some ⟨x, 0, none⟩)], .func (.func 125) #[] #[.pointer (some ⟨x, 0, none⟩)], .func (.func 127) #[] #[.pointer (some ⟨x, 0, none⟩)]] 89))
        go_wp2_with fail
        refine (tell_a x e _ ok _ L2 (hB2.x.cell 0)).mono ?_
        rintro en w2 ⟨rfl, hK2⟩
        have hO2 := (R.out.own.alloc _).keep hK2
        have hs2 := hK2.size
        have hs3 : wr.heap.size ≤ w2.heap.size := Nat.le_trans (Kp.size ((Kp.refl wr).alloc _)) hs2
        go_wp2_with (at_builtin; go_must (refine wpList_appx EStr (w0 := bare w2) rfl _ _ rfl (tellE .a e) rfl hO2 (bare_kp _) (Nat.zero_le _) (by omega) rfl rfl rfl rfl rfl (by omega) ?_); intro v3 w3 hown3 hK3 hg3; obtain ⟨A3, c3, rfl⟩ := hown3.form1)
        have Hn := Lib.hid (R.out.next hK2 hown3 hg3 Hnx.out)
        clear hown3 hK3 hg3 hO2
        go_wp2_with fail
        go_roundw
        case rel => exact ⟨j + 1, by omega, by go_num, Hn⟩
        case measure => simp [intOf]; omega
      | b =>
        have d0 : wr.cell? ⟨g, j * 3, none⟩ = some (.func (.func 124) #[] #[.pointer (some ⟨y, 0, none⟩)]) := hcell 0 _ rfl
        have d1 : wr.cell? ⟨g, j * 3 + 1, none⟩ = some (.func (.func 125) #[] #[.pointer (some ⟨y, 0, none⟩)]) := hcell 1 _ rfl
        have d2 : wr.cell? ⟨g, j * 3 + 2, none⟩ = some (.func (.func 127) #[] #[.pointer (some ⟨y, 0, none⟩)]) := hcell 2 _ rfl
        clear hcell
        have K2 : Kp w (wr.alloc (.cells #[.func (.func 124) #[] #[.pointer (some ⟨y, 0, none⟩)], .func (.func 125) #[] #[.pointer (some ⟨y, 0, none⟩)], .func (.func 127) #[] #[.pointer (some ⟨y, 0, none⟩)]] 89)) := R.out.kp.alloc _
        have L2 := L.keep K2
        have hB2 := R.out.box.keep ((Kp.refl wr).alloc (.cells #[.func (.func 124) #[] #[.pointer (some ⟨y, 0, none⟩)], .func (.func 125) #[] #[.pointer (some ⟨y, 0, none⟩)], .func (.func 127) #[] #[.pointer (some ⟨y, 0, none⟩)]] 89))
        go_wp2_with fail
        refine (tell_b y e _ ok _ L2 (hB2.y.cell 0)).mono ?_
        rintro en w2 ⟨rfl, hK2⟩
        have hO2 := (R.out.own.alloc _).keep hK2
        have hs2 := hK2.size
        have hs3 : wr.heap.size ≤ w2.heap.size := Nat.le_trans (Kp.size ((Kp.refl wr).alloc _)) hs2
        go_wp2_with (at_builtin; go_must (refine wpList_appx EStr (w0 := bare w2) rfl _ _ rfl (tellE .b e) rfl hO2 (bare_kp _) (Nat.zero_le _) (by omega) rfl rfl rfl rfl rfl (by omega) ?_); intro v3 w3 hown3 hK3 hg3; obtain ⟨A3, c3, rfl⟩ := hown3.form1)
        have Hn := Lib.hid (R.out.next hK2 hown3 hg3 Hnx.out)
        clear hown3 hK3 hg3 hO2
        go_wp2_with fail
        go_roundw
        case rel => exact ⟨j + 1, by omega, by go_num, Hn⟩
        case measure => simp [intOf]; omega
      | c =>
        have d0 : wr.cell? ⟨g, j * 3, none⟩ = some (.func (.func 133) #[] #[]) := hcell 0 _ rfl
        have d1 : wr.cell? ⟨g, j * 3 + 1, none⟩ = some (.func (.func 134) #[] #[]) := hcell 1 _ rfl
        have d2 : wr.cell? ⟨g, j * 3 + 2, none⟩ = some (.func (.func 135) #[] #[]) := hcell 2 _ rfl
        clear hcell
        have K2 : Kp w (wr.alloc (.cells #[.func (.func 133) #[] #[], .func (.func 134) #[] #[], .func (.func 135) #[] #[]] 89)) := R.out.kp.alloc _
        have L2 := L.keep K2
        have hB2 := R.out.box.keep ((Kp.refl wr).alloc (.cells #[.func (.func 133) #[] #[], .func (.func 134) #[] #[], .func (.func 135) #[] #[]] 89))
        go_wp2_with fail
        refine (tell_turn e _ _).mono ?_
        rintro en w2 ⟨rfl, hK2⟩
        have hO2 := (R.out.own.alloc _).keep hK2
        have hs2 := hK2.size
        have hs3 : wr.heap.size ≤ w2.heap.size := Nat.le_trans (Kp.size ((Kp.refl wr).alloc _)) hs2
        go_wp2_with (at_builtin; go_must (refine wpList_appx EStr (w0 := bare w2) rfl _ _ rfl (tellE .c e) rfl hO2 (bare_kp _) (Nat.zero_le _) (by omega) rfl rfl rfl rfl rfl (by omega) ?_); intro v3 w3 hown3 hK3 hg3; obtain ⟨A3, c3, rfl⟩ := hown3.form1)
        have Hn := Lib.hid (R.out.next hK2 hown3 hg3 Hnx.out)
        clear hown3 hK3 hg3 hO2
        go_wp2_with fail
        go_roundw
        case rel => exact ⟨j + 1, by omega, by go_num, Hn⟩
        case measure => simp [intOf]; omega
      | d =>
        have d0 : wr.cell? ⟨g, j * 3, none⟩ = some (.func (.func 130) #[] #[.pointer (some ⟨z, 0, none⟩)]) := hcell 0 _ rfl
        have d1 : wr.cell? ⟨g, j * 3 + 1, none⟩ = some (.func (.func 131) #[] #[.pointer (some ⟨z, 0, none⟩)]) := hcell 1 _ rfl
        have d2 : wr.cell? ⟨g, j * 3 + 2, none⟩ = some (.func (.func 132) #[] #[.pointer (some ⟨z, 0, none⟩)]) := hcell 2 _ rfl
        clear hcell
        have K2 : Kp w (wr.alloc (.cells #[.func (.func 130) #[] #[.pointer (some ⟨z, 0, none⟩)], .func (.func 131) #[] #[.pointer (some ⟨z, 0, none⟩)], .func (.func 132) #[] #[.pointer (some ⟨z, 0, none⟩)]] 89)) := R.out.kp.alloc _
        have L2 := L.keep K2
        have hB2 := R.out.box.keep ((Kp.refl wr).alloc (.cells #[.func (.func 130) #[] #[.pointer (some ⟨z, 0, none⟩)], .func (.func 131) #[] #[.pointer (some ⟨z, 0, none⟩)], .func (.func 132) #[] #[.pointer (some ⟨z, 0, none⟩)]] 89))
        go_wp2_with fail
        refine (tell_d z e _ ok _ L2 (hB2.z.cell 0)).mono ?_
        rintro en w2 ⟨rfl, hK2⟩
        have hO2 := (R.out.own.alloc _).keep hK2
        have hs2 := hK2.size
        have hs3 : wr.heap.size ≤ w2.heap.size := Nat.le_trans (Kp.size ((Kp.refl wr).alloc _)) hs2
        go_wp2_with (at_builtin; go_must (refine wpList_appx EStr (w0 := bare w2) rfl _ _ rfl (tellE .d e) rfl hO2 (bare_kp _) (Nat.zero_le _) (by omega) rfl rfl rfl rfl rfl (by omega) ?_); intro v3 w3 hown3 hK3 hg3; obtain ⟨A3, c3, rfl⟩ := hown3.form1)
        have Hn := Lib.hid (R.out.next hK2 hown3 hg3 Hnx.out)
        clear hown3 hK3 hg3 hO2
        go_wp2_with fail
        go_roundw
        case rel => exact ⟨j + 1, by omega, by go_num, Hn⟩
        case measure => simp [intOf]; omega
      | s =>
        have d0 : wr.cell? ⟨g, j * 3, none⟩ = some (.func (.func 136) #[] #[]) := hcell 0 _ rfl
        have d1 : wr.cell? ⟨g, j * 3 + 1, none⟩ = some (.func (.func 137) #[] #[]) := hcell 1 _ rfl
        have d2 : wr.cell? ⟨g, j * 3 + 2, none⟩ = some (.func (.func 138) #[] #[]) := hcell 2 _ rfl
        clear hcell
        have K2 : Kp w (wr.alloc (.cells #[.func (.func 136) #[] #[], .func (.func 137) #[] #[], .func (.func 138) #[] #[]] 89)) := R.out.kp.alloc _
        have L2 := L.keep K2
        have hB2 := R.out.box.keep ((Kp.refl wr).alloc (.cells #[.func (.func 136) #[] #[], .func (.func 137) #[] #[], .func (.func 138) #[] #[]] 89))
        go_wp2_with fail
        refine (tell_src e _ ok _ L2).mono ?_
        rintro en w2 ⟨rfl, hK2⟩
        have hO2 := (R.out.own.alloc _).keep hK2
        have hs2 := hK2.size
        have hs3 : wr.heap.size ≤ w2.heap.size := Nat.le_trans (Kp.size ((Kp.refl wr).alloc _)) hs2
        go_wp2_with (at_builtin; go_must (refine wpList_appx EStr (w0 := bare w2) rfl _ _ rfl (tellE .s e) rfl hO2 (bare_kp _) (Nat.zero_le _) (by omega) rfl rfl rfl rfl rfl (by omega) ?_); intro v3 w3 hown3 hK3 hg3; obtain ⟨A3, c3, rfl⟩ := hown3.form1)
        have Hn := Lib.hid (R.out.next hK2 hown3 hg3 Hnx.out)
        clear hown3 hK3 hg3 hO2
        go_wp2_with fail
        go_roundw
        case rel => exact ⟨j + 1, by omega, by go_num, Hn⟩
        case measure => simp [intOf]; omega
      | x =>
        have d0 : wr.cell? ⟨g, j * 3, none⟩ = some (.func (.func 139) #[] #[]) := hcell 0 _ rfl
        have d1 : wr.cell? ⟨g, j * 3 + 1, none⟩ = some (.func (.func 140) #[] #[]) := hcell 1 _ rfl
        have d2 : wr.cell? ⟨g, j * 3 + 2, none⟩ = some (.func (.func 141) #[] #[]) := hcell 2 _ rfl
        clear hcell
        have K2 : Kp w (wr.alloc (.cells #[.func (.func 139) #[] #[], .func (.func 140) #[] #[], .func (.func 141) #[] #[]] 89)) := R.out.kp.alloc _
        have L2 := L.keep K2
        have hB2 := R.out.box.keep ((Kp.refl wr).alloc (.cells #[.func (.func 139) #[] #[], .func (.func 140) #[] #[], .func (.func 141) #[] #[]] 89))
        go_wp2_with fail
        refine (tell_data e A c _ (hA.keep K2) (by omega)).mono ?_
        rintro en w2 ⟨rfl, hK2⟩
        have hO2 := (R.out.own.alloc _).keep hK2
        have hs2 := hK2.size
        have hs3 : wr.heap.size ≤ w2.heap.size := Nat.le_trans (Kp.size ((Kp.refl wr).alloc _)) hs2
        go_wp2_with (at_builtin; go_must (refine wpList_appx EStr (w0 := bare w2) rfl _ _ rfl (tellE .x e) rfl hO2 (bare_kp _) (Nat.zero_le _) (by omega) rfl rfl rfl rfl rfl (by omega) ?_); intro v3 w3 hown3 hK3 hg3; obtain ⟨A3, c3, rfl⟩ := hown3.form1)
        have Hn := Lib.hid (R.out.next hK2 hown3 hg3 Hnx.out)
        clear hown3 hK3 hg3 hO2
        go_wp2_with fail
        go_roundw
        case rel => exact ⟨j + 1, by omega, by go_num, Hn⟩
        case measure => simp [intOf]; omega
    · obtain rfl : j = (partsOf k).length := by omega
      have hO := R.out.own
      obtain ⟨A3, c3, rfl⟩ := hO.form
      have hl6 := textsE_len (e := e) (j := (partsOf k).length) h8
      have hjl : (Lib.join (textsE e k (partsOf k).length) [32]).length ≤ 1000000 := by rw [Hall.out]; have := Hsh.out; omega
      have Hne := Lib.hid (show textsE e k (partsOf k).length ≠ [] by unfold textsE; simp)
      have HKp := Lib.hid R.out.kp
      clear BR r0 r1 r2 r3 r4 r5 r6
      go_wp2_with (first | (go_at_call 40; refine (join_any hO Hne.out hjl hl6).mono ?_; rintro en w2 ⟨rfl, hK2⟩; rw [Hall.out]))
      exact bodyPost_ret (v := .tuple #[.string (strB (textE e)), .int .i64 0]) (by simp [results, Tryz.results11, go_sem]) rfl ⟨rfl, HKp.out.trans hK2⟩
theorem text_any (e : Ev) (A : Option Addr) (c : Nat) (w : World) (L : LibOk w) (ok : EvOk e) (h0 : -9223372036854775808 ≤ e.kind) (h1 : e.kind ≤ 9223372036854775807) (hA : Rd w 1 byteE A e.bytes) (hl : e.bytes.length ≤ 1000000) :
    Calls Tryz.prog 11 #[evV e (.slice A e.bytes.length c)] w fun en w' => en = .returned (if plainP e = true then .tuple #[.string (strB (textE e)), .int .i64 0] else .tuple #[.string ⟨#[]⟩, .int .i64 2]) ∧ Kp w w' := by
  cases hp : plainP e with
  | false => simpa using text_no e A c w h0 h1 hA hl hp
  | true =>
    obtain ⟨a, b, d⟩ := plainP_parts hp
    simpa using text_yes e A c e.kind.toNat (by omega) (by omega) (by omega) w L ok hA d hp
end Go.Proofs.YtbfimimhgdkpaaaGreatDoor

/- Package script: what Parse does at a fault; words within their line. No condition. -/
namespace Go.Proofs.YtbfimimhgdkpaaaGreatDoor
open Go.RowKit

/-- An event is stored, cell by cell. -/
def evSet (w : World) (g : Nat) (t : Ev) (bv : Value) : World := ((((((w.setCell ⟨g, 0, none⟩ (.int .i64 t.kind)).setCell ⟨g, 1, none⟩ (.int .i64 t.a)).setCell ⟨g, 2, none⟩ (.int .i64 t.b)).setCell ⟨g, 3, none⟩ (.int .i64 t.c)).setCell ⟨g, 4, none⟩ (.int .i64 t.draw)).setCell ⟨g, 5, none⟩ (.int .u32 (t.src : Int))).setCell ⟨g, 6, none⟩ bv
theorem Blk.putEv {w : World} {g : Nat} {T : TypeId} {t0 : Ev} {b0 : Value} (h : Blk w g T (evC t0 b0)) (t : Ev) (bv : Value) : Blk (evSet w g t bv) g T (evC t bv) := by
  have H := ((((((h.set_ 0 (.int .i64 t.kind)).set_ 1 (.int .i64 t.a)).set_ 2 (.int .i64 t.b)).set_ 3 (.int .i64 t.c)).set_ 4 (.int .i64 t.draw)).set_ 5 (.int .u32 (t.src : Int))).set_ 6 bv
  simp only [evC, List.setIfInBounds_toArray, List.set_cons_zero, List.set_cons_succ] at H
  exact H
theorem Blk.putEv_far {w : World} {g p : Nat} {T : TypeId} {cs : Array Value} (h : Blk w g T cs) (hg : g ≠ p) (t : Ev) (bv : Value) : Blk (evSet w p t bv) g T cs :=
  ((((((h.far (p := ⟨p, 0, none⟩) hg (.int .i64 t.kind)).far (p := ⟨p, 1, none⟩) hg (.int .i64 t.a)).far (p := ⟨p, 2, none⟩) hg (.int .i64 t.b)).far (p := ⟨p, 3, none⟩) hg (.int .i64 t.c)).far (p := ⟨p, 4, none⟩) hg (.int .i64 t.draw)).far (p := ⟨p, 5, none⟩) hg (.int .u32 (t.src : Int))).far (p := ⟨p, 6, none⟩) hg bv
theorem Only.putEv {bs : List Nat} {a w : World} (h : Only bs a w) {g : Nat} (hg : g ∈ bs ∨ a.heap.size ≤ g) (t : Ev) (bv : Value) : Only bs a (evSet w g t bv) :=
  ((((((h.setCell (p := ⟨g, 0, none⟩) hg (.int .i64 t.kind)).setCell (p := ⟨g, 1, none⟩) hg (.int .i64 t.a)).setCell (p := ⟨g, 2, none⟩) hg (.int .i64 t.b)).setCell (p := ⟨g, 3, none⟩) hg (.int .i64 t.c)).setCell (p := ⟨g, 4, none⟩) hg (.int .i64 t.draw)).setCell (p := ⟨g, 5, none⟩) hg (.int .u32 (t.src : Int))).setCell (p := ⟨g, 6, none⟩) hg bv

theorem sta_yes (e : Int) (w : World) : (Instr.typeAssert (faultV e) 20 93 true).run Tryz.prog w = .ok (.tuple #[.agg #[.int .i64 e], .bool true]) w := by kernel_rfl
theorem sta_nil (w : World) : (Instr.typeAssert .nilIface 20 93 true).run Tryz.prog w = .ok (.tuple #[.agg #[.int .i64 0], .bool false]) w := by kernel_rfl
def upF (e : Int) : FrameMode := .panicking [{ v := faultV e, recovered := false }]
def caughtF (e : Int) : FrameMode := .panicking [{ v := faultV e, recovered := true }]
theorem recM_upF (e : Int) : recM (upF e) = (faultV e, caughtF e) := rfl
set_option maxRecDepth 100000 in
set_option maxHeartbeats 1000000 in
theorem catch_parse (p0 p1 : Nat) (y : Value) (t0 : Ev) (b0 : Value) (e : Int) (w : World) (h0 : Blk w p0 27 (evC t0 b0)) (h1 : Blk w p1 29 #[y]) (n01 : ¬ p0 = p1) :
    CallsD Tryz.prog 42 #[.pointer (some ⟨p0, 0, none⟩), .pointer (some ⟨p1, 0, none⟩)] (upF e) w fun en u' w' =>
      en = .returned (.tuple #[]) ∧ u' = caughtF e ∧ Blk w' p0 27 (evC (ev0 0) (.slice none 0 0)) ∧ Blk w' p1 29 #[.int .i64 e] ∧ Only [p0, p1] w w' := by
  have c0 : w.cell? ⟨p0, 0, none⟩ = some (.int .i64 t0.kind) := h0.cell 0
  have c1 : w.cell? ⟨p0, 1, none⟩ = some (.int .i64 t0.a) := h0.cell 1
  have c2 : w.cell? ⟨p0, 2, none⟩ = some (.int .i64 t0.b) := h0.cell 2
  have c3 : w.cell? ⟨p0, 3, none⟩ = some (.int .i64 t0.c) := h0.cell 3
  have c4 : w.cell? ⟨p0, 4, none⟩ = some (.int .i64 t0.draw) := h0.cell 4
  have c5 : w.cell? ⟨p0, 5, none⟩ = some (.int .u32 (t0.src : Int)) := h0.cell 5
  have c6 : w.cell? ⟨p0, 6, none⟩ = some b0 := h0.cell 6
  have d0 : w.cell? ⟨p1, 0, none⟩ = some y := h1.cell 0
  have z0 := h0.frozen 0
  have z1 := h0.frozen 1
  have z2 := h0.frozen 2
  have z3 := h0.frozen 3
  have z4 := h0.frozen 4
  have z5 := h0.frozen 5
  have z6 := h0.frozen 6
  have z7 := h1.frozen 0
  have n10 : ¬ p1 = p0 := fun h => n01 h.symm
  have hlt0 := h0.lt
  have hlt1 := h1.lt
  have m0 : ¬ p0 = w.heap.size := by omega
  have m1 : ¬ p1 = w.heap.size := by omega
  have hty := sta_yes
  refine callsD_rec _ _ (recM_upF e) Tryz.func42 rfl rfl rfl ?_
  simp only [Tryz.ntmps42, Act.put, List.size_toArray, List.length_cons, List.length_nil, Nat.reduceAdd, Nat.reduceSub, Array.replicate_succ, Array.replicate_zero, List.push_toArray, List.append_toArray, List.nil_append, List.cons_append]
  go_wp2_with fail
  go_region
  all_goals (try go_wp2_with fail)
  all_goals go_end0
  all_goals refine ⟨rfl, trivial, ?_⟩
  · have hW := ((h0.putEv (ev0 0) (.slice none 0 0)).far (p := ⟨p1, 0, none⟩) n01 (.int .i64 e))
    have hV := ((h1.putEv_far n10 (ev0 0) (.slice none 0 0)).set_ 0 (.int .i64 e))
    have hO := ((Only.refl [p0, p1] w).putEv (.inl (by simp)) (ev0 0) (.slice none 0 0) (g := p0)).setCell (p := ⟨p1, 0, none⟩) (.inl (by simp)) (.int .i64 e)
    exact ⟨(hW.alloc _).drew, (hV.alloc _).drew, (hO.alloc _).drew⟩
set_option maxRecDepth 100000 in
set_option maxHeartbeats 400000 in
theorem idle_parse (p0 p1 : Value) (w : World) :
    CallsD Tryz.prog 42 #[p0, p1] .returning w fun en u' w' => en = .returned (.tuple #[]) ∧ u' = .returning ∧ Kp w w' := by
  have hty := sta_nil
  refine callsD_rec _ _ recM_ret Tryz.func42 rfl rfl rfl ?_
  simp only [Tryz.ntmps42, Act.put, List.size_toArray, List.length_cons, List.length_nil, Nat.reduceAdd, Nat.reduceSub, Array.replicate_succ, Array.replicate_zero, List.push_toArray, List.append_toArray, List.nil_append, List.cons_append]
  go_wp2_with fail
  go_end0
  exact ⟨rfl, trivial, (Kp.refl w).alloc _⟩
theorem parted_le (b : UInt8) : ∀ (l : List UInt8), ∀ w ∈ parted b l, w.length ≤ l.length
  | [], w, h => by simp [parted] at h; subst h; simp
  | c :: l, w, h => by
    have ih := parted_le b l
    unfold parted at h
    split at h
    · rw [List.mem_cons] at h
      rcases h with rfl | h
      · simp
      · have := ih w h; simp; omega
    · cases hp : parted b l with
      | nil => exact absurd hp (parted_ne _ _)
      | cons x r =>
        rw [hp] at h ih
        simp only [List.headD_cons, List.tail_cons, List.mem_cons] at h
        rcases h with rfl | h
        · have := ih x (by simp); simp; omega
        · have := ih w (by simp [h]); simp; omega
end Go.Proofs.YtbfimimhgdkpaaaGreatDoor

/- Package script: Parse. No condition but the stated bounds. -/
namespace Go.Proofs.YtbfimimhgdkpaaaGreatDoor
open Go.RowKit Go.Maps

theorem parse_eq {s h : List UInt8} {ws : List (List UInt8)} (hp : parted 32 s = h :: ws) : parseE s = parseK (kindB h) ws := by unfold parseE; rw [hp]; rfl
theorem kindB_lt (h : List UInt8) : kindB h ≤ 8 := by
  by_cases h0 : kindB h = 0
  · omega
  · have := (kindUp_name 9 h h0).2; unfold kindB; omega
theorem parse_many {s : List UInt8} (hn : ¬ (parted 32 s).length ≤ 6) : parseE s = none := by
  unfold parseE parseK
  split
  · rfl
  · rw [if_neg]
    have := parts_len (kindB_lt ((parted 32 s).headD []))
    rw [List.length_tail]
    omega
theorem readAll_drop {ps : List Pt} {ws : List (List UInt8)} {j : Nat} (hj : j < ps.length) (hw : j < ws.length) (t : Ev) : readAll (ps.drop j) (ws.drop j) t = (readE ps[j] ws[j] t).bind (fun t' => readAll (ps.drop (j + 1)) (ws.drop (j + 1)) t') := by
  rw [List.drop_eq_getElem_cons hj, List.drop_eq_getElem_cons hw]
  rfl
theorem once_x {k j : Nat} (hk : k ≤ 8) (hj : j < (partsOf k).length) (h : (partsOf k)[j] = .x) : Pt.x ∉ (partsOf k).drop (j + 1) := by
  have h5 := parts_len hk
  have h1 : k = 0 ∨ k = 1 ∨ k = 2 ∨ k = 3 ∨ k = 4 ∨ k = 5 ∨ k = 6 ∨ k = 7 ∨ k = 8 := by omega
  have h2 : j = 0 ∨ j = 1 ∨ j = 2 ∨ j = 3 ∨ j = 4 := by omega
  rcases h1 with rfl | rfl | rfl | rfl | rfl | rfl | rfl | rfl | rfl <;> rcases h2 with rfl | rfl | rfl | rfl | rfl <;> first | decide | (exfalso; revert h; decide) | (exfalso; revert hj; decide) | (simp [partsOf] at hj h; done)
theorem Own.newB {α : Type} {w : World} {base e sz n c : Nat} {enc : α → List Value} {A : Option Addr} {xs : List α} (h : Own w base e sz enc (.slice A n c) xs) : ∀ a, A = some a → base ≤ a.block := by
  rintro a rfl
  rcases h.2 with ⟨h2, _⟩ | ⟨g, cap, cur, hv, hg, _⟩
  · cases h2
  · injection hv with h1; injection h1 with h1; rw [h1]; exact hg
theorem Blk.ne_tag {w : World} {p g : Nat} {t u : TypeId} {cs ds : Array Value} (h : Blk w p t cs) (k : Blk w g u ds) (n : t ≠ u) : p ≠ g := by
  rintro rfl
  have := h.symm.trans k
  injection this with this
  injection this with _ this
  exact n this
/-- The reader's cells. -/
def readC (t : Ev) (bv wv : Value) : Array Value := #[.int .i64 t.kind, .int .i64 t.a, .int .i64 t.b, .int .i64 t.c, .int .i64 t.draw, .int .u32 (t.src : Int), bv, wv]
structure ParR (s : List UInt8) (w : World) (g b o c x y z q k : Nat) (hd : List UInt8) (ws : List (List UInt8)) (j : Nat) (t : Ev) (wr : World) : Prop where
  kp : Kp w wr
  p0 : Blk wr w.heap.size 27 (evC (ev0 0) (.slice none 0 0))
  p1 : Blk wr (w.heap.size + 1) 29 #[.int .i64 0]
  box : Boxes wr x y z
  row : Blk wr q 89 (rowC x y z k).toArray
  wd : Rd wr 1 strE (some ⟨b, o, none⟩) (hd :: ws)
  ne : (g ≠ w.heap.size ∧ g ≠ w.heap.size + 1) ∧ (x ≠ g ∧ y ≠ g ∧ z ≠ g) ∧ q ≠ g ∧ b ≠ g
  ge : w.heap.size ≤ g
  rd : ∃ A c', Blk wr g 98 (readC t (.slice A t.bytes.length c') (.slice (some ⟨b, o, none⟩) (ws.length + 1) c)) ∧ Rd wr 1 byteE A t.bytes ∧ (∀ b o, A = some ⟨b, o, none⟩ → b ≠ g ∧ w.heap.size + 1 < b) ∧ (Pt.x ∈ (partsOf k).drop j → A = none ∧ c' = 0 ∧ t.bytes = [])
  more : parseE s = readAll ((partsOf k).drop j) (ws.drop j) t
theorem ParR.next {s : List UInt8} {w : World} {g b o c x y z q k : Nat} {hd : List UInt8} {ws : List (List UInt8)} {j : Nat} {t t' : Ev} {wr wm w2 : World} (R : ParR s w g b o c x y z q k hd ws j t wr) (K : Kp wr wm) (hO : Only [g] wm w2)
    {A : Option Addr} {c' : Nat} (hB : Blk w2 g 98 (readC t' (.slice A t'.bytes.length c') (.slice (some ⟨b, o, none⟩) (ws.length + 1) c))) (hR : Rd w2 1 byteE A t'.bytes) (hn : ∀ b o, A = some ⟨b, o, none⟩ → b ≠ g ∧ w.heap.size + 1 < b) (hx : Pt.x ∈ (partsOf k).drop (j + 1) → A = none ∧ c' = 0 ∧ t'.bytes = []) (hm : parseE s = readAll ((partsOf k).drop (j + 1)) (ws.drop (j + 1)) t') :
    ParR s w g b o c x y z q k hd ws (j + 1) t' w2 := by
  obtain ⟨⟨n0, n1⟩, ⟨nx, ny, nz⟩, nq, nb⟩ := R.ne
  exact ⟨hO.kp (R.kp.trans K) (by simpa using R.ge), (R.p0.keep K).only hO (by simpa using fun e => n0 e.symm), (R.p1.keep K).only hO (by simpa using fun e => n1 e.symm),
    ⟨(R.box.x.keep K).only hO (by simpa using nx), (R.box.y.keep K).only hO (by simpa using ny), (R.box.z.keep K).only hO (by simpa using nz)⟩, (R.row.keep K).only hO (by simpa using nq),
    (R.wd.keep K).only hO (fun b' o' e => by injection e with e; injection e with e; subst e; exact nb), R.ne, R.ge, ⟨A, c', hB, hR, hn, hx⟩, hm⟩
def ParseF (s : ByteArray) (w : World) (e : Ending) (w' : World) : Prop :=
  Kp w w' ∧ (∀ t, parseE s.data.toList = some t → ∃ A c, e = .returned (.tuple #[evV t (.slice A t.bytes.length c), .int .i64 0]) ∧ Rd w' 1 byteE A t.bytes ∧ (∀ b o, A = some ⟨b, o, none⟩ → w.heap.size < b)) ∧ (parseE s.data.toList = none → e = .returned (.tuple #[evV (ev0 0) (.slice none 0 0), .int .i64 260]))

set_option maxRecDepth 100000 in
set_option maxHeartbeats 8000000 in
theorem parse_fresh (s : ByteArray) (hs : s.size ≤ 1000000) (w : World) (L : LibOk w) : Calls Tryz.prog 14 #[.string s] w (ParseF s w) := by
  have hmf := makeFunc_run
  have hlen : s.data.toList.length = s.size := by rw [Array.length_toList]; rfl
  have b0 := (Blk.new w 27 (evC (ev0 0) (.slice none 0 0))).alloc (.cells #[.int .i64 0] 29)
  have b1 := Blk.new1 w (.cells (evC (ev0 0) (.slice none 0 0)) 27) 29 #[.int .i64 0]
  have k1 : Kp w ((w.alloc (.cells (evC (ev0 0) (.slice none 0 0)) 27)).alloc (.cells #[.int .i64 0] 29)) := ((Kp.refl w).alloc _).alloc _
  go_enter_defers Tryz.func14, Tryz.ntmps14
  go_wp2_with fail
  obtain ⟨W, hW, kW, B0, B1⟩ : ∃ W, (w.alloc (.cells (evC (ev0 0) (.slice none 0 0)) 27)).alloc (.cells #[.int .i64 0] 29) = W ∧ Kp w W ∧ Blk W w.heap.size 27 (evC (ev0 0) (.slice none 0 0)) ∧ Blk W (w.heap.size + 1) 29 #[.int .i64 0] := ⟨_, rfl, k1, b0, b1⟩
  simp only [evC, ev0] at hW
  rw [show ((0 : Nat) : Int) = 0 from rfl] at hW
  rw [hW]
  clear hW b0 b1 k1
  refine (words_any s hs W).mono ?_
  rintro e w1 ⟨hY, hN, hK1⟩
  have B0 := B0.keep hK1
  have B1 := B1.keep hK1
  have kw1 := kW.trans hK1
  have hWs := hK1.size
  by_cases h6 : (parted 32 s.data.toList).length ≤ 6
  case neg =>
    obtain rfl := hN h6
    have Hn := Lib.hid (parse_many h6)
    clear hY hN h6
    refine leaves_cons (f := 42) (args := #[.pointer (some ⟨w.heap.size, 0, none⟩), .pointer (some ⟨w.heap.size + 1, 0, none⟩)]) (by simp) (by simp [go_sem]) ?_
    refine (catch_parse _ _ _ _ _ 260 w1 (B0) (B1) (by omega)).mono ?_
    rintro e u' wz ⟨rfl, rfl, C0, C1, hOz⟩
    have q0 : wz.cell? ⟨w.heap.size, 0, none⟩ = some (.int .i64 0) := C0.cell 0
    have q1 : wz.cell? ⟨w.heap.size, 1, none⟩ = some (.int .i64 0) := C0.cell 1
    have q2 : wz.cell? ⟨w.heap.size, 2, none⟩ = some (.int .i64 0) := C0.cell 2
    have q3 : wz.cell? ⟨w.heap.size, 3, none⟩ = some (.int .i64 0) := C0.cell 3
    have q4 : wz.cell? ⟨w.heap.size, 4, none⟩ = some (.int .i64 0) := C0.cell 4
    have q5 : wz.cell? ⟨w.heap.size, 5, none⟩ = some (.int .u32 0) := C0.cell 5
    have q6 : wz.cell? ⟨w.heap.size, 6, none⟩ = some (.slice none 0 0) := C0.cell 6
    have q7 : wz.cell? ⟨w.heap.size + 1, 0, none⟩ = some (.int .i64 260) := C1.cell 0
    show Leaves _ _ _ _ [] .returning _
    exact ⟨.tuple #[evV (ev0 0) (.slice none 0 0), .int .i64 260], by simp [results, Tryz.results14, go_sem, q0, q1, q2, q3, q4, q5, q6, q7, ev0], hOz.kp (kw1) (by simp), fun a ha => (by rw [Hn.out] at ha; cases ha), fun _ => rfl⟩
  case pos =>
    obtain ⟨v, rfl, hown⟩ := hY h6
    clear hY hN
    obtain ⟨hd, ws, hp⟩ : ∃ hd ws, parted 32 s.data.toList = hd :: ws := by
      cases hp : parted 32 s.data.toList with
      | nil => exact absurd hp (parted_ne _ _)
      | cons a b => exact ⟨a, b, rfl⟩
    have hle : ∀ u ∈ hd :: ws, u.length ≤ 1000000 := by
      intro u hu
      rw [← hp] at hu
      have := parted_le 32 _ u hu
      omega
    have Hpe := Lib.hid (parse_eq hp)
    rw [hp] at hown h6
    clear hp
    have hws : ws.length ≤ 5 := by simpa using h6
    obtain ⟨A, c, hv⟩ := hown.form
    subst hv
    have hRw := hown.rdAt (by decide) strE_len
    obtain ⟨b, o, rfl, hcw⟩ := str_at hRw (k := 0) (by simp)
    have hb1 := hown.newB _ rfl
    simp only at hb1
    rw [Nat.add_zero, List.getElem_cons_zero] at hcw
    have hbl := World.block_lt_of_cell? w1 _ hcw
    simp only at hbl
    have hl1 : (hd :: ws).length = ws.length + 1 := rfl
    rw [hl1]
    have HRw := Lib.hid hRw
    clear hRw hown h6
    have hne : ¬ b = w1.heap.size := by omega
    have BG := Blk.new w1 98 #[.int .i64 0, .int .i64 0, .int .i64 0, .int .i64 0, .int .i64 0, .int .u32 0, .slice none 0 0, .slice (some ⟨b, o, none⟩) (ws.length + 1) c]
    have KG : Kp w1 (w1.alloc (.cells #[.int .i64 0, .int .i64 0, .int .i64 0, .int .i64 0, .int .i64 0, .int .u32 0, .slice none 0 0, .slice (some ⟨b, o, none⟩) (ws.length + 1) c] 98)) := (Kp.refl w1).alloc _
    go_wp2_with fail
    refine (kind_any w1.heap.size _ _ _ _ _ _ b o c hd ws hne _ BG (KG.cell hcw)).mono ?_
    rintro e w2 ⟨hY, hN, hO2⟩
    have hlt0 := B0.lt
    have hlt1 := B1.lt
    have B0 := (B0.keep KG).only hO2 (by simp; omega)
    have B1 := (B1.keep KG).only hO2 (by simp; omega)
    have kw2 : Kp w w2 := hO2.kp (kw1.trans KG) (by simpa using kw1.size)
    have HRw2 := Lib.hid ((HRw.out.keep KG).only hO2 (fun b' o' e => by injection e with e; injection e with e; omega))
    clear HRw
    by_cases hk0 : kindB hd = 0
    case pos =>
      obtain rfl := hN hk0
      have Hn := Lib.hid (show parseE s.data.toList = none by rw [Hpe.out, hk0]; rfl)
      clear hY hN hk0 KG BG hcw
      refine leaves_cons (f := 42) (args := #[.pointer (some ⟨w.heap.size, 0, none⟩), .pointer (some ⟨w.heap.size + 1, 0, none⟩)]) (by simp) (by simp [go_sem]) ?_
      refine (catch_parse _ _ _ _ _ 260 w2 (B0) (B1) (by omega)).mono ?_
      rintro e u' wz ⟨rfl, rfl, C0, C1, hOz⟩
      have q0 : wz.cell? ⟨w.heap.size, 0, none⟩ = some (.int .i64 0) := C0.cell 0
      have q1 : wz.cell? ⟨w.heap.size, 1, none⟩ = some (.int .i64 0) := C0.cell 1
      have q2 : wz.cell? ⟨w.heap.size, 2, none⟩ = some (.int .i64 0) := C0.cell 2
      have q3 : wz.cell? ⟨w.heap.size, 3, none⟩ = some (.int .i64 0) := C0.cell 3
      have q4 : wz.cell? ⟨w.heap.size, 4, none⟩ = some (.int .i64 0) := C0.cell 4
      have q5 : wz.cell? ⟨w.heap.size, 5, none⟩ = some (.int .u32 0) := C0.cell 5
      have q6 : wz.cell? ⟨w.heap.size, 6, none⟩ = some (.slice none 0 0) := C0.cell 6
      have q7 : wz.cell? ⟨w.heap.size + 1, 0, none⟩ = some (.int .i64 260) := C1.cell 0
      show Leaves _ _ _ _ [] .returning _
      exact ⟨.tuple #[evV (ev0 0) (.slice none 0 0), .int .i64 260], by simp [results, Tryz.results14, go_sem, q0, q1, q2, q3, q4, q5, q6, q7, ev0], hOz.kp (kw2) (by simp), fun a ha => (by rw [Hn.out] at ha; cases ha), fun _ => rfl⟩
    case neg =>
      obtain ⟨rfl, BG2⟩ := hY hk0
      have h8 := kindB_lt hd
      obtain ⟨k, hk⟩ : ∃ k, kindB hd = k := ⟨_, rfl⟩
      rw [hk] at BG2 Hpe hk0 h8
      have h1 : 1 ≤ k := by omega
      have hkk : kWf (k : Int) := kWf_of (by omega) (by omega)
      clear hY hN hk KG BG hcw
      obtain ⟨g, hg⟩ : ∃ g, w1.heap.size = g := ⟨_, rfl⟩
      rw [hg] at BG2 hO2 hne hbl hlt0 hlt1
      have hgw : w.heap.size ≤ g := by have := kw1.size; omega
      have hWg : W.heap.size ≤ g := by omega
      rw [hg]
      clear hg
      have g0 : w2.cell? ⟨g, 0, none⟩ = some (.int .i64 (k : Nat)) := BG2.cell 0
      go_wp2_with fail
      go_region_held3 (fun w' => w'.cell? ⟨g, 0, none⟩ = some (.int .i64 (k : Nat))) (first | exact Kd.cell g0 | go_keep) (first | (go_at_call 39; refine (lines_any _).mono ?_; rintro en wa ⟨x, y, z, m, f, rfl, HL, hx, hy, hz, Ka⟩; have Kd : Kp w2 wa := (Kp.refl w2).drew.trans Ka; obtain ⟨u, hu, q, rfl, hBq⟩ := HL.row k h1 h8; have hlk : (Instr.lookup 84 (.map (some m)) (.int .i64 (k : Nat)) false).run Tryz.prog wa = .ok (.slice (some ⟨q, 0, none⟩) (partsOf k).length (partsOf k).length) wa := (by have := HL.map.look1 hkk; rw [hu] at this; exact this)))
      have hn5 := parts_len h8
      have B0 := B0.keep Kd
      have B1 := B1.keep Kd
      have kwa := kw2.trans Kd
      have BG3 := BG2.keep Kd
      have g7 : wa.cell? ⟨g, 7, none⟩ = some (.slice (some ⟨b, o, none⟩) (ws.length + 1) c) := BG3.cell 7
      have HRw3 := Lib.hid (HRw2.out.keep Kd)
      have hqg : q ≠ g := hBq.ne_tag BG3 (by decide)
      have hxg : x ≠ g ∧ y ≠ g ∧ z ≠ g := ⟨HL.box.x.ne_tag BG3 (by decide), HL.box.y.ne_tag BG3 (by decide), HL.box.z.ne_tag BG3 (by decide)⟩
      clear hlk hu g0 HRw2 BG2
      go_wp2_with fail
      by_cases hwl : ws.length = (partsOf k).length
      case neg =>
        have hbe : (((ws.length : Int) + 1) == 1 + ((partsOf k).length : Int)) = false := by rw [beq_eq_false_iff_ne]; omega
        have Hn := Lib.hid (show parseE s.data.toList = none by rw [Hpe.out, parseK, if_neg hk0, if_neg hwl])
        try rw [hbe]
        clear hwl
        refine (need_nay _ _).mono ?_
        rintro e w3 ⟨rfl, rfl⟩
        refine leaves_cons (f := 42) (args := #[.pointer (some ⟨w.heap.size, 0, none⟩), .pointer (some ⟨w.heap.size + 1, 0, none⟩)]) (by simp) (by simp [go_sem]) ?_
        refine (catch_parse _ _ _ _ _ 260 wa (B0) (B1) (by omega)).mono ?_
        rintro e u' wz ⟨rfl, rfl, C0, C1, hOz⟩
        have q0 : wz.cell? ⟨w.heap.size, 0, none⟩ = some (.int .i64 0) := C0.cell 0
        have q1 : wz.cell? ⟨w.heap.size, 1, none⟩ = some (.int .i64 0) := C0.cell 1
        have q2 : wz.cell? ⟨w.heap.size, 2, none⟩ = some (.int .i64 0) := C0.cell 2
        have q3 : wz.cell? ⟨w.heap.size, 3, none⟩ = some (.int .i64 0) := C0.cell 3
        have q4 : wz.cell? ⟨w.heap.size, 4, none⟩ = some (.int .i64 0) := C0.cell 4
        have q5 : wz.cell? ⟨w.heap.size, 5, none⟩ = some (.int .u32 0) := C0.cell 5
        have q6 : wz.cell? ⟨w.heap.size, 6, none⟩ = some (.slice none 0 0) := C0.cell 6
        have q7 : wz.cell? ⟨w.heap.size + 1, 0, none⟩ = some (.int .i64 260) := C1.cell 0
        show Leaves _ _ _ _ [] .returning _
        exact ⟨.tuple #[evV (ev0 0) (.slice none 0 0), .int .i64 260], by simp [results, Tryz.results14, go_sem, q0, q1, q2, q3, q4, q5, q6, q7, ev0], hOz.kp (kwa) (by simp), fun a ha => (by rw [Hn.out] at ha; cases ha), fun _ => rfl⟩
      case pos =>
        have hbe : (((ws.length : Int) + 1) == 1 + ((partsOf k).length : Int)) = true := by rw [beq_iff_eq]; omega
        have Hpr : Hid (parseE s.data.toList = readAll (partsOf k) ws (ev0 k)) := Lib.hid (by rw [Hpe.out, parseK, if_neg hk0, if_pos hwl])
        try rw [hbe]
        refine (need_yes _ _).mono ?_
        rintro e w3 ⟨rfl, rfl⟩
        have R0 : Hid (ParR s.data.toList w g b o c x y z q k hd ws 0 (ev0 k) wa) := Lib.hid ⟨kwa, B0, B1, HL.box, hBq, HRw3.out, ⟨⟨by omega, by omega⟩, hxg, hqg, hne⟩, hgw, ⟨none, 0, BG3, Rd.nil _ _ _ _, fun b o h => (by cases h), fun _ => ⟨rfl, rfl, rfl⟩⟩, by rw [Hpr.out]; rfl⟩
        clear HL hBq HRw3 BG3 g7 B0 B1 kwa hO2 kw2 Hpr Hpe
        go_wp2_with fail
        go_loopw [34] (fun i wr => ∃ (j : Nat) (t : Ev), j ≤ (partsOf k).length ∧ i = .int .i64 j ∧ Hid (ParR s.data.toList w g b o c x y z q k hd ws j t wr)) (fun i _ => (partsOf k).length - (intOf i).toNat)
        case atStart => exact ⟨0, _, by omega, rfl, R0⟩
        case round =>
          obtain ⟨j, t, hj, rfl, R⟩ := hrel
          obtain ⟨⟨n0, n1⟩, ⟨nx, ny, nz⟩, nq, nb⟩ := R.out.ne
          have hsz := R.out.kp.size
          obtain ⟨A, c', hBG, hRA, hnA, hxA⟩ := R.out.rd
          have hgr := hBG.lt
          by_cases hlt : j < (partsOf k).length
          · have hjw : j < ws.length := by omega
            obtain ⟨p, hp'⟩ : ∃ p, (partsOf k)[j] = p := ⟨_, rfl⟩
            have Hnx := Lib.hid (show parseE s.data.toList = (readE p ws[j] t).bind (fun t' => readAll ((partsOf k).drop (j + 1)) (ws.drop (j + 1)) t') by rw [R.out.more, readAll_drop hlt hjw, hp'])
            have Hxd := Lib.hid (show Pt.x ∈ (partsOf k).drop (j + 1) → Pt.x ∈ (partsOf k).drop j from fun h => by rw [List.drop_eq_getElem_cons hlt]; exact List.mem_cons_of_mem _ h)
            have Hxx := Lib.hid (show p = .x → Pt.x ∈ (partsOf k).drop j ∧ Pt.x ∉ (partsOf k).drop (j + 1) from fun e => ⟨by rw [List.drop_eq_getElem_cons hlt, hp', e]; exact List.mem_cons_self, once_x h8 hlt (by rw [hp', e])⟩)
            have hcell := part_at (row_rd R.out.row h8) hlt hp'
            obtain ⟨W1, hW1⟩ : ∃ W1, ws[j] = W1 := ⟨_, rfl⟩
            rw [hW1] at Hnx
            have hwd := (R.out.wd) (j + 1) (by simpa using hjw)
            have hWl : W1.length ≤ 1000000 := hle W1 (by rw [← hW1]; simp)
            have hWs : (strB W1).size ≤ 1000000 := by show W1.toArray.size ≤ 1000000; simpa using hWl
            have hwc : wr.cell? ⟨b, o + (j + 1), none⟩ = some (.string (strB W1)) := by
              obtain ⟨b', o', e', hc'⟩ := hwd
              injection e' with e'
              injection e' with e1 e2
              subst e1; subst e2
              have := hc' 0 _ rfl
              rw [List.getElem_cons_succ, hW1] at this
              simpa using this
            clear hp' hwd hW1
            have q7 : wr.cell? ⟨g, 7, none⟩ = some (.slice (some ⟨b, o, none⟩) (ws.length + 1) c) := hBG.cell 7
            cases p with
            | a =>
              have d0 : wr.cell? ⟨q, j * 3, none⟩ = some (.func (.func 124) #[] #[.pointer (some ⟨x, 0, none⟩)]) := hcell 0 _ rfl
              have d1 : wr.cell? ⟨q, j * 3 + 1, none⟩ = some (.func (.func 125) #[] #[.pointer (some ⟨x, 0, none⟩)]) := hcell 1 _ rfl
              have d2 : wr.cell? ⟨q, j * 3 + 2, none⟩ = some (.func (.func 127) #[] #[.pointer (some ⟨x, 0, none⟩)]) := hcell 2 _ rfl
              clear hcell
              go_wp2_with fail
              obtain ⟨Wm, hWm, KWm, hBP⟩ : ∃ Wm, wr.alloc (.cells #[.func (.func 124) #[] #[.pointer (some ⟨x, 0, none⟩)], .func (.func 125) #[] #[.pointer (some ⟨x, 0, none⟩)], .func (.func 127) #[] #[.pointer (some ⟨x, 0, none⟩)]] 89) = Wm ∧ Kp wr Wm ∧ Blk Wm wr.heap.size 89 #[.func (.func 124) #[] #[.pointer (some ⟨x, 0, none⟩)], .func (.func 125) #[] #[.pointer (some ⟨x, 0, none⟩)], .func (.func 127) #[] #[.pointer (some ⟨x, 0, none⟩)]] := ⟨_, rfl, (Kp.refl wr).alloc _, Blk.new wr _ _⟩
              rw [hWm]
              clear hWm
              have KWd : Kp wr Wm.drew := KWm.drew
              have m2 : Wm.cell? ⟨wr.heap.size, 2, none⟩ = some (.func (.func 127) #[] #[.pointer (some ⟨x, 0, none⟩)]) := hBP.cell 2
              have m7 : Wm.cell? ⟨g, 7, none⟩ = some (.slice (some ⟨b, o, none⟩) (ws.length + 1) c) := KWm.cell q7
              have mw := KWm.cell hwc
              have hjw1 : IntKind.i64.wrap (1 + (j : Int)) = 1 + (j : Int) := IntWalk.i64_in _ (by omega)
              have hjt : (1 + (j : Int)).toNat = j + 1 := by omega
              have hj1 : (1 : Int) + (j : Int) < ((partsOf k).length : Int) + 1 := by omega
              have hj0 : (0 : Int) ≤ 1 + (j : Int) := by omega
              go_still_tail 13, (by kernel_rfl)
              change wpList _ _ _ _ _ Wm.drew
              go_wp2_with fail
              have L2 : LibOk Wm.drew := L.keep (R.out.kp.trans KWd)
              have hB2 := R.out.box.keep KWd
              have BG2 : Blk Wm.drew g 98 _ := hBG.keep KWd
              have H0 : Blk Wm.drew w.heap.size 27 _ := R.out.p0.keep KWd
              have H1 : Blk Wm.drew (w.heap.size + 1) 29 _ := R.out.p1.keep KWd
              have HK : Kp w Wm.drew := R.out.kp.trans KWd
              have hsl := strB_list W1
              have Hlist := Lib.hid hsl
              clear hsl
              refine (read_a g x 98 _ (by simp [readC]) (strB W1) (by omega) _ L2 BG2 nx (hB2.x.cell 0)).mono ?_
              rintro e w4 ⟨hY, hN⟩
              rw [Hlist.out] at hY hN
              cases hv : numP W1 with
              | some n =>
                obtain ⟨rfl, hB4, hO4⟩ := hY n hv
                have Hn := Lib.hid (R.out.next KWd hO4 (t' := { t with a := n }) hB4 ((hRA.keep KWd).only hO4 (fun b o e => (hnA b o e).1)) hnA (fun h => hxA (Hxd.out h)) (by rw [Hnx.out]; simp only [readE]; rw [hv]; rfl))
                clear hY hN hB4 hO4 hv
                go_wp2_with fail
                go_roundw
                case rel => exact ⟨j + 1, _, by omega, by go_num, Hn⟩
                case measure => simp [intOf]; omega
              | none =>
                obtain ⟨rfl, hK4⟩ := hN hv
                have Hn := Lib.hid (show parseE s.data.toList = none by rw [Hnx.out]; simp only [readE]; rw [hv]; rfl)
                clear hY hN hv
                refine leaves_cons (f := 42) (args := #[.pointer (some ⟨w.heap.size, 0, none⟩), .pointer (some ⟨w.heap.size + 1, 0, none⟩)]) (by simp) (by simp [go_sem]) ?_
                refine (catch_parse _ _ _ _ _ 260 w4 (H0.keep hK4) (H1.keep hK4) (by omega)).mono ?_
                rintro e u' wz ⟨rfl, rfl, C0, C1, hOz⟩
                have q0 : wz.cell? ⟨w.heap.size, 0, none⟩ = some (.int .i64 0) := C0.cell 0
                have q1 : wz.cell? ⟨w.heap.size, 1, none⟩ = some (.int .i64 0) := C0.cell 1
                have q2 : wz.cell? ⟨w.heap.size, 2, none⟩ = some (.int .i64 0) := C0.cell 2
                have q3 : wz.cell? ⟨w.heap.size, 3, none⟩ = some (.int .i64 0) := C0.cell 3
                have q4 : wz.cell? ⟨w.heap.size, 4, none⟩ = some (.int .i64 0) := C0.cell 4
                have q5 : wz.cell? ⟨w.heap.size, 5, none⟩ = some (.int .u32 0) := C0.cell 5
                have q6 : wz.cell? ⟨w.heap.size, 6, none⟩ = some (.slice none 0 0) := C0.cell 6
                have q7 : wz.cell? ⟨w.heap.size + 1, 0, none⟩ = some (.int .i64 260) := C1.cell 0
                show Leaves _ _ _ _ [] .returning _
                exact ⟨.tuple #[evV (ev0 0) (.slice none 0 0), .int .i64 260], by simp [results, Tryz.results14, go_sem, q0, q1, q2, q3, q4, q5, q6, q7, ev0], hOz.kp (HK.trans hK4) (by simp), fun a ha => (by rw [Hn.out] at ha; cases ha), fun _ => rfl⟩
            | b =>
              have d0 : wr.cell? ⟨q, j * 3, none⟩ = some (.func (.func 124) #[] #[.pointer (some ⟨y, 0, none⟩)]) := hcell 0 _ rfl
              have d1 : wr.cell? ⟨q, j * 3 + 1, none⟩ = some (.func (.func 125) #[] #[.pointer (some ⟨y, 0, none⟩)]) := hcell 1 _ rfl
              have d2 : wr.cell? ⟨q, j * 3 + 2, none⟩ = some (.func (.func 127) #[] #[.pointer (some ⟨y, 0, none⟩)]) := hcell 2 _ rfl
              clear hcell
              go_wp2_with fail
              obtain ⟨Wm, hWm, KWm, hBP⟩ : ∃ Wm, wr.alloc (.cells #[.func (.func 124) #[] #[.pointer (some ⟨y, 0, none⟩)], .func (.func 125) #[] #[.pointer (some ⟨y, 0, none⟩)], .func (.func 127) #[] #[.pointer (some ⟨y, 0, none⟩)]] 89) = Wm ∧ Kp wr Wm ∧ Blk Wm wr.heap.size 89 #[.func (.func 124) #[] #[.pointer (some ⟨y, 0, none⟩)], .func (.func 125) #[] #[.pointer (some ⟨y, 0, none⟩)], .func (.func 127) #[] #[.pointer (some ⟨y, 0, none⟩)]] := ⟨_, rfl, (Kp.refl wr).alloc _, Blk.new wr _ _⟩
              rw [hWm]
              clear hWm
              have KWd : Kp wr Wm.drew := KWm.drew
              have m2 : Wm.cell? ⟨wr.heap.size, 2, none⟩ = some (.func (.func 127) #[] #[.pointer (some ⟨y, 0, none⟩)]) := hBP.cell 2
              have m7 : Wm.cell? ⟨g, 7, none⟩ = some (.slice (some ⟨b, o, none⟩) (ws.length + 1) c) := KWm.cell q7
              have mw := KWm.cell hwc
              have hjw1 : IntKind.i64.wrap (1 + (j : Int)) = 1 + (j : Int) := IntWalk.i64_in _ (by omega)
              have hjt : (1 + (j : Int)).toNat = j + 1 := by omega
              have hj1 : (1 : Int) + (j : Int) < ((partsOf k).length : Int) + 1 := by omega
              have hj0 : (0 : Int) ≤ 1 + (j : Int) := by omega
              go_still_tail 13, (by kernel_rfl)
              change wpList _ _ _ _ _ Wm.drew
              go_wp2_with fail
              have L2 : LibOk Wm.drew := L.keep (R.out.kp.trans KWd)
              have hB2 := R.out.box.keep KWd
              have BG2 : Blk Wm.drew g 98 _ := hBG.keep KWd
              have H0 : Blk Wm.drew w.heap.size 27 _ := R.out.p0.keep KWd
              have H1 : Blk Wm.drew (w.heap.size + 1) 29 _ := R.out.p1.keep KWd
              have HK : Kp w Wm.drew := R.out.kp.trans KWd
              have hsl := strB_list W1
              have Hlist := Lib.hid hsl
              clear hsl
              refine (read_b g y 98 _ (by simp [readC]) (strB W1) (by omega) _ L2 BG2 ny (hB2.y.cell 0)).mono ?_
              rintro e w4 ⟨hY, hN⟩
              rw [Hlist.out] at hY hN
              cases hv : numP W1 with
              | some n =>
                obtain ⟨rfl, hB4, hO4⟩ := hY n hv
                have Hn := Lib.hid (R.out.next KWd hO4 (t' := { t with b := n }) hB4 ((hRA.keep KWd).only hO4 (fun b o e => (hnA b o e).1)) hnA (fun h => hxA (Hxd.out h)) (by rw [Hnx.out]; simp only [readE]; rw [hv]; rfl))
                clear hY hN hB4 hO4 hv
                go_wp2_with fail
                go_roundw
                case rel => exact ⟨j + 1, _, by omega, by go_num, Hn⟩
                case measure => simp [intOf]; omega
              | none =>
                obtain ⟨rfl, hK4⟩ := hN hv
                have Hn := Lib.hid (show parseE s.data.toList = none by rw [Hnx.out]; simp only [readE]; rw [hv]; rfl)
                clear hY hN hv
                refine leaves_cons (f := 42) (args := #[.pointer (some ⟨w.heap.size, 0, none⟩), .pointer (some ⟨w.heap.size + 1, 0, none⟩)]) (by simp) (by simp [go_sem]) ?_
                refine (catch_parse _ _ _ _ _ 260 w4 (H0.keep hK4) (H1.keep hK4) (by omega)).mono ?_
                rintro e u' wz ⟨rfl, rfl, C0, C1, hOz⟩
                have q0 : wz.cell? ⟨w.heap.size, 0, none⟩ = some (.int .i64 0) := C0.cell 0
                have q1 : wz.cell? ⟨w.heap.size, 1, none⟩ = some (.int .i64 0) := C0.cell 1
                have q2 : wz.cell? ⟨w.heap.size, 2, none⟩ = some (.int .i64 0) := C0.cell 2
                have q3 : wz.cell? ⟨w.heap.size, 3, none⟩ = some (.int .i64 0) := C0.cell 3
                have q4 : wz.cell? ⟨w.heap.size, 4, none⟩ = some (.int .i64 0) := C0.cell 4
                have q5 : wz.cell? ⟨w.heap.size, 5, none⟩ = some (.int .u32 0) := C0.cell 5
                have q6 : wz.cell? ⟨w.heap.size, 6, none⟩ = some (.slice none 0 0) := C0.cell 6
                have q7 : wz.cell? ⟨w.heap.size + 1, 0, none⟩ = some (.int .i64 260) := C1.cell 0
                show Leaves _ _ _ _ [] .returning _
                exact ⟨.tuple #[evV (ev0 0) (.slice none 0 0), .int .i64 260], by simp [results, Tryz.results14, go_sem, q0, q1, q2, q3, q4, q5, q6, q7, ev0], hOz.kp (HK.trans hK4) (by simp), fun a ha => (by rw [Hn.out] at ha; cases ha), fun _ => rfl⟩
            | c =>
              have d0 : wr.cell? ⟨q, j * 3, none⟩ = some (.func (.func 133) #[] #[]) := hcell 0 _ rfl
              have d1 : wr.cell? ⟨q, j * 3 + 1, none⟩ = some (.func (.func 134) #[] #[]) := hcell 1 _ rfl
              have d2 : wr.cell? ⟨q, j * 3 + 2, none⟩ = some (.func (.func 135) #[] #[]) := hcell 2 _ rfl
              clear hcell
              go_wp2_with fail
              obtain ⟨Wm, hWm, KWm, hBP⟩ : ∃ Wm, wr.alloc (.cells #[.func (.func 133) #[] #[], .func (.func 134) #[] #[], .func (.func 135) #[] #[]] 89) = Wm ∧ Kp wr Wm ∧ Blk Wm wr.heap.size 89 #[.func (.func 133) #[] #[], .func (.func 134) #[] #[], .func (.func 135) #[] #[]] := ⟨_, rfl, (Kp.refl wr).alloc _, Blk.new wr _ _⟩
              rw [hWm]
              clear hWm
              have KWd : Kp wr Wm.drew := KWm.drew
              have m2 : Wm.cell? ⟨wr.heap.size, 2, none⟩ = some (.func (.func 135) #[] #[]) := hBP.cell 2
              have m7 : Wm.cell? ⟨g, 7, none⟩ = some (.slice (some ⟨b, o, none⟩) (ws.length + 1) c) := KWm.cell q7
              have mw := KWm.cell hwc
              have hjw1 : IntKind.i64.wrap (1 + (j : Int)) = 1 + (j : Int) := IntWalk.i64_in _ (by omega)
              have hjt : (1 + (j : Int)).toNat = j + 1 := by omega
              have hj1 : (1 : Int) + (j : Int) < ((partsOf k).length : Int) + 1 := by omega
              have hj0 : (0 : Int) ≤ 1 + (j : Int) := by omega
              go_still_tail 13, (by kernel_rfl)
              change wpList _ _ _ _ _ Wm.drew
              go_wp2_with fail
              have L2 : LibOk Wm.drew := L.keep (R.out.kp.trans KWd)
              have hB2 := R.out.box.keep KWd
              have BG2 : Blk Wm.drew g 98 _ := hBG.keep KWd
              have H0 : Blk Wm.drew w.heap.size 27 _ := R.out.p0.keep KWd
              have H1 : Blk Wm.drew (w.heap.size + 1) 29 _ := R.out.p1.keep KWd
              have HK : Kp w Wm.drew := R.out.kp.trans KWd
              have hsl := strB_list W1
              have Hlist := Lib.hid hsl
              clear hsl
              refine (read_turn g 98 _ (by simp [readC]) (strB W1) _ BG2).mono ?_
              rintro e w4 ⟨hU, hD, hN⟩
              rw [Hlist.out] at hU hD hN
              by_cases hu : W1 = upS
              · obtain ⟨rfl, hB4, hO4⟩ := hU hu
                have Hn := Lib.hid (R.out.next KWd hO4 (t' := { t with c := 1 }) hB4 ((hRA.keep KWd).only hO4 (fun b o e => (hnA b o e).1)) hnA (fun h => hxA (Hxd.out h)) (by rw [Hnx.out]; simp only [readE]; rw [if_pos hu]; rfl))
                clear hU hD hN hB4 hO4 hu
                go_wp2_with fail
                go_roundw
                case rel => exact ⟨j + 1, _, by omega, by go_num, Hn⟩
                case measure => simp [intOf]; omega
              · by_cases hw : W1 = downS
                · obtain ⟨rfl, hK4⟩ := hD hu hw
                  have Hn := Lib.hid (R.out.next KWd (Only.of_kp hK4) (t' := t) (BG2.keep hK4) ((hRA.keep KWd).keep hK4) hnA (fun h => hxA (Hxd.out h)) (by rw [Hnx.out]; simp only [readE]; rw [if_neg hu, if_pos hw]; rfl))
                  clear hU hD hN hu hw
                  go_wp2_with fail
                  go_roundw
                  case rel => exact ⟨j + 1, _, by omega, by go_num, Hn⟩
                  case measure => simp [intOf]; omega
                · obtain ⟨rfl, hK4⟩ := hN hu hw
                  have Hn := Lib.hid (show parseE s.data.toList = none by rw [Hnx.out]; simp only [readE]; rw [if_neg hu, if_neg hw]; rfl)
                  clear hU hD hN hu hw
                  refine leaves_cons (f := 42) (args := #[.pointer (some ⟨w.heap.size, 0, none⟩), .pointer (some ⟨w.heap.size + 1, 0, none⟩)]) (by simp) (by simp [go_sem]) ?_
                  refine (catch_parse _ _ _ _ _ 260 w4 (H0.keep hK4) (H1.keep hK4) (by omega)).mono ?_
                  rintro e u' wz ⟨rfl, rfl, C0, C1, hOz⟩
                  have q0 : wz.cell? ⟨w.heap.size, 0, none⟩ = some (.int .i64 0) := C0.cell 0
                  have q1 : wz.cell? ⟨w.heap.size, 1, none⟩ = some (.int .i64 0) := C0.cell 1
                  have q2 : wz.cell? ⟨w.heap.size, 2, none⟩ = some (.int .i64 0) := C0.cell 2
                  have q3 : wz.cell? ⟨w.heap.size, 3, none⟩ = some (.int .i64 0) := C0.cell 3
                  have q4 : wz.cell? ⟨w.heap.size, 4, none⟩ = some (.int .i64 0) := C0.cell 4
                  have q5 : wz.cell? ⟨w.heap.size, 5, none⟩ = some (.int .u32 0) := C0.cell 5
                  have q6 : wz.cell? ⟨w.heap.size, 6, none⟩ = some (.slice none 0 0) := C0.cell 6
                  have q7 : wz.cell? ⟨w.heap.size + 1, 0, none⟩ = some (.int .i64 260) := C1.cell 0
                  show Leaves _ _ _ _ [] .returning _
                  exact ⟨.tuple #[evV (ev0 0) (.slice none 0 0), .int .i64 260], by simp [results, Tryz.results14, go_sem, q0, q1, q2, q3, q4, q5, q6, q7, ev0], hOz.kp (HK.trans hK4) (by simp), fun a ha => (by rw [Hn.out] at ha; cases ha), fun _ => rfl⟩
            | d =>
              have d0 : wr.cell? ⟨q, j * 3, none⟩ = some (.func (.func 130) #[] #[.pointer (some ⟨z, 0, none⟩)]) := hcell 0 _ rfl
              have d1 : wr.cell? ⟨q, j * 3 + 1, none⟩ = some (.func (.func 131) #[] #[.pointer (some ⟨z, 0, none⟩)]) := hcell 1 _ rfl
              have d2 : wr.cell? ⟨q, j * 3 + 2, none⟩ = some (.func (.func 132) #[] #[.pointer (some ⟨z, 0, none⟩)]) := hcell 2 _ rfl
              clear hcell
              go_wp2_with fail
              obtain ⟨Wm, hWm, KWm, hBP⟩ : ∃ Wm, wr.alloc (.cells #[.func (.func 130) #[] #[.pointer (some ⟨z, 0, none⟩)], .func (.func 131) #[] #[.pointer (some ⟨z, 0, none⟩)], .func (.func 132) #[] #[.pointer (some ⟨z, 0, none⟩)]] 89) = Wm ∧ Kp wr Wm ∧ Blk Wm wr.heap.size 89 #[.func (.func 130) #[] #[.pointer (some ⟨z, 0, none⟩)], .func (.func 131) #[] #[.pointer (some ⟨z, 0, none⟩)], .func (.func 132) #[] #[.pointer (some ⟨z, 0, none⟩)]] := ⟨_, rfl, (Kp.refl wr).alloc _, Blk.new wr _ _⟩
              rw [hWm]
              clear hWm
              have KWd : Kp wr Wm.drew := KWm.drew
              have m2 : Wm.cell? ⟨wr.heap.size, 2, none⟩ = some (.func (.func 132) #[] #[.pointer (some ⟨z, 0, none⟩)]) := hBP.cell 2
              have m7 : Wm.cell? ⟨g, 7, none⟩ = some (.slice (some ⟨b, o, none⟩) (ws.length + 1) c) := KWm.cell q7
              have mw := KWm.cell hwc
              have hjw1 : IntKind.i64.wrap (1 + (j : Int)) = 1 + (j : Int) := IntWalk.i64_in _ (by omega)
              have hjt : (1 + (j : Int)).toNat = j + 1 := by omega
              have hj1 : (1 : Int) + (j : Int) < ((partsOf k).length : Int) + 1 := by omega
              have hj0 : (0 : Int) ≤ 1 + (j : Int) := by omega
              go_still_tail 13, (by kernel_rfl)
              change wpList _ _ _ _ _ Wm.drew
              go_wp2_with fail
              have L2 : LibOk Wm.drew := L.keep (R.out.kp.trans KWd)
              have hB2 := R.out.box.keep KWd
              have BG2 : Blk Wm.drew g 98 _ := hBG.keep KWd
              have H0 : Blk Wm.drew w.heap.size 27 _ := R.out.p0.keep KWd
              have H1 : Blk Wm.drew (w.heap.size + 1) 29 _ := R.out.p1.keep KWd
              have HK : Kp w Wm.drew := R.out.kp.trans KWd
              have hsl := strB_list W1
              have Hlist := Lib.hid hsl
              clear hsl
              refine (read_d g z 98 _ (by simp [readC]) (strB W1) (by omega) _ L2 BG2 nz (hB2.z.cell 0)).mono ?_
              rintro e w4 ⟨hY, hN⟩
              rw [Hlist.out] at hY hN
              cases hv : numP W1 with
              | some n =>
                obtain ⟨rfl, hB4, hO4⟩ := hY n hv
                have Hn := Lib.hid (R.out.next KWd hO4 (t' := { t with draw := n }) hB4 ((hRA.keep KWd).only hO4 (fun b o e => (hnA b o e).1)) hnA (fun h => hxA (Hxd.out h)) (by rw [Hnx.out]; simp only [readE]; rw [hv]; rfl))
                clear hY hN hB4 hO4 hv
                go_wp2_with fail
                go_roundw
                case rel => exact ⟨j + 1, _, by omega, by go_num, Hn⟩
                case measure => simp [intOf]; omega
              | none =>
                obtain ⟨rfl, hK4⟩ := hN hv
                have Hn := Lib.hid (show parseE s.data.toList = none by rw [Hnx.out]; simp only [readE]; rw [hv]; rfl)
                clear hY hN hv
                refine leaves_cons (f := 42) (args := #[.pointer (some ⟨w.heap.size, 0, none⟩), .pointer (some ⟨w.heap.size + 1, 0, none⟩)]) (by simp) (by simp [go_sem]) ?_
                refine (catch_parse _ _ _ _ _ 260 w4 (H0.keep hK4) (H1.keep hK4) (by omega)).mono ?_
                rintro e u' wz ⟨rfl, rfl, C0, C1, hOz⟩
                have q0 : wz.cell? ⟨w.heap.size, 0, none⟩ = some (.int .i64 0) := C0.cell 0
                have q1 : wz.cell? ⟨w.heap.size, 1, none⟩ = some (.int .i64 0) := C0.cell 1
                have q2 : wz.cell? ⟨w.heap.size, 2, none⟩ = some (.int .i64 0) := C0.cell 2
                have q3 : wz.cell? ⟨w.heap.size, 3, none⟩ = some (.int .i64 0) := C0.cell 3
                have q4 : wz.cell? ⟨w.heap.size, 4, none⟩ = some (.int .i64 0) := C0.cell 4
                have q5 : wz.cell? ⟨w.heap.size, 5, none⟩ = some (.int .u32 0) := C0.cell 5
                have q6 : wz.cell? ⟨w.heap.size, 6, none⟩ = some (.slice none 0 0) := C0.cell 6
                have q7 : wz.cell? ⟨w.heap.size + 1, 0, none⟩ = some (.int .i64 260) := C1.cell 0
                show Leaves _ _ _ _ [] .returning _
                exact ⟨.tuple #[evV (ev0 0) (.slice none 0 0), .int .i64 260], by simp [results, Tryz.results14, go_sem, q0, q1, q2, q3, q4, q5, q6, q7, ev0], hOz.kp (HK.trans hK4) (by simp), fun a ha => (by rw [Hn.out] at ha; cases ha), fun _ => rfl⟩
            | s =>
              have d0 : wr.cell? ⟨q, j * 3, none⟩ = some (.func (.func 136) #[] #[]) := hcell 0 _ rfl
              have d1 : wr.cell? ⟨q, j * 3 + 1, none⟩ = some (.func (.func 137) #[] #[]) := hcell 1 _ rfl
              have d2 : wr.cell? ⟨q, j * 3 + 2, none⟩ = some (.func (.func 138) #[] #[]) := hcell 2 _ rfl
              clear hcell
              go_wp2_with fail
              obtain ⟨Wm, hWm, KWm, hBP⟩ : ∃ Wm, wr.alloc (.cells #[.func (.func 136) #[] #[], .func (.func 137) #[] #[], .func (.func 138) #[] #[]] 89) = Wm ∧ Kp wr Wm ∧ Blk Wm wr.heap.size 89 #[.func (.func 136) #[] #[], .func (.func 137) #[] #[], .func (.func 138) #[] #[]] := ⟨_, rfl, (Kp.refl wr).alloc _, Blk.new wr _ _⟩
              rw [hWm]
              clear hWm
              have KWd : Kp wr Wm.drew := KWm.drew
              have m2 : Wm.cell? ⟨wr.heap.size, 2, none⟩ = some (.func (.func 138) #[] #[]) := hBP.cell 2
              have m7 : Wm.cell? ⟨g, 7, none⟩ = some (.slice (some ⟨b, o, none⟩) (ws.length + 1) c) := KWm.cell q7
              have mw := KWm.cell hwc
              have hjw1 : IntKind.i64.wrap (1 + (j : Int)) = 1 + (j : Int) := IntWalk.i64_in _ (by omega)
              have hjt : (1 + (j : Int)).toNat = j + 1 := by omega
              have hj1 : (1 : Int) + (j : Int) < ((partsOf k).length : Int) + 1 := by omega
              have hj0 : (0 : Int) ≤ 1 + (j : Int) := by omega
              go_still_tail 13, (by kernel_rfl)
              change wpList _ _ _ _ _ Wm.drew
              go_wp2_with fail
              have L2 : LibOk Wm.drew := L.keep (R.out.kp.trans KWd)
              have hB2 := R.out.box.keep KWd
              have BG2 : Blk Wm.drew g 98 _ := hBG.keep KWd
              have H0 : Blk Wm.drew w.heap.size 27 _ := R.out.p0.keep KWd
              have H1 : Blk Wm.drew (w.heap.size + 1) 29 _ := R.out.p1.keep KWd
              have HK : Kp w Wm.drew := R.out.kp.trans KWd
              have hsl := strB_list W1
              have Hlist := Lib.hid hsl
              clear hsl
              refine (read_src g 98 _ (by simp [readC]) (strB W1) (by omega) _ BG2).mono ?_
              rintro e w4 ⟨hY, hN⟩
              rw [Hlist.out] at hY hN
              cases hv : adr W1 with
              | some n =>
                obtain ⟨rfl, hB4, hO4⟩ := hY n hv
                have Hn := Lib.hid (R.out.next KWd hO4 (t' := { t with src := n }) hB4 ((hRA.keep KWd).only hO4 (fun b o e => (hnA b o e).1)) hnA (fun h => hxA (Hxd.out h)) (by rw [Hnx.out]; simp only [readE]; rw [hv]; rfl))
                clear hY hN hB4 hO4 hv
                go_wp2_with fail
                go_roundw
                case rel => exact ⟨j + 1, _, by omega, by go_num, Hn⟩
                case measure => simp [intOf]; omega
              | none =>
                obtain ⟨rfl, hK4⟩ := hN hv
                have Hn := Lib.hid (show parseE s.data.toList = none by rw [Hnx.out]; simp only [readE]; rw [hv]; rfl)
                clear hY hN hv
                refine leaves_cons (f := 42) (args := #[.pointer (some ⟨w.heap.size, 0, none⟩), .pointer (some ⟨w.heap.size + 1, 0, none⟩)]) (by simp) (by simp [go_sem]) ?_
                refine (catch_parse _ _ _ _ _ 260 w4 (H0.keep hK4) (H1.keep hK4) (by omega)).mono ?_
                rintro e u' wz ⟨rfl, rfl, C0, C1, hOz⟩
                have q0 : wz.cell? ⟨w.heap.size, 0, none⟩ = some (.int .i64 0) := C0.cell 0
                have q1 : wz.cell? ⟨w.heap.size, 1, none⟩ = some (.int .i64 0) := C0.cell 1
                have q2 : wz.cell? ⟨w.heap.size, 2, none⟩ = some (.int .i64 0) := C0.cell 2
                have q3 : wz.cell? ⟨w.heap.size, 3, none⟩ = some (.int .i64 0) := C0.cell 3
                have q4 : wz.cell? ⟨w.heap.size, 4, none⟩ = some (.int .i64 0) := C0.cell 4
                have q5 : wz.cell? ⟨w.heap.size, 5, none⟩ = some (.int .u32 0) := C0.cell 5
                have q6 : wz.cell? ⟨w.heap.size, 6, none⟩ = some (.slice none 0 0) := C0.cell 6
                have q7 : wz.cell? ⟨w.heap.size + 1, 0, none⟩ = some (.int .i64 260) := C1.cell 0
                show Leaves _ _ _ _ [] .returning _
                exact ⟨.tuple #[evV (ev0 0) (.slice none 0 0), .int .i64 260], by simp [results, Tryz.results14, go_sem, q0, q1, q2, q3, q4, q5, q6, q7, ev0], hOz.kp (HK.trans hK4) (by simp), fun a ha => (by rw [Hn.out] at ha; cases ha), fun _ => rfl⟩
            | x =>
              have d0 : wr.cell? ⟨q, j * 3, none⟩ = some (.func (.func 139) #[] #[]) := hcell 0 _ rfl
              have d1 : wr.cell? ⟨q, j * 3 + 1, none⟩ = some (.func (.func 140) #[] #[]) := hcell 1 _ rfl
              have d2 : wr.cell? ⟨q, j * 3 + 2, none⟩ = some (.func (.func 141) #[] #[]) := hcell 2 _ rfl
              obtain ⟨hx1, hx2⟩ := Hxx.out rfl
              obtain ⟨rfl, rfl, htb⟩ := hxA hx1
              rw [htb] at hBG
              clear hcell
              go_wp2_with fail
              obtain ⟨Wm, hWm, KWm, hBP⟩ : ∃ Wm, wr.alloc (.cells #[.func (.func 139) #[] #[], .func (.func 140) #[] #[], .func (.func 141) #[] #[]] 89) = Wm ∧ Kp wr Wm ∧ Blk Wm wr.heap.size 89 #[.func (.func 139) #[] #[], .func (.func 140) #[] #[], .func (.func 141) #[] #[]] := ⟨_, rfl, (Kp.refl wr).alloc _, Blk.new wr _ _⟩
              rw [hWm]
              clear hWm
              have KWd : Kp wr Wm.drew := KWm.drew
              have m2 : Wm.cell? ⟨wr.heap.size, 2, none⟩ = some (.func (.func 141) #[] #[]) := hBP.cell 2
              have m7 : Wm.cell? ⟨g, 7, none⟩ = some (.slice (some ⟨b, o, none⟩) (ws.length + 1) c) := KWm.cell q7
              have mw := KWm.cell hwc
              have hjw1 : IntKind.i64.wrap (1 + (j : Int)) = 1 + (j : Int) := IntWalk.i64_in _ (by omega)
              have hjt : (1 + (j : Int)).toNat = j + 1 := by omega
              have hj1 : (1 : Int) + (j : Int) < ((partsOf k).length : Int) + 1 := by omega
              have hj0 : (0 : Int) ≤ 1 + (j : Int) := by omega
              go_still_tail 13, (by kernel_rfl)
              change wpList _ _ _ _ _ Wm.drew
              go_wp2_with fail
              have L2 : LibOk Wm.drew := L.keep (R.out.kp.trans KWd)
              have hB2 := R.out.box.keep KWd
              have BG2 : Blk Wm.drew g 98 _ := hBG.keep KWd
              have H0 : Blk Wm.drew w.heap.size 27 _ := R.out.p0.keep KWd
              have H1 : Blk Wm.drew (w.heap.size + 1) 29 _ := R.out.p1.keep KWd
              have HK : Kp w Wm.drew := R.out.kp.trans KWd
              have hsl := strB_list W1
              have Hlist := Lib.hid hsl
              clear hsl
              refine (read_data g 98 _ (by simp [readC]) (by simp [readC]) (strB W1) (by omega) _ BG2).mono ?_
              rintro e w4 ⟨hY, hN⟩
              rw [Hlist.out] at hY hN
              cases hv : dataW W1 with
              | some l =>
                obtain ⟨rfl, v, hB4, hown4, hO4⟩ := hY l hv
                obtain ⟨A4, c4, hv4⟩ := hown4.form
                subst hv4
                have hgd : g < Wm.drew.heap.size := Nat.lt_of_lt_of_le hgr KWd.size
                have Hn := Lib.hid (R.out.next KWd hO4 (t' := { t with bytes := l }) hB4 (hown4.rdAt (by decide) byteE_len) (fun b o e => by have := hown4.newB _ e; simp only at this; omega) (fun h => absurd h hx2) (by rw [Hnx.out]; simp only [readE]; rw [hv, htb]; rfl))
                clear hY hN hB4 hO4 hv hown4
                go_wp2_with fail
                go_roundw
                case rel => exact ⟨j + 1, _, by omega, by go_num, Hn⟩
                case measure => simp [intOf]; omega
              | none =>
                obtain ⟨rfl, hO4⟩ := hN hv
                have Hn := Lib.hid (show parseE s.data.toList = none by rw [Hnx.out]; simp only [readE]; rw [hv]; rfl)
                clear hY hN hv
                refine leaves_cons (f := 42) (args := #[.pointer (some ⟨w.heap.size, 0, none⟩), .pointer (some ⟨w.heap.size + 1, 0, none⟩)]) (by simp) (by simp [go_sem]) ?_
                refine (catch_parse _ _ _ _ _ 260 w4 (H0.only hO4 (by simpa using fun e => n0 e.symm)) (H1.only hO4 (by simpa using fun e => n1 e.symm)) (by omega)).mono ?_
                rintro e u' wz ⟨rfl, rfl, C0, C1, hOz⟩
                have q0 : wz.cell? ⟨w.heap.size, 0, none⟩ = some (.int .i64 0) := C0.cell 0
                have q1 : wz.cell? ⟨w.heap.size, 1, none⟩ = some (.int .i64 0) := C0.cell 1
                have q2 : wz.cell? ⟨w.heap.size, 2, none⟩ = some (.int .i64 0) := C0.cell 2
                have q3 : wz.cell? ⟨w.heap.size, 3, none⟩ = some (.int .i64 0) := C0.cell 3
                have q4 : wz.cell? ⟨w.heap.size, 4, none⟩ = some (.int .i64 0) := C0.cell 4
                have q5 : wz.cell? ⟨w.heap.size, 5, none⟩ = some (.int .u32 0) := C0.cell 5
                have q6 : wz.cell? ⟨w.heap.size, 6, none⟩ = some (.slice none 0 0) := C0.cell 6
                have q7 : wz.cell? ⟨w.heap.size + 1, 0, none⟩ = some (.int .i64 260) := C1.cell 0
                show Leaves _ _ _ _ [] .returning _
                exact ⟨.tuple #[evV (ev0 0) (.slice none 0 0), .int .i64 260], by simp [results, Tryz.results14, go_sem, q0, q1, q2, q3, q4, q5, q6, q7, ev0], hOz.kp (hO4.kp HK (by simpa using R.out.ge)) (by simp), fun a ha => (by rw [Hn.out] at ha; cases ha), fun _ => rfl⟩
          · obtain rfl : j = (partsOf k).length := by omega
            have Hpe : Hid (parseE s.data.toList = some t) := Lib.hid (by rw [R.out.more, List.drop_length]; rfl)
            obtain ⟨hpl, hok, _⟩ := parse_sound Hpe.out
            obtain ⟨hk1, hk8, hb6⟩ := plainP_parts hpl
            have q0 : wr.cell? ⟨g, 0, none⟩ = some (.int .i64 t.kind) := hBG.cell 0
            have q1 : wr.cell? ⟨g, 1, none⟩ = some (.int .i64 t.a) := hBG.cell 1
            have q2 : wr.cell? ⟨g, 2, none⟩ = some (.int .i64 t.b) := hBG.cell 2
            have q3 : wr.cell? ⟨g, 3, none⟩ = some (.int .i64 t.c) := hBG.cell 3
            have q4 : wr.cell? ⟨g, 4, none⟩ = some (.int .i64 t.draw) := hBG.cell 4
            have q5 : wr.cell? ⟨g, 5, none⟩ = some (.int .u32 (t.src : Int)) := hBG.cell 5
            have q6 : wr.cell? ⟨g, 6, none⟩ = some (.slice A t.bytes.length c') := hBG.cell 6
            have HR := R
            clear hxA hBG hj hgr
            go_wp2_with fail
            refine (plain_any t A c' wr (by omega) (by omega) hRA (by omega)).mono ?_
            rintro e w4 ⟨rfl, hK4⟩
            rw [hpl]
            have C0 := HR.out.p0.keep hK4
            have C1 := HR.out.p1.keep hK4
            have hR4 := hRA.keep hK4
            have kw4 := HR.out.kp.trans hK4
            have q0 := hK4.cell q0
            have q1 := hK4.cell q1
            have q2 := hK4.cell q2
            have q3 := hK4.cell q3
            have q4 := hK4.cell q4
            have q5 := hK4.cell q5
            have q6 := hK4.cell q6
            have e0 : w4.cell? ⟨w.heap.size, 0, none⟩ = some (.int .i64 0) := C0.cell 0
            have e1 : w4.cell? ⟨w.heap.size, 1, none⟩ = some (.int .i64 0) := C0.cell 1
            have e2 : w4.cell? ⟨w.heap.size, 2, none⟩ = some (.int .i64 0) := C0.cell 2
            have e3 : w4.cell? ⟨w.heap.size, 3, none⟩ = some (.int .i64 0) := C0.cell 3
            have e4 : w4.cell? ⟨w.heap.size, 4, none⟩ = some (.int .i64 0) := C0.cell 4
            have e5 : w4.cell? ⟨w.heap.size, 5, none⟩ = some (.int .u32 0) := C0.cell 5
            have e6 : w4.cell? ⟨w.heap.size, 6, none⟩ = some (.slice none 0 0) := C0.cell 6
            have e7 : w4.cell? ⟨w.heap.size + 1, 0, none⟩ = some (.int .i64 0) := C1.cell 0
            have z0 := C0.frozen 0
            have z1 := C0.frozen 1
            have z2 := C0.frozen 2
            have z3 := C0.frozen 3
            have z4 := C0.frozen 4
            have z5 := C0.frozen 5
            have z6 := C0.frozen 6
            have z7 := C1.frozen 0
            clear R hok hpl
            go_wp2_with (first | (go_at_call 45; refine (need_yes _ _).mono ?_; rintro e w' ⟨rfl, rfl⟩))
            refine leaves_cons (f := 42) (args := #[.pointer (some ⟨w.heap.size, 0, none⟩), .pointer (some ⟨w.heap.size + 1, 0, none⟩)]) (by simp) (by simp [go_sem]) ?_
            refine (idle_parse _ _ _).mono ?_
            rintro e u' wz ⟨rfl, rfl, hKz⟩
            have D0 := ((C0.putEv t (.slice A t.bytes.length c')).far (p := ⟨w.heap.size + 1, 0, none⟩) (by simp) (.int .i64 0)).keep hKz
            have D1 := ((C1.putEv_far (p := w.heap.size) (by omega) t (.slice A t.bytes.length c')).set_ 0 (.int .i64 0)).keep hKz
            have hO1 := (Only.refl [w.heap.size] w4).putEv (g := w.heap.size) (.inl (by simp)) t (.slice A t.bytes.length c')
            have hO2 := (Only.refl [w.heap.size + 1] (evSet w4 w.heap.size t (.slice A t.bytes.length c'))).setCell (p := ⟨w.heap.size + 1, 0, none⟩) (.inl (by simp)) (.int .i64 0)
            have kz := (hO2.kp (hO1.kp kw4 (by simp)) (by simp)).trans hKz
            have hRz := ((hR4.only hO1 (fun b o e => by have := (hnA b o e).2; omega)).only hO2 (fun b o e => by have := (hnA b o e).2; omega)).keep hKz
            have y0 : wz.cell? ⟨w.heap.size, 0, none⟩ = some (.int .i64 t.kind) := D0.cell 0
            have y1 : wz.cell? ⟨w.heap.size, 1, none⟩ = some (.int .i64 t.a) := D0.cell 1
            have y2 : wz.cell? ⟨w.heap.size, 2, none⟩ = some (.int .i64 t.b) := D0.cell 2
            have y3 : wz.cell? ⟨w.heap.size, 3, none⟩ = some (.int .i64 t.c) := D0.cell 3
            have y4 : wz.cell? ⟨w.heap.size, 4, none⟩ = some (.int .i64 t.draw) := D0.cell 4
            have y5 : wz.cell? ⟨w.heap.size, 5, none⟩ = some (.int .u32 (t.src : Int)) := D0.cell 5
            have y6 : wz.cell? ⟨w.heap.size, 6, none⟩ = some (.slice A t.bytes.length c') := D0.cell 6
            have y7 : wz.cell? ⟨w.heap.size + 1, 0, none⟩ = some (.int .i64 0) := D1.cell 0
            show Leaves _ _ _ _ [] .returning _
            exact ⟨.tuple #[evV t (.slice A t.bytes.length c'), .int .i64 0], by simp [results, Tryz.results14, go_sem, y0, y1, y2, y3, y4, y5, y6, y7], kz, fun a ha => (by rw [Hpe.out, Option.some.injEq] at ha; subst ha; exact ⟨A, c', rfl, hRz, fun b o e => by have := (hnA b o e).2; omega⟩), fun h => (by rw [Hpe.out] at h; cases h)⟩
def ParseP (s : ByteArray) (w : World) (e : Ending) (w' : World) : Prop :=
  Kp w w' ∧ (∀ t, parseE s.data.toList = some t → ∃ A c, e = .returned (.tuple #[evV t (.slice A t.bytes.length c), .int .i64 0]) ∧ Rd w' 1 byteE A t.bytes) ∧ (parseE s.data.toList = none → e = .returned (.tuple #[evV (ev0 0) (.slice none 0 0), .int .i64 260]))
theorem parse_any (s : ByteArray) (hs : s.size ≤ 1000000) (w : World) (L : LibOk w) : Calls Tryz.prog 14 #[.string s] w (ParseP s w) := by
  refine (parse_fresh s hs w L).mono ?_
  rintro e w' ⟨hK, hY, hN⟩
  refine ⟨hK, fun t ht => ?_, hN⟩
  obtain ⟨A, c, e, hR, _⟩ := hY t ht
  exact ⟨A, c, e, hR⟩
end Go.Proofs.YtbfimimhgdkpaaaGreatDoor
