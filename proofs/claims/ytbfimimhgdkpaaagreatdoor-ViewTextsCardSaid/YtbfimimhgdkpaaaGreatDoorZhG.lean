/- Lemmas and contracts for the theorem of this claim: VwF, VwG, ScR, ScS, ScU, VwO. -/
import Derived.Test.YtbfimimhgdkpaaaGreatDoorZhF
set_option linter.unusedSimpArgs false
set_option linter.unusedVariables false
/- Package view: a line's words. No condition but the stated bounds. -/
namespace Go.Proofs.YtbfimimhgdkpaaaGreatDoor
open Go.RowKit

def WordsV (s : ByteArray) (w : World) (e : Ending) (w' : World) : Prop :=
  ((parted 32 s.data.toList).length ≤ 11 → ∃ v, e = .returned v ∧ Own w' w.heap.size 9 1 strE v (parted 32 s.data.toList)) ∧ (¬ (parted 32 s.data.toList).length ≤ 11 → e = gaveV 250) ∧ Kp w w'
structure WRelV (w : World) (s : ByteArray) (pos a : Nat) (v : Value) (ws : List (List UInt8)) (wr : World) : Prop where
  le : pos ≤ s.size
  fr : a ≤ pos
  it : wr.heap[w.heap.size]? = some (.stringIter s pos)
  own : Own wr (w.heap.size + 1) 9 1 strE v ws
  no : ∀ i, a ≤ i → i < pos → byteAt s i ≠ (32 : UInt8).toNat
  wq : parted 32 s.data.toList = ws ++ parted 32 (s.data.toList.drop a)
  n5 : ws.length ≤ 10
  kp : Kp w wr

set_option maxRecDepth 100000 in
set_option maxHeartbeats 2000000 in
theorem vwords_any (s : ByteArray) (hs : s.size ≤ 1000000) (w : World) : Calls Tryz.prog 62 #[.string s] w (WordsV s w) := by
  have HR : Hid (WRelV w s 0 0 (.slice none 0 0) [] (w.iter s 0)) := Lib.hid ⟨by omega, by omega, World.iter_heap w s 0, Own.nil _ _ _ _ _, fun i _ h => absurd h (by omega), by simp, by decide, (Kp.refl w).alloc _⟩
  have hlen : s.data.toList.length = s.size := by rw [Array.length_toList]; rfl
  have Hlen := Lib.hid hlen; clear hlen
  go_enter Tryz.func62, Tryz.ntmps62
  go_wp2_with fail
  go_loopw [3, 4] (fun v f wr => ∃ pos a ws, f = .int .i64 (a : Nat) ∧ Hid (WRelV w s pos a v ws wr)) (fun _ _ wr => s.size - wr.iterPos w.heap.size)
  case atStart => exact ⟨0, 0, [], rfl, HR⟩
  case round =>
    obtain ⟨pos, a, ws, rfl, R⟩ := hrel
    have hk := R.out.it
    have hfr := R.out.fr
    have hle := R.out.le
    have hn5 := R.out.n5
    have hsz := R.out.kp.size
    have hmu : wr.iterPos w.heap.size = pos := by simp [World.iterPos, hk]
    by_cases hp : pos < s.size
    · have hnext : ∀ ty, (Instr.next (.pointer (some ⟨w.heap.size, 0, none⟩)) true ty).run Tryz.prog wr = _ := fun ty => Lib.run_next_any_at wr w.heap.size s pos ty hk hp
      have hr := Lib.hid (rune_is s pos hp 32 (by decide))
      obtain ⟨c, m, hcm⟩ : ∃ c m, Utf8.decode s pos = (c, m) := ⟨_, _, rfl⟩
      rw [hcm] at hnext hr
      simp only at hnext hr
      clear hcm
      have hlt := (Array.getElem?_eq_some_iff.1 hk).1
      have hK1 : Kp w (wr.iterAt w.heap.size s (pos + m)) := Lib.below_iterAt R.out.kp (Nat.le_refl _) s (pos + m)
      have hk1 := Lib.iterAt_heap wr w.heap.size s pos (pos + m) hk
      have hO1 : Own (wr.iterAt w.heap.size s (pos + m)) (w.heap.size + 1) 9 1 strE u3 ws := R.out.own.iterAt hk _
      have R' := R
      generalize wr.iterAt w.heap.size s (pos + m) = W1 at hnext hK1 hk1 hO1
      clear hk
      have hk1s : W1.heap[w.heap.size]? = some (.stringIter s (pos + m)) := hk1
      have hsz1 : w.heap.size + 1 ≤ W1.heap.size := (Array.getElem?_eq_some_iff.1 hk1).1
      obtain ⟨hm1, hm2, hcase⟩ := hr.out
      rcases hcase with ⟨hc, hb⟩ | ⟨hc, hb⟩
      · obtain ⟨rfl, rfl⟩ : c = 32 ∧ m = 1 := by injection hc with h1 h2; exact ⟨h1, h2⟩
        have hseg := Lib.hid (parted_seg (x := 32) hfr hp R.out.no hb)
        have ha0 : (0 : Int) ≤ (a : Int) := by omega
        have ha1 : (a : Int) ≤ (pos : Int) := by omega
        have ha2 : (pos : Int) ≤ (s.size : Int) := by omega
        have Hext := Lib.hid (extract_eq s a pos)
        have hnews : ([.string (s.extract a pos)] : List Value) = strE ((s.data.toList.drop a).take (pos - a)) := by rw [Hext.out]; rfl
        have Hnews := Lib.hid hnews; clear hnews
        clear hc hb
        have hnel := Own.ne hO1 (g := w.heap.size) (by omega)
        go_wp2_with (at_builtin; go_must (refine wpList_appx EStr (w0 := bare W1) rfl _ _ rfl ((s.data.toList.drop a).take (pos - a)) rfl hO1 (bare_kp _) (Nat.zero_le _) hsz1 rfl rfl Hnews.out rfl rfl (by omega) ?_); intro v2 w2 hown2 hK2 hg2; obtain ⟨A2, c2, rfl⟩ := hown2.form1)
        have hK2w : Kp w w2 := hK1.grown hg2 (fun q hq => by have := (World.ownsRow.lt hO1 q hq).1; omega)
        by_cases h6 : ws.length + 1 < 11
        · have Hn : Hid (WRelV w s (pos + 1) (pos + 1) (.slice A2 (ws.length + 1) c2) (ws ++ [(s.data.toList.drop a).take (pos - a)]) w2) := Lib.hid
            ⟨hm2, Nat.le_refl _, (hg2.block _ (by omega) hnel).trans hk1s, hown2, fun i h1 h2 => absurd h1 (by omega), by rw [R.out.wq, hseg.out]; simp, by simp; omega, hK2w⟩
          have hmu2 : w2.iterPos w.heap.size = pos + 1 := by simp [World.iterPos, Hn.out.it]
          have hd6 : decide ((ws.length : Int) + 1 < 11) = true := by rw [decide_eq_true_iff]; omega
          rw [hd6]
          refine (vneed_ok _ _).mono ?_
          rintro e w3 ⟨rfl, rfl⟩
          go_wp2_with fail
          go_roundw
          case rel => exact ⟨pos + 1, pos + 1, _, by go_num, Hn⟩
          case measure => rw [hmu, hmu2]; omega
        · have hd6 : decide ((ws.length : Int) + 1 < 11) = false := by rw [decide_eq_false_iff_not]; omega
          rw [hd6]
          have Hbig := Lib.hid (show ¬ (parted 32 s.data.toList).length ≤ 11 by
            rw [R.out.wq, hseg.out]
            have := List.length_pos_iff.2 (parted_ne 32 (s.data.toList.drop (pos + 1)))
            simp
            omega)
          refine (vneed_no _ _).mono ?_
          rintro e w3 ⟨rfl, rfl⟩
          exact ⟨rfl, fun h => absurd h Hbig.out, fun _ => rfl, hK2w⟩
      · have Hn : Hid (WRelV w s (pos + m) a u3 ws W1) := Lib.hid
          ⟨hm2, by omega, hk1s, hO1, fun i h1 h2 => by
            rcases Nat.lt_or_ge i pos with h3 | h3
            · exact R.out.no i h1 h3
            · have := hb (i - pos) (by omega)
              rwa [show pos + (i - pos) = i by omega] at this, R.out.wq, hn5, hK1⟩
        have hb32 : ((c : Int) == 32) = false := by rw [beq_eq_false_iff_ne]; have h32 : (32 : UInt8).toNat = 32 := rfl; omega
        have hb33 : ¬ (c : Int) = 32 := by have h32 : (32 : UInt8).toNat = 32 := rfl; omega
        have hmu2 : W1.iterPos w.heap.size = pos + m := by simp [World.iterPos, hk1s]
        have hd6 : decide ((ws.length : Int) < 11) = true := by rw [decide_eq_true_iff]; omega
        have hi6 : (ws.length : Int) < 11 := by omega
        obtain ⟨A3, c3, rfl⟩ := hO1.form
        clear hc hb
        go_wp2_with (first | (go_at_call 65; refine (vneed_ok _ _).mono ?_; rintro e w' ⟨rfl, rfl⟩))
        go_roundw
        case rel => exact ⟨pos + m, a, ws, rfl, Hn⟩
        case measure => rw [hmu, hmu2]; omega
    · have hnext : ∀ ty, (Instr.next (.pointer (some ⟨w.heap.size, 0, none⟩)) true ty).run Tryz.prog wr = _ := fun ty => Lib.run_next_end_at wr w.heap.size s pos ty hk hp
      have hps : pos = s.size := by omega
      have hO := R.out.own
      have hKw := R.out.kp
      have hlast := Lib.hid (parted_last (x := 32) (s := s) (a := a) (fun i h1 h2 => R.out.no i h1 (by omega)))
      have Hw := Lib.hid (show parted 32 s.data.toList = ws ++ [s.data.toList.drop a] by rw [R.out.wq, hlast.out])
      have hszr : w.heap.size + 1 ≤ wr.heap.size := (Array.getElem?_eq_some_iff.1 hk).1
      have Hext := Lib.hid (extract_eq s a s.size)
      have hnews : ([.string (s.extract a s.size)] : List Value) = strE (s.data.toList.drop a) := by
        rw [Hext.out, List.take_of_length_le (by rw [List.length_drop, Hlen.out]; exact Nat.le_refl _)]; rfl
      have Hnews := Lib.hid hnews; clear hnews hk
      have ha0 : (0 : Int) ≤ (a : Int) := by omega
      have ha2 : (a : Int) ≤ (s.size : Int) := by omega
      subst hps
      go_wp2_with (at_builtin; go_must (refine wpList_appx EStr (w0 := bare wr) rfl _ _ rfl (s.data.toList.drop a) rfl hO (bare_kp _) (Nat.zero_le _) hszr rfl rfl Hnews.out rfl rfl (by omega) ?_); intro v2 w2 hown2 hK2 hg2; obtain ⟨A2, c2, rfl⟩ := hown2.form1)
      go_ret
      refine ⟨fun _ => ⟨_, rfl, ?_⟩, fun h => absurd (by rw [Hw.out]; simp; omega) h, hKw.grown hg2 (fun q hq => by have := (World.ownsRow.lt hO q hq).1; omega)⟩
      rw [Hw.out]
      exact hown2.mono (by omega)
end Go.Proofs.YtbfimimhgdkpaaaGreatDoor

/- Prefixes' texts, the program's and the reference's. No condition but the library's variables and the stated bounds. -/
namespace Go.Proofs.YtbfimimhgdkpaaaGreatDoor
open Go.RowKit
attribute [local go_sem] Oper.semAt_some

theorem textA_short {a : Nat} (h : a < 4294967296) : (textA a).length ≤ 100 := by
  have h1 := digits_short (n := a / 16777216) (by omega)
  have h2 := digits_short (n := a / 65536 % 256) (by omega)
  have h3 := digits_short (n := a / 256 % 256) (by omega)
  have h4 := digits_short (n := a % 256) (by omega)
  simp only [textA, List.length_append, List.length_cons]
  omega
theorem itoa_short {n : Int} (h0 : -9223372036854775808 ≤ n) (h1 : n ≤ 9223372036854775807) : (Lib.itoa n).length ≤ 100 := by
  have := Lib.itoa_length_le n h0 h1; omega
theorem textP_short {p : PI} (h : p.a < 4294967296) (h0 : -9223372036854775808 ≤ p.l) (h1 : p.l ≤ 9223372036854775807) : (textP p).length ≤ 201 := by
  have := textA_short h
  have := itoa_short h0 h1
  unfold textP
  rw [List.length_append, List.length_cons]
  omega
theorem sz_strB (l : List UInt8) : (strB l).size = l.length := by show l.toArray.size = _; simp
/-- The sums of a prefix's text. -/
theorem textP_sum (p : PI) (h : p.a < 4294967296) (h0 : -9223372036854775808 ≤ p.l) (h1 : p.l ≤ 9223372036854775807) : ∃ A B t1 : ByteArray, strB (textA p.a) = A ∧ strB (Lib.itoa p.l) = B ∧ (∀ w, (Op.stringOp .add A ⟨#[47]⟩).run Tryz.prog w = .ok (.string t1) w) ∧ (∀ w, (Op.stringOp .add t1 B).run Tryz.prog w = .ok (.string (strB (textP p))) w) := by
  have s1 := textA_short h
  have s2 := itoa_short h0 h1
  obtain ⟨t1, f1, z1, y1⟩ := add_fact (x := strB (textA p.a)) (y := ⟨#[47]⟩) (n := 100) (m := 1) (by rw [sz_strB]; exact s1) (by decide) (by omega)
  obtain ⟨t2, f2, z2, y2⟩ := add_fact (x := t1) (y := strB (Lib.itoa p.l)) (n := 101) (m := 100) y1 (by rw [sz_strB]; exact s2) (by omega)
  refine ⟨_, _, t1, rfl, rfl, z1, ?_⟩
  have e : t2 = strB (textP p) := by
    rw [f2, f1, show (⟨#[47]⟩ : ByteArray) = strB [47] from rfl, strB_app, strB_app, List.append_assoc]
    rfl
  rw [← e]
  exact z2
set_option maxRecDepth 100000 in
set_option maxHeartbeats 2000000 in
theorem ptext_any (p : PI) (w : World) (L : LibOk w) (ha : p.a < 4294967296) (h0 : -9223372036854775808 ≤ p.l) (h1 : p.l ≤ 9223372036854775807) :
    Calls Tryz.prog 56 #[.agg #[.int .u32 p.a, .int .i64 p.l]] w fun e w' => e = .returned (if p.okB = true then .tuple #[.string (strB (textP p)), .int .i64 0] else .tuple #[.string ⟨#[]⟩, .int .i64 2]) ∧ Kp w w' := by
  have hrd : Rd ((w.alloc (.cells #[.int .u32 p.a, .int .i64 p.l] 42)).alloc (.cells #[.int .u32 p.a, .int .i64 p.l] 42)) 2 PI.enc (some ⟨w.heap.size + 1, 0, none⟩) [p] := Rd.of_blk (Blk.new1 w _ _ _) (by omega) PI.len (by unfold maxLen; simp) rfl
  have Hrd := Lib.hid hrd; clear hrd
  have HB := Lib.hid ((Blk.new w 42 #[.int .u32 p.a, .int .i64 p.l]).alloc (.cells #[.int .u32 p.a, .int .i64 p.l] 42))
  obtain ⟨SA, SB, t1, eA, eB, z1, z2⟩ := textP_sum p ha h0 h1
  obtain ⟨T2, hT2⟩ : ∃ T2, strB (textP p) = T2 := ⟨_, rfl⟩
  rw [hT2] at z2 ⊢
  have EA := Lib.hid eA
  have EB := Lib.hid eB
  obtain ⟨V, hV⟩ : ∃ V : Value, (if p.okB = true then .tuple #[.string T2, .int .i64 0] else .tuple #[.string ⟨#[]⟩, .int .i64 2]) = V := ⟨_, rfl⟩
  rw [hV]
  have HV := Lib.hid hV
  clear eA eB hT2 hV
  go_enter Tryz.func56, Tryz.ntmps56
  go_wp2_with fail
  refine wp_scope_fwd 0 rfl ?_
  go_wp2_with fail
  refine (mayBe_any _ 1 [p] _ Hrd.out (by simp) (fun k hk => by simp at hk; subst hk; exact ha)).mono ?_
  rintro e w1 ⟨rfl, hK1⟩
  have hk1 : Kp w w1 := (((Kp.refl _).alloc _).alloc _).trans hK1
  have B1 := HB.out.keep hK1
  have c0 : w1.cell? ⟨w.heap.size, 0, none⟩ = some (.int .u32 p.a) := B1.cell 0
  have c1 : w1.cell? ⟨w.heap.size, 1, none⟩ = some (.int .i64 p.l) := B1.cell 1
  have L1 := L.keep hk1
  have K0 : Kp w1 w1.drew := (Kp.refl w1).drew
  rw [show [p].all PI.okB = p.okB by simp]
  cases hok : p.okB with
  | true =>
    have HW := Lib.hid (show V = .tuple #[.string T2, .int .i64 0] by rw [← HV.out, if_pos hok])
    clear hok B1 hK1
    go_wp2_with fail
    go_region_held3 (fun w' => w'.cell? ⟨w.heap.size, 0, none⟩ = some (.int .u32 p.a) ∧ w'.cell? ⟨w.heap.size, 1, none⟩ = some (.int .i64 p.l))
      (first | exact ⟨Kb.cell c0, Kb.cell c1⟩ | exact ⟨Ka.cell c0, Ka.cell c1⟩ | exact ⟨K0.cell c0, K0.cell c1⟩ | go_keep)
      (first
        | (have tk := Ka; go_at_call 58; refine (addr_text p.a ha _ (L1.keep Ka)).mono ?_; rintro e wb ⟨rfl, hKb⟩; rw [EA.out]; have Kb : Kp w1 wb := Ka.trans hKb; clear tk)
        | (have tk := Ka; go_at_call 48; refine (itoa_any p.l h0 h1 _ (L1.keep Ka)).mono ?_; rintro e wb ⟨rfl, hKb⟩; rw [EB.out]; have Kb : Kp w1 wb := Ka.trans hKb; clear tk)
        | (go_at_call 58; refine (addr_text p.a ha _ (L1.keep K0)).mono ?_; rintro e wa ⟨rfl, hKa⟩; rw [EA.out]; have Ka : Kp w1 wa := K0.trans hKa)
        | (go_at_call 48; refine (itoa_any p.l h0 h1 _ (L1.keep K0)).mono ?_; rintro e wa ⟨rfl, hKa⟩; rw [EB.out]; have Ka : Kp w1 wa := K0.trans hKa))
    all_goals (try go_wp2_with fail)
    all_goals refine jump_ret ?_
    all_goals go_ret2
    all_goals exact ⟨by rw [HW.out]; rfl, hk1.trans Kb⟩
  | false =>
    have HW := Lib.hid (show V = .tuple #[.string ⟨#[]⟩, .int .i64 2] by rw [← HV.out, if_neg (by rw [hok]; simp)])
    clear hok B1 hK1
    go_wp2_with fail
    go_step3
    refine ⟨rfl, ?_⟩
    go_wp2_with fail
    refine noGoto_ret ?_
    go_ret2
    exact ⟨by rw [HW.out]; rfl, hk1⟩
set_option maxRecDepth 100000 in
set_option maxHeartbeats 2000000 in
theorem rptext_any (p : PI) (w : World) (L : LibOk w) (ha : p.a < 4294967296) (h0 : -9223372036854775808 ≤ p.l) (h1 : p.l ≤ 9223372036854775807) :
    Calls Tryz.prog 70 #[.agg #[.int .u32 p.a, .int .i64 p.l]] w fun e w' => e = .returned (.string (strB (textP p))) ∧ Kp w w' := by
  obtain ⟨w1, hw1, hk1, B1⟩ : ∃ w1, w.alloc (.cells #[.int .u32 p.a, .int .i64 p.l] 42) = w1 ∧ Kp w w1 ∧ Blk w1 w.heap.size 42 #[.int .u32 p.a, .int .i64 p.l] := ⟨_, rfl, (Kp.refl _).alloc _, Blk.new w _ _⟩
  obtain ⟨SA, SB, t1, eA, eB, z1, z2⟩ := textP_sum p ha h0 h1
  obtain ⟨T2, hT2⟩ : ∃ T2, strB (textP p) = T2 := ⟨_, rfl⟩
  rw [hT2] at z2 ⊢
  have EA := Lib.hid eA
  have EB := Lib.hid eB
  clear eA eB hT2
  have L1 := L.keep hk1
  have K0 : Kp w1 w1.drew := (Kp.refl w1).drew
  go_enter Tryz.func70, Tryz.ntmps70
  go_wp2_with fail
  try rw [hw1]
  have c0 : w1.cell? ⟨w.heap.size, 0, none⟩ = some (.int .u32 p.a) := B1.cell 0
  have c1 : w1.cell? ⟨w.heap.size, 1, none⟩ = some (.int .i64 p.l) := B1.cell 1
  clear hw1 B1
  go_region_held3 (fun w' => w'.cell? ⟨w.heap.size, 0, none⟩ = some (.int .u32 p.a) ∧ w'.cell? ⟨w.heap.size, 1, none⟩ = some (.int .i64 p.l))
    (first | exact ⟨Kb.cell c0, Kb.cell c1⟩ | exact ⟨Ka.cell c0, Ka.cell c1⟩ | exact ⟨K0.cell c0, K0.cell c1⟩ | go_keep)
    (first
      | (have tk := Ka; go_at_call 50; refine (ref01_text p.a ha _ (L1.keep Ka)).mono ?_; rintro e wb ⟨rfl, hKb⟩; rw [EA.out]; have Kb : Kp w1 wb := Ka.trans hKb; clear tk)
      | (have tk := Ka; go_at_call 48; refine (itoa_any p.l h0 h1 _ (L1.keep Ka)).mono ?_; rintro e wb ⟨rfl, hKb⟩; rw [EB.out]; have Kb : Kp w1 wb := Ka.trans hKb; clear tk)
      | (go_at_call 50; refine (ref01_text p.a ha _ (L1.keep K0)).mono ?_; rintro e wa ⟨rfl, hKa⟩; rw [EA.out]; have Ka : Kp w1 wa := K0.trans hKa)
      | (go_at_call 48; refine (itoa_any p.l h0 h1 _ (L1.keep K0)).mono ?_; rintro e wa ⟨rfl, hKa⟩; rw [EB.out]; have Ka : Kp w1 wa := K0.trans hKa))
  all_goals (try go_wp2_with fail)
  all_goals go_ret
  all_goals exact ⟨rfl, hk1.trans Kb⟩
end Go.Proofs.YtbfimimhgdkpaaaGreatDoor

/- Package script: Parse. No condition but the stated bounds. -/
namespace Go.Proofs.YtbfimimhgdkpaaaGreatDoor
open Go.RowKit Go.Maps

theorem parse_eq {s h : List UInt8} {ws : List (List UInt8)} (hp : parted 32 s = h :: ws) : parseE s = parseK (kindB h) ws := by unfold parseE; rw [hp]; rfl
theorem kindB_lt (h : List UInt8) : kindB h ≤ 8 := by
  by_cases h0 : kindB h = 0
  · omega
  · have := (kindUp_name 9 h h0).2; unfold kindB; omega
theorem parse_many {s : List UInt8} (hn : ¬ (parted 32 s).length ≤ 6) : parseE s = none := by
  unfold parseE parseK
  split
  · rfl
  · rw [if_neg]
    have := parts_len (kindB_lt ((parted 32 s).headD []))
    rw [List.length_tail]
    omega
theorem readAll_drop {ps : List Pt} {ws : List (List UInt8)} {j : Nat} (hj : j < ps.length) (hw : j < ws.length) (t : Ev) : readAll (ps.drop j) (ws.drop j) t = (readE ps[j] ws[j] t).bind (fun t' => readAll (ps.drop (j + 1)) (ws.drop (j + 1)) t') := by
  rw [List.drop_eq_getElem_cons hj, List.drop_eq_getElem_cons hw]
  rfl
theorem once_x {k j : Nat} (hk : k ≤ 8) (hj : j < (partsOf k).length) (h : (partsOf k)[j] = .x) : Pt.x ∉ (partsOf k).drop (j + 1) := by
  have h5 := parts_len hk
  have h1 : k = 0 ∨ k = 1 ∨ k = 2 ∨ k = 3 ∨ k = 4 ∨ k = 5 ∨ k = 6 ∨ k = 7 ∨ k = 8 := by omega
  have h2 : j = 0 ∨ j = 1 ∨ j = 2 ∨ j = 3 ∨ j = 4 := by omega
  rcases h1 with rfl | rfl | rfl | rfl | rfl | rfl | rfl | rfl | rfl <;> rcases h2 with rfl | rfl | rfl | rfl | rfl <;> first | decide | (exfalso; revert h; decide) | (exfalso; revert hj; decide) | (simp [partsOf] at hj h; done)
theorem Own.newB {α : Type} {w : World} {base e sz n c : Nat} {enc : α → List Value} {A : Option Addr} {xs : List α} (h : Own w base e sz enc (.slice A n c) xs) : ∀ a, A = some a → base ≤ a.block := by
  rintro a rfl
  rcases h.2 with ⟨h2, _⟩ | ⟨g, cap, cur, hv, hg, _⟩
  · cases h2
  · injection hv with h1; injection h1 with h1; rw [h1]; exact hg
theorem Blk.ne_tag {w : World} {p g : Nat} {t u : TypeId} {cs ds : Array Value} (h : Blk w p t cs) (k : Blk w g u ds) (n : t ≠ u) : p ≠ g := by
  rintro rfl
  have := h.symm.trans k
  injection this with this
  injection this with _ this
  exact n this
/-- The reader's cells. -/
def readC (t : Ev) (bv wv : Value) : Array Value := #[.int .i64 t.kind, .int .i64 t.a, .int .i64 t.b, .int .i64 t.c, .int .i64 t.draw, .int .u32 (t.src : Int), bv, wv]
structure ParR (s : List UInt8) (w : World) (g b o c x y z q k : Nat) (hd : List UInt8) (ws : List (List UInt8)) (j : Nat) (t : Ev) (wr : World) : Prop where
  kp : Kp w wr
  p0 : Blk wr w.heap.size 27 (evC (ev0 0) (.slice none 0 0))
  p1 : Blk wr (w.heap.size + 1) 29 #[.int .i64 0]
  box : Boxes wr x y z
  row : Blk wr q 89 (rowC x y z k).toArray
  wd : Rd wr 1 strE (some ⟨b, o, none⟩) (hd :: ws)
  ne : (g ≠ w.heap.size ∧ g ≠ w.heap.size + 1) ∧ (x ≠ g ∧ y ≠ g ∧ z ≠ g) ∧ q ≠ g ∧ b ≠ g
  ge : w.heap.size ≤ g
  rd : ∃ A c', Blk wr g 98 (readC t (.slice A t.bytes.length c') (.slice (some ⟨b, o, none⟩) (ws.length + 1) c)) ∧ Rd wr 1 byteE A t.bytes ∧ (∀ b o, A = some ⟨b, o, none⟩ → b ≠ g ∧ w.heap.size + 1 < b) ∧ (Pt.x ∈ (partsOf k).drop j → A = none ∧ c' = 0 ∧ t.bytes = [])
  more : parseE s = readAll ((partsOf k).drop j) (ws.drop j) t
theorem ParR.next {s : List UInt8} {w : World} {g b o c x y z q k : Nat} {hd : List UInt8} {ws : List (List UInt8)} {j : Nat} {t t' : Ev} {wr wm w2 : World} (R : ParR s w g b o c x y z q k hd ws j t wr) (K : Kp wr wm) (hO : Only [g] wm w2)
    {A : Option Addr} {c' : Nat} (hB : Blk w2 g 98 (readC t' (.slice A t'.bytes.length c') (.slice (some ⟨b, o, none⟩) (ws.length + 1) c))) (hR : Rd w2 1 byteE A t'.bytes) (hn : ∀ b o, A = some ⟨b, o, none⟩ → b ≠ g ∧ w.heap.size + 1 < b) (hx : Pt.x ∈ (partsOf k).drop (j + 1) → A = none ∧ c' = 0 ∧ t'.bytes = []) (hm : parseE s = readAll ((partsOf k).drop (j + 1)) (ws.drop (j + 1)) t') :
    ParR s w g b o c x y z q k hd ws (j + 1) t' w2 := by
  obtain ⟨⟨n0, n1⟩, ⟨nx, ny, nz⟩, nq, nb⟩ := R.ne
  exact ⟨hO.kp (R.kp.trans K) (by simpa using R.ge), (R.p0.keep K).only hO (by simpa using fun e => n0 e.symm), (R.p1.keep K).only hO (by simpa using fun e => n1 e.symm),
    ⟨(R.box.x.keep K).only hO (by simpa using nx), (R.box.y.keep K).only hO (by simpa using ny), (R.box.z.keep K).only hO (by simpa using nz)⟩, (R.row.keep K).only hO (by simpa using nq),
    (R.wd.keep K).only hO (fun b' o' e => by injection e with e; injection e with e; subst e; exact nb), R.ne, R.ge, ⟨A, c', hB, hR, hn, hx⟩, hm⟩
def ParseF (s : ByteArray) (w : World) (e : Ending) (w' : World) : Prop :=
  Kp w w' ∧ (∀ t, parseE s.data.toList = some t → ∃ A c, e = .returned (.tuple #[evV t (.slice A t.bytes.length c), .int .i64 0]) ∧ Rd w' 1 byteE A t.bytes ∧ (∀ b o, A = some ⟨b, o, none⟩ → w.heap.size < b)) ∧ (parseE s.data.toList = none → e = .returned (.tuple #[evV (ev0 0) (.slice none 0 0), .int .i64 260]))

set_option maxRecDepth 100000 in
set_option maxHeartbeats 8000000 in
theorem parse_fresh (s : ByteArray) (hs : s.size ≤ 1000000) (w : World) (L : LibOk w) : Calls Tryz.prog 14 #[.string s] w (ParseF s w) := by
  have hmf := makeFunc_run
  have hlen : s.data.toList.length = s.size := by rw [Array.length_toList]; rfl
  have b0 := (Blk.new w 27 (evC (ev0 0) (.slice none 0 0))).alloc (.cells #[.int .i64 0] 29)
  have b1 := Blk.new1 w (.cells (evC (ev0 0) (.slice none 0 0)) 27) 29 #[.int .i64 0]
  have k1 : Kp w ((w.alloc (.cells (evC (ev0 0) (.slice none 0 0)) 27)).alloc (.cells #[.int .i64 0] 29)) := ((Kp.refl w).alloc _).alloc _
  go_enter_defers Tryz.func14, Tryz.ntmps14
  go_wp2_with fail
  obtain ⟨W, hW, kW, B0, B1⟩ : ∃ W, (w.alloc (.cells (evC (ev0 0) (.slice none 0 0)) 27)).alloc (.cells #[.int .i64 0] 29) = W ∧ Kp w W ∧ Blk W w.heap.size 27 (evC (ev0 0) (.slice none 0 0)) ∧ Blk W (w.heap.size + 1) 29 #[.int .i64 0] := ⟨_, rfl, k1, b0, b1⟩
  simp only [evC, ev0] at hW
  rw [show ((0 : Nat) : Int) = 0 from rfl] at hW
  rw [hW]
  clear hW b0 b1 k1
  refine (words_any s hs W).mono ?_
  rintro e w1 ⟨hY, hN, hK1⟩
  have B0 := B0.keep hK1
  have B1 := B1.keep hK1
  have kw1 := kW.trans hK1
  have hWs := hK1.size
  by_cases h6 : (parted 32 s.data.toList).length ≤ 6
  case neg =>
    obtain rfl := hN h6
    have Hn := Lib.hid (parse_many h6)
    clear hY hN h6
    refine leaves_cons (f := 42) (args := #[.pointer (some ⟨w.heap.size, 0, none⟩), .pointer (some ⟨w.heap.size + 1, 0, none⟩)]) (by simp) (by simp [go_sem]) ?_
    refine (catch_parse _ _ _ _ _ 260 w1 (B0) (B1) (by omega)).mono ?_
    rintro e u' wz ⟨rfl, rfl, C0, C1, hOz⟩
    have q0 : wz.cell? ⟨w.heap.size, 0, none⟩ = some (.int .i64 0) := C0.cell 0
    have q1 : wz.cell? ⟨w.heap.size, 1, none⟩ = some (.int .i64 0) := C0.cell 1
    have q2 : wz.cell? ⟨w.heap.size, 2, none⟩ = some (.int .i64 0) := C0.cell 2
    have q3 : wz.cell? ⟨w.heap.size, 3, none⟩ = some (.int .i64 0) := C0.cell 3
    have q4 : wz.cell? ⟨w.heap.size, 4, none⟩ = some (.int .i64 0) := C0.cell 4
    have q5 : wz.cell? ⟨w.heap.size, 5, none⟩ = some (.int .u32 0) := C0.cell 5
    have q6 : wz.cell? ⟨w.heap.size, 6, none⟩ = some (.slice none 0 0) := C0.cell 6
    have q7 : wz.cell? ⟨w.heap.size + 1, 0, none⟩ = some (.int .i64 260) := C1.cell 0
    show Leaves _ _ _ _ [] .returning _
    exact ⟨.tuple #[evV (ev0 0) (.slice none 0 0), .int .i64 260], by simp [results, Tryz.results14, go_sem, q0, q1, q2, q3, q4, q5, q6, q7, ev0], hOz.kp (kw1) (by simp), fun a ha => (by rw [Hn.out] at ha; cases ha), fun _ => rfl⟩
  case pos =>
    obtain ⟨v, rfl, hown⟩ := hY h6
    clear hY hN
    obtain ⟨hd, ws, hp⟩ : ∃ hd ws, parted 32 s.data.toList = hd :: ws := by
      cases hp : parted 32 s.data.toList with
      | nil => exact absurd hp (parted_ne _ _)
      | cons a b => exact ⟨a, b, rfl⟩
    have hle : ∀ u ∈ hd :: ws, u.length ≤ 1000000 := by
      intro u hu
      rw [← hp] at hu
      have := parted_le 32 _ u hu
      omega
    have Hpe := Lib.hid (parse_eq hp)
    rw [hp] at hown h6
    clear hp
    have hws : ws.length ≤ 5 := by simpa using h6
    obtain ⟨A, c, hv⟩ := hown.form
    subst hv
    have hRw := hown.rdAt (by decide) strE_len
    obtain ⟨b, o, rfl, hcw⟩ := str_at hRw (k := 0) (by simp)
    have hb1 := hown.newB _ rfl
    simp only at hb1
    rw [Nat.add_zero, List.getElem_cons_zero] at hcw
    have hbl := World.block_lt_of_cell? w1 _ hcw
    simp only at hbl
    have hl1 : (hd :: ws).length = ws.length + 1 := rfl
    rw [hl1]
    have HRw := Lib.hid hRw
    clear hRw hown h6
    have hne : ¬ b = w1.heap.size := by omega
    have BG := Blk.new w1 98 #[.int .i64 0, .int .i64 0, .int .i64 0, .int .i64 0, .int .i64 0, .int .u32 0, .slice none 0 0, .slice (some ⟨b, o, none⟩) (ws.length + 1) c]
    have KG : Kp w1 (w1.alloc (.cells #[.int .i64 0, .int .i64 0, .int .i64 0, .int .i64 0, .int .i64 0, .int .u32 0, .slice none 0 0, .slice (some ⟨b, o, none⟩) (ws.length + 1) c] 98)) := (Kp.refl w1).alloc _
    go_wp2_with fail
    refine (kind_any w1.heap.size _ _ _ _ _ _ b o c hd ws hne _ BG (KG.cell hcw)).mono ?_
    rintro e w2 ⟨hY, hN, hO2⟩
    have hlt0 := B0.lt
    have hlt1 := B1.lt
    have B0 := (B0.keep KG).only hO2 (by simp; omega)
    have B1 := (B1.keep KG).only hO2 (by simp; omega)
    have kw2 : Kp w w2 := hO2.kp (kw1.trans KG) (by simpa using kw1.size)
    have HRw2 := Lib.hid ((HRw.out.keep KG).only hO2 (fun b' o' e => by injection e with e; injection e with e; omega))
    clear HRw
    by_cases hk0 : kindB hd = 0
    case pos =>
      obtain rfl := hN hk0
      have Hn := Lib.hid (show parseE s.data.toList = none by rw [Hpe.out, hk0]; rfl)
      clear hY hN hk0 KG BG hcw
      refine leaves_cons (f := 42) (args := #[.pointer (some ⟨w.heap.size, 0, none⟩), .pointer (some ⟨w.heap.size + 1, 0, none⟩)]) (by simp) (by simp [go_sem]) ?_
      refine (catch_parse _ _ _ _ _ 260 w2 (B0) (B1) (by omega)).mono ?_
      rintro e u' wz ⟨rfl, rfl, C0, C1, hOz⟩
      have q0 : wz.cell? ⟨w.heap.size, 0, none⟩ = some (.int .i64 0) := C0.cell 0
      have q1 : wz.cell? ⟨w.heap.size, 1, none⟩ = some (.int .i64 0) := C0.cell 1
      have q2 : wz.cell? ⟨w.heap.size, 2, none⟩ = some (.int .i64 0) := C0.cell 2
      have q3 : wz.cell? ⟨w.heap.size, 3, none⟩ = some (.int .i64 0) := C0.cell 3
      have q4 : wz.cell? ⟨w.heap.size, 4, none⟩ = some (.int .i64 0) := C0.cell 4
      have q5 : wz.cell? ⟨w.heap.size, 5, none⟩ = some (.int .u32 0) := C0.cell 5
      have q6 : wz.cell? ⟨w.heap.size, 6, none⟩ = some (.slice none 0 0) := C0.cell 6
      have q7 : wz.cell? ⟨w.heap.size + 1, 0, none⟩ = some (.int .i64 260) := C1.cell 0
      show Leaves _ _ _ _ [] .returning _
      exact ⟨.tuple #[evV (ev0 0) (.slice none 0 0), .int .i64 260], by simp [results, Tryz.results14, go_sem, q0, q1, q2, q3, q4, q5, q6, q7, ev0], hOz.kp (kw2) (by simp), fun a ha => (by rw [Hn.out] at ha; cases ha), fun _ => rfl⟩
    case neg =>
      obtain ⟨rfl, BG2⟩ := hY hk0
      have h8 := kindB_lt hd
      obtain ⟨k, hk⟩ : ∃ k, kindB hd = k := ⟨_, rfl⟩
      rw [hk] at BG2 Hpe hk0 h8
      have h1 : 1 ≤ k := by omega
      have hkk : kWf (k : Int) := kWf_of (by omega) (by omega)
      clear hY hN hk KG BG hcw
      obtain ⟨g, hg⟩ : ∃ g, w1.heap.size = g := ⟨_, rfl⟩
      rw [hg] at BG2 hO2 hne hbl hlt0 hlt1
      have hgw : w.heap.size ≤ g := by have := kw1.size; omega
      have hWg : W.heap.size ≤ g := by omega
      rw [hg]
      clear hg
      have g0 : w2.cell? ⟨g, 0, none⟩ = some (.int .i64 (k : Nat)) := BG2.cell 0
      go_wp2_with fail
      go_region_held3 (fun w' => w'.cell? ⟨g, 0, none⟩ = some (.int .i64 (k : Nat))) (first | exact Kd.cell g0 | go_keep) (first | (go_at_call 39; refine (lines_any _).mono ?_; rintro en wa ⟨x, y, z, m, f, rfl, HL, hx, hy, hz, Ka⟩; have Kd : Kp w2 wa := (Kp.refl w2).drew.trans Ka; obtain ⟨u, hu, q, rfl, hBq⟩ := HL.row k h1 h8; have hlk : (Instr.lookup 84 (.map (some m)) (.int .i64 (k : Nat)) false).run Tryz.prog wa = .ok (.slice (some ⟨q, 0, none⟩) (partsOf k).length (partsOf k).length) wa := (by have := HL.map.look1 hkk; rw [hu] at this; exact this)))
      have hn5 := parts_len h8
      have B0 := B0.keep Kd
      have B1 := B1.keep Kd
      have kwa := kw2.trans Kd
      have BG3 := BG2.keep Kd
      have g7 : wa.cell? ⟨g, 7, none⟩ = some (.slice (some ⟨b, o, none⟩) (ws.length + 1) c) := BG3.cell 7
      have HRw3 := Lib.hid (HRw2.out.keep Kd)
      have hqg : q ≠ g := hBq.ne_tag BG3 (by decide)
      have hxg : x ≠ g ∧ y ≠ g ∧ z ≠ g := ⟨HL.box.x.ne_tag BG3 (by decide), HL.box.y.ne_tag BG3 (by decide), HL.box.z.ne_tag BG3 (by decide)⟩
      clear hlk hu g0 HRw2 BG2
      go_wp2_with fail
      by_cases hwl : ws.length = (partsOf k).length
      case neg =>
        have hbe : (((ws.length : Int) + 1) == 1 + ((partsOf k).length : Int)) = false := by rw [beq_eq_false_iff_ne]; omega
        have Hn := Lib.hid (show parseE s.data.toList = none by rw [Hpe.out, parseK, if_neg hk0, if_neg hwl])
        try rw [hbe]
        clear hwl
        refine (need_nay _ _).mono ?_
        rintro e w3 ⟨rfl, rfl⟩
        refine leaves_cons (f := 42) (args := #[.pointer (some ⟨w.heap.size, 0, none⟩), .pointer (some ⟨w.heap.size + 1, 0, none⟩)]) (by simp) (by simp [go_sem]) ?_
        refine (catch_parse _ _ _ _ _ 260 wa (B0) (B1) (by omega)).mono ?_
        rintro e u' wz ⟨rfl, rfl, C0, C1, hOz⟩
        have q0 : wz.cell? ⟨w.heap.size, 0, none⟩ = some (.int .i64 0) := C0.cell 0
        have q1 : wz.cell? ⟨w.heap.size, 1, none⟩ = some (.int .i64 0) := C0.cell 1
        have q2 : wz.cell? ⟨w.heap.size, 2, none⟩ = some (.int .i64 0) := C0.cell 2
        have q3 : wz.cell? ⟨w.heap.size, 3, none⟩ = some (.int .i64 0) := C0.cell 3
        have q4 : wz.cell? ⟨w.heap.size, 4, none⟩ = some (.int .i64 0) := C0.cell 4
        have q5 : wz.cell? ⟨w.heap.size, 5, none⟩ = some (.int .u32 0) := C0.cell 5
        have q6 : wz.cell? ⟨w.heap.size, 6, none⟩ = some (.slice none 0 0) := C0.cell 6
        have q7 : wz.cell? ⟨w.heap.size + 1, 0, none⟩ = some (.int .i64 260) := C1.cell 0
        show Leaves _ _ _ _ [] .returning _
        exact ⟨.tuple #[evV (ev0 0) (.slice none 0 0), .int .i64 260], by simp [results, Tryz.results14, go_sem, q0, q1, q2, q3, q4, q5, q6, q7, ev0], hOz.kp (kwa) (by simp), fun a ha => (by rw [Hn.out] at ha; cases ha), fun _ => rfl⟩
      case pos =>
        have hbe : (((ws.length : Int) + 1) == 1 + ((partsOf k).length : Int)) = true := by rw [beq_iff_eq]; omega
        have Hpr : Hid (parseE s.data.toList = readAll (partsOf k) ws (ev0 k)) := Lib.hid (by rw [Hpe.out, parseK, if_neg hk0, if_pos hwl])
        try rw [hbe]
        refine (need_yes _ _).mono ?_
        rintro e w3 ⟨rfl, rfl⟩
        have R0 : Hid (ParR s.data.toList w g b o c x y z q k hd ws 0 (ev0 k) wa) := Lib.hid ⟨kwa, B0, B1, HL.box, hBq, HRw3.out, ⟨⟨by omega, by omega⟩, hxg, hqg, hne⟩, hgw, ⟨none, 0, BG3, Rd.nil _ _ _ _, fun b o h => (by cases h), fun _ => ⟨rfl, rfl, rfl⟩⟩, by rw [Hpr.out]; rfl⟩
        clear HL hBq HRw3 BG3 g7 B0 B1 kwa hO2 kw2 Hpr Hpe
        go_wp2_with fail
        go_loopw [34] (fun i wr => ∃ (j : Nat) (t : Ev), j ≤ (partsOf k).length ∧ i = .int .i64 j ∧ Hid (ParR s.data.toList w g b o c x y z q k hd ws j t wr)) (fun i _ => (partsOf k).length - (intOf i).toNat)
        case atStart => exact ⟨0, _, by omega, rfl, R0⟩
        case round =>
          obtain ⟨j, t, hj, rfl, R⟩ := hrel
          obtain ⟨⟨n0, n1⟩, ⟨nx, ny, nz⟩, nq, nb⟩ := R.out.ne
          have hsz := R.out.kp.size
          obtain ⟨A, c', hBG, hRA, hnA, hxA⟩ := R.out.rd
          have hgr := hBG.lt
          by_cases hlt : j < (partsOf k).length
          · have hjw : j < ws.length := by omega
            obtain ⟨p, hp'⟩ : ∃ p, (partsOf k)[j] = p := ⟨_, rfl⟩
            have Hnx := Lib.hid (show parseE s.data.toList = (readE p ws[j] t).bind (fun t' => readAll ((partsOf k).drop (j + 1)) (ws.drop (j + 1)) t') by rw [R.out.more, readAll_drop hlt hjw, hp'])
            have Hxd := Lib.hid (show Pt.x ∈ (partsOf k).drop (j + 1) → Pt.x ∈ (partsOf k).drop j from fun h => by rw [List.drop_eq_getElem_cons hlt]; exact List.mem_cons_of_mem _ h)
            have Hxx := Lib.hid (show p = .x → Pt.x ∈ (partsOf k).drop j ∧ Pt.x ∉ (partsOf k).drop (j + 1) from fun e => ⟨by rw [List.drop_eq_getElem_cons hlt, hp', e]; exact List.mem_cons_self, once_x h8 hlt (by rw [hp', e])⟩)
            have hcell := part_at (row_rd R.out.row h8) hlt hp'
            obtain ⟨W1, hW1⟩ : ∃ W1, ws[j] = W1 := ⟨_, rfl⟩
            rw [hW1] at Hnx
            have hwd := (R.out.wd) (j + 1) (by simpa using hjw)
            have hWl : W1.length ≤ 1000000 := hle W1 (by rw [← hW1]; simp)
            have hWs : (strB W1).size ≤ 1000000 := by show W1.toArray.size ≤ 1000000; simpa using hWl
            have hwc : wr.cell? ⟨b, o + (j + 1), none⟩ = some (.string (strB W1)) := by
              obtain ⟨b', o', e', hc'⟩ := hwd
              injection e' with e'
              injection e' with e1 e2
              subst e1; subst e2
              have := hc' 0 _ rfl
              rw [List.getElem_cons_succ, hW1] at this
              simpa using this
            clear hp' hwd hW1
            have q7 : wr.cell? ⟨g, 7, none⟩ = some (.slice (some ⟨b, o, none⟩) (ws.length + 1) c) := hBG.cell 7
            cases p with
            | a =>
              have d0 : wr.cell? ⟨q, j * 3, none⟩ = some (.func (.func 124) #[] #[.pointer (some ⟨x, 0, none⟩)]) := hcell 0 _ rfl
              have d1 : wr.cell? ⟨q, j * 3 + 1, none⟩ = some (.func (.func 125) #[] #[.pointer (some ⟨x, 0, none⟩)]) := hcell 1 _ rfl
              have d2 : wr.cell? ⟨q, j * 3 + 2, none⟩ = some (.func (.func 127) #[] #[.pointer (some ⟨x, 0, none⟩)]) := hcell 2 _ rfl
              clear hcell
              go_wp2_with fail
              obtain ⟨Wm, hWm, KWm, hBP⟩ : ∃ Wm, wr.alloc (.cells #[.func (.func 124) #[] #[.pointer (some ⟨x, 0, none⟩)], .func (.func 125) #[] #[.pointer (some ⟨x, 0, none⟩)], .func (.func 127) #[] #[.pointer (some ⟨x, 0, none⟩)]] 89) = Wm ∧ Kp wr Wm ∧ Blk Wm wr.heap.size 89 #[.func (.func 124) #[] #[.pointer (some ⟨x, 0, none⟩)], .func (.func 125) #[] #[.pointer (some ⟨x, 0, none⟩)], .func (.func 127) #[] #[.pointer (some ⟨x, 0, none⟩)]] := ⟨_, rfl, (Kp.refl wr).alloc _, Blk.new wr _ _⟩
              rw [hWm]
              clear hWm
              have KWd : Kp wr Wm.drew := KWm.drew
              have m2 : Wm.cell? ⟨wr.heap.size, 2, none⟩ = some (.func (.func 127) #[] #[.pointer (some ⟨x, 0, none⟩)]) := hBP.cell 2
              have m7 : Wm.cell? ⟨g, 7, none⟩ = some (.slice (some ⟨b, o, none⟩) (ws.length + 1) c) := KWm.cell q7
              have mw := KWm.cell hwc
              have hjw1 : IntKind.i64.wrap (1 + (j : Int)) = 1 + (j : Int) := IntWalk.i64_in _ (by omega)
              have hjt : (1 + (j : Int)).toNat = j + 1 := by omega
              have hj1 : (1 : Int) + (j : Int) < ((partsOf k).length : Int) + 1 := by omega
              have hj0 : (0 : Int) ≤ 1 + (j : Int) := by omega
              go_still_tail 13, (by kernel_rfl)
              change wpList _ _ _ _ _ Wm.drew
              go_wp2_with fail
              have L2 : LibOk Wm.drew := L.keep (R.out.kp.trans KWd)
              have hB2 := R.out.box.keep KWd
              have BG2 : Blk Wm.drew g 98 _ := hBG.keep KWd
              have H0 : Blk Wm.drew w.heap.size 27 _ := R.out.p0.keep KWd
              have H1 : Blk Wm.drew (w.heap.size + 1) 29 _ := R.out.p1.keep KWd
              have HK : Kp w Wm.drew := R.out.kp.trans KWd
              have hsl := strB_list W1
              have Hlist := Lib.hid hsl
              clear hsl
              refine (read_a g x 98 _ (by simp [readC]) (strB W1) (by omega) _ L2 BG2 nx (hB2.x.cell 0)).mono ?_
              rintro e w4 ⟨hY, hN⟩
              rw [Hlist.out] at hY hN
              cases hv : numP W1 with
              | some n =>
                obtain ⟨rfl, hB4, hO4⟩ := hY n hv
                have Hn := Lib.hid (R.out.next KWd hO4 (t' := { t with a := n }) hB4 ((hRA.keep KWd).only hO4 (fun b o e => (hnA b o e).1)) hnA (fun h => hxA (Hxd.out h)) (by rw [Hnx.out]; simp only [readE]; rw [hv]; rfl))
                clear hY hN hB4 hO4 hv
                go_wp2_with fail
                go_roundw
                case rel => exact ⟨j + 1, _, by omega, by go_num, Hn⟩
                case measure => simp [intOf]; omega
              | none =>
                obtain ⟨rfl, hK4⟩ := hN hv
                have Hn := Lib.hid (show parseE s.data.toList = none by rw [Hnx.out]; simp only [readE]; rw [hv]; rfl)
                clear hY hN hv
                refine leaves_cons (f := 42) (args := #[.pointer (some ⟨w.heap.size, 0, none⟩), .pointer (some ⟨w.heap.size + 1, 0, none⟩)]) (by simp) (by simp [go_sem]) ?_
                refine (catch_parse _ _ _ _ _ 260 w4 (H0.keep hK4) (H1.keep hK4) (by omega)).mono ?_
                rintro e u' wz ⟨rfl, rfl, C0, C1, hOz⟩
                have q0 : wz.cell? ⟨w.heap.size, 0, none⟩ = some (.int .i64 0) := C0.cell 0
                have q1 : wz.cell? ⟨w.heap.size, 1, none⟩ = some (.int .i64 0) := C0.cell 1
                have q2 : wz.cell? ⟨w.heap.size, 2, none⟩ = some (.int .i64 0) := C0.cell 2
                have q3 : wz.cell? ⟨w.heap.size, 3, none⟩ = some (.int .i64 0) := C0.cell 3
                have q4 : wz.cell? ⟨w.heap.size, 4, none⟩ = some (.int .i64 0) := C0.cell 4
                have q5 : wz.cell? ⟨w.heap.size, 5, none⟩ = some (.int .u32 0) := C0.cell 5
                have q6 : wz.cell? ⟨w.heap.size, 6, none⟩ = some (.slice none 0 0) := C0.cell 6
                have q7 : wz.cell? ⟨w.heap.size + 1, 0, none⟩ = some (.int .i64 260) := C1.cell 0
                show Leaves _ _ _ _ [] .returning _
                exact ⟨.tuple #[evV (ev0 0) (.slice none 0 0), .int .i64 260], by simp [results, Tryz.results14, go_sem, q0, q1, q2, q3, q4, q5, q6, q7, ev0], hOz.kp (HK.trans hK4) (by simp), fun a ha => (by rw [Hn.out] at ha; cases ha), fun _ => rfl⟩
            | b =>
              have d0 : wr.cell? ⟨q, j * 3, none⟩ = some (.func (.func 124) #[] #[.pointer (some ⟨y, 0, none⟩)]) := hcell 0 _ rfl
              have d1 : wr.cell? ⟨q, j * 3 + 1, none⟩ = some (.func (.func 125) #[] #[.pointer (some ⟨y, 0, none⟩)]) := hcell 1 _ rfl
              have d2 : wr.cell? ⟨q, j * 3 + 2, none⟩ = some (.func (.func 127) #[] #[.pointer (some ⟨y, 0, none⟩)]) := hcell 2 _ rfl
              clear hcell
              go_wp2_with fail
              obtain ⟨Wm, hWm, KWm, hBP⟩ : ∃ Wm, wr.alloc (.cells #[.func (.func 124) #[] #[.pointer (some ⟨y, 0, none⟩)], .func (.func 125) #[] #[.pointer (some ⟨y, 0, none⟩)], .func (.func 127) #[] #[.pointer (some ⟨y, 0, none⟩)]] 89) = Wm ∧ Kp wr Wm ∧ Blk Wm wr.heap.size 89 #[.func (.func 124) #[] #[.pointer (some ⟨y, 0, none⟩)], .func (.func 125) #[] #[.pointer (some ⟨y, 0, none⟩)], .func (.func 127) #[] #[.pointer (some ⟨y, 0, none⟩)]] := ⟨_, rfl, (Kp.refl wr).alloc _, Blk.new wr _ _⟩
              rw [hWm]
              clear hWm
              have KWd : Kp wr Wm.drew := KWm.drew
              have m2 : Wm.cell? ⟨wr.heap.size, 2, none⟩ = some (.func (.func 127) #[] #[.pointer (some ⟨y, 0, none⟩)]) := hBP.cell 2
              have m7 : Wm.cell? ⟨g, 7, none⟩ = some (.slice (some ⟨b, o, none⟩) (ws.length + 1) c) := KWm.cell q7
              have mw := KWm.cell hwc
              have hjw1 : IntKind.i64.wrap (1 + (j : Int)) = 1 + (j : Int) := IntWalk.i64_in _ (by omega)
              have hjt : (1 + (j : Int)).toNat = j + 1 := by omega
              have hj1 : (1 : Int) + (j : Int) < ((partsOf k).length : Int) + 1 := by omega
              have hj0 : (0 : Int) ≤ 1 + (j : Int) := by omega
              go_still_tail 13, (by kernel_rfl)
              change wpList _ _ _ _ _ Wm.drew
              go_wp2_with fail
              have L2 : LibOk Wm.drew := L.keep (R.out.kp.trans KWd)
              have hB2 := R.out.box.keep KWd
              have BG2 : Blk Wm.drew g 98 _ := hBG.keep KWd
              have H0 : Blk Wm.drew w.heap.size 27 _ := R.out.p0.keep KWd
              have H1 : Blk Wm.drew (w.heap.size + 1) 29 _ := R.out.p1.keep KWd
              have HK : Kp w Wm.drew := R.out.kp.trans KWd
              have hsl := strB_list W1
              have Hlist := Lib.hid hsl
              clear hsl
              refine (read_b g y 98 _ (by simp [readC]) (strB W1) (by omega) _ L2 BG2 ny (hB2.y.cell 0)).mono ?_
              rintro e w4 ⟨hY, hN⟩
              rw [Hlist.out] at hY hN
              cases hv : numP W1 with
              | some n =>
                obtain ⟨rfl, hB4, hO4⟩ := hY n hv
                have Hn := Lib.hid (R.out.next KWd hO4 (t' := { t with b := n }) hB4 ((hRA.keep KWd).only hO4 (fun b o e => (hnA b o e).1)) hnA (fun h => hxA (Hxd.out h)) (by rw [Hnx.out]; simp only [readE]; rw [hv]; rfl))
                clear hY hN hB4 hO4 hv
                go_wp2_with fail
                go_roundw
                case rel => exact ⟨j + 1, _, by omega, by go_num, Hn⟩
                case measure => simp [intOf]; omega
              | none =>
                obtain ⟨rfl, hK4⟩ := hN hv
                have Hn := Lib.hid (show parseE s.data.toList = none by rw [Hnx.out]; simp only [readE]; rw [hv]; rfl)
                clear hY hN hv
                refine leaves_cons (f := 42) (args := #[.pointer (some ⟨w.heap.size, 0, none⟩), .pointer (some ⟨w.heap.size + 1, 0, none⟩)]) (by simp) (by simp [go_sem]) ?_
                refine (catch_parse _ _ _ _ _ 260 w4 (H0.keep hK4) (H1.keep hK4) (by omega)).mono ?_
                rintro e u' wz ⟨rfl, rfl, C0, C1, hOz⟩
                have q0 : wz.cell? ⟨w.heap.size, 0, none⟩ = some (.int .i64 0) := C0.cell 0
                have q1 : wz.cell? ⟨w.heap.size, 1, none⟩ = some (.int .i64 0) := C0.cell 1
                have q2 : wz.cell? ⟨w.heap.size, 2, none⟩ = some (.int .i64 0) := C0.cell 2
                have q3 : wz.cell? ⟨w.heap.size, 3, none⟩ = some (.int .i64 0) := C0.cell 3
                have q4 : wz.cell? ⟨w.heap.size, 4, none⟩ = some (.int .i64 0) := C0.cell 4
                have q5 : wz.cell? ⟨w.heap.size, 5, none⟩ = some (.int .u32 0) := C0.cell 5
                have q6 : wz.cell? ⟨w.heap.size, 6, none⟩ = some (.slice none 0 0) := C0.cell 6
                have q7 : wz.cell? ⟨w.heap.size + 1, 0, none⟩ = some (.int .i64 260) := C1.cell 0
                show Leaves _ _ _ _ [] .returning _
                exact ⟨.tuple #[evV (ev0 0) (.slice none 0 0), .int .i64 260], by simp [results, Tryz.results14, go_sem, q0, q1, q2, q3, q4, q5, q6, q7, ev0], hOz.kp (HK.trans hK4) (by simp), fun a ha => (by rw [Hn.out] at ha; cases ha), fun _ => rfl⟩
            | c =>
              have d0 : wr.cell? ⟨q, j * 3, none⟩ = some (.func (.func 133) #[] #[]) := hcell 0 _ rfl
              have d1 : wr.cell? ⟨q, j * 3 + 1, none⟩ = some (.func (.func 134) #[] #[]) := hcell 1 _ rfl
              have d2 : wr.cell? ⟨q, j * 3 + 2, none⟩ = some (.func (.func 135) #[] #[]) := hcell 2 _ rfl
              clear hcell
              go_wp2_with fail
              obtain ⟨Wm, hWm, KWm, hBP⟩ : ∃ Wm, wr.alloc (.cells #[.func (.func 133) #[] #[], .func (.func 134) #[] #[], .func (.func 135) #[] #[]] 89) = Wm ∧ Kp wr Wm ∧ Blk Wm wr.heap.size 89 #[.func (.func 133) #[] #[], .func (.func 134) #[] #[], .func (.func 135) #[] #[]] := ⟨_, rfl, (Kp.refl wr).alloc _, Blk.new wr _ _⟩
              rw [hWm]
              clear hWm
              have KWd : Kp wr Wm.drew := KWm.drew
              have m2 : Wm.cell? ⟨wr.heap.size, 2, none⟩ = some (.func (.func 135) #[] #[]) := hBP.cell 2
              have m7 : Wm.cell? ⟨g, 7, none⟩ = some (.slice (some ⟨b, o, none⟩) (ws.length + 1) c) := KWm.cell q7
              have mw := KWm.cell hwc
              have hjw1 : IntKind.i64.wrap (1 + (j : Int)) = 1 + (j : Int) := IntWalk.i64_in _ (by omega)
              have hjt : (1 + (j : Int)).toNat = j + 1 := by omega
              have hj1 : (1 : Int) + (j : Int) < ((partsOf k).length : Int) + 1 := by omega
              have hj0 : (0 : Int) ≤ 1 + (j : Int) := by omega
              go_still_tail 13, (by kernel_rfl)
              change wpList _ _ _ _ _ Wm.drew
              go_wp2_with fail
              have L2 : LibOk Wm.drew := L.keep (R.out.kp.trans KWd)
              have hB2 := R.out.box.keep KWd
              have BG2 : Blk Wm.drew g 98 _ := hBG.keep KWd
              have H0 : Blk Wm.drew w.heap.size 27 _ := R.out.p0.keep KWd
              have H1 : Blk Wm.drew (w.heap.size + 1) 29 _ := R.out.p1.keep KWd
              have HK : Kp w Wm.drew := R.out.kp.trans KWd
              have hsl := strB_list W1
              have Hlist := Lib.hid hsl
              clear hsl
              refine (read_turn g 98 _ (by simp [readC]) (strB W1) _ BG2).mono ?_
              rintro e w4 ⟨hU, hD, hN⟩
              rw [Hlist.out] at hU hD hN
              by_cases hu : W1 = upS
              · obtain ⟨rfl, hB4, hO4⟩ := hU hu
                have Hn := Lib.hid (R.out.next KWd hO4 (t' := { t with c := 1 }) hB4 ((hRA.keep KWd).only hO4 (fun b o e => (hnA b o e).1)) hnA (fun h => hxA (Hxd.out h)) (by rw [Hnx.out]; simp only [readE]; rw [if_pos hu]; rfl))
                clear hU hD hN hB4 hO4 hu
                go_wp2_with fail
                go_roundw
                case rel => exact ⟨j + 1, _, by omega, by go_num, Hn⟩
                case measure => simp [intOf]; omega
              · by_cases hw : W1 = downS
                · obtain ⟨rfl, hK4⟩ := hD hu hw
                  have Hn := Lib.hid (R.out.next KWd (Only.of_kp hK4) (t' := t) (BG2.keep hK4) ((hRA.keep KWd).keep hK4) hnA (fun h => hxA (Hxd.out h)) (by rw [Hnx.out]; simp only [readE]; rw [if_neg hu, if_pos hw]; rfl))
                  clear hU hD hN hu hw
                  go_wp2_with fail
                  go_roundw
                  case rel => exact ⟨j + 1, _, by omega, by go_num, Hn⟩
                  case measure => simp [intOf]; omega
                · obtain ⟨rfl, hK4⟩ := hN hu hw
                  have Hn := Lib.hid (show parseE s.data.toList = none by rw [Hnx.out]; simp only [readE]; rw [if_neg hu, if_neg hw]; rfl)
                  clear hU hD hN hu hw
                  refine leaves_cons (f := 42) (args := #[.pointer (some ⟨w.heap.size, 0, none⟩), .pointer (some ⟨w.heap.size + 1, 0, none⟩)]) (by simp) (by simp [go_sem]) ?_
                  refine (catch_parse _ _ _ _ _ 260 w4 (H0.keep hK4) (H1.keep hK4) (by omega)).mono ?_
                  rintro e u' wz ⟨rfl, rfl, C0, C1, hOz⟩
                  have q0 : wz.cell? ⟨w.heap.size, 0, none⟩ = some (.int .i64 0) := C0.cell 0
                  have q1 : wz.cell? ⟨w.heap.size, 1, none⟩ = some (.int .i64 0) := C0.cell 1
                  have q2 : wz.cell? ⟨w.heap.size, 2, none⟩ = some (.int .i64 0) := C0.cell 2
                  have q3 : wz.cell? ⟨w.heap.size, 3, none⟩ = some (.int .i64 0) := C0.cell 3
                  have q4 : wz.cell? ⟨w.heap.size, 4, none⟩ = some (.int .i64 0) := C0.cell 4
                  have q5 : wz.cell? ⟨w.heap.size, 5, none⟩ = some (.int .u32 0) := C0.cell 5
                  have q6 : wz.cell? ⟨w.heap.size, 6, none⟩ = some (.slice none 0 0) := C0.cell 6
                  have q7 : wz.cell? ⟨w.heap.size + 1, 0, none⟩ = some (.int .i64 260) := C1.cell 0
                  show Leaves _ _ _ _ [] .returning _
                  exact ⟨.tuple #[evV (ev0 0) (.slice none 0 0), .int .i64 260], by simp [results, Tryz.results14, go_sem, q0, q1, q2, q3, q4, q5, q6, q7, ev0], hOz.kp (HK.trans hK4) (by simp), fun a ha => (by rw [Hn.out] at ha; cases ha), fun _ => rfl⟩
            | d =>
              have d0 : wr.cell? ⟨q, j * 3, none⟩ = some (.func (.func 130) #[] #[.pointer (some ⟨z, 0, none⟩)]) := hcell 0 _ rfl
              have d1 : wr.cell? ⟨q, j * 3 + 1, none⟩ = some (.func (.func 131) #[] #[.pointer (some ⟨z, 0, none⟩)]) := hcell 1 _ rfl
              have d2 : wr.cell? ⟨q, j * 3 + 2, none⟩ = some (.func (.func 132) #[] #[.pointer (some ⟨z, 0, none⟩)]) := hcell 2 _ rfl
              clear hcell
              go_wp2_with fail
              obtain ⟨Wm, hWm, KWm, hBP⟩ : ∃ Wm, wr.alloc (.cells #[.func (.func 130) #[] #[.pointer (some ⟨z, 0, none⟩)], .func (.func 131) #[] #[.pointer (some ⟨z, 0, none⟩)], .func (.func 132) #[] #[.pointer (some ⟨z, 0, none⟩)]] 89) = Wm ∧ Kp wr Wm ∧ Blk Wm wr.heap.size 89 #[.func (.func 130) #[] #[.pointer (some ⟨z, 0, none⟩)], .func (.func 131) #[] #[.pointer (some ⟨z, 0, none⟩)], .func (.func 132) #[] #[.pointer (some ⟨z, 0, none⟩)]] := ⟨_, rfl, (Kp.refl wr).alloc _, Blk.new wr _ _⟩
              rw [hWm]
              clear hWm
              have KWd : Kp wr Wm.drew := KWm.drew
              have m2 : Wm.cell? ⟨wr.heap.size, 2, none⟩ = some (.func (.func 132) #[] #[.pointer (some ⟨z, 0, none⟩)]) := hBP.cell 2
              have m7 : Wm.cell? ⟨g, 7, none⟩ = some (.slice (some ⟨b, o, none⟩) (ws.length + 1) c) := KWm.cell q7
              have mw := KWm.cell hwc
              have hjw1 : IntKind.i64.wrap (1 + (j : Int)) = 1 + (j : Int) := IntWalk.i64_in _ (by omega)
              have hjt : (1 + (j : Int)).toNat = j + 1 := by omega
              have hj1 : (1 : Int) + (j : Int) < ((partsOf k).length : Int) + 1 := by omega
              have hj0 : (0 : Int) ≤ 1 + (j : Int) := by omega
              go_still_tail 13, (by kernel_rfl)
              change wpList _ _ _ _ _ Wm.drew
              go_wp2_with fail
              have L2 : LibOk Wm.drew := L.keep (R.out.kp.trans KWd)
              have hB2 := R.out.box.keep KWd
              have BG2 : Blk Wm.drew g 98 _ := hBG.keep KWd
              have H0 : Blk Wm.drew w.heap.size 27 _ := R.out.p0.keep KWd
              have H1 : Blk Wm.drew (w.heap.size + 1) 29 _ := R.out.p1.keep KWd
              have HK : Kp w Wm.drew := R.out.kp.trans KWd
              have hsl := strB_list W1
              have Hlist := Lib.hid hsl
              clear hsl
              refine (read_d g z 98 _ (by simp [readC]) (strB W1) (by omega) _ L2 BG2 nz (hB2.z.cell 0)).mono ?_
              rintro e w4 ⟨hY, hN⟩
              rw [Hlist.out] at hY hN
              cases hv : numP W1 with
              | some n =>
                obtain ⟨rfl, hB4, hO4⟩ := hY n hv
                have Hn := Lib.hid (R.out.next KWd hO4 (t' := { t with draw := n }) hB4 ((hRA.keep KWd).only hO4 (fun b o e => (hnA b o e).1)) hnA (fun h => hxA (Hxd.out h)) (by rw [Hnx.out]; simp only [readE]; rw [hv]; rfl))
                clear hY hN hB4 hO4 hv
                go_wp2_with fail
                go_roundw
                case rel => exact ⟨j + 1, _, by omega, by go_num, Hn⟩
                case measure => simp [intOf]; omega
              | none =>
                obtain ⟨rfl, hK4⟩ := hN hv
                have Hn := Lib.hid (show parseE s.data.toList = none by rw [Hnx.out]; simp only [readE]; rw [hv]; rfl)
                clear hY hN hv
                refine leaves_cons (f := 42) (args := #[.pointer (some ⟨w.heap.size, 0, none⟩), .pointer (some ⟨w.heap.size + 1, 0, none⟩)]) (by simp) (by simp [go_sem]) ?_
                refine (catch_parse _ _ _ _ _ 260 w4 (H0.keep hK4) (H1.keep hK4) (by omega)).mono ?_
                rintro e u' wz ⟨rfl, rfl, C0, C1, hOz⟩
                have q0 : wz.cell? ⟨w.heap.size, 0, none⟩ = some (.int .i64 0) := C0.cell 0
                have q1 : wz.cell? ⟨w.heap.size, 1, none⟩ = some (.int .i64 0) := C0.cell 1
                have q2 : wz.cell? ⟨w.heap.size, 2, none⟩ = some (.int .i64 0) := C0.cell 2
                have q3 : wz.cell? ⟨w.heap.size, 3, none⟩ = some (.int .i64 0) := C0.cell 3
                have q4 : wz.cell? ⟨w.heap.size, 4, none⟩ = some (.int .i64 0) := C0.cell 4
                have q5 : wz.cell? ⟨w.heap.size, 5, none⟩ = some (.int .u32 0) := C0.cell 5
                have q6 : wz.cell? ⟨w.heap.size, 6, none⟩ = some (.slice none 0 0) := C0.cell 6
                have q7 : wz.cell? ⟨w.heap.size + 1, 0, none⟩ = some (.int .i64 260) := C1.cell 0
                show Leaves _ _ _ _ [] .returning _
                exact ⟨.tuple #[evV (ev0 0) (.slice none 0 0), .int .i64 260], by simp [results, Tryz.results14, go_sem, q0, q1, q2, q3, q4, q5, q6, q7, ev0], hOz.kp (HK.trans hK4) (by simp), fun a ha => (by rw [Hn.out] at ha; cases ha), fun _ => rfl⟩
            | s =>
              have d0 : wr.cell? ⟨q, j * 3, none⟩ = some (.func (.func 136) #[] #[]) := hcell 0 _ rfl
              have d1 : wr.cell? ⟨q, j * 3 + 1, none⟩ = some (.func (.func 137) #[] #[]) := hcell 1 _ rfl
              have d2 : wr.cell? ⟨q, j * 3 + 2, none⟩ = some (.func (.func 138) #[] #[]) := hcell 2 _ rfl
              clear hcell
              go_wp2_with fail
              obtain ⟨Wm, hWm, KWm, hBP⟩ : ∃ Wm, wr.alloc (.cells #[.func (.func 136) #[] #[], .func (.func 137) #[] #[], .func (.func 138) #[] #[]] 89) = Wm ∧ Kp wr Wm ∧ Blk Wm wr.heap.size 89 #[.func (.func 136) #[] #[], .func (.func 137) #[] #[], .func (.func 138) #[] #[]] := ⟨_, rfl, (Kp.refl wr).alloc _, Blk.new wr _ _⟩
              rw [hWm]
              clear hWm
              have KWd : Kp wr Wm.drew := KWm.drew
              have m2 : Wm.cell? ⟨wr.heap.size, 2, none⟩ = some (.func (.func 138) #[] #[]) := hBP.cell 2
              have m7 : Wm.cell? ⟨g, 7, none⟩ = some (.slice (some ⟨b, o, none⟩) (ws.length + 1) c) := KWm.cell q7
              have mw := KWm.cell hwc
              have hjw1 : IntKind.i64.wrap (1 + (j : Int)) = 1 + (j : Int) := IntWalk.i64_in _ (by omega)
              have hjt : (1 + (j : Int)).toNat = j + 1 := by omega
              have hj1 : (1 : Int) + (j : Int) < ((partsOf k).length : Int) + 1 := by omega
              have hj0 : (0 : Int) ≤ 1 + (j : Int) := by omega
              go_still_tail 13, (by kernel_rfl)
              change wpList _ _ _ _ _ Wm.drew
              go_wp2_with fail
              have L2 : LibOk Wm.drew := L.keep (R.out.kp.trans KWd)
              have hB2 := R.out.box.keep KWd
              have BG2 : Blk Wm.drew g 98 _ := hBG.keep KWd
              have H0 : Blk Wm.drew w.heap.size 27 _ := R.out.p0.keep KWd
              have H1 : Blk Wm.drew (w.heap.size + 1) 29 _ := R.out.p1.keep KWd
              have HK : Kp w Wm.drew := R.out.kp.trans KWd
              have hsl := strB_list W1
              have Hlist := Lib.hid hsl
              clear hsl
              refine (read_src g 98 _ (by simp [readC]) (strB W1) (by omega) _ BG2).mono ?_
              rintro e w4 ⟨hY, hN⟩
              rw [Hlist.out] at hY hN
              cases hv : adr W1 with
              | some n =>
                obtain ⟨rfl, hB4, hO4⟩ := hY n hv
                have Hn := Lib.hid (R.out.next KWd hO4 (t' := { t with src := n }) hB4 ((hRA.keep KWd).only hO4 (fun b o e => (hnA b o e).1)) hnA (fun h => hxA (Hxd.out h)) (by rw [Hnx.out]; simp only [readE]; rw [hv]; rfl))
                clear hY hN hB4 hO4 hv
                go_wp2_with fail
                go_roundw
                case rel => exact ⟨j + 1, _, by omega, by go_num, Hn⟩
                case measure => simp [intOf]; omega
              | none =>
                obtain ⟨rfl, hK4⟩ := hN hv
                have Hn := Lib.hid (show parseE s.data.toList = none by rw [Hnx.out]; simp only [readE]; rw [hv]; rfl)
                clear hY hN hv
                refine leaves_cons (f := 42) (args := #[.pointer (some ⟨w.heap.size, 0, none⟩), .pointer (some ⟨w.heap.size + 1, 0, none⟩)]) (by simp) (by simp [go_sem]) ?_
                refine (catch_parse _ _ _ _ _ 260 w4 (H0.keep hK4) (H1.keep hK4) (by omega)).mono ?_
                rintro e u' wz ⟨rfl, rfl, C0, C1, hOz⟩
                have q0 : wz.cell? ⟨w.heap.size, 0, none⟩ = some (.int .i64 0) := C0.cell 0
                have q1 : wz.cell? ⟨w.heap.size, 1, none⟩ = some (.int .i64 0) := C0.cell 1
                have q2 : wz.cell? ⟨w.heap.size, 2, none⟩ = some (.int .i64 0) := C0.cell 2
                have q3 : wz.cell? ⟨w.heap.size, 3, none⟩ = some (.int .i64 0) := C0.cell 3
                have q4 : wz.cell? ⟨w.heap.size, 4, none⟩ = some (.int .i64 0) := C0.cell 4
                have q5 : wz.cell? ⟨w.heap.size, 5, none⟩ = some (.int .u32 0) := C0.cell 5
                have q6 : wz.cell? ⟨w.heap.size, 6, none⟩ = some (.slice none 0 0) := C0.cell 6
                have q7 : wz.cell? ⟨w.heap.size + 1, 0, none⟩ = some (.int .i64 260) := C1.cell 0
                show Leaves _ _ _ _ [] .returning _
                exact ⟨.tuple #[evV (ev0 0) (.slice none 0 0), .int .i64 260], by simp [results, Tryz.results14, go_sem, q0, q1, q2, q3, q4, q5, q6, q7, ev0], hOz.kp (HK.trans hK4) (by simp), fun a ha => (by rw [Hn.out] at ha; cases ha), fun _ => rfl⟩
            | x =>
              have d0 : wr.cell? ⟨q, j * 3, none⟩ = some (.func (.func 139) #[] #[]) := hcell 0 _ rfl
              have d1 : wr.cell? ⟨q, j * 3 + 1, none⟩ = some (.func (.func 140) #[] #[]) := hcell 1 _ rfl
              have d2 : wr.cell? ⟨q, j * 3 + 2, none⟩ = some (.func (.func 141) #[] #[]) := hcell 2 _ rfl
              obtain ⟨hx1, hx2⟩ := Hxx.out rfl
              obtain ⟨rfl, rfl, htb⟩ := hxA hx1
              rw [htb] at hBG
              clear hcell
              go_wp2_with fail
              obtain ⟨Wm, hWm, KWm, hBP⟩ : ∃ Wm, wr.alloc (.cells #[.func (.func 139) #[] #[], .func (.func 140) #[] #[], .func (.func 141) #[] #[]] 89) = Wm ∧ Kp wr Wm ∧ Blk Wm wr.heap.size 89 #[.func (.func 139) #[] #[], .func (.func 140) #[] #[], .func (.func 141) #[] #[]] := ⟨_, rfl, (Kp.refl wr).alloc _, Blk.new wr _ _⟩
              rw [hWm]
              clear hWm
              have KWd : Kp wr Wm.drew := KWm.drew
              have m2 : Wm.cell? ⟨wr.heap.size, 2, none⟩ = some (.func (.func 141) #[] #[]) := hBP.cell 2
              have m7 : Wm.cell? ⟨g, 7, none⟩ = some (.slice (some ⟨b, o, none⟩) (ws.length + 1) c) := KWm.cell q7
              have mw := KWm.cell hwc
              have hjw1 : IntKind.i64.wrap (1 + (j : Int)) = 1 + (j : Int) := IntWalk.i64_in _ (by omega)
              have hjt : (1 + (j : Int)).toNat = j + 1 := by omega
              have hj1 : (1 : Int) + (j : Int) < ((partsOf k).length : Int) + 1 := by omega
              have hj0 : (0 : Int) ≤ 1 + (j : Int) := by omega
              go_still_tail 13, (by kernel_rfl)
              change wpList _ _ _ _ _ Wm.drew
              go_wp2_with fail
              have L2 : LibOk Wm.drew := L.keep (R.out.kp.trans KWd)
              have hB2 := R.out.box.keep KWd
              have BG2 : Blk Wm.drew g 98 _ := hBG.keep KWd
              have H0 : Blk Wm.drew w.heap.size 27 _ := R.out.p0.keep KWd
              have H1 : Blk Wm.drew (w.heap.size + 1) 29 _ := R.out.p1.keep KWd
              have HK : Kp w Wm.drew := R.out.kp.trans KWd
              have hsl := strB_list W1
              have Hlist := Lib.hid hsl
              clear hsl
              refine (read_data g 98 _ (by simp [readC]) (by simp [readC]) (strB W1) (by omega) _ BG2).mono ?_
              rintro e w4 ⟨hY, hN⟩
              rw [Hlist.out] at hY hN
              cases hv : dataW W1 with
              | some l =>
                obtain ⟨rfl, v, hB4, hown4, hO4⟩ := hY l hv
                obtain ⟨A4, c4, hv4⟩ := hown4.form
                subst hv4
                have hgd : g < Wm.drew.heap.size := Nat.lt_of_lt_of_le hgr KWd.size
                have Hn := Lib.hid (R.out.next KWd hO4 (t' := { t with bytes := l }) hB4 (hown4.rdAt (by decide) byteE_len) (fun b o e => by have := hown4.newB _ e; simp only at this; omega) (fun h => absurd h hx2) (by rw [Hnx.out]; simp only [readE]; rw [hv, htb]; rfl))
                clear hY hN hB4 hO4 hv hown4
                go_wp2_with fail
                go_roundw
                case rel => exact ⟨j + 1, _, by omega, by go_num, Hn⟩
                case measure => simp [intOf]; omega
              | none =>
                obtain ⟨rfl, hO4⟩ := hN hv
                have Hn := Lib.hid (show parseE s.data.toList = none by rw [Hnx.out]; simp only [readE]; rw [hv]; rfl)
                clear hY hN hv
                refine leaves_cons (f := 42) (args := #[.pointer (some ⟨w.heap.size, 0, none⟩), .pointer (some ⟨w.heap.size + 1, 0, none⟩)]) (by simp) (by simp [go_sem]) ?_
                refine (catch_parse _ _ _ _ _ 260 w4 (H0.only hO4 (by simpa using fun e => n0 e.symm)) (H1.only hO4 (by simpa using fun e => n1 e.symm)) (by omega)).mono ?_
                rintro e u' wz ⟨rfl, rfl, C0, C1, hOz⟩
                have q0 : wz.cell? ⟨w.heap.size, 0, none⟩ = some (.int .i64 0) := C0.cell 0
                have q1 : wz.cell? ⟨w.heap.size, 1, none⟩ = some (.int .i64 0) := C0.cell 1
                have q2 : wz.cell? ⟨w.heap.size, 2, none⟩ = some (.int .i64 0) := C0.cell 2
                have q3 : wz.cell? ⟨w.heap.size, 3, none⟩ = some (.int .i64 0) := C0.cell 3
                have q4 : wz.cell? ⟨w.heap.size, 4, none⟩ = some (.int .i64 0) := C0.cell 4
                have q5 : wz.cell? ⟨w.heap.size, 5, none⟩ = some (.int .u32 0) := C0.cell 5
                have q6 : wz.cell? ⟨w.heap.size, 6, none⟩ = some (.slice none 0 0) := C0.cell 6
                have q7 : wz.cell? ⟨w.heap.size + 1, 0, none⟩ = some (.int .i64 260) := C1.cell 0
                show Leaves _ _ _ _ [] .returning _
                exact ⟨.tuple #[evV (ev0 0) (.slice none 0 0), .int .i64 260], by simp [results, Tryz.results14, go_sem, q0, q1, q2, q3, q4, q5, q6, q7, ev0], hOz.kp (hO4.kp HK (by simpa using R.out.ge)) (by simp), fun a ha => (by rw [Hn.out] at ha; cases ha), fun _ => rfl⟩
          · obtain rfl : j = (partsOf k).length := by omega
            have Hpe : Hid (parseE s.data.toList = some t) := Lib.hid (by rw [R.out.more, List.drop_length]; rfl)
            obtain ⟨hpl, hok, _⟩ := parse_sound Hpe.out
            obtain ⟨hk1, hk8, hb6⟩ := plainP_parts hpl
            have q0 : wr.cell? ⟨g, 0, none⟩ = some (.int .i64 t.kind) := hBG.cell 0
            have q1 : wr.cell? ⟨g, 1, none⟩ = some (.int .i64 t.a) := hBG.cell 1
            have q2 : wr.cell? ⟨g, 2, none⟩ = some (.int .i64 t.b) := hBG.cell 2
            have q3 : wr.cell? ⟨g, 3, none⟩ = some (.int .i64 t.c) := hBG.cell 3
            have q4 : wr.cell? ⟨g, 4, none⟩ = some (.int .i64 t.draw) := hBG.cell 4
            have q5 : wr.cell? ⟨g, 5, none⟩ = some (.int .u32 (t.src : Int)) := hBG.cell 5
            have q6 : wr.cell? ⟨g, 6, none⟩ = some (.slice A t.bytes.length c') := hBG.cell 6
            have HR := R
            clear hxA hBG hj hgr
            go_wp2_with fail
            refine (plain_any t A c' wr (by omega) (by omega) hRA (by omega)).mono ?_
            rintro e w4 ⟨rfl, hK4⟩
            rw [hpl]
            have C0 := HR.out.p0.keep hK4
            have C1 := HR.out.p1.keep hK4
            have hR4 := hRA.keep hK4
            have kw4 := HR.out.kp.trans hK4
            have q0 := hK4.cell q0
            have q1 := hK4.cell q1
            have q2 := hK4.cell q2
            have q3 := hK4.cell q3
            have q4 := hK4.cell q4
            have q5 := hK4.cell q5
            have q6 := hK4.cell q6
            have e0 : w4.cell? ⟨w.heap.size, 0, none⟩ = some (.int .i64 0) := C0.cell 0
            have e1 : w4.cell? ⟨w.heap.size, 1, none⟩ = some (.int .i64 0) := C0.cell 1
            have e2 : w4.cell? ⟨w.heap.size, 2, none⟩ = some (.int .i64 0) := C0.cell 2
            have e3 : w4.cell? ⟨w.heap.size, 3, none⟩ = some (.int .i64 0) := C0.cell 3
            have e4 : w4.cell? ⟨w.heap.size, 4, none⟩ = some (.int .i64 0) := C0.cell 4
            have e5 : w4.cell? ⟨w.heap.size, 5, none⟩ = some (.int .u32 0) := C0.cell 5
            have e6 : w4.cell? ⟨w.heap.size, 6, none⟩ = some (.slice none 0 0) := C0.cell 6
            have e7 : w4.cell? ⟨w.heap.size + 1, 0, none⟩ = some (.int .i64 0) := C1.cell 0
            have z0 := C0.frozen 0
            have z1 := C0.frozen 1
            have z2 := C0.frozen 2
            have z3 := C0.frozen 3
            have z4 := C0.frozen 4
            have z5 := C0.frozen 5
            have z6 := C0.frozen 6
            have z7 := C1.frozen 0
            clear R hok hpl
            go_wp2_with (first | (go_at_call 45; refine (need_yes _ _).mono ?_; rintro e w' ⟨rfl, rfl⟩))
            refine leaves_cons (f := 42) (args := #[.pointer (some ⟨w.heap.size, 0, none⟩), .pointer (some ⟨w.heap.size + 1, 0, none⟩)]) (by simp) (by simp [go_sem]) ?_
            refine (idle_parse _ _ _).mono ?_
            rintro e u' wz ⟨rfl, rfl, hKz⟩
            have D0 := ((C0.putEv t (.slice A t.bytes.length c')).far (p := ⟨w.heap.size + 1, 0, none⟩) (by simp) (.int .i64 0)).keep hKz
            have D1 := ((C1.putEv_far (p := w.heap.size) (by omega) t (.slice A t.bytes.length c')).set_ 0 (.int .i64 0)).keep hKz
            have hO1 := (Only.refl [w.heap.size] w4).putEv (g := w.heap.size) (.inl (by simp)) t (.slice A t.bytes.length c')
            have hO2 := (Only.refl [w.heap.size + 1] (evSet w4 w.heap.size t (.slice A t.bytes.length c'))).setCell (p := ⟨w.heap.size + 1, 0, none⟩) (.inl (by simp)) (.int .i64 0)
            have kz := (hO2.kp (hO1.kp kw4 (by simp)) (by simp)).trans hKz
            have hRz := ((hR4.only hO1 (fun b o e => by have := (hnA b o e).2; omega)).only hO2 (fun b o e => by have := (hnA b o e).2; omega)).keep hKz
            have y0 : wz.cell? ⟨w.heap.size, 0, none⟩ = some (.int .i64 t.kind) := D0.cell 0
            have y1 : wz.cell? ⟨w.heap.size, 1, none⟩ = some (.int .i64 t.a) := D0.cell 1
            have y2 : wz.cell? ⟨w.heap.size, 2, none⟩ = some (.int .i64 t.b) := D0.cell 2
            have y3 : wz.cell? ⟨w.heap.size, 3, none⟩ = some (.int .i64 t.c) := D0.cell 3
            have y4 : wz.cell? ⟨w.heap.size, 4, none⟩ = some (.int .i64 t.draw) := D0.cell 4
            have y5 : wz.cell? ⟨w.heap.size, 5, none⟩ = some (.int .u32 (t.src : Int)) := D0.cell 5
            have y6 : wz.cell? ⟨w.heap.size, 6, none⟩ = some (.slice A t.bytes.length c') := D0.cell 6
            have y7 : wz.cell? ⟨w.heap.size + 1, 0, none⟩ = some (.int .i64 0) := D1.cell 0
            show Leaves _ _ _ _ [] .returning _
            exact ⟨.tuple #[evV t (.slice A t.bytes.length c'), .int .i64 0], by simp [results, Tryz.results14, go_sem, y0, y1, y2, y3, y4, y5, y6, y7], kz, fun a ha => (by rw [Hpe.out, Option.some.injEq] at ha; subst ha; exact ⟨A, c', rfl, hRz, fun b o e => by have := (hnA b o e).2; omega⟩), fun h => (by rw [Hpe.out] at h; cases h)⟩
def ParseP (s : ByteArray) (w : World) (e : Ending) (w' : World) : Prop :=
  Kp w w' ∧ (∀ t, parseE s.data.toList = some t → ∃ A c, e = .returned (.tuple #[evV t (.slice A t.bytes.length c), .int .i64 0]) ∧ Rd w' 1 byteE A t.bytes) ∧ (parseE s.data.toList = none → e = .returned (.tuple #[evV (ev0 0) (.slice none 0 0), .int .i64 260]))
theorem parse_any (s : ByteArray) (hs : s.size ≤ 1000000) (w : World) (L : LibOk w) : Calls Tryz.prog 14 #[.string s] w (ParseP s w) := by
  refine (parse_fresh s hs w L).mono ?_
  rintro e w' ⟨hK, hY, hN⟩
  refine ⟨hK, fun t ht => ?_, hN⟩
  obtain ⟨A, c, e, hR, _⟩ := hY t ht
  exact ⟨A, c, e, hR⟩
end Go.Proofs.YtbfimimhgdkpaaaGreatDoor

/- The reference of package script: which parts a line has, digits. No condition. -/
namespace Go.Proofs.YtbfimimhgdkpaaaGreatDoor
open Go.RowKit

def ptC : Pt → UInt8 | .a => 97 | .b => 98 | .c => 99 | .d => 100 | .s => 115 | .x => 120
theorem ptC_inj {p q : Pt} (h : ptC p = ptC q) : p = q := by revert h; cases p <;> cases q <;> decide
def partsW (k : Nat) : List UInt8 := (partsOf k).map ptC
abbrev rpartsV : Value := .agg #[.string ⟨#[]⟩, .string ⟨#[100]⟩, .string ⟨#[97, 100]⟩, .string ⟨#[97, 100]⟩, .string ⟨#[97]⟩, .string ⟨#[97, 99]⟩, .string ⟨#[97, 98, 99, 100]⟩, .string ⟨#[97, 100]⟩, .string ⟨#[97, 98, 115, 120, 100]⟩]
set_option maxRecDepth 100000 in
set_option maxHeartbeats 400000 in
theorem rparts_any (w : World) : Calls Tryz.prog 47 #[] w fun e w' => e = .returned rpartsV ∧ Kp w w' := by
  go_enter Tryz.func47, Tryz.ntmps47
  go_wp2_with fail
  exact bodyPost_ret (v := rpartsV) (by simp [results, Tryz.results47, go_sem]) rfl ⟨rfl, (Kp.refl _).alloc _⟩
set_option maxRecDepth 100000 in
set_option maxHeartbeats 400000 in
theorem rheads_any (w : World) : Calls Tryz.prog 46 #[] w fun e w' => e = .returned namesV ∧ Kp w w' := by
  go_enter Tryz.func46, Tryz.ntmps46
  go_wp2_with fail
  exact bodyPost_ret (v := namesV) (by simp [results, Tryz.results46, go_sem]) rfl ⟨rfl, (Kp.refl _).alloc _⟩
theorem part_idx (k : Nat) (hk : k ≤ 8) (w : World) : (Instr.index 81 rpartsV (.int .i64 (k : Int))).run Tryz.prog w = .ok (.string (strB (partsW k))) w := by
  have : k = 0 ∨ k = 1 ∨ k = 2 ∨ k = 3 ∨ k = 4 ∨ k = 5 ∨ k = 6 ∨ k = 7 ∨ k = 8 := by omega
  rcases this with rfl | rfl | rfl | rfl | rfl | rfl | rfl | rfl | rfl
  · have : (Instr.index 81 rpartsV (.int .i64 0)).run Tryz.prog w = .ok (.string ⟨#[]⟩) w := by kernel_rfl
    exact this
  · have : (Instr.index 81 rpartsV (.int .i64 1)).run Tryz.prog w = .ok (.string ⟨#[100]⟩) w := by kernel_rfl
    exact this
  · have : (Instr.index 81 rpartsV (.int .i64 2)).run Tryz.prog w = .ok (.string ⟨#[97, 100]⟩) w := by kernel_rfl
    exact this
  · have : (Instr.index 81 rpartsV (.int .i64 3)).run Tryz.prog w = .ok (.string ⟨#[97, 100]⟩) w := by kernel_rfl
    exact this
  · have : (Instr.index 81 rpartsV (.int .i64 4)).run Tryz.prog w = .ok (.string ⟨#[97]⟩) w := by kernel_rfl
    exact this
  · have : (Instr.index 81 rpartsV (.int .i64 5)).run Tryz.prog w = .ok (.string ⟨#[97, 99]⟩) w := by kernel_rfl
    exact this
  · have : (Instr.index 81 rpartsV (.int .i64 6)).run Tryz.prog w = .ok (.string ⟨#[97, 98, 99, 100]⟩) w := by kernel_rfl
    exact this
  · have : (Instr.index 81 rpartsV (.int .i64 7)).run Tryz.prog w = .ok (.string ⟨#[97, 100]⟩) w := by kernel_rfl
    exact this
  · have : (Instr.index 81 rpartsV (.int .i64 8)).run Tryz.prog w = .ok (.string ⟨#[97, 98, 115, 120, 100]⟩) w := by kernel_rfl
    exact this
theorem partsW_len (k : Nat) : (strB (partsW k)).size = (partsOf k).length := by show (partsW k).toArray.size = _; simp [partsW]
theorem partsW_get {k j : Nat} (hj : j < (partsOf k).length) {p : Pt} (hp : (partsOf k)[j] = p) (n : Nat) (hn : n = j) (h : n < (strB (partsW k)).size) : (strB (partsW k))[n]'h = ptC p := by
  subst hn
  show (partsW k).toArray[n]'(by simpa [partsW] using hj) = ptC p
  simp [partsW, hp]

set_option maxRecDepth 100000 in
set_option maxHeartbeats 1000000 in
theorem has_any (p : Pt) (k : Nat) (hk : k ≤ 8) (w : World) : Calls Tryz.prog 41 #[.int .i64 (k : Int), .int .u8 ((ptC p).toNat : Int)] w fun e w' => e = .returned (.bool (decide (p ∈ partsOf k))) ∧ Kp w w' := by
  have hx : ∀ w, (Instr.index 81 rpartsV (.int .i64 (k : Int))).run Tryz.prog w = .ok (.string (strB (partsW k))) w := fun w => part_idx k hk w
  have h5 := parts_len hk
  have hl := partsW_len k
  go_enter Tryz.func41, Tryz.ntmps41
  go_wp2_with (first | (go_at_call 47; refine (rparts_any _).mono ?_; rintro e w1 ⟨rfl, hK1⟩))
  go_loopw [6] (fun i wr => ∃ j : Nat, j ≤ (partsOf k).length ∧ i = .int .i64 j ∧ Hid (∀ i (h : i < j) (h2 : i < (partsOf k).length), (partsOf k)[i] ≠ p) ∧ wr = w1) (fun i _ => (partsOf k).length - (intOf i).toNat)
  case atStart => exact ⟨0, by omega, rfl, Lib.hid (fun i h => absurd h (by omega)), rfl⟩
  case round =>
    obtain ⟨j, hj, rfl, hH, rfl⟩ := hrel
    by_cases hlt : j < (partsOf k).length
    · obtain ⟨q, hq⟩ : ∃ q, (partsOf k)[j] = q := ⟨_, rfl⟩
      have x1 := partsW_get hlt hq j rfl
      have i0 : (0 : Int) ≤ (j : Int) := by omega
      have i1 : (j : Int) < ((strB (partsW k)).size : Int) := by omega
      by_cases he : q = p
      · have Hm := Lib.hid (show decide (p ∈ partsOf k) = true by rw [decide_eq_true_iff, ← he, ← hq]; exact List.getElem_mem hlt)
        have hb : (((ptC q).toNat : Int) == ((ptC p).toNat : Int)) = true := by rw [he]; exact beq_self_eq_true _
        clear he hq
        go_wp2_with fail
        go_ret
        exact ⟨by rw [Hm.out]; rfl, hK1⟩
      · have hb : (((ptC q).toNat : Int) == ((ptC p).toNat : Int)) = false := by
          rw [beq_eq_false_iff_ne]
          intro h
          exact he (ptC_inj (UInt8.toNat.inj (by omega)))
        have Hn := Lib.hid (show ∀ i (h : i < j + 1) (h2 : i < (partsOf k).length), (partsOf k)[i] ≠ p from fun i h h2 => by
          rcases Nat.lt_or_ge i j with h3 | h3
          · exact hH.out i h3 h2
          · obtain rfl : i = j := by omega
            rw [hq]; exact he)
        clear he hq
        go_wp2_with fail
        go_roundw
        case rel => exact ⟨j + 1, by omega, by go_num, Hn, by first | rfl | trivial⟩
        case measure => simp [intOf]; omega
    · obtain rfl : j = (partsOf k).length := by omega
      have Hm := Lib.hid (show decide (p ∈ partsOf k) = false by
        rw [decide_eq_false_iff_not]
        intro h
        obtain ⟨i, hi, e⟩ := List.getElem_of_mem h
        exact hH.out i hi hi e)
      go_wp2_with fail
      go_ret
      exact ⟨by rw [Hm.out]; rfl, hK1⟩

def digV (c : UInt8) : Int := match hexV c with | some x => (x : Int) | none => -1
set_option maxRecDepth 100000 in
set_option maxHeartbeats 1000000 in
theorem digit_any (c : UInt8) (w : World) : Calls Tryz.prog 147 #[.int .u8 (c.toNat : Int)] w fun e w' => e = .returned (.int .i64 (digV c)) ∧ w = w' := by
  go_enter Tryz.func147, Tryz.ntmps147
  go_wp2_with fail
  go_loopw [3] (fun i wr => ∃ j : Nat, j ≤ 16 ∧ i = .int .i64 j ∧ Hid (∀ i, i < j → hexOf i ≠ c) ∧ w = wr) (fun i _ => 16 - (intOf i).toNat)
  case atStart => exact ⟨0, by omega, rfl, Lib.hid (fun i h => absurd h (by omega)), rfl⟩
  case round =>
    obtain ⟨j, hj, rfl, hH, rfl⟩ := hrel
    by_cases hlt : j < 16
    · have x1 := hex_get j hlt j rfl
      have i0 : (0 : Int) ≤ (j : Int) := by omega
      by_cases he : hexOf j = c
      · have Hm := Lib.hid (show digV c = (j : Int) by rw [← he]; unfold digV; rw [hexV_of j hlt])
        have hb : (((hexOf j).toNat : Int) == (c.toNat : Int)) = true := by rw [he]; exact beq_self_eq_true _
        clear he
        go_wp2_with fail
        go_ret
        exact ⟨by rw [Hm.out]; rfl, rfl⟩
      · have hb : (((hexOf j).toNat : Int) == (c.toNat : Int)) = false := by
          rw [beq_eq_false_iff_ne]
          intro h
          exact he (UInt8.toNat.inj (by omega))
        have Hn := Lib.hid (show ∀ i, i < j + 1 → hexOf i ≠ c from fun i h => by
          rcases Nat.lt_or_ge i j with h3 | h3
          · exact hH.out i h3
          · obtain rfl : i = j := by omega
            exact he)
        clear he
        go_wp2_with fail
        go_roundw
        case rel => exact ⟨j + 1, by omega, by go_num, Hn, by first | rfl | trivial⟩
        case measure => simp [intOf]; omega
    · obtain rfl : j = 16 := by omega
      have Hm := Lib.hid (show digV c = -1 by
        unfold digV
        cases h : hexV c with
        | none => rfl
        | some x => obtain ⟨a, b⟩ := hexV_lt h; exact absurd b (hH.out x a))
      go_wp2_with fail
      go_ret
      exact ⟨by rw [Hm.out]; rfl, rfl⟩
end Go.Proofs.YtbfimimhgdkpaaaGreatDoor

/- The reference of package script: numbers. No condition but the text's length. -/
namespace Go.Proofs.YtbfimimhgdkpaaaGreatDoor
open Go.RowKit

def rintV (s : List UInt8) : Value := match refInt s with | some n => .tuple #[.int .i64 n, .bool true] | none => .tuple #[.int .i64 0, .bool false]
theorem emp_no {l : List UInt8} (h : 0 < l.length) : l.isEmpty = false := by cases l with | nil => simp at h | cons a l => rfl
theorem decFrom_step {c : UInt8} {l : List UInt8} {acc d : Nat} (h : c.toNat = 48 + d) (hd : d < 10) : Lib.decFrom acc (c :: l) = Lib.decFrom (acc * 10 + d) l := by
  have : Go.Lib.digitVal c = some d := by
    unfold Go.Lib.digitVal
    rw [if_pos (by omega)]
    congr 1
    omega
  simp only [Lib.decFrom, this]
theorem decFrom_bad {c : UInt8} {l : List UInt8} {acc : Nat} (h : ¬ (48 ≤ c.toNat ∧ c.toNat ≤ 57)) : Lib.decFrom acc (c :: l) = none := by
  have : Go.Lib.digitVal c = none := by
    unfold Go.Lib.digitVal
    rw [if_neg h]
  simp only [Lib.decFrom, this]
set_option maxRecDepth 100000 in
set_option maxHeartbeats 1000000 in
theorem rint_short (s : ByteArray) (w : World) (hsz : s.size ≤ 1) : Calls Tryz.prog 97 #[.string s] w fun e w' => e = .returned (rintV s.data.toList) ∧ w' = w := by
  have hlen : s.data.toList.length = s.size := by rw [Array.length_toList]; rfl
  have hmin : ¬ s.data.toList = minS := fun e => by rw [e] at hlen; simp [minS] at hlen; omega
  have hm : (s.toList == minS) = false := by rw [Lib.toList_data]; simpa using hmin
  have hm : (s.toList == [45, 57, 50, 50, 51, 51, 55, 50, 48, 51, 54, 56, 53, 52, 55, 55, 53, 56, 48, 56]) = false := hm
  have hbl : belowB s.data.toList = false := by rw [belowB, decide_eq_false (by omega)]; rfl
  have hbare : bareS s.data.toList = s.data.toList := by rw [bareS, hbl]; rfl
  have g0 : decide ((1 : Int) < (s.size : Int)) = false := decide_eq_false (by omega)
  by_cases e0 : s.size = 0
  · have H := Lib.hid (show refInt s.data.toList = none by rw [refInt, if_neg hmin, if_pos]; rw [badS, hbare, List.length_eq_zero_iff.1 (show s.data.toList.length = 0 by omega)]; rfl)
    have z0 : ((s.size : Int) == 0) = true := by rw [beq_iff_eq]; omega
    clear hmin hbl hbare hlen
    go_enter Tryz.func97, Tryz.ntmps97
    go_wp2_with fail
    go_ret2
    exact ⟨by rw [rintV, H.out]; rfl, rfl⟩
  · have z0 : ((s.size : Int) == 0) = false := by rw [beq_eq_false_iff_ne]; omega
    have z1 : decide ((19 : Int) < (s.size : Int)) = false := decide_eq_false (by omega)
    have hgood : badS s.data.toList = false := by
      rw [badS, hbare, hbl, decide_eq_false (show ¬ 19 < s.data.toList.length by omega), decide_eq_false (show ¬ 1 < s.data.toList.length by omega)]
      rw [emp_no (l := s.data.toList) (by omega)]
      rfl
    have HE := Lib.hid (show refInt s.data.toList = (match Lib.decFrom 0 s.data.toList with | none => none | some n => if 9223372036854775807 < n then none else some ((n : Int))) by
      rw [refInt, if_neg hmin, if_neg (by rw [hgood]; decide), hbare, hbl]
      rfl)
    clear hmin hbl hbare hlen hgood
    have Hlen := Lib.hid (show s.data.toList.length = s.size by rw [Array.length_toList]; rfl)
    go_enter Tryz.func97, Tryz.ntmps97
    go_wp2_with fail
    go_loopw [5, 6] (fun u v wr => ∃ n i : Nat, u = .int .u64 n ∧ v = .int .i64 i ∧ i ≤ s.size ∧ Hid (n < 10 ^ i) ∧ Hid (Lib.decFrom 0 s.data.toList = Lib.decFrom n (s.data.toList.drop i)) ∧ wr = w) (fun _ v _ => s.size - (intOf v).toNat)
    case atStart => exact ⟨0, 0, rfl, rfl, by omega, Lib.hid (by decide), Lib.hid rfl, rfl⟩
    case round =>
      obtain ⟨n, i, rfl, rfl, hi, Hn, Hd, rfl⟩ := hrel
      by_cases hlt : i < s.size
      · obtain ⟨c, hc, hd⟩ := drop_byte hlt
        have x1 := byte_get hlt hc i rfl
        have i0 : (0 : Int) ≤ (i : Int) := by omega
        have i1 : (i : Int) < (s.size : Int) := by omega
        have hc256 := c.toNat_lt
        have hn18 : n < 1000000000000000000 := Nat.lt_of_lt_of_le Hn.out (Nat.le_trans (Nat.pow_le_pow_right (by omega) (show i ≤ 18 by omega)) (by decide))
        obtain ⟨y, hy⟩ : ∃ y : Nat, c.toNat = y := ⟨_, rfl⟩
        have x2 : ∀ hh : i < s.size, (s[i]'hh).toNat = y := fun hh => by rw [x1, hy]
        clear x1 hc
        by_cases h1 : 48 ≤ y ∧ y ≤ 57
        · obtain ⟨d, hd2⟩ : ∃ d, y = 48 + d := ⟨y - 48, by omega⟩
          have Hn2 := Lib.hid (show n * 10 + d < 10 ^ (i + 1) by have := Hn.out; rw [Nat.pow_succ]; omega)
          have Hd2 := Lib.hid (show Lib.decFrom 0 s.data.toList = Lib.decFrom (n * 10 + d) (s.data.toList.drop (i + 1)) by rw [Hd.out, hd]; exact decFrom_step (by omega) (by omega))
          have g1 : decide ((y : Int) < 48) = false := decide_eq_false (by omega)
          have g2 : decide ((57 : Int) < (y : Int)) = false := decide_eq_false (by omega)
          have w1 : IntKind.u64.wrap (10 * (n : Int)) = 10 * (n : Int) := IntWalk.u64_in _ (by omega)
          have w2 : IntKind.u8.wrap ((y : Int) - 48) = (d : Int) := by rw [IntWalk.u8_in _ (by omega)]; omega
          have w3 : IntKind.u64.wrap (d : Int) = (d : Int) := IntWalk.u64_in _ (by omega)
          have w4 : IntKind.u64.wrap (10 * (n : Int) + (d : Int)) = 10 * (n : Int) + (d : Int) := IntWalk.u64_in _ (by omega)
          clear hd hy h1 hd2
          go_wp2_with fail
          go_roundw
          case rel => exact ⟨n * 10 + d, i + 1, by go_num, by go_num, by omega, Hn2, Hd2, by first | rfl | trivial⟩
          case measure => simp [intOf]; omega
        · have H := Lib.hid (show refInt s.data.toList = none by rw [HE.out, Hd.out, hd, decFrom_bad (by omega)])
          rcases Nat.lt_or_ge y 48 with h2 | h2
          · have g1 : (y : Int) < 48 := by omega
            clear hd hy h1
            go_wp2_with fail
            go_ret2
            exact ⟨by rw [rintV, H.out]; rfl, rfl⟩
          · have g1 : decide ((y : Int) < 48) = false := decide_eq_false (by omega)
            have g2 : (57 : Int) < (y : Int) := by omega
            clear hd hy h1
            go_wp2_with fail
            go_ret2
            exact ⟨by rw [rintV, H.out]; rfl, rfl⟩
      · obtain rfl : i = s.size := by omega
        have Hv := Lib.hid (show Lib.decFrom 0 s.data.toList = some n by rw [Hd.out, List.drop_eq_nil_of_le (by rw [Hlen.out]; exact Nat.le_refl _)]; rfl)
        have hn19 : n < 10000000000000000000 := Nat.lt_of_lt_of_le Hn.out (Nat.le_trans (Nat.pow_le_pow_right (by omega) (show s.size ≤ 19 by omega)) (by decide))
        by_cases hbig : 9223372036854775807 < n
        · have H := Lib.hid (show refInt s.data.toList = none by rw [HE.out, Hv.out]; simp only; rw [if_pos hbig])
          have g1 : (9223372036854775807 : Int) < (n : Int) := by omega
          go_wp2_with fail
          go_ret2
          exact ⟨by rw [rintV, H.out]; rfl, rfl⟩
        · have H := Lib.hid (show refInt s.data.toList = some ((n : Int)) by rw [HE.out, Hv.out]; simp only; rw [if_neg hbig])
          have g1 : decide ((9223372036854775807 : Int) < (n : Int)) = false := decide_eq_false (by omega)
          have w1 : IntKind.i64.wrap (n : Int) = (n : Int) := IntWalk.i64_in _ (by omega)
          have w2 : IntKind.i64.wrap (-(n : Int)) = -(n : Int) := IntWalk.i64_in _ (by omega)
          go_wp2_with fail
          go_ret2
          exact ⟨by rw [rintV, H.out]; rfl, rfl⟩
set_option maxRecDepth 100000 in
set_option maxHeartbeats 2000000 in
theorem rint_plus (s : ByteArray) (w : World) (hsz : 1 < s.size) (h45 : s.data.toList.head? ≠ some 45) : Calls Tryz.prog 97 #[.string s] w fun e w' => e = .returned (rintV s.data.toList) ∧ w' = w := by
  have hlen : s.data.toList.length = s.size := by rw [Array.length_toList]; rfl
  have hmin : ¬ s.data.toList = minS := fun e => h45 (by rw [e]; rfl)
  have hm : (s.toList == minS) = false := by rw [Lib.toList_data]; simpa using hmin
  have hm : (s.toList == [45, 57, 50, 50, 51, 51, 55, 50, 48, 51, 54, 56, 53, 52, 55, 55, 53, 56, 48, 56]) = false := hm
  have hbl : belowB s.data.toList = false := by rw [belowB, beq_eq_false_iff_ne.2 h45, Bool.and_false]
  have hbare : bareS s.data.toList = s.data.toList := by rw [bareS, hbl]; rfl
  obtain ⟨c0, hc0, hd0⟩ := drop_byte (s := s) (i := 0) (by omega)
  rw [List.drop_zero] at hd0
  have x0 := byte_get (i := 0) (by omega) hc0 0 rfl
  have hhead : s.data.toList.head? = some c0 := by rw [hd0]; rfl
  have n45 : ((c0.toNat : Int) == 45) = false := by
    rw [beq_eq_false_iff_ne]
    intro h
    exact h45 (by rw [hhead]; congr 1; exact UInt8.toNat.inj (by have : (45 : UInt8).toNat = 45 := rfl; omega))
  have g0 : (1 : Int) < (s.size : Int) := by omega
  have g00 : (0 : Int) < (s.size : Int) := by omega
  have z0 : ((s.size : Int) == 0) = false := by rw [beq_eq_false_iff_ne]; omega
  clear hd0 hc0
  by_cases e1 : 19 < s.size
  · have H := Lib.hid (show refInt s.data.toList = none by rw [refInt, if_neg hmin, if_pos]; rw [badS, hbare, decide_eq_true (show 19 < s.data.toList.length by omega)]; simp)
    have z1 : (19 : Int) < (s.size : Int) := by omega
    clear hmin hbl hbare hlen hhead h45
    go_enter Tryz.func97, Tryz.ntmps97
    go_wp2_with fail
    go_ret2
    exact ⟨by rw [rintV, H.out]; rfl, rfl⟩
  · have z1 : decide ((19 : Int) < (s.size : Int)) = false := decide_eq_false (by omega)
    by_cases e2 : c0 = 48
    · have H := Lib.hid (show refInt s.data.toList = none by rw [refInt, if_neg hmin, if_pos]; rw [badS, hbare, hhead, decide_eq_true (show 1 < s.data.toList.length by omega), e2]; simp)
      have z2 : ((c0.toNat : Int) == 48) = true := by rw [e2]; rfl
      clear hmin hbl hbare hlen hhead h45 e2
      go_enter Tryz.func97, Tryz.ntmps97
      go_wp2_with fail
      go_ret2
      exact ⟨by rw [rintV, H.out]; rfl, rfl⟩
    · have z2 : ((c0.toNat : Int) == 48) = false := by
        rw [beq_eq_false_iff_ne]
        intro h
        exact e2 (UInt8.toNat.inj (by have : (48 : UInt8).toNat = 48 := rfl; omega))
      have hgood : badS s.data.toList = false := by
        rw [badS, hbare, hbl, hhead, decide_eq_false (show ¬ 19 < s.data.toList.length by omega)]
        rw [emp_no (l := s.data.toList) (by omega), beq_eq_false_iff_ne.2 (fun h => e2 (Option.some.inj h)), Bool.and_false]
        rfl
      have HE := Lib.hid (show refInt s.data.toList = (match Lib.decFrom 0 s.data.toList with | none => none | some n => if 9223372036854775807 < n then none else some ((n : Int))) by
        rw [refInt, if_neg hmin, if_neg (by rw [hgood]; decide), hbare, hbl]
        rfl)
      clear hmin hbl hbare hlen hgood hhead h45 e2
      have Hlen := Lib.hid (show s.data.toList.length = s.size by rw [Array.length_toList]; rfl)
      go_enter Tryz.func97, Tryz.ntmps97
      go_wp2_with fail
      go_loopw [5, 6] (fun u v wr => ∃ n i : Nat, u = .int .u64 n ∧ v = .int .i64 i ∧ i ≤ s.size ∧ Hid (n < 10 ^ i) ∧ Hid (Lib.decFrom 0 s.data.toList = Lib.decFrom n (s.data.toList.drop i)) ∧ wr = w) (fun _ v _ => s.size - (intOf v).toNat)
      case atStart => exact ⟨0, 0, rfl, rfl, by omega, Lib.hid (by decide), Lib.hid rfl, rfl⟩
      case round =>
        obtain ⟨n, i, rfl, rfl, hi, Hn, Hd, rfl⟩ := hrel
        by_cases hlt : i < s.size
        · obtain ⟨c, hc, hd⟩ := drop_byte hlt
          have x1 := byte_get hlt hc i rfl
          have i0 : (0 : Int) ≤ (i : Int) := by omega
          have i1 : (i : Int) < (s.size : Int) := by omega
          have hc256 := c.toNat_lt
          have hn18 : n < 1000000000000000000 := Nat.lt_of_lt_of_le Hn.out (Nat.le_trans (Nat.pow_le_pow_right (by omega) (show i ≤ 18 by omega)) (by decide))
          obtain ⟨y, hy⟩ : ∃ y : Nat, c.toNat = y := ⟨_, rfl⟩
          have x2 : ∀ hh : i < s.size, (s[i]'hh).toNat = y := fun hh => by rw [x1, hy]
          clear x1 hc
          by_cases h1 : 48 ≤ y ∧ y ≤ 57
          · obtain ⟨d, hd2⟩ : ∃ d, y = 48 + d := ⟨y - 48, by omega⟩
            have Hn2 := Lib.hid (show n * 10 + d < 10 ^ (i + 1) by have := Hn.out; rw [Nat.pow_succ]; omega)
            have Hd2 := Lib.hid (show Lib.decFrom 0 s.data.toList = Lib.decFrom (n * 10 + d) (s.data.toList.drop (i + 1)) by rw [Hd.out, hd]; exact decFrom_step (by omega) (by omega))
            have g1 : decide ((y : Int) < 48) = false := decide_eq_false (by omega)
            have g2 : decide ((57 : Int) < (y : Int)) = false := decide_eq_false (by omega)
            have w1 : IntKind.u64.wrap (10 * (n : Int)) = 10 * (n : Int) := IntWalk.u64_in _ (by omega)
            have w2 : IntKind.u8.wrap ((y : Int) - 48) = (d : Int) := by rw [IntWalk.u8_in _ (by omega)]; omega
            have w3 : IntKind.u64.wrap (d : Int) = (d : Int) := IntWalk.u64_in _ (by omega)
            have w4 : IntKind.u64.wrap (10 * (n : Int) + (d : Int)) = 10 * (n : Int) + (d : Int) := IntWalk.u64_in _ (by omega)
            clear hd hy h1 hd2
            go_wp2_with fail
            go_roundw
            case rel => exact ⟨n * 10 + d, i + 1, by go_num, by go_num, by omega, Hn2, Hd2, by first | rfl | trivial⟩
            case measure => simp [intOf]; omega
          · have H := Lib.hid (show refInt s.data.toList = none by rw [HE.out, Hd.out, hd, decFrom_bad (by omega)])
            rcases Nat.lt_or_ge y 48 with h2 | h2
            · have g1 : (y : Int) < 48 := by omega
              clear hd hy h1
              go_wp2_with fail
              go_ret2
              exact ⟨by rw [rintV, H.out]; rfl, rfl⟩
            · have g1 : decide ((y : Int) < 48) = false := decide_eq_false (by omega)
              have g2 : (57 : Int) < (y : Int) := by omega
              clear hd hy h1
              go_wp2_with fail
              go_ret2
              exact ⟨by rw [rintV, H.out]; rfl, rfl⟩
        · obtain rfl : i = s.size := by omega
          have Hv := Lib.hid (show Lib.decFrom 0 s.data.toList = some n by rw [Hd.out, List.drop_eq_nil_of_le (by rw [Hlen.out]; exact Nat.le_refl _)]; rfl)
          have hn19 : n < 10000000000000000000 := Nat.lt_of_lt_of_le Hn.out (Nat.le_trans (Nat.pow_le_pow_right (by omega) (show s.size ≤ 19 by omega)) (by decide))
          by_cases hbig : 9223372036854775807 < n
          · have H := Lib.hid (show refInt s.data.toList = none by rw [HE.out, Hv.out]; simp only; rw [if_pos hbig])
            have g1 : (9223372036854775807 : Int) < (n : Int) := by omega
            go_wp2_with fail
            go_ret2
            exact ⟨by rw [rintV, H.out]; rfl, rfl⟩
          · have H := Lib.hid (show refInt s.data.toList = some ((n : Int)) by rw [HE.out, Hv.out]; simp only; rw [if_neg hbig])
            have g1 : decide ((9223372036854775807 : Int) < (n : Int)) = false := decide_eq_false (by omega)
            have w1 : IntKind.i64.wrap (n : Int) = (n : Int) := IntWalk.i64_in _ (by omega)
            have w2 : IntKind.i64.wrap (-(n : Int)) = -(n : Int) := IntWalk.i64_in _ (by omega)
            go_wp2_with fail
            go_ret2
            exact ⟨by rw [rintV, H.out]; rfl, rfl⟩
set_option maxRecDepth 100000 in
set_option maxHeartbeats 2000000 in
theorem rint_minus (s : ByteArray) (w : World) (hsz : 1 < s.size) (h45 : s.data.toList.head? = some 45) (hmin : ¬ s.data.toList = minS) : Calls Tryz.prog 97 #[.string s] w fun e w' => e = .returned (rintV s.data.toList) ∧ w' = w := by
  have hlen : s.data.toList.length = s.size := by rw [Array.length_toList]; rfl
  have hm : (s.toList == minS) = false := by rw [Lib.toList_data]; simpa using hmin
  have hm : (s.toList == [45, 57, 50, 50, 51, 51, 55, 50, 48, 51, 54, 56, 53, 52, 55, 55, 53, 56, 48, 56]) = false := hm
  have hbl : belowB s.data.toList = true := by rw [belowB, h45, decide_eq_true (by omega)]; rfl
  obtain ⟨r, hr⟩ : ∃ r, s.extract 1 s.size = r := ⟨_, rfl⟩
  have hrl : r.data.toList = s.data.toList.tail := by rw [← hr, extract_eq, strB_list, List.take_of_length_le (by rw [List.length_drop]; omega), List.drop_one]
  have hbare : bareS s.data.toList = r.data.toList := by rw [bareS, hbl, hrl]; rfl
  have hrlen : r.data.toList.length = r.size := by rw [Array.length_toList]; rfl
  have hrs : r.size + 1 = s.size := by rw [← hrlen, hrl, List.length_tail]; omega
  obtain ⟨c0, hc0, hd0⟩ := drop_byte (s := s) (i := 0) (by omega)
  rw [List.drop_zero] at hd0
  have x0 := byte_get (i := 0) (by omega) hc0 0 rfl
  have hhead : c0 = 45 := by rw [hd0] at h45; simpa using h45
  have n45 : ((c0.toNat : Int) == 45) = true := by rw [hhead]; rfl
  obtain ⟨c1, hc1, hd1⟩ := drop_byte (s := r) (i := 0) (by omega)
  rw [List.drop_zero] at hd1
  have x1 := byte_get (i := 0) (by omega) hc1 0 rfl
  have hhead1 : r.data.toList.head? = some c1 := by rw [hd1]; rfl
  have g0 : (1 : Int) < (s.size : Int) := by omega
  have g01 : (1 : Int) ≤ (s.size : Int) := by omega
  have g00 : (0 : Int) < (s.size : Int) := by omega
  have g02 : (0 : Int) < (r.size : Int) := by omega
  have z0 : ((r.size : Int) == 0) = false := by rw [beq_eq_false_iff_ne]; omega
  clear hd0 hc0 hc1 hd1 hhead h45
  by_cases e1 : 19 < r.size
  · have H := Lib.hid (show refInt s.data.toList = none by rw [refInt, if_neg hmin, if_pos]; rw [badS, hbare, decide_eq_true (show 19 < r.data.toList.length by omega)]; simp)
    have z1 : (19 : Int) < (r.size : Int) := by omega
    clear hmin hbl hbare hlen hrlen hrl hhead1
    go_enter Tryz.func97, Tryz.ntmps97
    go_wp2_with fail
    go_ret2
    exact ⟨by rw [rintV, H.out]; rfl, rfl⟩
  · have z1 : decide ((19 : Int) < (r.size : Int)) = false := decide_eq_false (by omega)
    by_cases f1 : 1 < r.size
    · have f2 : (1 : Int) < (r.size : Int) := by omega
      have h48 : (r.toList == [48]) = false := by
        rw [Lib.toList_data, beq_eq_false_iff_ne]
        intro h
        rw [h] at hrlen
        simp at hrlen
        omega
      by_cases e2 : c1 = 48
      · have H := Lib.hid (show refInt s.data.toList = none by rw [refInt, if_neg hmin, if_pos]; rw [badS, hbare, hhead1, decide_eq_true (show 1 < r.data.toList.length by omega), e2]; simp)
        have z2 : ((c1.toNat : Int) == 48) = true := by rw [e2]; rfl
        clear hmin hbl hbare hlen hrlen hrl hhead1 e2
        go_enter Tryz.func97, Tryz.ntmps97
        go_wp2_with fail
        go_ret2
        exact ⟨by rw [rintV, H.out]; rfl, rfl⟩
      · have z2 : ((c1.toNat : Int) == 48) = false := by
          rw [beq_eq_false_iff_ne]
          intro h
          exact e2 (UInt8.toNat.inj (by have : (48 : UInt8).toNat = 48 := rfl; omega))
        have hgood : badS s.data.toList = false := by
          rw [badS, hbare, hbl, hhead1, decide_eq_false (show ¬ 19 < r.data.toList.length by omega)]
          rw [Lib.toList_data] at h48
          rw [emp_no (l := r.data.toList) (by omega), beq_eq_false_iff_ne.2 (fun h => e2 (Option.some.inj h)), Bool.and_false, h48]
          rfl
        have HE := Lib.hid (show refInt s.data.toList = (match Lib.decFrom 0 r.data.toList with | none => none | some n => if 9223372036854775807 < n then none else some (-(n : Int))) by
          rw [refInt, if_neg hmin, if_neg (by rw [hgood]; decide), hbare, hbl]
          rfl)
        clear hmin hbl hbare hlen hgood hrlen hrl hhead1 e2
        have Hlen := Lib.hid (show r.data.toList.length = r.size by rw [Array.length_toList]; rfl)
        go_enter Tryz.func97, Tryz.ntmps97
        go_wp2_with fail
        go_loopw [5, 6] (fun u v wr => ∃ n i : Nat, u = .int .u64 n ∧ v = .int .i64 i ∧ i ≤ r.size ∧ Hid (n < 10 ^ i) ∧ Hid (Lib.decFrom 0 r.data.toList = Lib.decFrom n (r.data.toList.drop i)) ∧ wr = w) (fun _ v _ => r.size - (intOf v).toNat)
        case atStart => exact ⟨0, 0, rfl, rfl, by omega, Lib.hid (by decide), Lib.hid rfl, rfl⟩
        case round =>
          obtain ⟨n, i, rfl, rfl, hi, Hn, Hd, rfl⟩ := hrel
          by_cases hlt : i < r.size
          · obtain ⟨c, hc, hd⟩ := drop_byte hlt
            have x1 := byte_get hlt hc i rfl
            have i0 : (0 : Int) ≤ (i : Int) := by omega
            have i1 : (i : Int) < (r.size : Int) := by omega
            have hc256 := c.toNat_lt
            have hn18 : n < 1000000000000000000 := Nat.lt_of_lt_of_le Hn.out (Nat.le_trans (Nat.pow_le_pow_right (by omega) (show i ≤ 18 by omega)) (by decide))
            obtain ⟨y, hy⟩ : ∃ y : Nat, c.toNat = y := ⟨_, rfl⟩
            have x2 : ∀ hh : i < r.size, (r[i]'hh).toNat = y := fun hh => by rw [x1, hy]
            clear x1 hc
            by_cases h1 : 48 ≤ y ∧ y ≤ 57
            · obtain ⟨d, hd2⟩ : ∃ d, y = 48 + d := ⟨y - 48, by omega⟩
              have Hn2 := Lib.hid (show n * 10 + d < 10 ^ (i + 1) by have := Hn.out; rw [Nat.pow_succ]; omega)
              have Hd2 := Lib.hid (show Lib.decFrom 0 r.data.toList = Lib.decFrom (n * 10 + d) (r.data.toList.drop (i + 1)) by rw [Hd.out, hd]; exact decFrom_step (by omega) (by omega))
              have g1 : decide ((y : Int) < 48) = false := decide_eq_false (by omega)
              have g2 : decide ((57 : Int) < (y : Int)) = false := decide_eq_false (by omega)
              have w1 : IntKind.u64.wrap (10 * (n : Int)) = 10 * (n : Int) := IntWalk.u64_in _ (by omega)
              have w2 : IntKind.u8.wrap ((y : Int) - 48) = (d : Int) := by rw [IntWalk.u8_in _ (by omega)]; omega
              have w3 : IntKind.u64.wrap (d : Int) = (d : Int) := IntWalk.u64_in _ (by omega)
              have w4 : IntKind.u64.wrap (10 * (n : Int) + (d : Int)) = 10 * (n : Int) + (d : Int) := IntWalk.u64_in _ (by omega)
              clear hd hy h1 hd2
              go_wp2_with fail
              go_roundw
              case rel => exact ⟨n * 10 + d, i + 1, by go_num, by go_num, by omega, Hn2, Hd2, by first | rfl | trivial⟩
              case measure => simp [intOf]; omega
            · have H := Lib.hid (show refInt s.data.toList = none by rw [HE.out, Hd.out, hd, decFrom_bad (by omega)])
              rcases Nat.lt_or_ge y 48 with h2 | h2
              · have g1 : (y : Int) < 48 := by omega
                clear hd hy h1
                go_wp2_with fail
                go_ret2
                exact ⟨by rw [rintV, H.out]; rfl, rfl⟩
              · have g1 : decide ((y : Int) < 48) = false := decide_eq_false (by omega)
                have g2 : (57 : Int) < (y : Int) := by omega
                clear hd hy h1
                go_wp2_with fail
                go_ret2
                exact ⟨by rw [rintV, H.out]; rfl, rfl⟩
          · obtain rfl : i = r.size := by omega
            have Hv := Lib.hid (show Lib.decFrom 0 r.data.toList = some n by rw [Hd.out, List.drop_eq_nil_of_le (by rw [Hlen.out]; exact Nat.le_refl _)]; rfl)
            have hn19 : n < 10000000000000000000 := Nat.lt_of_lt_of_le Hn.out (Nat.le_trans (Nat.pow_le_pow_right (by omega) (show r.size ≤ 19 by omega)) (by decide))
            by_cases hbig : 9223372036854775807 < n
            · have H := Lib.hid (show refInt s.data.toList = none by rw [HE.out, Hv.out]; simp only; rw [if_pos hbig])
              have g1 : (9223372036854775807 : Int) < (n : Int) := by omega
              go_wp2_with fail
              go_ret2
              exact ⟨by rw [rintV, H.out]; rfl, rfl⟩
            · have H := Lib.hid (show refInt s.data.toList = some (-(n : Int)) by rw [HE.out, Hv.out]; simp only; rw [if_neg hbig])
              have g1 : decide ((9223372036854775807 : Int) < (n : Int)) = false := decide_eq_false (by omega)
              have w1 : IntKind.i64.wrap (n : Int) = (n : Int) := IntWalk.i64_in _ (by omega)
              have w2 : IntKind.i64.wrap (-(n : Int)) = -(n : Int) := IntWalk.i64_in _ (by omega)
              go_wp2_with fail
              go_ret2
              exact ⟨by rw [rintV, H.out]; rfl, rfl⟩
    · have f2 : decide ((1 : Int) < (r.size : Int)) = false := decide_eq_false (by omega)
      by_cases e2 : r.data.toList = [48]
      · have H := Lib.hid (show refInt s.data.toList = none by rw [refInt, if_neg hmin, if_pos]; rw [badS, hbare, hbl, e2]; rfl)
        have h48 : (r.toList == [48]) = true := by rw [Lib.toList_data, e2]; rfl
        clear hmin hbl hbare hlen hrlen hrl hhead1 e2
        go_enter Tryz.func97, Tryz.ntmps97
        go_wp2_with fail
        go_ret2
        exact ⟨by rw [rintV, H.out]; rfl, rfl⟩
      · have h48 : (r.toList == [48]) = false := by rw [Lib.toList_data]; simpa using e2
        have hgood : badS s.data.toList = false := by
          rw [badS, hbare, hbl, hhead1, decide_eq_false (show ¬ 19 < r.data.toList.length by omega), decide_eq_false (show ¬ 1 < r.data.toList.length by omega)]
          rw [emp_no (l := r.data.toList) (by omega), beq_eq_false_iff_ne.2 e2]
          rfl
        have HE := Lib.hid (show refInt s.data.toList = (match Lib.decFrom 0 r.data.toList with | none => none | some n => if 9223372036854775807 < n then none else some (-(n : Int))) by
          rw [refInt, if_neg hmin, if_neg (by rw [hgood]; decide), hbare, hbl]
          rfl)
        clear hmin hbl hbare hlen hgood hrlen hrl hhead1 e2
        have Hlen := Lib.hid (show r.data.toList.length = r.size by rw [Array.length_toList]; rfl)
        go_enter Tryz.func97, Tryz.ntmps97
        go_wp2_with fail
        go_loopw [5, 6] (fun u v wr => ∃ n i : Nat, u = .int .u64 n ∧ v = .int .i64 i ∧ i ≤ r.size ∧ Hid (n < 10 ^ i) ∧ Hid (Lib.decFrom 0 r.data.toList = Lib.decFrom n (r.data.toList.drop i)) ∧ wr = w) (fun _ v _ => r.size - (intOf v).toNat)
        case atStart => exact ⟨0, 0, rfl, rfl, by omega, Lib.hid (by decide), Lib.hid rfl, rfl⟩
        case round =>
          obtain ⟨n, i, rfl, rfl, hi, Hn, Hd, rfl⟩ := hrel
          by_cases hlt : i < r.size
          · obtain ⟨c, hc, hd⟩ := drop_byte hlt
            have x1 := byte_get hlt hc i rfl
            have i0 : (0 : Int) ≤ (i : Int) := by omega
            have i1 : (i : Int) < (r.size : Int) := by omega
            have hc256 := c.toNat_lt
            have hn18 : n < 1000000000000000000 := Nat.lt_of_lt_of_le Hn.out (Nat.le_trans (Nat.pow_le_pow_right (by omega) (show i ≤ 18 by omega)) (by decide))
            obtain ⟨y, hy⟩ : ∃ y : Nat, c.toNat = y := ⟨_, rfl⟩
            have x2 : ∀ hh : i < r.size, (r[i]'hh).toNat = y := fun hh => by rw [x1, hy]
            clear x1 hc
            by_cases h1 : 48 ≤ y ∧ y ≤ 57
            · obtain ⟨d, hd2⟩ : ∃ d, y = 48 + d := ⟨y - 48, by omega⟩
              have Hn2 := Lib.hid (show n * 10 + d < 10 ^ (i + 1) by have := Hn.out; rw [Nat.pow_succ]; omega)
              have Hd2 := Lib.hid (show Lib.decFrom 0 r.data.toList = Lib.decFrom (n * 10 + d) (r.data.toList.drop (i + 1)) by rw [Hd.out, hd]; exact decFrom_step (by omega) (by omega))
              have g1 : decide ((y : Int) < 48) = false := decide_eq_false (by omega)
              have g2 : decide ((57 : Int) < (y : Int)) = false := decide_eq_false (by omega)
              have w1 : IntKind.u64.wrap (10 * (n : Int)) = 10 * (n : Int) := IntWalk.u64_in _ (by omega)
              have w2 : IntKind.u8.wrap ((y : Int) - 48) = (d : Int) := by rw [IntWalk.u8_in _ (by omega)]; omega
              have w3 : IntKind.u64.wrap (d : Int) = (d : Int) := IntWalk.u64_in _ (by omega)
              have w4 : IntKind.u64.wrap (10 * (n : Int) + (d : Int)) = 10 * (n : Int) + (d : Int) := IntWalk.u64_in _ (by omega)
              clear hd hy h1 hd2
              go_wp2_with fail
              go_roundw
              case rel => exact ⟨n * 10 + d, i + 1, by go_num, by go_num, by omega, Hn2, Hd2, by first | rfl | trivial⟩
              case measure => simp [intOf]; omega
            · have H := Lib.hid (show refInt s.data.toList = none by rw [HE.out, Hd.out, hd, decFrom_bad (by omega)])
              rcases Nat.lt_or_ge y 48 with h2 | h2
              · have g1 : (y : Int) < 48 := by omega
                clear hd hy h1
                go_wp2_with fail
                go_ret2
                exact ⟨by rw [rintV, H.out]; rfl, rfl⟩
              · have g1 : decide ((y : Int) < 48) = false := decide_eq_false (by omega)
                have g2 : (57 : Int) < (y : Int) := by omega
                clear hd hy h1
                go_wp2_with fail
                go_ret2
                exact ⟨by rw [rintV, H.out]; rfl, rfl⟩
          · obtain rfl : i = r.size := by omega
            have Hv := Lib.hid (show Lib.decFrom 0 r.data.toList = some n by rw [Hd.out, List.drop_eq_nil_of_le (by rw [Hlen.out]; exact Nat.le_refl _)]; rfl)
            have hn19 : n < 10000000000000000000 := Nat.lt_of_lt_of_le Hn.out (Nat.le_trans (Nat.pow_le_pow_right (by omega) (show r.size ≤ 19 by omega)) (by decide))
            by_cases hbig : 9223372036854775807 < n
            · have H := Lib.hid (show refInt s.data.toList = none by rw [HE.out, Hv.out]; simp only; rw [if_pos hbig])
              have g1 : (9223372036854775807 : Int) < (n : Int) := by omega
              go_wp2_with fail
              go_ret2
              exact ⟨by rw [rintV, H.out]; rfl, rfl⟩
            · have H := Lib.hid (show refInt s.data.toList = some (-(n : Int)) by rw [HE.out, Hv.out]; simp only; rw [if_neg hbig])
              have g1 : decide ((9223372036854775807 : Int) < (n : Int)) = false := decide_eq_false (by omega)
              have w1 : IntKind.i64.wrap (n : Int) = (n : Int) := IntWalk.i64_in _ (by omega)
              have w2 : IntKind.i64.wrap (-(n : Int)) = -(n : Int) := IntWalk.i64_in _ (by omega)
              go_wp2_with fail
              go_ret2
              exact ⟨by rw [rintV, H.out]; rfl, rfl⟩
set_option maxRecDepth 100000 in
set_option maxHeartbeats 400000 in
theorem rint_min (w : World) : Calls Tryz.prog 97 #[.string (strB minS)] w fun e w' => e = .returned (rintV minS) ∧ w' = w := by
  have hm : ((strB minS).toList == [45, 57, 50, 50, 51, 51, 55, 50, 48, 51, 54, 56, 53, 52, 55, 55, 53, 56, 48, 56]) = true := by rw [Lib.toList_data, strB_list]; rfl
  go_enter Tryz.func97, Tryz.ntmps97
  go_wp2_with fail
  go_ret2
  exact ⟨by rw [rintV, refInt, if_pos rfl]; rfl, rfl⟩
theorem rint_any (s : ByteArray) (w : World) : Calls Tryz.prog 97 #[.string s] w fun e w' => e = .returned (rintV s.data.toList) ∧ w' = w := by
  by_cases h1 : s.size ≤ 1
  · exact rint_short s w h1
  · by_cases h2 : s.data.toList = minS
    · obtain rfl : s = strB minS := by rw [← h2, strB_of]
      rw [strB_list]
      exact rint_min w
    · by_cases h3 : s.data.toList.head? = some 45
      · exact rint_minus s w (by omega) h3 h2
      · exact rint_plus s w (by omega) h3
end Go.Proofs.YtbfimimhgdkpaaaGreatDoor

/- The reference of layer 25: what has a line, names, numbers. No condition. -/
namespace Go.Proofs.YtbfimimhgdkpaaaGreatDoor
open Go.RowKit

/-- Has a route a line? -/
def lineB (r : Rt) : Bool := rightB r && decide (0 < r.s)
abbrev rnamesV : Value := .agg #[.string ⟨#[100, 105, 114, 101, 99, 116]⟩, .string ⟨#[118, 97, 108, 105, 100]⟩, .string ⟨#[104, 111, 108, 100]⟩, .string ⟨#[103, 97, 114, 98, 97, 103, 101]⟩]
set_option maxRecDepth 100000 in
set_option maxHeartbeats 400000 in
theorem rnames25_any (w : World) : Calls Tryz.prog 71 #[] w fun e w' => e = .returned rnamesV ∧ Kp w w' := by
  go_enter Tryz.func71, Tryz.ntmps71
  go_wp2_with fail
  exact bodyPost_ret (v := rnamesV) (by simp [results, Tryz.results71, go_sem]) rfl ⟨rfl, (Kp.refl _).alloc _⟩
theorem rname25_idx (k : Nat) (h1 : 1 ≤ k) (hk : k ≤ 4) (w : World) : (Instr.index 125 rnamesV (.int .i64 ((k : Int) - 1))).run Tryz.prog w = .ok (.string (strB (namV k))) w := by
  have : k = 1 ∨ k = 2 ∨ k = 3 ∨ k = 4 := by omega
  rcases this with rfl | rfl | rfl | rfl
  · have : (Instr.index 125 rnamesV (.int .i64 0)).run Tryz.prog w = .ok (.string ⟨#[100, 105, 114, 101, 99, 116]⟩) w := by kernel_rfl
    exact this
  · have : (Instr.index 125 rnamesV (.int .i64 1)).run Tryz.prog w = .ok (.string ⟨#[118, 97, 108, 105, 100]⟩) w := by kernel_rfl
    exact this
  · have : (Instr.index 125 rnamesV (.int .i64 2)).run Tryz.prog w = .ok (.string ⟨#[104, 111, 108, 100]⟩) w := by kernel_rfl
    exact this
  · have : (Instr.index 125 rnamesV (.int .i64 3)).run Tryz.prog w = .ok (.string ⟨#[103, 97, 114, 98, 97, 103, 101]⟩) w := by kernel_rfl
    exact this
set_option maxRecDepth 100000 in
set_option maxHeartbeats 1000000 in
theorem right25_any (r : Rt) (w : World) (ha : r.p.a < 4294967296) (hx : r.x < 4294967296) : Calls Tryz.prog 20 #[.agg #[.int .u32 r.p.a, .int .i64 r.p.l, .int .i64 r.s, .int .i64 r.m, .int .i64 r.l, .int .i64 r.f, .int .u32 r.x, .int .i64 r.d, .bool r.c]] w fun e w' => e = .returned (.bool (lineB r)) ∧ Kp w w' := by
  have hR := right_any r (w.alloc (.cells #[.int .u32 r.p.a, .int .i64 r.p.l, .int .i64 r.s, .int .i64 r.m, .int .i64 r.l, .int .i64 r.f, .int .u32 r.x, .int .i64 r.d, .bool r.c] 45)) ha hx
  have hB := Blk.new w 45 #[.int .u32 r.p.a, .int .i64 r.p.l, .int .i64 r.s, .int .i64 r.m, .int .i64 r.l, .int .i64 r.f, .int .u32 r.x, .int .i64 r.d, .bool r.c]
  have hK : Kp w (w.alloc (.cells #[.int .u32 r.p.a, .int .i64 r.p.l, .int .i64 r.s, .int .i64 r.m, .int .i64 r.l, .int .i64 r.f, .int .u32 r.x, .int .i64 r.d, .bool r.c] 45)) := (Kp.refl w).alloc _
  go_enter Tryz.func20, Tryz.ntmps20
  go_wp2_with fail
  refine hR.mono ?_
  rintro e w1 ⟨rfl, K1⟩
  have q2 : w1.cell? ⟨w.heap.size, 2, none⟩ = some (.int .i64 r.s) := (hB.keep K1).cell 2
  have KW := hK.trans K1
  clear hR hB hK K1
  cases hb : rightB r with
  | true =>
    go_wp2_with fail
    go_ret
    exact ⟨by unfold lineB; rw [hb]; rfl, KW⟩
  | false =>
    go_wp2_with fail
    go_ret
    exact ⟨by unfold lineB; rw [hb]; rfl, KW⟩
set_option maxRecDepth 100000 in
set_option maxHeartbeats 2000000 in
theorem rnum25_any (s : ByteArray) (w : World) : Calls Tryz.prog 73 #[.string s] w fun e w' => e = .returned (.int .i64 (numVw s.data.toList)) ∧ w' = w := by
  have hlen : s.data.toList.length = s.size := by rw [Array.length_toList]; rfl
  by_cases e0 : s.size = 0
  · have H := Lib.hid (show numVw s.data.toList = -1 by unfold numVw; rw [if_pos]; exact .inl (List.length_eq_zero_iff.1 (by omega)))
    have z0 : ((s.size : Int) == 0) = true := by rw [beq_iff_eq]; omega
    clear hlen
    go_enter Tryz.func73, Tryz.ntmps73
    go_wp2_with fail
    go_ret
    exact ⟨by rw [H.out]; rfl, rfl⟩
  have z0 : ((s.size : Int) == 0) = false := by rw [beq_eq_false_iff_ne]; omega
  have hne : s.data.toList ≠ [] := fun e => by rw [e] at hlen; simp at hlen; omega
  by_cases e1 : 19 < s.size
  · have H := Lib.hid (show numVw s.data.toList = -1 by unfold numVw; rw [if_pos]; exact .inr (.inl (by omega)))
    have z1 : (19 : Int) < (s.size : Int) := by omega
    clear hne
    clear hlen
    go_enter Tryz.func73, Tryz.ntmps73
    go_wp2_with fail
    go_ret
    exact ⟨by rw [H.out]; rfl, rfl⟩
  have z1 : decide ((19 : Int) < (s.size : Int)) = false := decide_eq_false (by omega)
  obtain ⟨c0, hc0, hd0⟩ := drop_byte (s := s) (i := 0) (by omega)
  rw [List.drop_zero] at hd0
  have x0 := byte_get (i := 0) (by omega) hc0 0 rfl
  have hhead : s.data.toList.head? = some c0 := by rw [hd0]; rfl
  clear hd0 hc0
  have g00 : (0 : Int) < (s.size : Int) := by omega
  by_cases e3 : 1 < s.size
  · have g0 : (1 : Int) < (s.size : Int) := by omega
    by_cases e2 : c0 = 48
    · have H := Lib.hid (show numVw s.data.toList = -1 by unfold numVw; rw [if_pos]; exact .inr (.inr ⟨by omega, by rw [hhead, e2]⟩))
      have z2 : ((c0.toNat : Int) == 48) = true := by rw [e2]; rfl
      clear hne hhead e2
      clear hlen
      go_enter Tryz.func73, Tryz.ntmps73
      go_wp2_with fail
      go_ret
      exact ⟨by rw [H.out]; rfl, rfl⟩
    · have z2 : ((c0.toNat : Int) == 48) = false := by
        rw [beq_eq_false_iff_ne]
        intro h
        exact e2 (UInt8.toNat.inj (by have : (48 : UInt8).toNat = 48 := rfl; omega))
      have hno : ¬ (s.data.toList = [] ∨ 19 < s.data.toList.length ∨ (1 < s.data.toList.length ∧ s.data.toList.head? = some 48)) := by
        rintro (h | h | ⟨_, h⟩)
        · exact hne h
        · omega
        · rw [hhead] at h; injection h with h; exact e2 h
      clear hne hhead e2
      have HE := Lib.hid (show numVw s.data.toList = (match Lib.decFrom 0 s.data.toList with | none => -1 | some n => if 4611686018427387904 < n then -1 else (n : Int)) by unfold numVw; rw [if_neg hno]; cases Lib.decFrom 0 s.data.toList <;> rfl)
      clear hlen hno
      have Hlen := Lib.hid (show s.data.toList.length = s.size by rw [Array.length_toList]; rfl)
      go_enter Tryz.func73, Tryz.ntmps73
      go_wp2_with fail
      go_loopw [3, 4] (fun u v wr => ∃ n i : Nat, u = .int .u64 n ∧ v = .int .i64 i ∧ i ≤ s.size ∧ Hid (n < 10 ^ i) ∧ Hid (Lib.decFrom 0 s.data.toList = Lib.decFrom n (s.data.toList.drop i)) ∧ wr = w) (fun _ v _ => s.size - (intOf v).toNat)
      case atStart => exact ⟨0, 0, rfl, rfl, by omega, Lib.hid (by decide), Lib.hid rfl, rfl⟩
      case round =>
        obtain ⟨n, i, rfl, rfl, hi, Hn, Hd, rfl⟩ := hrel
        by_cases hlt : i < s.size
        · obtain ⟨c, hc, hd⟩ := drop_byte hlt
          have x1 := byte_get hlt hc i rfl
          have i0 : (0 : Int) ≤ (i : Int) := by omega
          have i1 : (i : Int) < (s.size : Int) := by omega
          have hc256 := c.toNat_lt
          have hn18 : n < 1000000000000000000 := Nat.lt_of_lt_of_le Hn.out (Nat.le_trans (Nat.pow_le_pow_right (by omega) (show i ≤ 18 by omega)) (by decide))
          obtain ⟨y, hy⟩ : ∃ y : Nat, c.toNat = y := ⟨_, rfl⟩
          have x2 : ∀ hh : i < s.size, (s[i]'hh).toNat = y := fun hh => by rw [x1, hy]
          clear x1 hc
          by_cases h1 : 48 ≤ y ∧ y ≤ 57
          · obtain ⟨d, hd2⟩ : ∃ d, y = 48 + d := ⟨y - 48, by omega⟩
            have Hn2 := Lib.hid (show n * 10 + d < 10 ^ (i + 1) by have := Hn.out; rw [Nat.pow_succ]; omega)
            have Hd2 := Lib.hid (show Lib.decFrom 0 s.data.toList = Lib.decFrom (n * 10 + d) (s.data.toList.drop (i + 1)) by rw [Hd.out, hd]; exact decFrom_step (by omega) (by omega))
            have g1 : decide ((y : Int) < 48) = false := decide_eq_false (by omega)
            have g2 : decide ((57 : Int) < (y : Int)) = false := decide_eq_false (by omega)
            have w1 : IntKind.u64.wrap (10 * (n : Int)) = 10 * (n : Int) := IntWalk.u64_in _ (by omega)
            have w2 : IntKind.u8.wrap ((y : Int) - 48) = (d : Int) := by rw [IntWalk.u8_in _ (by omega)]; omega
            have w3 : IntKind.u64.wrap (d : Int) = (d : Int) := IntWalk.u64_in _ (by omega)
            have w4 : IntKind.u64.wrap (10 * (n : Int) + (d : Int)) = 10 * (n : Int) + (d : Int) := IntWalk.u64_in _ (by omega)
            clear hd hy h1 hd2
            go_wp2_with fail
            go_roundw
            case rel => exact ⟨n * 10 + d, i + 1, by go_num, by go_num, by omega, Hn2, Hd2, by first | rfl | trivial⟩
            case measure => simp [intOf]; omega
          · have H := Lib.hid (show numVw s.data.toList = -1 by rw [HE.out, Hd.out, hd, decFrom_bad (by omega)])
            rcases Nat.lt_or_ge y 48 with h2 | h2
            · have g1 : (y : Int) < 48 := by omega
              clear hd hy h1
              go_wp2_with fail
              go_ret
              exact ⟨by rw [H.out]; rfl, rfl⟩
            · have g1 : decide ((y : Int) < 48) = false := decide_eq_false (by omega)
              have g2 : (57 : Int) < (y : Int) := by omega
              clear hd hy h1
              go_wp2_with fail
              go_ret
              exact ⟨by rw [H.out]; rfl, rfl⟩
        · obtain rfl : i = s.size := by omega
          have Hv := Lib.hid (show Lib.decFrom 0 s.data.toList = some n by rw [Hd.out, List.drop_eq_nil_of_le (by rw [Hlen.out]; exact Nat.le_refl _)]; rfl)
          have hn19 : n < 10000000000000000000 := Nat.lt_of_lt_of_le Hn.out (Nat.le_trans (Nat.pow_le_pow_right (by omega) (show s.size ≤ 19 by omega)) (by decide))
          by_cases hbig : 4611686018427387904 < n
          · have H := Lib.hid (show numVw s.data.toList = -1 by rw [HE.out, Hv.out]; simp only; rw [if_pos hbig])
            have g1 : (4611686018427387904 : Int) < (n : Int) := by omega
            go_wp2_with fail
            go_ret
            exact ⟨by rw [H.out]; rfl, rfl⟩
          · have H := Lib.hid (show numVw s.data.toList = ((n : Int)) by rw [HE.out, Hv.out]; simp only; rw [if_neg hbig])
            have g1 : decide ((4611686018427387904 : Int) < (n : Int)) = false := decide_eq_false (by omega)
            have w1 : IntKind.i64.wrap (n : Int) = (n : Int) := IntWalk.i64_in _ (by omega)
            go_wp2_with fail
            go_ret
            exact ⟨by rw [H.out]; rfl, rfl⟩
  · have g0 : decide ((1 : Int) < (s.size : Int)) = false := decide_eq_false (by omega)
    have hno : ¬ (s.data.toList = [] ∨ 19 < s.data.toList.length ∨ (1 < s.data.toList.length ∧ s.data.toList.head? = some 48)) := by
      rintro (h | h | ⟨h, _⟩)
      · exact hne h
      · omega
      · omega
    clear hne hhead x0
    have HE := Lib.hid (show numVw s.data.toList = (match Lib.decFrom 0 s.data.toList with | none => -1 | some n => if 4611686018427387904 < n then -1 else (n : Int)) by unfold numVw; rw [if_neg hno]; cases Lib.decFrom 0 s.data.toList <;> rfl)
    clear hlen hno
    have Hlen := Lib.hid (show s.data.toList.length = s.size by rw [Array.length_toList]; rfl)
    go_enter Tryz.func73, Tryz.ntmps73
    go_wp2_with fail
    go_loopw [3, 4] (fun u v wr => ∃ n i : Nat, u = .int .u64 n ∧ v = .int .i64 i ∧ i ≤ s.size ∧ Hid (n < 10 ^ i) ∧ Hid (Lib.decFrom 0 s.data.toList = Lib.decFrom n (s.data.toList.drop i)) ∧ wr = w) (fun _ v _ => s.size - (intOf v).toNat)
    case atStart => exact ⟨0, 0, rfl, rfl, by omega, Lib.hid (by decide), Lib.hid rfl, rfl⟩
    case round =>
      obtain ⟨n, i, rfl, rfl, hi, Hn, Hd, rfl⟩ := hrel
      by_cases hlt : i < s.size
      · obtain ⟨c, hc, hd⟩ := drop_byte hlt
        have x1 := byte_get hlt hc i rfl
        have i0 : (0 : Int) ≤ (i : Int) := by omega
        have i1 : (i : Int) < (s.size : Int) := by omega
        have hc256 := c.toNat_lt
        have hn18 : n < 1000000000000000000 := Nat.lt_of_lt_of_le Hn.out (Nat.le_trans (Nat.pow_le_pow_right (by omega) (show i ≤ 18 by omega)) (by decide))
        obtain ⟨y, hy⟩ : ∃ y : Nat, c.toNat = y := ⟨_, rfl⟩
        have x2 : ∀ hh : i < s.size, (s[i]'hh).toNat = y := fun hh => by rw [x1, hy]
        clear x1 hc
        by_cases h1 : 48 ≤ y ∧ y ≤ 57
        · obtain ⟨d, hd2⟩ : ∃ d, y = 48 + d := ⟨y - 48, by omega⟩
          have Hn2 := Lib.hid (show n * 10 + d < 10 ^ (i + 1) by have := Hn.out; rw [Nat.pow_succ]; omega)
          have Hd2 := Lib.hid (show Lib.decFrom 0 s.data.toList = Lib.decFrom (n * 10 + d) (s.data.toList.drop (i + 1)) by rw [Hd.out, hd]; exact decFrom_step (by omega) (by omega))
          have g1 : decide ((y : Int) < 48) = false := decide_eq_false (by omega)
          have g2 : decide ((57 : Int) < (y : Int)) = false := decide_eq_false (by omega)
          have w1 : IntKind.u64.wrap (10 * (n : Int)) = 10 * (n : Int) := IntWalk.u64_in _ (by omega)
          have w2 : IntKind.u8.wrap ((y : Int) - 48) = (d : Int) := by rw [IntWalk.u8_in _ (by omega)]; omega
          have w3 : IntKind.u64.wrap (d : Int) = (d : Int) := IntWalk.u64_in _ (by omega)
          have w4 : IntKind.u64.wrap (10 * (n : Int) + (d : Int)) = 10 * (n : Int) + (d : Int) := IntWalk.u64_in _ (by omega)
          clear hd hy h1 hd2
          go_wp2_with fail
          go_roundw
          case rel => exact ⟨n * 10 + d, i + 1, by go_num, by go_num, by omega, Hn2, Hd2, by first | rfl | trivial⟩
          case measure => simp [intOf]; omega
        · have H := Lib.hid (show numVw s.data.toList = -1 by rw [HE.out, Hd.out, hd, decFrom_bad (by omega)])
          rcases Nat.lt_or_ge y 48 with h2 | h2
          · have g1 : (y : Int) < 48 := by omega
            clear hd hy h1
            go_wp2_with fail
            go_ret
            exact ⟨by rw [H.out]; rfl, rfl⟩
          · have g1 : decide ((y : Int) < 48) = false := decide_eq_false (by omega)
            have g2 : (57 : Int) < (y : Int) := by omega
            clear hd hy h1
            go_wp2_with fail
            go_ret
            exact ⟨by rw [H.out]; rfl, rfl⟩
      · obtain rfl : i = s.size := by omega
        have Hv := Lib.hid (show Lib.decFrom 0 s.data.toList = some n by rw [Hd.out, List.drop_eq_nil_of_le (by rw [Hlen.out]; exact Nat.le_refl _)]; rfl)
        have hn19 : n < 10000000000000000000 := Nat.lt_of_lt_of_le Hn.out (Nat.le_trans (Nat.pow_le_pow_right (by omega) (show s.size ≤ 19 by omega)) (by decide))
        by_cases hbig : 4611686018427387904 < n
        · have H := Lib.hid (show numVw s.data.toList = -1 by rw [HE.out, Hv.out]; simp only; rw [if_pos hbig])
          have g1 : (4611686018427387904 : Int) < (n : Int) := by omega
          go_wp2_with fail
          go_ret
          exact ⟨by rw [H.out]; rfl, rfl⟩
        · have H := Lib.hid (show numVw s.data.toList = ((n : Int)) by rw [HE.out, Hv.out]; simp only; rw [if_neg hbig])
          have g1 : decide ((4611686018427387904 : Int) < (n : Int)) = false := decide_eq_false (by omega)
          have w1 : IntKind.i64.wrap (n : Int) = (n : Int) := IntWalk.i64_in _ (by omega)
          go_wp2_with fail
          go_ret
          exact ⟨by rw [H.out]; rfl, rfl⟩
end Go.Proofs.YtbfimimhgdkpaaaGreatDoor
