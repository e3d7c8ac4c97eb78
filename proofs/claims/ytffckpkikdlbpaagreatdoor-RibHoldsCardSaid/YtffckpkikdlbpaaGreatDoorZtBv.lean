/- Lemmas and contracts for the theorem of this claim: LxA. -/
import Derived.Test.YtffckpkikdlbpaaGreatDoorZtBu
set_option linter.unusedSimpArgs false
set_option linter.unusedVariables false
namespace Go.Proofs.YtffckpkikdlbpaaGreatDoor
open Go.RowKit
theorem span08_any (n : Int) (w : World) : Calls Tryz.prog 49 #[.int .i64 n] w fun e w' => e = .returned (.bool (withB 0 1000000 n)) ∧ w = w' := by
  by_cases h0 : 0 ≤ n
  · have d0 : decide (0 ≤ n) = true := decide_eq_true h0
    by_cases h1 : n ≤ 1000000
    · have d1 : decide (n ≤ 1000000) = true := decide_eq_true h1
      have H := Lib.hid (show withB 0 1000000 n = true by rw [withB_iff]; exact ⟨h0, h1⟩)
      go_enter Tryz.func49, Tryz.ntmps49
      go_wp2_with fail
      go_ret
      exact ⟨by rw [H.out]; rfl, rfl⟩
    · have d1 : decide (n ≤ 1000000) = false := decide_eq_false h1
      have H := Lib.hid (show withB 0 1000000 n = false by rw [Bool.eq_false_iff]; intro z; rw [withB_iff] at z; exact h1 z.2)
      go_enter Tryz.func49, Tryz.ntmps49
      go_wp2_with fail
      go_ret
      exact ⟨by rw [H.out]; rfl, rfl⟩
  · have d0 : decide (0 ≤ n) = false := decide_eq_false h0
    have H := Lib.hid (show withB 0 1000000 n = false by rw [Bool.eq_false_iff]; intro z; rw [withB_iff] at z; exact h0 z.1)
    go_enter Tryz.func49, Tryz.ntmps49
    go_wp2_with fail
    go_ret
    exact ⟨by rw [H.out]; rfl, rfl⟩
set_option maxRecDepth 100000 in
theorem pfx_eqlv (w : World) (a l b k : Int) : (binOp .eql 29 (.agg #[.int .u32 a, .int .i64 l]) (.agg #[.int .u32 b, .int .i64 k])).run Tryz.prog w = .ok (.bool (a == b && l == k)) w := by
  rw [run_eql_struct, run_equalIn_agg w 9999 _ _ _ Tryz.underlying29 (by kernel_rfl)]
  simp [Op.eqFields, part, go_sem, Tryz.underlying3, Tryz.underlying27]
  by_cases h1 : a = b <;> by_cases h2 : l = k <;> simp [h1, h2]
theorem not_take_next {ps : List PI} {p : PI} {k : Nat} (h1 : k < ps.length) (h : p ∉ ps.take k) (e : ps[k] ≠ p) : p ∉ ps.take (k + 1) := by
  rw [List.take_succ_eq_append_getElem h1, List.mem_append, List.mem_singleton]
  rintro (z | z)
  · exact h z
  · exact e z.symm
set_option maxRecDepth 100000 in
set_option maxHeartbeats 1000000 in
theorem owns_any (c : Cf) (A : Option Addr) (m : Nat) (p : PI) (w : World) (hR : Rd w 2 PI.enc A c.own) (hn : c.own.length ≤ 1000000) :
    Calls Tryz.prog 30 #[cfV c A c.own.length m, pfV p] w fun e w' => e = .returned (.bool (decide (p ∈ c.own))) ∧ Kp w w' := by
  obtain ⟨b, hb⟩ : ∃ b, w.heap.size = b := ⟨_, rfl⟩
  obtain ⟨W, hW, kW, B0, B1⟩ : ∃ W, (w.alloc (.cells (cfC c A c.own.length m) 24)).alloc (.cells #[.int .u32 (p.a : Int), .int .i64 p.l] 29) = W ∧ Kp w W ∧ Blk W b 24 (cfC c A c.own.length m) ∧ Blk W (b + 1) 29 #[.int .u32 (p.a : Int), .int .i64 p.l] := ⟨_, rfl, ((Kp.refl _).alloc _).alloc _, by rw [← hb]; exact (Blk.new _ _ _).alloc _, by rw [← hb]; exact Blk.new1 _ _ _ _⟩
  have HR := Lib.hid (hR.keep kW)
  unfold cfC at hW
  clear hR
  go_enter Tryz.func30, Tryz.ntmps30
  go_wp2_with fail
  clear hW
  go_loopw [5] (fun i wr => ∃ k : Nat, k ≤ c.own.length ∧ i = .int .i64 k ∧ Hid (p ∉ c.own.take k) ∧ Kp W wr) (fun i _ => c.own.length - (intOf i).toNat)
  case atStart => exact ⟨0, Nat.zero_le _, rfl, Lib.hid (by simp), Kp.refl _⟩
  case round =>
    obtain ⟨k, hk, rfl, hN, hK⟩ := hrel
    have s8 : wr.cell? ⟨b, 8, none⟩ = some (.slice A c.own.length m) := (B0.keep hK).cell 8
    have q0 : wr.cell? ⟨b + 1, 0, none⟩ = some (.int .u32 (p.a : Int)) := (B1.keep hK).cell 0
    have q1 : wr.cell? ⟨b + 1, 1, none⟩ = some (.int .i64 p.l) := (B1.keep hK).cell 1
    by_cases hlt : k < c.own.length
    · have hgi : (k : Int) < (c.own.length : Int) := by omega
      have hg0 : (0 : Int) ≤ (k : Int) := by omega
      obtain ⟨b', off, rfl, c0, c1⟩ := pi_at (HR.out.keep hK) hlt
      have hne := fun u => pfx_eqlv u (c.own[k].a : Int) c.own[k].l (p.a : Int) p.l
      simp only [pi_beq] at hne
      by_cases he : c.own[k] = p
      · rw [decide_eq_true he] at hne
        have H := Lib.hid (show decide (p ∈ c.own) = true from decide_eq_true (by rw [← he]; exact List.getElem_mem hlt))
        clear he
        go_wp2_with fail
        go_quiet (fail)
        go_wp2_with fail
        go_ret
        exact ⟨by rw [H.out] <;> rfl, kW.trans (hK.drewN _)⟩
      · rw [decide_eq_false he] at hne
        have H := Lib.hid (not_take_next hlt hN.out he)
        clear he
        go_wp2_with fail
        go_quiet (fail)
        go_wp2_with fail
        go_roundw
        case rel => exact ⟨k + 1, by omega, by go_num, H, hK.drewN _⟩
        case measure => simp [intOf]; omega
    · obtain rfl : k = c.own.length := by omega
      have H := Lib.hid (show decide (p ∈ c.own) = false from decide_eq_false (by have := hN.out; rwa [List.take_length] at this))
      go_wp2_with fail
      go_ret
      exact ⟨by rw [H.out] <;> rfl, kW.trans hK⟩
set_option maxRecDepth 100000 in
set_option maxHeartbeats 4000000 in
theorem own08_any (l : List PI) (A : Option Addr) (m : Nat) (w : World) (hS : SlPI w A m l) (hw : ∀ k (hk : k < l.length), l[k].a < 4294967296) (hn : l.length ≤ 1000000) :
    Calls Tryz.prog 50 #[.slice A l.length m] w fun e w' => e = .returned (.bool (decide (l.length ≤ 16) && freeB l)) ∧ Kp w w' := by
  have HS := Lib.hid hS
  have HWF := Lib.hid hw
  clear hS hw
  by_cases h16 : l.length ≤ 16
  · have d16 : decide (16 < (l.length : Int)) = false := decide_eq_false (by omega)
    have HD := Lib.hid (show decide (l.length ≤ 16) = true from decide_eq_true h16)
    clear h16
    go_enter Tryz.func50, Tryz.ntmps50
    go_wp2_with fail
    go_loopw [3] (fun i wr => ∃ k : Nat, k ≤ l.length ∧ i = .int .i64 k ∧ Hid (freeB (l.take k) = true) ∧ Kp w wr) (fun i _ => l.length - (intOf i).toNat)
    case atStart => exact ⟨0, Nat.zero_le _, rfl, Lib.hid rfl, Kp.refl _⟩
    case round =>
      obtain ⟨k, hk, rfl, hF, hK⟩ := hrel
      by_cases hlt : k < l.length
      · have hgi : (k : Int) < (l.length : Int) := by omega
        have hg0 : (0 : Int) ≤ (k : Int) := by omega
        have hml := HS.out.le
        have hgm : (k : Int) ≤ (m : Int) := by omega
        obtain ⟨b, off, hA, c0, c1⟩ := pi_at (HS.out.rd.keep hK) hlt
        subst hA
        obtain ⟨q, hq⟩ : ∃ q, l[k] = q := ⟨_, rfl⟩
        rw [hq] at c0 c1
        have HC := Lib.hid (And.intro c0 c1)
        have HQ := Lib.hid (show q.a < 4294967296 by rw [← hq]; exact HWF.out k hlt)
        have HF := Lib.hid (show freeB (l.take (k + 1)) = (toldB q && decide (q ∉ l.take k)) by rw [freeB_take_succ hlt, hF.out, hq, Bool.true_and])
        clear c0 c1 hq
        go_upto_region 6 with (fail)
        cases ht : toldB q with
        | false =>
          have HT := Lib.hid ht
          have HN := Lib.hid (show freeB l = false from freeB_pre (i := k + 1) (by rw [HF.out, ht]; rfl))
          clear ht
          refine wp_anyZ [13, 14, 15, 16, 17, 18, 19, 20, 21, 22, 23, 24, 25, 26, 27, 28, 29] [.slice (some ⟨b, off, none⟩) l.length m, .int .i64 k, .pointer (some ⟨b, off + k * 2, none⟩), .agg #[.int .u32 (q.a : Int), .int .i64 q.l], .bool false, .bool true, .bool true, undef, undef, undef, undef, undef, undef, undef, undef, undef, .bool true] [true, true, true, true, true, true, true, false, false, false, false, false, false, false, false, false, true] (by kernel_rfl) (by kernel_rfl) (by kernel_rfl) rfl rfl (by decide) rfl rfl rfl ?_ ?_
          · intro i o a w9 ho hw f g hkp K hK
            have hi : i < 17 := by have := (List.getElem?_eq_some_iff.1 ho).1; simpa using this
            have hcs : i = 0 ∨ i = 1 ∨ i = 2 ∨ i = 3 ∨ i = 4 ∨ i = 5 ∨ i = 6 ∨ i = 7 ∨ i = 8 ∨ i = 9 ∨ i = 10 ∨ i = 11 ∨ i = 12 ∨ i = 13 ∨ i = 14 ∨ i = 15 ∨ i = 16 := by omega
            clear hi
            rcases hcs with rfl | rfl | rfl | rfl | rfl | rfl | rfl | rfl | rfl | rfl | rfl | rfl | rfl | rfl | rfl | rfl | rfl
            all_goals
              first | simp only [List.getElem?_cons_zero, List.getElem?_cons_succ, Option.some.injEq] at ho | replace ho := Option.some.inj ho
              subst ho
            · have t0 : a.tmps[0]?.getD undef = .slice (some ⟨b, off, none⟩) l.length m := g 0 (by decide)
              unfold Oper.wp
              simp only [execOp, Act.eval, Array.getD_eq_getD_getElem?]
              go_simp
              exact hK _ _ (Kp.refl _) rfl
            · have t3 : a.tmps[3]?.getD undef = .int .i64 k := g 3 (by decide)
              unfold Oper.wp
              simp only [execOp, Act.eval, Array.getD_eq_getD_getElem?]
              go_simp
              exact hK _ _ (Kp.refl _) rfl
            · have t13 : a.tmps[13]?.getD undef = .slice (some ⟨b, off, none⟩) l.length m := f 0 rfl
              have t14 : a.tmps[14]?.getD undef = .int .i64 k := f 1 rfl
              unfold Oper.wp
              simp only [execOp, Act.eval, Array.getD_eq_getD_getElem?]
              go_simp
              exact hK _ _ (Kp.refl _) rfl
            · have t15 : a.tmps[15]?.getD undef = .pointer (some ⟨b, off + k * 2, none⟩) := f 2 rfl
              have c0 : w9.cell? ⟨b, off + k * 2, none⟩ = some (.int .u32 (q.a : Int)) := hkp.cell HC.out.1
              have c1 : w9.cell? ⟨b, off + k * 2 + 1, none⟩ = some (.int .i64 q.l) := hkp.cell HC.out.2
              unfold Oper.wp
              simp only [execOp, Act.eval, Array.getD_eq_getD_getElem?]
              go_simp
              exact hK _ _ (Kp.refl _) rfl
            · have t16 : a.tmps[16]?.getD undef = .agg #[.int .u32 (q.a : Int), .int .i64 q.l] := f 3 rfl
              unfold Oper.wp
              simp only [execOp, Act.eval, Array.getD_eq_getD_getElem?]
              go_simp
              refine (good_any q _ HQ.out).mono ?_
              rintro e wa ⟨rfl, hKc⟩
              rw [HT.out]
              exact hK _ _ hKc rfl
            · have t17 : a.tmps[17]?.getD undef = .bool false := f 4 rfl
              unfold Oper.wp
              simp only [execOp, Act.eval, Array.getD_eq_getD_getElem?]
              go_simp
              exact hK _ _ (Kp.refl _) rfl
            · have t18 : a.tmps[18]?.getD undef = .bool true := f 5 rfl
              unfold Oper.wp
              simp only [execOp, Act.eval, Array.getD_eq_getD_getElem?]
              go_simp
              exact hK _ _ (Kp.refl _) rfl
            · exact Bool.noConfusion (show false = true from hw)
            · exact Bool.noConfusion (show false = true from hw)
            · exact Bool.noConfusion (show false = true from hw)
            · exact Bool.noConfusion (show false = true from hw)
            · exact Bool.noConfusion (show false = true from hw)
            · exact Bool.noConfusion (show false = true from hw)
            · exact Bool.noConfusion (show false = true from hw)
            · exact Bool.noConfusion (show false = true from hw)
            · exact Bool.noConfusion (show false = true from hw)
            · have t19 : a.tmps[19]?.getD undef = .bool true := f 6 rfl
              have t28 : a.tmps[28]?.getD undef = undef := f 15 rfl
              unfold Oper.wp
              simp only [execOp, Act.eval, Array.getD_eq_getD_getElem?]
              go_simp
              exact hK _ _ (Kp.refl _) rfl
          intro w9 KV
          (try simp only [Exit.then])
          simp only [wrS, List.zip_cons_cons, List.zip_nil_right, List.foldl_cons, List.foldl_nil, List.setIfInBounds_toArray, List.set_cons_zero, List.set_cons_succ]
          go_wp2_with fail
          go_ret
          exact ⟨by rw [HD.out, HN.out] <;> rfl, hK.trans KV⟩
        | true =>
          have HT := Lib.hid ht
          have HO : Hid (∀ u, Kp wr u → Calls Tryz.prog 30 #[.agg #[.int .i64 0, .int .i64 0, .int .i64 0, .int .i64 0, .int .i64 0, .int .i64 0, .int .i64 0, .int .i64 0, .slice (some ⟨b, off, none⟩) k m], .agg #[.int .u32 (q.a : Int), .int .i64 q.l]] u fun e w' => e = .returned (.bool (decide (q ∈ l.take k))) ∧ Kp u w') := by
            refine Lib.hid (fun u hu => ?_)
            have e : (l.take k).length = k := by rw [List.length_take]; omega
            have h0 := owns_any ⟨0, 0, 0, 0, 0, 0, 0, 0, l.take k⟩ (some ⟨b, off, none⟩) m q u (rd_take (HS.out.rd.keep (hK.trans hu)) k) (by rw [e]; omega)
            simp only [e] at h0
            exact h0
          clear ht
          cases ho : decide (q ∈ l.take k) with
          | true =>
            have hoo : decide (q ∈ l.take k) = true := ho
            rw [ho] at HO
            have HN := Lib.hid (show freeB l = false from freeB_pre (i := k + 1) (by rw [HF.out, HT.out]; simpa using ho))
            clear ho hoo
            refine wp_anyZ [13, 14, 15, 16, 17, 18, 19, 20, 21, 22, 23, 24, 25, 26, 27, 28, 29] [.slice (some ⟨b, off, none⟩) l.length m, .int .i64 k, .pointer (some ⟨b, off + k * 2, none⟩), .agg #[.int .u32 (q.a : Int), .int .i64 q.l], .bool true, .bool false, .bool false, .slice (some ⟨b, off, none⟩) l.length m, .int .i64 k, .slice (some ⟨b, off, none⟩) k m, .agg #[.int .i64 0, .int .i64 0, .int .i64 0, .int .i64 0, .int .i64 0, .int .i64 0, .int .i64 0, .int .i64 0, .slice (some ⟨b, off, none⟩) k m], .slice (some ⟨b, off, none⟩) l.length m, .int .i64 k, .pointer (some ⟨b, off + k * 2, none⟩), .agg #[.int .u32 (q.a : Int), .int .i64 q.l], .bool true, .bool true] [true, true, true, true, true, true, true, true, true, true, true, true, true, true, true, true, true] (by kernel_rfl) (by kernel_rfl) (by kernel_rfl) rfl rfl (by decide) rfl rfl rfl ?_ ?_
            · intro i o a w9 ho hw f g hkp K hK
              have hi : i < 17 := by have := (List.getElem?_eq_some_iff.1 ho).1; simpa using this
              have hcs : i = 0 ∨ i = 1 ∨ i = 2 ∨ i = 3 ∨ i = 4 ∨ i = 5 ∨ i = 6 ∨ i = 7 ∨ i = 8 ∨ i = 9 ∨ i = 10 ∨ i = 11 ∨ i = 12 ∨ i = 13 ∨ i = 14 ∨ i = 15 ∨ i = 16 := by omega
              clear hi
              rcases hcs with rfl | rfl | rfl | rfl | rfl | rfl | rfl | rfl | rfl | rfl | rfl | rfl | rfl | rfl | rfl | rfl | rfl
              all_goals
                first | simp only [List.getElem?_cons_zero, List.getElem?_cons_succ, Option.some.injEq] at ho | replace ho := Option.some.inj ho
                subst ho
              · have t0 : a.tmps[0]?.getD undef = .slice (some ⟨b, off, none⟩) l.length m := g 0 (by decide)
                unfold Oper.wp
                simp only [execOp, Act.eval, Array.getD_eq_getD_getElem?]
                go_simp
                exact hK _ _ (Kp.refl _) rfl
              · have t3 : a.tmps[3]?.getD undef = .int .i64 k := g 3 (by decide)
                unfold Oper.wp
                simp only [execOp, Act.eval, Array.getD_eq_getD_getElem?]
                go_simp
                exact hK _ _ (Kp.refl _) rfl
              · have t13 : a.tmps[13]?.getD undef = .slice (some ⟨b, off, none⟩) l.length m := f 0 rfl
                have t14 : a.tmps[14]?.getD undef = .int .i64 k := f 1 rfl
                unfold Oper.wp
                simp only [execOp, Act.eval, Array.getD_eq_getD_getElem?]
                go_simp
                exact hK _ _ (Kp.refl _) rfl
              · have t15 : a.tmps[15]?.getD undef = .pointer (some ⟨b, off + k * 2, none⟩) := f 2 rfl
                have c0 : w9.cell? ⟨b, off + k * 2, none⟩ = some (.int .u32 (q.a : Int)) := hkp.cell HC.out.1
                have c1 : w9.cell? ⟨b, off + k * 2 + 1, none⟩ = some (.int .i64 q.l) := hkp.cell HC.out.2
                unfold Oper.wp
                simp only [execOp, Act.eval, Array.getD_eq_getD_getElem?]
                go_simp
                exact hK _ _ (Kp.refl _) rfl
              · have t16 : a.tmps[16]?.getD undef = .agg #[.int .u32 (q.a : Int), .int .i64 q.l] := f 3 rfl
                unfold Oper.wp
                simp only [execOp, Act.eval, Array.getD_eq_getD_getElem?]
                go_simp
                refine (good_any q _ HQ.out).mono ?_
                rintro e wa ⟨rfl, hKc⟩
                rw [HT.out]
                exact hK _ _ hKc rfl
              · have t17 : a.tmps[17]?.getD undef = .bool true := f 4 rfl
                unfold Oper.wp
                simp only [execOp, Act.eval, Array.getD_eq_getD_getElem?]
                go_simp
                exact hK _ _ (Kp.refl _) rfl
              · have t18 : a.tmps[18]?.getD undef = .bool false := f 5 rfl
                unfold Oper.wp
                simp only [execOp, Act.eval, Array.getD_eq_getD_getElem?]
                go_simp
                exact hK _ _ (Kp.refl _) rfl
              · have t0 : a.tmps[0]?.getD undef = .slice (some ⟨b, off, none⟩) l.length m := g 0 (by decide)
                unfold Oper.wp
                simp only [execOp, Act.eval, Array.getD_eq_getD_getElem?]
                go_simp
                exact hK _ _ (Kp.refl _) rfl
              · have t3 : a.tmps[3]?.getD undef = .int .i64 k := g 3 (by decide)
                unfold Oper.wp
                simp only [execOp, Act.eval, Array.getD_eq_getD_getElem?]
                go_simp
                exact hK _ _ (Kp.refl _) rfl
              · have t20 : a.tmps[20]?.getD undef = .slice (some ⟨b, off, none⟩) l.length m := f 7 rfl
                have t21 : a.tmps[21]?.getD undef = .int .i64 k := f 8 rfl
                unfold Oper.wp
                simp only [execOp, Act.eval, Array.getD_eq_getD_getElem?]
                go_simp
                exact hK _ _ (Kp.refl _) rfl
              · have t22 : a.tmps[22]?.getD undef = .slice (some ⟨b, off, none⟩) k m := f 9 rfl
                unfold Oper.wp
                simp only [execOp, Act.eval, Array.getD_eq_getD_getElem?]
                go_simp
                exact hK _ _ (Kp.refl _) rfl
              · have t0 : a.tmps[0]?.getD undef = .slice (some ⟨b, off, none⟩) l.length m := g 0 (by decide)
                unfold Oper.wp
                simp only [execOp, Act.eval, Array.getD_eq_getD_getElem?]
                go_simp
                exact hK _ _ (Kp.refl _) rfl
              · have t3 : a.tmps[3]?.getD undef = .int .i64 k := g 3 (by decide)
                unfold Oper.wp
                simp only [execOp, Act.eval, Array.getD_eq_getD_getElem?]
                go_simp
                exact hK _ _ (Kp.refl _) rfl
              · have t24 : a.tmps[24]?.getD undef = .slice (some ⟨b, off, none⟩) l.length m := f 11 rfl
                have t25 : a.tmps[25]?.getD undef = .int .i64 k := f 12 rfl
                unfold Oper.wp
                simp only [execOp, Act.eval, Array.getD_eq_getD_getElem?]
                go_simp
                exact hK _ _ (Kp.refl _) rfl
              · have t26 : a.tmps[26]?.getD undef = .pointer (some ⟨b, off + k * 2, none⟩) := f 13 rfl
                have c0 : w9.cell? ⟨b, off + k * 2, none⟩ = some (.int .u32 (q.a : Int)) := hkp.cell HC.out.1
                have c1 : w9.cell? ⟨b, off + k * 2 + 1, none⟩ = some (.int .i64 q.l) := hkp.cell HC.out.2
                unfold Oper.wp
                simp only [execOp, Act.eval, Array.getD_eq_getD_getElem?]
                go_simp
                exact hK _ _ (Kp.refl _) rfl
              · have t23 : a.tmps[23]?.getD undef = .agg #[.int .i64 0, .int .i64 0, .int .i64 0, .int .i64 0, .int .i64 0, .int .i64 0, .int .i64 0, .int .i64 0, .slice (some ⟨b, off, none⟩) k m] := f 10 rfl
                have t27 : a.tmps[27]?.getD undef = .agg #[.int .u32 (q.a : Int), .int .i64 q.l] := f 14 rfl
                unfold Oper.wp
                simp only [execOp, Act.eval, Array.getD_eq_getD_getElem?]
                go_simp
                refine (HO.out _ hkp).mono ?_
                rintro e wa ⟨rfl, hKc⟩
                exact hK _ _ hKc rfl
              · have t19 : a.tmps[19]?.getD undef = .bool false := f 6 rfl
                have t28 : a.tmps[28]?.getD undef = .bool true := f 15 rfl
                unfold Oper.wp
                simp only [execOp, Act.eval, Array.getD_eq_getD_getElem?]
                go_simp
                exact hK _ _ (Kp.refl _) rfl
            intro w9 KV
            (try simp only [Exit.then])
            simp only [wrS, List.zip_cons_cons, List.zip_nil_right, List.foldl_cons, List.foldl_nil, List.setIfInBounds_toArray, List.set_cons_zero, List.set_cons_succ]
            go_wp2_with fail
            go_ret
            exact ⟨by rw [HD.out, HN.out] <;> rfl, hK.trans KV⟩
          | false =>
            rw [ho] at HO
            have HN := Lib.hid (show freeB (l.take (k + 1)) = true by rw [HF.out, HT.out]; simpa using ho)
            clear ho
            refine wp_anyZ [13, 14, 15, 16, 17, 18, 19, 20, 21, 22, 23, 24, 25, 26, 27, 28, 29] [.slice (some ⟨b, off, none⟩) l.length m, .int .i64 k, .pointer (some ⟨b, off + k * 2, none⟩), .agg #[.int .u32 (q.a : Int), .int .i64 q.l], .bool true, .bool false, .bool false, .slice (some ⟨b, off, none⟩) l.length m, .int .i64 k, .slice (some ⟨b, off, none⟩) k m, .agg #[.int .i64 0, .int .i64 0, .int .i64 0, .int .i64 0, .int .i64 0, .int .i64 0, .int .i64 0, .int .i64 0, .slice (some ⟨b, off, none⟩) k m], .slice (some ⟨b, off, none⟩) l.length m, .int .i64 k, .pointer (some ⟨b, off + k * 2, none⟩), .agg #[.int .u32 (q.a : Int), .int .i64 q.l], .bool false, .bool false] [true, true, true, true, true, true, true, true, true, true, true, true, true, true, true, true, true] (by kernel_rfl) (by kernel_rfl) (by kernel_rfl) rfl rfl (by decide) rfl rfl rfl ?_ ?_
            · intro i o a w9 ho hw f g hkp K hK
              have hi : i < 17 := by have := (List.getElem?_eq_some_iff.1 ho).1; simpa using this
              have hcs : i = 0 ∨ i = 1 ∨ i = 2 ∨ i = 3 ∨ i = 4 ∨ i = 5 ∨ i = 6 ∨ i = 7 ∨ i = 8 ∨ i = 9 ∨ i = 10 ∨ i = 11 ∨ i = 12 ∨ i = 13 ∨ i = 14 ∨ i = 15 ∨ i = 16 := by omega
              clear hi
              rcases hcs with rfl | rfl | rfl | rfl | rfl | rfl | rfl | rfl | rfl | rfl | rfl | rfl | rfl | rfl | rfl | rfl | rfl
              all_goals
                first | simp only [List.getElem?_cons_zero, List.getElem?_cons_succ, Option.some.injEq] at ho | replace ho := Option.some.inj ho
                subst ho
              · have t0 : a.tmps[0]?.getD undef = .slice (some ⟨b, off, none⟩) l.length m := g 0 (by decide)
                unfold Oper.wp
                simp only [execOp, Act.eval, Array.getD_eq_getD_getElem?]
                go_simp
                exact hK _ _ (Kp.refl _) rfl
              · have t3 : a.tmps[3]?.getD undef = .int .i64 k := g 3 (by decide)
                unfold Oper.wp
                simp only [execOp, Act.eval, Array.getD_eq_getD_getElem?]
                go_simp
                exact hK _ _ (Kp.refl _) rfl
              · have t13 : a.tmps[13]?.getD undef = .slice (some ⟨b, off, none⟩) l.length m := f 0 rfl
                have t14 : a.tmps[14]?.getD undef = .int .i64 k := f 1 rfl
                unfold Oper.wp
                simp only [execOp, Act.eval, Array.getD_eq_getD_getElem?]
                go_simp
                exact hK _ _ (Kp.refl _) rfl
              · have t15 : a.tmps[15]?.getD undef = .pointer (some ⟨b, off + k * 2, none⟩) := f 2 rfl
                have c0 : w9.cell? ⟨b, off + k * 2, none⟩ = some (.int .u32 (q.a : Int)) := hkp.cell HC.out.1
                have c1 : w9.cell? ⟨b, off + k * 2 + 1, none⟩ = some (.int .i64 q.l) := hkp.cell HC.out.2
                unfold Oper.wp
                simp only [execOp, Act.eval, Array.getD_eq_getD_getElem?]
                go_simp
                exact hK _ _ (Kp.refl _) rfl
              · have t16 : a.tmps[16]?.getD undef = .agg #[.int .u32 (q.a : Int), .int .i64 q.l] := f 3 rfl
                unfold Oper.wp
                simp only [execOp, Act.eval, Array.getD_eq_getD_getElem?]
                go_simp
                refine (good_any q _ HQ.out).mono ?_
                rintro e wa ⟨rfl, hKc⟩
                rw [HT.out]
                exact hK _ _ hKc rfl
              · have t17 : a.tmps[17]?.getD undef = .bool true := f 4 rfl
                unfold Oper.wp
                simp only [execOp, Act.eval, Array.getD_eq_getD_getElem?]
                go_simp
                exact hK _ _ (Kp.refl _) rfl
              · have t18 : a.tmps[18]?.getD undef = .bool false := f 5 rfl
                unfold Oper.wp
                simp only [execOp, Act.eval, Array.getD_eq_getD_getElem?]
                go_simp
                exact hK _ _ (Kp.refl _) rfl
              · have t0 : a.tmps[0]?.getD undef = .slice (some ⟨b, off, none⟩) l.length m := g 0 (by decide)
                unfold Oper.wp
                simp only [execOp, Act.eval, Array.getD_eq_getD_getElem?]
                go_simp
                exact hK _ _ (Kp.refl _) rfl
              · have t3 : a.tmps[3]?.getD undef = .int .i64 k := g 3 (by decide)
                unfold Oper.wp
                simp only [execOp, Act.eval, Array.getD_eq_getD_getElem?]
                go_simp
                exact hK _ _ (Kp.refl _) rfl
              · have t20 : a.tmps[20]?.getD undef = .slice (some ⟨b, off, none⟩) l.length m := f 7 rfl
                have t21 : a.tmps[21]?.getD undef = .int .i64 k := f 8 rfl
                unfold Oper.wp
                simp only [execOp, Act.eval, Array.getD_eq_getD_getElem?]
                go_simp
                exact hK _ _ (Kp.refl _) rfl
              · have t22 : a.tmps[22]?.getD undef = .slice (some ⟨b, off, none⟩) k m := f 9 rfl
                unfold Oper.wp
                simp only [execOp, Act.eval, Array.getD_eq_getD_getElem?]
                go_simp
                exact hK _ _ (Kp.refl _) rfl
              · have t0 : a.tmps[0]?.getD undef = .slice (some ⟨b, off, none⟩) l.length m := g 0 (by decide)
                unfold Oper.wp
                simp only [execOp, Act.eval, Array.getD_eq_getD_getElem?]
                go_simp
                exact hK _ _ (Kp.refl _) rfl
              · have t3 : a.tmps[3]?.getD undef = .int .i64 k := g 3 (by decide)
                unfold Oper.wp
                simp only [execOp, Act.eval, Array.getD_eq_getD_getElem?]
                go_simp
                exact hK _ _ (Kp.refl _) rfl
              · have t24 : a.tmps[24]?.getD undef = .slice (some ⟨b, off, none⟩) l.length m := f 11 rfl
                have t25 : a.tmps[25]?.getD undef = .int .i64 k := f 12 rfl
                unfold Oper.wp
                simp only [execOp, Act.eval, Array.getD_eq_getD_getElem?]
                go_simp
                exact hK _ _ (Kp.refl _) rfl
              · have t26 : a.tmps[26]?.getD undef = .pointer (some ⟨b, off + k * 2, none⟩) := f 13 rfl
                have c0 : w9.cell? ⟨b, off + k * 2, none⟩ = some (.int .u32 (q.a : Int)) := hkp.cell HC.out.1
                have c1 : w9.cell? ⟨b, off + k * 2 + 1, none⟩ = some (.int .i64 q.l) := hkp.cell HC.out.2
                unfold Oper.wp
                simp only [execOp, Act.eval, Array.getD_eq_getD_getElem?]
                go_simp
                exact hK _ _ (Kp.refl _) rfl
              · have t23 : a.tmps[23]?.getD undef = .agg #[.int .i64 0, .int .i64 0, .int .i64 0, .int .i64 0, .int .i64 0, .int .i64 0, .int .i64 0, .int .i64 0, .slice (some ⟨b, off, none⟩) k m] := f 10 rfl
                have t27 : a.tmps[27]?.getD undef = .agg #[.int .u32 (q.a : Int), .int .i64 q.l] := f 14 rfl
                unfold Oper.wp
                simp only [execOp, Act.eval, Array.getD_eq_getD_getElem?]
                go_simp
                refine (HO.out _ hkp).mono ?_
                rintro e wa ⟨rfl, hKc⟩
                exact hK _ _ hKc rfl
              · have t19 : a.tmps[19]?.getD undef = .bool false := f 6 rfl
                have t28 : a.tmps[28]?.getD undef = .bool false := f 15 rfl
                unfold Oper.wp
                simp only [execOp, Act.eval, Array.getD_eq_getD_getElem?]
                go_simp
                exact hK _ _ (Kp.refl _) rfl
            intro w9 KV
            (try simp only [Exit.then])
            simp only [wrS, List.zip_cons_cons, List.zip_nil_right, List.foldl_cons, List.foldl_nil, List.setIfInBounds_toArray, List.set_cons_zero, List.set_cons_succ]
            go_wp2_with fail
            go_roundw
            case rel => exact ⟨k + 1, by omega, by go_num, HN, hK.trans KV⟩
            case measure => simp [intOf]; omega
      · obtain rfl : k = l.length := by omega
        have HN := Lib.hid (show freeB l = true by have := hF.out; rwa [List.take_length] at this)
        go_wp2_with fail
        go_ret
        exact ⟨by rw [HD.out, HN.out] <;> rfl, hK⟩
  · have d16 : decide (16 < (l.length : Int)) = true := decide_eq_true (by omega)
    have HD := Lib.hid (show decide (l.length ≤ 16) = false from decide_eq_false h16)
    clear h16
    go_enter Tryz.func50, Tryz.ntmps50
    go_wp2_with fail
    go_ret
    exact ⟨by rw [HD.out] <;> rfl, Kp.refl _⟩
end Go.Proofs.YtffckpkikdlbpaaGreatDoor
