/- Lemmas and contracts for the theorem of this claim: R12B, R12C. -/
import Derived.Test.YtffckpkikdlbpaaGreatDoorZvBb
import Derived.Deep.CutBlock
set_option linter.all false
set_option maxHeartbeats 16000000
namespace Go.Proofs.YtffckpkikdlbpaaGreatDoor
section
open Go.RowKit
theorem ERt12 : ElemOf Tryz.prog 37 48 (.agg #[.int .u32 0, .int .i64 0, .int .i64 0, .int .i64 0, .int .i64 0, .int .i64 0, .int .u32 0, .int .i64 0, .bool false]) 9 72 := ⟨Tryz.underlying37, by kernel_rfl, rfl, by decide⟩
def zeroTb : Tb := ⟨⟨0, 0, 0, 0, 0, 0, 0, 0, []⟩, [], 0, 0⟩
def zero12 : Array Value := #[.int .i64 0, .int .i64 0, .int .i64 0, .int .i64 0, .int .i64 0, .int .i64 0, .int .i64 0, .int .i64 0, .slice none 0 0, .slice none 0 0, .int .i64 0, .int .i64 0]
theorem Blk.set12 {W : World} {g : Nat} {v0 v1 v2 v3 v4 v5 v6 v7 v8 v9 v10 v11 : Value} {T : Tb} {A E : Option Addr} {m n : Nat} (B : Blk W g 39 (tbR T A E m n)) :
  Blk ((((((((((((W.setCell ⟨g, 0, none⟩ v0).setCell ⟨g, 1, none⟩ v1).setCell ⟨g, 2, none⟩ v2).setCell ⟨g, 3, none⟩ v3).setCell ⟨g, 4, none⟩ v4).setCell ⟨g, 5, none⟩ v5).setCell ⟨g, 6, none⟩ v6).setCell ⟨g, 7, none⟩ v7).setCell ⟨g, 8, none⟩ v8).setCell ⟨g, 9, none⟩ v9).setCell ⟨g, 10, none⟩ v10).setCell ⟨g, 11, none⟩ v11) g 39 #[v0, v1, v2, v3, v4, v5, v6, v7, v8, v9, v10, v11] := by
 have h := (((((((((((B.set_ 0 v0).set_ 1 v1).set_ 2 v2).set_ 3 v3).set_ 4 v4).set_ 5 v5).set_ 6 v6).set_ 7 v7).set_ 8 v8).set_ 9 v9).set_ 10 v10).set_ 11 v11
 have e : (((((((((((((tbR T A E m n).setIfInBounds 0 v0).setIfInBounds 1 v1).setIfInBounds 2 v2).setIfInBounds 3 v3).setIfInBounds 4 v4).setIfInBounds 5 v5).setIfInBounds 6 v6).setIfInBounds 7 v7).setIfInBounds 8 v8).setIfInBounds 9 v9).setIfInBounds 10 v10).setIfInBounds 11 v11) = #[v0, v1, v2, v3, v4, v5, v6, v7, v8, v9, v10, v11] := by
  unfold tbR
  simp
 rw [e] at h
 exact h
theorem Kp.set12 {w W : World} {g : Nat} {v0 v1 v2 v3 v4 v5 v6 v7 v8 v9 v10 v11 : Value} (k : Kp w W) (h : w.heap.size ≤ g) :
  Kp w ((((((((((((W.setCell ⟨g, 0, none⟩ v0).setCell ⟨g, 1, none⟩ v1).setCell ⟨g, 2, none⟩ v2).setCell ⟨g, 3, none⟩ v3).setCell ⟨g, 4, none⟩ v4).setCell ⟨g, 5, none⟩ v5).setCell ⟨g, 6, none⟩ v6).setCell ⟨g, 7, none⟩ v7).setCell ⟨g, 8, none⟩ v8).setCell ⟨g, 9, none⟩ v9).setCell ⟨g, 10, none⟩ v10).setCell ⟨g, 11, none⟩ v11) :=
 (((((((((((k.setCell h _).setCell h _).setCell h _).setCell h _).setCell h _).setCell h _).setCell h _).setCell h _).setCell h _).setCell h _).setCell h _).setCell h _
theorem vlJ {fn : Func} {k g : Nat} {ts : Array Value} {W : World} {T : Tb} {A E : Option Addr} {m n : Nat} (hf : fn.results = #[.cell k 39]) (hk : ts.getD k undef = .pointer (some ⟨g, 0, none⟩)) (B : Blk W g 39 (tbR T A E m n)) : (results fn ts).run Tryz.prog W = .ok (tbV T A E m n) W := by
 obtain ⟨u0, u1, u2, u3, u4, u5, u6, u7, u8, u9, u10, u11⟩ := vbj B
 rw [Array.getD_eq_getD_getElem?] at hk
 simp [results, hf, hk, go_sem, u0, u1, u2, u3, u4, u5, u6, u7, u8, u9, u10, u11]
theorem Own.set12 {α : Type} {W : World} {g base e sz : Nat} {enc : α → List Value} {v : Value} {xs : List α} {v0 v1 v2 v3 v4 v5 v6 v7 v8 v9 v10 v11 : Value} (h : Own W base e sz enc v xs) (hg : g < base) : Own ((((((((((((W.setCell ⟨g, 0, none⟩ v0).setCell ⟨g, 1, none⟩ v1).setCell ⟨g, 2, none⟩ v2).setCell ⟨g, 3, none⟩ v3).setCell ⟨g, 4, none⟩ v4).setCell ⟨g, 5, none⟩ v5).setCell ⟨g, 6, none⟩ v6).setCell ⟨g, 7, none⟩ v7).setCell ⟨g, 8, none⟩ v8).setCell ⟨g, 9, none⟩ v9).setCell ⟨g, 10, none⟩ v10).setCell ⟨g, 11, none⟩ v11) base e sz enc v xs :=
 (((((((((((h.setBelow hg _).setBelow hg _).setBelow hg _).setBelow hg _).setBelow hg _).setBelow hg _).setBelow hg _).setBelow hg _).setBelow hg _).setBelow hg _).setBelow hg _).setBelow hg _
def WiR (W : World) (r : Rt) (L : List Rt) (x : Rt) (k : Nat) (s5 s6 : Value) (wx : World) : Prop := ∃ M d A2 c2, s5 = .slice A2 M.length c2 ∧ s6 = .bool d ∧ M ++ ((if x.p = r.p then [] else [x]) ++ withG r d (L.drop (k + 1))) = setR r L ∧ Own wx W.heap.size 48 9 Rt.enc (.slice A2 M.length c2) M ∧ Kp W wx
set_option maxRecDepth 100000 in
theorem vmX (w : World) (a l b k : Int) : (binOp .neq 29 (.agg #[.int .u32 a, .int .i64 l]) (.agg #[.int .u32 b, .int .i64 k])).run Tryz.prog w = .ok (.bool (!(a == b && l == k))) w := by
 rw [run_neq_struct, run_equalIn_agg w 9999 _ _ _ Tryz.underlying29 (by kernel_rfl)]
 simp [Op.eqFields, part, go_sem, Tryz.underlying3, Tryz.underlying27]
 by_cases h1 : a = b <;> by_cases h2 : l = k <;> simp [h1, h2]
theorem vle (w : World) (p q : PI) : (binOp .neq 29 (.agg #[.int .u32 (p.a : Int), .int .i64 p.l]) (.agg #[.int .u32 (q.a : Int), .int .i64 q.l])).run Tryz.prog w = .ok (.bool (!decide (p = q))) w := by
 rw [vmX, vgo]
theorem vmY (r : Rt) (L : List Rt) : (setR r L).length ≤ L.length + 1 := by
 have h := (vao r L).length_eq
 rw [List.length_append] at h
 have h2 : (offR r.p L).length ≤ L.length := List.length_filter_le _ _
 have h3 : (if r.s = 0 then [] else [r]).length ≤ 1 := by split <;> simp
 omega
set_option maxRecDepth 100000 in
theorem vaV (T : Tb) (A E : Option Addr) (m n : Nat) (r : Rt) (w : World) (hR : Rd w 9 Rt.enc E T.l) (hn : T.l.length ≤ 900000) :
  Calls Tryz.prog 91 #[tbV T A E m n, roV r] w fun e w' => ∃ E2 n2, e = .returned (tbV ⟨T.c, setR r T.l, T.now, T.rf⟩ A E2 m n2) ∧ Rd w' 9 Rt.enc E2 (setR r T.l) ∧ (∀ a, E2 = some a → w.heap.size ≤ a.block) ∧ Kp w w' := by
 obtain ⟨b, hb⟩ : ∃ b, w.heap.size = b := ⟨_, rfl⟩
 obtain ⟨W, hW, kW, B0, B1, B2⟩ : ∃ W, ((w.alloc (.cells (tbR T A E m n) 39)).alloc (.cells (roC r) 48)).alloc (.cells zero12 39) = W ∧ Kp w W ∧ Blk W b 39 (tbR T A E m n) ∧ Blk W (b + 1) 48 (roC r) ∧ Blk W (b + 1 + 1) 39 (tbR zeroTb none none 0 0) := ⟨_, rfl, (((Kp.refl _).alloc _).alloc _).alloc _, by rw [← hb]; exact ((Blk.new _ _ _).alloc _).alloc _, by rw [← hb]; exact (Blk.new1 _ _ _ _).alloc _, by rw [← hb]; exact Blk.new2 _ _ _ _ _⟩
 have HR := Lib.hid (hR.keep kW)
 have Hb := Lib.hid hb
 have HN := Lib.hid hn
 have hle := vmY r T.l
 have HSL := Lib.hid (show (setR r T.l).length ≤ 900001 by omega)
 have q2 := Blk.f B1 rfl
 unfold tbR roC zero12 at hW
 have HB0 := Lib.hid B0
 have HB1 := Lib.hid B1
 have HB2 := Lib.hid B2
 have HkW := Lib.hid kW
 clear hR hle hn B0 B1 B2 kW
 obtain ⟨d0, hd0⟩ : ∃ d0, (r.s == 0) = d0 := ⟨_, rfl⟩
 have R0 : Hid (([] : List Rt) ++ withG r d0 (T.l.drop 0) = setR r T.l) := Lib.hid (by rw [← hd0]; unfold setR; rw [List.drop_zero, List.nil_append]; congr 1)
 have O0 : Hid (Own W W.heap.size 48 9 Rt.enc (.slice none 0 0) ([] : List Rt)) := Lib.hid (Own.nil _ _ _ _ _)
 go_enter Tryz.func91, Tryz.ntmps91
 go_wp2_with fail
 clear hW q2 hd0
 go_loopw [5, 6, 7] (fun s5 s6 s7 wr => ∃ (k : Nat) (M : List Rt) (d : Bool) (A2 : Option Addr) (c2 : Nat), k ≤ T.l.length ∧ s5 = .slice A2 M.length c2 ∧ s6 = .bool d ∧ s7 = .int .i64 k ∧ Hid (M ++ withG r d (T.l.drop k) = setR r T.l) ∧ Hid (Own wr W.heap.size 48 9 Rt.enc (.slice A2 M.length c2) M) ∧ Hid (Kp W wr)) (fun _ _ k _ => T.l.length - (intOf k).toNat)
 case atStart => exact ⟨0, [], d0, none, 0, Nat.zero_le _, rfl, rfl, rfl, R0, O0, Lib.hid (Kp.refl _)⟩
 case round =>
  obtain ⟨k, M, d, A2, c2, hk, rfl, rfl, rfl, HM, HOw, HK⟩ := hrel
  have s9 := Blk.f (HB0.out.keep HK.out) rfl
  by_cases hlt : k < T.l.length
  ·have hgi : (k : Int) < (T.l.length : Int) := by omega
   have hg0 : (0 : Int) ≤ (k : Int) := by omega
   obtain ⟨b2, off, hE, c0, c1, c2', c3, c4, c5, c6, c7, c8⟩ := vaU (HR.out.keep HK.out) hlt
   subst hE
   obtain ⟨x, hx⟩ : ∃ x, T.l[k] = x := ⟨_, rfl⟩
   have HX := Lib.hid hx
   rw [hx] at c0 c1 c2' c3 c4 c5 c6 c7 c8
   have HC := Lib.hid (And.intro c0 (And.intro c1 (And.intro c2' (And.intro c3 (And.intro c4 (And.intro c5 (And.intro c6 (And.intro c7 c8))))))))
   have HD : Hid (M ++ ((if !d && decide (ordI r.p.a r.p.l x.p.a x.p.l ≤ 0) then [r] else []) ++ ((if x.p = r.p then [] else [x]) ++ withG r (d || decide (ordI r.p.a r.p.l x.p.a x.p.l ≤ 0)) (T.l.drop (k + 1)))) = setR r T.l) := Lib.hid (by
    have h := HM.out
    rw [List.drop_eq_getElem_cons hlt, hx] at h
    unfold withG at h
    exact h)
   have hML : M.length ≤ 900001 := by
    have h1 := congrArg List.length HM.out
    rw [List.length_append] at h1
    have := HSL.out
    omega
   have HML := Lib.hid hML
   clear c0 c1 c2' c3 c4 c5 c6 c7 c8 hx HM hML
   go_upto_block 1 with (fail)
   refine wp_block ?_
   refine wp_seq_k (fun K9 hK9 => ?_)
   go_cut [5, 6] from 11 to 52 (fun s5 s6 wx => WiR W r T.l x k s5 s6 wx)
   case first =>
    go_upto_region 6 with (fail)
    cases d with
    | true =>
     clear s9
     refine' vag (fun (_ : Unit) _ V9 => Kp _ V9) [18, 19, 20, 21, 22, 23, 24, 25, 26, 27, 28, 29, 30, 31] (fun (_ : Unit) => [.bool true, .bool false, .bool false, undef, undef, undef, undef, undef, undef, undef, undef, undef, undef, .bool false]) [true, true, true, false, false, false, false, false, false, false, false, false, false, true] [] (by kernel_rfl) (by kernel_rfl) (fun _ => rfl) (fun _ => rfl) (fun _ => rfl) () (Kp.refl _).drew (fun _ _ _ _ _ h => h) ?_ ?_ ?_
     rotate_left
     ·intro z; simp only [List.zip_cons_cons, List.zip_nil_right, wrC, wrN, List.set_cons_zero, List.set_cons_succ, List.set_nil]; rfl
     ·repeat' (first | refine And.intro ?_ ?_ | exact trivial)
      all_goals intro z L a w9 hLi d hcl hM hO K hK
      all_goals try (go_simp; exact hK z _ _ (hO rfl) (fun _ _ => rfl) rfl)
     intro z L w9 hL KV
     (try simp only [Exit.then])
     go_wp2_with fail
     go_meet
     case rel => exact ⟨M, true, A2, c2, rfl, rfl, HD.out, HOw.out.keep KV, HK.out.trans KV⟩
    | false =>
     obtain ⟨o, ho⟩ : ∃ o, ordI r.p.a r.p.l x.p.a x.p.l = o := ⟨_, rfl⟩
     have HO := Lib.hid ho
     by_cases hz : o ≤ 0
     ·have de : decide (o ≤ 0) = true := decide_eq_true hz
      have HE : Hid ((M ++ [r]) ++ ((if x.p = r.p then [] else [x]) ++ withG r true (T.l.drop (k + 1))) = setR r T.l) := Lib.hid (by
       have h := HD.out
       rw [ho, de] at h
       rw [List.append_assoc]
       exact h)
      clear ho hz
      refine' vag (fun (_ : Unit) _ V9 => Kp _ V9) [18, 19, 20, 21, 22, 23, 24, 25, 26, 27, 28, 29, 30, 31] (fun (_ : Unit) => [.bool false, .bool true, .bool true, .pointer (some ⟨b + 1, 0, none⟩), .agg #[.int .u32 (r.p.a : Int), .int .i64 r.p.l], .pointer (some ⟨b, 9, none⟩), .slice (some ⟨b2, off, none⟩) T.l.length n, .int .i64 k, .pointer (some ⟨b2, off + k * 9, none⟩), .pointer (some ⟨b2, off + k * 9, none⟩), .agg #[.int .u32 (x.p.a : Int), .int .i64 x.p.l], .int .i64 o, .bool true, .bool true]) (List.replicate 14 true) [] (by kernel_rfl) (by kernel_rfl) (fun _ => rfl) (fun _ => rfl) (fun _ => rfl) () (Kp.refl _).drew (fun _ _ _ _ _ h => h) ?_ ?_ ?_
      rotate_left
      ·intro z; simp only [List.zip_cons_cons, List.zip_nil_right, wrC, wrN, List.set_cons_zero, List.set_cons_succ, List.set_nil]; rfl
      ·repeat' (first | refine And.intro ?_ ?_ | exact trivial)
       all_goals intro z L a w9 hLi d hcl hM hO K hK
       all_goals try (go_simp; exact hK z _ _ (hO rfl) (fun _ _ => rfl) rfl)
       ·have q0 := Blk.f (HB1.out.keep (HK.out.trans hM)) rfl
        go_simp
        exact hK z _ _ (hO rfl) (fun _ _ => rfl) rfl
       ·have s9 := Blk.f (HB0.out.keep (HK.out.trans hM)) rfl
        go_simp
        exact hK z _ _ (hO rfl) (fun _ _ => rfl) rfl
       ·have c0 : w9.cell? ⟨b2, off + k * 9, none⟩ = some (.int .u32 (x.p.a : Int)) := hM.cell HC.out.1
        have c1 : w9.cell? ⟨b2, off + k * 9 + 1, none⟩ = some (.int .i64 x.p.l) := hM.cell HC.out.2.1
        go_simp
        exact hK z _ _ (hO rfl) (fun _ _ => rfl) rfl
       ·go_simp
        refine (vaX _ _ _ _ _).mono ?_
        rintro e9 wb ⟨rfl, hKc⟩
        rw [HO.out]
        exact hK z _ _ (hM.trans hKc) (fun _ _ => rfl) rfl
      intro z L w9 hL KV
      (try simp only [Exit.then])
      have q0 := Blk.f (HB1.out.keep (HK.out.trans KV)) rfl
      have o1 := HOw.out.keep KV
      have k1 := HK.out.trans KV
      have sz1 := k1.size
      go_wp2_with (at_builtin; go_must (refine vau ERt12 rfl _ _ rfl r rfl o1 k1 (Nat.le_refl _) sz1 rfl rfl rfl rfl rfl (by have := HML.out; omega) ?_); intro v3 w3 hown3 hK3 hg3; obtain ⟨A3, c3, hv3⟩ := hown3.form1; subst hv3)
      go_meet
      case rel => exact ⟨M ++ [r], true, A3, c3, by rw [List.length_append, List.length_singleton], rfl, HE.out, by rw [List.length_append, List.length_singleton]; exact hown3, hK3⟩
     ·have de : decide (o ≤ 0) = false := decide_eq_false hz
      have HE : Hid (M ++ ((if x.p = r.p then [] else [x]) ++ withG r false (T.l.drop (k + 1))) = setR r T.l) := Lib.hid (by
       have h := HD.out
       rw [ho, de] at h
       exact h)
      clear ho hz
      refine' vag (fun (_ : Unit) _ V9 => Kp _ V9) [18, 19, 20, 21, 22, 23, 24, 25, 26, 27, 28, 29, 30, 31] (fun (_ : Unit) => [.bool false, .bool true, .bool true, .pointer (some ⟨b + 1, 0, none⟩), .agg #[.int .u32 (r.p.a : Int), .int .i64 r.p.l], .pointer (some ⟨b, 9, none⟩), .slice (some ⟨b2, off, none⟩) T.l.length n, .int .i64 k, .pointer (some ⟨b2, off + k * 9, none⟩), .pointer (some ⟨b2, off + k * 9, none⟩), .agg #[.int .u32 (x.p.a : Int), .int .i64 x.p.l], .int .i64 o, .bool false, .bool false]) (List.replicate 14 true) [] (by kernel_rfl) (by kernel_rfl) (fun _ => rfl) (fun _ => rfl) (fun _ => rfl) () (Kp.refl _).drew (fun _ _ _ _ _ h => h) ?_ ?_ ?_
      rotate_left
      ·intro z; simp only [List.zip_cons_cons, List.zip_nil_right, wrC, wrN, List.set_cons_zero, List.set_cons_succ, List.set_nil]; rfl
      ·repeat' (first | refine And.intro ?_ ?_ | exact trivial)
       all_goals intro z L a w9 hLi d hcl hM hO K hK
       all_goals try (go_simp; exact hK z _ _ (hO rfl) (fun _ _ => rfl) rfl)
       ·have q0 := Blk.f (HB1.out.keep (HK.out.trans hM)) rfl
        go_simp
        exact hK z _ _ (hO rfl) (fun _ _ => rfl) rfl
       ·have s9 := Blk.f (HB0.out.keep (HK.out.trans hM)) rfl
        go_simp
        exact hK z _ _ (hO rfl) (fun _ _ => rfl) rfl
       ·have c0 : w9.cell? ⟨b2, off + k * 9, none⟩ = some (.int .u32 (x.p.a : Int)) := hM.cell HC.out.1
        have c1 : w9.cell? ⟨b2, off + k * 9 + 1, none⟩ = some (.int .i64 x.p.l) := hM.cell HC.out.2.1
        go_simp
        exact hK z _ _ (hO rfl) (fun _ _ => rfl) rfl
       ·go_simp
        refine (vaX _ _ _ _ _).mono ?_
        rintro e9 wb ⟨rfl, hKc⟩
        rw [HO.out]
        exact hK z _ _ (hM.trans hKc) (fun _ _ => rfl) rfl
      intro z L w9 hL KV
      (try simp only [Exit.then])
      go_wp2_with fail
      go_meet
      case rel => exact ⟨M, false, A2, c2, rfl, rfl, HE.out, HOw.out.keep KV, HK.out.trans KV⟩
   case rest =>
    obtain ⟨M', d', A3, c3, rfl, rfl, hM, hO, hK⟩ := hcut
    have HK2 := Lib.hid hK
    have HO2 := Lib.hid hO
    have HM2 := Lib.hid hM
    have HML2 : Hid (M'.length ≤ 900001) := Lib.hid (by
     have h1 := congrArg List.length hM
     rw [List.length_append] at h1
     have := HSL.out
     omega)
    have s9 := Blk.f (HB0.out.keep hK) rfl
    have q0 := Blk.f (HB1.out.keep hK) rfl
    obtain ⟨b4, off4, hE4, c0, c1, c2', c3', c4, c5, c6, c7, c8⟩ := vaU (HR.out.keep hK) hlt
    injection hE4 with hE4
    injection hE4 with hE4 hE5
    subst hE4 hE5
    rw [HX.out] at c0 c1 c2' c3' c4 c5 c6 c7 c8
    have hne := fun u => vle u x.p r.p
    clear hM hO hK HD HOw HK
    have hnn := HN.out
    by_cases he : x.p = r.p
    ·rw [decide_eq_true he] at hne
     have HE : Hid (M' ++ withG r d' (T.l.drop (k + 1)) = setR r T.l) := Lib.hid (by
      have h := HM2.out
      rw [if_pos he, List.nil_append] at h
      exact h)
     clear he
     go_upto_region 9 with (fail)
     go_quiet (fail)
     go_wp2_with fail
     go_roundw
     case rel => exact ⟨k + 1, M', d', A3, c3, by omega, rfl, rfl, by go_num, HE, Lib.hid (HO2.out.keep ((Kp.refl _).drewN _)), Lib.hid (HK2.out.drewN _)⟩
     case measure => simp [intOf]; omega
    ·rw [decide_eq_false he] at hne
     have HE : Hid ((M' ++ [x]) ++ withG r d' (T.l.drop (k + 1)) = setR r T.l) := Lib.hid (by
      have h := HM2.out
      rw [if_neg he] at h
      rw [List.append_assoc]
      exact h)
     clear he
     go_upto_region 9 with (fail)
     go_quiet (fail)
     have o1 := fun z => HO2.out.keep ((Kp.refl wc).drewN z)
     have k1 := fun z => HK2.out.drewN z
     have sz1 := HK2.out.size
     go_wp2_with (at_builtin; go_must (refine vau ERt12 rfl _ _ rfl x rfl (o1 _) (k1 _) (Nat.le_refl _) sz1 rfl rfl rfl rfl rfl (by have := HML2.out; omega) ?_); intro v5 w5 hown5 hK5 hg5; obtain ⟨A5, c5', hv5⟩ := hown5.form1; subst hv5)
     go_roundw
     case rel => exact ⟨k + 1, M' ++ [x], d', A5, c5', by omega, by rw [List.length_append, List.length_singleton], rfl, by go_num, HE, Lib.hid (by rw [List.length_append, List.length_singleton]; exact hown5), Lib.hid hK5⟩
     case measure => simp [intOf]; omega
  ·obtain rfl : k = T.l.length := by omega
   have hM := HM.out
   rw [List.drop_length] at hM
   unfold withG at hM
   cases d with
   | true =>
    have hE : M = setR r T.l := by simpa using hM
    subst hE
    clear hM HM
    have B0k := HB0.out.keep HK.out
    have B2k := HB2.out.keep HK.out
    have z9b := B0k.frozen 9
    have s9 := Blk.f B0k rfl
    obtain ⟨V, hV, B0t, B2t, KT, OT⟩ : ∃ V, wr.setCell ⟨b, 9, none⟩ (.slice A2 (setR r T.l).length c2) = V ∧ Blk V b 39 (tbR ⟨T.c, setR r T.l, T.now, T.rf⟩ A A2 m c2) ∧ Blk V (b + 1 + 1) 39 (tbR zeroTb none none 0 0) ∧ Kp w V ∧ Own V W.heap.size 48 9 Rt.enc (.slice A2 (setR r T.l).length c2) (setR r T.l) := ⟨_, rfl, B0k.set_ 9 _, B2k.far (by simp <;> omega) _, (HkW.out.trans HK.out).setCell (by have := Hb.out; simp <;> omega) _, HOw.out.setBelow (by have := HB0.out.lt; exact this) _⟩
    have HOT := Lib.hid OT
    have HKT := Lib.hid KT
    clear B0k B2k OT KT
    go_upto_region 14 with (fail)
    clear s9 z9b hV
    have u0 := Blk.f B0t rfl
    have y0 := Blk.f B2t rfl
    have z0 := Blk.frozen B2t
    have HB2t := Lib.hid B2t
    clear B0t B2t
    go_wp2_with fail
    have hgw : w.heap.size ≤ b + 1 + 1 := by have := Hb.out; omega
    refine bodyPost_ret (vlJ (T := ⟨T.c, setR r T.l, T.now, T.rf⟩) (A := A) (E := A2) (m := m) (n := c2) rfl rfl (Blk.set12 HB2t.out)) rfl ?_
    first | refine ⟨A2, c2, rfl, ?_, ?_, Kp.set12 HKT.out hgw⟩ | refine ⟨A2, ⟨c2, rfl⟩, ?_, ?_, Kp.set12 HKT.out hgw⟩
    rotate_left
    ·intro a ha
     have h1 := HkW.out.size
     subst ha
     have h2 := (World.ownsRow.lt HOT.out a.block rfl).1
     omega
    obtain ⟨A9, c9, e9, h9⟩ := (Own.set12 HOT.out (show b + 1 + 1 < W.heap.size from HB2.out.lt)).rd (by decide) Rt.len
    injection e9 with e9 _ _
    subst e9
    exact h9
   | false =>
    have hE : M ++ [r] = setR r T.l := by simpa using hM
    have hlen : M.length + 1 = (setR r T.l).length := by rw [← hE, List.length_append, List.length_singleton]
    have HML : Hid (M.length ≤ 900001) := Lib.hid (by have := HSL.out; omega)
    have HE := Lib.hid hE
    have HLE := Lib.hid hlen
    clear hM HM hE hlen
    have q0 := Blk.f (HB1.out.keep HK.out) rfl
    have s9 := Blk.f (HB0.out.keep HK.out) rfl
    have o1 := HOw.out
    have k1 := HK.out
    have sz1 := k1.size
    go_upto_region 13 with (at_builtin; go_must (refine vau ERt12 rfl _ _ rfl r rfl o1 k1 (Nat.le_refl _) sz1 rfl rfl rfl rfl rfl (by have := HML.out; omega) ?_); intro v3 w3 hown3 hK3 hg3; obtain ⟨A3, c3, hv3⟩ := hown3.form1; subst hv3)
    rw [HE.out, HLE.out] at hown3
    rw [HLE.out]
    clear HOw HK
    have HOw := Lib.hid hown3
    have HK := Lib.hid hK3
    clear q0 o1 k1 sz1 hown3 hK3 hg3 s9
    have B0k := HB0.out.keep HK.out
    have B2k := HB2.out.keep HK.out
    have z9b := B0k.frozen 9
    have s9 := Blk.f B0k rfl
    obtain ⟨V, hV, B0t, B2t, KT, OT⟩ : ∃ V, w3.setCell ⟨b, 9, none⟩ (.slice A3 (setR r T.l).length c3) = V ∧ Blk V b 39 (tbR ⟨T.c, setR r T.l, T.now, T.rf⟩ A A3 m c3) ∧ Blk V (b + 1 + 1) 39 (tbR zeroTb none none 0 0) ∧ Kp w V ∧ Own V W.heap.size 48 9 Rt.enc (.slice A3 (setR r T.l).length c3) (setR r T.l) := ⟨_, rfl, B0k.set_ 9 _, B2k.far (by simp <;> omega) _, (HkW.out.trans HK.out).setCell (by have := Hb.out; simp <;> omega) _, HOw.out.setBelow (by have := HB0.out.lt; exact this) _⟩
    have HOT := Lib.hid OT
    have HKT := Lib.hid KT
    clear B0k B2k OT KT
    go_upto_region 14 with (fail)
    clear s9 z9b hV
    have u0 := Blk.f B0t rfl
    have y0 := Blk.f B2t rfl
    have z0 := Blk.frozen B2t
    have HB2t := Lib.hid B2t
    clear B0t B2t
    go_wp2_with fail
    have hgw : w.heap.size ≤ b + 1 + 1 := by have := Hb.out; omega
    refine bodyPost_ret (vlJ (T := ⟨T.c, setR r T.l, T.now, T.rf⟩) (A := A) (E := A3) (m := m) (n := c3) rfl rfl (Blk.set12 HB2t.out)) rfl ?_
    first | refine ⟨A3, c3, rfl, ?_, ?_, Kp.set12 HKT.out hgw⟩ | refine ⟨A3, ⟨c3, rfl⟩, ?_, ?_, Kp.set12 HKT.out hgw⟩
    rotate_left
    ·intro a ha
     have h1 := HkW.out.size
     subst ha
     have h2 := (World.ownsRow.lt HOT.out a.block rfl).1
     omega
    obtain ⟨A9, c9, e9, h9⟩ := (Own.set12 HOT.out (show b + 1 + 1 < W.heap.size from HB2.out.lt)).rd (by decide) Rt.len
    injection e9 with e9 _ _
    subst e9
    exact h9
def ChR (W : World) (L : List Rt) (i : Nat) (v : Value) (V : World) : Prop := Own V W.heap.size 48 9 Rt.enc v (newsL (L.take i)) ∧ Kp W V
theorem viW (L : List Rt) : (newsL L).length ≤ L.length := List.length_filter_le _ _
theorem viX {L : List Rt} {i : Nat} (h : i < L.length) : newsL (L.take (i + 1)) = newsL (L.take i) ++ (if L[i].c = true then [L[i]] else []) := by
 unfold newsL
 rw [List.take_succ_eq_append_getElem h, List.filter_append, List.filter_cons, List.filter_nil]
set_option maxRecDepth 100000 in
theorem vbL (T : Tb) (A E : Option Addr) (m n : Nat) (w : World) (hR : Rd w 9 Rt.enc E T.l) (hn : T.l.length ≤ 900000) :
  Calls Tryz.prog 75 #[tbV T A E m n] w fun e w' => ∃ E2 n2, e = .returned (.slice E2 (newsL T.l).length n2) ∧ Rd w' 9 Rt.enc E2 (newsL T.l) ∧ Kp w w' := by
 obtain ⟨b, hb⟩ : ∃ b, w.heap.size = b := ⟨_, rfl⟩
 obtain ⟨W, hW, kW, B0⟩ := Blk.al1 hb (tbR T A E m n) 39
 have HR := Lib.hid (hR.keep kW)
 have HB0 := Lib.hid B0
 have HkW := Lib.hid kW
 unfold tbR at hW
 obtain ⟨L, hL⟩ : ∃ L, T.l = L := ⟨_, rfl⟩
 have HL := Lib.hid hL
 rw [hL] at HR hn
 have R0 : Hid (ChR W L 0 (.slice none 0 0) W) := Lib.hid ⟨by rw [List.take_zero]; exact Own.nil _ _ _ _ _, Kp.refl _⟩
 clear hR B0 kW hL
 go_enter Tryz.func75, Tryz.ntmps75
 go_wp2_with fail
 clear hW
 go_loopw [3, 4] (fun v k wr => ∃ i : Nat, i ≤ L.length ∧ k = .int .i64 i ∧ Hid (ChR W L i v wr)) (fun _ k _ => L.length - (intOf k).toNat)
 case atStart => exact ⟨0, Nat.zero_le _, rfl, R0⟩
 case round =>
  obtain ⟨i, hi, rfl, R⟩ := hrel
  obtain ⟨A2, c2, hv⟩ := R.out.1.form
  subst hv
  have s9 : wr.cell? ⟨b, 9, none⟩ = some (.slice E L.length n) := by have := (HB0.out.keep R.out.2).cell 9; rw [← HL.out]; exact this
  by_cases hlt : i < L.length
  ·have hgi : (i : Int) < (L.length : Int) := by omega
   have hg0 : (0 : Int) ≤ (i : Int) := by omega
   obtain ⟨b2, off, hA, c0, c1, c2', c3, c4, c5, c6, c7, c8⟩ := vaU (HR.out.keep R.out.2) hlt
   subst hA
   have HN := Lib.hid (viX hlt)
   obtain ⟨r, hr⟩ : ∃ r, L[i] = r := ⟨_, rfl⟩
   rw [hr] at c0 c1 c2' c3 c4 c5 c6 c7 c8 HN
   have HM := Lib.hid (show (newsL (L.take i)).length ≤ 900000 by
    have h1 := viW (L.take i)
    rw [List.length_take] at h1
    omega)
   obtain ⟨M, hM⟩ : ∃ M, newsL (L.take i) = M := ⟨_, rfl⟩
   have o1 := R.out.1
   have k1 := R.out.2
   have sz1 := k1.size
   rw [hM] at o1 HN HM ⊢
   clear hr hM R
   cases hc : r.c with
   | true =>
    rw [hc] at c8
    have HE := Lib.hid (show newsL (L.take (i + 1)) = M ++ [r] by rw [HN.out, if_pos hc])
    have c8b : wr.cell? ⟨b2, off + i * 9 + 8, none⟩ = some (.bool r.c) := by rw [hc]; exact c8
    have Hhc := Lib.hid hc
    clear HN
    go_wp2_with (at_builtin; go_must (refine vau ERt12 rfl _ _ rfl r rfl o1 k1 (Nat.le_refl _) sz1 rfl rfl (by unfold Rt.enc; rw [Hhc.out]) rfl rfl (by have := HM.out; omega) ?_); intro v3 w3 hown3 hK3 hg3; obtain ⟨A3, c3', hv3⟩ := hown3.form1; subst hv3)
    go_roundw
    case rel => exact ⟨i + 1, by omega, by go_num, Lib.hid ⟨by rw [HE.out]; exact hown3, hK3⟩⟩
    case measure => simp [intOf]; omega
   | false =>
    rw [hc] at c8
    have HE := Lib.hid (show newsL (L.take (i + 1)) = M by rw [HN.out, hc]; simp)
    have HO := Lib.hid (And.intro o1 k1)
    clear HN hc o1 k1
    go_wp2_with fail
    go_roundw
    case rel => exact ⟨i + 1, by omega, by go_num, Lib.hid ⟨by rw [HE.out]; exact HO.out.1, HO.out.2⟩⟩
    case measure => simp [intOf]; omega
  ·obtain rfl : i = L.length := by omega
   have hl := R.out.1
   rw [List.take_length] at hl
   rw [List.take_length]
   have HO := Lib.hid (And.intro hl R.out.2)
   clear hl
   go_wp2_with fail
   go_ret
   refine ⟨A2, c2, by rw [HL.out]; rfl, ?_, HkW.out.trans HO.out.2⟩
   obtain ⟨A9, c9, e9, h9⟩ := HO.out.1.rd (by decide) Rt.len
   injection e9 with e9 _ _
   subst e9
   rw [HL.out]
   exact h9
theorem Only.set9 {bs : List Nat} {w W : World} {g : Nat} {v0 v1 v2 v3 v4 v5 v6 v7 v8 : Value} (k : Only bs w W) (h : g ∈ bs) : Only bs w (((((((((W.setCell ⟨g, 0, none⟩ v0).setCell ⟨g, 1, none⟩ v1).setCell ⟨g, 2, none⟩ v2).setCell ⟨g, 3, none⟩ v3).setCell ⟨g, 4, none⟩ v4).setCell ⟨g, 5, none⟩ v5).setCell ⟨g, 6, none⟩ v6).setCell ⟨g, 7, none⟩ v7).setCell ⟨g, 8, none⟩ v8) :=
 ((((((((k.setCell (.inl h) _).setCell (.inl h) _).setCell (.inl h) _).setCell (.inl h) _).setCell (.inl h) _).setCell (.inl h) _).setCell (.inl h) _).setCell (.inl h) _).setCell (.inl h) _
def FiR (W : World) (g : Nat) (L : List Rt) (i : Nat) (is : Bool) (V : World) : Prop := is = ((L.take i).foldl firstS none).isSome ∧ Blk V g 48 (roC (((L.take i).foldl firstS none).getD zeroR)) ∧ Only [g] W V
theorem vhu {L : List Rt} {i : Nat} (h : i < L.length) : (L.take (i + 1)).foldl firstS none = firstS ((L.take i).foldl firstS none) L[i] := by
 rw [List.take_succ_eq_append_getElem h, List.foldl_append, List.foldl_cons, List.foldl_nil]
set_option maxRecDepth 100000 in
theorem vcO (T : Tb) (A E : Option Addr) (m n : Nat) (w : World) (hR : Rd w 9 Rt.enc E T.l) (hn : T.l.length ≤ 900000) :
  Calls Tryz.prog 74 #[tbV T A E m n] w fun e w' => e = .returned (.tuple #[roV ((firstR T.l).getD zeroR), .bool (firstR T.l).isSome]) ∧ Kp w w' := by
 obtain ⟨b, hb⟩ : ∃ b, w.heap.size = b := ⟨_, rfl⟩
 obtain ⟨W, hW, kW, B0, B1, B2⟩ : ∃ W, ((w.alloc (.cells (tbR T A E m n) 39)).alloc (.cells zero9 48)).alloc (.cells zero9 48) = W ∧ Kp w W ∧ Blk W b 39 (tbR T A E m n) ∧ Blk W (b + 1) 48 (roC zeroR) ∧ Blk W (b + 1 + 1) 48 (roC zeroR) := ⟨_, rfl, (((Kp.refl _).alloc _).alloc _).alloc _, by rw [← hb]; exact ((Blk.new _ _ _).alloc _).alloc _, by rw [← hb]; exact (Blk.new1 _ _ _ _).alloc _, by rw [← hb]; exact Blk.new2 _ _ _ _ _⟩
 obtain ⟨L, hL⟩ : ∃ L, T.l = L := ⟨_, rfl⟩
 have HL := Lib.hid hL
 rw [hL] at hR hn
 have HR := Lib.hid hR
 have HB0 := Lib.hid B0
 have HB1 := Lib.hid B1
 have HkW := Lib.hid kW
 have Hb := Lib.hid hb
 have HF0 : Hid (FiR W (b + 1 + 1) L 0 false W) := Lib.hid ⟨rfl, B2, Only.refl _ _⟩
 unfold tbR zero9 at hW
 clear hR B0 B1 B2 kW hL
 go_enter Tryz.func74, Tryz.ntmps74
 go_wp2_with fail
 clear hW
 go_loopw [5, 6] (fun s k wr => ∃ (i : Nat) (is : Bool), i ≤ L.length ∧ s = .bool is ∧ k = .int .i64 i ∧ Hid (FiR W (b + 1 + 1) L i is wr)) (fun _ k _ => L.length - (intOf k).toNat)
 case atStart => exact ⟨0, false, Nat.zero_le _, rfl, rfl, HF0⟩
 case round =>
  obtain ⟨i, is, hi, rfl, rfl, HF⟩ := hrel
  have s9 : wr.cell? ⟨b, 9, none⟩ = some (.slice E L.length n) := by have := (HB0.out.only HF.out.2.2 (by simp <;> omega)).cell 9; rw [← HL.out]; exact this
  by_cases hlt : i < L.length
  ·have hgi : (i : Int) < (L.length : Int) := by omega
   have hg0 : (0 : Int) ≤ (i : Int) := by omega
   have HNX := Lib.hid (vhu hlt)
   have kr : Kp w wr := HF.out.2.2.kp HkW.out (fun b' hb' => by have := Hb.out; simp at hb'; omega)
   obtain ⟨b2, off, hA, c0, c1, c2, c3, c4, c5, c6, c7, c8⟩ := vaU (HR.out.keep kr) hlt
   subst hA
   clear kr
   obtain ⟨x, hx⟩ : ∃ x, L[i] = x := ⟨_, rfl⟩
   rw [hx] at c0 c1 c2 c3 c4 c5 c6 c7 c8 HNX
   clear hx
   obtain ⟨o, ho⟩ : ∃ o, (L.take i).foldl firstS none = o := ⟨_, rfl⟩
   obtain ⟨his, hB, hO⟩ := HF.out
   rw [ho] at his hB HNX
   subst his
   have HB := Lib.hid hB
   have HO := Lib.hid hO
   clear ho hO HF
   by_cases h2 : 2 ≤ x.s
   ·have d2 : decide (2 ≤ x.s) = true := decide_eq_true h2
    cases o with
    | none =>
     have HE := Lib.hid (show (L.take (i + 1)).foldl firstS none = some x by rw [HNX.out]; unfold firstS; rw [d2]; rfl)
     clear h2 HNX
     simp only [Option.isSome_none]
     go_upto_region 6 with (fail)
     go_quiet (fail)
     have y0 := Blk.f HB.out rfl
     have z0 := Blk.frozen HB.out
     go_wp2_with fail
     go_roundw
     case rel => exact ⟨i + 1, true, by omega, rfl, by go_num, Lib.hid ⟨by rw [HE.out]; rfl, by rw [HE.out]; exact Blk.set9 (HB.out.drewN _), Only.set9 (HO.out.drewN _) (by simp)⟩⟩
     case measure => simp [intOf]; omega
    | some y =>
     have y7 := Blk.f hB rfl
     simp only [Option.isSome_some]
     by_cases hd : x.d < y.d
     ·have dd : decide (x.d < y.d) = true := decide_eq_true hd
      have HE := Lib.hid (show (L.take (i + 1)).foldl firstS none = some x by rw [HNX.out]; unfold firstS; rw [d2]; simp [hd])
      clear h2 HNX hd
      go_upto_region 6 with (fail)
      go_quiet (fail)
      have y0 := Blk.f HB.out rfl
      have z0 := Blk.frozen HB.out
      go_wp2_with fail
      go_roundw
      case rel => exact ⟨i + 1, true, by omega, rfl, by go_num, Lib.hid ⟨by rw [HE.out]; rfl, by rw [HE.out]; exact Blk.set9 (HB.out.drewN _), Only.set9 (HO.out.drewN _) (by simp)⟩⟩
      case measure => simp [intOf]; omega
     ·have dd : decide (x.d < y.d) = false := decide_eq_false hd
      have HE := Lib.hid (show (L.take (i + 1)).foldl firstS none = some y by rw [HNX.out]; unfold firstS; rw [d2]; simp [hd])
      clear h2 HNX hd
      go_upto_region 6 with (fail)
      go_quiet (fail)
      go_wp2_with fail
      go_roundw
      case rel => exact ⟨i + 1, true, by omega, rfl, by go_num, Lib.hid ⟨by rw [HE.out]; rfl, by rw [HE.out]; exact HB.out.drewN _, HO.out.drewN _⟩⟩
      case measure => simp [intOf]; omega
   ·have d2 : decide (2 ≤ x.s) = false := decide_eq_false h2
    have HE := Lib.hid (show (L.take (i + 1)).foldl firstS none = o by rw [HNX.out]; unfold firstS; rw [d2]; rfl)
    clear h2 HNX
    go_upto_region 6 with (fail)
    go_quiet (fail)
    go_wp2_with fail
    go_roundw
    case rel => exact ⟨i + 1, o.isSome, by omega, rfl, by go_num, Lib.hid ⟨by rw [HE.out], by rw [HE.out]; exact HB.out.drewN _, HO.out.drewN _⟩⟩
    case measure => simp [intOf]; omega
  ·obtain rfl : i = L.length := by omega
   obtain ⟨his, hB, hO⟩ := HF.out
   rw [List.take_length] at his hB
   have B1k := HB1.out.only hO (by simp)
   have kr : Kp w wr := hO.kp HkW.out (fun b' hb' => by have := Hb.out; simp at hb'; omega)
   have q0 := Blk.f hB rfl
   have y0 := Blk.f B1k rfl
   have z0 := Blk.frozen B1k
   have HIS := Lib.hid his
   have HB1k := Lib.hid B1k
   have HKR := Lib.hid kr
   clear his hB hO HF B1k kr
   go_wp2_with fail
   have hgw : w.heap.size ≤ b + 1 := by have := Hb.out; omega
   refine bodyPost_ret (vfF (R := (L.foldl firstS none).getD zeroR) rfl rfl rfl (Blk.set9 HB1k.out)) rfl ⟨?_, Kp.set9 HKR.out hgw⟩
   rw [HL.out, HIS.out]
   rfl
end

end Go.Proofs.YtffckpkikdlbpaaGreatDoor
