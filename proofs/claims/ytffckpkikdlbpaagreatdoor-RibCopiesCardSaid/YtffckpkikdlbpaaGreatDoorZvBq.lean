/- Lemmas and contracts for the theorem of this claim: R12S. -/
import Derived.Test.YtffckpkikdlbpaaGreatDoorZvBp
import Derived.Deep.CutBlock
set_option linter.all false
set_option maxHeartbeats 16000000
namespace Go.Proofs.YtffckpkikdlbpaaGreatDoor
section
open Go.RowKit
def SrR (wr : World) (S : List PI) (p : PI) (s5 s6 : Value) (wx : World) : Prop := ∃ k th, k ≤ S.length ∧ s5 = .int .i64 (k : Nat) ∧ s6 = .bool th ∧ (∀ x ∈ S.take k, ¬ ltP p x) ∧ (∀ hk : k < S.length, ltP p S[k]) ∧ th = decide (p ∈ S.take k) ∧ Kp wr wx
theorem vnn {S : List PI} {k : Nat} (hk : k < S.length) {p : PI} (h : ∀ x ∈ S.take k, ¬ ltP p x) (e : ¬ ltP p S[k]) : ∀ x ∈ S.take (k + 1), ¬ ltP p x := by
 intro x hx
 rcases (vax hk x).1 hx with rfl | hx
 ·exact e
 ·exact h x hx
theorem vcJ {S : List PI} {k : Nat} (hk : k < S.length) {p : PI} : decide (p ∈ S.take (k + 1)) = (decide (p ∈ S.take k) || decide (S[k] = p)) := by
 by_cases h1 : p ∈ S.take k
 ·simp [h1, (vax hk p).2 (.inr h1)]
 ·by_cases h2 : S[k] = p
  ·have : p ∈ S.take (k + 1) := (vax hk p).2 (.inl h2.symm)
   simp [this, h2]
  ·have : p ∉ S.take (k + 1) := fun z => by
    rcases (vax hk p).1 z with e | e
    ·exact h2 e.symm
    ·exact h1 e
   simp [this, h1, h2]
structure SoR (w : World) (l : List PI) (i : Nat) (S : List PI) (v : Value) (W : World) : Prop where
 up : UpP S
 mem : ∀ x, x ∈ S ↔ x ∈ l.take i
 len : S.length ≤ i
 ow : Own W w.heap.size 29 2 PI.enc v S
 kp : Kp w W
set_option maxRecDepth 100000 in
theorem vjs (l : List PI) (A : Option Addr) (m : Nat) (w : World) (hR : Rd w 2 PI.enc A l) (hn : l.length ≤ 100000) :
  Calls Tryz.prog 79 #[.slice A l.length m] w fun e w' => ∃ S E2 n2, e = .returned (.slice E2 S.length n2) ∧ UpP S ∧ (∀ x, x ∈ S ↔ x ∈ l) ∧ Own w' w.heap.size 29 2 PI.enc (.slice E2 S.length n2) S ∧ Kp w w' := by
 have HR := Lib.hid hR
 clear hR
 have R0 : Hid (SoR w l 0 [] (.slice none 0 0) w) := Lib.hid ⟨List.Pairwise.nil, by simp, Nat.zero_le _, Own.nil _ _ _ _ _, Kp.refl _⟩
 go_enter Tryz.func79, Tryz.ntmps79
 go_wp2_with fail
 go_loopw [3, 4] (fun s3 s4 wr => ∃ (i : Nat) (S : List PI) (E2 : Option Addr) (c2 : Nat), i ≤ l.length ∧ s3 = .slice E2 S.length c2 ∧ s4 = .int .i64 i ∧ Hid (SoR w l i S (.slice E2 S.length c2) wr)) (fun _ s _ => l.length - (intOf s).toNat)
 case atStart => exact ⟨0, [], none, 0, Nat.zero_le _, rfl, rfl, R0⟩
 case round =>
  obtain ⟨i, S, E2, c2, hi, rfl, rfl, HS⟩ := hrel
  by_cases hlt : i < l.length
  ·have hgi : (i : Int) < (l.length : Int) := by omega
   have hg0 : (0 : Int) ≤ (i : Int) := by omega
   obtain ⟨b1, off1, hA, p0, p1⟩ := pi_at (HR.out.keep HS.out.kp) hlt
   subst hA
   obtain ⟨p, hp⟩ : ∃ p, l[i] = p := ⟨_, rfl⟩
   have HPI := Lib.hid hp
   rw [hp] at p0 p1
   have HP := Lib.hid (And.intro p0 p1)
   clear p0 p1 hp
   obtain ⟨A9, c9, e9, hrd⟩ := HS.out.ow.rd (by decide) PI.len
   have e10 : E2 = A9 := by injection e9
   subst e10
   clear e9
   have HRD := Lib.hid hrd
   have hSl : S.length ≤ 100000 := by have := HS.out.len; omega
   clear hrd
   go_upto_block 2 with (fail)
   go_cut [5, 6] from 7 to 59 (fun s5 s6 wx => SrR wr S p s5 s6 wx)
   case first =>
    refine wp_block ?_
    go_loopw [5, 6] (fun s5 s6 wk => ∃ (k : Nat) (th : Bool), k ≤ S.length ∧ s5 = .int .i64 k ∧ s6 = .bool th ∧ Hid (∀ x ∈ S.take k, ¬ ltP p x) ∧ Hid (th = decide (p ∈ S.take k)) ∧ Hid (Kp wr wk)) (fun s _ _ => S.length - (intOf s).toNat)
    case atStart => exact ⟨0, false, Nat.zero_le _, rfl, rfl, Lib.hid (by simp), Lib.hid (by simp), Lib.hid (Kp.refl _)⟩
    case round =>
     obtain ⟨k, th, hk, rfl, rfl, HLE, HTH, HKk⟩ := hrel
     by_cases hkl : k < S.length
     ·obtain ⟨b3, off3, hE, x0, x1⟩ := pi_at (HRD.out.keep HKk.out) hkl
      subst hE
      obtain ⟨x, hx⟩ : ∃ x, S[k] = x := ⟨_, rfl⟩
      have HXK := Lib.hid hx
      rw [hx] at x0 x1
      have HX := Lib.hid (And.intro x0 x1)
      have hki : (k : Int) < (S.length : Int) := by omega
      have hk0 : (0 : Int) ≤ (k : Int) := by omega
      have dk : decide ((k : Int) < (S.length : Int)) = true := decide_eq_true hki
      obtain ⟨o, ho⟩ : ∃ o, ordI x.a x.l p.a p.l = o := ⟨_, rfl⟩
      have HO := Lib.hid ho
      by_cases hz : o ≤ 0
      ·have de : decide (o ≤ 0) = true := decide_eq_true hz
       have HL2 := Lib.hid (vnn hkl HLE.out (by rw [hx]; rw [← ho] at hz; exact vdj.1 hz))
       have hpe := fun u => vgp u x p
       go_upto_region 6 with (fail)
       refine' vag (fun (_ : Unit) _ V9 => Kp _ V9) [13, 14, 15, 16, 17, 18, 19, 20, 21, 22, 23, 24, 25, 26, 27, 28] (fun (_ : Unit) => [.int .i64 k, .slice (some ⟨b3, off3, none⟩) S.length c2, .int .i64 S.length, .bool true, .bool true, .slice (some ⟨b3, off3, none⟩) S.length c2, .int .i64 k, .pointer (some ⟨b3, off3 + k * 2, none⟩), .agg #[.int .u32 (x.a : Int), .int .i64 x.l], .slice (some ⟨b1, off1, none⟩) l.length m, .int .i64 i, .pointer (some ⟨b1, off1 + i * 2, none⟩), .agg #[.int .u32 (p.a : Int), .int .i64 p.l], .int .i64 o, .bool true, .bool true]) (List.replicate 16 true) [] (by kernel_rfl) (by kernel_rfl) (fun _ => rfl) (fun _ => rfl) (fun _ => rfl) () (Kp.refl _).drew (fun _ _ _ _ _ h => h) ?_ ?_ ?_
       rotate_left
       ·intro z; simp only [List.zip_cons_cons, List.zip_nil_right, wrC, wrN, List.set_cons_zero, List.set_cons_succ, List.set_nil]; rfl
       ·repeat' (first | refine And.intro ?_ ?_ | exact trivial)
        all_goals intro z L a w9 hLi d hcl hM hO K hK
        all_goals try (go_simp; exact hK z _ _ (hO rfl) (fun _ _ => rfl) rfl)
        ·have c0 : w9.cell? ⟨b3, off3 + k * 2, none⟩ = some (.int .u32 (x.a : Int)) := hM.cell HX.out.1
         have c1 : w9.cell? ⟨b3, off3 + k * 2 + 1, none⟩ = some (.int .i64 x.l) := hM.cell HX.out.2
         go_simp
         exact hK z _ _ (hO rfl) (fun _ _ => rfl) rfl
        ·have c0 : w9.cell? ⟨b1, off1 + i * 2, none⟩ = some (.int .u32 (p.a : Int)) := hM.cell (HKk.out.cell HP.out.1)
         have c1 : w9.cell? ⟨b1, off1 + i * 2 + 1, none⟩ = some (.int .i64 p.l) := hM.cell (HKk.out.cell HP.out.2)
         go_simp
         exact hK z _ _ (hO rfl) (fun _ _ => rfl) rfl
        ·go_simp
         refine (vaX _ _ _ _ _).mono ?_
         rintro e9 wb ⟨rfl, hKc⟩
         rw [HO.out]
         exact hK z _ _ (hM.trans hKc) (fun _ _ => rfl) rfl
       intro z L w9 hL KV
       (try simp only [Exit.then])
       have HK2 := Lib.hid (HKk.out.trans KV)
       have x0 : w9.cell? ⟨b3, off3 + k * 2, none⟩ = some (.int .u32 (x.a : Int)) := KV.cell HX.out.1
       have x1 : w9.cell? ⟨b3, off3 + k * 2 + 1, none⟩ = some (.int .i64 x.l) := KV.cell HX.out.2
       have p0 : w9.cell? ⟨b1, off1 + i * 2, none⟩ = some (.int .u32 (p.a : Int)) := HK2.out.cell HP.out.1
       have p1 : w9.cell? ⟨b1, off1 + i * 2 + 1, none⟩ = some (.int .i64 p.l) := HK2.out.cell HP.out.2
       clear KV hx ho hz
       cases th with
       | true =>
        have HT2 := Lib.hid (show true = decide (p ∈ S.take (k + 1)) by rw [vcJ hkl, ← HTH.out]; rfl)
        go_upto_region 7 with (fail)
        go_quiet (fail)
        go_wp2_with fail
        go_roundw
        case rel => exact ⟨k + 1, true, by omega, by go_num, rfl, HL2, HT2, Lib.hid (HK2.out.drewN _)⟩
        case measure => simp [intOf]; omega
       | false =>
        by_cases hxp : x = p
        ·rw [decide_eq_true hxp] at hpe
         have HT2 := Lib.hid (show true = decide (p ∈ S.take (k + 1)) by rw [vcJ hkl, HXK.out, decide_eq_true hxp]; simp)
         clear hxp
         go_upto_region 7 with (fail)
         go_quiet (fail)
         go_wp2_with fail
         go_roundw
         case rel => exact ⟨k + 1, true, by omega, by go_num, rfl, HL2, HT2, Lib.hid (HK2.out.drewN _)⟩
         case measure => simp [intOf]; omega
        ·rw [decide_eq_false hxp] at hpe
         have HT2 := Lib.hid (show false = decide (p ∈ S.take (k + 1)) by rw [vcJ hkl, HXK.out, decide_eq_false hxp, ← HTH.out]; rfl)
         clear hxp
         go_upto_region 7 with (fail)
         go_quiet (fail)
         go_wp2_with fail
         go_roundw
         case rel => exact ⟨k + 1, false, by omega, by go_num, rfl, HL2, HT2, Lib.hid (HK2.out.drewN _)⟩
         case measure => simp [intOf]; omega
      ·have de : decide (o ≤ 0) = false := decide_eq_false hz
       have HGT := Lib.hid (show ∀ hk : k < S.length, ltP p S[k] from fun _ => by
        rw [hx]
        rw [← ho] at hz
        exact Classical.not_not.1 (fun z => hz (vdj.2 z)))
       clear hz
       go_upto_region 6 with (fail)
       refine' vag (fun (_ : Unit) _ V9 => Kp _ V9) [13, 14, 15, 16, 17, 18, 19, 20, 21, 22, 23, 24, 25, 26, 27, 28] (fun (_ : Unit) => [.int .i64 k, .slice (some ⟨b3, off3, none⟩) S.length c2, .int .i64 S.length, .bool true, .bool true, .slice (some ⟨b3, off3, none⟩) S.length c2, .int .i64 k, .pointer (some ⟨b3, off3 + k * 2, none⟩), .agg #[.int .u32 (x.a : Int), .int .i64 x.l], .slice (some ⟨b1, off1, none⟩) l.length m, .int .i64 i, .pointer (some ⟨b1, off1 + i * 2, none⟩), .agg #[.int .u32 (p.a : Int), .int .i64 p.l], .int .i64 o, .bool false, .bool false]) (List.replicate 16 true) [] (by kernel_rfl) (by kernel_rfl) (fun _ => rfl) (fun _ => rfl) (fun _ => rfl) () (Kp.refl _).drew (fun _ _ _ _ _ h => h) ?_ ?_ ?_
       rotate_left
       ·intro z; simp only [List.zip_cons_cons, List.zip_nil_right, wrC, wrN, List.set_cons_zero, List.set_cons_succ, List.set_nil]; rfl
       ·repeat' (first | refine And.intro ?_ ?_ | exact trivial)
        all_goals intro z L a w9 hLi d hcl hM hO K hK
        all_goals try (go_simp; exact hK z _ _ (hO rfl) (fun _ _ => rfl) rfl)
        ·have c0 : w9.cell? ⟨b3, off3 + k * 2, none⟩ = some (.int .u32 (x.a : Int)) := hM.cell HX.out.1
         have c1 : w9.cell? ⟨b3, off3 + k * 2 + 1, none⟩ = some (.int .i64 x.l) := hM.cell HX.out.2
         go_simp
         exact hK z _ _ (hO rfl) (fun _ _ => rfl) rfl
        ·have c0 : w9.cell? ⟨b1, off1 + i * 2, none⟩ = some (.int .u32 (p.a : Int)) := hM.cell (HKk.out.cell HP.out.1)
         have c1 : w9.cell? ⟨b1, off1 + i * 2 + 1, none⟩ = some (.int .i64 p.l) := hM.cell (HKk.out.cell HP.out.2)
         go_simp
         exact hK z _ _ (hO rfl) (fun _ _ => rfl) rfl
        ·go_simp
         refine (vaX _ _ _ _ _).mono ?_
         rintro e9 wb ⟨rfl, hKc⟩
         rw [HO.out]
         exact hK z _ _ (hM.trans hKc) (fun _ _ => rfl) rfl
       intro z L w9 hL KV
       (try simp only [Exit.then])
       have HK2 := Lib.hid (HKk.out.trans KV)
       clear KV
       go_wp2_with fail
       go_meet
       case rel => exact ⟨k, th, hk, rfl, rfl, HLE.out, HGT.out, HTH.out, HK2.out⟩
     ·have dk : decide ((k : Int) < (S.length : Int)) = false := decide_eq_false (by omega)
      go_upto_region 6 with (fail)
      refine' vag (fun (_ : Unit) _ V9 => Kp _ V9) [13, 14, 15, 16, 17, 18, 19, 20, 21, 22, 23, 24, 25, 26, 27, 28] (fun (_ : Unit) => [.int .i64 k, .slice E2 S.length c2, .int .i64 S.length, .bool false, .bool false, undef, undef, undef, undef, undef, undef, undef, undef, undef, undef, .bool false]) [true, true, true, true, true, false, false, false, false, false, false, false, false, false, false, true] [] (by kernel_rfl) (by kernel_rfl) (fun _ => rfl) (fun _ => rfl) (fun _ => rfl) () (Kp.refl _).drew (fun _ _ _ _ _ h => h) ?_ ?_ ?_
      rotate_left
      ·intro z; simp only [List.zip_cons_cons, List.zip_nil_right, wrC, wrN, List.set_cons_zero, List.set_cons_succ, List.set_nil]; rfl
      ·repeat' (first | refine And.intro ?_ ?_ | exact trivial)
       all_goals intro z L a w9 hLi d hcl hM hO K hK
       all_goals try (go_simp; exact hK z _ _ (hO rfl) (fun _ _ => rfl) rfl)
      intro z L w9 hL KV
      (try simp only [Exit.then])
      have HK2 := Lib.hid (HKk.out.trans KV)
      clear KV
      go_wp2_with fail
      go_meet
      case rel => exact ⟨k, th, hk, rfl, rfl, HLE.out, fun h => absurd h hkl, HTH.out, HK2.out⟩
   case rest =>
    obtain ⟨k, th, hk, rfl, rfl, hle, hgt, hth, hKp⟩ := hcut
    have HSn : SoR w l i S (.slice E2 S.length c2) wc := ⟨HS.out.up, HS.out.mem, HS.out.len, HS.out.ow.keep hKp, HS.out.kp.trans hKp⟩
    cases th with
    | true =>
     have hin : p ∈ S := List.mem_of_mem_take (of_decide_eq_true hth.symm)
     have HN : Hid (SoR w l (i + 1) S (.slice E2 S.length c2) wc) := Lib.hid ⟨HSn.up, fun x => by
      rw [vax hlt, HPI.out, HSn.mem x]
      exact ⟨.inr, fun z => z.elim (fun e => by rw [e]; exact (HSn.mem p).1 hin) id⟩, by have := HSn.len; omega, HSn.ow, HSn.kp⟩
     clear HSn hin hle hgt hth
     go_wp2_with fail
     go_roundw
     case rel => exact ⟨i + 1, S, E2, c2, by omega, rfl, by go_num, HN⟩
     case measure => simp [intOf]; omega
    | false =>
     have hnot : p ∉ S.take k := of_decide_eq_false hth.symm
     have HUP := Lib.hid (vnC HSn.up hle hnot (vmV HSn.up hgt))
     have HME : Hid (∀ x, x ∈ S.take k ++ p :: S.drop k ↔ x ∈ l.take (i + 1)) := Lib.hid (fun x => by rw [vmU, vax hlt, HPI.out, HSn.mem x])
     have HLN : Hid ((S.take k ++ p :: S.drop k).length = S.length + 1) := Lib.hid (by rw [List.length_append, List.length_cons, List.length_take, List.length_drop]; omega)
     clear hle hgt hth hnot
     have HKc := Lib.hid hKp
     have HRc := HRD.out.keep hKp
     have hkb : (k : Int) ≤ (S.length : Int) := by omega
     have hk0 : (0 : Int) ≤ (k : Int) := by omega
     have hkl2 : (S.take k).length = k := by rw [List.length_take]; omega
     have hdl2 : (S.drop k).length = S.length - k := by rw [List.length_drop]
     have HSN := Lib.hid HSn
     have HRP : Hid (wc.cell? ⟨b1, off1 + i * 2, none⟩ = some (.int .u32 (p.a : Int)) ∧ wc.cell? ⟨b1, off1 + i * 2 + 1, none⟩ = some (.int .i64 p.l)) := Lib.hid ⟨hKp.cell HP.out.1, hKp.cell HP.out.2⟩
     rcases HSn.ow.2 with ⟨e5, h05⟩ | ⟨g5, cap5, cur5, e5, _, _, hnc, _⟩
     ·have hS0 : S = [] := List.length_eq_zero_iff.1 h05
      have e51 : E2 = none := by injection e5
      have e52 : c2 = 0 := by injection e5
      subst hS0 e51 e52
      have hk00 : k = 0 := by simpa using hk
      subst hk00
      clear e5 h05 HSn
      go_upto_region 10 with (fail)
      refine vdU (SortM wc (([] : List PI).take 0) (([] : List PI).drop 0) p) [45, 46, 47, 48, 49, 50, 51, 52, 53, 54, 55, 56, 57, 58, 59, 3] (fun z => [z.a, .slice none 0 0, .int .i64 (0 : Nat), .slice none 0 0, z.c, .slice (some ⟨b1, off1, none⟩) l.length m, .int .i64 i, .pointer (some ⟨b1, off1 + i * 2, none⟩), .agg #[.int .u32 (p.a : Int), .int .i64 p.l], z.b, z.d, .slice none 0 0, .int .i64 (0 : Nat), .slice none 0 0, z.e, z.e]) [true, true, true, true, true, true, true, true, true, true, true, true, true, true, true, true] (by kernel_rfl) (by kernel_rfl) (by kernel_rfl) (by kernel_rfl) rfl (fun _ => rfl) (by decide) (fun _ => rfl) (fun _ => rfl) ⟨undef, undef, undef, undef, undef⟩ SortM.start ?_ ?_ ?_
      ·intro z i L w9 hi hu hLi hM
       have hall : ∀ i, i < 16 → [true, true, true, true, true, true, true, true, true, true, true, true, true, true, true, true].getD i true = true := by decide
       rw [hall i hi] at hu
       cases hu
      ·intro z i o L a w9 ho hw hLi d hcl f hgo u hM K hK
       have hi : i < 16 := by have := (List.getElem?_eq_some_iff.1 ho).1; simpa using this
       have hcs : i = 0 ∨ i = 1 ∨ i = 2 ∨ i = 3 ∨ i = 4 ∨ i = 5 ∨ i = 6 ∨ i = 7 ∨ i = 8 ∨ i = 9 ∨ i = 10 ∨ i = 11 ∨ i = 12 ∨ i = 13 ∨ i = 14 ∨ i = 15 := by omega
       clear hi
       rcases hcs with rfl | rfl | rfl | rfl | rfl | rfl | rfl | rfl | rfl | rfl | rfl | rfl | rfl | rfl | rfl | rfl
       all_goals
        first | simp only [List.getElem?_cons_zero, List.getElem?_cons_succ, Option.some.injEq] at ho | replace ho := Option.some.inj ho
        subst ho
       ·have n4 : L 4 = false := vac _ hcl (i := 4) (j := 0) rfl rfl hLi
        have n10 : L 10 = false := vac _ hcl (i := 10) (j := 4) rfl rfl n4
        have n14 : L 14 = false := vac _ hcl (i := 14) (j := 10) rfl rfl n10
        unfold Oper.wp
        simp only [execOp, Act.eval, Array.getD_eq_getD_getElem?]
        go_simp
        exact hK { z with a := .slice (some ⟨w9.heap.size, 0, none⟩) 0 0 } _ _ (hM.at0 n4 n10 n14 (fun _ => trivial)) (but1 hLi rfl) rfl
       ·have t3 : a.tmps[3]?.getD undef = .slice none 0 0 := u 15 (by decide) (vac _ hcl (i := 15) rfl rfl hLi)
        unfold Oper.wp
        simp only [execOp, Act.eval, Array.getD_eq_getD_getElem?]
        go_simp
        exact hK z _ _ (hM.other 1 rfl) (fun _ _ => rfl) rfl
       ·have t5 : a.tmps[5]?.getD undef = .int .i64 (0 : Nat) := hgo 5 (by decide)
        unfold Oper.wp
        simp only [execOp, Act.eval, Array.getD_eq_getD_getElem?]
        go_simp
        exact hK z _ _ (hM.other 2 rfl) (fun _ _ => rfl) rfl
       ·have t46 : a.tmps[46]?.getD undef = .slice none 0 0 := f 1 rfl
        have t47 : a.tmps[47]?.getD undef = .int .i64 (0 : Nat) := f 2 rfl
        unfold Oper.wp
        simp only [execOp, Act.eval, Array.getD_eq_getD_getElem?]
        go_simp
        exact hK z _ _ (hM.other 3 rfl) (fun _ _ => rfl) rfl
       ·have t45 : a.tmps[45]?.getD undef = z.a := f 0 rfl
        have t48 : a.tmps[48]?.getD undef = .slice none 0 0 := f 3 rfl
        have l0 : L 0 = true := d 0 rfl
        have n10 : L 10 = false := vac _ hcl (i := 10) (j := 4) rfl rfl hLi
        have n14 : L 14 = false := vac _ hcl (i := 14) (j := 10) rfl rfl n10
        refine vbe (Q := _) EPfx PI.len PI.one rfl (.tmp 45) (.tmp 48) rfl (v := z.a) (A := none) (c := 0) (xs := ([] : List PI)) (ys := (([] : List PI).take 0)) (by simp only [Act.eval, Array.getD_eq_getD_getElem?]; exact t45) (by simp only [Act.eval, Array.getD_eq_getD_getElem?]; exact t48) (hM.o4 l0 hLi n10 n14) (Rd.nil _ _ _ _) (by simp only [List.length_append, List.length_cons, List.length_nil]; omega) hM.1.size (fun v2 w2 h1 h2 h3 => ?_)
        exact hK { z with c := v2 } _ _ (hM.at4 l0 hLi n10 n14 h1 h2 h3) (but1 hLi rfl) rfl
       ·have t0 : a.tmps[0]?.getD undef = .slice (some ⟨b1, off1, none⟩) l.length m := hgo 0 (by decide)
        unfold Oper.wp
        simp only [execOp, Act.eval, Array.getD_eq_getD_getElem?]
        go_simp
        exact hK z _ _ (hM.other 5 rfl) (fun _ _ => rfl) rfl
       ·have t4 : a.tmps[4]?.getD undef = .int .i64 i := hgo 4 (by decide)
        unfold Oper.wp
        simp only [execOp, Act.eval, Array.getD_eq_getD_getElem?]
        go_simp
        exact hK z _ _ (hM.other 6 rfl) (fun _ _ => rfl) rfl
       ·have t50 : a.tmps[50]?.getD undef = .slice (some ⟨b1, off1, none⟩) l.length m := f 5 rfl
        have t51 : a.tmps[51]?.getD undef = .int .i64 i := f 6 rfl
        unfold Oper.wp
        simp only [execOp, Act.eval, Array.getD_eq_getD_getElem?]
        go_simp
        exact hK z _ _ (hM.other 7 rfl) (fun _ _ => rfl) rfl
       ·have t52 : a.tmps[52]?.getD undef = .pointer (some ⟨b1, off1 + i * 2, none⟩) := f 7 rfl
        have c0 : w9.cell? ⟨b1, off1 + i * 2, none⟩ = some (.int .u32 (p.a : Int)) := hM.1.cell HRP.out.1
        have c1 : w9.cell? ⟨b1, off1 + i * 2 + 1, none⟩ = some (.int .i64 p.l) := hM.1.cell HRP.out.2
        unfold Oper.wp
        simp only [execOp, Act.eval, Array.getD_eq_getD_getElem?]
        go_simp
        exact hK z _ _ (hM.other 8 rfl) (fun _ _ => rfl) rfl
       ·have t53 : a.tmps[53]?.getD undef = .agg #[.int .u32 (p.a : Int), .int .i64 p.l] := f 8 rfl
        unfold Oper.wp
        simp only [execOp, Act.eval, Array.getD_eq_getD_getElem?]
        go_simp
        exact hK { z with b := .slice (some ⟨w9.heap.size, 0, none⟩) 1 1 } _ _ hM.at9 (but1 hLi rfl) rfl
       ·have t49 : a.tmps[49]?.getD undef = z.c := f 4 rfl
        have t54 : a.tmps[54]?.getD undef = z.b := f 9 rfl
        have l4 : L 4 = true := d 4 rfl
        have l0 : L 0 = true := hcl 4 _ 0 rfl l4 rfl
        have l9 : L 9 = true := d 9 rfl
        have n14 : L 14 = false := vac _ hcl (i := 14) (j := 10) rfl rfl hLi
        obtain ⟨g9, e9, hB9⟩ := hM.v9 l0 l9
        refine vbe (Q := _) EPfx PI.len PI.one rfl (.tmp 49) (.tmp 54) rfl (v := z.c) (A := (some ⟨g9, 0, none⟩)) (c := 1) (xs := (([] : List PI).take 0)) (ys := [p]) (by simp only [Act.eval, Array.getD_eq_getD_getElem?]; exact t49) (by simp only [Act.eval, Array.getD_eq_getD_getElem?]; rw [t54]; exact e9) (hM.o10 l0 l4 hLi n14) (vlQ hB9) (by simp only [List.length_append, List.length_cons, List.length_nil]; omega) hM.1.size (fun v2 w2 h1 h2 h3 => ?_)
        exact hK { z with d := v2 } _ _ (hM.at10 l0 l4 hLi n14 h1 h2 h3) (but1 hLi rfl) rfl
       ·have t3 : a.tmps[3]?.getD undef = .slice none 0 0 := u 15 (by decide) (vac _ hcl (i := 15) rfl rfl hLi)
        unfold Oper.wp
        simp only [execOp, Act.eval, Array.getD_eq_getD_getElem?]
        go_simp
        exact hK z _ _ (hM.other 11 rfl) (fun _ _ => rfl) rfl
       ·have t5 : a.tmps[5]?.getD undef = .int .i64 (0 : Nat) := hgo 5 (by decide)
        unfold Oper.wp
        simp only [execOp, Act.eval, Array.getD_eq_getD_getElem?]
        go_simp
        exact hK z _ _ (hM.other 12 rfl) (fun _ _ => rfl) rfl
       ·have t56 : a.tmps[56]?.getD undef = .slice none 0 0 := f 11 rfl
        have t57 : a.tmps[57]?.getD undef = .int .i64 (0 : Nat) := f 12 rfl
        unfold Oper.wp
        simp only [execOp, Act.eval, Array.getD_eq_getD_getElem?]
        go_simp
        exact hK z _ _ (hM.other 13 rfl) (fun _ _ => rfl) rfl
       ·have t55 : a.tmps[55]?.getD undef = z.d := f 10 rfl
        have t58 : a.tmps[58]?.getD undef = .slice none 0 0 := f 13 rfl
        have l10 : L 10 = true := d 10 rfl
        have l4 : L 4 = true := hcl 10 _ 4 rfl l10 rfl
        have l0 : L 0 = true := hcl 4 _ 0 rfl l4 rfl
        have n15 : L 15 = false := vac _ hcl (i := 15) (j := 14) rfl rfl hLi
        refine vbe (Q := _) EPfx PI.len PI.one rfl (.tmp 55) (.tmp 58) rfl (v := z.d) (A := none) (c := 0) (xs := ((([] : List PI).take 0) ++ [p])) (ys := (([] : List PI).drop 0)) (by simp only [Act.eval, Array.getD_eq_getD_getElem?]; exact t55) (by simp only [Act.eval, Array.getD_eq_getD_getElem?]; exact t58) (hM.o14 l0 l10 hLi) (Rd.nil _ _ _ _) (by simp only [List.length_append, List.length_cons, List.length_nil]; omega) hM.1.size (fun v2 w2 h1 h2 h3 => ?_)
        exact hK { z with e := v2 } _ _ (hM.at14 l0 l10 hLi h1 h2 h3) (but2 hLi n15 rfl) rfl
       ·have t59 : a.tmps[59]?.getD undef = z.e := f 14 rfl
        unfold Oper.wp
        simp only [execOp, Act.eval, Array.getD_eq_getD_getElem?]
        go_simp
        exact hK z _ _ (hM.other 15 rfl) (fun _ _ => rfl) rfl
      intro z L w9 hL hM
      (try simp only [Exit.then])
      simp only [wrS, List.zip_cons_cons, List.zip_nil_right, List.foldl_cons, List.foldl_nil, List.setIfInBounds_toArray, List.set_cons_zero, List.set_cons_succ]
      obtain ⟨za, zb, zc, zd, ze⟩ := z
      obtain ⟨hk9, hO9⟩ := hM.fin (hL 0 (by decide)) (hL 14 (by decide))
      obtain ⟨A5, c5, e5⟩ := hO9.form
      obtain rfl : ze = _ := e5
      have HN : Hid (SoR w l (i + 1) (([] : List PI).take 0 ++ p :: ([] : List PI).drop 0) (.slice A5 (([] : List PI).take 0 ++ p :: ([] : List PI).drop 0).length c5) w9) := Lib.hid ⟨HUP.out, HME.out, by rw [HLN.out]; have := HSN.out.len; omega, hO9.mono HSN.out.kp.size, HSN.out.kp.trans hk9⟩
      clear hM hL hk9 hO9
      go_wp2_with fail
      go_roundw
      case rel => exact ⟨i + 1, ([] : List PI).take 0 ++ p :: ([] : List PI).drop 0, A5, c5, by omega, rfl, by go_num, HN⟩
      case measure => simp [intOf]; omega
     ·have e51 : E2 = some ⟨g5, 0, none⟩ := by injection e5
      have e52 : c2 = cap5 := by injection e5
      subst e51 e52
      have hkc : (k : Int) ≤ (c2 : Int) := by omega
      have hsc : (S.length : Int) ≤ (c2 : Int) := by omega
      have HRT := Lib.hid (vfo HRc k)
      obtain ⟨A2, hA2⟩ : ∃ A2, (if c2 = k then some (⟨g5, 0, none⟩ : Addr) else some ⟨g5, k * 2, none⟩) = A2 := ⟨_, rfl⟩
      have HRDr : Hid (Rd wc 2 PI.enc A2 (S.drop k)) := Lib.hid (by
       by_cases hck : c2 = k
       ·rw [List.drop_eq_nil_of_le (by omega)]
        exact Rd.nil _ _ _ _
       ·rw [if_neg hck] at hA2
        rw [← hA2]
        have := vnm HRc k
        rwa [Nat.zero_add] at this)
      clear e5 HSn HRc
      go_upto_region 10 with (fail)
      refine vdU (SortM wc (S.take k) (S.drop k) p) [45, 46, 47, 48, 49, 50, 51, 52, 53, 54, 55, 56, 57, 58, 59, 3] (fun z => [z.a, .slice (some ⟨g5, 0, none⟩) S.length c2, .int .i64 k, .slice (some ⟨g5, 0, none⟩) k c2, z.c, .slice (some ⟨b1, off1, none⟩) l.length m, .int .i64 i, .pointer (some ⟨b1, off1 + i * 2, none⟩), .agg #[.int .u32 (p.a : Int), .int .i64 p.l], z.b, z.d, .slice (some ⟨g5, 0, none⟩) S.length c2, .int .i64 k, .slice A2 (S.length - k) (c2 - k), z.e, z.e]) [true, true, true, true, true, true, true, true, true, true, true, true, true, true, true, true] (by kernel_rfl) (by kernel_rfl) (by kernel_rfl) (by kernel_rfl) rfl (fun _ => rfl) (by decide) (fun _ => rfl) (fun _ => rfl) ⟨undef, undef, undef, undef, undef⟩ SortM.start ?_ ?_ ?_
      ·intro z i L w9 hi hu hLi hM
       have hall : ∀ i, i < 16 → [true, true, true, true, true, true, true, true, true, true, true, true, true, true, true, true].getD i true = true := by decide
       rw [hall i hi] at hu
       cases hu
      ·intro z i o L a w9 ho hw hLi d hcl f hgo u hM K hK
       have hi : i < 16 := by have := (List.getElem?_eq_some_iff.1 ho).1; simpa using this
       have hcs : i = 0 ∨ i = 1 ∨ i = 2 ∨ i = 3 ∨ i = 4 ∨ i = 5 ∨ i = 6 ∨ i = 7 ∨ i = 8 ∨ i = 9 ∨ i = 10 ∨ i = 11 ∨ i = 12 ∨ i = 13 ∨ i = 14 ∨ i = 15 := by omega
       clear hi
       rcases hcs with rfl | rfl | rfl | rfl | rfl | rfl | rfl | rfl | rfl | rfl | rfl | rfl | rfl | rfl | rfl | rfl
       all_goals
        first | simp only [List.getElem?_cons_zero, List.getElem?_cons_succ, Option.some.injEq] at ho | replace ho := Option.some.inj ho
        subst ho
       ·have n4 : L 4 = false := vac _ hcl (i := 4) (j := 0) rfl rfl hLi
        have n10 : L 10 = false := vac _ hcl (i := 10) (j := 4) rfl rfl n4
        have n14 : L 14 = false := vac _ hcl (i := 14) (j := 10) rfl rfl n10
        unfold Oper.wp
        simp only [execOp, Act.eval, Array.getD_eq_getD_getElem?]
        go_simp
        exact hK { z with a := .slice (some ⟨w9.heap.size, 0, none⟩) 0 0 } _ _ (hM.at0 n4 n10 n14 (fun _ => trivial)) (but1 hLi rfl) rfl
       ·have t3 : a.tmps[3]?.getD undef = .slice (some ⟨g5, 0, none⟩) S.length c2 := u 15 (by decide) (vac _ hcl (i := 15) rfl rfl hLi)
        unfold Oper.wp
        simp only [execOp, Act.eval, Array.getD_eq_getD_getElem?]
        go_simp
        exact hK z _ _ (hM.other 1 rfl) (fun _ _ => rfl) rfl
       ·have t5 : a.tmps[5]?.getD undef = .int .i64 k := hgo 5 (by decide)
        unfold Oper.wp
        simp only [execOp, Act.eval, Array.getD_eq_getD_getElem?]
        go_simp
        exact hK z _ _ (hM.other 2 rfl) (fun _ _ => rfl) rfl
       ·have t46 : a.tmps[46]?.getD undef = .slice (some ⟨g5, 0, none⟩) S.length c2 := f 1 rfl
        have t47 : a.tmps[47]?.getD undef = .int .i64 k := f 2 rfl
        unfold Oper.wp
        simp only [execOp, Act.eval, Array.getD_eq_getD_getElem?]
        go_simp
        exact hK z _ _ (hM.other 3 rfl) (fun _ _ => rfl) rfl
       ·have t45 : a.tmps[45]?.getD undef = z.a := f 0 rfl
        have t48 : a.tmps[48]?.getD undef = .slice (some ⟨g5, 0, none⟩) k c2 := f 3 rfl
        have l0 : L 0 = true := d 0 rfl
        have n10 : L 10 = false := vac _ hcl (i := 10) (j := 4) rfl rfl hLi
        have n14 : L 14 = false := vac _ hcl (i := 14) (j := 10) rfl rfl n10
        refine vbe (Q := _) EPfx PI.len PI.one rfl (.tmp 45) (.tmp 48) rfl (v := z.a) (A := (some ⟨g5, 0, none⟩)) (c := c2) (xs := ([] : List PI)) (ys := (S.take k)) (by simp only [Act.eval, Array.getD_eq_getD_getElem?]; exact t45) (by simp only [Act.eval, Array.getD_eq_getD_getElem?]; rw [t48, hkl2]) (hM.o4 l0 hLi n10 n14) (HRT.out.keep hM.1) (by simp only [List.length_append, List.length_cons, List.length_nil]; omega) hM.1.size (fun v2 w2 h1 h2 h3 => ?_)
        exact hK { z with c := v2 } _ _ (hM.at4 l0 hLi n10 n14 h1 h2 h3) (but1 hLi rfl) rfl
       ·have t0 : a.tmps[0]?.getD undef = .slice (some ⟨b1, off1, none⟩) l.length m := hgo 0 (by decide)
        unfold Oper.wp
        simp only [execOp, Act.eval, Array.getD_eq_getD_getElem?]
        go_simp
        exact hK z _ _ (hM.other 5 rfl) (fun _ _ => rfl) rfl
       ·have t4 : a.tmps[4]?.getD undef = .int .i64 i := hgo 4 (by decide)
        unfold Oper.wp
        simp only [execOp, Act.eval, Array.getD_eq_getD_getElem?]
        go_simp
        exact hK z _ _ (hM.other 6 rfl) (fun _ _ => rfl) rfl
       ·have t50 : a.tmps[50]?.getD undef = .slice (some ⟨b1, off1, none⟩) l.length m := f 5 rfl
        have t51 : a.tmps[51]?.getD undef = .int .i64 i := f 6 rfl
        unfold Oper.wp
        simp only [execOp, Act.eval, Array.getD_eq_getD_getElem?]
        go_simp
        exact hK z _ _ (hM.other 7 rfl) (fun _ _ => rfl) rfl
       ·have t52 : a.tmps[52]?.getD undef = .pointer (some ⟨b1, off1 + i * 2, none⟩) := f 7 rfl
        have c0 : w9.cell? ⟨b1, off1 + i * 2, none⟩ = some (.int .u32 (p.a : Int)) := hM.1.cell HRP.out.1
        have c1 : w9.cell? ⟨b1, off1 + i * 2 + 1, none⟩ = some (.int .i64 p.l) := hM.1.cell HRP.out.2
        unfold Oper.wp
        simp only [execOp, Act.eval, Array.getD_eq_getD_getElem?]
        go_simp
        exact hK z _ _ (hM.other 8 rfl) (fun _ _ => rfl) rfl
       ·have t53 : a.tmps[53]?.getD undef = .agg #[.int .u32 (p.a : Int), .int .i64 p.l] := f 8 rfl
        unfold Oper.wp
        simp only [execOp, Act.eval, Array.getD_eq_getD_getElem?]
        go_simp
        exact hK { z with b := .slice (some ⟨w9.heap.size, 0, none⟩) 1 1 } _ _ hM.at9 (but1 hLi rfl) rfl
       ·have t49 : a.tmps[49]?.getD undef = z.c := f 4 rfl
        have t54 : a.tmps[54]?.getD undef = z.b := f 9 rfl
        have l4 : L 4 = true := d 4 rfl
        have l0 : L 0 = true := hcl 4 _ 0 rfl l4 rfl
        have l9 : L 9 = true := d 9 rfl
        have n14 : L 14 = false := vac _ hcl (i := 14) (j := 10) rfl rfl hLi
        obtain ⟨g9, e9, hB9⟩ := hM.v9 l0 l9
        refine vbe (Q := _) EPfx PI.len PI.one rfl (.tmp 49) (.tmp 54) rfl (v := z.c) (A := (some ⟨g9, 0, none⟩)) (c := 1) (xs := (S.take k)) (ys := [p]) (by simp only [Act.eval, Array.getD_eq_getD_getElem?]; exact t49) (by simp only [Act.eval, Array.getD_eq_getD_getElem?]; rw [t54]; exact e9) (hM.o10 l0 l4 hLi n14) (vlQ hB9) (by simp only [List.length_append, List.length_cons, List.length_nil]; omega) hM.1.size (fun v2 w2 h1 h2 h3 => ?_)
        exact hK { z with d := v2 } _ _ (hM.at10 l0 l4 hLi n14 h1 h2 h3) (but1 hLi rfl) rfl
       ·have t3 : a.tmps[3]?.getD undef = .slice (some ⟨g5, 0, none⟩) S.length c2 := u 15 (by decide) (vac _ hcl (i := 15) rfl rfl hLi)
        unfold Oper.wp
        simp only [execOp, Act.eval, Array.getD_eq_getD_getElem?]
        go_simp
        exact hK z _ _ (hM.other 11 rfl) (fun _ _ => rfl) rfl
       ·have t5 : a.tmps[5]?.getD undef = .int .i64 k := hgo 5 (by decide)
        unfold Oper.wp
        simp only [execOp, Act.eval, Array.getD_eq_getD_getElem?]
        go_simp
        exact hK z _ _ (hM.other 12 rfl) (fun _ _ => rfl) rfl
       ·have t56 : a.tmps[56]?.getD undef = .slice (some ⟨g5, 0, none⟩) S.length c2 := f 11 rfl
        have t57 : a.tmps[57]?.getD undef = .int .i64 k := f 12 rfl
        unfold Oper.wp
        simp only [execOp, Act.eval, Array.getD_eq_getD_getElem?]
        go_simp
        exact hK z _ _ (hM.other 13 rfl) (fun _ _ => rfl) rfl
       ·have t55 : a.tmps[55]?.getD undef = z.d := f 10 rfl
        have t58 : a.tmps[58]?.getD undef = .slice A2 (S.length - k) (c2 - k) := f 13 rfl
        have l10 : L 10 = true := d 10 rfl
        have l4 : L 4 = true := hcl 10 _ 4 rfl l10 rfl
        have l0 : L 0 = true := hcl 4 _ 0 rfl l4 rfl
        have n15 : L 15 = false := vac _ hcl (i := 15) (j := 14) rfl rfl hLi
        refine vbe (Q := _) EPfx PI.len PI.one rfl (.tmp 55) (.tmp 58) rfl (v := z.d) (A := A2) (c := (c2 - k)) (xs := ((S.take k) ++ [p])) (ys := (S.drop k)) (by simp only [Act.eval, Array.getD_eq_getD_getElem?]; exact t55) (by simp only [Act.eval, Array.getD_eq_getD_getElem?]; rw [t58, hdl2]) (hM.o14 l0 l10 hLi) (HRDr.out.keep hM.1) (by simp only [List.length_append, List.length_cons, List.length_nil]; omega) hM.1.size (fun v2 w2 h1 h2 h3 => ?_)
        exact hK { z with e := v2 } _ _ (hM.at14 l0 l10 hLi h1 h2 h3) (but2 hLi n15 rfl) rfl
       ·have t59 : a.tmps[59]?.getD undef = z.e := f 14 rfl
        unfold Oper.wp
        simp only [execOp, Act.eval, Array.getD_eq_getD_getElem?]
        go_simp
        exact hK z _ _ (hM.other 15 rfl) (fun _ _ => rfl) rfl
      intro z L w9 hL hM
      (try simp only [Exit.then])
      simp only [wrS, List.zip_cons_cons, List.zip_nil_right, List.foldl_cons, List.foldl_nil, List.setIfInBounds_toArray, List.set_cons_zero, List.set_cons_succ]
      obtain ⟨za, zb, zc, zd, ze⟩ := z
      obtain ⟨hk9, hO9⟩ := hM.fin (hL 0 (by decide)) (hL 14 (by decide))
      obtain ⟨A5, c5, e5⟩ := hO9.form
      obtain rfl : ze = _ := e5
      have HN : Hid (SoR w l (i + 1) (S.take k ++ p :: S.drop k) (.slice A5 (S.take k ++ p :: S.drop k).length c5) w9) := Lib.hid ⟨HUP.out, HME.out, by rw [HLN.out]; have := HSN.out.len; omega, hO9.mono HSN.out.kp.size, HSN.out.kp.trans hk9⟩
      clear hM hL hk9 hO9
      go_wp2_with fail
      go_roundw
      case rel => exact ⟨i + 1, S.take k ++ p :: S.drop k, A5, c5, by omega, rfl, by go_num, HN⟩
      case measure => simp [intOf]; omega
  ·obtain rfl : i = l.length := by omega
   have HN := HS
   obtain ⟨A9, c9, e9, hrd⟩ := HS.out.ow.rd (by decide) PI.len
   have e10 : E2 = A9 := by injection e9
   subst e10
   clear e9
   have HRD := Lib.hid hrd
   clear hrd
   go_wp2_with fail
   go_ret
   exact ⟨S, E2, c2, rfl, HN.out.up, fun x => by rw [HN.out.mem x, List.take_length], HN.out.ow, HN.out.kp⟩
end

end Go.Proofs.YtffckpkikdlbpaaGreatDoor
