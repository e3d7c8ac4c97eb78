/- Proved here: THE TIED CARD of AuditNames of the package waywardenlaw24: for every input the law returns true, and each argument reads behind the call as it read before (Rows.AuditNamesCardSaid). Conditions: the listed tables of widths and bounds start as the program's text lays them, which the card ties. -/
import Derived.Test.YtgopnfacklmkaaaGreatDoorZwBa
import Derived.Test.YtgopnfacklmkaaaGreatDoorTie
import Derived.Test.YtgopnfacklmkaaaGreatDoorCards
import Derived.SevenTiedAt
set_option linter.all false
set_option maxHeartbeats 16000000
namespace Go.Proofs.YtgopnfacklmkaaaGreatDoor
section
open Go.RowKit Go.Maps
structure AuS (w V : World) (B t : Nat) (F : List Nat) (xs : List (Option Addr × Nat × List Nat)) : Prop where
 kp : Kp w V
 tm : TabM V B t F auT
 wd : WidAt V
 by_ : ∀ x ∈ xs, ByS V x.1 x.2.1 x.2.2
section
variable {w V V' : World} {B t : Nat} {F : List Nat} {xs : List (Option Addr × Nat × List Nat)}
theorem AuS.keep (h : AuS w V B t F xs) (k : Kp V V') : AuS w V' B t F xs := ⟨h.kp.trans k, h.tm.keep k, h.wd.keep k, fun x hx => (h.by_ x hx).keep k⟩
theorem AuS.add (h : AuS w V B t F xs) (k : Kp V V') {A : Option Addr} {m : Nat} {l : List Nat} (hb : ByS V' A m l) : AuS w V' B t F (xs ++ [(A, m, l)]) :=
 ⟨h.kp.trans k, h.tm.keep k, h.wd.keep k, fun x hx => by
  rcases List.mem_append.1 hx with hx | hx
  ·exact (h.by_ x hx).keep k
  ·simp only [List.mem_cons, List.not_mem_nil, or_false] at hx
   subst hx
   exact hb⟩
end
def nmC (k : Nat) : Value := .string (nameF (lookE auT 0 (auL k)))
theorem viG : #[nmC 0, nmC 1, nmC 2, nmC 3, nmC 4, nmC 5] = #[Value.string ⟨#[112, 111, 105, 115, 111, 110]⟩, .string ⟨#[110, 111, 110, 101]⟩, .string ⟨#[109, 101, 116, 114, 105, 99]⟩, .string ⟨#[110, 111, 110, 101]⟩, .string ⟨#[101, 109, 112, 116, 121]⟩, .string ⟨#[98, 121, 116, 101, 115]⟩] := by
 unfold nmC
 rw [vbF.1, vbF.2.1, vbF.2.2.1, vbF.2.2.2.1, vbF.2.2.2.2.1, vbF.2.2.2.2.2]
 kernel_rfl
set_option maxRecDepth 100000 in
theorem vfz (w : World) (hC : CapAt w) (hWd : WidAt w) : Calls Tryz.prog 9 #[] w fun e w' => e = .returned (.bool true) ∧ Kp w w' := by
 have HCA := Lib.hid hC
 have HWD := Lib.hid hWd
 clear hC hWd
 obtain ⟨q, hq⟩ : ∃ q, auL = q := ⟨_, rfl⟩
 have HQ := Lib.hid hq
 have HLT : Hid (∀ k < 8, ∀ x ∈ q k, x < 256) := Lib.hid (hq ▸ vkV)
 have HLN : Hid (∀ k < 8, (q k).length ≤ 1000000) := Lib.hid (hq ▸ auL_n)
 clear hq
 go_enter Tryz.func9, Tryz.ntmps9
 go_wp2_with fail
 refine (vhn w).mono ?_
 rintro e w1 ⟨rfl, K1⟩
 obtain ⟨g, hg⟩ : ∃ g, w1.heap.size = g := ⟨_, rfl⟩
 obtain ⟨W1, hW1, k1, B1⟩ := Blk.al1 hg #[.int .u32 ((netQ 1).a : Int), .int .i64 (netQ 1).l] 39
 go_wp2_with fail
 try rw [hg]
 clear hW1 hg
 have kW1 := K1.trans k1
 have hSl : SlPI W1 (some ⟨g, 0, none⟩) 1 auC.own := ⟨Rd.of_blk B1 (by decide) PI.len (by decide) rfl, Nat.le_refl _, fun h => by cases h⟩
 refine (vim auC (some ⟨g, 0, none⟩) 1 W1 hSl (HCA.out.keep kW1) vgN au_ok).mono ?_
 rintro e w2 ⟨t, F0, rfl, hM, K2⟩
 have HM := Lib.hid hM
 have HK2 := Lib.hid (kW1.trans K2)
 have hBw : w.heap.size ≤ W1.heap.size := kW1.size
 obtain ⟨B, hB⟩ : ∃ B, W1.heap.size = B := ⟨_, rfl⟩
 rw [hB] at HM hBw
 clear hM hB hSl B1 K2 kW1 K1 k1
 go_wp2_with fail
 refine (vdN w2).mono ?_
 rintro e w3 ⟨rfl, K3⟩
 have HM3 := Lib.hid (HM.out.keep K3)
 have HK3 := Lib.hid (HK2.out.trans K3)
 clear K3
 have HH := vgK B t F0 (newT auC) (netQ 5) auH 1 w3 HM3.out (vkH au_ok) (by rw [vkM]; decide) vgN (HCA.out.keep HK3.out) ⟨by decide, by show wfI 16; unfold wfI; omega⟩ (by decide)
 rw [au_1] at HH
 have HHE := Lib.hid HH
 clear HH
 go_wp2_with fail
 refine HHE.out.mono ?_
 rintro e w4 ⟨rfl, F, hT4, hO4, hF4⟩
 have K4 : Kp w w4 := hO4.kp HK3.out (fun x hx => Nat.le_trans hBw (HM3.out.lo x hx).1)
 have HS0 : Hid (AuS w w4 B t F []) := Lib.hid ⟨K4, hT4, HWD.out.keep K4, fun x hx => by simp at hx⟩
 obtain ⟨x5, hx5⟩ : ∃ x, au5 = x := ⟨_, rfl⟩
 rw [hx5]
 clear hT4 hO4 hF4 K4 hx5
 obtain ⟨Y0, hY0, kY0, _⟩ := Blk.al1 (w := w4) rfl (roC x5) 52
 unfold roC at hY0
 have HS1 := Lib.hid (HS0.out.keep kY0)
 clear kY0
 go_wp2_with fail
 refine (vdN Y0).mono ?_
 rintro e Va1 ⟨rfl, K⟩
 have HSa := Lib.hid (HS1.out.keep K)
 clear K
 go_wp2_with fail
 refine (vaM (netQ 5) 3 Va1 (by decide) (by decide)).mono ?_
 rintro e Vb1 ⟨rfl, K⟩
 have HSb := Lib.hid (HSa.out.keep K)
 clear K
 obtain ⟨e0, he0⟩ : ∃ e, oneE (netQ 5) 3 = e := ⟨_, rfl⟩
 try rw [he0]
 obtain ⟨g, hg⟩ : ∃ g, Vb1.heap.size = g := ⟨_, rfl⟩
 obtain ⟨Va2, hVa, kVa, BVa⟩ := Blk.al1 hg #[.int .i64 e0.f, .int .i64 e0.t, .int .u32 (e0.a : Int), .int .u32 (e0.m : Int), .int .u32 (e0.n : Int), .int .u32 (e0.k : Int)] 66
 have HSa := Lib.hid (HSb.out.keep kVa)
 have HRA : Hid (Rd Va2 6 En.enc (some ⟨g, 0, none⟩) [e0]) := Lib.hid (Rd.of_blk BVa (by decide) En.enc_len (by simp [maxLen]) rfl)
 clear kVa BVa
 go_wp2_with fail
 try rw [hg]
 refine (vaB (some ⟨g, 0, none⟩) 1 [e0] Va2 HRA.out ?_ ?_ (by simp)).mono ?_
 ·rw [← he0]
  intro x hx
  simp only [List.mem_cons, List.not_mem_nil, or_false] at hx
  rcases hx with rfl
  ·exact (vct 5 (by decide) 3 (by decide)).2
 ·rw [← he0]
  decide +kernel
 rintro r Vb2 ⟨v, rfl, hO, K⟩
 have hl : bytesD 2 [e0] = q 0 := by rw [← he0, ← HQ.out]; rfl
 clear hVa hg he0
 rw [hl] at hO
 obtain ⟨A0, c0, hv⟩ := hO.form
 subst hv
 have HSR0 := Lib.hid (HSa.out.add K (ByS.of_own hO (HLT.out 0 (by omega)) (HLN.out 0 (by omega)) (HSa.out.wd.keep K)))
 clear hO K hl
 go_wp2_with fail
 refine (vdN Vb2).mono ?_
 rintro e Va3 ⟨rfl, K⟩
 have HSa := Lib.hid (HSR0.out.keep K)
 clear K
 go_wp2_with fail
 refine (vaM (netQ 5) 16 Va3 (by decide) (by decide)).mono ?_
 rintro e Vb3 ⟨rfl, K⟩
 have HSb := Lib.hid (HSa.out.keep K)
 clear K
 obtain ⟨e0, he0⟩ : ∃ e, oneE (netQ 5) 16 = e := ⟨_, rfl⟩
 try rw [he0]
 obtain ⟨g, hg⟩ : ∃ g, Vb3.heap.size = g := ⟨_, rfl⟩
 obtain ⟨Va4, hVa, kVa, BVa⟩ := Blk.al1 hg #[.int .i64 e0.f, .int .i64 e0.t, .int .u32 (e0.a : Int), .int .u32 (e0.m : Int), .int .u32 (e0.n : Int), .int .u32 (e0.k : Int)] 66
 have HSa := Lib.hid (HSb.out.keep kVa)
 have HRA : Hid (Rd Va4 6 En.enc (some ⟨g, 0, none⟩) [e0]) := Lib.hid (Rd.of_blk BVa (by decide) En.enc_len (by simp [maxLen]) rfl)
 clear kVa BVa
 go_wp2_with fail
 try rw [hg]
 refine (vaB (some ⟨g, 0, none⟩) 1 [e0] Va4 HRA.out ?_ ?_ (by simp)).mono ?_
 ·rw [← he0]
  intro x hx
  simp only [List.mem_cons, List.not_mem_nil, or_false] at hx
  rcases hx with rfl
  ·exact (vct 5 (by decide) 16 (by decide)).2
 ·rw [← he0]
  decide +kernel
 rintro r Vb4 ⟨v, rfl, hO, K⟩
 have hl : bytesD 2 [e0] = q 1 := by rw [← he0, ← HQ.out]; rfl
 clear hVa hg he0
 rw [hl] at hO
 obtain ⟨A1, c1, hv⟩ := hO.form
 subst hv
 have HSR1 := Lib.hid (HSa.out.add K (ByS.of_own hO (HLT.out 1 (by omega)) (HLN.out 1 (by omega)) (HSa.out.wd.keep K)))
 clear hO K hl
 go_wp2_with fail
 refine (vhn Vb4).mono ?_
 rintro e Va5 ⟨rfl, K⟩
 have HSa := Lib.hid (HSR1.out.keep K)
 clear K
 go_wp2_with fail
 refine (vaM (netQ 1) 2 Va5 (by decide) (by decide)).mono ?_
 rintro e Vb5 ⟨rfl, K⟩
 have HSb := Lib.hid (HSa.out.keep K)
 clear K
 obtain ⟨e0, he0⟩ : ∃ e, oneE (netQ 1) 2 = e := ⟨_, rfl⟩
 try rw [he0]
 obtain ⟨g, hg⟩ : ∃ g, Vb5.heap.size = g := ⟨_, rfl⟩
 obtain ⟨Va6, hVa, kVa, BVa⟩ := Blk.al1 hg #[.int .i64 e0.f, .int .i64 e0.t, .int .u32 (e0.a : Int), .int .u32 (e0.m : Int), .int .u32 (e0.n : Int), .int .u32 (e0.k : Int)] 66
 have HSa := Lib.hid (HSb.out.keep kVa)
 have HRA : Hid (Rd Va6 6 En.enc (some ⟨g, 0, none⟩) [e0]) := Lib.hid (Rd.of_blk BVa (by decide) En.enc_len (by simp [maxLen]) rfl)
 clear kVa BVa
 go_wp2_with fail
 try rw [hg]
 refine (vaB (some ⟨g, 0, none⟩) 1 [e0] Va6 HRA.out ?_ ?_ (by simp)).mono ?_
 ·rw [← he0]
  intro x hx
  simp only [List.mem_cons, List.not_mem_nil, or_false] at hx
  rcases hx with rfl
  ·exact (vct 1 (by decide) 2 (by decide)).2
 ·rw [← he0]
  decide +kernel
 rintro r Vb6 ⟨v, rfl, hO, K⟩
 have hl : bytesD 2 [e0] = q 2 := by rw [← he0, ← HQ.out]; rfl
 clear hVa hg he0
 rw [hl] at hO
 obtain ⟨A2, c2, hv⟩ := hO.form
 subst hv
 have HSR2 := Lib.hid (HSa.out.add K (ByS.of_own hO (HLT.out 2 (by omega)) (HLN.out 2 (by omega)) (HSa.out.wd.keep K)))
 clear hO K hl
 go_wp2_with fail
 refine (vkU Vb6).mono ?_
 rintro e Va7 ⟨rfl, K⟩
 have HSa := Lib.hid (HSR2.out.keep K)
 clear K
 go_wp2_with fail
 refine (vaM (netQ 7) 16 Va7 (by decide) (by decide)).mono ?_
 rintro e Vb7 ⟨rfl, K⟩
 have HSb := Lib.hid (HSa.out.keep K)
 clear K
 obtain ⟨e0, he0⟩ : ∃ e, oneE (netQ 7) 16 = e := ⟨_, rfl⟩
 try rw [he0]
 obtain ⟨g, hg⟩ : ∃ g, Vb7.heap.size = g := ⟨_, rfl⟩
 obtain ⟨Va8, hVa, kVa, BVa⟩ := Blk.al1 hg #[.int .i64 e0.f, .int .i64 e0.t, .int .u32 (e0.a : Int), .int .u32 (e0.m : Int), .int .u32 (e0.n : Int), .int .u32 (e0.k : Int)] 66
 have HSa := Lib.hid (HSb.out.keep kVa)
 have HRA : Hid (Rd Va8 6 En.enc (some ⟨g, 0, none⟩) [e0]) := Lib.hid (Rd.of_blk BVa (by decide) En.enc_len (by simp [maxLen]) rfl)
 clear kVa BVa
 go_wp2_with fail
 try rw [hg]
 refine (vaB (some ⟨g, 0, none⟩) 1 [e0] Va8 HRA.out ?_ ?_ (by simp)).mono ?_
 ·rw [← he0]
  intro x hx
  simp only [List.mem_cons, List.not_mem_nil, or_false] at hx
  rcases hx with rfl
  ·exact (vct 7 (by decide) 16 (by decide)).2
 ·rw [← he0]
  decide +kernel
 rintro r Vb8 ⟨v, rfl, hO, K⟩
 have hl : bytesD 2 [e0] = q 3 := by rw [← he0, ← HQ.out]; rfl
 clear hVa hg he0
 rw [hl] at hO
 obtain ⟨A3, c3, hv⟩ := hO.form
 subst hv
 have HSR3 := Lib.hid (HSa.out.add K (ByS.of_own hO (HLT.out 3 (by omega)) (HLN.out 3 (by omega)) (HSa.out.wd.keep K)))
 clear hO K hl
 go_wp2_with fail
 have HSa := HSR3
 refine (vaB none 0 [] Vb8 (Rd.nil _ _ _ _) (by simp) rfl (by simp)).mono ?_
 rintro r Vb9 ⟨v, rfl, hO, K⟩
 have hl : bytesD 2 [] = q 4 := by rw [← HQ.out]; rfl
 rw [hl] at hO
 obtain ⟨A4, c4, hv⟩ := hO.form
 subst hv
 have HSR4 := Lib.hid (HSa.out.add K (ByS.of_own hO (HLT.out 4 (by omega)) (HLN.out 4 (by omega)) (HSa.out.wd.keep K)))
 clear hO K hl
 obtain ⟨g5, hg5⟩ : ∃ g, Vb9.heap.size = g := ⟨_, rfl⟩
 obtain ⟨X1, hX1, kX1, BX1⟩ := Blk.al1 hg5 #[.int .u8 1, .int .u8 2] 5
 have HSR5 : Hid (AuS w X1 B t F _) := Lib.hid (HSR4.out.add kX1 (A := some ⟨g5, 0, none⟩) (m := 2) (l := q 5) ⟨by rw [← HQ.out]; exact Rd.of_blk BX1 (by decide) vaj (by decide) rfl, HLT.out 5 (by omega), by rw [← HQ.out]; decide, HLN.out 5 (by omega), HSR4.out.wd.keep kX1⟩)
 have HL5 : Hid ((q 5).length = 2) := Lib.hid (by rw [← HQ.out]; rfl)
 obtain ⟨bl, hbl⟩ : ∃ g, X1.heap.size = g := ⟨_, rfl⟩
 obtain ⟨X2, hX2, kX2, BX2⟩ := Blk.al1 hbl #[.slice A0 (q 0).length c0, .slice A1 (q 1).length c1, .slice A2 (q 2).length c2, .slice A3 (q 3).length c3, .slice A4 (q 4).length c4, .slice (some ⟨g5, 0, none⟩) 2 2] 96
 obtain ⟨bn, hbn⟩ : ∃ g, X2.heap.size = g := ⟨_, rfl⟩
 obtain ⟨X3, hX3, kX3, BX3⟩ := Blk.al1 hbn #[.string ⟨#[112, 111, 105, 115, 111, 110]⟩, .string ⟨#[110, 111, 110, 101]⟩, .string ⟨#[109, 101, 116, 114, 105, 99]⟩, .string ⟨#[110, 111, 110, 101]⟩, .string ⟨#[101, 109, 112, 116, 121]⟩, .string ⟨#[98, 121, 116, 101, 115]⟩] 97
 have HSX := Lib.hid (HSR5.out.keep (kX2.trans kX3))
 have HBL := Lib.hid (BX2.keep kX3)
 rw [← viG] at BX3
 have HBN := Lib.hid BX3
 have HARR : Hid (∀ j < 6, ∀ V, Kp X3 V → ∃ A m, V.cell? ⟨bl, j, none⟩ = some (.slice A (q j).length m) ∧ ByS V A m (q j)) := Lib.hid (fun j hj V hV => by
  have hc : j = 0 ∨ j = 1 ∨ j = 2 ∨ j = 3 ∨ j = 4 ∨ j = 5 := by omega
  have hb := fun x hx => (HSX.out.by_ x hx).keep hV
  rcases hc with rfl | rfl | rfl | rfl | rfl | rfl
  ·exact ⟨A0, c0, (HBL.out.keep hV).cell 0, hb (A0, c0, q 0) (by simp)⟩
  ·exact ⟨A1, c1, (HBL.out.keep hV).cell 1, hb (A1, c1, q 1) (by simp)⟩
  ·exact ⟨A2, c2, (HBL.out.keep hV).cell 2, hb (A2, c2, q 2) (by simp)⟩
  ·exact ⟨A3, c3, (HBL.out.keep hV).cell 3, hb (A3, c3, q 3) (by simp)⟩
  ·exact ⟨A4, c4, (HBL.out.keep hV).cell 4, hb (A4, c4, q 4) (by simp)⟩
  ·exact ⟨some ⟨g5, 0, none⟩, 2, by rw [HL5.out]; exact (HBL.out.keep hV).cell 5, hb (some ⟨g5, 0, none⟩, 2, q 5) (by simp)⟩)
 have HNM : Hid (∀ j < 6, ∀ V, Kp X3 V → V.cell? ⟨bn, j, none⟩ = some (.string (nameF (lookE auT 0 (q j))))) := Lib.hid (fun j hj V hV => by
  have hc : j = 0 ∨ j = 1 ∨ j = 2 ∨ j = 3 ∨ j = 4 ∨ j = 5 := by omega
  rw [← HQ.out]
  rcases hc with rfl | rfl | rfl | rfl | rfl | rfl <;> exact (HBN.out.keep hV).cell _)
 clear kX1 BX1 kX2 BX2 kX3 BX3
 go_upto_block 0 with (fail)
 refine wp_block ?_
 go_loopw [7, 8, 9] (fun i _ _ wr => ∃ j : Nat, j ≤ 6 ∧ i = .int .i64 j ∧ Hid (Kp X3 wr)) (fun i _ _ _ => 6 - (intOf i).toNat)
 case atStart => exact ⟨0, Nat.zero_le _, rfl, Lib.hid (Kp.refl _)⟩
 case round =>
  obtain ⟨j, hj, rfl, HKR⟩ := hrel
  by_cases hlt : j < 6
  ·have hj1 : (j : Int) < 6 := by omega
   have hj0 : (0 : Int) ≤ (j : Int) := by omega
   obtain ⟨Aj, mj, y, hby⟩ := HARR.out j hlt wr HKR.out
   have hlk := viE B t F auT 0 Aj mj (q j) wr (HSX.out.tm.keep HKR.out) (by decide) hby
   have HNJ := HNM.out j hlt
   obtain ⟨l, hl⟩ : ∃ l, q j = l := ⟨_, rfl⟩
   rw [hl] at y hlk HNJ
   obtain ⟨f, hf⟩ : ∃ f, lookE auT 0 l = f := ⟨_, rfl⟩
   rw [hf] at hlk HNJ
   obtain ⟨s, hs⟩ : ∃ s, nameF f = s := ⟨_, rfl⟩
   rw [hs] at HNJ
   have HLK := Lib.hid hlk
   have HNJ2 := Lib.hid HNJ
   have HSS := Lib.hid hs
   clear hlk HNJ hs hf hl hby
   go_upto_region 9 with (first | (go_at_call 36; refine HLK.out.mono ?_; rintro r w9 ⟨rfl, K9⟩; have HK9 := Lib.hid K9; clear K9 y))
   refine' vaz (fun (_ : Unit) _ V9 => Kp _ V9) [60, 61, 62, 63, 64, 65, 66, 67, 68, 69, 70] (fun (_ : Unit) => [.int .i64 0, .int .i64 0, .bool false, .bool false, .int .i64 f, .string s, .int .i64 (j : Nat), .pointer (some ⟨bn, j, none⟩), .string s, .bool false, .bool false]) (List.replicate 11 true) [] (by kernel_rfl) (by kernel_rfl) (fun _ => rfl) (fun _ => rfl) (fun _ => rfl) () (Kp.refl _).drew (fun _ _ _ _ _ h => h) ?_ ?_ ?_
   rotate_left
   ·intro z; simp only [List.zip_cons_cons, List.zip_nil_right, wrC, wrN, List.set_cons_zero, List.set_cons_succ, List.set_nil]; rfl
   ·repeat' (first | refine And.intro ?_ ?_ | exact trivial)
    all_goals intro z L a w9 hLi d hcl hM hO K hK
    all_goals try (go_simp; exact hK z _ _ (hO rfl) (fun _ _ => rfl) rfl)
    ·go_simp
     refine (veF _ _).mono ?_
     rintro e wb ⟨rfl, rfl⟩
     have hKc := Kp.refl w9
     exact hK z _ _ (hM.trans hKc) (fun _ _ => rfl) rfl
    ·go_simp
     refine (vdI f _).mono ?_
     rintro e wb ⟨rfl, hKc⟩
     rw [HSS.out]
     exact hK z _ _ (hM.trans hKc) (fun _ _ => rfl) rfl
    ·have y := HNJ2.out w9 (HKR.out.trans (HK9.out.trans hM))
     go_simp
     exact hK z _ _ (hO rfl) (fun _ _ => rfl) rfl
   intro z L w9 hL KV
   (try simp only [Exit.then])
   have HKN := Lib.hid (HKR.out.trans (HK9.out.trans KV))
   go_wp2_with fail
   go_roundw
   case rel => exact ⟨j + 1, by omega, by go_num, HKN⟩
   case measure => simp [intOf]; omega
  ·obtain rfl : j = 6 := by omega
   have HSY := Lib.hid (HSX.out.keep HKR.out)
   go_wp2_with fail
   refine (vhn wr).mono ?_
   rintro e Va10 ⟨rfl, K⟩
   have HSa := Lib.hid (HSY.out.keep K)
   clear K
   go_wp2_with fail
   refine (vaM (netQ 1) 1 Va10 (by decide) (by decide)).mono ?_
   rintro e Vb10 ⟨rfl, K⟩
   have HSb := Lib.hid (HSa.out.keep K)
   clear K
   go_wp2_with fail
   refine (vdN Vb10).mono ?_
   rintro e Va11 ⟨rfl, K⟩
   have HSa := Lib.hid (HSb.out.keep K)
   clear K
   go_wp2_with fail
   refine (vaM (netQ 5) 3 Va11 (by decide) (by decide)).mono ?_
   rintro e Vb11 ⟨rfl, K⟩
   have HSb := Lib.hid (HSa.out.keep K)
   clear K
   obtain ⟨e0, he0⟩ : ∃ e, oneE (netQ 1) 1 = e := ⟨_, rfl⟩
   obtain ⟨e1, he1⟩ : ∃ e, oneE (netQ 5) 3 = e := ⟨_, rfl⟩
   try rw [he0, he1]
   obtain ⟨g, hg⟩ : ∃ g, Vb11.heap.size = g := ⟨_, rfl⟩
   obtain ⟨Va12, hVa, kVa, BVa⟩ := Blk.al1 hg #[.int .i64 e0.f, .int .i64 e0.t, .int .u32 (e0.a : Int), .int .u32 (e0.m : Int), .int .u32 (e0.n : Int), .int .u32 (e0.k : Int), .int .i64 e1.f, .int .i64 e1.t, .int .u32 (e1.a : Int), .int .u32 (e1.m : Int), .int .u32 (e1.n : Int), .int .u32 (e1.k : Int)] 66
   have HSa := Lib.hid (HSb.out.keep kVa)
   have HRA : Hid (Rd Va12 6 En.enc (some ⟨g, 0, none⟩) [e0, e1]) := Lib.hid (Rd.of_blk BVa (by decide) En.enc_len (by simp [maxLen]) rfl)
   clear kVa BVa
   go_wp2_with fail
   try rw [hg]
   refine (vaB (some ⟨g, 0, none⟩) 2 [e0, e1] Va12 HRA.out ?_ ?_ (by simp)).mono ?_
   ·rw [← he0, ← he1]
    intro x hx
    simp only [List.mem_cons, List.not_mem_nil, or_false] at hx
    rcases hx with rfl | rfl
    ·exact (vct 1 (by decide) 1 (by decide)).2
    ·exact (vct 5 (by decide) 3 (by decide)).2
   ·rw [← he0, ← he1]
    decide +kernel
   rintro r Vb12 ⟨v, rfl, hO, K⟩
   have hl : bytesD 2 [e0, e1] = q 6 := by rw [← he0, ← he1, ← HQ.out]; rfl
   clear hVa hg he0 he1
   rw [hl] at hO
   obtain ⟨A6, c6, hv⟩ := hO.form
   subst hv
   have HSR6 := Lib.hid (HSa.out.add K (ByS.of_own hO (HLT.out 6 (by omega)) (HLN.out 6 (by omega)) (HSa.out.wd.keep K)))
   clear hO K hl
   obtain ⟨g, hg⟩ : ∃ g, Vb12.heap.size = g := ⟨_, rfl⟩
   obtain ⟨Va13, hVa, kVa, BVa⟩ := Blk.al1 hg #[.slice A6 (q 6).length c6] 64
   have HSa := Lib.hid (HSR6.out.keep kVa)
   have hfu := veE B t F auT 1 (some ⟨g, 0, none⟩) 1 [(A6, c6, q 6)] Va13 HSa.out.tm (by decide) (Rd.of_blk BVa (by decide) (fun _ => rfl) (by simp [maxLen]) rfl) (fun x hx => by
    simp only [List.mem_cons, List.not_mem_nil, or_false] at hx
    subst hx
    exact HSa.out.by_ (A6, c6, q 6) (by simp)) (by simp)
   rw [show fullE auT 1 [(A6, c6, q 6)] = true by rw [← HQ.out]; exact (vho A6 A6 c6 c6).1] at hfu
   have HFU := Lib.hid hfu
   clear hfu kVa BVa
   go_wp2_with fail
   try rw [hg]
   refine HFU.out.mono ?_
   rintro r Vb13 ⟨rfl, K⟩
   have HSf := Lib.hid (HSa.out.keep K)
   clear K hVa hg
   go_wp2_with fail
   refine (vdN Vb13).mono ?_
   rintro e Va14 ⟨rfl, K⟩
   have HSa := Lib.hid (HSf.out.keep K)
   clear K
   go_wp2_with fail
   refine (vaM (netQ 5) 3 Va14 (by decide) (by decide)).mono ?_
   rintro e Vb14 ⟨rfl, K⟩
   have HSb := Lib.hid (HSa.out.keep K)
   clear K
   obtain ⟨e0, he0⟩ : ∃ e, oneE (netQ 5) 3 = e := ⟨_, rfl⟩
   try rw [he0]
   obtain ⟨g, hg⟩ : ∃ g, Vb14.heap.size = g := ⟨_, rfl⟩
   obtain ⟨Va15, hVa, kVa, BVa⟩ := Blk.al1 hg #[.int .i64 e0.f, .int .i64 e0.t, .int .u32 (e0.a : Int), .int .u32 (e0.m : Int), .int .u32 (e0.n : Int), .int .u32 (e0.k : Int)] 66
   have HSa := Lib.hid (HSb.out.keep kVa)
   have HRA : Hid (Rd Va15 6 En.enc (some ⟨g, 0, none⟩) [e0]) := Lib.hid (Rd.of_blk BVa (by decide) En.enc_len (by simp [maxLen]) rfl)
   clear kVa BVa
   go_wp2_with fail
   try rw [hg]
   refine (vaB (some ⟨g, 0, none⟩) 1 [e0] Va15 HRA.out ?_ ?_ (by simp)).mono ?_
   ·rw [← he0]
    intro x hx
    simp only [List.mem_cons, List.not_mem_nil, or_false] at hx
    rcases hx with rfl
    ·exact (vct 5 (by decide) 3 (by decide)).2
   ·rw [← he0]
    decide +kernel
   rintro r Vb15 ⟨v, rfl, hO, K⟩
   have hl : bytesD 2 [e0] = q 7 := by rw [← he0, ← HQ.out]; rfl
   clear hVa hg he0
   rw [hl] at hO
   obtain ⟨A7, c7, hv⟩ := hO.form
   subst hv
   have HSR7 := Lib.hid (HSa.out.add K (ByS.of_own hO (HLT.out 7 (by omega)) (HLN.out 7 (by omega)) (HSa.out.wd.keep K)))
   clear hO K hl
   obtain ⟨g, hg⟩ : ∃ g, Vb15.heap.size = g := ⟨_, rfl⟩
   obtain ⟨Va16, hVa, kVa, BVa⟩ := Blk.al1 hg #[.slice A7 (q 7).length c7] 64
   have HSa := Lib.hid (HSR7.out.keep kVa)
   have hfu := veE B t F auT 1 (some ⟨g, 0, none⟩) 1 [(A7, c7, q 7)] Va16 HSa.out.tm (by decide) (Rd.of_blk BVa (by decide) (fun _ => rfl) (by simp [maxLen]) rfl) (fun x hx => by
    simp only [List.mem_cons, List.not_mem_nil, or_false] at hx
    subst hx
    exact HSa.out.by_ (A7, c7, q 7) (by simp)) (by simp)
   rw [show fullE auT 1 [(A7, c7, q 7)] = false by rw [← HQ.out]; exact (vho A7 A7 c7 c7).2] at hfu
   have HFU := Lib.hid hfu
   clear hfu kVa BVa
   go_wp2_with fail
   try rw [hg]
   refine HFU.out.mono ?_
   rintro r Vb16 ⟨rfl, K⟩
   have HSf := Lib.hid (HSa.out.keep K)
   clear K hVa hg
   go_wp2_with (first | (go_at_call 37; refine (veF _ _).mono ?_; rintro e wz ⟨rfl, rfl⟩))
   go_ret
   exact ⟨rfl, HSf.out.kp⟩
end

section
open Go.RowKit Go.Maps
set_option maxRecDepth 100000 in
theorem vcy (f : Int) (w : World) (hC : CapAt w) (hWd : WidAt w) : Calls Tryz.prog 3 #[.int .i64 f] w fun e w' => e = .returned (.bool true) ∧ Kp w w' := by
 have HCA := Lib.hid hC
 have HWD := Lib.hid hWd
 clear hC hWd
 obtain ⟨s, hs⟩ : ∃ s, nameF f = s := ⟨_, rfl⟩
 have HS := Lib.hid hs
 clear hs
 go_enter Tryz.func3, Tryz.ntmps3
 go_wp2_with fail
 refine (vdI f _).mono ?_
 rintro e w1 ⟨rfl, K1⟩
 rw [HS.out]
 have HK1 := Lib.hid K1
 clear K1
 go_wp2_with fail
 refine (vgM f _).mono ?_
 rintro e w2 ⟨rfl, K2⟩
 rw [HS.out]
 have HK2 := Lib.hid (HK1.out.trans K2)
 clear K2
 go_wp2_with fail
 refine (vfz _ (⟨HK2.out.cell HCA.out.1, HK2.out.cell HCA.out.2⟩) (HWD.out.keep HK2.out)).mono ?_
 rintro e w3 ⟨rfl, K3⟩
 go_wp2_with fail
 go_ret
 exact ⟨rfl, HK2.out.trans K3⟩
end

section
open Go Go.ChangeShapes Go.WideShapes Go.ChangeAt Go.RowKit Go.Joins Go.Deep
theorem vcu {H : Type} {enc : TypeId × Value → H} {P : Program} {W : World} {base : Nat} {spare : Nat → Bool} {held : Bool} {t0 : TypeId} {args : Array Value} {ds : List (DataW H)} {ps : List MemPlace} (h : DataW.TrodAll enc P W base spare held [t0] args.toList ds ps) :
  ∃ v0 d0 p0, args = #[v0] ∧ ds = [d0] ∧ DataW.Trod enc P W base spare held t0 v0 d0 p0 := by
 obtain ⟨v0, r0, d0, s0, p0, q0, e0, rfl, -, h0, k0⟩ := trodAll_cons h
 obtain ⟨rfl, rfl, -⟩ := trodAll_nil k0
 exact ⟨v0, d0, p0, Array.ext' (by simpa using e0), rfl, h0⟩
set_option maxRecDepth 100000 in
theorem vbG (os : Os) (started : os.Started) (H : Type) (enc : TypeId × Value → H) :
  ReturnsInHanded {} Tryz.checked os 3 .any (fun w args => (Rows.auditNamesSpec.pre enc Tryz.prog Tryz.f3 [] false w args ∧ laidMetH Tryz.prog auLaid w) ∧ sizedMet enc Tryz.prog Tryz.f3 (OpenSpec.ofChange Rows.auditNamesSpec) false w args)
   (Rows.auditNamesSpec.post enc Tryz.prog Tryz.f3 false true false false) := by
 refine returnsInHanded_of_change_and (C := Tryz.checked) (X := fun w _ => laidMetH Tryz.prog auLaid w) (fun _ _ _ hh h => h.of_heap hh) Tryz.own started (by kernel_rfl) Tryz.func3
  (ChangeSpec.witness_shaped (enc := enc) (C := Tryz.checked) (os := os) (X := fun w _ => laidMetH Tryz.prog auLaid w) false (World.doorLaid Tryz.prog 400 os) #[.int .i64 0] 8 rfl (World.shaped_of_RefB (by kernel_rfl) (by kernel_rfl)) (by kernel_rfl) (by kernel_rfl) (by kernel_rfl) (vkp os _)) ?_
 intro W base args ds gs before hval0 hW _ _ hL _
 have hval : ∀ (j : Nat) t v, Tryz.f3.params[j]? = some t → args[j]? = some v → Value.okWide Tryz.prog W .any base t v := hval0
 have hW' := hW
 obtain ⟨p, q, hA0, hV, rfl, hfz, hnd⟩ := hW
 have hA : DataW.TrodAll enc Tryz.prog W 0 (fun _ => true) true Tryz.f3.params.toList args.toList ds p := hA0
 rw [Tryz.params3] at hA hval
 obtain ⟨v0, _, _, rfl, rfl, h0⟩ := vcu hA
 obtain ⟨rfl, rfl⟩ := trodVars_none hV
 obtain ⟨n0, rfl, -, -, wn0⟩ := open_int Tryz.underlying22 (hval 0 _ v0 rfl rfl) h0
 clear hA0 hval0
 refine (vcy n0 W (vcQ hL).2 (vcQ hL).1).mono fun e W' ⟨he, hK⟩ => ?_
 subst he
 refine ⟨_, rfl, viu hW' rfl rfl rfl rfl rfl ?_ hK⟩
 intro t ht
 rw [Tryz.params3] at ht
 simp only [List.mem_cons, List.not_mem_nil, or_false] at ht
 rcases ht with rfl
 exact ⟨by kernel_rfl, of_decide_eq_true (by kernel_rfl)⟩
set_option maxRecDepth 100000 in
theorem vbH : joinedFacts Tryz.prog 3 Tryz.f3 Rows.auditNamesSpec Rows.auditNamesRow = true := by
 unfold joinedFacts
 simp only [Bool.and_eq_true]
 repeat' refine And.intro ?_ ?_
 all_goals as_aux_lemma => kernel_rfl
theorem vbM : Rows.AuditNamesSaid :=
 OpenClaim.holds_of_wide 3 Tryz.f3 rfl rfl rfl rfl rfl rfl rfl ⟨rfl, rfl, rfl, rfl, rfl⟩ rfl rfl rfl rfl rfl (by kernel_rfl) Tryz.func3 vbH
  (of_decide_eq_true (by kernel_rfl)) (by unfold Func.isWrapper; first | (rw [if_pos (by decide +kernel)]; kernel_rfl) | (rw [if_neg (by decide +kernel)]; exact ⟨rfl, rfl⟩))
  (fun os started H enc _ => vbG os started H enc)
theorem auditNames_card_holds : Rows.AuditNamesCardSaid :=
 Claim7.holds_tied_plain_at .later [] [.data, .data] true (true, "c35284451049d566b3a081529b1b659d2ce9466078bb6e9d13e885aa30dfdeb3") true
  vbM (fun _ h => by cases h) (by kernel_rfl) (fun _ h => by cases h) auditNames_row_tie rfl ⟨rfl, rfl⟩ (by kernel_rfl) rfl
  (fun f fn hf hfn => by
   obtain rfl : f = 3 := Option.some.inj ((show Tryz.prog.funcNamed "waywarden/waywardenlaw24.AuditNames" = some 3 by kernel_rfl).symm.trans hf) |>.symm
   obtain rfl : fn = Tryz.f3 := (Option.some.inj (Tryz.func3.symm.trans hfn)).symm
   exact ⟨by kernel_rfl, fun j t ht => by
    rw [Tryz.params3] at ht
    have hm : t ∈ [22] := by simpa using Array.mem_of_getElem? ht
    have hall : ([22].all fun u => !Tryz.prog.wantsStandIn u) = true := by kernel_rfl
    exact (show Tryz.prog.wantsStandIn t = false by simpa using List.all_eq_true.1 hall t hm)⟩)
  (by kernel_rfl)
end

end Go.Proofs.YtgopnfacklmkaaaGreatDoor
