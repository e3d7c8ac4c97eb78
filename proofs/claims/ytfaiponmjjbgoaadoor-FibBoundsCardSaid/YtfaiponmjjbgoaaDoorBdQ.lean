/- Proved here: THE TIED CARD of FibBounds of the package waywardenlaw13: for every input the law returns true, and each argument reads behind the call as it read before (Rows.FibBoundsCardSaid). Conditions: the variable prefix.rels starts as the program's text lays it, which the card ties. -/
import Derived.Test.YtfaiponmjjbgoaaDoorWk
import Derived.Test.YtfaiponmjjbgoaaDoorLaid
import Derived.Test.YtfaiponmjjbgoaaDoorLaw
import Derived.Test.YtfaiponmjjbgoaaDoorTie
import Derived.Test.YtfaiponmjjbgoaaDoorCards
import Derived.SevenTiedAt
namespace Go.Proofs.YtfaiponmjjbgoaaDoor
open Go.RowKit

/-- The route that comes at a round. -/
def bdR (k : Nat) (m : Int) : Rt := ⟨⟨167772160 + k * 256, 24⟩, 2, m, 0, 0, 167772418, 1, false⟩
/-- What the table holds ahead of a round. -/
def BdJ (k : Nat) (L : List Hp) : Prop := L.length = (if k ≤ 512 then k else 512) ∧ ∀ e ∈ L, ∃ j, j < k ∧ e.p = ⟨167772160 + j * 256, 24⟩
theorem BdJ.nil : BdJ 0 [] := ⟨rfl, by simp⟩

theorem bd_check {k : Nat} {m : Int} (hk : k ≤ 512) (h1 : 2 ≤ m) (h2 : m ≤ 15) : checkR (bdR k m) = 0 := by
  have hkx : kindN 167772418 = 6 := by decide +kernel
  have hka : kindN (167772160 + k * 256) = 6 := by
    have h0 : (167772160 + k * 256) / 16777216 = 10 := by omega
    unfold kindN
    rw [h0]
    have h1 : ¬ 167772160 + k * 256 = 0 := by omega
    simp [h1]
  have hs : stateB (bdR k m) = true := by
    have a1 : decide (m < 2) = false := by simp; omega
    have a2 : decide (15 < m) = false := by simp; omega
    simp [stateB, bdR, withB, hasB, someB, mayB, hkx, a1, a2]
    exact ⟨decide_eq_false (by omega), decide_eq_false (by omega)⟩
  have ht : toldB (bdR k m).p = true := by
    have hb : badKind (167772160 + k * 256) 24 = false := by simp [badKind, hka]
    have hc : cut (167772160 + k * 256) 24 = 167772160 + k * 256 := by unfold cut; omega
    simp only [toldB, bdR, PI.okB]
    simp [hb, hc]
  simp [checkR, hs, ht]
theorem ins_len {h : Hp} : ∀ {L : List Hp}, (∀ e ∈ L, e.p ≠ h.p) → (insH h L).length = L.length + 1
  | [], _ => rfl
  | a :: l, hn => by
    unfold insH
    split
    · rw [List.length_cons, ins_len (fun e he => hn e (by simp [he]))]; rfl
    · have : delH h.p (a :: l) = a :: l := by
        unfold delH
        rw [List.filter_eq_self]
        intro e he
        simpa using hn e he
      rw [this]; rfl
theorem bd_no {k : Nat} {m : Int} {L : List Hp} (h : BdJ k L) : ∀ e ∈ L, e.p ≠ (bdR k m).hop.p := fun e he hc => by
  obtain ⟨j, hj, e1⟩ := h.2 e he
  rw [e1] at hc
  simp only [Rt.hop, bdR, PI.pn, Pn.mk.injEq] at hc
  omega
theorem bd_has {k : Nat} {m : Int} {L : List Hp} (h : BdJ k L) : hasP (bdR k m).hop.p L = false := by
  rw [Bool.eq_false_iff]
  intro hc
  obtain ⟨e, he, hp⟩ := hasP_iff.1 hc
  exact bd_no h e he hp
theorem bd_less {k : Nat} {m : Int} {L : List Hp} (h : BdJ k L) (hk : k < 512) (h1 : 2 ≤ m) (h2 : m ≤ 15) : runE [bdR k m] L = 0 ∧ runN [bdR k m] L = 1 ∧ BdJ (k + 1) (runL [bdR k m] L) := by
  have hc := bd_check (k := k) (by omega) h1 h2
  have hl : L.length < 512 := by rw [h.1, if_pos (by omega)]; exact hk
  have hs : (bdR k m).s = 1 ∨ (bdR k m).s = 2 := .inr rfl
  have hE : comeE (bdR k m) L = 0 := by unfold comeE; rw [if_pos hc, if_pos hs]; simp [putE, hl]
  have hL : comeL (bdR k m) L = insH (bdR k m).hop L := by unfold comeL; rw [if_pos hc, if_pos hs]; simp [putL, hl]
  refine ⟨by simp [runE, hE], by simp [runN, hE], ?_⟩
  simp only [runL, hE, if_true, hL]
  refine ⟨?_, fun e he => ?_⟩
  · rw [ins_len (bd_no h), h.1, if_pos (by omega), if_pos (by omega)]
  · have hmem : ∀ (l : List Hp), e ∈ insH (bdR k m).hop l → e = (bdR k m).hop ∨ e ∈ l := by
      intro l
      induction l with
      | nil => intro h; simp [insH] at h; exact .inl h
      | cons a l ih =>
        intro h
        unfold insH at h
        split at h
        · rcases List.mem_cons.1 h with e1 | e1
          · exact .inr (by simp [e1])
          · exact (ih e1).imp id (fun e2 => by simp [e2])
        · rcases List.mem_cons.1 h with e1 | e1
          · exact .inl e1
          · exact .inr (del_mem.1 e1).2
    rcases hmem L he with e1 | e1
    · exact ⟨k, by omega, by rw [e1]; rfl⟩
    · obtain ⟨j, hj, e2⟩ := h.2 e e1
      exact ⟨j, by omega, e2⟩
theorem bd_full {m : Int} {L : List Hp} (h : BdJ 512 L) (h1 : 2 ≤ m) (h2 : m ≤ 15) : runE [bdR 512 m] L = 3 ∧ runN [bdR 512 m] L = 0 ∧ BdJ 513 (runL [bdR 512 m] L) := by
  have hc := bd_check (k := 512) (by omega) h1 h2
  have hl : ¬ L.length < 512 := by rw [h.1]; simp
  have hs : (bdR 512 m).s = 1 ∨ (bdR 512 m).s = 2 := .inr rfl
  have hE : comeE (bdR 512 m) L = 3 := by unfold comeE; rw [if_pos hc, if_pos hs]; simp [putE, hl, bd_has h]
  refine ⟨by simp [runE, hE], by simp [runN, hE], ?_⟩
  have : runL [bdR 512 m] L = L := by simp [runL, hE]
  rw [this]
  exact ⟨by rw [h.1]; simp, fun e he => by obtain ⟨j, hj, e2⟩ := h.2 e he; exact ⟨j, by omega, e2⟩⟩
end Go.Proofs.YtfaiponmjjbgoaaDoor

namespace Go.Proofs.YtfaiponmjjbgoaaDoor
open Go.RowKit
attribute [local go_sem] Oper.semAt_some

/-- What holds ahead of a round. -/
structure BdI (w : World) (f c : Nat) (m : Int) (k : Nat) (W : World) (F : List Nat) (L : List Hp) (a l : Int) : Prop where
  fm : FM W f F L
  j : BdJ k L
  new : ∀ b ∈ F, w.heap.size ≤ b
  rels : RelsAt W
  gn : 0 ∉ F
  kp : Kp w W
  box : Blk W c 31 #[.int .u32 a, .int .i64 l, .int .i64 2, .int .i64 m, .int .i64 0, .int .i64 0, .int .u32 167772418, .int .i64 1, .bool false]
  cn : c ∉ F
  cw : w.heap.size ≤ c
def BdA (w : World) (f c : Nat) (m : Int) (k : Nat) (W : World) : Prop := ∃ F L a l, BdI w f c m k W F L a l

theorem shl8 (k : Nat) (hk : k ≤ 600) : IntKind.u32.wrap ((k : Int) * 256) = ((k * 256 : Nat) : Int) := by
  simp [IntKind.wrap, IntKind.bits, IntKind.signed]; omega

set_option maxRecDepth 100000 in
set_option maxHeartbeats 4000000 in
theorem bounds_walk (more m : Int) (N : Nat) (w : World) (hG : RelsAt w) (hN : 512 + more = (N : Int)) (h511 : 511 ≤ N) (h513 : N ≤ 513) (h2 : 2 ≤ m) (h15 : m ≤ 15) :
    Calls Tryd.prog 3 #[.int .i64 more, .int .i64 m] w fun e w' => e = .returned (.bool true) ∧ Kp w w' := by
  have HG := Lib.hid hG
  have hm1 : more = (N : Int) - 512 := by omega
  subst hm1
  have d1 : decide ((N : Int) - 512 < -1) = false := by simp; omega
  have d2 : decide (1 < (N : Int) - 512) = false := by simp; omega
  have d3 : decide (m < 2) = false := by simp; omega
  have d4 : decide (15 < m) = false := by simp; omega
  clear hG hN
  go_enter Tryd.func3, Tryd.ntmps3
  go_wp2_with fail
  refine (fnew_any w).mono ?_
  rintro e w1 ⟨f, F, rfl, hM, hK, hF⟩
  have hlF := hM.lt
  have hGn : 0 ∉ F := fun hc => by have := hF _ hc; have := rels_lt HG.out; omega
  have HI : Hid (BdA w f w1.heap.size m 0 (w1.alloc (.cells #[.int .u32 0, .int .i64 0, .int .i64 2, .int .i64 m, .int .i64 0, .int .i64 0, .int .u32 167772418, .int .i64 1, .bool false] 31))) :=
    Lib.hid ⟨F, [], 0, 0, ⟨hM.keep ((Kp.refl _).alloc _), BdJ.nil, hF, HG.out.keep (hK.alloc _), hGn, hK.alloc _, Blk.new w1 _ _, fun hc => by have := hlF _ hc; omega, hK.size⟩⟩
  clear hM hK hF hlF hGn
  go_wp2_with fail
  go_loopw [7] (fun i wr => ∃ k : Nat, k ≤ N ∧ i = .int .i64 k ∧ BdA w f w1.heap.size m k wr) (fun i _ => N - (intOf i).toNat)
  case atStart => exact ⟨0, Nat.zero_le _, rfl, HI.out⟩
  case round =>
    obtain ⟨k, hk, rfl, F, L, a, l, hI⟩ := hrel
    have HB := Lib.hid hI
    have x0 : wr.cell? ⟨w1.heap.size, 0, none⟩ = some (.int .u32 a) := hI.box.cell 0
    have x1 : wr.cell? ⟨w1.heap.size, 1, none⟩ = some (.int .i64 l) := hI.box.cell 1
    have x2 : wr.cell? ⟨w1.heap.size, 2, none⟩ = some (.int .i64 2) := hI.box.cell 2
    have x3 : wr.cell? ⟨w1.heap.size, 3, none⟩ = some (.int .i64 m) := hI.box.cell 3
    have x4 : wr.cell? ⟨w1.heap.size, 4, none⟩ = some (.int .i64 0) := hI.box.cell 4
    have x5 : wr.cell? ⟨w1.heap.size, 5, none⟩ = some (.int .i64 0) := hI.box.cell 5
    have x6 : wr.cell? ⟨w1.heap.size, 6, none⟩ = some (.int .u32 167772418) := hI.box.cell 6
    have x7 : wr.cell? ⟨w1.heap.size, 7, none⟩ = some (.int .i64 1) := hI.box.cell 7
    have x8 : wr.cell? ⟨w1.heap.size, 8, none⟩ = some (.bool false) := hI.box.cell 8
    have z0 := hI.box.frozen 0
    have z1 := hI.box.frozen 1
    clear hI HI
    have hs8 := shl8 k (by omega)
    by_cases hlt : k < N
    · have hd : decide ((k : Int) < (N : Int)) = true := by simpa using hlt
      go_wp2_with fail
      have ea : (167772160 + (k : Int) * 256) = ((167772160 + k * 256 : Nat) : Int) := by omega
      rw [ea]
      obtain ⟨V, hV⟩ : ∃ V, (wr.setCell ⟨w1.heap.size, 0, none⟩ (.int .u32 ((167772160 + k * 256 : Nat) : Int))).setCell ⟨w1.heap.size, 1, none⟩ (.int .i64 24) = V := ⟨_, rfl⟩
      rw [hV]
      have OV : Only [w1.heap.size] wr V := by rw [← hV]; exact ((Only.refl _ _).setCell (.inl (by simp)) _).setCell (.inl (by simp)) _
      have hsz : V.heap.size = wr.heap.size := by rw [← hV]; simp
      have bV : Blk V w1.heap.size 31 #[.int .u32 ((167772160 + k * 256 : Nat) : Int), .int .i64 24, .int .i64 2, .int .i64 m, .int .i64 0, .int .i64 0, .int .u32 167772418, .int .i64 1, .bool false] := by rw [← hV]; exact (HB.out.box.set_ 0 _).set_ 1 _
      have fV := HB.out.fm.only OV (fun b hb => by simp; intro e; subst e; exact HB.out.cn hb)
      have kV : Kp w V := OV.kp HB.out.kp (by simp; exact HB.out.cw)
      have gV := HB.out.rels.only OV (by simp; intro e; have := rels_lt HG.out; have := HB.out.cw; omega)
      have rd : Rd (V.alloc (.cells (bdR k m).enc.toArray 31)) 9 Rt.enc (some ⟨wr.heap.size, 0, none⟩) [bdR k m] := by rw [← hsz]; exact Rd.one V _
      have ha : ∀ o, Kp V (V.alloc o) := fun o => (Kp.refl _).alloc o
      have hlF := HB.out.fm.lt
      refine (Come_any f F L [bdR k m] (some ⟨wr.heap.size, 0, none⟩) 1 _ (gV.keep (ha _)) HB.out.gn (fV.keep (ha _)) rd (fun _ a ha hc => by injection ha with ha; subst ha; have h9 : wr.heap.size < wr.heap.size := hlF _ hc; omega) (by simp) (by simp [Rt.fits, bdR]; omega)).mono ?_
      rintro e w5 ⟨rfl, hT⟩
      obtain ⟨F5, fm5, O5, s5, r5, gn5⟩ := hT.open (gV.keep (ha _)) HB.out.gn
      have O6 : Only F V w5 := (Only.of_kp (ha _)).trans O5
      have n5 : ∀ b ∈ F5, w.heap.size ≤ b := fun b hb => by
        rcases s5 b hb with e | e
        · exact HB.out.new b e
        · exact Nat.le_trans (kV.trans (ha _)).size e
      have c5 : w1.heap.size ∉ F5 := fun hc => by
        rcases s5 _ hc with e | e
        · exact HB.out.cn e
        · have := bV.lt; have := (ha (.cells (bdR k m).enc.toArray 31)).size; omega
      have I5 : ∀ k', BdJ k' (runL [bdR k m] L) → BdA w f w1.heap.size m k' w5 := fun k' hj => ⟨F5, _, _, _, ⟨fm5, hj, n5, r5, gn5, O6.kp kV HB.out.new, bV.only O6 HB.out.cn, c5, HB.out.cw⟩⟩
      have HI5 := Lib.hid I5
      clear hV OV bV fV kV gV rd hlF hT O5 s5 r5 gn5 O6 n5 c5 I5 x0 x1 x2 x3 x4 x5 x6 x7 x8 z0 z1 fm5
      by_cases hk5 : k < 512
      · obtain ⟨e1, e2, e3⟩ := bd_less (m := m) HB.out.j hk5 h2 h15
        rw [e1, e2]
        have HJ := Lib.hid (HI5.out _ e3)
        have q1 : ((k : Int) == 512) = false := by simp; omega
        clear e1 e2 e3 ea
        go_wp2_with fail
        refine (num_any 0 _).mono ?_
        rintro e w' ⟨rfl, rfl⟩
        go_wp2_with fail
        go_roundw
        case rel => exact ⟨k + 1, by omega, by go_num, HJ.out⟩
        case measure => simp [intOf]; omega
      · obtain rfl : k = 512 := by omega
        obtain ⟨e1, e2, e3⟩ := bd_full (m := m) HB.out.j h2 h15
        rw [e1, e2]
        have HJ := Lib.hid (HI5.out _ e3)
        clear e1 e2 e3 ea
        go_wp2_with fail
        refine (num_any 3 _).mono ?_
        rintro e w' ⟨rfl, rfl⟩
        go_wp2_with fail
        go_roundw
        case rel => exact ⟨513, by omega, by go_num, HJ.out⟩
        case measure => simp [intOf]; omega
    · have hd : decide ((k : Int) < (N : Int)) = false := by simpa using hlt
      obtain rfl : k = N := by omega
      go_wp2_with fail
      refine (flen_any f F L _ HB.out.fm).mono ?_
      rintro e w' ⟨rfl, rfl⟩
      rw [HB.out.j.1]
      have hc3 : k = 511 ∨ k = 512 ∨ k = 513 := by omega
      rcases hc3 with rfl | rfl | rfl
      all_goals
        go_wp2_with fail
        refine (works_any _ HB.out.rels).mono ?_
        rintro e w' ⟨rfl, hKw⟩
        go_wp2_with fail
        go_ret
        exact ⟨rfl, HB.out.kp.trans hKw⟩

set_option maxRecDepth 100000 in
set_option maxHeartbeats 2000000 in
theorem bounds_any (more m : Int) (w : World) (hG : RelsAt w) : Calls Tryd.prog 3 #[.int .i64 more, .int .i64 m] w fun e w' => e = .returned (.bool true) ∧ Kp w w' := by
  by_cases h1 : more < -1
  · have d1 : decide (more < -1) = true := by simpa using h1
    clear h1
    go_enter Tryd.func3, Tryd.ntmps3
    go_wp2_with fail
    refine (works_any _ hG).mono ?_
    rintro e w' ⟨rfl, hK⟩
    go_wp2_with fail
    go_ret
    exact ⟨rfl, hK⟩
  have d1 : decide (more < -1) = false := by simpa using h1
  by_cases h2 : 1 < more
  · have d2 : decide (1 < more) = true := by simpa using h2
    clear h1 h2
    go_enter Tryd.func3, Tryd.ntmps3
    go_wp2_with fail
    refine (works_any _ hG).mono ?_
    rintro e w' ⟨rfl, hK⟩
    go_wp2_with fail
    go_ret
    exact ⟨rfl, hK⟩
  have d2 : decide (1 < more) = false := by simpa using h2
  by_cases h3 : m < 2
  · have d3 : decide (m < 2) = true := by simpa using h3
    clear h1 h2 h3
    go_enter Tryd.func3, Tryd.ntmps3
    go_wp2_with fail
    refine (works_any _ hG).mono ?_
    rintro e w' ⟨rfl, hK⟩
    go_wp2_with fail
    go_ret
    exact ⟨rfl, hK⟩
  have d3 : decide (m < 2) = false := by simpa using h3
  by_cases h4 : 15 < m
  · have d4 : decide (15 < m) = true := by simpa using h4
    clear h1 h2 h3 h4
    go_enter Tryd.func3, Tryd.ntmps3
    go_wp2_with fail
    refine (works_any _ hG).mono ?_
    rintro e w' ⟨rfl, hK⟩
    go_wp2_with fail
    go_ret
    exact ⟨rfl, hK⟩
  exact bounds_walk more m (512 + more).toNat w hG (by omega) (by omega) (by omega) (by omega) (by omega)
end Go.Proofs.YtfaiponmjjbgoaaDoor

namespace Go.Proofs.YtfaiponmjjbgoaaDoor
open Go Go.ChangeShapes Go.WideShapes Go.ChangeAt Go.RowKit Go.Joins Go.Deep

set_option maxRecDepth 100000 in
theorem fibBounds_lifted (os : Os) (started : os.Started) (H : Type) (enc : TypeId × Value → H) :
    ReturnsInHanded {} Tryd.checked os 3 .any (fun w args => (Rows.fibBoundsSpec.pre enc Tryd.prog Tryd.f3 [] false w args ∧ laidMetH Tryd.prog relsLaid w) ∧ sizedMet enc Tryd.prog Tryd.f3 (OpenSpec.ofChange Rows.fibBoundsSpec) false w args)
      (Rows.fibBoundsSpec.post enc Tryd.prog Tryd.f3 false true false false) := by
  refine returnsInHanded_of_change_and (C := Tryd.checked) (X := fun w _ => laidMetH Tryd.prog relsLaid w) (fun _ _ _ hh h => h.of_heap hh) Tryd.own started (by kernel_rfl) Tryd.func3
    (ChangeSpec.witness_shaped (enc := enc) (C := Tryd.checked) (os := os) (X := fun w _ => laidMetH Tryd.prog relsLaid w) false (World.doorLaid Tryd.prog 400 os) #[.int .i64 0, .int .i64 0] 8 rfl (World.shaped_of_RefB (by kernel_rfl) (by kernel_rfl)) (by kernel_rfl) (by kernel_rfl) (by kernel_rfl) (door_met os _)) ?_
  intro W base args ds gs before hval0 hW _ _ hL _
  have hval : ∀ (j : Nat) t v, Tryd.f3.params[j]? = some t → args[j]? = some v → Value.okWide Tryd.prog W .any base t v := hval0
  have hW' := hW
  obtain ⟨p, q, hA0, hV, rfl, hfz, hnd⟩ := hW
  have hA : DataW.TrodAll enc Tryd.prog W 0 (fun _ => true) true Tryd.f3.params.toList args.toList ds p := hA0
  rw [Tryd.params3] at hA hval
  obtain ⟨v0, v1, d0, d1, p0, p1, rfl, rfl, rfl, h0, h1⟩ := trodAll_two hA
  obtain ⟨rfl, rfl⟩ := trodVars_none hV
  obtain ⟨a0, rfl, rfl, rfl, wf0⟩ := open_int Tryd.underlying3 (hval 0 _ v0 rfl rfl) h0
  obtain ⟨a1, rfl, rfl, rfl, wf1⟩ := open_int Tryd.underlying3 (hval 1 _ v1 rfl rfl) h1
  clear hA0 hval0
  refine (bounds_any a0 a1 W (rels_of_laid hL)).mono fun e W' ⟨he, hK⟩ => ?_
  subst he
  refine ⟨_, rfl, law_post hW' rfl rfl rfl rfl rfl ?_ hK⟩
  intro t ht
  rw [Tryd.params3] at ht
  simp only [List.mem_cons, List.not_mem_nil, or_false] at ht
  rcases ht with rfl | rfl <;> exact ⟨by kernel_rfl, of_decide_eq_true (by kernel_rfl)⟩

theorem fibBounds_holds : Rows.FibBoundsSaid :=
  OpenClaim.holds_of_wide 3 Tryd.f3 rfl rfl rfl rfl rfl rfl rfl ⟨rfl, rfl, rfl, rfl, rfl⟩ rfl rfl rfl rfl rfl (by kernel_rfl) Tryd.func3 (by kernel_rfl)
    (of_decide_eq_true (by kernel_rfl)) (by unfold Func.isWrapper; first | (rw [if_pos (by decide +kernel)]; kernel_rfl) | (rw [if_neg (by decide +kernel)]; exact ⟨rfl, rfl⟩))
    (fun os started H enc _ => fibBounds_lifted os started H enc)

theorem fibBounds_card_holds : Rows.FibBoundsCardSaid :=
  Claim7.holds_tied_plain_at .later [] [.data] true (true, "e25179a0860a9ae96ad4028fd483feec1d275d47ca5ad5c3ab305e426dc6447b") true
    fibBounds_holds (fun _ h => by cases h) (by kernel_rfl) (fun _ h => by cases h) fibBounds_row_tie rfl ⟨rfl, rfl⟩ (by kernel_rfl) rfl
    (fun f fn hf hfn => by
      obtain rfl : f = 3 := Option.some.inj ((show Tryd.prog.funcNamed "waywarden/waywardenlaw13.FibBounds" = some 3 by kernel_rfl).symm.trans hf) |>.symm
      obtain rfl : fn = Tryd.f3 := (Option.some.inj (Tryd.func3.symm.trans hfn)).symm
      exact ⟨by kernel_rfl, fun j t ht => by
        rw [Tryd.params3] at ht
        have hm : t ∈ [3, 3] := by simpa using Array.mem_of_getElem? ht
        have hall : ([3, 3].all fun u => !Tryd.prog.wantsStandIn u) = true := by kernel_rfl
        exact (show Tryd.prog.wantsStandIn t = false by simpa using List.all_eq_true.1 hall t hm)⟩)
    (by kernel_rfl)
end Go.Proofs.YtfaiponmjjbgoaaDoor
