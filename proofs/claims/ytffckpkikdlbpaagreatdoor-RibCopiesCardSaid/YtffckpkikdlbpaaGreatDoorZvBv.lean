/- Proved here: THE TIED CARD of RibCopies of the package waywardenlaw12: for every input the law returns true, and each argument reads behind the call as it read before (Rows.RibCopiesCardSaid). Conditions: the two listed tables of bounds start as the program's text lays them, which the card ties. -/
import Derived.Test.YtffckpkikdlbpaaGreatDoorZvBu
import Derived.Test.YtffckpkikdlbpaaGreatDoorTie
import Derived.Test.YtffckpkikdlbpaaGreatDoorCards
import Derived.SevenTiedAt
set_option linter.all false
set_option maxHeartbeats 16000000
namespace Go.Proofs.YtffckpkikdlbpaaGreatDoor
section
open Go Go.ChangeShapes Go.WideShapes Go.ChangeAt Go.RowKit Go.Joins Go.Deep
theorem vdA {H : Type} {enc : TypeId × Value → H} {P : Program} {W : World} {base : Nat} {spare : Nat → Bool} {held : Bool} {t0 t1 t2 t3 : TypeId} {args : Array Value} {ds : List (DataW H)} {ps : List MemPlace} (h : DataW.TrodAll enc P W base spare held [t0, t1, t2, t3] args.toList ds ps) :
  ∃ v0 v1 v2 v3 d0 d1 d2 d3 p0 p1 p2 p3, args = #[v0, v1, v2, v3] ∧ ds = [d0, d1, d2, d3] ∧ DataW.Trod enc P W base spare held t0 v0 d0 p0 ∧ DataW.Trod enc P W base spare held t1 v1 d1 p1 ∧ DataW.Trod enc P W base spare held t2 v2 d2 p2 ∧ DataW.Trod enc P W base spare held t3 v3 d3 p3 := by
 obtain ⟨v0, r0, d0, s0, p0, q0, e0, rfl, -, h0, k0⟩ := trodAll_cons h
 obtain ⟨v1, r1, d1, s1, p1, q1, rfl, rfl, -, h1, k1⟩ := trodAll_cons k0
 obtain ⟨v2, r2, d2, s2, p2, q2, rfl, rfl, -, h2, k2⟩ := trodAll_cons k1
 obtain ⟨v3, r3, d3, s3, p3, q3, rfl, rfl, -, h3, k3⟩ := trodAll_cons k2
 obtain ⟨rfl, rfl, -⟩ := trodAll_nil k3
 exact ⟨v0, v1, v2, v3, d0, d1, d2, d3, p0, p1, p2, p3, Array.ext' (by simpa using e0), rfl, h0, h1, h2, h3⟩
set_option maxRecDepth 100000 in
theorem vcP (os : Os) (started : os.Started) (H : Type) (enc : TypeId × Value → H) :
  ReturnsInHanded {} Tryz.checked os 8 .any (fun w args => (Rows.ribCopiesSpec.pre enc Tryz.prog Tryz.f8 [] false w args ∧ laidMetH Tryz.prog bndLaid w) ∧ sizedMet enc Tryz.prog Tryz.f8 (OpenSpec.ofChange Rows.ribCopiesSpec) false w args)
   (Rows.ribCopiesSpec.post enc Tryz.prog Tryz.f8 false true false false) := by
 refine returnsInHanded_of_change_and (C := Tryz.checked) (X := fun w _ => laidMetH Tryz.prog bndLaid w) (fun _ _ _ hh h => h.of_heap hh) Tryz.own started (by kernel_rfl) Tryz.func8
  (ChangeSpec.witness_shaped (enc := enc) (C := Tryz.checked) (os := os) (X := fun w _ => laidMetH Tryz.prog bndLaid w) false (World.doorLaid Tryz.prog 400 os) #[.agg #[.int .i64 0, .int .i64 0, .int .i64 0, .int .i64 0, .int .i64 0, .int .i64 0, .int .i64 0, .int .i64 0, .slice none 0 0], .slice none 0 0, .agg #[.int .i64 0, .int .i64 0, .int .u32 0, .int .i64 0, .int .i64 0, .int .u32 0, .int .i64 0, .int .i64 0, .bool false], .agg #[.int .i64 0, .int .i64 0, .int .u32 0, .int .i64 0, .int .i64 0, .int .u32 0, .int .i64 0, .int .i64 0, .bool false]] 8 rfl (World.shaped_of_RefB (by kernel_rfl) (by kernel_rfl)) (by kernel_rfl) (by kernel_rfl) (by kernel_rfl) (vlx os _)) ?_
 intro W base args ds gs before hval0 hW _ _ hL _
 have hval : ∀ (j : Nat) t v, Tryz.f8.params[j]? = some t → args[j]? = some v → Value.okWide Tryz.prog W .any base t v := hval0
 have hW' := hW
 obtain ⟨p, q, hA0, hV, rfl, hfz, hnd⟩ := hW
 have hA : DataW.TrodAll enc Tryz.prog W 0 (fun _ => true) true Tryz.f8.params.toList args.toList ds p := hA0
 rw [Tryz.params8] at hA hval
 obtain ⟨v0, v1, v2, v3, _, _, _, _, _, _, _, _, rfl, rfl, h0, h1, h2, h3⟩ := vdA hA
 obtain ⟨rfl, rfl⟩ := trodVars_none hV
 obtain ⟨c, Ac, mc, rfl, hSc, hwc⟩ := vfR (hval 0 _ v0 rfl rfl) h0
 obtain ⟨Al, cl, ls, rfl, hRl, hxl⟩ := vjz (hval 1 _ v1 rfl rfl) h1
 obtain ⟨x2, rfl, F2⟩ := vgy (hval 2 _ v2 rfl rfl) h2
 obtain ⟨x3, rfl, F3⟩ := vgy (hval 3 _ v3 rfl rfl) h3
 clear hA0 hval0
 refine (vev c Ac Al mc cl ls x2 x3 W hSc hwc hRl hxl F2 F3 (vdu hL).1 (vdu hL).2).mono fun e W' ⟨he, hK⟩ => ?_
 subst he
 refine ⟨_, rfl, vkZ hW' rfl rfl rfl rfl rfl ?_ hK⟩
 intro t ht
 rw [Tryz.params8] at ht
 simp only [List.mem_cons, List.not_mem_nil, or_false] at ht
 rcases ht with rfl | rfl | rfl | rfl <;> exact ⟨by kernel_rfl, of_decide_eq_true (by kernel_rfl)⟩
theorem vdv : Rows.RibCopiesSaid :=
 OpenClaim.holds_of_wide 8 Tryz.f8 rfl rfl rfl rfl rfl rfl rfl ⟨rfl, rfl, rfl, rfl, rfl⟩ rfl rfl rfl rfl rfl (by kernel_rfl) Tryz.func8 (by kernel_rfl)
  (of_decide_eq_true (by kernel_rfl)) (by unfold Func.isWrapper; first | (rw [if_pos (by decide +kernel)]; kernel_rfl) | (rw [if_neg (by decide +kernel)]; exact ⟨rfl, rfl⟩))
  (fun os started H enc _ => vcP os started H enc)
theorem ribCopies_card_holds : Rows.RibCopiesCardSaid :=
 Claim7.holds_tied_plain_at .later [] [.data, .data] true (true, "586ab27a9cc3d6bee9cbc77fec668b1b6cd7ac748da3f1b3c451dc07011a5134") true
  vdv (fun _ h => by cases h) (by kernel_rfl) (fun _ h => by cases h) ribCopies_row_tie rfl ⟨rfl, rfl⟩ (by kernel_rfl) rfl
  (fun f fn hf hfn => by
   obtain rfl : f = 8 := Option.some.inj ((show Tryz.prog.funcNamed "waywarden/waywardenlaw12.RibCopies" = some 8 by kernel_rfl).symm.trans hf) |>.symm
   obtain rfl : fn = Tryz.f8 := (Option.some.inj (Tryz.func8.symm.trans hfn)).symm
   exact ⟨by kernel_rfl, fun j t ht => by
    rw [Tryz.params8] at ht
    have hm : t ∈ [24, 25, 33, 33] := by simpa using Array.mem_of_getElem? ht
    have hall : ([24, 25, 33, 33].all fun u => !Tryz.prog.wantsStandIn u) = true := by kernel_rfl
    exact (show Tryz.prog.wantsStandIn t = false by simpa using List.all_eq_true.1 hall t hm)⟩)
  (by kernel_rfl)
end

end Go.Proofs.YtffckpkikdlbpaaGreatDoor
