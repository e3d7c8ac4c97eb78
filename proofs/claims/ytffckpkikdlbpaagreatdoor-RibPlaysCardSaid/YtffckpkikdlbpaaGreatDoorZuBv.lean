/- Proved here: THE TIED CARDS of RibAll and of RibPlays of the package waywardenlaw12: for every input each of the two laws returns true, and each argument reads behind the call as it read before (Rows.RibAllCardSaid, Rows.RibPlaysCardSaid). Conditions: the two listed tables of bounds start as the program's text lays them, which the cards tie -/
import Derived.Test.YtffckpkikdlbpaaGreatDoorZuBs
import Derived.Test.YtffckpkikdlbpaaGreatDoorZuBu
import Derived.Test.YtffckpkikdlbpaaGreatDoorTie
import Derived.Test.YtffckpkikdlbpaaGreatDoorCards
import Derived.SevenTiedAt
set_option linter.all false
set_option maxHeartbeats 16000000
namespace Go.Proofs.YtffckpkikdlbpaaGreatDoor
section
open Go Go.ChangeShapes Go.WideShapes Go.ChangeAt Go.RowKit Go.Joins Go.Deep
theorem ves {H : Type} {enc : TypeId × Value → H} {P : Program} {W : World} {base : Nat} {spare : Nat → Bool} {held : Bool} {t0 t1 : TypeId} {args : Array Value} {ds : List (DataW H)} {ps : List MemPlace} (h : DataW.TrodAll enc P W base spare held [t0, t1] args.toList ds ps) :
  ∃ v0 v1 d0 d1 p0 p1, args = #[v0, v1] ∧ ds = [d0, d1] ∧ DataW.Trod enc P W base spare held t0 v0 d0 p0 ∧ DataW.Trod enc P W base spare held t1 v1 d1 p1 := by
 obtain ⟨v0, r0, d0, s0, p0, q0, e0, rfl, -, h0, k0⟩ := trodAll_cons h
 obtain ⟨v1, r1, d1, s1, p1, q1, rfl, rfl, -, h1, k1⟩ := trodAll_cons k0
 obtain ⟨rfl, rfl, -⟩ := trodAll_nil k1
 exact ⟨v0, v1, d0, d1, p0, p1, Array.ext' (by simpa using e0), rfl, h0, h1⟩
set_option maxRecDepth 100000 in
theorem vdp (os : Os) (started : os.Started) (H : Type) (enc : TypeId × Value → H) :
  ReturnsInHanded {} Tryz.checked os 5 .any (fun w args => (Rows.ribPlaysSpec.pre enc Tryz.prog Tryz.f5 [] false w args ∧ laidMetH Tryz.prog bndLaid w) ∧ sizedMet enc Tryz.prog Tryz.f5 (OpenSpec.ofChange Rows.ribPlaysSpec) false w args)
   (Rows.ribPlaysSpec.post enc Tryz.prog Tryz.f5 false true false false) := by
 refine returnsInHanded_of_change_and (C := Tryz.checked) (X := fun w _ => laidMetH Tryz.prog bndLaid w) (fun _ _ _ hh h => h.of_heap hh) Tryz.own started (by kernel_rfl) Tryz.func5
  (ChangeSpec.witness_shaped (enc := enc) (C := Tryz.checked) (os := os) (X := fun w _ => laidMetH Tryz.prog bndLaid w) false (World.doorLaid Tryz.prog 400 os) #[.agg #[.int .i64 0, .int .i64 0, .int .i64 0, .int .i64 0, .int .i64 0, .int .i64 0, .int .i64 0, .int .i64 0, .slice none 0 0], .slice none 0 0] 8 rfl (World.shaped_of_RefB (by kernel_rfl) (by kernel_rfl)) (by kernel_rfl) (by kernel_rfl) (by kernel_rfl) (vgx os _)) ?_
 intro W base args ds gs before hval0 hW _ _ hL _
 have hval : ∀ (j : Nat) t v, Tryz.f5.params[j]? = some t → args[j]? = some v → Value.okWide Tryz.prog W .any base t v := hval0
 have hW' := hW
 obtain ⟨p, q, hA0, hV, rfl, hfz, hnd⟩ := hW
 have hA : DataW.TrodAll enc Tryz.prog W 0 (fun _ => true) true Tryz.f5.params.toList args.toList ds p := hA0
 rw [Tryz.params5] at hA hval
 obtain ⟨v0, v1, _, _, _, _, rfl, rfl, h0, h1⟩ := ves hA
 obtain ⟨rfl, rfl⟩ := trodVars_none hV
 obtain ⟨c, Ac, mc, rfl, hSc, hwc⟩ := vdo (hval 0 _ v0 rfl rfl) h0
 obtain ⟨Al, cl, ls, rfl, hRl, hxl⟩ := vfd (hval 1 _ v1 rfl rfl) h1
 clear hA0 hval0
 refine (vff c Ac Al mc cl ls W hSc hwc hRl hxl (vbm hL).1 (vbm hL).2).mono fun e W' ⟨he, hK⟩ => ?_
 subst he
 refine ⟨_, rfl, vgn hW' rfl rfl rfl rfl rfl ?_ hK⟩
 intro t ht
 rw [Tryz.params5] at ht
 simp only [List.mem_cons, List.not_mem_nil, or_false] at ht
 rcases ht with rfl | rfl <;> exact ⟨by kernel_rfl, of_decide_eq_true (by kernel_rfl)⟩
theorem vdv : Rows.RibPlaysSaid :=
 OpenClaim.holds_of_wide 5 Tryz.f5 rfl rfl rfl rfl rfl rfl rfl ⟨rfl, rfl, rfl, rfl, rfl⟩ rfl rfl rfl rfl rfl (by kernel_rfl) Tryz.func5 (by kernel_rfl)
  (of_decide_eq_true (by kernel_rfl)) (by unfold Func.isWrapper; first | (rw [if_pos (by decide +kernel)]; kernel_rfl) | (rw [if_neg (by decide +kernel)]; exact ⟨rfl, rfl⟩))
  (fun os started H enc _ => vdp os started H enc)
theorem ribPlays_card_holds : Rows.RibPlaysCardSaid :=
 Claim7.holds_tied_plain_at .later [] [.data, .data] true (true, "586ab27a9cc3d6bee9cbc77fec668b1b6cd7ac748da3f1b3c451dc07011a5134") true
  vdv (fun _ h => by cases h) (by kernel_rfl) (fun _ h => by cases h) ribPlays_row_tie rfl ⟨rfl, rfl⟩ (by kernel_rfl) rfl
  (fun f fn hf hfn => by
   obtain rfl : f = 5 := Option.some.inj ((show Tryz.prog.funcNamed "waywarden/waywardenlaw12.RibPlays" = some 5 by kernel_rfl).symm.trans hf) |>.symm
   obtain rfl : fn = Tryz.f5 := (Option.some.inj (Tryz.func5.symm.trans hfn)).symm
   exact ⟨by kernel_rfl, fun j t ht => by
    rw [Tryz.params5] at ht
    have hm : t ∈ [24, 25] := by simpa using Array.mem_of_getElem? ht
    have hall : ([24, 25].all fun u => !Tryz.prog.wantsStandIn u) = true := by kernel_rfl
    exact (show Tryz.prog.wantsStandIn t = false by simpa using List.all_eq_true.1 hall t hm)⟩)
  (by kernel_rfl)
end

section
theorem rib_two : Rows.RibAllCardSaid ∧ Rows.RibPlaysCardSaid := ⟨ribAll_card_holds, ribPlays_card_holds⟩
end

end Go.Proofs.YtffckpkikdlbpaaGreatDoor
