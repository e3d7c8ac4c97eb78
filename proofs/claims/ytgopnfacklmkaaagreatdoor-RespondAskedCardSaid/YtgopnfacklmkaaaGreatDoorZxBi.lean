/- Proved here: THE TIED CARD of RespondAsked of the package waywardenlaw14: for every input the law returns true, and each argument reads behind the call as it read before (Rows.RespondAskedCardSaid). Conditions: the listed tables of widths and bounds start as the program's text lays them, which the card ties. -/
import Derived.Test.YtgopnfacklmkaaaGreatDoorZxBh
import Derived.Test.YtgopnfacklmkaaaGreatDoorTie
import Derived.Test.YtgopnfacklmkaaaGreatDoorCards
import Derived.SevenTiedAt
set_option linter.all false
set_option maxHeartbeats 16000000
namespace Go.Proofs.YtgopnfacklmkaaaGreatDoor
section
open Go Go.ChangeShapes Go.WideShapes Go.ChangeAt Go.RowKit Go.Joins Go.Deep
theorem vjN {n : Int} (h : (Lit.int .i64 n).wf = true) : -9223372036854775808 ≤ n ∧ n < 9223372036854775808 := by
 simp [Lit.wf, IntKind.min, IntKind.max, IntKind.bits, IntKind.signed] at h
 exact ⟨by omega, by omega⟩
theorem vcb {H : Type} {enc : TypeId × Value → H} {P : Program} {W : World} {base : Nat} {spare : Nat → Bool} {held : Bool} {t0 t1 : TypeId} {args : Array Value} {ds : List (DataW H)} {ps : List MemPlace} (h : DataW.TrodAll enc P W base spare held [t0, t1] args.toList ds ps) :
  ∃ v0 v1 d0 d1 p0 p1, args = #[v0, v1] ∧ ds = [d0, d1] ∧ DataW.Trod enc P W base spare held t0 v0 d0 p0 ∧ DataW.Trod enc P W base spare held t1 v1 d1 p1 := by
 obtain ⟨v0, r0, d0, s0, p0, q0, e0, rfl, -, h0, k0⟩ := trodAll_cons h
 obtain ⟨v1, r1, d1, s1, p1, q1, rfl, rfl, -, h1, k1⟩ := trodAll_cons k0
 obtain ⟨rfl, rfl, -⟩ := trodAll_nil k1
 exact ⟨v0, v1, d0, d1, p0, p1, Array.ext' (by simpa using e0), rfl, h0, h1⟩
set_option maxRecDepth 100000 in
theorem vbw (os : Os) (started : os.Started) (H : Type) (enc : TypeId × Value → H) :
  ReturnsInHanded {} Tryz.checked os 4 .any (fun w args => (Rows.respondAskedSpec.pre enc Tryz.prog Tryz.f4 [] false w args ∧ laidMetH Tryz.prog reLaid w) ∧ sizedMet enc Tryz.prog Tryz.f4 (OpenSpec.ofChange Rows.respondAskedSpec) false w args)
   (Rows.respondAskedSpec.post enc Tryz.prog Tryz.f4 false true false false) := by
 refine returnsInHanded_of_change_and (C := Tryz.checked) (X := fun w _ => laidMetH Tryz.prog reLaid w) (fun _ _ _ hh h => h.of_heap hh) Tryz.own started (by kernel_rfl) Tryz.func4
  (ChangeSpec.witness_shaped (enc := enc) (C := Tryz.checked) (os := os) (X := fun w _ => laidMetH Tryz.prog reLaid w) false (World.doorLaid Tryz.prog 400 os) #[.agg #[.int .i64 0, .slice none 0 0], .int .i64 0] 8 rfl (World.shaped_of_RefB (by kernel_rfl) (by kernel_rfl)) (by kernel_rfl) (by kernel_rfl) (by kernel_rfl) (vlx os _)) ?_
 intro W base args ds gs before hval0 hW _ _ hL _
 have hval : ∀ (j : Nat) t v, Tryz.f4.params[j]? = some t → args[j]? = some v → Value.okWide Tryz.prog W .any base t v := hval0
 have hW' := hW
 obtain ⟨p, q, hA0, hV, rfl, hfz, hnd⟩ := hW
 have hA : DataW.TrodAll enc Tryz.prog W 0 (fun _ => true) true Tryz.f4.params.toList args.toList ds p := hA0
 rw [Tryz.params4] at hA hval
 obtain ⟨v0, v1, _, _, _, _, rfl, rfl, h0, h1⟩ := vcb hA
 obtain ⟨rfl, rfl⟩ := trodVars_none hV
 obtain ⟨c, A, m, es, rfl, hR, hw⟩ := vgm (hval 0 _ v0 rfl rfl) h0
 obtain ⟨n1, rfl, -, -, wn1⟩ := open_int Tryz.underlying3 (hval 1 _ v1 rfl rfl) h1
 clear hA0 hval0
 refine (vcg c A m es n1 W hR hw (vjN wn1) (vca hL).2.1 (vca hL).1 (vca hL).2.2).mono fun e W' ⟨he, hK⟩ => ?_
 subst he
 refine ⟨_, rfl, vjy hW' rfl rfl rfl rfl rfl ?_ hK⟩
 intro t ht
 rw [Tryz.params4] at ht
 simp only [List.mem_cons, List.not_mem_nil, or_false] at ht
 rcases ht with rfl | rfl <;> exact ⟨by kernel_rfl, of_decide_eq_true (by kernel_rfl)⟩
set_option maxRecDepth 100000 in
theorem vbx : joinedFacts Tryz.prog 4 Tryz.f4 Rows.respondAskedSpec Rows.respondAskedRow = true := by
 unfold joinedFacts
 simp only [Bool.and_eq_true]
 repeat' refine And.intro ?_ ?_
 all_goals as_aux_lemma => kernel_rfl
theorem vbM : Rows.RespondAskedSaid :=
 OpenClaim.holds_of_wide 4 Tryz.f4 rfl rfl rfl rfl rfl rfl rfl ⟨rfl, rfl, rfl, rfl, rfl⟩ rfl rfl rfl rfl rfl (by kernel_rfl) Tryz.func4 vbx
  (of_decide_eq_true (by kernel_rfl)) (by unfold Func.isWrapper; first | (rw [if_pos (by decide +kernel)]; kernel_rfl) | (rw [if_neg (by decide +kernel)]; exact ⟨rfl, rfl⟩))
  (fun os started H enc _ => vbw os started H enc)
theorem respondAsked_card_holds : Rows.RespondAskedCardSaid :=
 Claim7.holds_tied_plain_at .later [] [.data, .data, .data] true (true, "c35284451049d566b3a081529b1b659d2ce9466078bb6e9d13e885aa30dfdeb3") true
  vbM (fun _ h => by cases h) (by kernel_rfl) (fun _ h => by cases h) respondAsked_row_tie rfl ⟨rfl, rfl⟩ (by kernel_rfl) rfl
  (fun f fn hf hfn => by
   obtain rfl : f = 4 := Option.some.inj ((show Tryz.prog.funcNamed "waywarden/waywardenlaw14.RespondAsked" = some 4 by kernel_rfl).symm.trans hf) |>.symm
   obtain rfl : fn = Tryz.f4 := (Option.some.inj (Tryz.func4.symm.trans hfn)).symm
   exact ⟨by kernel_rfl, fun j t ht => by
    rw [Tryz.params4] at ht
    have hm : t ∈ [30, 3] := by simpa using Array.mem_of_getElem? ht
    have hall : ([30, 3].all fun u => !Tryz.prog.wantsStandIn u) = true := by kernel_rfl
    exact (show Tryz.prog.wantsStandIn t = false by simpa using List.all_eq_true.1 hall t hm)⟩)
  (by kernel_rfl)
end

end Go.Proofs.YtgopnfacklmkaaaGreatDoor
