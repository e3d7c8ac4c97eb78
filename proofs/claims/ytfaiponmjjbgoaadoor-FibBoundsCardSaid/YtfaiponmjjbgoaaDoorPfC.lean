/- prefix.Around's iterator. -/
import Derived.Test.YtfaiponmjjbgoaaDoorTrP
namespace Go.Proofs.YtfaiponmjjbgoaaDoor
open Go.RowKit
attribute [local go_sem] Oper.semAt_some

theorem call_around1 (args : Array Value) (w : World) : (callFunc 73 args).run Tryd.prog w = .ok (.enter 73 args) w := by kernel_rfl

set_option maxRecDepth 100000 in
set_option maxHeartbeats 2000000 in
theorem around1_iter (px : Nat) (p : Pn) (hp : p.ok) :
    Iter Tryd.prog 73 #[.pointer (some ⟨px, 0, none⟩)] (p.l + 1) (fun k => #[.int .i64 k, .agg #[.int .u32 (cut p.a k), .int .i64 k]]) (fun W => Blk W px 29 #[.int .u32 p.a, .int .i64 p.l]) := by
  intro l I Z W hI hZ hM hy h0
  have HI := Lib.hid hI; clear hI
  have HZ := Lib.hid hZ; clear hZ
  have HM := Lib.hid hM; clear hM
  have HY := Lib.hid hy; clear hy
  have Hp := Lib.hid hp
  have hpl := hp.2.1
  have Hok := Lib.hid (pi_ok hp); clear hp
  have H0 := Lib.hid h0
  have B0 := HM.out 0 W h0; clear h0
  have c0 : W.cell? ⟨px, 0, none⟩ = some (.int .u32 p.a) := B0.cell 0
  have c1 : W.cell? ⟨px, 1, none⟩ = some (.int .i64 p.l) := B0.cell 1
  have hrd : Rd (W.alloc (.cells #[.int .u32 p.a, .int .i64 p.l] 29)) 2 PI.enc (some ⟨W.heap.size, 0, none⟩) [p.pi] := Rd.of_blk (Blk.new W _ _) (by omega) PI.len (by unfold maxLen; simp) rfl
  have Hrd := Lib.hid hrd; clear hrd
  go_enter Tryd.func73, Tryd.ntmps73
  go_wp2_with fail
  refine (mayBe_any _ 1 [p.pi] _ Hrd.out (by simp) (fun k hk => by simp at hk; subst hk; exact Hp.out.1)).mono ?_
  rintro e w1 ⟨rfl, hK1⟩
  rw [show [p.pi].all PI.okB = true by simp [Hok.out]]
  have k1 : Kp W w1 := ((Kp.refl _).alloc _).trans hK1
  have I1 := Lib.hid (HI.out 0 W w1 H0.out k1)
  clear c0 c1 hK1 Hrd
  have B1 := B0.keep k1
  have c1 : w1.cell? ⟨px, 1, none⟩ = some (.int .i64 p.l) := B1.cell 1
  go_wp2_with fail
  go_loopg [11] (p.l + 1) (fun g i wr => ∃ (k : Nat), g = p.l + 1 - k ∧ k ≤ p.l + 1 ∧ i = .int .i64 k ∧ Hid (I k wr))
  case atStart => exact ⟨0, by omega, by omega, rfl, I1⟩
  case round =>
    obtain ⟨k, hg, hk, rfl, hi⟩ := hrel
    by_cases hlt : k < p.l + 1
    · have d1 : decide ((k : Int) < (p.l : Int) + 1) = true := by simp; omega
      have hand := Lib.hid (show bits .and .u32 (p.a : Int) (maskN k : Int) = (cut p.a k : Int) by rw [and_u32 _ _ Hp.out.1 (maskN_lt k), and_mask Hp.out.1 (by omega)])
      have hk32 := Lib.hid (show k ≤ 32 by omega)
      have B := HM.out k wr hi.out
      have b0 : wr.cell? ⟨px, 0, none⟩ = some (.int .u32 p.a) := B.cell 0
      clear B
      go_upto_region 4 with (fail)
      obtain ⟨fn, tmps, asg, bd, hrun, hround⟩ := HY.out k wr.drew hlt (HI.out k wr wr.drew hi.out (Kp.refl _).drew)
      simp only [← hand.out] at hrun
      replace b0 : wr.drew.cell? ⟨px, 0, none⟩ = some (.int .u32 p.a) := b0
      refine (wpIn_wide (n := 0)).1 ?_
      refine wpIn_region_any (by kernel_rfl) ?_
      change wpAnyIn _ _ _ _ _ _ _ _ _ (World.drew _)
      refine wpAnyIn_take (i := 0) (v := .func (.yield l) #[] #[]) rfl rfl (by kernel_rfl) (by kernel_rfl) (by kernel_rfl) (fun _ _ _ h => h) ⟨Or.inl ⟨by rfl, fun w => by go_simp⟩, fun _ => rfl⟩ ?_
      refine wpAnyIn_take (i := 1) (v := .int .i64 k) rfl rfl (by kernel_rfl) (by kernel_rfl) (by kernel_rfl) (fun _ _ _ h => h) ⟨Or.inl ⟨by rfl, fun w => by go_simp⟩, fun _ => rfl⟩ ?_
      refine wpAnyIn_take (i := 2) (v := .pointer (some ⟨px, 0, none⟩)) rfl rfl (by kernel_rfl) (by kernel_rfl) (by kernel_rfl) (fun _ _ _ h => h) ⟨Or.inl ⟨by rfl, fun w => by go_simp⟩, fun _ => rfl⟩ ?_
      refine wpAnyIn_take (i := 4) (v := .int .i64 k) rfl rfl (by kernel_rfl) (by kernel_rfl) (by kernel_rfl) (fun _ _ _ h => h) ⟨Or.inl ⟨by rfl, fun w => by go_simp⟩, fun _ => rfl⟩ ?_
      refine wpAnyIn_take (i := 7) (v := .int .i64 k) rfl rfl (by kernel_rfl) (by kernel_rfl) (by kernel_rfl) (fun _ _ _ h => h) ⟨Or.inl ⟨by rfl, fun w => by go_simp⟩, fun _ => rfl⟩ ?_
      refine wpAnyIn_ready (rs := [3, 5]) (by kernel_rfl) (by simp) ?_
      refine AllReadyIn.cons rfl (fun K hK => ?_) (AllReadyIn.cons rfl (fun K hK => ?_) AllReadyIn.nil)
      · go_simp
        refine hK _ _ ?_
        clear hK K
        refine wpAnyIn_ready (rs := [5]) (by kernel_rfl) (by simp) ?_
        refine AllReadyIn.cons rfl (fun K hK => ?_) AllReadyIn.nil
        go_simp
        refine ⟨trivial, rfl, callsIn_wide.2 ((mask_any k _ hk32.out).mono ?_)⟩
        rintro e w' ⟨rfl, rfl⟩
        refine hK _ _ ?_
        clear hK K
        refine wpAnyIn_take (i := 6) (v := .int .u32 (bits .and .u32 p.a (maskN k))) rfl rfl (by kernel_rfl) (by kernel_rfl) (by kernel_rfl) (fun _ _ _ h => h) ⟨Or.inl ⟨by rfl, fun w => by go_simp⟩, fun _ => rfl⟩ ?_
        refine wpAnyIn_take (i := 8) (v := .agg #[.int .u32 (bits .and .u32 p.a (maskN k)), .int .i64 k]) rfl rfl (by kernel_rfl) (by kernel_rfl) (by kernel_rfl) (fun _ _ _ h => h) ⟨Or.inl ⟨by rfl, fun w => by go_simp⟩, fun _ => rfl⟩ ?_
        refine wpAnyIn_ready (rs := [9]) (by kernel_rfl) (by simp) ?_
        refine AllReadyIn.cons rfl (fun K hK => ?_) AllReadyIn.nil
        go_simp
        refine ⟨rfl, hround.mono ?_⟩
        clear hrun hround
        rintro e W' (⟨rfl, hi2⟩ | ⟨rfl, hz⟩)
        · have Hi2 := Lib.hid hi2; clear hi2
          refine hK _ _ ?_
          clear hK K
          refine wpAnyIn_rest 10 rfl rfl (by kernel_rfl) (by kernel_rfl) ?_
          simp only [List.drop_succ_cons, List.drop_zero]
          repeat (quiet_step_in (fail))
          refine wpQuietIn_nil ?_
          rintro w' ⟨nq, rfl⟩
          clear b0
          go_wp2_with fail
          go_roundg (p.l + 1 - (k + 1))
          case measure => omega
          case rel => exact ⟨k + 1, rfl, by omega, by go_num, HI.out _ _ _ Hi2.out ((Kp.refl _).drewN _)⟩
        · have Hz := Lib.hid hz; clear hz
          refine hK _ _ ?_
          clear hK K
          refine wpAnyIn_rest 10 rfl rfl (by kernel_rfl) (by kernel_rfl) ?_
          simp only [List.drop_succ_cons, List.drop_zero]
          repeat (quiet_step_in (fail))
          refine wpQuietIn_nil ?_
          rintro w' ⟨nq, rfl⟩
          clear b0
          go_wp2_with fail
          refine bodyPost_ret (v := .tuple #[]) (by simp [results, Tryd.results73, go_sem]) rfl ?_
          exact ⟨rfl, .inr ⟨k + 1, by omega, by omega, HZ.out _ _ _ Hz.out ((Kp.refl _).drewN _)⟩⟩
      · go_simp
        refine ⟨trivial, rfl, callsIn_wide.2 ((mask_any k _ hk32.out).mono ?_)⟩
        rintro e w' ⟨rfl, rfl⟩
        refine hK _ _ ?_
        clear hK K
        refine wpAnyIn_ready (rs := [3]) (by kernel_rfl) (by simp) ?_
        refine AllReadyIn.cons rfl (fun K hK => ?_) AllReadyIn.nil
        go_simp
        refine hK _ _ ?_
        clear hK K
        refine wpAnyIn_take (i := 6) (v := .int .u32 (bits .and .u32 p.a (maskN k))) rfl rfl (by kernel_rfl) (by kernel_rfl) (by kernel_rfl) (fun _ _ _ h => h) ⟨Or.inl ⟨by rfl, fun w => by go_simp⟩, fun _ => rfl⟩ ?_
        refine wpAnyIn_take (i := 8) (v := .agg #[.int .u32 (bits .and .u32 p.a (maskN k)), .int .i64 k]) rfl rfl (by kernel_rfl) (by kernel_rfl) (by kernel_rfl) (fun _ _ _ h => h) ⟨Or.inl ⟨by rfl, fun w => by go_simp⟩, fun _ => rfl⟩ ?_
        refine wpAnyIn_ready (rs := [9]) (by kernel_rfl) (by simp) ?_
        refine AllReadyIn.cons rfl (fun K hK => ?_) AllReadyIn.nil
        go_simp
        refine ⟨rfl, hround.mono ?_⟩
        clear hrun hround
        rintro e W' (⟨rfl, hi2⟩ | ⟨rfl, hz⟩)
        · have Hi2 := Lib.hid hi2; clear hi2
          refine hK _ _ ?_
          clear hK K
          refine wpAnyIn_rest 10 rfl rfl (by kernel_rfl) (by kernel_rfl) ?_
          simp only [List.drop_succ_cons, List.drop_zero]
          repeat (quiet_step_in (fail))
          refine wpQuietIn_nil ?_
          rintro w' ⟨nq, rfl⟩
          clear b0
          go_wp2_with fail
          go_roundg (p.l + 1 - (k + 1))
          case measure => omega
          case rel => exact ⟨k + 1, rfl, by omega, by go_num, HI.out _ _ _ Hi2.out ((Kp.refl _).drewN _)⟩
        · have Hz := Lib.hid hz; clear hz
          refine hK _ _ ?_
          clear hK K
          refine wpAnyIn_rest 10 rfl rfl (by kernel_rfl) (by kernel_rfl) ?_
          simp only [List.drop_succ_cons, List.drop_zero]
          repeat (quiet_step_in (fail))
          refine wpQuietIn_nil ?_
          rintro w' ⟨nq, rfl⟩
          clear b0
          go_wp2_with fail
          refine bodyPost_ret (v := .tuple #[]) (by simp [results, Tryd.results73, go_sem]) rfl ?_
          exact ⟨rfl, .inr ⟨k + 1, by omega, by omega, HZ.out _ _ _ Hz.out ((Kp.refl _).drewN _)⟩⟩
    · obtain rfl : k = p.l + 1 := by omega
      have d1 : decide (((p.l + 1 : Nat) : Int) < (p.l : Int) + 1) = false := by simp
      go_wp2_with fail
      go_end0
      exact ⟨rfl, .inl (HI.out _ _ _ hi.out (Kp.refl _))⟩
end Go.Proofs.YtfaiponmjjbgoaaDoor
