/- The trie's down: the places that it hands over. -/
import Derived.Test.YtfaiponmjjbgoaaDoorPfB
import Derived.Test.YtfaiponmjjbgoaaDoorTrM
import Derived.Test.YtfaiponmjjbgoaaDoorRange2
import Derived.BigFrameIn
import Derived.TacticsIn
import Derived.TacticsInMore
import Derived.Deep.Cut
import Derived.OwnWalkIn
import Derived.Deep.RegionHeld3
import Derived.Deep.LoopGhost
import Derived.Test.YtfaiponmjjbgoaaDoorYield
import Derived.Deep.DeepCutAuto
namespace Go.Proofs.YtfaiponmjjbgoaaDoor
open Go.RowKit

/-- The places from the top on whose nodes hold a prefix. -/
def Tr.way (q : Pn) (A : Nat × Nat) : Tr → List (Nat × Nat)
  | .nil => []
  | .node b p _ _ x y => if p.holds q then A :: (if p.l = q.l then [] else if bitN q.a p.l = 0 then Tr.way q (b, 4) x else Tr.way q (b, 5) y) else []

/-- What the iterator reads: its variables, the trie, the tree, the table of relations. -/
structure DownMem (tx px tr : Nat) (q : Pn) (many : Int) (t : Tr) (w : World) : Prop where
  tx : Blk w tx 44 #[.pointer (some ⟨tr, 0, none⟩)]
  px : Blk w px 29 #[.int .u32 q.a, .int .i64 q.l]
  tr : Blk w tr 57 #[t.ptr, .int .i64 many, .bool true]
  tm : TM w t
  rels : RelsAt w

/-- How far the iterator has come. -/
structure DownAt (tx px tr : Nat) (q : Pn) (many : Int) (t : Tr) (k : Nat) (s : Tr) (A : Nat × Nat) : Prop where
  way : Tr.way q A s = (Tr.way q (tr, 0) t).drop k
  mem : ∀ w, DownMem tx px tr q many t w → TM w s ∧ w.cell? ⟨A.1, A.2, none⟩ = some s.ptr
  wf : s.Wf
  le : k ≤ (Tr.way q (tr, 0) t).length

theorem ptr_ne_nil (w : World) (b : Nat) : (binOp .neq 55 (.pointer (some ⟨b, 0, none⟩)) (.pointer none)).run Tryd.prog w = .ok (.bool true) w := by kernel_rfl
theorem ptr_eq_nil (w : World) : (binOp .neq 55 (.pointer none) (.pointer none)).run Tryd.prog w = .ok (.bool false) w := by kernel_rfl

set_option maxRecDepth 100000 in
set_option maxHeartbeats 2000000 in
theorem down1_iter (tx px tr : Nat) (q : Pn) (many : Int) (t : Tr) (hq : q.ok) (ht : t.Wf) :
    Iter Tryd.prog 55 #[.pointer (some ⟨tx, 0, none⟩), .pointer (some ⟨px, 0, none⟩)] (Tr.way q (tr, 0) t).length (fun k => #[.pointer (some ⟨((Tr.way q (tr, 0) t).getD k (0, 0)).1, ((Tr.way q (tr, 0) t).getD k (0, 0)).2, none⟩)]) (DownMem tx px tr q many t) := by
  intro l I Z W hI hZ hM hy h0
  have HI := Lib.hid hI; clear hI
  have HZ := Lib.hid hZ; clear hZ
  have HM := Lib.hid hM; clear hM
  have HY := Lib.hid hy; clear hy
  obtain ⟨N, hN⟩ : ∃ N, (Tr.way q (tr, 0) t).length = N := ⟨_, rfl⟩
  rw [hN] at HY ⊢
  have HN := Lib.hid hN; clear hN
  have Hq := Lib.hid hq; clear hq
  have hql := Hq.out.2.1
  have hne := ptr_ne_nil
  have hen := ptr_eq_nil
  have D0 := HM.out 0 W h0
  have c0 : W.cell? ⟨tx, 0, none⟩ = some (.pointer (some ⟨tr, 0, none⟩)) := D0.tx.cell 0
  go_enter Tryd.func55, Tryd.ntmps55
  go_wp2_with fail
  clear c0 D0
  have H0 := Lib.hid h0; clear h0
  have start : DownAt tx px tr q many t 0 t (tr, 0) := ⟨by simp, fun w d => ⟨d.tm, d.tr.cell 0⟩, ht, Nat.zero_le _⟩
  have Hs := Lib.hid start; clear start ht
  go_loopg [4] N (fun g at_ wr => ∃ (k : Nat) (s : Tr) (a0 a1 : Nat), g = N - k ∧ k ≤ N ∧ at_ = .pointer (some ⟨a0, a1, none⟩) ∧ Hid (I k wr) ∧ Hid (DownAt tx px tr q many t k s (a0, a1)))
  case atStart => exact ⟨0, t, tr, 0, by omega, Nat.zero_le _, rfl, H0, Hs⟩
  case round =>
    obtain ⟨k, s, a0, a1, hgk, hkN, rfl, hi, hs⟩ := hrel
    have D := HM.out k wr hi.out
    obtain ⟨hTM, cA⟩ := hs.out.mem wr D
    simp only at cA
    have hG := Lib.hid D.rels
    have hwf := hs.out.wf
    have hway := hs.out.way
    have p0 : wr.cell? ⟨px, 0, none⟩ = some (.int .u32 q.a) := D.px.cell 0
    have p1 : wr.cell? ⟨px, 1, none⟩ = some (.int .i64 q.l) := D.px.cell 1
    cases s with
    | nil =>
      have hk : k = N := by
        have := congrArg List.length hway
        simp [Tr.way, HN.out] at this
        omega
      subst hk
      have cA' : wr.cell? ⟨a0, a1, none⟩ = some (.pointer none) := cA
      clear cA hway hTM hwf
      go_wp2_with fail
      go_quiet (fail)
      go_wp2_with fail
      go_end0
      exact ⟨rfl, .inl (HI.out _ _ _ hi.out ((Kp.refl _).drewN _))⟩
    | node b p v h x y =>
      have hp := hwf.1
      have hpl := hp.2.1
      have cA' : wr.cell? ⟨a0, a1, none⟩ = some (.pointer (some ⟨b, 0, none⟩)) := cA
      obtain ⟨B, hTx, hTy⟩ := hTM
      have n0 : wr.cell? ⟨b, 0, none⟩ = some (.int .u32 p.a) := B.cell 0
      have n1 : wr.cell? ⟨b, 1, none⟩ = some (.int .i64 p.l) := B.cell 1
      have Hp := Lib.hid hp
      have Hway := Lib.hid hway
      have Hwf := Lib.hid hwf
      clear cA hp hway hwf
      by_cases hh : p.holds q
      · have Hd := Lib.hid (show decide (p.holds q) = true by simpa using hh)
        have Hh := Lib.hid hh; clear hh
        go_upto_region 1 with (fail)
        go_cut [22] from 9 to 22 (fun s22 wx => s22 = .bool true ∧ Kp wr wx)
        case first =>
          go_region_held3 (fun w' => w'.cell? ⟨px, 0, none⟩ = some (.int .u32 q.a) ∧ w'.cell? ⟨px, 1, none⟩ = some (.int .i64 q.l) ∧ w'.cell? ⟨a0, a1, none⟩ = some (.pointer (some ⟨b, 0, none⟩)) ∧ w'.cell? ⟨b, 0, none⟩ = some (.int .u32 p.a) ∧ w'.cell? ⟨b, 1, none⟩ = some (.int .i64 p.l))
            (first | exact ⟨Ka.cell p0, Ka.cell p1, Ka.cell cA', Ka.cell n0, Ka.cell n1⟩ | go_keep)
            (first | (go_at_call 56; refine (within_any q p _ (hG.out.keep (Kp.refl _).drew) Hq.out Hp.out).mono ?_; rintro e wa ⟨rfl, hKa⟩; rw [Hd.out]; have Ka : Kp wr wa := (Kp.refl wr).drew.trans hKa))
          go_wp2_with fail
          go_meet
          case rel => exact ⟨rfl, Ka⟩
        case rest =>
          obtain ⟨rfl, hKc⟩ := hcut
          have hic := Lib.hid (HI.out k wr wc hi.out hKc)
          have Dc := HM.out k wc hic.out
          obtain ⟨⟨Bc, _, _⟩, cAc⟩ := hs.out.mem wc Dc
          have cAc' : wc.cell? ⟨a0, a1, none⟩ = some (.pointer (some ⟨b, 0, none⟩)) := cAc
          clear p0 p1 n0 n1 cA' B hTx hTy cAc hG D hi
          go_upto_region 3 with (fail)
          have hgd : (Tr.way q (tr, 0) t).getD k (0, 0) = (a0, a1) ∧ k < N := by
            have hw := Hway.out
            simp only [Tr.way, Hh.out, if_true] at hw
            have h1 : (Tr.way q (tr, 0) t)[k]? = some (a0, a1) := by
              have := congrArg (fun l => l[0]?) hw
              simpa using this.symm
            have h2 := (List.getElem?_eq_some_iff.1 h1).1
            rw [HN.out] at h2
            exact ⟨by simp [List.getD, h1], h2⟩
          obtain ⟨fn, tmps, asg, bd, hrun, hround⟩ := HY.out k wc.drew hgd.2 (HI.out k wc wc.drew hic.out (Kp.refl _).drew)
          rw [hgd.1] at hrun
          simp only at hrun
          refine (wpIn_wide (n := 0)).1 ?_
          refine wpIn_region_any (by kernel_rfl) ?_
          change wpAnyIn _ _ _ _ _ _ _ _ _ (World.drew _)
          refine wpAnyIn_take (i := 0) (v := .func (.yield l) #[] #[]) rfl rfl (by kernel_rfl) (by kernel_rfl) (by kernel_rfl) (fun _ _ _ h => h) ⟨Or.inl ⟨by rfl, fun w => by go_simp⟩, fun _ => rfl⟩ ?_
          refine wpAnyIn_take (i := 1) (v := .pointer (some ⟨a0, a1, none⟩)) rfl rfl (by kernel_rfl) (by kernel_rfl) (by kernel_rfl) (fun _ _ _ h => h) ⟨Or.inl ⟨by rfl, fun w => by go_simp⟩, fun _ => rfl⟩ ?_
          refine wpAnyIn_ready (rs := [2]) (by kernel_rfl) (by simp) ?_
          refine AllReadyIn.cons rfl (fun K hK => ?_) AllReadyIn.nil
          go_simp
          refine ⟨rfl, hround.mono ?_⟩
          clear hrun hround
          rintro e W' (⟨rfl, hi2⟩ | ⟨rfl, hz⟩)
          · have Hi2 := Lib.hid hi2; clear hi2
            have D2 := HM.out (k + 1) W' Hi2.out
            obtain ⟨⟨B2, _, _⟩, _⟩ := hs.out.mem W' D2
            have p0 : W'.cell? ⟨px, 0, none⟩ = some (.int .u32 q.a) := D2.px.cell 0
            have p1 : W'.cell? ⟨px, 1, none⟩ = some (.int .i64 q.l) := D2.px.cell 1
            have n1 : W'.cell? ⟨b, 1, none⟩ = some (.int .i64 p.l) := B2.cell 1
            have hk1 := hgd.2
            clear hgd cAc' Bc Dc
            refine hK _ _ ?_
            clear hK K
            by_cases hl : p.l = q.l
            · have hkk : k + 1 = N := by
                have hw := congrArg List.length Hway.out
                simp [Tr.way, Hh.out, hl, HN.out] at hw
                omega
              have e1 : ((p.l : Int) == (q.l : Int)) = true := by simp [hl]
              have Hl := Lib.hid hl; clear hl
              refine wpAnyIn_rest 3 rfl rfl (by kernel_rfl) (by kernel_rfl) ?_
              simp only [List.drop_succ_cons, List.drop_zero]
              repeat (quiet_step_in (fail))
              refine wpQuietIn_nil ?_
              rintro w' ⟨nq, rfl⟩
              go_wp2_with fail
              refine bodyPost_ret (v := .tuple #[]) (by simp [results, Tryd.results55, go_sem]) rfl ?_
              exact ⟨rfl, .inl (by rw [← hkk]; exact HI.out _ _ _ Hi2.out ((Kp.refl _).drewN _))⟩
            · have e1 : ((p.l : Int) == (q.l : Int)) = false := by simp; omega
              have Hl := Lib.hid hl; clear hl
              refine wpAnyIn_rest 3 rfl rfl (by kernel_rfl) (by kernel_rfl) ?_
              simp only [List.drop_succ_cons, List.drop_zero]
              repeat (quiet_step_in (fail))
              refine wpQuietIn_nil ?_
              rintro w' ⟨nq, rfl⟩
              go_wp2_with fail
              rcases bit_cases q.a p.l with hb | hb
              · have Hb := Lib.hid hb
                go_region_held3 (fun w' => w'.cell? ⟨px, 0, none⟩ = some (.int .u32 q.a) ∧ w'.cell? ⟨b, 1, none⟩ = some (.int .i64 p.l)) (go_keep)
                  (first | (go_at_call 50; refine (bit_any q.a p.l _ Hq.out.1 hpl).mono ?_; rintro e w' ⟨rfl, rfl⟩; rw [Hb.out]))
                go_wp2_with fail
                go_roundg (N - (k + 1))
                case measure => omega
                case rel =>
                  refine ⟨k + 1, x, b, 4, rfl, by omega, rfl, HI.out _ _ _ Hi2.out ((Kp.refl _).drewN _), ?_⟩
                  refine ⟨?_, fun w d => ?_, Hwf.out.2.2.2.1, by rw [HN.out]; omega⟩
                  · have hw := Hway.out
                    simp only [Tr.way, Hh.out, Hl.out, Hb.out, if_true, if_false] at hw
                    have := congrArg List.tail hw
                    simpa using this
                  · obtain ⟨⟨h1, h2, h3⟩, _⟩ := hs.out.mem w d
                    exact ⟨h2, h1.cell 4⟩
              · have Hb := Lib.hid hb
                go_region_held3 (fun w' => w'.cell? ⟨px, 0, none⟩ = some (.int .u32 q.a) ∧ w'.cell? ⟨b, 1, none⟩ = some (.int .i64 p.l)) (go_keep)
                  (first | (go_at_call 50; refine (bit_any q.a p.l _ Hq.out.1 hpl).mono ?_; rintro e w' ⟨rfl, rfl⟩; rw [Hb.out]))
                go_wp2_with fail
                go_roundg (N - (k + 1))
                case measure => omega
                case rel =>
                  refine ⟨k + 1, y, b, 5, rfl, by omega, rfl, HI.out _ _ _ Hi2.out ((Kp.refl _).drewN _), ?_⟩
                  refine ⟨?_, fun w d => ?_, Hwf.out.2.2.2.2, by rw [HN.out]; omega⟩
                  · have hw := Hway.out
                    simp only [Tr.way, Hh.out, Hl.out, Hb.out, if_true, if_false, show ¬ (1 : Nat) = 0 by omega] at hw
                    have := congrArg List.tail hw
                    simpa using this
                  · obtain ⟨⟨h1, h2, h3⟩, _⟩ := hs.out.mem w d
                    exact ⟨h3, h1.cell 5⟩
          · have Hz := Lib.hid hz; clear hz
            have hk1 := hgd.2
            clear hgd cAc' Bc Dc
            refine hK _ _ ?_
            clear hK K
            refine wpAnyIn_rest 3 rfl rfl (by kernel_rfl) (by kernel_rfl) ?_
            simp only [List.drop_succ_cons, List.drop_zero]
            repeat (quiet_step_in (fail))
            refine wpQuietIn_nil ?_
            rintro w' ⟨nq, rfl⟩
            go_wp2_with fail
            refine bodyPost_ret (v := .tuple #[]) (by simp [results, Tryd.results55, go_sem]) rfl ?_
            exact ⟨rfl, .inr ⟨k + 1, by omega, by omega, HZ.out _ _ _ Hz.out ((Kp.refl _).drewN _)⟩⟩
      · have Hd := Lib.hid (show decide (p.holds q) = false by simpa using hh)
        have hk : k = N := by
          have := congrArg List.length Hway.out
          simp [Tr.way, hh, HN.out] at this
          omega
        subst hk
        clear hh
        go_upto_region 1 with (fail)
        go_cut [22] from 9 to 22 (fun s22 wx => s22 = .bool false ∧ Kp wr wx)
        case first =>
          go_region_held3 (fun w' => w'.cell? ⟨px, 0, none⟩ = some (.int .u32 q.a) ∧ w'.cell? ⟨px, 1, none⟩ = some (.int .i64 q.l) ∧ w'.cell? ⟨a0, a1, none⟩ = some (.pointer (some ⟨b, 0, none⟩)) ∧ w'.cell? ⟨b, 0, none⟩ = some (.int .u32 p.a) ∧ w'.cell? ⟨b, 1, none⟩ = some (.int .i64 p.l))
            (first | exact ⟨Ka.cell p0, Ka.cell p1, Ka.cell cA', Ka.cell n0, Ka.cell n1⟩ | go_keep)
            (first | (go_at_call 56; refine (within_any q p _ (hG.out.keep (Kp.refl _).drew) Hq.out Hp.out).mono ?_; rintro e wa ⟨rfl, hKa⟩; rw [Hd.out]; have Ka : Kp wr wa := (Kp.refl wr).drew.trans hKa))
          go_wp2_with fail
          go_meet
          case rel => exact ⟨rfl, Ka⟩
        case rest =>
          obtain ⟨rfl, hKc⟩ := hcut
          have hic := Lib.hid (HI.out k wr wc hi.out hKc)
          have Dc := HM.out k wc hic.out
          obtain ⟨⟨Bc, _, _⟩, cAc⟩ := hs.out.mem wc Dc
          have cAc' : wc.cell? ⟨a0, a1, none⟩ = some (.pointer (some ⟨b, 0, none⟩)) := cAc
          clear p0 p1 n0 n1 cA' B hTx hTy cAc hG D hi
          go_wp2_with fail
          go_end0
          exact ⟨rfl, .inl hic.out⟩
end Go.Proofs.YtfaiponmjjbgoaaDoor
