/- Layer 18: the iterator that Near makes. -/
import Derived.Test.YtgnhhhcelfaliaaGraphK
import Derived.BigFrameIn
import Derived.TacticsIn
import Derived.TacticsInMore
import Derived.Deep.Cut
import Derived.OwnWalkIn
namespace Go.Proofs.Ytgnhhhcelfaliaa
open Go.RowKit

set_option maxRecDepth 100000 in
set_option maxHeartbeats 1000000 in
theorem near1_iter (p c : Nat) (A : Option Addr) (rows : List (Int × Int)) (hn : rows.length ≤ 30) :
    Iter Try.prog 51 #[.pointer (some ⟨p, 0, none⟩)] rows.length (fun k => #[.int .i64 (rows[k]?.getD (0, 0)).1, .int .i64 (rows[k]?.getD (0, 0)).2]) (NearMem p A c rows) := by
  intro l I Z W hI hZ hM hy h0
  have HI := Lib.hid hI; clear hI
  have HZ := Lib.hid hZ; clear hZ
  have HM := Lib.hid hM; clear hM
  have HY := Lib.hid hy; clear hy
  obtain ⟨B, hrd⟩ := HM.out 0 W h0
  have c0 : W.cell? ⟨p, 0, none⟩ = some (.slice A rows.length c) := B.cell 0
  go_enter Try.func51, Try.ntmps51
  go_wp2_with fail
  go_step3
  go_wp2_with fail
  go_step3
  go_wp2_with fail
  clear c0 hrd B
  have H0 := Lib.hid h0; clear h0
  go_loopw [7] (fun i wr => ∃ k : Nat, k ≤ rows.length ∧ i = .int .i64 k ∧ Hid (I k wr)) (fun i _ => rows.length - (intOf i).toNat)
  case atStart => exact ⟨0, Nat.zero_le _, rfl, H0⟩
  case round =>
    obtain ⟨k, hk, rfl, hi⟩ := hrel
    by_cases hlt : k < rows.length
    · obtain ⟨B, hrd⟩ := HM.out k wr hi.out
      obtain ⟨b, off, rfl, x0, x1⟩ := row_at hrd hlt
      go_upto_region 3 with (fail)
      refine (wpIn_wide (n := 0)).1 ?_
      gi_wp2_with fail
      have hi' := HI.out k wr (wr.alloc (.cells #[.int .i64 rows[k].1, .int .i64 rows[k].2] 85)) hi.out ((Kp.refl _).alloc _)
      obtain ⟨fn, tmps, asg, bd, hrun, hround⟩ := HY.out k _ hlt hi'
      simp only [List.getElem?_eq_getElem hlt, Option.getD_some] at hrun
      rw [hrun, Oper.uponIn_round]
      refine ⟨(fun h => by cases h), hround.mono ?_⟩
      clear hrun hround hi'
      rintro e W' (⟨rfl, hi2⟩ | ⟨rfl, hz⟩)
      · have Hi2 := Lib.hid hi2; clear hi2
        gi_wp2_with fail
        go_wp2_with fail
        go_roundw
        case rel => exact ⟨k + 1, by omega, by go_num, Hi2⟩
        case measure => simp [intOf]; omega
      · have Hz := Lib.hid hz; clear hz
        gi_wp2_with fail
        go_wp2_with fail
        refine noGoto_normal ?_
        go_end0
        exact ⟨rfl, .inr ⟨k + 1, by omega, by omega, Hz.out⟩⟩
    · obtain rfl : k = rows.length := by omega
      go_wp2_with fail
      refine noGoto_normal ?_
      go_end0
      exact ⟨rfl, .inl hi.out⟩
end Go.Proofs.Ytgnhhhcelfaliaa
