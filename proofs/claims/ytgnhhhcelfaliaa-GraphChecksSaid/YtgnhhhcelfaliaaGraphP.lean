/- Layer 18's reference: Owners and Dist. No condition but the stated bounds. -/
import Derived.Test.YtgnhhhcelfaliaaGraphO
namespace Go.Proofs.Ytgnhhhcelfaliaa
open Go.RowKit

set_option maxRecDepth 100000 in
set_option maxHeartbeats 1000000 in
theorem rowners_any (R : Int) (A A2 : Option Addr) (c c2 : Nat) (ls : List Lk) (os : List Int) (w : World) (hR : Rd w 3 Lk.enc A ls) (hn : ls.length ≤ 30) (hO : Rd w 1 intE A2 os) (ho : os.length ≤ 20) :
    Calls Try.prog 25 #[.agg #[.int .i64 R, .slice A ls.length c], .slice A2 os.length c2] w fun e w' => e = .returned (.int .i64 (ownersErr R ls os)) ∧ Kp w w' := by
  go_enter Try.func25, Try.ntmps25
  go_wp2_with fail
  refine (rright_any R A c ls _ (hR.keep ((Kp.refl _).alloc _)) hn).mono ?_
  rintro e w1 ⟨rfl, hK1⟩
  have G1 : Blk w1 w.heap.size 24 #[.int .i64 R, .slice A ls.length c] := (Blk.new w _ _).keep hK1
  have hKw : Kp w w1 := ((Kp.refl _).alloc _).trans hK1
  clear hK1
  cases hr : right R ls with
  | false =>
    have H := Lib.hid (show ownersErr R ls os = 2 by simp [ownersErr, hr]); clear hr
    go_wp2_with fail
    go_ret
    exact ⟨by rw [H.out]; rfl, hKw⟩
  | true =>
    have H := Lib.hid hr; clear hr
    go_wp2_with fail
    go_loopw [5] (fun i wr => ∃ k : Nat, k ≤ os.length ∧ i = .int .i64 k ∧ Hid (∀ j (hj : j < os.length), j < k → 0 ≤ os[j] ∧ os[j] < R) ∧ Kp w1 wr) (fun i _ => os.length - (intOf i).toNat)
    case atStart => exact ⟨0, Nat.zero_le _, rfl, fun _ _ h => absurd h (by omega), Kp.refl _⟩
    case round =>
      obtain ⟨k, hk, rfl, hall, hK⟩ := hrel
      have hKr := hKw.trans hK
      have g0 : wr.cell? ⟨w.heap.size, 0, none⟩ = some (.int .i64 R) := (G1.keep hK).cell 0
      by_cases hlt : k < os.length
      · obtain ⟨b, off, rfl, x0⟩ := int_at (hO.keep hKr) hlt
        by_cases h0 : os[k] < 0
        · have Hb := Lib.hid (own_bad H.out hlt (by omega))
          have d0 : decide (os[k] < 0) = true := by simpa using h0
          clear h0
          go_wp2_with fail
          go_quiet (fail)
          go_wp2_with fail
          go_ret
          exact ⟨by rw [Hb.out]; rfl, hKr.drewN _⟩
        · have d0 : decide (os[k] < 0) = false := by simpa using h0
          by_cases h1 : R ≤ os[k]
          · have Hb := Lib.hid (own_bad H.out hlt (by omega))
            have d1 : decide (R ≤ os[k]) = true := by simpa using h1
            clear h0 h1
            go_wp2_with fail
            go_quiet (fail)
            go_wp2_with fail
            go_ret
            exact ⟨by rw [Hb.out]; rfl, hKr.drewN _⟩
          · have d1 : decide (R ≤ os[k]) = false := by simpa using h1
            have Hin := Lib.hid (show 0 ≤ os[k] ∧ os[k] < R by omega)
            clear h0 h1
            go_wp2_with fail
            go_quiet (fail)
            go_wp2_with fail
            go_roundw
            case rel =>
              refine ⟨k + 1, by omega, by go_num, fun i hi hik => ?_, hK.drewN _⟩
              by_cases hj' : i < k
              · exact hall.out i hi hj'
              · obtain rfl : i = k := by omega
                exact Hin.out
            case measure => simp [intOf]; omega
      · obtain rfl : k = os.length := by omega
        have He := Lib.hid (own_fst H.out (fun j hj => hall.out j hj hj))
        clear hall
        go_wp2_with fail
        go_ret
        exact ⟨by rw [He.out]; rfl, hKr⟩
end Go.Proofs.Ytgnhhhcelfaliaa
