/- Layer 18's reference: Dist. No condition but the stated bounds. -/
import Derived.Test.YtgnhhhcelfaliaaGraphO
import Derived.Test.YtgnhhhcelfaliaaReg
namespace Go.Proofs.Ytgnhhhcelfaliaa
open Go.RowKit

/-- k times 16, then zeros, n in all. -/
def fillTo (n k : Nat) : List Int := List.replicate k 16 ++ List.replicate (n - k) 0
theorem fillTo_len {n k : Nat} (h : k ≤ n) : (fillTo n k).length = n := by simp [fillTo]; omega
theorem fillTo_set {n k : Nat} (h : k < n) : (fillTo n k).set k 16 = fillTo n (k + 1) := by
  unfold fillTo
  obtain ⟨m, rfl⟩ : ∃ m, n = k + 1 + m := ⟨n - (k + 1), by omega⟩
  rw [show k + 1 + m - k = m + 1 by omega, show k + 1 + m - (k + 1) = m by omega, List.set_append_right _ _ (by simp), List.length_replicate, Nat.sub_self, List.replicate_succ, List.set_cons_zero, List.replicate_succ' (n := k), List.append_assoc]
  rfl
theorem fillTo_all (n : Nat) : fillTo n n = List.replicate n 16 := by simp [fillTo]
theorem fillTo_row (n : Nat) (hn : n ≤ 1000000) (w : World) : Row (w.alloc (.cells (zrow n) 3)) w.heap.size n (fillTo n 0) :=
  ⟨zrow n, Blk.new _ _ _, by simp [zrow], by rw [fillTo_len (Nat.zero_le _)]; exact Nat.le_refl _, Nat.le_trans hn (by decide), by rw [fillTo_len (Nat.zero_le _)]; simp [zrow, fillTo]⟩

set_option maxRecDepth 100000 in
set_option maxHeartbeats 4000000 in
theorem rdist_any (n : Nat) (A A2 : Option Addr) (c c2 : Nat) (ls : List Lk) (os : List Int) (w : World) (hR : Rd w 3 Lk.enc A ls) (hn : ls.length ≤ 30) (hO : Rd w 1 intE A2 os) (ho : os.length ≤ 20) (h20 : n ≤ 20)
    (hr : right n ls = true) (hos : ∀ j (hj : j < os.length), 0 ≤ os[j] ∧ os[j] < (n : Int)) :
    Calls Try.prog 26 #[.agg #[.int .i64 n, .slice A ls.length c], .slice A2 os.length c2] w fun e w' => ∃ g, e = .returned (.slice (some ⟨g, 0, none⟩) n n) ∧ Row w' g n (dist n ls os) ∧ w.heap.size ≤ g ∧ Kp w w' := by
  have hms : ∀ W : World, (Instr.makeSlice 27 (.int .i64 (n : Int)) (.int .i64 (n : Int))).run Try.prog W = .ok (.slice (some ⟨W.heap.size, 0, none⟩) n n) (W.alloc (.cells (zrow n) 3)) := make_ints n (by omega)
  have H := Lib.hid hr; clear hr
  have Hos := Lib.hid hos; clear hos
  go_enter Try.func26, Try.ntmps26
  go_wp2_with fail
  have start : ∃ g w3, (w.alloc (.cells #[.int .i64 n, .slice A ls.length c] 24)).alloc (.cells (zrow n) 3) = w3 ∧ w.heap.size + 1 = g ∧ Blk w3 w.heap.size 24 #[.int .i64 n, .slice A ls.length c] ∧ Row w3 g n (fillTo n 0) ∧ Kp w w3 :=
    ⟨_, _, rfl, rfl, (Blk.new w _ _).alloc _, by simpa using fillTo_row n (by omega) (w.alloc (.cells #[.int .i64 n, .slice A ls.length c] 24)), ((Kp.refl _).alloc _).alloc _⟩
  obtain ⟨g, w3, hw3, hg, D0, hrow3, hK3⟩ := start
  rw [hw3, hg]
  clear hw3 hms
  go_loopw [6] (fun i wr => ∃ k : Nat, k ≤ n ∧ i = .int .i64 k ∧ Row wr g n (fillTo n k) ∧ Only [g] w3 wr) (fun i _ => n - (intOf i).toNat)
  case atStart => exact ⟨0, Nat.zero_le _, rfl, hrow3, Only.refl _ _⟩
  case round =>
    obtain ⟨k, hk, rfl, hr, hOn⟩ := hrel
    have E0 := D0.only hOn (by simp; omega)
    have g0 : wr.cell? ⟨w.heap.size, 0, none⟩ = some (.int .i64 n) := E0.cell 0
    by_cases hlt : k < n
    · have hkl : k < (fillTo n k).length := by rw [fillTo_len hk]; exact hlt
      have y0 := hr.cell hkl
      have q0 := hr.frozen k
      go_wp2_with fail
      go_roundw
      case rel => exact ⟨k + 1, by omega, by go_num, by rw [← fillTo_set hlt]; exact hr.set hkl 16, hOn.set1 (List.mem_singleton_self g) _ _⟩
      case measure => simp [intOf]; omega
    · obtain rfl : k = n := by omega
      have hds : fillTo k k = dStart k (os.take 0) := by rw [fillTo_all]; simp [dStart]
      rw [hds] at hr
      have hK4 : Kp w wr := hOn.kp hK3 (by simp; omega)
      clear hds hrow3 hK3 D0 hOn hlt hk
      go_wp2_with fail
      clear g0
      obtain ⟨w4, hw4⟩ : ∃ w4 : World, w4 = wr := ⟨_, rfl⟩
      rw [← hw4]
      rw [← hw4] at hr E0 hK4
      clear hw4
      go_loopw [7] (fun i wr => ∃ j : Nat, j ≤ os.length ∧ i = .int .i64 j ∧ Row wr g k (dStart k (os.take j)) ∧ Only [g] w4 wr) (fun i _ => os.length - (intOf i).toNat)
      case atStart => exact ⟨0, Nat.zero_le _, rfl, hr, Only.refl _ _⟩
      case round =>
        obtain ⟨j, hj, rfl, hrj, hOn⟩ := hrel
        have hK5 : Kp w wr := hOn.kp hK4 (by simp; omega)
        have F0 := E0.only hOn (by simp; omega)
        have hdl := dStart_len k (os.take j)
        by_cases hlt : j < os.length
        · obtain ⟨b, off, rfl, x0⟩ := int_at (hO.keep hK5) hlt
          have hin := Hos.out j hlt
          obtain ⟨q, hq⟩ := Int.eq_ofNat_of_zero_le hin.1
          rw [hq] at x0
          have hqn : q < k := by omega
          have hql : q < (dStart k (os.take j)).length := by rw [hdl]; simpa using hqn
          have y0 := hrj.cell hql
          have q0 := hrj.frozen q
          have Hq := Lib.hid hq; clear hq hin hdl
          go_wp2_with fail
          go_roundw
          case rel =>
            refine ⟨j + 1, by omega, by go_num, ?_, hOn.set1 (List.mem_singleton_self g) _ _⟩
            rw [dStart_succ k os j hlt, put1, Hq.out, Int.toNat_natCast]
            exact hrj.set hql 1
          case measure => simp [intOf]; omega
        · obtain rfl : j = os.length := by omega
          rw [List.take_length] at hrj hdl
          have Hmem := Lib.hid (right_mem H.out)
          clear hr hK4 E0 hOn hlt hj
          go_wp2_with fail
          obtain ⟨w5, hw5⟩ : ∃ w5 : World, w5 = wr := ⟨_, rfl⟩
          rw [← hw5]
          rw [← hw5] at hrj F0 hK5
          clear hw5
          go_loopw [8] (fun i wr => ∃ j : Nat, j ≤ k ∧ i = .int .i64 j ∧ Row wr g k (distN ls (dStart k os) j) ∧ Only [g] w5 wr) (fun i _ => k - (intOf i).toNat)
          case atStart => exact ⟨0, Nat.zero_le _, rfl, hrj, Only.refl _ _⟩
          case round =>
            obtain ⟨j, hj, rfl, hr6, hO6⟩ := hrel
            have hK6 : Kp w wr := hO6.kp hK5 (by simp; omega)
            have E0 := F0.only hO6 (by simp; omega)
            have g0 : wr.cell? ⟨w.heap.size, 0, none⟩ = some (.int .i64 k) := E0.cell 0
            by_cases hlt : j < k
            · have hfin : Fine (distN ls (dStart k os) j) := distN_fine (dStart_fine _ _) (fun l hl => by rw [hdl]; exact Hmem.out l hl) j
              have hlk : (distN ls (dStart k os) j).length = k := by rw [distN_len, hdl, Int.toNat_natCast]
              have hsucc : relaxAll ls (distN ls (dStart k os) j) = distN ls (dStart k os) (j + 1) := rfl
              have Hs := Lib.hid hsucc; clear hsucc
              generalize distN ls (dStart k os) j = D at *
              go_wp2_with fail
              obtain ⟨w7, hw7⟩ : ∃ w7 : World, w7 = wr := ⟨_, rfl⟩
              rw [← hw7]
              rw [← hw7] at hr6 hO6 E0 hK6
              clear hw7 g0
              go_loopw [9] (fun i wr => ∃ q : Nat, q ≤ ls.length ∧ i = .int .i64 q ∧ Row wr g k (relaxAll (ls.take q) D) ∧ Only [g] w7 wr) (fun i _ => ls.length - (intOf i).toNat)
              case atStart => exact ⟨0, Nat.zero_le _, rfl, hr6, Only.refl _ _⟩
              case round =>
                obtain ⟨q, hq, rfl, hr8, hO8⟩ := hrel
                have hK8 : Kp w wr := hO8.kp hK6 (by simp; omega)
                have K0 := E0.only hO8 (by simp; omega)
                have g1 : wr.cell? ⟨w.heap.size, 1, none⟩ = some (.slice A ls.length c) := K0.cell 1
                by_cases hql : q < ls.length
                · obtain ⟨b, off, rfl, c0, c1, c2⟩ := lk_at (hR.keep hK8) hql
                  have hlen : (relaxAll (ls.take q) D).length = k := by rw [relaxAll_len]; exact hlk
                  have hfk : Fine (relaxAll (ls.take q) D) := fine_all hfin (fun l hl' => by
                    obtain ⟨i, hi, rfl⟩ := List.getElem_of_mem (List.mem_of_mem_take hl')
                    have := right_link H.out hi
                    omega)
                  have hokk := right_link H.out hql
                  have Hsucc := Lib.hid (relaxTo_succ ls D q hql)
                  generalize relaxAll (ls.take q) D = E at *
                  cases hu : ls[q].Up with
                  | false =>
                    rw [hu] at c2
                    have Hx := Lib.hid (show relax E ls[q] = E by simp [relax, hu])
                    clear hu
                    go_wp2_with fail
                    go_roundw
                    case rel => exact ⟨q + 1, by omega, by go_num, by rw [Hsucc.out, Hx.out]; exact hr8.alloc _, hO8.alloc _⟩
                    case measure => simp [intOf]; omega
                  | true =>
                    rw [hu] at c2
                    obtain ⟨a, ha⟩ := Int.eq_ofNat_of_zero_le hokk.1
                    obtain ⟨z, hz⟩ := Int.eq_ofNat_of_zero_le hokk.2.2.1
                    have ha' : a < E.length := by omega
                    have hz' : z < E.length := by omega
                    have hne : ¬ a = z := by omega
                    have Hx := Lib.hid (relax_up ha hz hu ha' hz' hne)
                    rw [ha] at c0
                    rw [hz] at c1
                    have h0 := hr8.cell ha'
                    have h1 := hr8.cell hz'
                    have z0 := hr8.frozen a
                    have z1 := hr8.frozen z
                    have hx := hfk a ha'
                    have hy := hfk z hz'
                    have hglt := hr8.lt
                    have hak : a < k := by omega
                    have hzk : z < k := by omega
                    clear hokk hu ha hz
                    generalize hex : E[a] = x at *
                    generalize hey : E[z] = y at *
                    have Hex := Lib.hid hex; clear hex
                    have Hey := Lib.hid hey; clear hey
                    have hgs1 : ¬ g = wr.heap.size := by omega
                    have hgs2 : ¬ wr.heap.size = g := by omega
                    have hza : ¬ z = a := fun h => hne h.symm
                    have k0 : ∀ o, (wr.alloc o).cell? ⟨g, a, none⟩ = some (.int .i64 x) := fun o => ((Kp.refl wr).alloc o).cell h0
                    have k1 : ∀ o, (wr.alloc o).cell? ⟨g, z, none⟩ = some (.int .i64 y) := fun o => ((Kp.refl wr).alloc o).cell h1
                    have q0 : ∀ o, (wr.alloc o).frozen? ⟨g, a, none⟩ = false := fun o => (((Kp.refl wr).alloc o).frozen h0).trans z0
                    have q1 : ∀ o, (wr.alloc o).frozen? ⟨g, z, none⟩ = false := fun o => (((Kp.refl wr).alloc o).frozen h1).trans z1
                    have Ha := Lib.hid ha'
                    have Hz := Lib.hid hz'
                    have hm0 : 1 ≤ min x (y + 1) ∧ min x (y + 1) ≤ 16 := by omega
                    have hE : ∀ m, (E.set a m)[z]? = some y := fun m => by rw [List.getElem?_set_ne hne, List.getElem?_eq_getElem hz', Hey.out]
                    have HE := Lib.hid hE; clear hE
                    clear hR hO ho hg h20 H Hos hdl Hmem hK5 F0 hrj hj hO6 hK6 E0 hlt hfin hlk Hs hK8 K0 hfk hlen hr6
                    go_upto_region 18 with (fail)
                    go_cut [] from 55 to 70 (fun wx => Blk wx wr.heap.size 54 #[.int .i64 a, .int .i64 z, .bool true] ∧ Row wx g k (E.set a (min x (y + 1))) ∧ Only [g] wr wx)
                    case first =>
                      refine wp_tail 16 (by kernel_rfl) (by kernel_rfl) (fun W hW => ?_)
                      have BW : Blk W wr.heap.size 54 #[.int .i64 a, .int .i64 z, .bool true] := by rw [hW]; exact (Blk.new wr _ _).drew
                      have RW : Row W g k E := by rw [hW]; exact (hr8.alloc _).drew
                      have OW : Only [g] wr W := by rw [hW]; exact ((Only.refl _ _).alloc _).drew
                      clear hW k0 k1 q0 q1 h0 h1 z0 z1 hr8
                      have l0 : W.cell? ⟨wr.heap.size, 0, none⟩ = some (.int .i64 a) := BW.cell 0
                      have l1 : W.cell? ⟨wr.heap.size, 1, none⟩ = some (.int .i64 z) := BW.cell 1
                      have h0 : W.cell? ⟨g, a, none⟩ = some (.int .i64 x) := by rw [RW.cell Ha.out, Hex.out]
                      have h1 : W.cell? ⟨g, z, none⟩ = some (.int .i64 y) := by rw [RW.cell Hz.out, Hey.out]
                      have z0 := RW.frozen a
                      simp only [List.take_succ_cons, List.take_zero, List.drop_succ_cons, List.drop_zero]
                      repeat still_step
                      refine wpStill_nil ?_
                      go_wp2_with fail
                      all_goals
                        go_meet
                        case rel =>
                        first | rw [show min x (y + 1) = y + 1 by omega] | rw [show min x (y + 1) = x by omega]
                        exact ⟨BW.far (by simp; omega) _, RW.set Ha.out _, OW.set1 (List.mem_singleton_self g) _ _⟩
                    case rest =>
                      obtain ⟨B9, hr9, hO9⟩ := hcut
                      have hEa : a < (E.set a (min x (y + 1))).length := by simpa using Ha.out
                      have hEz : z < (E.set a (min x (y + 1))).length := by simpa using Hz.out
                      have e1 : (E.set a (min x (y + 1)))[a] = min x (y + 1) := by simp
                      have e2 : (E.set a (min x (y + 1)))[z] = y := by rw [List.getElem_set_ne hne, Hey.out]
                      generalize min x (y + 1) = m at *
                      generalize hE1 : E.set a m = E1 at *
                      have HE1 := Lib.hid hE1; clear hE1
                      have HEa := Lib.hid hEa
                      have HEz := Lib.hid hEz
                      have He1 := Lib.hid e1
                      have He2 := Lib.hid e2
                      clear e1 e2 k0 k1 q0 q1 h0 h1 z0 z1 hr8 HE
                      have Hmi := Lib.hid (show (if m + 1 < y then m + 1 else y) = min y (m + 1) by omega)
                      go_upto_region 19 with (fail)
                      refine wp_tail 16 (by kernel_rfl) (by kernel_rfl) (fun W hW => ?_)
                      have BW : Blk W wr.heap.size 54 #[.int .i64 a, .int .i64 z, .bool true] := by rw [hW]; exact B9.drew
                      have RW : Row W g k E1 := by rw [hW]; exact hr9.drew
                      have OW : Only [g] wr W := by rw [hW]; exact hO9.drew
                      clear hW hr9 hO9 B9
                      have l0 : W.cell? ⟨wr.heap.size, 0, none⟩ = some (.int .i64 a) := BW.cell 0
                      have l1 : W.cell? ⟨wr.heap.size, 1, none⟩ = some (.int .i64 z) := BW.cell 1
                      have h0 : W.cell? ⟨g, a, none⟩ = some (.int .i64 m) := by rw [RW.cell HEa.out, He1.out]
                      have h1 : W.cell? ⟨g, z, none⟩ = some (.int .i64 y) := by rw [RW.cell HEz.out, He2.out]
                      have z0 := RW.frozen z
                      simp only [List.take_succ_cons, List.take_zero, List.drop_succ_cons, List.drop_zero]
                      repeat still_step
                      refine wpStill_nil ?_
                      go_wp2_with fail
                      all_goals
                        go_roundw
                        case rel =>
                          refine ⟨q + 1, by omega, by go_num, ?_, hO8.trans (OW.set1 (List.mem_singleton_self g) _ _)⟩
                          rw [Hsucc.out, Hx.out]
                          rw [← Hmi.out]
                          exact RW.set HEz.out _
                        case measure => simp [intOf]; omega
                · obtain rfl : q = ls.length := by omega
                  rw [List.take_length, Hs.out] at hr8
                  go_wp2_with fail
                  go_roundw
                  case rel => exact ⟨j + 1, by omega, by go_num, hr8, hO6.trans hO8⟩
                  case measure => simp [intOf]; omega
            · obtain rfl : j = k := by omega
              go_wp2_with fail
              go_ret
              exact ⟨g, rfl, by rw [dist, Int.toNat_natCast]; exact hr6, by omega, hK6⟩
end Go.Proofs.Ytgnhhhcelfaliaa
