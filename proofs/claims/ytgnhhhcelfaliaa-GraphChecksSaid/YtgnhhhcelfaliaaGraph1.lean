/- GraphFaces: whatever graph, router and link: the law returns true, and what was there stands. -/
import Derived.Test.YtgnhhhcelfaliaaGraphW
import Derived.Test.YtgnhhhcelfaliaaGraphX
import Derived.Deep.RegionHeld3
namespace Go.Proofs.Ytgnhhhcelfaliaa
open Go.RowKit

theorem few_yes {n : Nat} (h : n ≤ 30) : decide ((n : Int) ≤ 30) = true := by simp; omega
theorem few_no {n : Nat} (h : ¬ n ≤ 30) : decide ((n : Int) ≤ 30) = false := by simp; omega

set_option maxRecDepth 100000 in
set_option maxHeartbeats 1000000 in
theorem faces_many (R r l : Int) (A : Option Addr) (c : Nat) (ls : List Lk) (w : World) (hn : ¬ ls.length ≤ 30) :
    Calls Try.prog 3 #[.agg #[.int .i64 R, .slice A ls.length c], .int .i64 r, .int .i64 l] w fun e w' => e = .returned (.bool true) ∧ Kp w w' := by
  have H := Lib.hid (few_no hn); clear hn
  go_enter Try.func3, Try.ntmps3
  go_wp2_with fail
  refine (few_any R A ls.length c _).mono ?_
  rintro e w1 ⟨rfl, hK1⟩
  rw [H.out]
  go_wp2_with fail
  refine (works_any _).mono ?_
  rintro e w2 ⟨rfl, hK2⟩
  go_wp2_with fail
  go_ret
  exact ⟨rfl, ((Kp.refl _).alloc _).trans (hK1.trans hK2)⟩

theorem onErr_facts (R : Int) (ls : List Lk) (r l : Int) : (¬ onErr R ls r l = 0 → faceN R ls r l = 0 ∧ otherN R ls r l = 0 ∧ addrN R ls r l = 0) := fun h => by
  simp [faceN, otherN, addrN, h]

set_option maxRecDepth 100000 in
set_option maxHeartbeats 4000000 in
theorem faces_few (R r l : Int) (A : Option Addr) (c : Nat) (ls : List Lk) (w : World) (hR : Rd w 3 Lk.enc A ls) (hn : ls.length ≤ 30) :
    Calls Try.prog 3 #[.agg #[.int .i64 R, .slice A ls.length c], .int .i64 r, .int .i64 l] w fun e w' => e = .returned (.bool true) ∧ Kp w w' := by
  have H := Lib.hid (few_yes hn)
  go_enter Try.func3, Try.ntmps3
  go_wp2_with fail
  refine (few_any R A ls.length c _).mono ?_
  rintro e w1 ⟨rfl, hK1⟩
  rw [H.out]
  have k1 : Kp w w1 := ((Kp.refl _).alloc _).trans hK1
  have G1 : Blk w1 w.heap.size 24 #[.int .i64 R, .slice A ls.length c] := (Blk.new w _ _).keep hK1
  clear hK1
  have g0 : w1.cell? ⟨w.heap.size, 0, none⟩ = some (.int .i64 R) := G1.cell 0
  have g1 : w1.cell? ⟨w.heap.size, 1, none⟩ = some (.slice A ls.length c) := G1.cell 1
  go_wp2_with fail
  refine (gfaces_any R r A c ls _ (hR.keep k1) hn).mono ?_
  rintro e w2 ⟨v2, rfl, hown2, hK2⟩
  have k2 := k1.trans hK2
  have G2 := G1.keep hK2
  clear g0 g1 G1 k1
  have g0 : w2.cell? ⟨w.heap.size, 0, none⟩ = some (.int .i64 R) := G2.cell 0
  have g1 : w2.cell? ⟨w.heap.size, 1, none⟩ = some (.slice A ls.length c) := G2.cell 1
  go_wp2_with fail
  refine (gface_any R r l A c ls _ (hR.keep k2) hn).mono ?_
  rintro e w3 ⟨rfl, hK3⟩
  have k3 := k2.trans hK3
  have G3 := G2.keep hK3
  clear g0 g1 G2 k2
  have g0 : w3.cell? ⟨w.heap.size, 0, none⟩ = some (.int .i64 R) := G3.cell 0
  have g1 : w3.cell? ⟨w.heap.size, 1, none⟩ = some (.slice A ls.length c) := G3.cell 1
  go_wp2_with fail
  refine (gother_any R r l A c ls _ (hR.keep k3) hn).mono ?_
  rintro e w4 ⟨rfl, hK4⟩
  have k4 := k3.trans hK4
  have G4 := G3.keep hK4
  clear g0 g1 G3 k3
  have g0 : w4.cell? ⟨w.heap.size, 0, none⟩ = some (.int .i64 R) := G4.cell 0
  have g1 : w4.cell? ⟨w.heap.size, 1, none⟩ = some (.slice A ls.length c) := G4.cell 1
  go_wp2_with fail
  refine (gaddr_any R r l A c ls _ (hR.keep k4) hn).mono ?_
  rintro e w5 ⟨rfl, hK5⟩
  have k5 := k4.trans hK5
  have G5 := G4.keep hK5
  have hown5 := hown2.keep (hK3.trans (hK4.trans hK5))
  clear g0 g1 G4 k4 hown2 hK2 hK3 hK4 hK5
  obtain ⟨A2, c2, rfl, hr5⟩ := hown5.rd (by omega) intE_len
  have net : Hid (∀ W, Kp w5 W → Kp w W ∧ Blk W w.heap.size 24 #[.int .i64 R, .slice A ls.length c] ∧ Rd W 1 intE A2 (facesE R ls r)) := fun W hk => ⟨k5.trans hk, G5.keep hk, hr5.keep hk⟩
  have herr := Lib.hid (onErr_facts R ls r l)
  clear k5 G5 hr5 hown5
  have part : ∃ z : Nat, (l < 0 ∧ z = 0) ∨ (0 ≤ l ∧ 23 < l ∧ z = 1) ∨ (0 ≤ l ∧ l ≤ 23 ∧ z = 2) := by
    by_cases h1 : l < 0
    · exact ⟨0, .inl ⟨h1, rfl⟩⟩
    · by_cases h2 : 23 < l
      · exact ⟨1, .inr (.inl ⟨by omega, h2, rfl⟩)⟩
      · exact ⟨2, .inr (.inr ⟨by omega, by omega, rfl⟩)⟩
  obtain ⟨z, ⟨hl0, hz⟩ | ⟨hl0, hl1, hz⟩ | ⟨hl0, hl1, hz⟩⟩ := part
  · clear hz
    go_wp2_with fail
    refine (gnet_no l _ (.inl hl0)).mono ?_
    rintro e w6 ⟨rfl, hK6⟩
    have gg0 : ∀ o, (w6.alloc o).cell? ⟨w.heap.size, 0, none⟩ = some (.int .i64 R) := fun o => ((net.out _ (hK6.alloc o)).2.1).cell 0
    have gg1 : ∀ o, (w6.alloc o).cell? ⟨w.heap.size, 1, none⟩ = some (.slice A ls.length c) := fun o => ((net.out _ (hK6.alloc o)).2.1).cell 1
    go_wp2_with (go_at_call 15; refine (num_any _ _).mono ?_; rintro e w' ⟨rfl, rfl⟩)
    refine (rrouter_any R r A c ls _ (hR.keep (net.out _ (hK6.alloc _)).1) hn).mono ?_
    rintro e w8 ⟨rfl, hK8⟩
    obtain ⟨k8, G8, hr8⟩ := net.out w8 ((hK6.alloc _).trans hK8)
    clear hK8 gg0 gg1
    have g0 : w8.cell? ⟨w.heap.size, 0, none⟩ = some (.int .i64 R) := G8.cell 0
    have g1 : w8.cell? ⟨w.heap.size, 1, none⟩ = some (.slice A ls.length c) := G8.cell 1
    have hne : (routerErr R ls r != routerErr R ls r) = false := by simp
    by_cases he : routerErr R ls r = 0
    · have e1 : (routerErr R ls r == 0) = true := by simp [he]
      have e2 : (routerErr R ls r != 0) = false := by simp [he]
      have Hf := Lib.hid (show facesE R ls r = faces ls r by simp [facesE, he])
      clear he
      have hlen : (facesE R ls r).length ≤ 30 := by rw [Hf.out]; have := facesTo_len ls r ls.length; unfold faces; omega
      go_wp2_with (go_at_call 15; refine (num_any _ _).mono ?_; rintro e w' ⟨rfl, rfl⟩)
      refine (rlinks_any R r A c ls _ (hR.keep k8) (by omega)).mono ?_
      rintro e w9 ⟨v9, rfl, hown9, hK9⟩
      obtain ⟨A9, c9, rfl, hr9⟩ := hown9.rd (by omega) intE_len
      have hr29 := hr8.keep hK9
      clear hown9 hr8
      have k9 := k8.trans hK9
      have G9 := G8.keep hK9
      clear g0 g1 G8 k8 hK9
      have g0 : w9.cell? ⟨w.heap.size, 0, none⟩ = some (.int .i64 R) := G9.cell 0
      have g1 : w9.cell? ⟨w.heap.size, 1, none⟩ = some (.slice A ls.length c) := G9.cell 1
      go_wp2_with fail
      refine (rints_any A2 A9 c2 c9 (facesE R ls r) (faces ls r) _ hr29 hr9 (by omega)).mono ?_
      rintro e w10 ⟨rfl, hK10⟩
      rw [show decide (facesE R ls r = faces ls r) = true from by simp [Hf.out]]
      have k10 := k9.trans hK10
      have G10 := G9.keep hK10
      clear g0 g1 G9 k9 hK10
      have g0 : w10.cell? ⟨w.heap.size, 0, none⟩ = some (.int .i64 R) := G10.cell 0
      have g1 : w10.cell? ⟨w.heap.size, 1, none⟩ = some (.slice A ls.length c) := G10.cell 1
      go_wp2_with fail
      refine (ron_any R r l A c ls _ (hR.keep k10) hn).mono ?_
      rintro e w11 ⟨rfl, hK11⟩
      have k11 := k10.trans hK11
      have G11 := G10.keep hK11
      clear g0 g1 G10 k10 hK11
      have g0 : w11.cell? ⟨w.heap.size, 0, none⟩ = some (.int .i64 R) := G11.cell 0
      have g1 : w11.cell? ⟨w.heap.size, 1, none⟩ = some (.slice A ls.length c) := G11.cell 1
      by_cases ho : onErr R ls r l = 0
      · obtain ⟨k, hk, rfl, hr, h0, h1, hh⟩ := onErr_zero ho
        have hb := right_link hr hk
        have h20 := right_20 hr
        have hf : faceN R ls r k = (facesTo ls r k).length := by simp [faceN, ho]
        have ht : otherN R ls r k = ls[k].A + ls[k].B - r := by simp [otherN, ho, List.getElem?_eq_getElem hk]
        have ha : addrN R ls r k = netI k + (if ls[k].A = r then 1 else 2) := by simp [addrN, ho, List.getElem?_eq_getElem hk]
        rw [ho, hf, ht]
        have Ha := Lib.hid ha
        clear ho hr hh hf ht ha hne herr
        have q1 : (((facesTo ls r k).length : Int) == ((facesTo ls r k).length : Int)) = true := by simp
        have q2 : (ls[k].A + ls[k].B - r == ls[k].A + ls[k].B - r) = true := by simp
        have q3 : (addrN R ls r k == addrN R ls r k) = true := by simp
        go_wp2_with (go_at_call 15; refine (num_any _ _).mono ?_; rintro e w' ⟨rfl, rfl⟩)
        refine (rface_any R r k A c ls _ (hR.keep k11) hn (by omega)).mono ?_
        rintro e w12 ⟨rfl, hK12⟩
        have k12 := k11.trans hK12
        have G12 := G11.keep hK12
        clear g0 g1 G11 k11 hK12
        have g0 : w12.cell? ⟨w.heap.size, 0, none⟩ = some (.int .i64 R) := G12.cell 0
        have g1 : w12.cell? ⟨w.heap.size, 1, none⟩ = some (.slice A ls.length c) := G12.cell 1
        go_wp2_with fail
        refine (rother_any R r k A c ls _ (hR.keep k12) hk (by omega) (by omega) (by omega)).mono ?_
        rintro e w13 ⟨rfl, hK13⟩
        have k13 := k12.trans hK13
        have G13 := G12.keep hK13
        clear g0 g1 G12 k12 hK13
        have g0 : w13.cell? ⟨w.heap.size, 0, none⟩ = some (.int .i64 R) := G13.cell 0
        have g1 : w13.cell? ⟨w.heap.size, 1, none⟩ = some (.slice A ls.length c) := G13.cell 1
        go_wp2_with fail
        refine (raddr_any R r k A c ls _ (hR.keep k13) (by omega) hk).mono ?_
        rintro e w14 ⟨rfl, hK14⟩
        rw [← Ha.out]
        have k14 := k13.trans hK14
        clear g0 g1
        go_wp2_with fail
        refine (works_any _).mono ?_
        rintro e w15 ⟨rfl, hK15⟩
        go_wp2_with fail
        go_ret
        exact ⟨rfl, k14.trans hK15⟩
      · obtain ⟨hf, ht, ha⟩ := herr.out ho
        rw [hf, ht, ha]
        have q1 : (onErr R ls r l != 0) = true := by simpa using ho
        have q2 : (onErr R ls r l == onErr R ls r l) = true := by simp
        clear ho hf ht ha herr hne g0 g1
        go_wp2_with (go_at_call 15; refine (num_any _ _).mono ?_; rintro e w' ⟨rfl, rfl⟩)
        refine (works_any _).mono ?_
        rintro e w15 ⟨rfl, hK15⟩
        go_wp2_with fail
        go_ret
        exact ⟨rfl, k11.trans hK15⟩
    · have e1 : (routerErr R ls r == 0) = false := by simpa using he
      have e2 : (routerErr R ls r != 0) = true := by simpa using he
      have hlen0 : (facesE R ls r).length = 0 := by simp [facesE, he]
      clear he
      go_wp2_with (go_at_call 15; refine (num_any _ _).mono ?_; rintro e w' ⟨rfl, rfl⟩)
      refine (ron_any R r l A c ls _ (hR.keep k8) hn).mono ?_
      rintro e w11 ⟨rfl, hK11⟩
      have k11 := k8.trans hK11
      have G11 := G8.keep hK11
      clear g0 g1 G8 k8 hK11
      have g0 : w11.cell? ⟨w.heap.size, 0, none⟩ = some (.int .i64 R) := G11.cell 0
      have g1 : w11.cell? ⟨w.heap.size, 1, none⟩ = some (.slice A ls.length c) := G11.cell 1
      by_cases ho : onErr R ls r l = 0
      · obtain ⟨k, hk, rfl, hr, h0, h1, hh⟩ := onErr_zero ho
        have hb := right_link hr hk
        have h20 := right_20 hr
        have hf : faceN R ls r k = (facesTo ls r k).length := by simp [faceN, ho]
        have ht : otherN R ls r k = ls[k].A + ls[k].B - r := by simp [otherN, ho, List.getElem?_eq_getElem hk]
        have ha : addrN R ls r k = netI k + (if ls[k].A = r then 1 else 2) := by simp [addrN, ho, List.getElem?_eq_getElem hk]
        rw [ho, hf, ht]
        have Ha := Lib.hid ha
        clear ho hr hh hf ht ha hne herr
        have q1 : (((facesTo ls r k).length : Int) == ((facesTo ls r k).length : Int)) = true := by simp
        have q2 : (ls[k].A + ls[k].B - r == ls[k].A + ls[k].B - r) = true := by simp
        have q3 : (addrN R ls r k == addrN R ls r k) = true := by simp
        go_wp2_with (go_at_call 15; refine (num_any _ _).mono ?_; rintro e w' ⟨rfl, rfl⟩)
        refine (rface_any R r k A c ls _ (hR.keep k11) hn (by omega)).mono ?_
        rintro e w12 ⟨rfl, hK12⟩
        have k12 := k11.trans hK12
        have G12 := G11.keep hK12
        clear g0 g1 G11 k11 hK12
        have g0 : w12.cell? ⟨w.heap.size, 0, none⟩ = some (.int .i64 R) := G12.cell 0
        have g1 : w12.cell? ⟨w.heap.size, 1, none⟩ = some (.slice A ls.length c) := G12.cell 1
        go_wp2_with fail
        refine (rother_any R r k A c ls _ (hR.keep k12) hk (by omega) (by omega) (by omega)).mono ?_
        rintro e w13 ⟨rfl, hK13⟩
        have k13 := k12.trans hK13
        have G13 := G12.keep hK13
        clear g0 g1 G12 k12 hK13
        have g0 : w13.cell? ⟨w.heap.size, 0, none⟩ = some (.int .i64 R) := G13.cell 0
        have g1 : w13.cell? ⟨w.heap.size, 1, none⟩ = some (.slice A ls.length c) := G13.cell 1
        go_wp2_with fail
        refine (raddr_any R r k A c ls _ (hR.keep k13) (by omega) hk).mono ?_
        rintro e w14 ⟨rfl, hK14⟩
        rw [← Ha.out]
        have k14 := k13.trans hK14
        clear g0 g1
        go_wp2_with fail
        refine (works_any _).mono ?_
        rintro e w15 ⟨rfl, hK15⟩
        go_wp2_with fail
        go_ret
        exact ⟨rfl, k14.trans hK15⟩
      · obtain ⟨hf, ht, ha⟩ := herr.out ho
        rw [hf, ht, ha]
        have q1 : (onErr R ls r l != 0) = true := by simpa using ho
        have q2 : (onErr R ls r l == onErr R ls r l) = true := by simp
        clear ho hf ht ha herr hne g0 g1
        go_wp2_with (go_at_call 15; refine (num_any _ _).mono ?_; rintro e w' ⟨rfl, rfl⟩)
        refine (works_any _).mono ?_
        rintro e w15 ⟨rfl, hK15⟩
        go_wp2_with fail
        go_ret
        exact ⟨rfl, k11.trans hK15⟩

  · clear hz
    go_wp2_with fail
    refine (gnet_no l _ (.inr hl1)).mono ?_
    rintro e w6 ⟨rfl, hK6⟩
    have gg0 : ∀ o, (w6.alloc o).cell? ⟨w.heap.size, 0, none⟩ = some (.int .i64 R) := fun o => ((net.out _ (hK6.alloc o)).2.1).cell 0
    have gg1 : ∀ o, (w6.alloc o).cell? ⟨w.heap.size, 1, none⟩ = some (.slice A ls.length c) := fun o => ((net.out _ (hK6.alloc o)).2.1).cell 1
    have hd1 : decide (l < 0) = false := by simp; omega
    go_wp2_with (go_at_call 15; refine (num_any _ _).mono ?_; rintro e w' ⟨rfl, rfl⟩)
    refine (rrouter_any R r A c ls _ (hR.keep (net.out _ (hK6.alloc _)).1) hn).mono ?_
    rintro e w8 ⟨rfl, hK8⟩
    obtain ⟨k8, G8, hr8⟩ := net.out w8 ((hK6.alloc _).trans hK8)
    clear hK8 gg0 gg1
    have g0 : w8.cell? ⟨w.heap.size, 0, none⟩ = some (.int .i64 R) := G8.cell 0
    have g1 : w8.cell? ⟨w.heap.size, 1, none⟩ = some (.slice A ls.length c) := G8.cell 1
    have hne : (routerErr R ls r != routerErr R ls r) = false := by simp
    by_cases he : routerErr R ls r = 0
    · have e1 : (routerErr R ls r == 0) = true := by simp [he]
      have e2 : (routerErr R ls r != 0) = false := by simp [he]
      have Hf := Lib.hid (show facesE R ls r = faces ls r by simp [facesE, he])
      clear he
      have hlen : (facesE R ls r).length ≤ 30 := by rw [Hf.out]; have := facesTo_len ls r ls.length; unfold faces; omega
      go_wp2_with (go_at_call 15; refine (num_any _ _).mono ?_; rintro e w' ⟨rfl, rfl⟩)
      refine (rlinks_any R r A c ls _ (hR.keep k8) (by omega)).mono ?_
      rintro e w9 ⟨v9, rfl, hown9, hK9⟩
      obtain ⟨A9, c9, rfl, hr9⟩ := hown9.rd (by omega) intE_len
      have hr29 := hr8.keep hK9
      clear hown9 hr8
      have k9 := k8.trans hK9
      have G9 := G8.keep hK9
      clear g0 g1 G8 k8 hK9
      have g0 : w9.cell? ⟨w.heap.size, 0, none⟩ = some (.int .i64 R) := G9.cell 0
      have g1 : w9.cell? ⟨w.heap.size, 1, none⟩ = some (.slice A ls.length c) := G9.cell 1
      go_wp2_with fail
      refine (rints_any A2 A9 c2 c9 (facesE R ls r) (faces ls r) _ hr29 hr9 (by omega)).mono ?_
      rintro e w10 ⟨rfl, hK10⟩
      rw [show decide (facesE R ls r = faces ls r) = true from by simp [Hf.out]]
      have k10 := k9.trans hK10
      have G10 := G9.keep hK10
      clear g0 g1 G9 k9 hK10
      have g0 : w10.cell? ⟨w.heap.size, 0, none⟩ = some (.int .i64 R) := G10.cell 0
      have g1 : w10.cell? ⟨w.heap.size, 1, none⟩ = some (.slice A ls.length c) := G10.cell 1
      go_wp2_with fail
      refine (ron_any R r l A c ls _ (hR.keep k10) hn).mono ?_
      rintro e w11 ⟨rfl, hK11⟩
      have k11 := k10.trans hK11
      have G11 := G10.keep hK11
      clear g0 g1 G10 k10 hK11
      have g0 : w11.cell? ⟨w.heap.size, 0, none⟩ = some (.int .i64 R) := G11.cell 0
      have g1 : w11.cell? ⟨w.heap.size, 1, none⟩ = some (.slice A ls.length c) := G11.cell 1
      by_cases ho : onErr R ls r l = 0
      · obtain ⟨k, hk, rfl, hr, h0, h1, hh⟩ := onErr_zero ho
        have hb := right_link hr hk
        have h20 := right_20 hr
        have hf : faceN R ls r k = (facesTo ls r k).length := by simp [faceN, ho]
        have ht : otherN R ls r k = ls[k].A + ls[k].B - r := by simp [otherN, ho, List.getElem?_eq_getElem hk]
        have ha : addrN R ls r k = netI k + (if ls[k].A = r then 1 else 2) := by simp [addrN, ho, List.getElem?_eq_getElem hk]
        rw [ho, hf, ht]
        have Ha := Lib.hid ha
        clear ho hr hh hf ht ha hne herr
        have q1 : (((facesTo ls r k).length : Int) == ((facesTo ls r k).length : Int)) = true := by simp
        have q2 : (ls[k].A + ls[k].B - r == ls[k].A + ls[k].B - r) = true := by simp
        have q3 : (addrN R ls r k == addrN R ls r k) = true := by simp
        go_wp2_with (go_at_call 15; refine (num_any _ _).mono ?_; rintro e w' ⟨rfl, rfl⟩)
        refine (rface_any R r k A c ls _ (hR.keep k11) hn (by omega)).mono ?_
        rintro e w12 ⟨rfl, hK12⟩
        have k12 := k11.trans hK12
        have G12 := G11.keep hK12
        clear g0 g1 G11 k11 hK12
        have g0 : w12.cell? ⟨w.heap.size, 0, none⟩ = some (.int .i64 R) := G12.cell 0
        have g1 : w12.cell? ⟨w.heap.size, 1, none⟩ = some (.slice A ls.length c) := G12.cell 1
        go_wp2_with fail
        refine (rother_any R r k A c ls _ (hR.keep k12) hk (by omega) (by omega) (by omega)).mono ?_
        rintro e w13 ⟨rfl, hK13⟩
        have k13 := k12.trans hK13
        have G13 := G12.keep hK13
        clear g0 g1 G12 k12 hK13
        have g0 : w13.cell? ⟨w.heap.size, 0, none⟩ = some (.int .i64 R) := G13.cell 0
        have g1 : w13.cell? ⟨w.heap.size, 1, none⟩ = some (.slice A ls.length c) := G13.cell 1
        go_wp2_with fail
        refine (raddr_any R r k A c ls _ (hR.keep k13) (by omega) hk).mono ?_
        rintro e w14 ⟨rfl, hK14⟩
        rw [← Ha.out]
        have k14 := k13.trans hK14
        clear g0 g1
        go_wp2_with fail
        refine (works_any _).mono ?_
        rintro e w15 ⟨rfl, hK15⟩
        go_wp2_with fail
        go_ret
        exact ⟨rfl, k14.trans hK15⟩
      · obtain ⟨hf, ht, ha⟩ := herr.out ho
        rw [hf, ht, ha]
        have q1 : (onErr R ls r l != 0) = true := by simpa using ho
        have q2 : (onErr R ls r l == onErr R ls r l) = true := by simp
        clear ho hf ht ha herr hne g0 g1
        go_wp2_with (go_at_call 15; refine (num_any _ _).mono ?_; rintro e w' ⟨rfl, rfl⟩)
        refine (works_any _).mono ?_
        rintro e w15 ⟨rfl, hK15⟩
        go_wp2_with fail
        go_ret
        exact ⟨rfl, k11.trans hK15⟩
    · have e1 : (routerErr R ls r == 0) = false := by simpa using he
      have e2 : (routerErr R ls r != 0) = true := by simpa using he
      have hlen0 : (facesE R ls r).length = 0 := by simp [facesE, he]
      clear he
      go_wp2_with (go_at_call 15; refine (num_any _ _).mono ?_; rintro e w' ⟨rfl, rfl⟩)
      refine (ron_any R r l A c ls _ (hR.keep k8) hn).mono ?_
      rintro e w11 ⟨rfl, hK11⟩
      have k11 := k8.trans hK11
      have G11 := G8.keep hK11
      clear g0 g1 G8 k8 hK11
      have g0 : w11.cell? ⟨w.heap.size, 0, none⟩ = some (.int .i64 R) := G11.cell 0
      have g1 : w11.cell? ⟨w.heap.size, 1, none⟩ = some (.slice A ls.length c) := G11.cell 1
      by_cases ho : onErr R ls r l = 0
      · obtain ⟨k, hk, rfl, hr, h0, h1, hh⟩ := onErr_zero ho
        have hb := right_link hr hk
        have h20 := right_20 hr
        have hf : faceN R ls r k = (facesTo ls r k).length := by simp [faceN, ho]
        have ht : otherN R ls r k = ls[k].A + ls[k].B - r := by simp [otherN, ho, List.getElem?_eq_getElem hk]
        have ha : addrN R ls r k = netI k + (if ls[k].A = r then 1 else 2) := by simp [addrN, ho, List.getElem?_eq_getElem hk]
        rw [ho, hf, ht]
        have Ha := Lib.hid ha
        clear ho hr hh hf ht ha hne herr
        have q1 : (((facesTo ls r k).length : Int) == ((facesTo ls r k).length : Int)) = true := by simp
        have q2 : (ls[k].A + ls[k].B - r == ls[k].A + ls[k].B - r) = true := by simp
        have q3 : (addrN R ls r k == addrN R ls r k) = true := by simp
        go_wp2_with (go_at_call 15; refine (num_any _ _).mono ?_; rintro e w' ⟨rfl, rfl⟩)
        refine (rface_any R r k A c ls _ (hR.keep k11) hn (by omega)).mono ?_
        rintro e w12 ⟨rfl, hK12⟩
        have k12 := k11.trans hK12
        have G12 := G11.keep hK12
        clear g0 g1 G11 k11 hK12
        have g0 : w12.cell? ⟨w.heap.size, 0, none⟩ = some (.int .i64 R) := G12.cell 0
        have g1 : w12.cell? ⟨w.heap.size, 1, none⟩ = some (.slice A ls.length c) := G12.cell 1
        go_wp2_with fail
        refine (rother_any R r k A c ls _ (hR.keep k12) hk (by omega) (by omega) (by omega)).mono ?_
        rintro e w13 ⟨rfl, hK13⟩
        have k13 := k12.trans hK13
        have G13 := G12.keep hK13
        clear g0 g1 G12 k12 hK13
        have g0 : w13.cell? ⟨w.heap.size, 0, none⟩ = some (.int .i64 R) := G13.cell 0
        have g1 : w13.cell? ⟨w.heap.size, 1, none⟩ = some (.slice A ls.length c) := G13.cell 1
        go_wp2_with fail
        refine (raddr_any R r k A c ls _ (hR.keep k13) (by omega) hk).mono ?_
        rintro e w14 ⟨rfl, hK14⟩
        rw [← Ha.out]
        have k14 := k13.trans hK14
        clear g0 g1
        go_wp2_with fail
        refine (works_any _).mono ?_
        rintro e w15 ⟨rfl, hK15⟩
        go_wp2_with fail
        go_ret
        exact ⟨rfl, k14.trans hK15⟩
      · obtain ⟨hf, ht, ha⟩ := herr.out ho
        rw [hf, ht, ha]
        have q1 : (onErr R ls r l != 0) = true := by simpa using ho
        have q2 : (onErr R ls r l == onErr R ls r l) = true := by simp
        clear ho hf ht ha herr hne g0 g1
        go_wp2_with (go_at_call 15; refine (num_any _ _).mono ?_; rintro e w' ⟨rfl, rfl⟩)
        refine (works_any _).mono ?_
        rintro e w15 ⟨rfl, hK15⟩
        go_wp2_with fail
        go_ret
        exact ⟨rfl, k11.trans hK15⟩

  · clear hz
    have hd1 : decide (l < 0) = false := by simp; omega
    go_wp2_with fail
    refine (gnet_ok l _ hl0 hl1).mono ?_
    rintro e w6 ⟨rfl, hK6⟩
    obtain ⟨n0, n9⟩ := netI_bd hl0 hl1
    have hrn := fun W => rnet_any l W hl0 hl1
    generalize netI l = q at hrn n0 n9 ⊢
    have Hrn := Lib.hid hrn; clear hrn
    go_wp2_with fail
    have kk : Kp w6 (w6.alloc (.cells #[.int .u32 q, .int .i64 30] 38)).drew := ((Kp.refl _).alloc _).drew
    have x0 : (w6.alloc (.cells #[.int .u32 q, .int .i64 30] 38)).cell? ⟨w6.heap.size, 0, none⟩ = some (.int .u32 q) := by simp [go_sem]
    have x1 : (w6.alloc (.cells #[.int .u32 q, .int .i64 30] 38)).cell? ⟨w6.heap.size, 1, none⟩ = some (.int .i64 30) := by simp [go_sem]
    go_region_held3 (fun W => W.cell? ⟨w6.heap.size, 0, none⟩ = some (.int .u32 q) ∧ W.cell? ⟨w6.heap.size, 1, none⟩ = some (.int .i64 30) ∧ Kp w6 W) (first | (refine ⟨?_, ?_, ?_⟩ <;> first | assumption | (exact Kp.cell ‹_› ‹_›) | (exact Kp.trans ‹_› ‹_›)) | go_keep)
      (first | (go_at_call 15; refine (num_any _ _).mono ?_; rintro e w' ⟨rfl, rfl⟩) | (go_at_call 16; refine (Hrn.out _).mono ?_; rintro e w' ⟨rfl, hK'⟩))
    have K7 := hK6.trans (kk.trans hK')
    have gg0 : w'.cell? ⟨w.heap.size, 0, none⟩ = some (.int .i64 R) := ((net.out _ K7).2.1).cell 0
    have gg1 : w'.cell? ⟨w.heap.size, 1, none⟩ = some (.slice A ls.length c) := ((net.out _ K7).2.1).cell 1
    clear x0 x1
    go_wp2_with (go_at_call 15; refine (num_any _ _).mono ?_; rintro e w' ⟨rfl, rfl⟩)
    refine (rrouter_any R r A c ls _ (hR.keep (net.out _ K7).1) hn).mono ?_
    rintro e w8 ⟨rfl, hK8⟩
    obtain ⟨k8, G8, hr8⟩ := net.out w8 (K7.trans hK8)
    clear hK8 gg0 gg1
    have g0 : w8.cell? ⟨w.heap.size, 0, none⟩ = some (.int .i64 R) := G8.cell 0
    have g1 : w8.cell? ⟨w.heap.size, 1, none⟩ = some (.slice A ls.length c) := G8.cell 1
    have hne : (routerErr R ls r != routerErr R ls r) = false := by simp
    by_cases he : routerErr R ls r = 0
    · have e1 : (routerErr R ls r == 0) = true := by simp [he]
      have e2 : (routerErr R ls r != 0) = false := by simp [he]
      have Hf := Lib.hid (show facesE R ls r = faces ls r by simp [facesE, he])
      clear he
      have hlen : (facesE R ls r).length ≤ 30 := by rw [Hf.out]; have := facesTo_len ls r ls.length; unfold faces; omega
      go_wp2_with (go_at_call 15; refine (num_any _ _).mono ?_; rintro e w' ⟨rfl, rfl⟩)
      refine (rlinks_any R r A c ls _ (hR.keep k8) (by omega)).mono ?_
      rintro e w9 ⟨v9, rfl, hown9, hK9⟩
      obtain ⟨A9, c9, rfl, hr9⟩ := hown9.rd (by omega) intE_len
      have hr29 := hr8.keep hK9
      clear hown9 hr8
      have k9 := k8.trans hK9
      have G9 := G8.keep hK9
      clear g0 g1 G8 k8 hK9
      have g0 : w9.cell? ⟨w.heap.size, 0, none⟩ = some (.int .i64 R) := G9.cell 0
      have g1 : w9.cell? ⟨w.heap.size, 1, none⟩ = some (.slice A ls.length c) := G9.cell 1
      go_wp2_with fail
      refine (rints_any A2 A9 c2 c9 (facesE R ls r) (faces ls r) _ hr29 hr9 (by omega)).mono ?_
      rintro e w10 ⟨rfl, hK10⟩
      rw [show decide (facesE R ls r = faces ls r) = true from by simp [Hf.out]]
      have k10 := k9.trans hK10
      have G10 := G9.keep hK10
      clear g0 g1 G9 k9 hK10
      have g0 : w10.cell? ⟨w.heap.size, 0, none⟩ = some (.int .i64 R) := G10.cell 0
      have g1 : w10.cell? ⟨w.heap.size, 1, none⟩ = some (.slice A ls.length c) := G10.cell 1
      go_wp2_with fail
      refine (ron_any R r l A c ls _ (hR.keep k10) hn).mono ?_
      rintro e w11 ⟨rfl, hK11⟩
      have k11 := k10.trans hK11
      have G11 := G10.keep hK11
      clear g0 g1 G10 k10 hK11
      have g0 : w11.cell? ⟨w.heap.size, 0, none⟩ = some (.int .i64 R) := G11.cell 0
      have g1 : w11.cell? ⟨w.heap.size, 1, none⟩ = some (.slice A ls.length c) := G11.cell 1
      by_cases ho : onErr R ls r l = 0
      · obtain ⟨k, hk, rfl, hr, h0, h1, hh⟩ := onErr_zero ho
        have hb := right_link hr hk
        have h20 := right_20 hr
        have hf : faceN R ls r k = (facesTo ls r k).length := by simp [faceN, ho]
        have ht : otherN R ls r k = ls[k].A + ls[k].B - r := by simp [otherN, ho, List.getElem?_eq_getElem hk]
        have ha : addrN R ls r k = netI k + (if ls[k].A = r then 1 else 2) := by simp [addrN, ho, List.getElem?_eq_getElem hk]
        rw [ho, hf, ht]
        have Ha := Lib.hid ha
        clear ho hr hh hf ht ha hne herr
        have q1 : (((facesTo ls r k).length : Int) == ((facesTo ls r k).length : Int)) = true := by simp
        have q2 : (ls[k].A + ls[k].B - r == ls[k].A + ls[k].B - r) = true := by simp
        have q3 : (addrN R ls r k == addrN R ls r k) = true := by simp
        go_wp2_with (go_at_call 15; refine (num_any _ _).mono ?_; rintro e w' ⟨rfl, rfl⟩)
        refine (rface_any R r k A c ls _ (hR.keep k11) hn (by omega)).mono ?_
        rintro e w12 ⟨rfl, hK12⟩
        have k12 := k11.trans hK12
        have G12 := G11.keep hK12
        clear g0 g1 G11 k11 hK12
        have g0 : w12.cell? ⟨w.heap.size, 0, none⟩ = some (.int .i64 R) := G12.cell 0
        have g1 : w12.cell? ⟨w.heap.size, 1, none⟩ = some (.slice A ls.length c) := G12.cell 1
        go_wp2_with fail
        refine (rother_any R r k A c ls _ (hR.keep k12) hk (by omega) (by omega) (by omega)).mono ?_
        rintro e w13 ⟨rfl, hK13⟩
        have k13 := k12.trans hK13
        have G13 := G12.keep hK13
        clear g0 g1 G12 k12 hK13
        have g0 : w13.cell? ⟨w.heap.size, 0, none⟩ = some (.int .i64 R) := G13.cell 0
        have g1 : w13.cell? ⟨w.heap.size, 1, none⟩ = some (.slice A ls.length c) := G13.cell 1
        go_wp2_with fail
        refine (raddr_any R r k A c ls _ (hR.keep k13) (by omega) hk).mono ?_
        rintro e w14 ⟨rfl, hK14⟩
        rw [← Ha.out]
        have k14 := k13.trans hK14
        clear g0 g1
        go_wp2_with fail
        refine (works_any _).mono ?_
        rintro e w15 ⟨rfl, hK15⟩
        go_wp2_with fail
        go_ret
        exact ⟨rfl, k14.trans hK15⟩
      · obtain ⟨hf, ht, ha⟩ := herr.out ho
        rw [hf, ht, ha]
        have q1 : (onErr R ls r l != 0) = true := by simpa using ho
        have q2 : (onErr R ls r l == onErr R ls r l) = true := by simp
        clear ho hf ht ha herr hne g0 g1
        go_wp2_with (go_at_call 15; refine (num_any _ _).mono ?_; rintro e w' ⟨rfl, rfl⟩)
        refine (works_any _).mono ?_
        rintro e w15 ⟨rfl, hK15⟩
        go_wp2_with fail
        go_ret
        exact ⟨rfl, k11.trans hK15⟩
    · have e1 : (routerErr R ls r == 0) = false := by simpa using he
      have e2 : (routerErr R ls r != 0) = true := by simpa using he
      have hlen0 : (facesE R ls r).length = 0 := by simp [facesE, he]
      clear he
      go_wp2_with (go_at_call 15; refine (num_any _ _).mono ?_; rintro e w' ⟨rfl, rfl⟩)
      refine (ron_any R r l A c ls _ (hR.keep k8) hn).mono ?_
      rintro e w11 ⟨rfl, hK11⟩
      have k11 := k8.trans hK11
      have G11 := G8.keep hK11
      clear g0 g1 G8 k8 hK11
      have g0 : w11.cell? ⟨w.heap.size, 0, none⟩ = some (.int .i64 R) := G11.cell 0
      have g1 : w11.cell? ⟨w.heap.size, 1, none⟩ = some (.slice A ls.length c) := G11.cell 1
      by_cases ho : onErr R ls r l = 0
      · obtain ⟨k, hk, rfl, hr, h0, h1, hh⟩ := onErr_zero ho
        have hb := right_link hr hk
        have h20 := right_20 hr
        have hf : faceN R ls r k = (facesTo ls r k).length := by simp [faceN, ho]
        have ht : otherN R ls r k = ls[k].A + ls[k].B - r := by simp [otherN, ho, List.getElem?_eq_getElem hk]
        have ha : addrN R ls r k = netI k + (if ls[k].A = r then 1 else 2) := by simp [addrN, ho, List.getElem?_eq_getElem hk]
        rw [ho, hf, ht]
        have Ha := Lib.hid ha
        clear ho hr hh hf ht ha hne herr
        have q1 : (((facesTo ls r k).length : Int) == ((facesTo ls r k).length : Int)) = true := by simp
        have q2 : (ls[k].A + ls[k].B - r == ls[k].A + ls[k].B - r) = true := by simp
        have q3 : (addrN R ls r k == addrN R ls r k) = true := by simp
        go_wp2_with (go_at_call 15; refine (num_any _ _).mono ?_; rintro e w' ⟨rfl, rfl⟩)
        refine (rface_any R r k A c ls _ (hR.keep k11) hn (by omega)).mono ?_
        rintro e w12 ⟨rfl, hK12⟩
        have k12 := k11.trans hK12
        have G12 := G11.keep hK12
        clear g0 g1 G11 k11 hK12
        have g0 : w12.cell? ⟨w.heap.size, 0, none⟩ = some (.int .i64 R) := G12.cell 0
        have g1 : w12.cell? ⟨w.heap.size, 1, none⟩ = some (.slice A ls.length c) := G12.cell 1
        go_wp2_with fail
        refine (rother_any R r k A c ls _ (hR.keep k12) hk (by omega) (by omega) (by omega)).mono ?_
        rintro e w13 ⟨rfl, hK13⟩
        have k13 := k12.trans hK13
        have G13 := G12.keep hK13
        clear g0 g1 G12 k12 hK13
        have g0 : w13.cell? ⟨w.heap.size, 0, none⟩ = some (.int .i64 R) := G13.cell 0
        have g1 : w13.cell? ⟨w.heap.size, 1, none⟩ = some (.slice A ls.length c) := G13.cell 1
        go_wp2_with fail
        refine (raddr_any R r k A c ls _ (hR.keep k13) (by omega) hk).mono ?_
        rintro e w14 ⟨rfl, hK14⟩
        rw [← Ha.out]
        have k14 := k13.trans hK14
        clear g0 g1
        go_wp2_with fail
        refine (works_any _).mono ?_
        rintro e w15 ⟨rfl, hK15⟩
        go_wp2_with fail
        go_ret
        exact ⟨rfl, k14.trans hK15⟩
      · obtain ⟨hf, ht, ha⟩ := herr.out ho
        rw [hf, ht, ha]
        have q1 : (onErr R ls r l != 0) = true := by simpa using ho
        have q2 : (onErr R ls r l == onErr R ls r l) = true := by simp
        clear ho hf ht ha herr hne g0 g1
        go_wp2_with (go_at_call 15; refine (num_any _ _).mono ?_; rintro e w' ⟨rfl, rfl⟩)
        refine (works_any _).mono ?_
        rintro e w15 ⟨rfl, hK15⟩
        go_wp2_with fail
        go_ret
        exact ⟨rfl, k11.trans hK15⟩


theorem graphFaces_any (R r l : Int) (A : Option Addr) (c : Nat) (ls : List Lk) (w : World) (hR : Rd w 3 Lk.enc A ls) :
    Calls Try.prog 3 #[.agg #[.int .i64 R, .slice A ls.length c], .int .i64 r, .int .i64 l] w fun e w' => e = .returned (.bool true) ∧ Kp w w' := by
  by_cases hn : ls.length ≤ 30
  · exact faces_few R r l A c ls w hR hn
  · exact faces_many R r l A c ls w hn
end Go.Proofs.Ytgnhhhcelfaliaa
