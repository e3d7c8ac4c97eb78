/- Lemmas and contracts for the theorem of this claim: RpD, RqB, WordL, ScrL, CfA. -/
import Derived.Test.YtgopnfacklmkaaaGreatDoorZxAl
import Derived.Lib.OthersKept
import Derived.Lib.Join
import Derived.Lib.Bytealg
import Derived.Lib.ParseIntBTie
import Derived.Lib.ItoaNum
import Derived.Lib.ItoaMem
import Derived.Lib.Atoi
import Derived.Test.YtgopnfacklmkaaaGreatDoorProg
import Derived.LoopTactic
import Derived.Laws.IdiomStrings
set_option linter.all false
set_option maxHeartbeats 16000000
namespace Go.Proofs.YtgopnfacklmkaaaGreatDoor
section
open Go.RowKit
set_option maxRecDepth 100000 in
theorem veM (c : Int) (A : Option Addr) (m : Nat) (es : List En) (w : World) (hc : 0 ≤ c ∧ c < 256) (hR : Rd w 6 En.enc A es) (hw : ∀ e ∈ es, e.wf) (ho : es.all okEn = true) (hn : es.length ≤ 1000) : Calls Tryz.prog 90 #[dgV c A es.length m] w fun r w' => ∃ v, r = .returned v ∧ Own w' w.heap.size 5 1 byN v (bytesD c es) ∧ Kp w w' := by
 obtain ⟨b, hb⟩ : ∃ b, w.heap.size = b := ⟨_, rfl⟩
 obtain ⟨W, hWq, kW, B0⟩ := Blk.al1 hb #[.int .i64 c, .slice A es.length m] 30
 have u := Blk.f B0 rfl
 have hsz : b + 1 ≤ W.heap.size := B0.lt
 obtain ⟨W2, hW2, k2, B2⟩ := Blk.al1 (w := W) rfl #[.int .u8 c, .int .u8 2, .int .u8 0, .int .u8 0] 5
 have HC : Hid (c = ((c.toNat : Nat) : Int) ∧ c.toNat < 256) := Lib.hid (by omega)
 have hcw : IntKind.u8.wrap c = c := by show c % 256 = c; omega
 have HD : Hid (bytesD c es = [c.toNat, 2, 0, 0] ++ es.flatMap bytesE) := Lib.hid rfl
 have R0 : Hid (Own W2 (b + 1) 5 1 byN (.slice (some ⟨W.heap.size, 0, none⟩) 4 4) ([c.toNat, 2, 0, 0] ++ (es.take 0).flatMap bytesE)) := Lib.hid (veH (xs := [c.toNat, 2, 0, 0]) B2 hsz vaj (by simp [maxLen]) (by
  have h := HC.out.1
  simp only [List.flatMap_cons, List.flatMap_nil, byN, List.singleton_append]
  rw [← h]
  rfl))
 have K2 : Kp w W2 := kW.trans k2
 have HB2 := Lib.hid (B0.keep k2)
 have HRw := Lib.hid hR
 have HF := Lib.hid hw
 have HO := Lib.hid ho
 clear hR hw ho hsz B0 B2 kW k2 hc
 go_enter Tryz.func90, Tryz.ntmps90
 go_wp2_with fail
 clear hW2 hWq u
 go_loopw [3, 4] (fun s i wr => ∃ k : Nat, k ≤ es.length ∧ i = .int .i64 k ∧ Hid (Own wr (b + 1) 5 1 byN s ([c.toNat, 2, 0, 0] ++ (es.take k).flatMap bytesE)) ∧ Hid (Blk wr b 30 #[.int .i64 c, .slice A es.length m]) ∧ Kp w wr) (fun _ i _ => es.length - (intOf i).toNat)
 case atStart => exact ⟨0, Nat.zero_le _, rfl, R0, HB2, K2⟩
 case round =>
  obtain ⟨k, hk, rfl, HOw, HBk, hK⟩ := hrel
  have u := Blk.f HBk.out rfl
  by_cases hlt : k < es.length
  ·have hki : (k : Int) < (es.length : Int) := by omega
   have hk0 : (0 : Int) ≤ (k : Int) := by omega
   obtain ⟨b9, off, hA, x0, x1, x2, x3, x4, x5⟩ := en_at (HRw.out.keep hK) hlt
   subst hA
   obtain ⟨e, he⟩ : ∃ e, es[k] = e := ⟨_, rfl⟩
   rw [he] at x0 x1 x2 x3 x4 x5
   have HE2 := Lib.hid (show e.wf by rw [← he]; exact HF.out _ (List.getElem_mem hlt))
   have HO2 : Hid (okEn e = true) := Lib.hid (by rw [← he]; exact List.all_eq_true.1 HO.out _ (List.getElem_mem hlt))
   have HT := Lib.hid (vdb hlt)
   rw [he] at HT
   have hl9 : ([c.toNat, 2, 0, 0] ++ (es.take k).flatMap bytesE).length ≤ 100000 := by
    rw [List.length_append, vby, List.length_take]
    simp only [List.length_cons, List.length_nil]
    omega
   have hfit : (([c.toNat, 2, 0, 0] ++ (es.take k).flatMap bytesE).length + (bytesE e).length) * (1 + 1) ≤ 140737488355328 := by rw [vaK]; omega
   clear he
   go_wp2_with fail
   refine (veL e _ HE2.out HO2.out).mono ?_
   rintro r w4 ⟨v4, rfl, hO4, K4⟩
   obtain ⟨A4, c4, e4⟩ := hO4.form
   subst e4
   have hr4 := Own.rdAt (by decide) vaj hO4
   have HO4 := Lib.hid (HOw.out.keep K4)
   have hK4 := hK.trans K4
   have hsz : b + 1 ≤ w4.heap.size := Nat.le_trans HBk.out.lt K4.size
   have HB4 := Lib.hid (HBk.out.keep K4)
   clear hO4 K4 u
   go_wp2_with (at_builtin; go_loud (refine vao EByt vaj vaT rfl _ _ rfl rfl rfl HO4.out hr4 hfit hsz ?_; intro v' w5 hown hg hat; have HN : Hid (Own w5 (b + 1) 5 1 byN v' ([c.toNat, 2, 0, 0] ++ (es.take (k + 1)).flatMap bytesE)) := Lib.hid (by rw [HT.out, ← List.append_assoc]; exact hown); have hK5 : Kp w w5 := hK4.grown hg (fun q hq => by have := (World.ownsRow.lt HO4.out q hq).1; omega); have HB5 := Lib.hid (HB4.out.grown hg (HO4.out.ne (by omega))); clear hown hg hat))
   go_roundw
   case rel => exact ⟨k + 1, by omega, by go_num, HN, HB5, hK5⟩
   case measure => simp [intOf]; omega
  ·obtain rfl : k = es.length := by omega
   have h1 := HOw.out
   rw [List.take_length, ← HD.out] at h1
   go_wp2_with fail
   go_ret
   exact ⟨_, rfl, h1.mono (by omega), hK⟩
set_option maxRecDepth 100000 in
theorem vaI (m : Nat) (w : World) : Calls Tryz.prog 111 #[.int .u32 (m : Int)] w fun e w' => e = .returned (lenV m) ∧ w = w' := by
 go_enter Tryz.func111, Tryz.ntmps111
 go_wp2_with fail
 go_loopw [4] (fun i wr => ∃ k : Nat, k ≤ 33 ∧ i = .int .i64 k ∧ Hid (∀ j, j < k → maskN j ≠ m) ∧ w = wr) (fun i _ => 33 - (intOf i).toNat)
 case atStart => exact ⟨0, by omega, rfl, fun j h => absurd h (by omega), rfl⟩
 case round =>
  obtain ⟨k, hk, rfl, hall, rfl⟩ := hrel
  by_cases hlt : k ≤ 32
  ·have hk1 : (k : Int) ≤ 32 := by omega
   cases hb : ((maskN k : Int) == (m : Int)) with
   | true =>
    have hm : maskN k = m := by have := beq_iff_eq.1 hb; omega
    have H : Hid (lenV m = .tuple #[.int .i64 (k : Int), .int .i64 0]) := Lib.hid (by
     unfold lenV
     rw [← hm, vfd hlt, vaE hlt]
     rfl)
    clear hm hall
    go_wp2_with (first | (go_at_call 69; refine (vcG k _ hlt).mono ?_; rintro e w1 ⟨rfl, rfl⟩))
    exact bodyPost_ret (v := .tuple #[.int .i64 (k : Int), .int .i64 0]) (by simp [results, Tryz.results111, go_sem]) rfl ⟨by rw [H.out], rfl⟩
   | false =>
    have hm : maskN k ≠ m := fun e => by rw [e] at hb; simp at hb
    have H : Hid (∀ j, j < k + 1 → maskN j ≠ m) := Lib.hid (fun j hj => by
     by_cases h : j = k
     ·subst h; exact hm
     ·exact hall.out j (by omega))
    clear hm hall
    go_wp2_with (first | (go_at_call 69; refine (vcG k _ hlt).mono ?_; rintro e w1 ⟨rfl, rfl⟩))
    go_roundw
    case rel => exact ⟨k + 1, by omega, by go_num, H, by trivial⟩
    case measure => simp [intOf] <;> omega
  ·obtain rfl : k = 33 := by omega
   have H : Hid (lenV m = .tuple #[.int .i64 0, .int .i64 120]) := Lib.hid (by
    unfold lenV
    have : isM m = false := by
     cases h : isM m
     ·rfl
     ·exact absurd (beq_iff_eq.1 h) (hall.out (lenM m) (by have := veD m; omega))
    rw [this]
    rfl)
   clear hall
   go_wp2_with fail
   exact bodyPost_ret (v := .tuple #[.int .i64 0, .int .i64 120]) (by simp [results, Tryz.results111, go_sem]) rfl ⟨by rw [H.out], rfl⟩
set_option maxRecDepth 100000 in
theorem viQ (e : En) (w : World) (he : e.wf) : Calls Tryz.prog 110 #[enV e] w fun r w' => r = .returned (.int .i64 (whyE e)) ∧ Kp w w' := by
 obtain ⟨b, hb⟩ : ∃ b, w.heap.size = b := ⟨_, rfl⟩
 obtain ⟨W, hW, kW, B0⟩ := Blk.al1 hb (enC e) 66
 unfold enC at hW
 have u := Blk.f B0 rfl
 have HB0 := Lib.hid B0
 have HkW := Lib.hid kW
 clear B0 kW
 have hno : rulB e 1 = false → ∃ n ≤ 32, maskN n = e.m := fun h => ⟨lenM e.m, veD _, by
  have h2 : isM e.m = true := by simpa [rulB] using h
  exact beq_iff_eq.1 h2⟩
 have HRG : Hid (∀ n ≤ 32, maskN n = e.m → ∀ V, Calls Tryz.prog 87 #[.agg #[.int .u32 (e.a : Int), .int .i64 (n : Int)]] V fun r w' => r = .returned (.bool (!rulB e 2)) ∧ Kp V w') := Lib.hid (fun n hn hm V => by
  have := vfR ⟨e.a, n⟩ V he.1
  have e2 : PI.okB ⟨e.a, (n : Int)⟩ = !rulB e 2 := by
   unfold PI.okB
   show decide (0 ≤ (n : Int) ∧ (n : Int) ≤ 32 ∧ cut e.a (n : Int).toNat = e.a) = !(bits .andNot .u32 (e.a : Int) (e.m : Int) != 0)
   rw [← hm, vaX he.1 hn, Bool.not_not, Int.toNat_natCast]
   exact decide_eq_decide.2 ⟨fun h => h.2.2, fun h => ⟨by omega, by omega, h⟩⟩
  rw [e2] at this
  exact this)
 have HKD : Hid (∀ n ≤ 32, maskN n = e.m → ∀ V, Calls Tryz.prog 164 #[.int .u32 (e.a : Int), .int .u32 (e.m : Int)] V fun r w' => r = .returned (.bool (rulB e 3)) ∧ Kp V w') := Lib.hid (fun n hn hm V => by
  have := viP e.a n V he.1 hn
  rw [← vea e.a hn, hm] at this
  exact this)
 have hc : (∃ k, k < 6 ∧ (∀ j, j < k → rulB e j = false) ∧ rulB e k = true) ∨ (∀ j, j < 6 → rulB e j = false) := by
  cases h0 : rulB e 0
  ·cases h1 : rulB e 1
   ·cases h2 : rulB e 2
    ·cases h3 : rulB e 3
     ·cases h4 : rulB e 4
      ·cases h5 : rulB e 5
       ·right
        intro j hj
        have : j = 0 ∨ j = 1 ∨ j = 2 ∨ j = 3 ∨ j = 4 ∨ j = 5 := by omega
        rcases this with rfl | rfl | rfl | rfl | rfl | rfl <;> assumption
       ·exact .inl ⟨5, by omega, fun j hj => by
         have : j = 0 ∨ j = 1 ∨ j = 2 ∨ j = 3 ∨ j = 4 := by omega
         rcases this with rfl | rfl | rfl | rfl | rfl <;> assumption, h5⟩
      ·exact .inl ⟨4, by omega, fun j hj => by
        have : j = 0 ∨ j = 1 ∨ j = 2 ∨ j = 3 := by omega
        rcases this with rfl | rfl | rfl | rfl <;> assumption, h4⟩
     ·exact .inl ⟨3, by omega, fun j hj => by
       have : j = 0 ∨ j = 1 ∨ j = 2 := by omega
       rcases this with rfl | rfl | rfl <;> assumption, h3⟩
    ·exact .inl ⟨2, by omega, fun j hj => by
      have : j = 0 ∨ j = 1 := by omega
      rcases this with rfl | rfl <;> assumption, h2⟩
   ·exact .inl ⟨1, by omega, fun j hj => by
     obtain rfl : j = 0 := by omega
     assumption, h1⟩
  ·exact .inl ⟨0, by omega, fun j hj => absurd hj (by omega), h0⟩
 clear he
 rcases hc with ⟨k, hk, hlo, hhi⟩ | hall
 ·have H := Lib.hid (vgL hk hlo hhi)
  have hk6 : k = 0 ∨ k = 1 ∨ k = 2 ∨ k = 3 ∨ k = 4 ∨ k = 5 := by omega
  clear hk
  rcases hk6 with rfl | rfl | rfl | rfl | rfl | rfl
  ·have r0 : (e.f != 2) = true := hhi
   obtain ⟨x, y, hl⟩ : ∃ x y, lenV e.m = .tuple #[.int .i64 x, .int .i64 y] := ⟨_, _, rfl⟩
   clear hlo hhi hno
   have HL := Lib.hid hl
   clear hl
   go_enter Tryz.func110, Tryz.ntmps110
   go_wp2_with (first | (go_at_call 111; refine (vaI e.m _).mono ?_; rintro r w1 ⟨rfl, rfl⟩; rw [HL.out]))
   go_ret
   exact ⟨by rw [H.out]; rfl, HkW.out⟩
  ·have r0 : (e.f != 2) = false := hlo 0 (by omega)
   have hl : lenV e.m = .tuple #[.int .i64 0, .int .i64 120] := by unfold lenV; rw [show isM e.m = false from by simpa [rulB] using hhi]; rfl
   clear hlo hhi hno
   have HL := Lib.hid hl
   clear hl
   go_enter Tryz.func110, Tryz.ntmps110
   go_wp2_with (first | (go_at_call 111; refine (vaI e.m _).mono ?_; rintro r w1 ⟨rfl, rfl⟩; rw [HL.out]))
   go_ret
   exact ⟨by rw [H.out]; rfl, HkW.out⟩
  ·have r0 : (e.f != 2) = false := hlo 0 (by omega)
   have him : isM e.m = true := by simpa [rulB] using hlo 1 (by omega)
   obtain ⟨n, hn, hmn⟩ := hno (hlo 1 (by omega))
   have hl : lenV e.m = .tuple #[.int .i64 (n : Int), .int .i64 0] := by unfold lenV; rw [him, ← hmn, vaE hn]; rfl
   have HR := fun V => HRG.out n hn hmn V
   have r2 : rulB e 2 = true := hhi
   rw [r2] at HR
   have HRR := Lib.hid HR
   clear HR r2
   clear hlo hhi hno
   clear him hmn
   have HL := Lib.hid hl
   clear hl
   go_enter Tryz.func110, Tryz.ntmps110
   go_wp2_with (first | (go_at_call 111; refine (vaI e.m _).mono ?_; rintro r w1 ⟨rfl, rfl⟩; rw [HL.out]) | (go_at_call 87; refine (HRR.out _).mono ?_; rintro r w2 ⟨rfl, K2⟩; have HK2 := Lib.hid K2; have u2 := Blk.f (HB0.out.keep K2) rfl; clear u K2 hW))
   go_ret
   exact ⟨by rw [H.out]; rfl, HkW.out.trans HK2.out⟩
  ·have r0 : (e.f != 2) = false := hlo 0 (by omega)
   have him : isM e.m = true := by simpa [rulB] using hlo 1 (by omega)
   obtain ⟨n, hn, hmn⟩ := hno (hlo 1 (by omega))
   have hl : lenV e.m = .tuple #[.int .i64 (n : Int), .int .i64 0] := by unfold lenV; rw [him, ← hmn, vaE hn]; rfl
   have HR := fun V => HRG.out n hn hmn V
   have r2 : rulB e 2 = false := hlo 2 (by omega)
   rw [r2] at HR
   have HRR := Lib.hid HR
   clear HR r2
   have HK := fun V => HKD.out n hn hmn V
   have r3 : rulB e 3 = true := hhi
   rw [r3] at HK
   have HKK := Lib.hid HK
   clear HK r3
   clear hlo hhi hno
   clear him hmn
   have HL := Lib.hid hl
   clear hl
   go_enter Tryz.func110, Tryz.ntmps110
   go_wp2_with (first | (go_at_call 111; refine (vaI e.m _).mono ?_; rintro r w1 ⟨rfl, rfl⟩; rw [HL.out]) | (go_at_call 87; refine (HRR.out _).mono ?_; rintro r w2 ⟨rfl, K2⟩; have HK2 := Lib.hid K2; have u2 := Blk.f (HB0.out.keep K2) rfl; clear u K2 hW) | (go_at_call 164; refine (HKK.out _).mono ?_; rintro r w3 ⟨rfl, K3⟩; have HK3 := Lib.hid (HK2.out.trans K3); have u3 := Blk.f (HB0.out.keep HK3.out) rfl; clear u2 K3))
   go_ret
   exact ⟨by rw [H.out]; rfl, HkW.out.trans HK3.out⟩
  ·have r0 : (e.f != 2) = false := hlo 0 (by omega)
   have him : isM e.m = true := by simpa [rulB] using hlo 1 (by omega)
   obtain ⟨n, hn, hmn⟩ := hno (hlo 1 (by omega))
   have hl : lenV e.m = .tuple #[.int .i64 (n : Int), .int .i64 0] := by unfold lenV; rw [him, ← hmn, vaE hn]; rfl
   have HR := fun V => HRG.out n hn hmn V
   have r2 : rulB e 2 = false := hlo 2 (by omega)
   rw [r2] at HR
   have HRR := Lib.hid HR
   clear HR r2
   have HK := fun V => HKD.out n hn hmn V
   have r3 : rulB e 3 = false := hlo 3 (by omega)
   rw [r3] at HK
   have HKK := Lib.hid HK
   clear HK r3
   have r4 : ((e.n : Int) != 0) = true := hhi
   clear hlo hhi hno
   clear him hmn
   have HL := Lib.hid hl
   clear hl
   go_enter Tryz.func110, Tryz.ntmps110
   go_wp2_with (first | (go_at_call 111; refine (vaI e.m _).mono ?_; rintro r w1 ⟨rfl, rfl⟩; rw [HL.out]) | (go_at_call 87; refine (HRR.out _).mono ?_; rintro r w2 ⟨rfl, K2⟩; have HK2 := Lib.hid K2; have u2 := Blk.f (HB0.out.keep K2) rfl; clear u K2 hW) | (go_at_call 164; refine (HKK.out _).mono ?_; rintro r w3 ⟨rfl, K3⟩; have HK3 := Lib.hid (HK2.out.trans K3); have u3 := Blk.f (HB0.out.keep HK3.out) rfl; clear u2 K3))
   go_ret
   exact ⟨by rw [H.out]; rfl, HkW.out.trans HK3.out⟩
  ·have r0 : (e.f != 2) = false := hlo 0 (by omega)
   have him : isM e.m = true := by simpa [rulB] using hlo 1 (by omega)
   obtain ⟨n, hn, hmn⟩ := hno (hlo 1 (by omega))
   have hl : lenV e.m = .tuple #[.int .i64 (n : Int), .int .i64 0] := by unfold lenV; rw [him, ← hmn, vaE hn]; rfl
   have HR := fun V => HRG.out n hn hmn V
   have r2 : rulB e 2 = false := hlo 2 (by omega)
   rw [r2] at HR
   have HRR := Lib.hid HR
   clear HR r2
   have HK := fun V => HKD.out n hn hmn V
   have r3 : rulB e 3 = false := hlo 3 (by omega)
   rw [r3] at HK
   have HKK := Lib.hid HK
   clear HK r3
   have r4 : ((e.n : Int) != 0) = false := hlo 4 (by omega)
   have r5 : (decide ((e.k : Int) < 1) || decide ((16 : Int) < (e.k : Int))) = true := hhi
   clear hlo hhi hno
   clear him hmn
   have HL := Lib.hid hl
   clear hl
   cases r6 : decide ((e.k : Int) < 1)
   all_goals
    rw [r6] at r5
    try (have r7 : decide ((16 : Int) < (e.k : Int)) = true := by simpa using r5)
    clear r5
    go_enter Tryz.func110, Tryz.ntmps110
    go_wp2_with (first | (go_at_call 111; refine (vaI e.m _).mono ?_; rintro r w1 ⟨rfl, rfl⟩; rw [HL.out]) | (go_at_call 87; refine (HRR.out _).mono ?_; rintro r w2 ⟨rfl, K2⟩; have HK2 := Lib.hid K2; have u2 := Blk.f (HB0.out.keep K2) rfl; clear u K2 hW) | (go_at_call 164; refine (HKK.out _).mono ?_; rintro r w3 ⟨rfl, K3⟩; have HK3 := Lib.hid (HK2.out.trans K3); have u3 := Blk.f (HB0.out.keep HK3.out) rfl; clear u2 K3))
    go_ret
    exact ⟨by rw [H.out]; rfl, HkW.out.trans HK3.out⟩
 ·have H := Lib.hid (vgM hall)
  have r0 : (e.f != 2) = false := hall 0 (by omega)
  have him : isM e.m = true := by simpa [rulB] using hall 1 (by omega)
  obtain ⟨n, hn, hmn⟩ := hno (hall 1 (by omega))
  have hl : lenV e.m = .tuple #[.int .i64 (n : Int), .int .i64 0] := by unfold lenV; rw [him, ← hmn, vaE hn]; rfl
  have HR := fun V => HRG.out n hn hmn V
  have r2 : rulB e 2 = false := hall 2 (by omega)
  rw [r2] at HR
  have HRR := Lib.hid HR
  clear HR r2
  have HK := fun V => HKD.out n hn hmn V
  have r3 : rulB e 3 = false := hall 3 (by omega)
  rw [r3] at HK
  have HKK := Lib.hid HK
  clear HK r3
  have r4 : ((e.n : Int) != 0) = false := hall 4 (by omega)
  have r5 : (decide ((e.k : Int) < 1) || decide ((16 : Int) < (e.k : Int))) = false := hall 5 (by omega)
  have r6 : decide ((e.k : Int) < 1) = false := (Bool.or_eq_false_iff.1 r5).1
  have r7 : decide ((16 : Int) < (e.k : Int)) = false := (Bool.or_eq_false_iff.1 r5).2
  clear r5
  clear hall hno
  clear him hmn
  have HL := Lib.hid hl
  clear hl
  go_enter Tryz.func110, Tryz.ntmps110
  go_wp2_with (first | (go_at_call 111; refine (vaI e.m _).mono ?_; rintro r w1 ⟨rfl, rfl⟩; rw [HL.out]) | (go_at_call 87; refine (HRR.out _).mono ?_; rintro r w2 ⟨rfl, K2⟩; have HK2 := Lib.hid K2; have u2 := Blk.f (HB0.out.keep K2) rfl; clear u K2 hW) | (go_at_call 164; refine (HKK.out _).mono ?_; rintro r w3 ⟨rfl, K3⟩; have HK3 := Lib.hid (HK2.out.trans K3); have u3 := Blk.f (HB0.out.keep HK3.out) rfl; clear u2 K3))
  go_ret
  exact ⟨by rw [H.out]; rfl, HkW.out.trans HK3.out⟩
set_option maxRecDepth 100000 in
theorem ved (e : En) (w : World) (he : e.wf) : Calls Tryz.prog 44 #[enV e] w fun r w' => r = .returned (.tuple #[.agg #[.int .u32 ((epP e).a : Int), .int .i64 (epP e).l], .int .i64 (epN e)]) ∧ Kp w w' := by
 obtain ⟨b, hb⟩ : ∃ b, w.heap.size = b := ⟨_, rfl⟩
 obtain ⟨W, hW, kW, B0, B1⟩ := Blk.al2 hb (enC e) 66 #[.int .u32 0, .int .i64 0] 39
 unfold enC at hW
 have u := Blk.f B0 rfl
 have HWY := Lib.hid (viQ e W he)
 have HB0 := Lib.hid B0
 have HB1 := Lib.hid B1
 have HkW := Lib.hid kW
 have hbs : w.heap.size ≤ b + 1 := by omega
 clear B0 B1 kW he
 obtain ⟨y, hy⟩ : ∃ y, whyE e = y := ⟨_, rfl⟩
 rw [hy] at HWY
 by_cases h0 : y = 0
 ·subst h0
  have HP : Hid (epP e = ⟨e.a, lenM e.m⟩ ∧ epN e = 0) := Lib.hid ⟨by unfold epP; rw [if_pos hy], by unfold epN; rw [if_pos hy]⟩
  have HL : Hid (lenV e.m = .tuple #[.int .i64 (lenM e.m : Int), .int .i64 0]) := Lib.hid (by unfold lenV; rw [vec hy]; rfl)
  clear hy
  go_enter Tryz.func44, Tryz.ntmps44
  go_wp2_with (first | (go_at_call 110; refine HWY.out.mono ?_; rintro r w1 ⟨rfl, K1⟩; have HK1 := Lib.hid K1; have u1 := Blk.f (HB0.out.keep K1) rfl; have d1 := Blk.f (HB1.out.keep K1) rfl; have z1 := Blk.frozen (HB1.out.keep K1); clear u K1 hW) | (go_at_call 111; refine (vaI e.m _).mono ?_; rintro r w2 ⟨rfl, rfl⟩; rw [HL.out]))
  have B9 := ((HB1.out.keep HK1.out).set_ 0 (.int .u32 (e.a : Int))).set_ 1 (.int .i64 (lenM e.m : Int))
  have v := Blk.f (l := [.int .u32 (e.a : Int), .int .i64 (lenM e.m : Int)]) B9 rfl
  exact bodyPost_ret (v := .tuple #[.agg #[.int .u32 (e.a : Int), .int .i64 (lenM e.m : Int)], .int .i64 0]) (by simp [results, Tryz.results44, go_sem, v]) rfl ⟨by rw [HP.out.1, HP.out.2], ((HkW.out.trans HK1.out).setCell (p := ⟨b + 1, 0, none⟩) hbs _).setCell (p := ⟨b + 1, 1, none⟩) hbs _⟩
 ·have HP : Hid (epP e = ⟨0, 0⟩ ∧ epN e = 140) := Lib.hid ⟨by unfold epP; rw [if_neg (by rw [hy]; exact h0)], by unfold epN; rw [if_neg (by rw [hy]; exact h0)]⟩
  have hne : (y != 0) = true := by simpa using h0
  clear hy h0
  go_enter Tryz.func44, Tryz.ntmps44
  go_wp2_with (first | (go_at_call 110; refine HWY.out.mono ?_; rintro r w1 ⟨rfl, K1⟩; have HK1 := Lib.hid K1; have d1 := Blk.f (HB1.out.keep K1) rfl; have z1 := Blk.frozen (HB1.out.keep K1); clear u K1 hW))
  have B9 := ((HB1.out.keep HK1.out).set_ 0 (.int .u32 0)).set_ 1 (.int .i64 0)
  have v := Blk.f (l := [.int .u32 0, .int .i64 0]) B9 rfl
  exact bodyPost_ret (v := .tuple #[.agg #[.int .u32 0, .int .i64 0], .int .i64 140]) (by simp [results, Tryz.results44, go_sem, v]) rfl ⟨by rw [HP.out.1, HP.out.2]; rfl, ((HkW.out.trans HK1.out).setCell (p := ⟨b + 1, 0, none⟩) hbs _).setCell (p := ⟨b + 1, 1, none⟩) hbs _⟩
set_option maxRecDepth 100000 in
theorem veN (e : En) (w : World) : Calls Tryz.prog 108 #[enV e] w fun r w' => r = .returned (.bool (okEn e)) ∧ Kp w w' := by
 obtain ⟨b, hb⟩ : ∃ b, w.heap.size = b := ⟨_, rfl⟩
 obtain ⟨W, hW, kW, B0⟩ := Blk.al1 hb (enC e) 66
 unfold enC at hW
 have u := Blk.f B0 rfl
 have HK := Lib.hid kW
 have H : Hid (okEn e = (decide (0 ≤ e.f) && (decide (e.f ≤ 65535) && (decide (0 ≤ e.t) && decide (e.t ≤ 65535))))) := Lib.hid rfl
 clear B0 kW
 cases h0 : decide (0 ≤ e.f) <;> cases h1 : decide (e.f ≤ 65535) <;> cases h2 : decide (0 ≤ e.t)
 all_goals
  rw [h0, h1, h2] at H
  go_enter Tryz.func108, Tryz.ntmps108
  go_wp2_with fail
  go_ret
  exact ⟨by rw [H.out]; rfl, HK.out⟩
set_option maxRecDepth 100000 in
theorem vhe (w : World) : Calls Tryz.prog 109 #[] w fun r w' => r = .returned (enV allE) ∧ Kp w w' := by
 obtain ⟨b, hb⟩ : ∃ b, w.heap.size = b := ⟨_, rfl⟩
 obtain ⟨W, hW, kW, B0⟩ := Blk.al1 hb #[.int .i64 0, .int .i64 0, .int .u32 0, .int .u32 0, .int .u32 0, .int .u32 0] 66
 have u := Blk.f B0 rfl
 have z := Blk.frozen B0
 have B9 := (((((B0.set_ 0 (.int .i64 0)).set_ 1 (.int .i64 0)).set_ 2 (.int .u32 0)).set_ 3 (.int .u32 0)).set_ 4 (.int .u32 0)).set_ 5 (.int .u32 16)
 have HB9 := Lib.hid B9
 have hbs : w.heap.size ≤ b := by omega
 have HK := Lib.hid ((((((kW.setCell (p := ⟨b, 0, none⟩) hbs (.int .i64 0)).setCell (p := ⟨b, 1, none⟩) hbs (.int .i64 0)).setCell (p := ⟨b, 2, none⟩) hbs (.int .u32 0)).setCell (p := ⟨b, 3, none⟩) hbs (.int .u32 0)).setCell (p := ⟨b, 4, none⟩) hbs (.int .u32 0)).setCell (p := ⟨b, 5, none⟩) hbs (.int .u32 16))
 clear B9 kW B0
 go_enter Tryz.func109, Tryz.ntmps109
 go_wp2_with fail
 have v := Blk.f (l := [.int .i64 0, .int .i64 0, .int .u32 0, .int .u32 0, .int .u32 0, .int .u32 16]) HB9.out rfl
 exact bodyPost_ret (v := enV allE) (by simp [results, Tryz.results109, go_sem, v, allE]) rfl ⟨rfl, HK.out⟩
set_option maxRecDepth 100000 in
theorem vee (c : Int) (w : World) : Calls Tryz.prog 107 #[.int .i64 c] w fun r w' => r = .returned (.bool (okC c)) ∧ w = w' := by
 by_cases h1 : c = 1
 ·subst h1
  go_enter Tryz.func107, Tryz.ntmps107
  go_wp2_with fail
  go_ret
  exact ⟨rfl, rfl⟩
 ·by_cases h2 : c = 2
  ·subst h2
   go_enter Tryz.func107, Tryz.ntmps107
   go_wp2_with fail
   go_ret
   exact ⟨rfl, rfl⟩
  ·have d1 : (c == 1) = false := by simpa using h1
   have d2 : (c == 2) = false := by simpa using h2
   have H : Hid (okC c = false) := Lib.hid (by unfold okC; simp [h1, h2])
   clear h1 h2
   go_enter Tryz.func107, Tryz.ntmps107
   go_wp2_with fail
   go_ret
   exact ⟨by rw [H.out]; rfl, rfl⟩
end

section
open Go.Lib
def parted (b : UInt8) : List UInt8 → List (List UInt8)
 | [] => [[]]
 | c :: l => if c = b then [] :: parted b l else (c :: (parted b l).headD []) :: (parted b l).tail
theorem vdh {b : UInt8} : ∀ {u : List UInt8}, (∀ c ∈ u, c ≠ b) → parted b u = [u]
 | [], _ => rfl
 | c :: u, h => by
  rw [parted, if_neg (h c (by simp)), vdh (fun d hd => h d (by simp [hd]))]
  rfl
theorem vef {b : UInt8} {v : List UInt8} : ∀ {u : List UInt8}, (∀ c ∈ u, c ≠ b) → parted b (u ++ b :: v) = u :: parted b v
 | [], _ => by simp [parted]
 | c :: u, h => by
  rw [List.cons_append, parted, if_neg (h c (by simp)), vef (fun d hd => h d (by simp [hd]))]
  rfl
def byteAt (s : ByteArray) (i : Nat) : Nat := (s.data.toList.getD i 0).toNat
theorem vfi (s : ByteArray) (i : Nat) (h : i < s.size) : s.get! i = s.data.toList.getD i 0 := by
 have h' : i < s.data.size := h
 show s.data[i]! = _
 rw [List.getD_eq_getElem?_getD, Array.getElem?_toList, getElem!_def]
 rw [Array.getElem?_eq_getElem h']
 rfl
theorem vjV (s : ByteArray) (i : Nat) (h : i < s.size) : s[i]'h = s.data.toList.getD i 0 := by
 have h' : i < s.data.size := h
 show s.data[i] = _
 rw [List.getD_eq_getElem?_getD, Array.getElem?_toList, Array.getElem?_eq_getElem h']
 rfl
theorem viR (s : ByteArray) (i : Nat) (hi : i < s.size) (h : 128 ≤ byteAt s i) :
  128 ≤ (Utf8.decode s i).1 ∧ 1 ≤ (Utf8.decode s i).2 ∧ i + (Utf8.decode s i).2 ≤ s.size ∧ ∀ k, k < (Utf8.decode s i).2 → 128 ≤ byteAt s (i + k) := by
 have h0 : (s.get! (i + 0)).toNat = byteAt s i := by rw [Nat.add_zero, vfi s i hi]; rfl
 have one : 128 ≤ Utf8.runeError ∧ 1 ≤ 1 ∧ i + 1 ≤ s.size ∧ ∀ k, k < 1 → 128 ≤ byteAt s (i + k) :=
  ⟨by decide, Nat.le_refl _, hi, fun k hk => by obtain rfl : k = 0 := (by omega); exact h⟩
 have cont : ∀ k, (decide (i + k < s.size) && (s.get! (i + k)).toNat / 64 == 2) = true → i + k < s.size ∧ 128 ≤ byteAt s (i + k) := by
  intro k hk
  simp only [Bool.and_eq_true, decide_eq_true_eq, beq_iff_eq] at hk
  refine ⟨hk.1, ?_⟩
  have := hk.2
  rw [vfi s _ hk.1] at this
  unfold byteAt
  omega
 unfold Utf8.decode
 simp only [h0]
 rw [if_neg (by omega)]
 split
 ·rename_i hc
  rw [Bool.and_eq_true] at hc
  obtain ⟨c1, c1'⟩ := cont 1 hc.2
  split
  ·rename_i hg
   exact ⟨hg, by omega, by omega, fun k hk => by
    have : k = 0 ∨ k = 1 := by omega
    rcases this with rfl | rfl
    ·exact h
    ·exact c1'⟩
  ·exact one
 ·split
  ·rename_i hc
   rw [Bool.and_eq_true, Bool.and_eq_true] at hc
   obtain ⟨c1, c1'⟩ := cont 1 hc.1.2
   obtain ⟨c2, c2'⟩ := cont 2 hc.2
   split
   ·rename_i hg
    simp only [ge_iff_le, Bool.and_eq_true, decide_eq_true_eq] at hg
    exact ⟨by omega, by omega, by omega, fun k hk => by
     have : k = 0 ∨ k = 1 ∨ k = 2 := by omega
     rcases this with rfl | rfl | rfl
     ·exact h
     ·exact c1'
     ·exact c2'⟩
   ·exact one
  ·split
   ·rename_i hc
    rw [Bool.and_eq_true, Bool.and_eq_true, Bool.and_eq_true] at hc
    obtain ⟨c1, c1'⟩ := cont 1 hc.1.1.2
    obtain ⟨c2, c2'⟩ := cont 2 hc.1.2
    obtain ⟨c3, c3'⟩ := cont 3 hc.2
    split
    ·rename_i hg
     simp only [ge_iff_le, Bool.and_eq_true, decide_eq_true_eq] at hg
     exact ⟨by omega, by omega, by omega, fun k hk => by
      have : k = 0 ∨ k = 1 ∨ k = 2 ∨ k = 3 := by omega
      rcases this with rfl | rfl | rfl | rfl
      ·exact h
      ·exact c1'
      ·exact c2'
      ·exact c3'⟩
    ·exact one
   ·exact one
theorem vhf (s : ByteArray) (i : Nat) (hi : i < s.size) (h : byteAt s i < 128) : Utf8.decode s i = (byteAt s i, 1) := by
 rw [decode_ascii s i hi (by rw [vjV s i hi]; exact h), vjV s i hi]
 rfl
theorem viS (s : ByteArray) (i : Nat) (hi : i < s.size) :
  1 ≤ (Utf8.decode s i).2 ∧ i + (Utf8.decode s i).2 ≤ s.size ∧ ((byteAt s i < 128 ∧ Utf8.decode s i = (byteAt s i, 1)) ∨ (128 ≤ (Utf8.decode s i).1 ∧ ∀ k, k < (Utf8.decode s i).2 → 128 ≤ byteAt s (i + k))) := by
 rcases Nat.lt_or_ge (byteAt s i) 128 with h | h
 ·have e := vhf s i hi h
  exact ⟨by rw [e]; exact Nat.le_refl 1, by rw [e]; exact hi, .inl ⟨h, e⟩⟩
 ·obtain ⟨a, b, c, d⟩ := viR s i hi h
  exact ⟨b, c, .inr ⟨a, d⟩⟩
/-! ### bytes as two digits each -/
/-! ### events -/
inductive Pt where | a | b | c | d | s | x
deriving DecidableEq
end

section
open Go.RowKit
abbrev strB (l : List UInt8) : ByteArray := ⟨l.toArray⟩
theorem vhg {s : ByteArray} {i : Nat} (h : i < s.size) : ∃ c : UInt8, c.toNat = byteAt s i ∧ s.data.toList.drop i = c :: s.data.toList.drop (i + 1) := by
 have h' : i < s.data.toList.length := by rw [Array.length_toList]; exact h
 refine ⟨s.data.toList[i], ?_, List.drop_eq_getElem_cons h'⟩
 unfold byteAt
 rw [List.getD_eq_getElem?_getD, List.getElem?_eq_getElem h', Option.getD_some]
def bare (w : World) : World := { w with heap := #[] }
theorem vhh (w : World) : Kp (bare w) w := ⟨rfl, rfl, rfl, Nat.zero_le _, fun k hk => absurd hk (Nat.not_lt_zero k)⟩
def strE (l : List UInt8) : List Value := [.string (strB l)]
theorem viT (l : List UInt8) : (strE l).length = 1 := rfl
theorem EStr : ElemOf Tryz.prog 94 9 (.string ⟨#[]⟩) 1 16 := ⟨Tryz.underlying94, by kernel_rfl, rfl, by decide⟩
theorem vdi (s : ByteArray) (a b : Nat) : s.extract a b = strB ((s.data.toList.drop a).take (b - a)) := by
 have h := Lib.extract_data s a b
 apply ByteArray.ext
 apply Array.toList_inj.1
 rw [h]
theorem viU {s : ByteArray} {i : Nat} (h : i < s.data.toList.length) : (s.data.toList[i]).toNat = byteAt s i := by
 unfold byteAt
 rw [List.getD_eq_getElem?_getD, List.getElem?_eq_getElem h, Option.getD_some]
theorem vjW {s : ByteArray} {a b : Nat} {x : UInt8} (h : ∀ i, a ≤ i → i < b → byteAt s i ≠ x.toNat) : ∀ c ∈ (s.data.toList.drop a).take (b - a), c ≠ x := by
 intro c hc e
 subst e
 obtain ⟨i, hi, he⟩ := List.getElem_of_mem hc
 rw [List.length_take, List.length_drop] at hi
 have hl : a + i < s.data.toList.length := by omega
 have e2 : s.data.toList[a + i] = c := by
  rw [List.getElem_take, List.getElem_drop] at he
  exact he
 exact h (a + i) (by omega) (by omega) (by rw [← viU hl, e2])
theorem vfS {s : ByteArray} {a b : Nat} {x : UInt8} (hab : a ≤ b) (hb : b < s.size) (h : ∀ i, a ≤ i → i < b → byteAt s i ≠ x.toNat) (hx : byteAt s b = x.toNat) :
  parted x (s.data.toList.drop a) = ((s.data.toList.drop a).take (b - a)) :: parted x (s.data.toList.drop (b + 1)) := by
 obtain ⟨c, hc, hd⟩ := vhg hb
 have hcx : c = x := UInt8.toNat.inj (by rw [hc, hx])
 have e : s.data.toList.drop a = (s.data.toList.drop a).take (b - a) ++ x :: s.data.toList.drop (b + 1) := by
  rw [← hcx, ← hd]
  have : s.data.toList.drop b = (s.data.toList.drop a).drop (b - a) := by rw [List.drop_drop]; congr 1; omega
  rw [this, List.take_append_drop]
 have e2 := vef (v := s.data.toList.drop (b + 1)) (vjW h)
 rw [← e] at e2
 exact e2
theorem veO {s : ByteArray} {a : Nat} {x : UInt8} (h : ∀ i, a ≤ i → i < s.size → byteAt s i ≠ x.toNat) : parted x (s.data.toList.drop a) = [s.data.toList.drop a] := by
 refine vdh ?_
 have := vjW h
 rw [List.take_of_length_le (by rw [List.length_drop, Array.length_toList]; exact Nat.le_refl _)] at this
 exact this
theorem vkS (s : ByteArray) (i : Nat) (hi : i < s.size) (x : UInt8) (hx : x.toNat < 128) :
  1 ≤ (Utf8.decode s i).2 ∧ i + (Utf8.decode s i).2 ≤ s.size ∧ ((Utf8.decode s i = (x.toNat, 1) ∧ byteAt s i = x.toNat) ∨ ((Utf8.decode s i).1 ≠ x.toNat ∧ ∀ k, k < (Utf8.decode s i).2 → byteAt s (i + k) ≠ x.toNat)) := by
 obtain ⟨a, b, h | h⟩ := viS s i hi
 ·refine ⟨a, b, ?_⟩
  by_cases he : byteAt s i = x.toNat
  ·exact .inl ⟨by rw [h.2, he], he⟩
  ·refine .inr ⟨by rw [h.2]; exact he, fun k hk => ?_⟩
   rw [h.2] at hk
   obtain rfl : k = 0 := by simp at hk; exact hk
   exact he
 ·exact ⟨a, b, .inr ⟨by omega, fun k hk => by have := h.2 k hk; omega⟩⟩
theorem Own.iterAt {α : Type} {w : World} {B e sz : Nat} {enc : α → List Value} {v : Value} {xs : List α} (h : Own w B e sz enc v xs) {k : Nat} {s : ByteArray} {pos : Nat} (hk : w.heap[k]? = some (.stringIter s pos)) (p : Nat) : Own (w.iterAt k s p) B e sz enc v xs := by
 refine ⟨h.1, ?_⟩
 rcases h.2 with h2 | ⟨g, cap, cur, hv, hg, hh, r⟩
 ·exact .inl h2
 ·refine .inr ⟨g, cap, cur, hv, hg, (Lib.iterAt_other w k g s p ?_).trans hh, r⟩
  rintro rfl
  rw [hk] at hh
  cases hh
structure WRelC (w : World) (s : ByteArray) (pos a : Nat) (v : Value) (ws : List (List UInt8)) (wr : World) : Prop where
 le : pos ≤ s.size
 fr : a ≤ pos
 it : wr.heap[w.heap.size]? = some (.stringIter s pos)
 own : Own wr (w.heap.size + 1) 9 1 strE v ws
 no : ∀ i, a ≤ i → i < pos → byteAt s i ≠ (32 : UInt8).toNat
 wq : parted 32 s.data.toList = ws ++ parted 32 (s.data.toList.drop a)
 n5 : ws.length ≤ pos
 kp : Kp w wr
set_option maxRecDepth 100000 in
theorem vfT (s : ByteArray) (hs : s.size ≤ 1000000) (w : World) : Calls Tryz.prog 242 #[.string s] w fun e w' => ∃ v, e = .returned v ∧ Own w' w.heap.size 9 1 strE v (parted 32 s.data.toList) ∧ Kp w w' := by
 have HR : Hid (WRelC w s 0 0 (.slice none 0 0) [] (w.iter s 0)) := Lib.hid ⟨by omega, by omega, World.iter_heap w s 0, Own.nil _ _ _ _ _, fun i _ h => absurd h (by omega), by simp, by simp, (Kp.refl w).alloc _⟩
 have hlen : s.data.toList.length = s.size := by rw [Array.length_toList]; rfl
 have Hlen := Lib.hid hlen; clear hlen
 go_enter Tryz.func242, Tryz.ntmps242
 go_wp2_with fail
 go_loopw [3, 4] (fun v f wr => ∃ pos a ws, f = .int .i64 (a : Nat) ∧ Hid (WRelC w s pos a v ws wr)) (fun _ _ wr => s.size - wr.iterPos w.heap.size)
 case atStart => exact ⟨0, 0, [], rfl, HR⟩
 case round =>
  obtain ⟨pos, a, ws, rfl, R⟩ := hrel
  have hk := R.out.it
  have hfr := R.out.fr
  have hle := R.out.le
  have hn5 := R.out.n5
  have hsz := R.out.kp.size
  have hmu : wr.iterPos w.heap.size = pos := by simp [World.iterPos, hk]
  by_cases hp : pos < s.size
  ·have hnext : ∀ ty, (Instr.next (.pointer (some ⟨w.heap.size, 0, none⟩)) true ty).run Tryz.prog wr = _ := fun ty => Lib.run_next_any_at wr w.heap.size s pos ty hk hp
   have hr := Lib.hid (vkS s pos hp 32 (by decide))
   obtain ⟨c, m, hcm⟩ : ∃ c m, Utf8.decode s pos = (c, m) := ⟨_, _, rfl⟩
   rw [hcm] at hnext hr
   simp only at hnext hr
   clear hcm
   have hlt := (Array.getElem?_eq_some_iff.1 hk).1
   have hK1 : Kp w (wr.iterAt w.heap.size s (pos + m)) := Lib.below_iterAt R.out.kp (Nat.le_refl _) s (pos + m)
   have hk1 := Lib.iterAt_heap wr w.heap.size s pos (pos + m) hk
   have hO1 : Own (wr.iterAt w.heap.size s (pos + m)) (w.heap.size + 1) 9 1 strE u3 ws := R.out.own.iterAt hk _
   have R' := R
   generalize wr.iterAt w.heap.size s (pos + m) = W1 at hnext hK1 hk1 hO1
   clear hk
   have hk1s : W1.heap[w.heap.size]? = some (.stringIter s (pos + m)) := hk1
   have hsz1 : w.heap.size + 1 ≤ W1.heap.size := (Array.getElem?_eq_some_iff.1 hk1).1
   obtain ⟨hm1, hm2, hcase⟩ := hr.out
   rcases hcase with ⟨hc, hb⟩ | ⟨hc, hb⟩
   ·obtain ⟨rfl, rfl⟩ : c = 32 ∧ m = 1 := by injection hc with h1 h2; exact ⟨h1, h2⟩
    have hseg := Lib.hid (vfS (x := 32) hfr hp R.out.no hb)
    have ha0 : (0 : Int) ≤ (a : Int) := by omega
    have ha1 : (a : Int) ≤ (pos : Int) := by omega
    have ha2 : (pos : Int) ≤ (s.size : Int) := by omega
    have Hext := Lib.hid (vdi s a pos)
    have hnews : ([.string (s.extract a pos)] : List Value) = strE ((s.data.toList.drop a).take (pos - a)) := by rw [Hext.out]; rfl
    have Hnews := Lib.hid hnews; clear hnews
    clear hc hb
    have hnel := Own.ne hO1 (g := w.heap.size) (by omega)
    go_wp2_with (at_builtin; go_must (refine vah EStr (w0 := bare W1) rfl _ _ rfl ((s.data.toList.drop a).take (pos - a)) rfl hO1 (vhh _) (Nat.zero_le _) hsz1 rfl rfl Hnews.out rfl rfl (by omega) ?_); intro v2 w2 hown2 hK2 hg2; obtain ⟨A2, c2, rfl⟩ := hown2.form1)
    have hK2w : Kp w w2 := hK1.grown hg2 (fun q hq => by have := (World.ownsRow.lt hO1 q hq).1; omega)
    have Hn : Hid (WRelC w s (pos + 1) (pos + 1) (.slice A2 (ws.length + 1) c2) (ws ++ [(s.data.toList.drop a).take (pos - a)]) w2) := Lib.hid
     ⟨hm2, Nat.le_refl _, (hg2.block _ (by omega) hnel).trans hk1s, hown2, fun i h1 h2 => absurd h1 (by omega), by rw [R.out.wq, hseg.out]; simp, by simp; omega, hK2w⟩
    have hmu2 : w2.iterPos w.heap.size = pos + 1 := by simp [World.iterPos, Hn.out.it]
    go_wp2_with fail
    go_roundw
    case rel => exact ⟨pos + 1, pos + 1, _, by go_num, Hn⟩
    case measure => rw [hmu, hmu2]; omega
   ·have Hn : Hid (WRelC w s (pos + m) a u3 ws W1) := Lib.hid
     ⟨hm2, by omega, hk1s, hO1, fun i h1 h2 => by
      rcases Nat.lt_or_ge i pos with h3 | h3
      ·exact R.out.no i h1 h3
      ·have := hb (i - pos) (by omega)
       rwa [show pos + (i - pos) = i by omega] at this, R.out.wq, by omega, hK1⟩
    have hb32 : ((c : Int) == 32) = false := by rw [beq_eq_false_iff_ne]; have h32 : (32 : UInt8).toNat = 32 := rfl; omega
    have hb33 : ¬ (c : Int) = 32 := by have h32 : (32 : UInt8).toNat = 32 := rfl; omega
    have hmu2 : W1.iterPos w.heap.size = pos + m := by simp [World.iterPos, hk1s]
    obtain ⟨A3, c3, rfl⟩ := hO1.form
    clear hc hb
    go_wp2_with fail
    go_roundw
    case rel => exact ⟨pos + m, a, ws, rfl, Hn⟩
    case measure => rw [hmu, hmu2]; omega
  ·have hnext : ∀ ty, (Instr.next (.pointer (some ⟨w.heap.size, 0, none⟩)) true ty).run Tryz.prog wr = _ := fun ty => Lib.run_next_end_at wr w.heap.size s pos ty hk hp
   have hps : pos = s.size := by omega
   have hO := R.out.own
   have hKw := R.out.kp
   have hlast := Lib.hid (veO (x := 32) (s := s) (a := a) (fun i h1 h2 => R.out.no i h1 (by omega)))
   have Hw := Lib.hid (show parted 32 s.data.toList = ws ++ [s.data.toList.drop a] by rw [R.out.wq, hlast.out])
   have hszr : w.heap.size + 1 ≤ wr.heap.size := (Array.getElem?_eq_some_iff.1 hk).1
   have Hext := Lib.hid (vdi s a s.size)
   have hnews : ([.string (s.extract a s.size)] : List Value) = strE (s.data.toList.drop a) := by
    rw [Hext.out, List.take_of_length_le (by rw [List.length_drop, Hlen.out]; exact Nat.le_refl _)]; rfl
   have Hnews := Lib.hid hnews; clear hnews hk
   have ha0 : (0 : Int) ≤ (a : Int) := by omega
   have ha2 : (a : Int) ≤ (s.size : Int) := by omega
   subst hps
   go_wp2_with (at_builtin; go_must (refine vah EStr (w0 := bare wr) rfl _ _ rfl (s.data.toList.drop a) rfl hO (vhh _) (Nat.zero_le _) hszr rfl rfl Hnews.out rfl rfl (by omega) ?_); intro v2 w2 hown2 hK2 hg2; obtain ⟨A2, c2, rfl⟩ := hown2.form1)
   go_ret
   refine ⟨_, rfl, ?_, hKw.grown hg2 (fun q hq => by have := (World.ownsRow.lt hO q hq).1; omega)⟩
   rw [Hw.out]
   exact hown2.mono (by omega)
end

end Go.Proofs.YtgopnfacklmkaaaGreatDoor
