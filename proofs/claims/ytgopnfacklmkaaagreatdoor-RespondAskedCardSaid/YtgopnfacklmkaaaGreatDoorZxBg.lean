/- Lemmas and contracts for the theorem of this claim: RqK. -/
import Derived.Test.YtgopnfacklmkaaaGreatDoorZxBe
set_option linter.all false
set_option maxHeartbeats 16000000
namespace Go.Proofs.YtgopnfacklmkaaaGreatDoor
section
open Go.RowKit Go.Maps
set_option maxRecDepth 100000 in
theorem vjK (c : Int) (A : Option Addr) (m : Nat) (es : List En) (w : World) (hR : Rd w 6 En.enc A es) (hn : es.length ≤ 1000000) (hc : (c == 1) = false) : Calls Tryz.prog 43 #[dgV c A es.length m] w fun e w' => e = .returned (.bool false) ∧ Kp w w' := by
 obtain ⟨b, hb⟩ : ∃ b, w.heap.size = b := ⟨_, rfl⟩
 obtain ⟨W, hW, kW, B0⟩ := Blk.al1 hb #[.int .i64 c, .slice A es.length m] 30
 have HB0 := Lib.hid B0
 have HR := Lib.hid (hR.keep kW)
 clear hR B0
 go_enter Tryz.func43, Tryz.ntmps43
 go_upto_region 1 with (fail)
 clear hW
 refine' vam (fun (_ : Unit) _ V9 => Kp _ V9) [3, 4, 5, 6, 7, 8, 9, 10, 11, 12, 13, 14, 15, 16, 17, 18, 19, 2] (fun (_ : Unit) => [.pointer (some ⟨b, 0, none⟩), .int .i64 c, .bool false, .bool false, undef, undef, undef, undef, .bool false, .bool false, undef, undef, undef, undef, undef, undef, .bool false, .bool false]) [true, true, true, true, false, false, false, false, true, true, false, false, false, false, false, false, true, true] [] (by kernel_rfl) (by kernel_rfl) (fun _ => rfl) (fun _ => rfl) (fun _ => rfl) () (Kp.refl _).drew (fun _ _ _ _ _ h => h) ?_ ?_ ?_
 rotate_left
 ·intro z; simp only [List.zip_cons_cons, List.zip_nil_right, wrC, wrN, List.set_cons_zero, List.set_cons_succ, List.set_nil]; rfl
 ·repeat' (first | refine And.intro ?_ ?_ | exact trivial)
  all_goals intro z L a w9 hLi d hcl hM hO K hK
  all_goals try (go_simp; exact hK z _ _ (hO rfl) (fun _ _ => rfl) rfl)
  ·have u := Blk.f (HB0.out.keep hM) rfl
   go_simp
   exact hK z _ _ (hO rfl) (fun _ _ => rfl) rfl
 intro z L w9 hL KV
 (try simp only [Exit.then])
 have HKV := Lib.hid (kW.trans KV)
 go_wp2_with fail
 go_ret
 exact ⟨rfl, HKV.out⟩
set_option maxRecDepth 100000 in
theorem vjL (c : Int) (A : Option Addr) (m : Nat) (es : List En) (w : World) (hR : Rd w 6 En.enc A es) (hn : es.length ≤ 1000000) (hc : (c == 1) = true) (hl : ((es.length : Int) == 1) = false) : Calls Tryz.prog 43 #[dgV c A es.length m] w fun e w' => e = .returned (.bool false) ∧ Kp w w' := by
 obtain ⟨b, hb⟩ : ∃ b, w.heap.size = b := ⟨_, rfl⟩
 obtain ⟨W, hW, kW, B0⟩ := Blk.al1 hb #[.int .i64 c, .slice A es.length m] 30
 have HB0 := Lib.hid B0
 have HR := Lib.hid (hR.keep kW)
 clear hR B0
 go_enter Tryz.func43, Tryz.ntmps43
 go_upto_region 1 with (fail)
 clear hW
 refine' vam (fun (_ : Unit) _ V9 => Kp _ V9) [3, 4, 5, 6, 7, 8, 9, 10, 11, 12, 13, 14, 15, 16, 17, 18, 19, 2] (fun (_ : Unit) => [.pointer (some ⟨b, 0, none⟩), .int .i64 c, .bool true, .bool true, .pointer (some ⟨b, 1, none⟩), .slice A es.length m, .int .i64 es.length, .bool false, .bool false, .bool false, undef, undef, undef, undef, undef, undef, .bool false, .bool false]) [true, true, true, true, true, true, true, true, true, true, false, false, false, false, false, false, true, true] [] (by kernel_rfl) (by kernel_rfl) (fun _ => rfl) (fun _ => rfl) (fun _ => rfl) () (Kp.refl _).drew (fun _ _ _ _ _ h => h) ?_ ?_ ?_
 rotate_left
 ·intro z; simp only [List.zip_cons_cons, List.zip_nil_right, wrC, wrN, List.set_cons_zero, List.set_cons_succ, List.set_nil]; rfl
 ·repeat' (first | refine And.intro ?_ ?_ | exact trivial)
  all_goals intro z L a w9 hLi d hcl hM hO K hK
  all_goals try (go_simp; exact hK z _ _ (hO rfl) (fun _ _ => rfl) rfl)
  ·have u := Blk.f (HB0.out.keep hM) rfl
   go_simp
   exact hK z _ _ (hO rfl) (fun _ _ => rfl) rfl
  ·have u := Blk.f (HB0.out.keep hM) rfl
   go_simp
   exact hK z _ _ (hO rfl) (fun _ _ => rfl) rfl
 intro z L w9 hL KV
 (try simp only [Exit.then])
 have HKV := Lib.hid (kW.trans KV)
 go_wp2_with fail
 go_ret
 exact ⟨rfl, HKV.out⟩
set_option maxRecDepth 100000 in
theorem vjM (c : Int) (A : Option Addr) (m : Nat) (x : En) (w : World) (hR : Rd w 6 En.enc A [x]) (hc : (c == 1) = true) : Calls Tryz.prog 43 #[dgV c A 1 m] w fun e w' => e = .returned (.bool (decide (x = allE))) ∧ Kp w w' := by
 obtain ⟨b, hb⟩ : ∃ b, w.heap.size = b := ⟨_, rfl⟩
 obtain ⟨g, off, hA, x0, x1, x2, x3, x4, x5⟩ := en_at hR (k := 0) (by simp)
 subst hA
 obtain ⟨W, hW, kW, B0⟩ := Blk.al1 hb #[.int .i64 c, .slice (some ⟨g, off, none⟩) 1 m] 30
 have HB0 := Lib.hid B0
 clear hR B0
 simp only [Nat.zero_mul, Nat.add_zero, List.getElem_cons_zero] at x0 x1 x2 x3 x4 x5
 have HX := Lib.hid (And.intro (kW.cell x0) (And.intro (kW.cell x1) (And.intro (kW.cell x2) (And.intro (kW.cell x3) (And.intro (kW.cell x4) (kW.cell x5))))))
 obtain ⟨q, hq⟩ : ∃ q, decide (x = allE) = q := ⟨_, rfl⟩
 have heq : ∀ w, (binOp .eql 66 (enV x) (enV allE)).run Tryz.prog w = .ok (.bool q) w := fun w => by rw [← hq]; exact vjT x allE w
 rw [hq]
 clear x0 x1 x2 x3 x4 x5 hq
 go_enter Tryz.func43, Tryz.ntmps43
 go_upto_region 1 with (fail)
 clear hW
 refine' vam (fun (_ : Unit) _ V9 => Kp _ V9) [3, 4, 5, 6, 7, 8, 9, 10, 11, 12, 13, 14, 15, 16, 17, 18, 19, 2] (fun (_ : Unit) => [.pointer (some ⟨b, 0, none⟩), .int .i64 c, .bool true, .bool true, .pointer (some ⟨b, 1, none⟩), .slice (some ⟨g, off, none⟩) 1 m, .int .i64 1, .bool true, .bool true, .bool true, .pointer (some ⟨b, 1, none⟩), .slice (some ⟨g, off, none⟩) 1 m, .pointer (some ⟨g, off, none⟩), enV x, enV allE, .bool q, .bool q, .bool q]) (List.replicate 18 true) [] (by kernel_rfl) (by kernel_rfl) (fun _ => rfl) (fun _ => rfl) (fun _ => rfl) () (Kp.refl _).drew (fun _ _ _ _ _ h => h) ?_ ?_ ?_
 rotate_left
 ·intro z; simp only [List.zip_cons_cons, List.zip_nil_right, wrC, wrN, List.set_cons_zero, List.set_cons_succ, List.set_nil]; rfl
 ·repeat' (first | refine And.intro ?_ ?_ | exact trivial)
  all_goals intro z L a w9 hLi d hcl hM hO K hK
  all_goals try (go_simp; exact hK z _ _ (hO rfl) (fun _ _ => rfl) rfl)
  ·have u := Blk.f (HB0.out.keep hM) rfl
   go_simp
   exact hK z _ _ (hO rfl) (fun _ _ => rfl) rfl
  ·have u := Blk.f (HB0.out.keep hM) rfl
   go_simp
   exact hK z _ _ (hO rfl) (fun _ _ => rfl) rfl
  ·have u := Blk.f (HB0.out.keep hM) rfl
   go_simp
   exact hK z _ _ (hO rfl) (fun _ _ => rfl) rfl
  ·have y0 := hM.cell HX.out.1
   have y1 := hM.cell HX.out.2.1
   have y2 := hM.cell HX.out.2.2.1
   have y3 := hM.cell HX.out.2.2.2.1
   have y4 := hM.cell HX.out.2.2.2.2.1
   have y5 := hM.cell HX.out.2.2.2.2.2
   go_simp
   exact hK z _ _ (hO rfl) (fun _ _ => rfl) rfl
  ·go_simp
   refine (vhe _).mono ?_
   rintro e9 wb ⟨rfl, hKc⟩
   exact hK z _ _ (hM.trans hKc) (fun _ _ => rfl) rfl
 intro z L w9 hL KV
 (try simp only [Exit.then])
 have HKV := Lib.hid (kW.trans KV)
 go_wp2_with fail
 go_ret
 exact ⟨rfl, HKV.out⟩
theorem vdr (c : Int) (A : Option Addr) (m : Nat) (es : List En) (w : World) (hR : Rd w 6 En.enc A es) (hn : es.length ≤ 1000000) : Calls Tryz.prog 43 #[dgV c A es.length m] w fun e w' => e = .returned (.bool (asksB c es)) ∧ Kp w w' := by
 unfold asksB
 cases hc : (c == 1) with
 | false => exact vjK c A m es w hR hn hc
 | true =>
  cases hl : ((es.length : Int) == 1) with
  | false => exact vjL c A m es w hR hn hc hl
  | true =>
   have h1 : es.length = 1 := by rw [beq_iff_eq] at hl; omega
   obtain ⟨x, hx⟩ := List.length_eq_one_iff.1 h1
   have e : (true && (true && decide (es.head? = some allE))) = decide (x = allE) := by rw [hx]; simp
   rw [e]
   subst hx
   exact vjM c A m x w hR hc
set_option maxRecDepth 100000 in
theorem vfa (c : Int) (A : Option Addr) (m : Nat) (es : List En) (w : World) (hR : Rd w 6 En.enc A es) (hw : ∀ e ∈ es, e.wf) (hn : es.length ≤ 1000000) : Calls Tryz.prog 42 #[dgV c A es.length m] w fun r w' => ∃ v, r = .returned (.tuple #[v, .int .i64 (encN c es)]) ∧ Kp w w' := by
 obtain ⟨b, hb⟩ : ∃ b, w.heap.size = b := ⟨_, rfl⟩
 obtain ⟨W, hW, kW, B0⟩ := Blk.al1 hb #[.int .i64 c, .slice A es.length m] 30
 have HB0 := Lib.hid B0
 have HR := Lib.hid (hR.keep kW)
 have HWF := Lib.hid hw
 have HK := Lib.hid kW
 have u := Blk.f B0 rfl
 have HCM := Lib.hid (fun V => vee c V)
 have HE : Hid (encN c es = if okC c then (if es.length ≤ 25 then (if es.all okEn then 0 else 2) else 3) else 2) := Lib.hid rfl
 have hc12 : okC c = true → 0 ≤ c ∧ c < 256 := fun h => by
  unfold okC at h
  simp only [Bool.or_eq_true, beq_iff_eq] at h
  omega
 clear hR hw B0 kW
 cases ho : okC c
 ·have HZ : Hid (encN c es = 2) := Lib.hid (by rw [HE.out, ho]; rfl)
  rw [ho] at HCM
  clear hc12
  go_enter Tryz.func42, Tryz.ntmps42
  go_wp2_with (first | (go_at_call 107; refine (HCM.out _).mono ?_; rintro r w1 ⟨rfl, rfl⟩))
  exact bodyPost_ret (v := .tuple #[.slice none 0 0, .int .i64 2]) (by simp [results, Tryz.results42, go_sem]) rfl ⟨_, by rw [HZ.out], HK.out⟩
 rw [ho] at HCM
 by_cases h25 : es.length ≤ 25
 ·have hgt : decide ((25 : Int) < (es.length : Int)) = false := by rw [decide_eq_false_iff_not]; omega
  have HZ : Hid (encN c es = if es.all okEn then 0 else 2) := Lib.hid (by rw [HE.out, ho, if_pos rfl, if_pos h25])
  have HC := Lib.hid (hc12 ho)
  have S0 : Hid ((es.take 0).all okEn = true ∧ Kp W W) := Lib.hid ⟨by rw [List.take_zero]; rfl, Kp.refl _⟩
  clear hc12 ho
  go_enter Tryz.func42, Tryz.ntmps42
  go_wp2_with (first | (go_at_call 107; refine (HCM.out _).mono ?_; rintro r w1 ⟨rfl, rfl⟩))
  clear hW u
  go_loopw [4] (fun i wr => ∃ j : Nat, j ≤ es.length ∧ i = .int .i64 j ∧ Hid ((es.take j).all okEn = true ∧ Kp W wr)) (fun i _ => es.length - (intOf i).toNat)
  case atStart => exact ⟨0, Nat.zero_le _, rfl, S0⟩
  case round =>
   obtain ⟨j, hj, rfl, R⟩ := hrel
   have u := Blk.f (HB0.out.keep R.out.2) rfl
   by_cases hlt : j < es.length
   ·have hj1 : (j : Int) < (es.length : Int) := by omega
    have hj0 : (0 : Int) ≤ (j : Int) := by omega
    obtain ⟨g, off, hA, x0, x1, x2, x3, x4, x5⟩ := en_at (HR.out.keep R.out.2) hlt
    subst hA
    have HT : Hid ((es.take (j + 1)).all okEn = okEn es[j]) := Lib.hid (by rw [List.take_succ_eq_append_getElem hlt, List.all_append, R.out.1]; simp)
    have HN : Hid (okEn es[j] = false → es.all okEn = false) := Lib.hid (fun h => Bool.eq_false_iff.2 (fun z => by rw [List.all_eq_true.1 z _ (List.getElem_mem hlt)] at h; cases h))
    obtain ⟨e, he⟩ : ∃ e, es[j] = e := ⟨_, rfl⟩
    rw [he] at x0 x1 x2 x3 x4 x5 HT HN
    clear he
    have HRT := Lib.hid (fun V => veN e V)
    cases hoe : okEn e
    all_goals
     rw [hoe] at HRT
     go_wp2_with (first | (go_at_call 108; refine (HRT.out _).mono ?_; rintro r w3 ⟨rfl, K3⟩; have HK3 := Lib.hid (R.out.2.trans K3); clear x0 x1 x2 x3 x4 x5 u K3))
    ·exact bodyPost_ret (v := .tuple #[.slice none 0 0, .int .i64 2]) (by simp [results, Tryz.results42, go_sem]) rfl ⟨_, by rw [HZ.out, HN.out hoe]; rfl, HK.out.trans HK3.out⟩
    ·go_roundw
     case rel => exact ⟨j + 1, by omega, by go_num, Lib.hid ⟨by rw [HT.out]; exact hoe, HK3.out⟩⟩
     case measure => simp [intOf]; omega
   ·obtain rfl : j = es.length := by omega
    have hall := R.out.1
    rw [List.take_length] at hall
    have HZ2 : Hid (encN c es = 0) := Lib.hid (by rw [HZ.out, hall]; rfl)
    have HBY := Lib.hid (veM c A m es wr HC.out (HR.out.keep R.out.2) HWF.out hall (by omega))
    clear hall
    go_wp2_with fail
    refine HBY.out.mono ?_
    rintro r w5 ⟨v, rfl, -, K5⟩
    go_wp2_with fail
    exact bodyPost_ret (v := .tuple #[v, .int .i64 0]) (by simp [results, Tryz.results42, go_sem]) rfl ⟨_, by rw [HZ2.out], HK.out.trans (R.out.2.trans K5)⟩
 ·have hgt : decide ((25 : Int) < (es.length : Int)) = true := by rw [decide_eq_true_iff]; omega
  have HZ : Hid (encN c es = 3) := Lib.hid (by rw [HE.out, ho, if_pos rfl, if_neg h25])
  clear hc12 h25
  go_enter Tryz.func42, Tryz.ntmps42
  go_wp2_with (first | (go_at_call 107; refine (HCM.out _).mono ?_; rintro r w1 ⟨rfl, rfl⟩))
  exact bodyPost_ret (v := .tuple #[.slice none 0 0, .int .i64 3]) (by simp [results, Tryz.results42, go_sem]) rfl ⟨_, by rw [HZ.out], HK.out⟩
def onE (x : PI × Nat) : List Value := [.int .i64 (x.2 : Nat), .int .u32 (x.1.a : Int), .int .i64 x.1.l]
theorem vlw (x : PI × Nat) : (onE x).length = 3 := rfl
theorem on_at {w : World} {A : Option Addr} {xs : List (PI × Nat)} (h : Rd w 3 onE A xs) {k : Nat} (hk : k < xs.length) : ∃ b off, A = some ⟨b, off, none⟩ ∧ w.cell? ⟨b, off + k * 3, none⟩ = some (.int .i64 (xs[k].2 : Nat)) ∧ w.cell? ⟨b, off + k * 3 + 1, none⟩ = some (.int .u32 (xs[k].1.a : Int)) ∧ w.cell? ⟨b, off + k * 3 + 2, none⟩ = some (.int .i64 xs[k].1.l) := by
 obtain ⟨b, off, e, hc⟩ := h k hk
 exact ⟨b, off, e, hc 0 _ rfl, hc 1 _ rfl, hc 2 _ rfl⟩
theorem EOn : ElemOf Tryz.prog 31 41 (.agg #[.int .i64 0, .int .u32 0, .int .i64 0]) 3 24 := ⟨Tryz.underlying31, by kernel_rfl, rfl, by decide⟩
def RAskP (c : Int) (es : List En) (w : World) (r : Ending) (w' : World) : Prop := ∃ A2 m2, r = .returned (.slice A2 (askedL c es).length m2) ∧ Own w' w.heap.size 41 3 onE (.slice A2 (askedL c es).length m2) (askedL c es) ∧ Kp w w'
theorem RAskP.no {c : Int} {es : List En} {w w' : World} (h : askedL c es = []) (K : Kp w w') : RAskP c es w (.returned (.slice none 0 0)) w' := ⟨none, 0, by rw [h]; rfl, by rw [h]; exact Own.nil _ _ _ _ _, K⟩
set_option maxRecDepth 100000 in
theorem vez (c : Int) (A : Option Addr) (m : Nat) (es : List En) (w : World) (hR : Rd w 6 En.enc A es) (hw : ∀ e ∈ es, e.wf) (hn : es.length ≤ 900000) : Calls Tryz.prog 11 #[dgV c A es.length m] w (RAskP c es w) := by
 obtain ⟨b, hb⟩ : ∃ b, w.heap.size = b := ⟨_, rfl⟩
 obtain ⟨W, hWq, kW, B0⟩ := Blk.al1 hb #[.int .i64 c, .slice A es.length m] 30
 have u := Blk.f B0 rfl
 have HB0 := Lib.hid B0
 have HR := Lib.hid (hR.keep kW)
 have HEN := Lib.hid (vfa c A m es W (hR.keep kW) hw (by omega))
 have HWF := Lib.hid hw
 have HK := Lib.hid kW
 obtain ⟨n, hn2⟩ : ∃ n, encN c es = n := ⟨_, rfl⟩
 obtain ⟨a, ha⟩ : ∃ a, asksB c es = a := ⟨_, rfl⟩
 have HL : Hid (askedL c es = if ((n == 0) && (c == 1)) && !a then asksL es else []) := Lib.hid (by unfold askedL isReqB; rw [hn2, ha])
 have HAA := Lib.hid ha
 rw [hn2] at HEN
 clear hR hw B0 kW hn2 ha
 cases h1 : (n == 0)
 ·have HZ : Hid (askedL c es = []) := Lib.hid (by rw [HL.out, h1]; rfl)
  have h2 : (n != 0) = true := by simpa using h1
  clear h1
  go_enter Tryz.func11, Tryz.ntmps11
  go_wp2_with (first | (go_at_call 42; refine HEN.out.mono ?_; rintro r w1 ⟨v, rfl, K1⟩; have HK1 := Lib.hid K1; clear u K1 hWq))
  go_ret
  exact RAskP.no HZ.out (HK.out.trans HK1.out)
 have h2 : (n != 0) = false := by simpa using h1
 cases h3 : (c == 1)
 ·have HZ : Hid (askedL c es = []) := Lib.hid (by rw [HL.out, h1, h3]; rfl)
  have h4 : (c != 1) = true := by simpa using h3
  clear h1 h3
  go_enter Tryz.func11, Tryz.ntmps11
  go_wp2_with (first | (go_at_call 42; refine HEN.out.mono ?_; rintro r w1 ⟨v, rfl, K1⟩; have HK1 := Lib.hid K1; have u1 := Blk.f (HB0.out.keep K1) rfl; clear u K1 hWq))
  go_ret
  exact RAskP.no HZ.out (HK.out.trans HK1.out)
 have h4 : (c != 1) = false := by simpa using h3
 cases a
 ·have HZ : Hid (askedL c es = asksL es) := Lib.hid (by rw [HL.out, h1, h3]; rfl)
  clear h1 h3
  go_enter Tryz.func11, Tryz.ntmps11
  go_upto_region 5 with (first | (go_at_call 42; refine HEN.out.mono ?_; rintro r w1 ⟨v, rfl, K1⟩; have HK1 := Lib.hid K1; have u1 := Blk.f (HB0.out.keep K1) rfl; clear u K1 hWq) | (go_at_call 43; refine (vdr c A m es w1 (HR.out.keep HK1.out) (by omega)).mono ?_; rintro r w3 ⟨rfl, K3⟩; rw [HAA.out]; have HK3 := Lib.hid (HK1.out.trans K3); clear u1 K3))
  have R0 : Hid (Own w3 w3.heap.size 41 3 onE (.slice none 0 0) (asksL (es.take 0)) ∧ Kp w3 w3) := Lib.hid ⟨by rw [List.take_zero]; exact Own.nil _ _ _ _ _, Kp.refl _⟩
  go_wp2_with fail
  go_loopw [3, 6, 7, 8, 9] (fun v i _ _ _ wr => ∃ j : Nat, j ≤ es.length ∧ i = .int .i64 j ∧ Hid (Own wr w3.heap.size 41 3 onE v (asksL (es.take j)) ∧ Kp w3 wr)) (fun _ i _ _ _ _ => es.length - (intOf i).toNat)
  case atStart => exact ⟨0, Nat.zero_le _, rfl, R0⟩
  case round =>
   obtain ⟨j, hj, rfl, R⟩ := hrel
   obtain ⟨Av, cv, hv⟩ := R.out.1.form
   subst hv
   have u := Blk.f (HB0.out.keep (HK3.out.trans R.out.2)) rfl
   by_cases hlt : j < es.length
   ·have hj1 : (j : Int) < (es.length : Int) := by omega
    have hj0 : (0 : Int) ≤ (j : Int) := by omega
    obtain ⟨g, off, hA, x0, x1, x2, x3, x4, x5⟩ := en_at (HR.out.keep (HK3.out.trans R.out.2)) hlt
    subst hA
    have hst := vew hlt
    have hal := vcv (es.take j)
    have hmj : (es.take j).length = j := by rw [List.length_take]; omega
    have hwf := m1_wf (HWF.out es[j] (List.getElem_mem hlt))
    obtain ⟨e, he⟩ : ∃ e, es[j] = e := ⟨_, rfl⟩
    rw [he] at x0 x1 x2 x3 x4 x5 hst hwf
    rw [hmj] at hal
    obtain ⟨V, hV, kV, BV⟩ := Blk.al1 (w := wr) rfl (enC e) 66
    unfold enC at hV BV
    have y := Blk.f BV rfl
    have fz := Blk.frozen BV
    obtain ⟨V1, hV1, BV1, kV1⟩ : ∃ R, V.setCell ⟨wr.heap.size, 5, none⟩ (.int .u32 1) = R ∧ Blk R wr.heap.size 66 (enC (m1 e)) ∧ Kp wr R := ⟨_, rfl, BV.set_ 5 (.int .u32 1), kV.setCell (p := ⟨wr.heap.size, 5, none⟩) (Nat.le_refl _) _⟩
    unfold enC at BV1
    obtain ⟨e1, he1⟩ : ∃ e1, m1 e = e1 := ⟨_, rfl⟩
    rw [he1] at hst hwf BV1
    have y1 := Blk.f BV1 rfl
    have HP := Lib.hid (ved e1 V1 hwf)
    obtain ⟨p, hp⟩ : ∃ p, epP e1 = p := ⟨_, rfl⟩
    obtain ⟨n, hnn⟩ : ∃ n, epN e1 = n := ⟨_, rfl⟩
    rw [hp, hnn] at HP hst
    have HST := Lib.hid hst
    have HOV := Lib.hid (R.out.1.keep kV1)
    have HKV := Lib.hid (R.out.2.trans kV1)
    have hfit : ((asksL (es.take j)).length + 1) * (24 + 1) ≤ 140737488355328 := by omega
    obtain ⟨acc, hacc⟩ : ∃ acc, asksL (es.take j) = acc := ⟨_, rfl⟩
    rw [hacc] at HST HOV hfit
    rw [hacc]
    clear he he1 hp hnn hst hal hmj hwf kV BV BV1 kV1 hacc
    have hWAY : (n == 0) = true ∨ (n == 0) = false := by cases (n == 0) <;> simp
    rcases hWAY with hb0 | hb0
    ·have hn0 : n = 0 := beq_iff_eq.1 hb0
     have HNX : Hid (asksL (es.take (j + 1)) = acc ++ [(p, j)]) := Lib.hid (by rw [HST.out, if_pos hn0])
     clear hn0
     go_wp2_with fail
     refine HP.out.mono ?_
     rintro r w5 ⟨rfl, K1⟩
     obtain ⟨z1, hz1⟩ : ∃ z1, w5.heap.size = z1 := ⟨_, rfl⟩
     obtain ⟨X, hX, kX, BX⟩ := Blk.al1 hz1 #[.int .u32 (p.a : Int), .int .i64 p.l] 39
     have xx := Blk.f BX rfl
     have HOX := Lib.hid ((HOV.out.keep K1).keep kX)
     have HKX := Lib.hid (HKV.out.trans (K1.trans kX))
     have hbase : w3.heap.size ≤ X.heap.size := HKX.out.size
     clear x0 x1 x2 x3 x4 x5 y y1 fz hV hV1 K1 kX BX u
     go_wp2_with (at_builtin; go_must (refine vah EOn rfl _ _ rfl (p, j) rfl HOX.out HKX.out (Nat.le_refl _) hbase rfl rfl rfl rfl rfl hfit ?_); intro v3 w6 hown3 hK3 hg3; obtain ⟨A3, c3, rfl⟩ := hown3.form1; have HO3 := Lib.hid hown3; have HK6 := Lib.hid hK3; clear hown3 hK3 hg3)
     go_roundw
     case rel => exact ⟨j + 1, by omega, by go_num, Lib.hid ⟨by rw [HNX.out]; exact HO3.out, HK6.out⟩⟩
     case measure => simp [intOf]; omega
    ·have hn0 : ¬ n = 0 := fun h => by rw [h] at hb0; simp at hb0
     have HNX : Hid (asksL (es.take (j + 1)) = acc) := Lib.hid (by rw [HST.out, if_neg hn0, List.append_nil])
     clear hn0
     go_wp2_with fail
     refine HP.out.mono ?_
     rintro r w5 ⟨rfl, K1⟩
     have HOX := Lib.hid ((HOV.out.keep K1).alloc (.cells #[.int .u32 (p.a : Int), .int .i64 p.l] 39))
     have HKX := Lib.hid ((HKV.out.trans K1).alloc (.cells #[.int .u32 (p.a : Int), .int .i64 p.l] 39))
     clear x0 x1 x2 x3 x4 x5 y y1 fz hV hV1 K1 u
     go_wp2_with fail
     go_roundw
     case rel => exact ⟨j + 1, by omega, by go_num, Lib.hid ⟨by rw [HNX.out]; exact HOX.out, HKX.out⟩⟩
     case measure => simp [intOf]; omega
   ·obtain rfl : j = es.length := by omega
    have hlast := R.out
    rw [List.take_length] at hlast
    have HE := Lib.hid hlast
    have hle : (asksL (es.take es.length)).length = (asksL es).length := by rw [List.take_length]
    rw [hle]
    clear hlast hle
    go_wp2_with fail
    go_ret
    exact ⟨_, _, by rw [HZ.out]; rfl, by rw [HZ.out]; exact HE.out.1.mono (HK.out.trans HK3.out).size, (HK.out.trans HK3.out).trans HE.out.2⟩
 ·have HZ : Hid (askedL c es = []) := Lib.hid (by rw [HL.out, h1, h3]; rfl)
  clear h1 h3
  go_enter Tryz.func11, Tryz.ntmps11
  go_wp2_with (first | (go_at_call 42; refine HEN.out.mono ?_; rintro r w1 ⟨v, rfl, K1⟩; have HK1 := Lib.hid K1; have u1 := Blk.f (HB0.out.keep K1) rfl; clear u K1 hWq) | (go_at_call 43; refine (vdr c A m es w1 (HR.out.keep HK1.out) (by omega)).mono ?_; rintro r w3 ⟨rfl, K3⟩; rw [HAA.out]; have HK3 := Lib.hid (HK1.out.trans K3); clear u1 K3))
  go_ret
  exact RAskP.no HZ.out (HK.out.trans HK3.out)
end

end Go.Proofs.YtgopnfacklmkaaaGreatDoor
