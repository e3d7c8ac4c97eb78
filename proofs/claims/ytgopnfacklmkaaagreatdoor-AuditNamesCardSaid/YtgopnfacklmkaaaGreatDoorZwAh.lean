/- Lemmas and contracts for the theorem of this claim: PkE, WordL, ScrL, CfA, CfB. -/
import Derived.Test.YtgopnfacklmkaaaGreatDoorZwAg
import Derived.Lib.OthersKept
import Derived.Lib.Join
import Derived.Lib.Bytealg
import Derived.Lib.ParseIntBTie
import Derived.Lib.ItoaNum
import Derived.Lib.ItoaMem
import Derived.Lib.Atoi
import Derived.Test.YtgopnfacklmkaaaGreatDoorProg
import Derived.LoopTactic
import Derived.Laws.IdiomStrings
set_option linter.all false
set_option maxHeartbeats 16000000
namespace Go.Proofs.YtgopnfacklmkaaaGreatDoor
section
open Go.RowKit
theorem vkB (x y : En) : decide (x = y) = (decide (x.f = y.f) && (decide (x.t = y.t) && (decide ((x.a : Int) = (y.a : Int)) && (decide ((x.m : Int) = (y.m : Int)) && (decide ((x.n : Int) = (y.n : Int)) && decide ((x.k : Int) = (y.k : Int))))))) := by
 rw [Bool.eq_iff_iff]
 simp only [decide_eq_true_eq, Bool.and_eq_true, Int.ofNat_inj]
 exact ⟨fun h => by subst h; simp, fun ⟨h1, h2, h3, h4, h5, h6⟩ => by cases x; cases y; simp only at h1 h2 h3 h4 h5 h6; subst h1 h2 h3 h4 h5 h6; rfl⟩
set_option maxRecDepth 100000 in
theorem vkC (x y : En) (w : World) : (binOp .eql 66 (enV x) (enV y)).run Tryz.prog w = .ok (.bool (decide (x = y))) w := by
 rw [run_eql_struct, run_equalIn_agg w 9999 _ _ _ Tryz.underlying66 (by kernel_rfl), vkB]
 simp [Op.eqFields, part, go_sem, Tryz.underlying3, Tryz.underlying37, Tryz.underlying36]
 repeat (split; rotate_left; · simp [*])
 simp [*]
def asksB (c : Int) (es : List En) : Bool := (c == 1) && (((es.length : Int) == 1) && decide (es.head? = some allE))
set_option maxRecDepth 100000 in
theorem vkD (c : Int) (A : Option Addr) (m : Nat) (es : List En) (w : World) (hR : Rd w 6 En.enc A es) (hn : es.length ≤ 1000000) (hc : (c == 1) = false) : Calls Tryz.prog 46 #[dgV c A es.length m] w fun e w' => e = .returned (.bool false) ∧ Kp w w' := by
 obtain ⟨b, hb⟩ : ∃ b, w.heap.size = b := ⟨_, rfl⟩
 obtain ⟨W, hW, kW, B0⟩ := Blk.al1 hb #[.int .i64 c, .slice A es.length m] 30
 have HB0 := Lib.hid B0
 have HR := Lib.hid (hR.keep kW)
 clear hR B0
 go_enter Tryz.func46, Tryz.ntmps46
 go_upto_region 1 with (fail)
 clear hW
 refine' vaz (fun (_ : Unit) _ V9 => Kp _ V9) [3, 4, 5, 6, 7, 8, 9, 10, 11, 12, 13, 14, 15, 16, 17, 18, 19, 2] (fun (_ : Unit) => [.pointer (some ⟨b, 0, none⟩), .int .i64 c, .bool false, .bool false, undef, undef, undef, undef, .bool false, .bool false, undef, undef, undef, undef, undef, undef, .bool false, .bool false]) [true, true, true, true, false, false, false, false, true, true, false, false, false, false, false, false, true, true] [] (by kernel_rfl) (by kernel_rfl) (fun _ => rfl) (fun _ => rfl) (fun _ => rfl) () (Kp.refl _).drew (fun _ _ _ _ _ h => h) ?_ ?_ ?_
 rotate_left
 ·intro z; simp only [List.zip_cons_cons, List.zip_nil_right, wrC, wrN, List.set_cons_zero, List.set_cons_succ, List.set_nil]; rfl
 ·repeat' (first | refine And.intro ?_ ?_ | exact trivial)
  all_goals intro z L a w9 hLi d hcl hM hO K hK
  all_goals try (go_simp; exact hK z _ _ (hO rfl) (fun _ _ => rfl) rfl)
  ·have u := Blk.f (HB0.out.keep hM) rfl
   go_simp
   exact hK z _ _ (hO rfl) (fun _ _ => rfl) rfl
 intro z L w9 hL KV
 (try simp only [Exit.then])
 have HKV := Lib.hid (kW.trans KV)
 go_wp2_with fail
 go_ret
 exact ⟨rfl, HKV.out⟩
set_option maxRecDepth 100000 in
theorem vkE (c : Int) (A : Option Addr) (m : Nat) (es : List En) (w : World) (hR : Rd w 6 En.enc A es) (hn : es.length ≤ 1000000) (hc : (c == 1) = true) (hl : ((es.length : Int) == 1) = false) : Calls Tryz.prog 46 #[dgV c A es.length m] w fun e w' => e = .returned (.bool false) ∧ Kp w w' := by
 obtain ⟨b, hb⟩ : ∃ b, w.heap.size = b := ⟨_, rfl⟩
 obtain ⟨W, hW, kW, B0⟩ := Blk.al1 hb #[.int .i64 c, .slice A es.length m] 30
 have HB0 := Lib.hid B0
 have HR := Lib.hid (hR.keep kW)
 clear hR B0
 go_enter Tryz.func46, Tryz.ntmps46
 go_upto_region 1 with (fail)
 clear hW
 refine' vaz (fun (_ : Unit) _ V9 => Kp _ V9) [3, 4, 5, 6, 7, 8, 9, 10, 11, 12, 13, 14, 15, 16, 17, 18, 19, 2] (fun (_ : Unit) => [.pointer (some ⟨b, 0, none⟩), .int .i64 c, .bool true, .bool true, .pointer (some ⟨b, 1, none⟩), .slice A es.length m, .int .i64 es.length, .bool false, .bool false, .bool false, undef, undef, undef, undef, undef, undef, .bool false, .bool false]) [true, true, true, true, true, true, true, true, true, true, false, false, false, false, false, false, true, true] [] (by kernel_rfl) (by kernel_rfl) (fun _ => rfl) (fun _ => rfl) (fun _ => rfl) () (Kp.refl _).drew (fun _ _ _ _ _ h => h) ?_ ?_ ?_
 rotate_left
 ·intro z; simp only [List.zip_cons_cons, List.zip_nil_right, wrC, wrN, List.set_cons_zero, List.set_cons_succ, List.set_nil]; rfl
 ·repeat' (first | refine And.intro ?_ ?_ | exact trivial)
  all_goals intro z L a w9 hLi d hcl hM hO K hK
  all_goals try (go_simp; exact hK z _ _ (hO rfl) (fun _ _ => rfl) rfl)
  ·have u := Blk.f (HB0.out.keep hM) rfl
   go_simp
   exact hK z _ _ (hO rfl) (fun _ _ => rfl) rfl
  ·have u := Blk.f (HB0.out.keep hM) rfl
   go_simp
   exact hK z _ _ (hO rfl) (fun _ _ => rfl) rfl
 intro z L w9 hL KV
 (try simp only [Exit.then])
 have HKV := Lib.hid (kW.trans KV)
 go_wp2_with fail
 go_ret
 exact ⟨rfl, HKV.out⟩
set_option maxRecDepth 100000 in
theorem vkF (c : Int) (A : Option Addr) (m : Nat) (x : En) (w : World) (hR : Rd w 6 En.enc A [x]) (hc : (c == 1) = true) : Calls Tryz.prog 46 #[dgV c A 1 m] w fun e w' => e = .returned (.bool (decide (x = allE))) ∧ Kp w w' := by
 obtain ⟨b, hb⟩ : ∃ b, w.heap.size = b := ⟨_, rfl⟩
 obtain ⟨g, off, hA, x0, x1, x2, x3, x4, x5⟩ := en_at hR (k := 0) (by simp)
 subst hA
 obtain ⟨W, hW, kW, B0⟩ := Blk.al1 hb #[.int .i64 c, .slice (some ⟨g, off, none⟩) 1 m] 30
 have HB0 := Lib.hid B0
 clear hR B0
 simp only [Nat.zero_mul, Nat.add_zero, List.getElem_cons_zero] at x0 x1 x2 x3 x4 x5
 have HX := Lib.hid (And.intro (kW.cell x0) (And.intro (kW.cell x1) (And.intro (kW.cell x2) (And.intro (kW.cell x3) (And.intro (kW.cell x4) (kW.cell x5))))))
 obtain ⟨q, hq⟩ : ∃ q, decide (x = allE) = q := ⟨_, rfl⟩
 have heq : ∀ w, (binOp .eql 66 (enV x) (enV allE)).run Tryz.prog w = .ok (.bool q) w := fun w => by rw [← hq]; exact vkC x allE w
 rw [hq]
 clear x0 x1 x2 x3 x4 x5 hq
 go_enter Tryz.func46, Tryz.ntmps46
 go_upto_region 1 with (fail)
 clear hW
 refine' vaz (fun (_ : Unit) _ V9 => Kp _ V9) [3, 4, 5, 6, 7, 8, 9, 10, 11, 12, 13, 14, 15, 16, 17, 18, 19, 2] (fun (_ : Unit) => [.pointer (some ⟨b, 0, none⟩), .int .i64 c, .bool true, .bool true, .pointer (some ⟨b, 1, none⟩), .slice (some ⟨g, off, none⟩) 1 m, .int .i64 1, .bool true, .bool true, .bool true, .pointer (some ⟨b, 1, none⟩), .slice (some ⟨g, off, none⟩) 1 m, .pointer (some ⟨g, off, none⟩), enV x, enV allE, .bool q, .bool q, .bool q]) (List.replicate 18 true) [] (by kernel_rfl) (by kernel_rfl) (fun _ => rfl) (fun _ => rfl) (fun _ => rfl) () (Kp.refl _).drew (fun _ _ _ _ _ h => h) ?_ ?_ ?_
 rotate_left
 ·intro z; simp only [List.zip_cons_cons, List.zip_nil_right, wrC, wrN, List.set_cons_zero, List.set_cons_succ, List.set_nil]; rfl
 ·repeat' (first | refine And.intro ?_ ?_ | exact trivial)
  all_goals intro z L a w9 hLi d hcl hM hO K hK
  all_goals try (go_simp; exact hK z _ _ (hO rfl) (fun _ _ => rfl) rfl)
  ·have u := Blk.f (HB0.out.keep hM) rfl
   go_simp
   exact hK z _ _ (hO rfl) (fun _ _ => rfl) rfl
  ·have u := Blk.f (HB0.out.keep hM) rfl
   go_simp
   exact hK z _ _ (hO rfl) (fun _ _ => rfl) rfl
  ·have u := Blk.f (HB0.out.keep hM) rfl
   go_simp
   exact hK z _ _ (hO rfl) (fun _ _ => rfl) rfl
  ·have y0 := hM.cell HX.out.1
   have y1 := hM.cell HX.out.2.1
   have y2 := hM.cell HX.out.2.2.1
   have y3 := hM.cell HX.out.2.2.2.1
   have y4 := hM.cell HX.out.2.2.2.2.1
   have y5 := hM.cell HX.out.2.2.2.2.2
   go_simp
   exact hK z _ _ (hO rfl) (fun _ _ => rfl) rfl
  ·go_simp
   refine (vhx _).mono ?_
   rintro e9 wb ⟨rfl, hKc⟩
   exact hK z _ _ (hM.trans hKc) (fun _ _ => rfl) rfl
 intro z L w9 hL KV
 (try simp only [Exit.then])
 have HKV := Lib.hid (kW.trans KV)
 go_wp2_with fail
 go_ret
 exact ⟨rfl, HKV.out⟩
theorem vhC (c : Int) (A : Option Addr) (m : Nat) (es : List En) (w : World) (hR : Rd w 6 En.enc A es) (hn : es.length ≤ 1000000) : Calls Tryz.prog 46 #[dgV c A es.length m] w fun e w' => e = .returned (.bool (asksB c es)) ∧ Kp w w' := by
 unfold asksB
 cases hc : (c == 1) with
 | false => exact vkD c A m es w hR hn hc
 | true =>
  cases hl : ((es.length : Int) == 1) with
  | false => exact vkE c A m es w hR hn hc hl
  | true =>
   have h1 : es.length = 1 := by rw [beq_iff_eq] at hl; omega
   obtain ⟨x, hx⟩ := List.length_eq_one_iff.1 h1
   have e : (true && (true && decide (es.head? = some allE))) = decide (x = allE) := by rw [hx]; simp
   rw [e]
   subst hx
   exact vkF c A m x w hR hc
structure PEachM (bx : Nat) (c : Int) (A : Option Addr) (m : Nat) (es : List En) (W : World) : Prop where
 bk : Blk W bx 30 #[.int .i64 c, .slice A es.length m]
 rd : Rd W 6 En.enc A es
def peachV (bx : Nat) : Value := .func (.func 159) #[] #[.pointer (some ⟨bx, 0, none⟩)]
set_option maxRecDepth 100000 in
theorem vgc (A : Option Addr) (c : Nat) (l : List Nat) (w : World) (hB : ByS w A c l) : Calls Tryz.prog 98 #[.slice A l.length c] w fun r w' => ∃ bx A' m, r = .returned (peachV bx) ∧ PEachM bx (decD l).1 A' m (decD l).2.1 w' ∧ w.heap.size ≤ bx ∧ (∀ a, A' = some a → w.heap.size ≤ a.block) ∧ Kp w w' := by
 go_enter Tryz.func98, Tryz.ntmps98
 go_wp2_with fail
 refine (vcF A c l _ hB).mono ?_
 rintro r w1 ⟨A', m, rfl, hR, hA, K1⟩
 go_wp2_with fail
 go_ret
 exact ⟨_, A', m, rfl, ⟨Blk.new _ _ _, hR.keep ((Kp.refl _).alloc _)⟩, K1.size, hA, K1.alloc _⟩
def enAt (es : List En) (k : Nat) : En := es.getD k zeroE
theorem vgd {es : List En} {k : Nat} (h : k < es.length) : enAt es k = es[k] := by simp [enAt, List.getD, h]
set_option maxRecDepth 100000 in
theorem vdY (bx : Nat) (c : Int) (A : Option Addr) (m : Nat) (es : List En) (hn : es.length ≤ 1000000) :
  Iter Tryz.prog 159 #[.pointer (some ⟨bx, 0, none⟩)] es.length (fun k => #[.int .i64 k, enV (enAt es k)]) (PEachM bx c A m es) := by
 intro l I Z W hI hZ hM hy h0
 have HI := Lib.hid hI; clear hI
 have HZ := Lib.hid hZ; clear hZ
 have HM := Lib.hid hM; clear hM
 have HY := Lib.hid hy; clear hy
 obtain ⟨N, hN⟩ : ∃ N, es.length = N := ⟨_, rfl⟩
 have HN := Lib.hid hN
 have c0 := Blk.f (HM.out 0 W h0).bk rfl
 rw [hN] at HY hn c0 ⊢
 clear hN
 have H0 := Lib.hid h0; clear h0
 go_enter Tryz.func159, Tryz.ntmps159
 go_wp2_with fail
 refine vab 0 rfl ?_
 go_wp2_with fail
 refine wp_label ?_
 go_wp2_with fail
 go_loopw [8] (fun i wr => ∃ k : Nat, k ≤ N ∧ i = .int .i64 k ∧ Hid (I k wr)) (fun i _ => N - (intOf i).toNat)
 case atStart => exact ⟨0, Nat.zero_le _, rfl, H0⟩
 case round =>
  obtain ⟨k, hk, rfl, hi⟩ := hrel
  have D := HM.out k wr hi.out
  by_cases hlt : k < N
  ·have hke : k < es.length := by rw [HN.out]; exact hlt
   obtain ⟨b, off, hA, x0, x1, x2, x3, x4, x5⟩ := en_at D.rd hke
   subst hA
   rw [← vgd hke] at x0 x1 x2 x3 x4 x5
   clear D c0
   obtain ⟨W2, hW2, k2, B2⟩ := Blk.al1 (w := wr) rfl (enC (enAt es k)) 66
   have Hi2 : Hid (I k W2) := Lib.hid (HI.out k _ _ hi.out k2)
   obtain ⟨fn, tmps, asg, bd, hrun, hround⟩ := HY.out k _ hlt Hi2.out
   obtain ⟨r, hr⟩ : ∃ r, enAt es k = r := ⟨_, rfl⟩
   rw [hr] at x0 x1 x2 x3 x4 x5 hrun hW2 B2
   unfold enC at hW2
   have y := Blk.f B2 rfl
   clear hr
   go_upto_region 3 with (fail)
   clear hW2
   refine (wpIn_wide (n := 0)).1 ?_
   gi_wp2_with fail
   refine ⟨rfl, hround.mono ?_⟩
   clear hrun hround
   rintro e W' (⟨rfl, hi2⟩ | ⟨rfl, hz⟩)
   ·have Hi3 := Lib.hid hi2; clear hi2
    gi_wp2_with fail
    go_wp2_with fail
    go_roundw
    case rel => exact ⟨k + 1, by omega, by go_num, Hi3⟩
    case measure => simp [intOf]; omega
   ·have Hz := Lib.hid hz; clear hz
    gi_wp2_with fail
    go_wp2_with fail
    refine vbQ ?_
    go_end0
    exact ⟨rfl, .inr ⟨k + 1, by omega, by omega, Hz.out⟩⟩
  ·obtain rfl : k = N := by omega
   go_wp2_with fail
   refine vbQ ?_
   go_end0
   exact ⟨rfl, .inl hi.out⟩
end

section
open Go.Lib
def parted (b : UInt8) : List UInt8 → List (List UInt8)
 | [] => [[]]
 | c :: l => if c = b then [] :: parted b l else (c :: (parted b l).headD []) :: (parted b l).tail
theorem vcG {b : UInt8} : ∀ {u : List UInt8}, (∀ c ∈ u, c ≠ b) → parted b u = [u]
 | [], _ => rfl
 | c :: u, h => by
  rw [parted, if_neg (h c (by simp)), vcG (fun d hd => h d (by simp [hd]))]
  rfl
theorem vdt {b : UInt8} {v : List UInt8} : ∀ {u : List UInt8}, (∀ c ∈ u, c ≠ b) → parted b (u ++ b :: v) = u :: parted b v
 | [], _ => by simp [parted]
 | c :: u, h => by
  rw [List.cons_append, parted, if_neg (h c (by simp)), vdt (fun d hd => h d (by simp [hd]))]
  rfl
def byteAt (s : ByteArray) (i : Nat) : Nat := (s.data.toList.getD i 0).toNat
theorem veo (s : ByteArray) (i : Nat) (h : i < s.size) : s.get! i = s.data.toList.getD i 0 := by
 have h' : i < s.data.size := h
 show s.data[i]! = _
 rw [List.getD_eq_getElem?_getD, Array.getElem?_toList, getElem!_def]
 rw [Array.getElem?_eq_getElem h']
 rfl
theorem viJ (s : ByteArray) (i : Nat) (h : i < s.size) : s[i]'h = s.data.toList.getD i 0 := by
 have h' : i < s.data.size := h
 show s.data[i] = _
 rw [List.getD_eq_getElem?_getD, Array.getElem?_toList, Array.getElem?_eq_getElem h']
 rfl
theorem vhD (s : ByteArray) (i : Nat) (hi : i < s.size) (h : 128 ≤ byteAt s i) :
    128 ≤ (Utf8.decode s i).1 ∧ 1 ≤ (Utf8.decode s i).2 ∧ i + (Utf8.decode s i).2 ≤ s.size ∧ ∀ k, k < (Utf8.decode s i).2 → 128 ≤ byteAt s (i + k) := by
  have h0 : (s.get! (i + 0)).toNat = byteAt s i := by rw [Nat.add_zero, veo s i hi]; rfl
  have one : 128 ≤ Utf8.runeError ∧ 1 ≤ 1 ∧ i + 1 ≤ s.size ∧ ∀ k, k < 1 → 128 ≤ byteAt s (i + k) :=
    ⟨by decide, Nat.le_refl _, hi, fun k hk => by obtain rfl : k = 0 := by omega
                                                  exact h⟩
  have cont : ∀ k, (decide (i + k < s.size) && (s.get! (i + k)).toNat / 64 == 2) = true → i + k < s.size ∧ 128 ≤ byteAt s (i + k) := by
    intro k hk
    simp only [Bool.and_eq_true, decide_eq_true_eq, beq_iff_eq] at hk
    refine ⟨hk.1, ?_⟩
    have := hk.2
    rw [veo s _ hk.1] at this
    unfold byteAt
    omega
  unfold Utf8.decode
  simp only [h0]
  rw [if_neg (by omega)]
  split
  · rename_i hc
    rw [Bool.and_eq_true] at hc
    obtain ⟨c1, c1'⟩ := cont 1 hc.2
    split
    · rename_i hg
      exact ⟨hg, by omega, by omega, fun k hk => by
        have : k = 0 ∨ k = 1 := by omega
        rcases this with rfl | rfl
        · exact h
        · exact c1'⟩
    · exact one
  · split
    · rename_i hc
      rw [Bool.and_eq_true, Bool.and_eq_true] at hc
      obtain ⟨c1, c1'⟩ := cont 1 hc.1.2
      obtain ⟨c2, c2'⟩ := cont 2 hc.2
      split
      · rename_i hg
        simp only [ge_iff_le, Bool.and_eq_true, decide_eq_true_eq] at hg
        exact ⟨by omega, by omega, by omega, fun k hk => by
          have : k = 0 ∨ k = 1 ∨ k = 2 := by omega
          rcases this with rfl | rfl | rfl
          · exact h
          · exact c1'
          · exact c2'⟩
      · exact one
    · split
      · rename_i hc
        rw [Bool.and_eq_true, Bool.and_eq_true, Bool.and_eq_true] at hc
        obtain ⟨c1, c1'⟩ := cont 1 hc.1.1.2
        obtain ⟨c2, c2'⟩ := cont 2 hc.1.2
        obtain ⟨c3, c3'⟩ := cont 3 hc.2
        split
        · rename_i hg
          simp only [ge_iff_le, Bool.and_eq_true, decide_eq_true_eq] at hg
          exact ⟨by omega, by omega, by omega, fun k hk => by
            have : k = 0 ∨ k = 1 ∨ k = 2 ∨ k = 3 := by omega
            rcases this with rfl | rfl | rfl | rfl
            · exact h
            · exact c1'
            · exact c2'
            · exact c3'⟩
        · exact one
      · exact one
theorem vge (s : ByteArray) (i : Nat) (hi : i < s.size) (h : byteAt s i < 128) : Utf8.decode s i = (byteAt s i, 1) := by
 rw [decode_ascii s i hi (by rw [viJ s i hi]; exact h), viJ s i hi]
 rfl
theorem vhE (s : ByteArray) (i : Nat) (hi : i < s.size) :
  1 ≤ (Utf8.decode s i).2 ∧ i + (Utf8.decode s i).2 ≤ s.size ∧ ((byteAt s i < 128 ∧ Utf8.decode s i = (byteAt s i, 1)) ∨ (128 ≤ (Utf8.decode s i).1 ∧ ∀ k, k < (Utf8.decode s i).2 → 128 ≤ byteAt s (i + k))) := by
 rcases Nat.lt_or_ge (byteAt s i) 128 with h | h
 ·have e := vge s i hi h
  exact ⟨by rw [e]; exact Nat.le_refl 1, by rw [e]; exact hi, .inl ⟨h, e⟩⟩
 ·obtain ⟨a, b, c, d⟩ := vhD s i hi h
  exact ⟨b, c, .inr ⟨a, d⟩⟩
/-! ### bytes as two digits each -/
/-! ### events -/
inductive Pt where | a | b | c | d | s | x
deriving DecidableEq
end

section
open Go.RowKit
abbrev strB (l : List UInt8) : ByteArray := ⟨l.toArray⟩
theorem vgf {s : ByteArray} {i : Nat} (h : i < s.size) : ∃ c : UInt8, c.toNat = byteAt s i ∧ s.data.toList.drop i = c :: s.data.toList.drop (i + 1) := by
 have h' : i < s.data.toList.length := by rw [Array.length_toList]; exact h
 refine ⟨s.data.toList[i], ?_, List.drop_eq_getElem_cons h'⟩
 unfold byteAt
 rw [List.getD_eq_getElem?_getD, List.getElem?_eq_getElem h', Option.getD_some]
def bare (w : World) : World := { w with heap := #[] }
theorem vgg (w : World) : Kp (bare w) w := ⟨rfl, rfl, rfl, Nat.zero_le _, fun k hk => absurd hk (Nat.not_lt_zero k)⟩
def strE (l : List UInt8) : List Value := [.string (strB l)]
theorem vhF (l : List UInt8) : (strE l).length = 1 := rfl
theorem EStr : ElemOf Tryz.prog 94 9 (.string ⟨#[]⟩) 1 16 := ⟨Tryz.underlying94, by kernel_rfl, rfl, by decide⟩
theorem vcH (s : ByteArray) (a b : Nat) : s.extract a b = strB ((s.data.toList.drop a).take (b - a)) := by
 have h := Lib.extract_data s a b
 apply ByteArray.ext
 apply Array.toList_inj.1
 rw [h]
theorem vhG {s : ByteArray} {i : Nat} (h : i < s.data.toList.length) : (s.data.toList[i]).toNat = byteAt s i := by
 unfold byteAt
 rw [List.getD_eq_getElem?_getD, List.getElem?_eq_getElem h, Option.getD_some]
theorem viK {s : ByteArray} {a b : Nat} {x : UInt8} (h : ∀ i, a ≤ i → i < b → byteAt s i ≠ x.toNat) : ∀ c ∈ (s.data.toList.drop a).take (b - a), c ≠ x := by
 intro c hc e
 subst e
 obtain ⟨i, hi, he⟩ := List.getElem_of_mem hc
 rw [List.length_take, List.length_drop] at hi
 have hl : a + i < s.data.toList.length := by omega
 have e2 : s.data.toList[a + i] = c := by
  rw [List.getElem_take, List.getElem_drop] at he
  exact he
 exact h (a + i) (by omega) (by omega) (by rw [← vhG hl, e2])
theorem veP {s : ByteArray} {a b : Nat} {x : UInt8} (hab : a ≤ b) (hb : b < s.size) (h : ∀ i, a ≤ i → i < b → byteAt s i ≠ x.toNat) (hx : byteAt s b = x.toNat) :
  parted x (s.data.toList.drop a) = ((s.data.toList.drop a).take (b - a)) :: parted x (s.data.toList.drop (b + 1)) := by
 obtain ⟨c, hc, hd⟩ := vgf hb
 have hcx : c = x := UInt8.toNat.inj (by rw [hc, hx])
 have e : s.data.toList.drop a = (s.data.toList.drop a).take (b - a) ++ x :: s.data.toList.drop (b + 1) := by
  rw [← hcx, ← hd]
  have : s.data.toList.drop b = (s.data.toList.drop a).drop (b - a) := by rw [List.drop_drop]; congr 1; omega
  rw [this, List.take_append_drop]
 have e2 := vdt (v := s.data.toList.drop (b + 1)) (viK h)
 rw [← e] at e2
 exact e2
theorem vdZ {s : ByteArray} {a : Nat} {x : UInt8} (h : ∀ i, a ≤ i → i < s.size → byteAt s i ≠ x.toNat) : parted x (s.data.toList.drop a) = [s.data.toList.drop a] := by
 refine vcG ?_
 have := viK h
 rw [List.take_of_length_le (by rw [List.length_drop, Array.length_toList]; exact Nat.le_refl _)] at this
 exact this
theorem vjD (s : ByteArray) (i : Nat) (hi : i < s.size) (x : UInt8) (hx : x.toNat < 128) :
  1 ≤ (Utf8.decode s i).2 ∧ i + (Utf8.decode s i).2 ≤ s.size ∧ ((Utf8.decode s i = (x.toNat, 1) ∧ byteAt s i = x.toNat) ∨ ((Utf8.decode s i).1 ≠ x.toNat ∧ ∀ k, k < (Utf8.decode s i).2 → byteAt s (i + k) ≠ x.toNat)) := by
 obtain ⟨a, b, h | h⟩ := vhE s i hi
 ·refine ⟨a, b, ?_⟩
  by_cases he : byteAt s i = x.toNat
  ·exact .inl ⟨by rw [h.2, he], he⟩
  ·refine .inr ⟨by rw [h.2]; exact he, fun k hk => ?_⟩
   rw [h.2] at hk
   obtain rfl : k = 0 := by simp at hk; exact hk
   exact he
 ·exact ⟨a, b, .inr ⟨by omega, fun k hk => by have := h.2 k hk; omega⟩⟩
theorem Own.iterAt {α : Type} {w : World} {B e sz : Nat} {enc : α → List Value} {v : Value} {xs : List α} (h : Own w B e sz enc v xs) {k : Nat} {s : ByteArray} {pos : Nat} (hk : w.heap[k]? = some (.stringIter s pos)) (p : Nat) : Own (w.iterAt k s p) B e sz enc v xs := by
 refine ⟨h.1, ?_⟩
 rcases h.2 with h2 | ⟨g, cap, cur, hv, hg, hh, r⟩
 ·exact .inl h2
 ·refine .inr ⟨g, cap, cur, hv, hg, (Lib.iterAt_other w k g s p ?_).trans hh, r⟩
  rintro rfl
  rw [hk] at hh
  cases hh
structure WRelC (w : World) (s : ByteArray) (pos a : Nat) (v : Value) (ws : List (List UInt8)) (wr : World) : Prop where
 le : pos ≤ s.size
 fr : a ≤ pos
 it : wr.heap[w.heap.size]? = some (.stringIter s pos)
 own : Own wr (w.heap.size + 1) 9 1 strE v ws
 no : ∀ i, a ≤ i → i < pos → byteAt s i ≠ (32 : UInt8).toNat
 wq : parted 32 s.data.toList = ws ++ parted 32 (s.data.toList.drop a)
 n5 : ws.length ≤ pos
 kp : Kp w wr
set_option maxRecDepth 100000 in
theorem veQ (s : ByteArray) (hs : s.size ≤ 1000000) (w : World) : Calls Tryz.prog 242 #[.string s] w fun e w' => ∃ v, e = .returned v ∧ Own w' w.heap.size 9 1 strE v (parted 32 s.data.toList) ∧ Kp w w' := by
 have HR : Hid (WRelC w s 0 0 (.slice none 0 0) [] (w.iter s 0)) := Lib.hid ⟨by omega, by omega, World.iter_heap w s 0, Own.nil _ _ _ _ _, fun i _ h => absurd h (by omega), by simp, by simp, (Kp.refl w).alloc _⟩
 have hlen : s.data.toList.length = s.size := by rw [Array.length_toList]; rfl
 have Hlen := Lib.hid hlen; clear hlen
 go_enter Tryz.func242, Tryz.ntmps242
 go_wp2_with fail
 go_loopw [3, 4] (fun v f wr => ∃ pos a ws, f = .int .i64 (a : Nat) ∧ Hid (WRelC w s pos a v ws wr)) (fun _ _ wr => s.size - wr.iterPos w.heap.size)
 case atStart => exact ⟨0, 0, [], rfl, HR⟩
 case round =>
  obtain ⟨pos, a, ws, rfl, R⟩ := hrel
  have hk := R.out.it
  have hfr := R.out.fr
  have hle := R.out.le
  have hn5 := R.out.n5
  have hsz := R.out.kp.size
  have hmu : wr.iterPos w.heap.size = pos := by simp [World.iterPos, hk]
  by_cases hp : pos < s.size
  ·have hnext : ∀ ty, (Instr.next (.pointer (some ⟨w.heap.size, 0, none⟩)) true ty).run Tryz.prog wr = _ := fun ty => Lib.run_next_any_at wr w.heap.size s pos ty hk hp
   have hr := Lib.hid (vjD s pos hp 32 (by decide))
   obtain ⟨c, m, hcm⟩ : ∃ c m, Utf8.decode s pos = (c, m) := ⟨_, _, rfl⟩
   rw [hcm] at hnext hr
   simp only at hnext hr
   clear hcm
   have hlt := (Array.getElem?_eq_some_iff.1 hk).1
   have hK1 : Kp w (wr.iterAt w.heap.size s (pos + m)) := Lib.below_iterAt R.out.kp (Nat.le_refl _) s (pos + m)
   have hk1 := Lib.iterAt_heap wr w.heap.size s pos (pos + m) hk
   have hO1 : Own (wr.iterAt w.heap.size s (pos + m)) (w.heap.size + 1) 9 1 strE u3 ws := R.out.own.iterAt hk _
   have R' := R
   generalize wr.iterAt w.heap.size s (pos + m) = W1 at hnext hK1 hk1 hO1
   clear hk
   have hk1s : W1.heap[w.heap.size]? = some (.stringIter s (pos + m)) := hk1
   have hsz1 : w.heap.size + 1 ≤ W1.heap.size := (Array.getElem?_eq_some_iff.1 hk1).1
   obtain ⟨hm1, hm2, hcase⟩ := hr.out
   rcases hcase with ⟨hc, hb⟩ | ⟨hc, hb⟩
   ·obtain ⟨rfl, rfl⟩ : c = 32 ∧ m = 1 := by injection hc with h1 h2; exact ⟨h1, h2⟩
    have hseg := Lib.hid (veP (x := 32) hfr hp R.out.no hb)
    have ha0 : (0 : Int) ≤ (a : Int) := by omega
    have ha1 : (a : Int) ≤ (pos : Int) := by omega
    have ha2 : (pos : Int) ≤ (s.size : Int) := by omega
    have Hext := Lib.hid (vcH s a pos)
    have hnews : ([.string (s.extract a pos)] : List Value) = strE ((s.data.toList.drop a).take (pos - a)) := by rw [Hext.out]; rfl
    have Hnews := Lib.hid hnews; clear hnews
    clear hc hb
    have hnel := Own.ne hO1 (g := w.heap.size) (by omega)
    go_wp2_with (at_builtin; go_must (refine vaI EStr (w0 := bare W1) rfl _ _ rfl ((s.data.toList.drop a).take (pos - a)) rfl hO1 (vgg _) (Nat.zero_le _) hsz1 rfl rfl Hnews.out rfl rfl (by omega) ?_); intro v2 w2 hown2 hK2 hg2; obtain ⟨A2, c2, rfl⟩ := hown2.form1)
    have hK2w : Kp w w2 := hK1.grown hg2 (fun q hq => by have := (World.ownsRow.lt hO1 q hq).1; omega)
    have Hn : Hid (WRelC w s (pos + 1) (pos + 1) (.slice A2 (ws.length + 1) c2) (ws ++ [(s.data.toList.drop a).take (pos - a)]) w2) := Lib.hid
     ⟨hm2, Nat.le_refl _, (hg2.block _ (by omega) hnel).trans hk1s, hown2, fun i h1 h2 => absurd h1 (by omega), by rw [R.out.wq, hseg.out]; simp, by simp; omega, hK2w⟩
    have hmu2 : w2.iterPos w.heap.size = pos + 1 := by simp [World.iterPos, Hn.out.it]
    go_wp2_with fail
    go_roundw
    case rel => exact ⟨pos + 1, pos + 1, _, by go_num, Hn⟩
    case measure => rw [hmu, hmu2]; omega
   ·have Hn : Hid (WRelC w s (pos + m) a u3 ws W1) := Lib.hid
     ⟨hm2, by omega, hk1s, hO1, fun i h1 h2 => by
      rcases Nat.lt_or_ge i pos with h3 | h3
      ·exact R.out.no i h1 h3
      ·have := hb (i - pos) (by omega)
       rwa [show pos + (i - pos) = i by omega] at this, R.out.wq, by omega, hK1⟩
    have hb32 : ((c : Int) == 32) = false := by rw [beq_eq_false_iff_ne]; have h32 : (32 : UInt8).toNat = 32 := rfl; omega
    have hb33 : ¬ (c : Int) = 32 := by have h32 : (32 : UInt8).toNat = 32 := rfl; omega
    have hmu2 : W1.iterPos w.heap.size = pos + m := by simp [World.iterPos, hk1s]
    obtain ⟨A3, c3, rfl⟩ := hO1.form
    clear hc hb
    go_wp2_with fail
    go_roundw
    case rel => exact ⟨pos + m, a, ws, rfl, Hn⟩
    case measure => rw [hmu, hmu2]; omega
  ·have hnext : ∀ ty, (Instr.next (.pointer (some ⟨w.heap.size, 0, none⟩)) true ty).run Tryz.prog wr = _ := fun ty => Lib.run_next_end_at wr w.heap.size s pos ty hk hp
   have hps : pos = s.size := by omega
   have hO := R.out.own
   have hKw := R.out.kp
   have hlast := Lib.hid (vdZ (x := 32) (s := s) (a := a) (fun i h1 h2 => R.out.no i h1 (by omega)))
   have Hw := Lib.hid (show parted 32 s.data.toList = ws ++ [s.data.toList.drop a] by rw [R.out.wq, hlast.out])
   have hszr : w.heap.size + 1 ≤ wr.heap.size := (Array.getElem?_eq_some_iff.1 hk).1
   have Hext := Lib.hid (vcH s a s.size)
   have hnews : ([.string (s.extract a s.size)] : List Value) = strE (s.data.toList.drop a) := by
    rw [Hext.out, List.take_of_length_le (by rw [List.length_drop, Hlen.out]; exact Nat.le_refl _)]; rfl
   have Hnews := Lib.hid hnews; clear hnews hk
   have ha0 : (0 : Int) ≤ (a : Int) := by omega
   have ha2 : (a : Int) ≤ (s.size : Int) := by omega
   subst hps
   go_wp2_with (at_builtin; go_must (refine vaI EStr (w0 := bare wr) rfl _ _ rfl (s.data.toList.drop a) rfl hO (vgg _) (Nat.zero_le _) hszr rfl rfl Hnews.out rfl rfl (by omega) ?_); intro v2 w2 hown2 hK2 hg2; obtain ⟨A2, c2, rfl⟩ := hown2.form1)
   go_ret
   refine ⟨_, rfl, ?_, hKw.grown hg2 (fun q hq => by have := (World.ownsRow.lt hO q hq).1; omega)⟩
   rw [Hw.out]
   exact hown2.mono (by omega)
def spC (n : Nat → ByteArray) : Array Value := #[.string (n 0), .int .i64 1, .func (.func 235) #[] #[], .string (n 1), .int .i64 0, .func (.func 236) #[] #[], .string (n 2), .int .i64 1, .func (.func 237) #[] #[], .string (n 3), .int .i64 0, .func (.func 238) #[] #[], .string (n 4), .int .i64 1, .func (.func 239) #[] #[], .string (n 5), .int .i64 0, .func (.func 240) #[] #[], .string (n 6), .int .i64 0, .func (.func 241) #[] #[]]
abbrev namesB : ByteArray := ⟨#[112, 101, 114, 105, 111, 100, 32, 106, 105, 116, 116, 101, 114, 32, 116, 105, 109, 101, 111, 117, 116, 32, 104, 111, 108, 100, 32, 103, 97, 114, 98, 97, 103, 101, 32, 113, 117, 105, 101, 116, 32, 115, 112, 114, 101, 97, 100]⟩
theorem words7 (w : World) : Calls Tryz.prog 242 #[.string namesB] w fun e w' => ∃ b c, ∃ s : Nat → ByteArray, e = .returned (.slice (some ⟨b, 0, none⟩) 7 c) ∧ (∀ k, k < 7 → w'.cell? ⟨b, k, none⟩ = some (.string (s k))) ∧ w.heap.size ≤ b ∧ Kp w w' := by
 refine (veQ namesB (by decide) w).mono ?_
 rintro e w' ⟨v, rfl, hO, K⟩
 have hlen : (parted 32 namesB.data.toList).length = 7 := by decide +kernel
 rcases hO.2 with ⟨_, h2⟩ | ⟨g, cap, cur, hv, hg, _⟩
 ·exact absurd h2 (by rw [hlen]; decide)
 ·subst hv
  have hR := Rd.of_own (by decide) vhF hO
  rw [hlen]
  refine ⟨g, cap, fun k => if h : k < (parted 32 namesB.data.toList).length then strB ((parted 32 namesB.data.toList)[k]'h) else ⟨#[]⟩, rfl, fun k hk => ?_, hg, K⟩
  obtain ⟨b, off, e, hc⟩ := hR k (by rw [hlen]; exact hk)
  injection e with e
  injection e with e1 e2
  subst e1
  subst e2
  have := hc 0 _ rfl
  show w'.cell? ⟨g, k, none⟩ = some (.string (if h : k < (parted 32 namesB.data.toList).length then strB ((parted 32 namesB.data.toList)[k]'h) else ⟨#[]⟩))
  rw [dif_pos (by rw [hlen]; exact hk)]
  simpa using this
set_option maxRecDepth 100000 in
theorem vgh (w : World) : Calls Tryz.prog 168 #[] w fun e w' => ∃ g, ∃ n : Nat → ByteArray, e = .returned (.slice (some ⟨g, 0, none⟩) 7 7) ∧ Blk w' g 295 (spC n) ∧ w.heap.size ≤ g ∧ Kp w w' := by
 obtain ⟨g, hg⟩ : ∃ g, w.heap.size = g := ⟨_, rfl⟩
 obtain ⟨W0, hW0, K0, B0⟩ := Blk.al1 hg (spC (fun _ => ⟨#[]⟩)) 295
 have HW0 := hW0
 unfold spC at HW0
 go_enter Tryz.func168, Tryz.ntmps168
 go_wp2_with fail
 refine (words7 _).mono ?_
 rintro e w1 ⟨b, c, s, rfl, hs, hb, K1⟩
 have hgb : g < b := by have := B0.lt; omega
 have K := K0.trans K1
 have hCW : ∀ k, k < 7 → w1.cell? ⟨b, k, none⟩ = some (.string (s k)) := hs
 have BG := B0.keep K1
 clear hs hW0 HW0 K0 B0 K1 hb
 obtain ⟨n, hn⟩ : ∃ n : Nat → ByteArray, (fun _ => ⟨#[]⟩) = n := ⟨_, rfl⟩
 rw [hn] at BG
 clear hn
 have hbg : ¬ b = g := by omega
 have hgb2 : ¬ g = b := by omega
 go_wp2_with fail
 refine wp_loop_rounds 8 ?_
 have HC := Lib.hid hCW
 have HB := Lib.hid BG
 have sk := hCW 0 (by omega)
 have fk : w1.frozen? ⟨g, 0, none⟩ = false := BG.frozen 0
 have ck : w1.cell? ⟨g, 0, none⟩ = some (.string (n 0)) := BG.cell 0
 clear hCW BG
 rw [rounds_succ]
 go_wp2_with fail
 obtain ⟨X1, hW, K1, B'', C1⟩ : ∃ W, w1.setCell ⟨g, 0, none⟩ (.string (s 0)) = W ∧ Kp w W ∧ Blk W g 295 (spC (fun j => if j = 0 then s 0 else n j)) ∧ ∀ k, k < 7 → W.cell? ⟨b, k, none⟩ = some (.string (s k)) :=
  ⟨_, rfl, K.setCell (by show w.heap.size ≤ g; omega) _, HB.out.set_ 0 (.string (s 0)), fun k hk => by rw [World.cell?_setCell_other _ _ _ _ (by intro e; injection e with e; exact hgb2 e)]; exact HC.out k hk⟩
 rw [hW]
 clear hW HC HB sk fk ck K
 obtain ⟨m1, hn⟩ : ∃ n2 : Nat → ByteArray, (fun j => if j = 0 then s 0 else n j) = n2 := ⟨_, rfl⟩
 rw [hn] at B''
 have B1 := B''
 clear hn B''
 have HC := Lib.hid C1
 have HB := Lib.hid B1
 have sk := C1 1 (by omega)
 have fk : X1.frozen? ⟨g, 3, none⟩ = false := B1.frozen 3
 have ck : X1.cell? ⟨g, 3, none⟩ = some (.string (m1 1)) := B1.cell 3
 clear C1 B1
 rw [rounds_succ]
 go_wp2_with fail
 obtain ⟨X2, hW, K2, B'', C2⟩ : ∃ W, X1.setCell ⟨g, 3, none⟩ (.string (s 1)) = W ∧ Kp w W ∧ Blk W g 295 (spC (fun j => if j = 1 then s 1 else m1 j)) ∧ ∀ k, k < 7 → W.cell? ⟨b, k, none⟩ = some (.string (s k)) :=
  ⟨_, rfl, K1.setCell (by show w.heap.size ≤ g; omega) _, HB.out.set_ 3 (.string (s 1)), fun k hk => by rw [World.cell?_setCell_other _ _ _ _ (by intro e; injection e with e; exact hgb2 e)]; exact HC.out k hk⟩
 rw [hW]
 clear hW HC HB sk fk ck K1
 obtain ⟨m2, hn⟩ : ∃ n2 : Nat → ByteArray, (fun j => if j = 1 then s 1 else m1 j) = n2 := ⟨_, rfl⟩
 rw [hn] at B''
 have B2 := B''
 clear hn B''
 have HC := Lib.hid C2
 have HB := Lib.hid B2
 have sk := C2 2 (by omega)
 have fk : X2.frozen? ⟨g, 6, none⟩ = false := B2.frozen 6
 have ck : X2.cell? ⟨g, 6, none⟩ = some (.string (m2 2)) := B2.cell 6
 clear C2 B2
 rw [rounds_succ]
 go_wp2_with fail
 obtain ⟨X3, hW, K3, B'', C3⟩ : ∃ W, X2.setCell ⟨g, 6, none⟩ (.string (s 2)) = W ∧ Kp w W ∧ Blk W g 295 (spC (fun j => if j = 2 then s 2 else m2 j)) ∧ ∀ k, k < 7 → W.cell? ⟨b, k, none⟩ = some (.string (s k)) :=
  ⟨_, rfl, K2.setCell (by show w.heap.size ≤ g; omega) _, HB.out.set_ 6 (.string (s 2)), fun k hk => by rw [World.cell?_setCell_other _ _ _ _ (by intro e; injection e with e; exact hgb2 e)]; exact HC.out k hk⟩
 rw [hW]
 clear hW HC HB sk fk ck K2
 obtain ⟨m3, hn⟩ : ∃ n2 : Nat → ByteArray, (fun j => if j = 2 then s 2 else m2 j) = n2 := ⟨_, rfl⟩
 rw [hn] at B''
 have B3 := B''
 clear hn B''
 have HC := Lib.hid C3
 have HB := Lib.hid B3
 have sk := C3 3 (by omega)
 have fk : X3.frozen? ⟨g, 9, none⟩ = false := B3.frozen 9
 have ck : X3.cell? ⟨g, 9, none⟩ = some (.string (m3 3)) := B3.cell 9
 clear C3 B3
 rw [rounds_succ]
 go_wp2_with fail
 obtain ⟨X4, hW, K4, B'', C4⟩ : ∃ W, X3.setCell ⟨g, 9, none⟩ (.string (s 3)) = W ∧ Kp w W ∧ Blk W g 295 (spC (fun j => if j = 3 then s 3 else m3 j)) ∧ ∀ k, k < 7 → W.cell? ⟨b, k, none⟩ = some (.string (s k)) :=
  ⟨_, rfl, K3.setCell (by show w.heap.size ≤ g; omega) _, HB.out.set_ 9 (.string (s 3)), fun k hk => by rw [World.cell?_setCell_other _ _ _ _ (by intro e; injection e with e; exact hgb2 e)]; exact HC.out k hk⟩
 rw [hW]
 clear hW HC HB sk fk ck K3
 obtain ⟨m4, hn⟩ : ∃ n2 : Nat → ByteArray, (fun j => if j = 3 then s 3 else m3 j) = n2 := ⟨_, rfl⟩
 rw [hn] at B''
 have B4 := B''
 clear hn B''
 have HC := Lib.hid C4
 have HB := Lib.hid B4
 have sk := C4 4 (by omega)
 have fk : X4.frozen? ⟨g, 12, none⟩ = false := B4.frozen 12
 have ck : X4.cell? ⟨g, 12, none⟩ = some (.string (m4 4)) := B4.cell 12
 clear C4 B4
 rw [rounds_succ]
 go_wp2_with fail
 obtain ⟨X5, hW, K5, B'', C5⟩ : ∃ W, X4.setCell ⟨g, 12, none⟩ (.string (s 4)) = W ∧ Kp w W ∧ Blk W g 295 (spC (fun j => if j = 4 then s 4 else m4 j)) ∧ ∀ k, k < 7 → W.cell? ⟨b, k, none⟩ = some (.string (s k)) :=
  ⟨_, rfl, K4.setCell (by show w.heap.size ≤ g; omega) _, HB.out.set_ 12 (.string (s 4)), fun k hk => by rw [World.cell?_setCell_other _ _ _ _ (by intro e; injection e with e; exact hgb2 e)]; exact HC.out k hk⟩
 rw [hW]
 clear hW HC HB sk fk ck K4
 obtain ⟨m5, hn⟩ : ∃ n2 : Nat → ByteArray, (fun j => if j = 4 then s 4 else m4 j) = n2 := ⟨_, rfl⟩
 rw [hn] at B''
 have B5 := B''
 clear hn B''
 have HC := Lib.hid C5
 have HB := Lib.hid B5
 have sk := C5 5 (by omega)
 have fk : X5.frozen? ⟨g, 15, none⟩ = false := B5.frozen 15
 have ck : X5.cell? ⟨g, 15, none⟩ = some (.string (m5 5)) := B5.cell 15
 clear C5 B5
 rw [rounds_succ]
 go_wp2_with fail
 obtain ⟨X6, hW, K6, B'', C6⟩ : ∃ W, X5.setCell ⟨g, 15, none⟩ (.string (s 5)) = W ∧ Kp w W ∧ Blk W g 295 (spC (fun j => if j = 5 then s 5 else m5 j)) ∧ ∀ k, k < 7 → W.cell? ⟨b, k, none⟩ = some (.string (s k)) :=
  ⟨_, rfl, K5.setCell (by show w.heap.size ≤ g; omega) _, HB.out.set_ 15 (.string (s 5)), fun k hk => by rw [World.cell?_setCell_other _ _ _ _ (by intro e; injection e with e; exact hgb2 e)]; exact HC.out k hk⟩
 rw [hW]
 clear hW HC HB sk fk ck K5
 obtain ⟨m6, hn⟩ : ∃ n2 : Nat → ByteArray, (fun j => if j = 5 then s 5 else m5 j) = n2 := ⟨_, rfl⟩
 rw [hn] at B''
 have B6 := B''
 clear hn B''
 have HC := Lib.hid C6
 have HB := Lib.hid B6
 have sk := C6 6 (by omega)
 have fk : X6.frozen? ⟨g, 18, none⟩ = false := B6.frozen 18
 have ck : X6.cell? ⟨g, 18, none⟩ = some (.string (m6 6)) := B6.cell 18
 clear C6 B6
 rw [rounds_succ]
 go_wp2_with fail
 obtain ⟨X7, hW, K7, B'', C7⟩ : ∃ W, X6.setCell ⟨g, 18, none⟩ (.string (s 6)) = W ∧ Kp w W ∧ Blk W g 295 (spC (fun j => if j = 6 then s 6 else m6 j)) ∧ ∀ k, k < 7 → W.cell? ⟨b, k, none⟩ = some (.string (s k)) :=
  ⟨_, rfl, K6.setCell (by show w.heap.size ≤ g; omega) _, HB.out.set_ 18 (.string (s 6)), fun k hk => by rw [World.cell?_setCell_other _ _ _ _ (by intro e; injection e with e; exact hgb2 e)]; exact HC.out k hk⟩
 rw [hW]
 clear hW HC HB sk fk ck K6
 obtain ⟨m7, hn⟩ : ∃ n2 : Nat → ByteArray, (fun j => if j = 6 then s 6 else m6 j) = n2 := ⟨_, rfl⟩
 rw [hn] at B''
 have B7 := B''
 clear hn B''
 rw [rounds_succ]
 go_wp2_with fail
 go_ret
 exact ⟨g, m7, rfl, B7, by omega, K7⟩
end

end Go.Proofs.YtgopnfacklmkaaaGreatDoor
