/- Lemmas and contracts for the theorem of this claim: TmH, TmI, TmJ, TmK. -/
import Derived.Test.YtgopnfacklmkaaaGreatDoorZzAg
import Derived.Deep.RegionLaw
set_option linter.all false
set_option maxHeartbeats 16000000
namespace Go.Proofs.YtgopnfacklmkaaaGreatDoor
section
open Go.RowKit Go.Maps Go.WideShapes
structure DownW (w : World) (B q m g c n N : Nat) (l0 : List Tw) (i0 k : Nat) (l : List Tw) (wr : World) : Prop where
 qu : QuM wr B q m (.slice (some ⟨g, 0, none⟩) N c) l
 pm : l.Perm l0
 ln : l.length = N
 dn : DownH ltT (fT l) n i0 k
 ge : i0 ≤ k
 lt : k ≤ 1000000
 tl : ∀ x, n ≤ x → fT l x = fT l0 x
 st : k = i0 → l = l0
 on : Only [g, m] w wr
def DownP (B q m g c n N : Nat) (l : List Tw) (i0 : Nat) (w : World) (e : Ending) (w' : World) : Prop :=
 ∃ l' b, e = .returned (.bool b) ∧ l'.Perm l ∧ l'.length = N ∧ QuM w' B q m (.slice (some ⟨g, 0, none⟩) N c) l' ∧ (∀ x, n ≤ x → fT l' x = fT l x) ∧ (b = true → Heap ltT (fT l') n) ∧ (b = false → UpH ltT (fT l') n i0 ∧ l' = l) ∧ Only [g, m] w w'
theorem DownW.fin {w wr : World} {B q m g c n N : Nat} {l0 : List Tw} {i0 k : Nat} {l : List Tw} (R : DownW w B q m g c n N l0 i0 k l wr) (hc : ∀ j, 0 < j → j < n → parH j = k → ltT (fT l j) (fT l k) = false) : DownP B q m g c n N l0 i0 w (.returned (.bool (decide (i0 < k)))) wr := by
 obtain ⟨h1, h2⟩ := R.dn.stay hc
 refine ⟨l, decide (i0 < k), rfl, R.pm, R.ln, R.qu, R.tl, fun hb => h2 ?_, fun hb => ?_, R.on⟩
 ·have := of_decide_eq_true hb; omega
 ·have h3 := of_decide_eq_false hb
  have h4 : k = i0 := by have := R.ge; omega
  rw [h4] at h1
  exact ⟨h1, R.st h4⟩
theorem DownW.go {w wr w1 w2 : World} {B q m g c n N : Nat} {l0 : List Tw} {i0 k : Nat} {l : List Tw} (R : DownW w B q m g c n N l0 i0 k l wr) {j : Nat} (hj : j = 2 * k + 1 ∨ j = 2 * k + 2) (hn : j < n) (hN : n ≤ N) (hN6 : N ≤ 1000000) (hk : k < l.length) (hj2 : j < l.length) (hl : ltT l[j] l[k] = true) (hs : ∀ x, 0 < x → x < n → parH x = k → x ≠ j → ltT (fT l x) (fT l j) = false)
  (O1 : Only [g, m] w w1) (Q2 : QuM w2 B q m (.slice (some ⟨g, 0, none⟩) N c) (swapL l k j hk hj2)) (O2 : Only [g, m] w1 w2) : DownW w B q m g c n N l0 i0 j (swapL l k j hk hj2) w2 := by
 obtain ⟨h1, h2⟩ := R.dn.step vbj hj hn (by rw [fT_at hj2, fT_at hk]; exact hl) hs R.ge
 rw [← vbu l k j hk hj2] at h1
 refine ⟨Q2, (vaW l k j hk hj2).trans R.pm, by rw [vaF]; exact R.ln, h1, by omega, by omega, fun x hx => ?_, fun e => by omega, O1.trans O2⟩
 rw [vbu, swH_o _ (by omega) (by omega)]
 exact R.tl x hx
set_option maxRecDepth 100000 in
theorem vbG (B q m g c n N : Nat) (l : List Tw) (i0 : Nat) (w : World) (Q : QuM w B q m (.slice (some ⟨g, 0, none⟩) N c) l) (hN : l.length = N) (hn : n ≤ N) (hi : i0 ≤ 1000000) (hiN : i0 < N) (hlen : N ≤ 1000000) (hD : DownH ltT (fT l) n i0 i0) :
  Calls Tryz.prog 264 #[quI q, .int .i64 (i0 : Int), .int .i64 (n : Int)] w (DownP B q m g c n N l i0 w) := by
 have R0 : Hid (DownW w B q m g c n N l i0 i0 l w) := Lib.hid ⟨Q, List.Perm.refl _, hN, hD, Nat.le_refl _, hi, fun _ _ => rfl, fun _ => rfl, Only.refl _ _⟩
 clear Q hN hD
 go_enter Tryz.func264, Tryz.ntmps264
 go_wp2_with fail
 go_loopw [7] (fun s wr => ∃ (k : Nat) (l2 : List Tw), s = .int .i64 k ∧ k < N ∧ Hid (DownW w B q m g c n N l i0 k l2 wr)) (fun s _ => N - (intOf s).toNat)
 case atStart => exact ⟨i0, l, rfl, hiN, R0⟩
 case round =>
  obtain ⟨k, l2, rfl, hkN, R⟩ := hrel
  have hl2 := R.out.ln
  have hk6 := R.out.lt
  have gneg : decide (2 * (k : Int) + 1 < 0) = false := decide_eq_false (by omega)
  by_cases hjn : n ≤ 2 * k + 1
  ·have gd : (n : Int) ≤ 2 * (k : Int) + 1 := by omega
   have gdb : decide ((n : Int) ≤ 2 * (k : Int) + 1) = true := decide_eq_true gd
   have Hf := Lib.hid (R.out.fin (fun j j0 jn jp => by have := vde j0 jp; omega))
   have hdd : decide ((i0 : Int) < (k : Int)) = decide (i0 < k) := by simp
   have Hdd := Lib.hid hdd
   clear hl2 hdd hjn
   go_wp2_with fail
   go_ret
   first | exact Hf.out | (rw [Hdd.out]; exact Hf.out) | (have := Hf.out; rw [← Hdd.out] at this; exact this)
  ·have gd : ¬ (n : Int) ≤ 2 * (k : Int) + 1 := by omega
   have gdb : decide ((n : Int) ≤ 2 * (k : Int) + 1) = false := decide_eq_false gd
   have hk2 : k < l2.length := by omega
   have ha2 : 2 * k + 1 < l2.length := by omega
   have HB : Hid (Blk wr q 214 #[.slice (some ⟨g, 0, none⟩) l2.length c, .map (some m)]) := Lib.hid (by rw [hl2]; exact R.out.qu.bk)
   have HR : Hid (Rd wr 4 Tw.enc (some ⟨g, 0, none⟩) l2) := Lib.hid (R.out.qu.own.rdAt (by decide) Tw.len)
   have Hl2 := Lib.hid hl2
   clear hl2
   have hc1 : ((2 * k + 1 : Nat) : Int) = 2 * (k : Int) + 1 := by omega
   have hc2 : ((2 * k + 2 : Nat) : Int) = 2 * (k : Int) + 1 + 1 := by omega
   by_cases h2 : 2 * k + 2 < n
   ·have g2 : 2 * (k : Int) + 1 + 1 < (n : Int) := by omega
    have hb2 : 2 * k + 2 < l2.length := by have := Hl2.out; omega
    have HL := Lib.hid (vaS q (.map (some m)) (some ⟨g, 0, none⟩) c l2 (2 * k + 2) (2 * k + 1) wr HB.out HR.out hb2 ha2)
    have hL := HL.out
    rw [hc1, hc2] at hL
    have HLL := Lib.hid hL
    clear hc1 hc2 HL hL hjn h2
    go_wp2_with fail
    refine HLL.out.mono ?_
    rintro e w1 ⟨rfl, K1⟩
    clear HLL
    cases hl : ltT (l2[2 * k + 2]'hb2) (l2[2 * k + 1]'ha2) with
    | true =>
     have Hl := Lib.hid hl
     have Qw := Lib.hid (R.out.qu.keep K1)
     have Pw := Lib.hid (R.out.on.trans (Only.of_kp K1))
     have Hs := Lib.hid (show ∀ x, 0 < x → x < n → parH x = k → x ≠ 2 * k + 2 → ltT (fT l2 x) (fT l2 (2 * k + 2)) = false from fun x x0 xn xp xe => by
      have h5 := vde x0 xp
      have h6 : x = 2 * k + 1 := by omega
      rw [h6, fT_at ha2, fT_at hb2]
      exact vbj.asym _ _ Hl.out)
     have hjl : 2 * k + 2 < l2.length := by have := Hl2.out; omega
     have hL2 := vaS q (.map (some m)) (some ⟨g, 0, none⟩) c l2 (2 * k + 2) k w1 (HB.out.keep K1) (HR.out.keep K1) hjl hk2
     rw [show ((2 * k + 2 : Nat) : Int) = 2 * (k : Int) + 1 + 1 by omega] at hL2
     have HL2 := Lib.hid hL2
     clear hL2 hl
     go_wp2_with fail
     refine HL2.out.mono ?_
     rintro e w3 ⟨rfl, K3⟩
     have Qw3 := Lib.hid (Qw.out.keep K3)
     have Pw3 := Lib.hid (Pw.out.trans (Only.of_kp K3))
     clear K3 HL2 Qw
     cases hl3 : ltT (l2[2 * k + 2]'hjl) (l2[k]'hk2) with
     | false =>
      have Hf := Lib.hid (DownW.fin (wr := w3) ⟨Qw3.out, R.out.pm, R.out.ln, R.out.dn, R.out.ge, R.out.lt, R.out.tl, R.out.st, Pw3.out⟩ (fun x x0 xn xp => by
       by_cases e : x = 2 * k + 2
       ·rw [e, fT_at hjl, fT_at hk2]; exact hl3
       ·have h5 := Hs.out x x0 xn xp e
        rw [fT_at hjl] at h5
        rw [fT_at hk2]
        exact vbj.trans _ _ _ hl3 h5))
      have Hdd := Lib.hid (show decide ((i0 : Int) < (k : Int)) = decide (i0 < k) by simp)
      clear hl3
      go_wp2_with fail
      go_ret
      first | exact Hf.out | (rw [Hdd.out]; exact Hf.out) | (have := Hf.out; rw [← Hdd.out] at this; exact this)
     | true =>
      have hS := vaD B q m g c l2 k (2 * k + 2) w3 (by rw [Hl2.out]; exact Qw3.out) hk2 hjl (by rw [Hl2.out]; exact hlen)
      rw [show ((2 * k + 2 : Nat) : Int) = 2 * (k : Int) + 1 + 1 by omega, Hl2.out] at hS
      have HSS := Lib.hid hS
      have Hl3 := Lib.hid hl3
      clear hS hl3
      go_wp2_with fail
      refine HSS.out.mono ?_
      rintro e w4 ⟨rfl, Q4, O4⟩
      have Hn : Hid (DownW w B q m g c n N l i0 (2 * k + 2) (swapL l2 k (2 * k + 2) hk2 hjl) w4) := Lib.hid (R.out.go (by omega) (by omega) hn hlen hk2 hjl Hl3.out Hs.out Pw3.out Q4 O4)
      clear Q4 O4 HSS
      go_wp2_with fail
      go_roundw
      case rel => exact ⟨2 * k + 2, _, by go_num, by have := Hl2.out; omega, Hn⟩
      case measure => simp [intOf]; omega
    | false =>
     have Hl := Lib.hid hl
     have Qw := Lib.hid (R.out.qu.keep K1)
     have Pw := Lib.hid (R.out.on.trans (Only.of_kp K1))
     have Hs := Lib.hid (show ∀ x, 0 < x → x < n → parH x = k → x ≠ 2 * k + 1 → ltT (fT l2 x) (fT l2 (2 * k + 1)) = false from fun x x0 xn xp xe => by
      have h5 := vde x0 xp
      have h6 : x = 2 * k + 2 := by omega
      rw [h6, fT_at ha2, fT_at hb2]
      exact Hl.out)
     have hjl : 2 * k + 1 < l2.length := by have := Hl2.out; omega
     have hL2 := vaS q (.map (some m)) (some ⟨g, 0, none⟩) c l2 (2 * k + 1) k w1 (HB.out.keep K1) (HR.out.keep K1) hjl hk2
     rw [show ((2 * k + 1 : Nat) : Int) = 2 * (k : Int) + 1 by omega] at hL2
     have HL2 := Lib.hid hL2
     clear hL2 hl
     go_wp2_with fail
     refine HL2.out.mono ?_
     rintro e w3 ⟨rfl, K3⟩
     have Qw3 := Lib.hid (Qw.out.keep K3)
     have Pw3 := Lib.hid (Pw.out.trans (Only.of_kp K3))
     clear K3 HL2 Qw
     cases hl3 : ltT (l2[2 * k + 1]'hjl) (l2[k]'hk2) with
     | false =>
      have Hf := Lib.hid (DownW.fin (wr := w3) ⟨Qw3.out, R.out.pm, R.out.ln, R.out.dn, R.out.ge, R.out.lt, R.out.tl, R.out.st, Pw3.out⟩ (fun x x0 xn xp => by
       by_cases e : x = 2 * k + 1
       ·rw [e, fT_at hjl, fT_at hk2]; exact hl3
       ·have h5 := Hs.out x x0 xn xp e
        rw [fT_at hjl] at h5
        rw [fT_at hk2]
        exact vbj.trans _ _ _ hl3 h5))
      have Hdd := Lib.hid (show decide ((i0 : Int) < (k : Int)) = decide (i0 < k) by simp)
      clear hl3
      go_wp2_with fail
      go_ret
      first | exact Hf.out | (rw [Hdd.out]; exact Hf.out) | (have := Hf.out; rw [← Hdd.out] at this; exact this)
     | true =>
      have hS := vaD B q m g c l2 k (2 * k + 1) w3 (by rw [Hl2.out]; exact Qw3.out) hk2 hjl (by rw [Hl2.out]; exact hlen)
      rw [show ((2 * k + 1 : Nat) : Int) = 2 * (k : Int) + 1 by omega, Hl2.out] at hS
      have HSS := Lib.hid hS
      have Hl3 := Lib.hid hl3
      clear hS hl3
      go_wp2_with fail
      refine HSS.out.mono ?_
      rintro e w4 ⟨rfl, Q4, O4⟩
      have Hn : Hid (DownW w B q m g c n N l i0 (2 * k + 1) (swapL l2 k (2 * k + 1) hk2 hjl) w4) := Lib.hid (R.out.go (by omega) (by omega) hn hlen hk2 hjl Hl3.out Hs.out Pw3.out Q4 O4)
      clear Q4 O4 HSS
      go_wp2_with fail
      go_roundw
      case rel => exact ⟨2 * k + 1, _, by go_num, by have := Hl2.out; omega, Hn⟩
      case measure => simp [intOf]; omega
   ·have g2 : ¬ 2 * (k : Int) + 1 + 1 < (n : Int) := by omega
    have g2b : decide (2 * (k : Int) + 1 + 1 < (n : Int)) = false := decide_eq_false g2
    have K1 : Kp wr wr := Kp.refl wr
    clear hc1 hc2
    have Qw := Lib.hid (R.out.qu.keep K1)
    have Pw := Lib.hid (R.out.on.trans (Only.of_kp K1))
    have Hs := Lib.hid (show ∀ x, 0 < x → x < n → parH x = k → x ≠ 2 * k + 1 → ltT (fT l2 x) (fT l2 (2 * k + 1)) = false from fun x x0 xn xp xe => by
     have h5 := vde x0 xp
     omega)
    have hjl : 2 * k + 1 < l2.length := by have := Hl2.out; omega
    have hL2 := vaS q (.map (some m)) (some ⟨g, 0, none⟩) c l2 (2 * k + 1) k wr (HB.out.keep K1) (HR.out.keep K1) hjl hk2
    rw [show ((2 * k + 1 : Nat) : Int) = 2 * (k : Int) + 1 by omega] at hL2
    have HL2 := Lib.hid hL2
    clear hL2
    go_wp2_with fail
    refine HL2.out.mono ?_
    rintro e w3 ⟨rfl, K3⟩
    have Qw3 := Lib.hid (Qw.out.keep K3)
    have Pw3 := Lib.hid (Pw.out.trans (Only.of_kp K3))
    clear K3 HL2 Qw
    cases hl3 : ltT (l2[2 * k + 1]'hjl) (l2[k]'hk2) with
    | false =>
     have Hf := Lib.hid (DownW.fin (wr := w3) ⟨Qw3.out, R.out.pm, R.out.ln, R.out.dn, R.out.ge, R.out.lt, R.out.tl, R.out.st, Pw3.out⟩ (fun x x0 xn xp => by
      by_cases e : x = 2 * k + 1
      ·rw [e, fT_at hjl, fT_at hk2]; exact hl3
      ·have h5 := Hs.out x x0 xn xp e
       rw [fT_at hjl] at h5
       rw [fT_at hk2]
       exact vbj.trans _ _ _ hl3 h5))
     have Hdd := Lib.hid (show decide ((i0 : Int) < (k : Int)) = decide (i0 < k) by simp)
     clear hl3
     go_wp2_with fail
     go_ret
     first | exact Hf.out | (rw [Hdd.out]; exact Hf.out) | (have := Hf.out; rw [← Hdd.out] at this; exact this)
    | true =>
     have hS := vaD B q m g c l2 k (2 * k + 1) w3 (by rw [Hl2.out]; exact Qw3.out) hk2 hjl (by rw [Hl2.out]; exact hlen)
     rw [show ((2 * k + 1 : Nat) : Int) = 2 * (k : Int) + 1 by omega, Hl2.out] at hS
     have HSS := Lib.hid hS
     have Hl3 := Lib.hid hl3
     clear hS hl3
     go_wp2_with fail
     refine HSS.out.mono ?_
     rintro e w4 ⟨rfl, Q4, O4⟩
     have Hn : Hid (DownW w B q m g c n N l i0 (2 * k + 1) (swapL l2 k (2 * k + 1) hk2 hjl) w4) := Lib.hid (R.out.go (by omega) (by omega) hn hlen hk2 hjl Hl3.out Hs.out Pw3.out Q4 O4)
     clear Q4 O4 HSS
     go_wp2_with fail
     go_roundw
     case rel => exact ⟨2 * k + 1, _, by go_num, by have := Hl2.out; omega, Hn⟩
     case measure => simp [intOf]; omega
theorem ERowT : ElemOf Tryz.prog 212 337 (.agg #[.int .i64 0, .int .u32 0, .int .i64 0, .int .i64 0]) 4 32 := ⟨Tryz.underlying212, by kernel_rfl, rfl, by decide⟩
theorem rowTa (v : Value) (w : World) : (Instr.typeAssert (.iface 337 v) 20 337 false).run Tryz.prog w = .ok v w := by kernel_rfl
theorem PlOf.push {f : Tk → Option Nat} {l : List Tw} (h : PlOf f l) {x : Tw} (hn : ∀ i (h : i < l.length), l[i].tk ≠ x.tk) : PlOf (updT f x.tk (some l.length)) (l ++ [x]) := by
 constructor
 ·intro i hi
  by_cases e : i < l.length
  ·rw [List.getElem_append_left e, vai _ _ (hn i e)]
   exact h.at_ i e
  ·have e2 : i = l.length := by simp at hi; omega
   subst e2
   rw [List.getElem_append_right (Nat.le_refl _)]
   simp only [Nat.sub_self, List.getElem_cons_zero]
   exact vaG _ _ _
 ·intro t ht
  have h1 := ht l.length (by simp)
  rw [List.getElem_append_right (Nat.le_refl _)] at h1
  simp only [Nat.sub_self, List.getElem_cons_zero] at h1
  rw [vai _ _ (fun e => h1 e.symm)]
  refine h.no t (fun i hi => ?_)
  have h2 := ht i (by simp; omega)
  rw [List.getElem_append_left hi] at h2
  exact h2
theorem Own.farT {w : World} {B : Nat} {v : Value} {l : List Tw} (h : Own w B 337 4 Tw.enc v l) {g : Nat} {t : TypeId} {cs : Array Value} (hB : Blk w g t cs) (ht : t ≠ 337) : some g ≠ v.ownBlock := by
 rintro hv
 rcases h.2 with ⟨h2, _⟩ | ⟨q, cap, cur, hq, _, hh, _⟩
 ·rw [h2] at hv; cases hv
 ·rw [hq] at hv
  injection hv with hv
  subst hv
  have := hB.symm.trans hh
  injection this with this
  injection this with _ this
  exact ht this
theorem Own.farM {w : World} {B m n : Nat} {v : Value} {l : List Tw} {f : Tk → Option Nat} (h : Own w B 337 4 Tw.enc v l) (hm : MpT w m n f) : some m ≠ v.ownBlock := by
 rintro hv
 rcases h.2 with ⟨h2, _⟩ | ⟨q, cap, cur, hq, _, hh, _⟩
 ·rw [h2] at hv; cases hv
 ·rw [hq] at hv
  injection hv with hv
  subst hv
  exact hm.ne (show Blk w m 337 cur from hh) rfl
theorem Own.lieT {w w' : World} {B : Nat} {v : Value} {l : List Tw} (h : Own w B 337 4 Tw.enc v l) (e : ∀ g, v.ownBlock = some g → w'.heap[g]? = w.heap[g]?) : Own w' B 337 4 Tw.enc v l := by
 refine ⟨h.1, ?_⟩
 rcases h.2 with h2 | ⟨g, cap, cur, hv, hg, hh, r⟩
 ·exact .inl h2
 ·exact .inr ⟨g, cap, cur, hv, hg, (e g (by rw [hv]; rfl)).trans hh, r⟩
theorem MpT.lt {w : World} {m n : Nat} {f : Tk → Option Nat} (h : MpT w m n f) : m < w.heap.size := by
 obtain ⟨es, cl, h1⟩ := h.heap
 exact (Array.getElem?_eq_some_iff.1 h1).1
theorem MpT.lie {w w' : World} {m n : Nat} {f : Tk → Option Nat} (h : MpT w m n f) (e : w'.heap[m]? = w.heap[m]?) : MpT w' m n f := by
 obtain ⟨D, hD, r⟩ := h
 exact ⟨D, vap hD e, r⟩
theorem vlH {B q m : Nat} {A : Option Addr} {c g cap : Nat} {l : List Tw} {x : Tw} {f' : Tk → Option Nat} {w W0 W1 w4 : World} {o : Obj} (Q : QuM w B q m (.slice A l.length c) l) (hx : x.tk.wf) (hd : wfI x.d) (K0 : Kp w W0) (P1 : Only [m] W0 W1) (M1 : MpT W1 m (l.length + 1) f') (Hp : PlOf f' (l ++ [x]))
  (hfm : some m ≠ (Value.slice A l.length c).ownBlock) (hmq : m ≠ q) (hown4 : Own w4 B 337 4 Tw.enc (.slice (some ⟨g, 0, none⟩) (l.length + 1) cap) (l ++ [x])) (hg : (W1.drew.alloc o).grownBy w4 (Value.slice A l.length c).ownBlock) (B4 : Blk w4 q 214 #[.slice A l.length c, .map (some m)]) :
  QuM (w4.setCell ⟨q, 0, none⟩ (.slice (some ⟨g, 0, none⟩) (l.length + 1) cap)) B q m (.slice (some ⟨g, 0, none⟩) (l.length + 1) cap) (l ++ [x]) ∧ ∀ bs : List Nat, q ∈ bs → m ∈ bs → (∀ g, (Value.slice A l.length c).ownBlock = some g → g ∈ bs) → Only bs w (w4.setCell ⟨q, 0, none⟩ (.slice (some ⟨g, 0, none⟩) (l.length + 1) cap)) := by
 have PG : ∀ bs : List Nat, (∀ g, (Value.slice A l.length c).ownBlock = some g → g ∈ bs) → Only bs W1 w4 := fun bs hb => by
  have h1 : Only bs W1 (W1.drew.alloc o) := ((Only.refl bs W1).drew).alloc o
  exact h1.trans ⟨hg.os, hg.tape, hg.output, hg.size, fun k hk hn => hg.block k hk (fun e => hn (hb k e.symm))⟩
 have PS : Only [q] w4 (w4.setCell ⟨q, 0, none⟩ (.slice (some ⟨g, 0, none⟩) (l.length + 1) cap)) := (Only.refl [q] w4).setCell (p := ⟨q, 0, none⟩) (.inl (by simp)) _
 have hm4 : w4.heap[m]? = W1.heap[m]? := by
  have := hg.block m (Nat.lt_of_lt_of_le M1.lt (((Only.refl [] W1).drew.alloc o).size)) hfm
  exact this.trans (((Only.refl [] W1).drew.alloc o).block m M1.lt (by simp))
 have M4 := M1.lie hm4
 have hfar := hown4.farT B4 (by decide)
 refine ⟨⟨?_, ?_, ⟨f', ?_, Hp⟩, ?_⟩, ?_⟩
 ·simpa using B4.set_ 0 (.slice (some ⟨g, 0, none⟩) (l.length + 1) cap)
 ·exact hown4.lieT (fun k hk => PS.block k (World.ownsRow.lt hown4 k hk).2 (by simpa using fun e => hfar (by rw [hk, e])))
 ·have h5 := M4.lie (PS.block m M4.lt (by simpa using hmq))
  simpa using h5
 ·intro t ht
  rcases List.mem_append.1 ht with h | h
  ·exact Q.wf t h
  ·rw [List.mem_singleton] at h
   subst h
   exact ⟨hx, hd⟩
 ·intro bs hq hm ho
  exact (((Only.of_kp K0).trans (P1.wide (by simpa using hm))).trans (PG bs ho)).trans (PS.wide (by simpa using hq))
set_option maxRecDepth 100000 in
theorem vfy (B q m : Nat) (A : Option Addr) (c : Nat) (l : List Tw) (x : Tw) (w : World) (Q : QuM w B q m (.slice A l.length c) l) (hB : B ≤ w.heap.size) (hx : x.tk.wf) (hd : wfI x.d) (hn : ∀ i (h : i < l.length), l[i].tk ≠ x.tk) (hl : l.length ≤ 1000000) :
  Calls Tryz.prog 354 #[.pointer (some ⟨q, 0, none⟩), .iface 337 (.agg #[.int .i64 x.k, .int .u32 x.p.a, .int .i64 x.p.l, .int .i64 x.d])] w fun e w' => e = .returned (.tuple #[]) ∧ ∃ g c', QuM w' B q m (.slice (some ⟨g, 0, none⟩) (l.length + 1) c') (l ++ [x]) ∧ ((Value.slice A l.length c).ownBlock = some g ∨ w.heap.size ≤ g) ∧ ∀ bs : List Nat, q ∈ bs → m ∈ bs → (∀ g, (Value.slice A l.length c).ownBlock = some g → g ∈ bs) → Only bs w w' := by
 obtain ⟨f, hm, hp⟩ := Q.mp
 obtain ⟨p, hp0⟩ : ∃ p, w.heap.size = p := ⟨_, rfl⟩
 obtain ⟨W0, hW0, K0, BP⟩ := Blk.al1 hp0 #[.int .i64 x.k, .int .u32 x.p.a, .int .i64 x.p.l, .int .i64 x.d] 337
 have Q0 := Q.keep K0
 have hm0 : MpT W0 m l.length f := hm.lie (K0.heap hm.lt)
 obtain ⟨c0, c1⟩ := Blk.v2 Q0.bk (.slice A l.length c) (.map (some m)) rfl
 obtain ⟨p0, p1, p2, p3⟩ := Blk.v4 BP (.int .i64 x.k) (.int .u32 x.p.a) (.int .i64 x.p.l) (.int .i64 x.d) rfl
 have hta := rowTa
 have hqp : q ≠ p := by have := Q.bk.lt; omega
 have hmp : m ≠ p := by have := hm.lt; omega
 have hmq : m ≠ q := hm.ne Q.bk
 have wfn : (Lit.int .i64 (l.length : Int)).wf = true := vdz ⟨by omega, by omega⟩
 have hlt : l.length < maxLen := by simp only [maxLen]; omega
 have hft : f x.tk = none := hp.no _ hn
 have Hp := Lib.hid (hp.push hn)
 go_enter Tryz.func354, Tryz.ntmps354
 go_wp2_with fail
 try rw [hp0]
 try rw [hW0]
 clear hW0
 obtain ⟨D, hD, hnD, hf⟩ := hm0
 go_still_tail 11, (by kernel_rfl)
 change wpList _ _ _ _ _ W0.drew
 refine wpList_mapUpdate_in W0.drew rfl _ _ _ 211 rfl 252 3 keyedTm Tryz.underlying211 (plainElem Tryz.prog 3) m l.length D rfl (vap hD rfl) hlt (tkV x.tk) (.int .i64 (l.length : Int)) (tkKey x.tk) rfl rfl (vbg hx) (.lit (.int .i64 (l.length : Int))) [] (plainElem_int Tryz.underlying3 wfn) ?_
 intro W1 hD1 hT1
 have M1 := MpT.put hx (vap (w' := W0.drew) hD rfl) hnD hf hD1
 rw [if_neg (by rw [hft]; decide)] at M1
 have P1 : Only [m] W0 W1 := ((Only.refl [m] W0).drew).trans (Only.turned hT1)
 have B1 := Q0.bk.only P1 (by simpa using fun e => hmq e.symm)
 have BP1 := BP.only P1 (by simpa using fun e => hmp e.symm)
 have hfm := Q0.own.farM (hm.lie (K0.heap hm.lt))
 have O1 : Own W1 B 337 4 Tw.enc (.slice A l.length c) l := Q0.own.lieT (fun g hg => P1.block g (World.ownsRow.lt Q0.own g hg).2 (by simpa using fun e => hfm (by rw [hg, e])))
 clear hD1 hT1 c0 c1 p0 p1 p2 p3 hta
 have c0 : W1.cell? ⟨q, 0, none⟩ = some (.slice A l.length c) := B1.cell 0
 have c0' : ∀ o, (W1.alloc o).cell? ⟨q, 0, none⟩ = some (.slice A l.length c) := fun o => (B1.alloc o).cell 0
 obtain ⟨p0, p1, p2, p3⟩ := Blk.v4 BP1 (.int .i64 x.k) (.int .u32 x.p.a) (.int .i64 x.p.l) (.int .i64 x.d) rfl
 have Hne := Lib.hid (O1.farT B1 (by decide))
 have Hfm := Lib.hid (show some m ≠ (Value.slice A l.length c).ownBlock from hfm)
 have hB1 : B ≤ W1.heap.size := Nat.le_trans hB (Nat.le_trans K0.size P1.size)
 go_wp2_with fail
 go_region_law ((refine vfq ERowT (by rfl) _ _ (by rfl) x (by rfl) (O1.drew.alloc _) (by simp; omega) (by rfl) (e' := 337) (heap_alloc_new _ _) (by rfl) (by rfl) (by rfl) (by omega) ?_; intro g cap w4 hown4 hg hat; have B4 := (B1.drew.alloc _).grown hg Hne.out; have z4 := B4.frozen 0; have y4 : w4.cell? ⟨q, 0, none⟩ = some (.slice A l.length c) := B4.cell 0))
 all_goals
  go_wp2_with fail
  go_end0
  have hE := vlH Q hx hd K0 P1 M1 Hp.out Hfm.out hmq hown4 hg B4
  exact ⟨rfl, g, cap, hE.1, hat.imp id (fun e => by
   have h1 := K0.size
   have h2 := P1.size
   have h3 : W1.heap.size ≤ g := by rw [e]; simp
   omega), hE.2⟩
theorem PlOf.pop {f : Tk → Option Nat} {l : List Tw} {x : Tw} (h : PlOf f (l ++ [x])) : PlOf (updT f x.tk none) l := by
 have hx := h.at_ l.length (by simp)
 rw [List.getElem_append_right (Nat.le_refl _)] at hx
 simp only [Nat.sub_self, List.getElem_cons_zero] at hx
 constructor
 ·intro i hi
  have h1 := h.at_ i (by simp; omega)
  rw [List.getElem_append_left hi] at h1
  rw [vai _ _ (fun e => by rw [e, hx] at h1; injection h1 with h1; omega)]
  exact h1
 ·intro t ht
  by_cases e : t = x.tk
  ·rw [e, vaG]
  ·rw [vai _ _ e]
   refine h.no t (fun i hi => ?_)
   by_cases h2 : i < l.length
   ·rw [List.getElem_append_left h2]; exact ht i h2
   ·have e2 : i = l.length := by simp at hi; omega
    subst e2
    rw [List.getElem_append_right (Nat.le_refl _)]
    simp only [Nat.sub_self, List.getElem_cons_zero]
    exact fun h3 => e h3.symm
theorem Own.popT {w : World} {B g n c : Nat} {l : List Tw} {x : Tw} (h : Own w B 337 4 Tw.enc (.slice (some ⟨g, 0, none⟩) (n + 1) c) (l ++ [x])) (hn : l.length = n) : Own w B 337 4 Tw.enc (.slice (some ⟨g, 0, none⟩) n c) l ∧ n + 1 ≤ c := by
 subst hn
 rcases h.2 with ⟨h2, _⟩ | ⟨g', cap, cur, hv, hg, hh, hn, hm, hs, ht⟩
 ·cases h2
 ·injection hv with e1 e2 e3
  injection e1 with e1
  injection e1 with e1
  subst e1
  subst e3
  have hl := vdB Tw.len l
  simp only [List.length_append, List.length_cons, List.length_nil, Nat.zero_add] at hn ht
  refine ⟨⟨hl, .inr ⟨g, c, cur, rfl, hg, hh, by omega, hm, hs, ?_⟩⟩, hn⟩
  have h3 := congrArg (List.take (l.length * 4)) ht
  rw [List.take_take, Nat.min_eq_left (by omega), List.flatMap_append, List.take_append_of_le_length (by rw [hl]; exact Nat.le_refl _)] at h3
  rw [h3]
  exact List.take_of_length_le (by rw [hl]; exact Nat.le_refl _)
abbrev twV (x : Tw) : Value := .agg #[.int .i64 x.k, .int .u32 (x.p.a : Int), .int .i64 x.p.l, .int .i64 x.d]
set_option maxRecDepth 100000 in
theorem vbv (B q m g c n : Nat) (l : List Tw) (x : Tw) (w : World) (Q : QuM w B q m (.slice (some ⟨g, 0, none⟩) (n + 1) c) (l ++ [x])) (hn : l.length = n) (hl : n ≤ 1000000) :
  Calls Tryz.prog 353 #[.pointer (some ⟨q, 0, none⟩)] w fun e w' => e = .returned (.iface 337 (twV x)) ∧ QuM w' B q m (.slice (some ⟨g, 0, none⟩) n c) l ∧ Only [q, m] w w' := by
 obtain ⟨f, hm, hp⟩ := Q.mp
 obtain ⟨hO, hnc⟩ := Q.own.popT hn
 have hfx : f x.tk = some n := by
  have hx := hp.at_ l.length (by simp)
  rw [List.getElem_append_right (Nat.le_refl _)] at hx
  simp only [Nat.sub_self, List.getElem_cons_zero] at hx
  rw [hx, hn]
 have hL : (l ++ [x]).length = n + 1 := by simp [hn]
 rw [hL] at hm
 obtain ⟨b, off, hA, x0, x1, x2, x3⟩ := tw_at (Q.own.rdAt (by decide) Tw.len) (k := n) (by omega)
 injection hA with hA
 injection hA with e1 e2
 subst e1
 subst e2
 rw [Nat.zero_add] at x0 x1 x2 x3
 have hxn : (l ++ [x])[n]'(by omega) = x := by
  subst hn
  rw [List.getElem_append_right (Nat.le_refl _)]
  simp
 rw [hxn] at x0 x1 x2 x3
 have wfx : x.tk.wf ∧ wfI x.d := Q.wf x (by simp)
 have hwl : ∀ t ∈ l, t.tk.wf ∧ wfI t.d := fun t ht => Q.wf t (by simp [ht])
 obtain ⟨cur, hcur⟩ := hO.blk4
 have hmg : m ≠ g := hm.ne hcur
 have hmq : m ≠ q := hm.ne Q.bk
 have hqg : q ≠ g := Q.bk.ne_tagT hcur (by decide)
 obtain ⟨p, hp0⟩ : ∃ p, w.heap.size = p := ⟨_, rfl⟩
 have hqp : ¬ q = p := by have := Q.bk.lt; omega
 have hmp : m ≠ p := by have := hm.lt; omega
 have hgp : g ≠ p := by have := hcur.lt; omega
 have hpq : ¬ p = q := fun e => hqp e.symm
 obtain ⟨W0, hW0, P0, BP, BQ⟩ : ∃ W0, (w.alloc (.cells #[.int .i64 x.k, .int .u32 (x.p.a : Int), .int .i64 x.p.l, .int .i64 x.d] 337)).setCell ⟨q, 0, none⟩ (.slice (some ⟨g, 0, none⟩) n c) = W0 ∧ Only [q] w W0 ∧ Blk W0 p 337 #[.int .i64 x.k, .int .u32 (x.p.a : Int), .int .i64 x.p.l, .int .i64 x.d] ∧ Blk W0 q 214 #[.slice (some ⟨g, 0, none⟩) n c, .map (some m)] :=
  ⟨_, rfl, ((Only.refl [q] w).alloc _).setCell (p := ⟨q, 0, none⟩) (.inl (by simp)) _, by rw [← hp0]; exact (Blk.new w 337 #[.int .i64 x.k, .int .u32 (x.p.a : Int), .int .i64 x.p.l, .int .i64 x.d]).far (p := ⟨q, 0, none⟩) (by rw [hp0]; exact hpq) _, by simpa using (Q.bk.alloc (.cells #[.int .i64 x.k, .int .u32 (x.p.a : Int), .int .i64 x.p.l, .int .i64 x.d] 337)).set_ 0 (.slice (some ⟨g, 0, none⟩) n c)⟩
 have c0 : w.cell? ⟨q, 0, none⟩ = some (.slice (some ⟨g, 0, none⟩) (n + 1) c) := Q.bk.cell 0
 have z0 := Blk.frozen Q.bk
 have c0' : ∀ o, (w.alloc o).cell? ⟨q, 0, none⟩ = some (.slice (some ⟨g, 0, none⟩) (n + 1) c) := fun o => (Q.bk.alloc o).cell 0
 have z0' : ∀ o, (w.alloc o).frozen? ⟨q, 0, none⟩ = false := fun o => (Q.bk.alloc o).frozen 0
 have n0 : (0 : Int) ≤ (n : Int) := by omega
 have n1 : (n : Int) < (n : Int) + 1 := by omega
 have n2 : (n : Int) ≤ (c : Int) := by omega
 have n3 : IntKind.i64.wrap ((n : Int) + 1 - 1) = (n : Int) := by rw [IntWalk.i64_in _ (by omega)]; omega
 have Hp := Lib.hid hp.pop
 have q1 : W0.cell? ⟨q, 1, none⟩ = some (.map (some m)) := BQ.cell 1
 obtain ⟨p0, p1, p2, p3⟩ := Blk.v4 BP (.int .i64 x.k) (.int .u32 x.p.a) (.int .i64 x.p.l) (.int .i64 x.d) rfl
 have Hn := Lib.hid hn
 have HL := Lib.hid hL
 have Hp0 := Lib.hid hp0
 clear hxn hn hL
 go_enter Tryz.func353, Tryz.ntmps353
 go_upto_region 4 with (fail)
 try rw [hW0]
 clear hW0 c0 c0' z0 z0' x0 x1 x2 x3
 have hm0 : MpT W0 m (n + 1) f := hm.lie (P0.block m hm.lt (by simpa using hmq))
 have hg0 : W0.heap[g]? = w.heap[g]? := P0.block g hcur.lt (by simpa using fun e => hqg e.symm)
 obtain ⟨D, hD, hnD, hf⟩ := hm0
 go_still_tail 6, (by kernel_rfl)
 change wpList _ _ _ _ _ W0.drew
 refine wpList_delete_own W0.drew rfl _ _ 211 252 rfl 3 keyedTm Tryz.underlying211 (plainElem Tryz.prog 3) m (n + 1) D rfl (vap hD rfl) (tkV x.tk) (tkKey x.tk) rfl (vbg wfx.1) ?_
 intro W1 hD1 hT1
 have M1 := MpT.del wfx.1 (vap (w' := W0.drew) hD rfl) hnD hf hD1
 rw [if_pos (by rw [hfx]; rfl), Nat.add_sub_cancel] at M1
 have P1 : Only [m] W0 W1 := ((Only.refl [m] W0).drew).trans (Only.turned hT1)
 have BQ1 := BQ.only P1 (by simpa using fun e => hmq e.symm)
 have BP1 := BP.only P1 (by simpa using fun e => hmp e.symm)
 have hg1 : W1.heap[g]? = w.heap[g]? := by
  have h5 : g < W0.heap.size := Nat.lt_of_lt_of_le hcur.lt P0.size
  exact (P1.block g h5 (by simpa using fun e => hmg e.symm)).trans hg0
 have O1 := hO.lie hg1
 clear hD1 hT1 q1 p0 p1 p2 p3
 obtain ⟨p0, p1, p2, p3⟩ := Blk.v4 BP1 (.int .i64 x.k) (.int .u32 x.p.a) (.int .i64 x.p.l) (.int .i64 x.d) rfl
 go_wp2_with fail
 go_ret
 refine ⟨rfl, ⟨BQ1, O1, ⟨_, by rw [Hn.out]; exact M1, Hp.out⟩, hwl⟩, (P0.wide (by simp)).trans (P1.wide (by simp))⟩
theorem Heap.congr {α : Type} {lt : α → α → Bool} {f g : Nat → α} {n : Nat} (h : Heap lt f n) (e : ∀ k, k < n → g k = f k) : Heap lt g n := fun k h0 hn => by
 rw [e k hn, e (parH k) (by have := vaz h0; omega)]
 exact h k h0 hn
theorem vfz (l : List Tw) (x : Tw) {k : Nat} (hk : k < l.length) : fT (l ++ [x]) k = fT l k := by
 rw [fT_at (by simp; omega), fT_at hk, List.getElem_append_left hk]
theorem veP (l : List Tw) (x : Tw) : fT (l ++ [x]) l.length = x := by
 rw [fT_at (by simp), List.getElem_append_right (Nat.le_refl _)]
 simp
theorem vbQ {l : List Tw} {n : Nat} (h : l.length = n + 1) : ∃ l' x, l = l' ++ [x] ∧ l'.length = n := by
 have hne : l ≠ [] := fun e => by rw [e] at h; simp at h
 exact ⟨l.dropLast, l.getLast hne, (List.dropLast_concat_getLast hne).symm, by simp [h]⟩
set_option maxRecDepth 100000 in
theorem vfA (B q m : Nat) (A : Option Addr) (c n : Nat) (l : List Tw) (x : Tw) (w : World) (Q : QuM w B q m (.slice A l.length c) l) (hln : l.length = n) (hB : B ≤ w.heap.size) (hx : x.tk.wf) (hd : wfI x.d) (hn : ∀ i (h : i < l.length), l[i].tk ≠ x.tk) (hl : n ≤ 900000) (hH : Heap ltT (fT l) n) :
  Calls Tryz.prog 255 #[quI q, .iface 337 (twV x)] w fun e w' => e = .returned (.tuple #[]) ∧ ∃ g c' l', QuM w' B q m (.slice (some ⟨g, 0, none⟩) (n + 1) c') l' ∧ l'.Perm (l ++ [x]) ∧ l'.length = n + 1 ∧ Heap ltT (fT l') (n + 1) ∧ ((Value.slice A l.length c).ownBlock = some g ∨ w.heap.size ≤ g) ∧ ∀ bs : List Nat, q ∈ bs → m ∈ bs → (∀ g, (Value.slice A l.length c).ownBlock = some g → g ∈ bs) → Only bs w w' := by
 have hP := Lib.hid (vfy B q m A c l x w Q hB hx hd hn (by omega))
 have hU : UpH ltT (fT (l ++ [x])) (n + 1) n := Heap.push (hH.congr (fun k hk => vfz l x (by omega)))
 have HU := Lib.hid hU
 have Hln := Lib.hid hln
 clear hn hH hU hln
 go_enter Tryz.func255, Tryz.ntmps255
 go_wp2_with fail
 refine hP.out.mono ?_
 rintro e w1 ⟨rfl, g, c', Q1, hg, hF⟩
 rw [Hln.out] at Q1
 have HF := Lib.hid hF
 have Hg := Lib.hid hg
 clear hF hg hP
 go_wp2_with fail
 refine (vaA q (.map (some m)) (some ⟨g, 0, none⟩) (n + 1) c' w1 Q1.bk).mono ?_
 rintro e w1 ⟨rfl, rfl⟩
 have hw : IntKind.i64.wrap (n : Int) = (n : Int) := IntWalk.i64_in _ (by omega)
 go_wp2_with fail
 refine (vcL B q m g c' (n + 1) (n + 1) (l ++ [x]) n w1 Q1 (by rw [List.length_append, Hln.out]; rfl) (Nat.le_refl _) (by omega) (by omega) HU.out).mono ?_
 rintro e w2 ⟨rfl, l2, hp2, hl2, hH2, _, Q2, O2⟩
 go_wp2_with fail
 go_end0
 refine ⟨rfl, g, c', l2, Q2, hp2, hl2, hH2, Hg.out, fun bs hq hm ho => ?_⟩
 have h1 := HF.out bs hq hm ho
 refine ⟨O2.os.trans h1.os, O2.tape.trans h1.tape, O2.output.trans h1.output, Nat.le_trans h1.size O2.size, fun k hk hb => ?_⟩
 refine (O2.block k (Nat.lt_of_lt_of_le hk h1.size) ?_).trans (h1.block k hk hb)
 intro hh
 rcases List.mem_cons.1 hh with e | hh
 ·subst e
  rcases Hg.out with h | h
  ·exact hb (ho _ h)
  ·omega
 ·rw [List.mem_singleton] at hh
  subst hh
  exact hb hm
set_option maxRecDepth 100000 in
theorem vgm (B q m g c n : Nat) (l : List Tw) (i : Nat) (w : World) (Q : QuM w B q m (.slice (some ⟨g, 0, none⟩) n c) l) (hn : l.length = n) (hi : i < n) (hl : n ≤ 1000000) (hD : DownH ltT (fT l) n i i) :
  Calls Tryz.prog 254 #[quI q, .int .i64 (i : Int)] w fun e w' => e = .returned (.tuple #[]) ∧ ∃ l', QuM w' B q m (.slice (some ⟨g, 0, none⟩) n c) l' ∧ l'.Perm l ∧ l'.length = n ∧ Heap ltT (fT l') n ∧ Only [g, m] w w' := by
 have HQ := Lib.hid Q
 have Hn := Lib.hid hn
 have HD := Lib.hid hD
 clear Q hn hD
 go_enter Tryz.func254, Tryz.ntmps254
 go_wp2_with fail
 refine (vaA q (.map (some m)) (some ⟨g, 0, none⟩) n c w HQ.out.bk).mono ?_
 rintro e w ⟨rfl, rfl⟩
 go_wp2_with fail
 refine (vbG B q m g c n n l i w HQ.out Hn.out (Nat.le_refl _) (by omega) hi hl HD.out).mono ?_
 rintro e w1 ⟨l1, b, rfl, hp1, hl1, Q1, _, hT, hF, O1⟩
 have HT := Lib.hid hT
 have HF := Lib.hid hF
 clear hT hF
 cases b with
 | true =>
  go_wp2_with fail
  go_end0
  exact ⟨rfl, l1, Q1, hp1, hl1, (by first | exact HT.out rfl | exact HT.out trivial), O1⟩
 | false =>
  obtain ⟨hU, e1⟩ : UpH ltT (fT l1) n i ∧ l1 = l := (by first | exact HF.out rfl | exact HF.out trivial)
  have HU := Lib.hid hU
  clear hU e1
  go_wp2_with fail
  refine (vcL B q m g c n n l1 i w1 Q1 hl1 (Nat.le_refl _) hi hl HU.out).mono ?_
  rintro e w2 ⟨rfl, l2, hp2, hl2, hH2, _, Q2, O2⟩
  go_wp2_with fail
  go_end0
  exact ⟨rfl, l2, Q2, hp2.trans hp1, hl2, hH2, O1.trans O2⟩
set_option maxRecDepth 100000 in
theorem vgn (B q m g c n : Nat) (l : List Tw) (w : World) (Q : QuM w B q m (.slice (some ⟨g, 0, none⟩) (n + 1) c) l) (hn : l.length = n + 1) (hl : n ≤ 900000) (hH : Heap ltT (fT l) (n + 1)) :
  Calls Tryz.prog 203 #[quI q] w fun e w' => ∃ l', e = .returned (.iface 337 (twV (fT l 0))) ∧ QuM w' B q m (.slice (some ⟨g, 0, none⟩) n c) l' ∧ (l' ++ [fT l 0]).Perm l ∧ l'.length = n ∧ Heap ltT (fT l') n ∧ Only [q, g, m] w w' := by
 obtain ⟨y, hy⟩ : ∃ y, fT l 0 = y := ⟨_, rfl⟩
 rw [hy]
 have Hy := Lib.hid hy
 clear hy
 have HQ := Lib.hid Q
 have Hn := Lib.hid hn
 have h0 : 0 < l.length := by omega
 have hnn : n < l.length := by omega
 have hS := vaD B q m g c l 0 n w (by rw [hn]; exact Q) h0 hnn (by omega)
 rw [hn] at hS
 have HS := Lib.hid hS
 have HH := Lib.hid hH
 have hw : IntKind.i64.wrap (n : Int) = (n : Int) := IntWalk.i64_in _ (by omega)
 clear Q hn hS hH
 go_enter Tryz.func203, Tryz.ntmps203
 go_wp2_with fail
 refine (vaA q (.map (some m)) (some ⟨g, 0, none⟩) (n + 1) c w HQ.out.bk).mono ?_
 rintro e w ⟨rfl, rfl⟩
 go_wp2_with fail
 refine HS.out.mono ?_
 rintro e w1 ⟨rfl, Q1, O1⟩
 have hl1 : (swapL l 0 n h0 hnn).length = n + 1 := by rw [vaF]; exact Hn.out
 have hD : DownH ltT (fT (swapL l 0 n h0 hnn)) n 0 0 := by
  rcases Nat.eq_zero_or_pos n with e | e
  ·subst e
   exact ⟨⟨fun k k0 kn => absurd kn (by omega), fun k k0 kn => absurd kn (by omega)⟩, fun h => absurd rfl h⟩
  ·refine Heap.put vbj (HH.out.less (Nat.le_succ n)) (fun k hk hk0 => ?_) e
   rw [vbu, swH_o _ hk0 (by omega)]
 have HD := Lib.hid hD
 have Hl1 := Lib.hid hl1
 clear hD hl1 HS HH
 go_wp2_with fail
 refine (vbG B q m g c n (n + 1) (swapL l 0 n h0 hnn) 0 w1 Q1 Hl1.out (Nat.le_succ n) (by omega) (by omega) (by omega) HD.out).mono ?_
 rintro e w2 ⟨l2, b, rfl, hp2, hl2, Q2, ht2, hT, hF, O2⟩
 have hH2 : Heap ltT (fT l2) n := by
  cases b with
  | true => exact hT rfl
  | false => exact (hF rfl).1.done (.inl rfl)
 obtain ⟨l3, x, e2, hl3⟩ := vbQ hl2
 have hx : x = y := by
  have h5 := ht2 n (Nat.le_refl _)
  have h6 : fT (l3 ++ [x]) n = x := by rw [← hl3]; exact veP l3 x
  rw [e2, h6, vbu, swH_r, Hy.out] at h5
  exact h5
 subst e2
 subst hx
 have hH3 := Lib.hid (hH2.congr (g := fT l3) (fun k hk => (vfz l3 _ (by omega)).symm))
 have hp3 := Lib.hid (hp2.trans (vaW l 0 n h0 hnn))
 have hO := Lib.hid (O1.trans O2)
 clear hT hF hH2 hp2 ht2 hl2 O1 O2 HD Q1
 go_wp2_with fail
 refine (vbv B q m g c n l3 x w2 Q2 hl3 (by omega)).mono ?_
 rintro e w3 ⟨rfl, Q3, O3⟩
 go_wp2_with fail
 go_ret
 exact ⟨l3, rfl, Q3, hp3.out, hl3, hH3.out, (hO.out.wide (by simp)).trans (O3.wide (by simp))⟩
end

end Go.Proofs.YtgopnfacklmkaaaGreatDoor
