/- Lemmas and contracts for the theorem of this claim: RoL, CfC, CfD. -/
import Derived.Test.YtgopnfacklmkaaaGreatDoorZyAo
import Derived.BigQuiet
set_option linter.all false
set_option maxHeartbeats 16000000
namespace Go.Proofs.YtgopnfacklmkaaaGreatDoor
section
open Go.RowKit
def okR (r : Rt) : Bool := stateB r && toldB r.p
theorem vdZ (r : Rt) : checkR r = if okR r then 0 else 2 := rfl
structure Cf where
 t0 : Int
 t1 : Int
 t2 : Int
 t3 : Int
 t4 : Int
 t5 : Int
 t6 : Int
 cap : Int
 own : List PI
def Cf.t (c : Cf) (k : Nat) : Int := match k with | 0 => c.t0 | 1 => c.t1 | 2 => c.t2 | 3 => c.t3 | 4 => c.t4 | 5 => c.t5 | _ => c.t6
def leastS (k : Nat) : Int := match k with | 0 => 1 | 1 => 0 | 2 => 1 | 3 => 0 | 4 => 1 | 5 => 0 | _ => 0
def spanB (k : Nat) (c : Cf) : Bool := withB (leastS k) 1000000 (c.t k)
def spansB (c : Cf) : Bool := spanB 0 c && spanB 1 c && spanB 2 c && spanB 3 c && spanB 4 c && spanB 5 c && spanB 6 c
def freeB (l : List PI) : Bool := l.all toldB && decide l.Nodup
def okCf (c : Cf) : Bool := spansB c && withB 1 256 c.cap && (decide ((c.own.length : Int) ≤ min 16 c.cap) && freeB c.own)
def checkC (c : Cf) : Int := if okCf c then 0 else 2
theorem vaf {lo hi n : Int} : withB lo hi n = true ↔ lo ≤ n ∧ n ≤ hi := by
 simp only [withB, Bool.and_eq_true, Bool.not_eq_true', decide_eq_false_iff_not]
 omega
theorem vcC {l : List PI} {i : Nat} (h : i < l.length) : freeB (l.take (i + 1)) = (freeB (l.take i) && (toldB l[i] && decide (l[i] ∉ l.take i))) := by
 have e : l.take (i + 1) = l.take i ++ [l[i]] := by rw [List.take_succ_eq_append_getElem h]
 unfold freeB
 rw [e, List.all_append, Bool.eq_iff_iff]
 simp only [Bool.and_eq_true, List.all_cons, List.all_nil, Bool.and_true, decide_eq_true_eq, List.nodup_append]
 constructor
 ·rintro ⟨⟨h1, h2⟩, h3, _, h4⟩
  exact ⟨⟨h1, h3⟩, h2, fun hm => h4 _ hm _ (by simp) rfl⟩
 ·rintro ⟨⟨h1, h2⟩, h3, h4⟩
  refine ⟨⟨h1, h3⟩, h2, by simp, fun a ha b hb e => ?_⟩
  simp only [List.mem_cons, List.not_mem_nil, or_false] at hb
  subst hb
  subst e
  exact h4 ha
theorem vea {l : List PI} {i : Nat} (h : freeB (l.take i) = false) : freeB l = false := by
 cases e : freeB l with
 | false => rfl
 | true =>
  unfold freeB at e h
  simp only [Bool.and_eq_true, List.all_eq_true, decide_eq_true_eq] at e
  rw [← h]
  symm
  simp only [Bool.and_eq_true, List.all_eq_true, decide_eq_true_eq]
  exact ⟨fun x hx => e.1 x (List.mem_of_mem_take hx), e.2.sublist (List.take_sublist _ _)⟩
structure Hd where
 f : Int
 a : Nat
 m : Int
def okHd (h : Hd) : Bool := mayB h.f h.a && withB 1 16 h.m
def okNow (t : Int) : Bool := withB 0 4611686018426387904 t
def noR (p : PI) : Rt := ⟨p, 0, 0, 0, 0, 0, 0, false⟩
def ownR (p : PI) : Rt := ⟨p, 1, 1, 0, 0, 0, 0, true⟩
def lostR (c : Cf) (r : Rt) (now : Int) : Rt := ⟨r.p, 3, 16, r.m, r.f, r.x, now + c.t3, true⟩
def newR (c : Cf) (r : Rt) (h : Hd) (now : Int) : Rt := ⟨r.p, 2, min (h.m + 1) 16, 0, h.f, h.a, now + c.t2, true⟩
def hearR (c : Cf) (r : Rt) (h : Hd) (now : Int) : Rt :=
 if r.s = 1 then r
 else if r.s = 2 then
  if h.f = r.f ∧ h.a = r.x then
   if min (h.m + 1) 16 = r.m then ⟨r.p, 2, r.m, r.l, r.f, r.x, now + c.t2, r.c⟩
   else if min (h.m + 1) 16 = 16 then lostR c r now
   else newR c r h now
  else if min (h.m + 1) 16 < r.m then newR c r h now else r
 else if r.s = 3 then if min (h.m + 1) 16 < r.l then newR c r h now else r
 else if min (h.m + 1) 16 < 16 then newR c r h now else r
def askH (c : Cf) (r : Rt) (h : Hd) (now : Int) : Int := if okCf c && okR r && okHd h then (if okNow now then 0 else 170) else 2
theorem veb {c : Cf} (h : okCf c = true) : ∀ k, k < 7 → leastS k ≤ c.t k ∧ c.t k ≤ 1000000 := by
 unfold okCf spansB spanB at h
 rw [Bool.and_eq_true, Bool.and_eq_true] at h
 simp only [Bool.and_eq_true, vaf] at h
 obtain ⟨⟨⟨⟨⟨⟨⟨⟨h0, h1⟩, h2⟩, h3⟩, h4⟩, h5⟩, h6⟩, _⟩, _⟩ := h
 intro k hk
 have : k = 0 ∨ k = 1 ∨ k = 2 ∨ k = 3 ∨ k = 4 ∨ k = 5 ∨ k = 6 := by omega
 rcases this with rfl | rfl | rfl | rfl | rfl | rfl | rfl
 all_goals first | exact h0 | exact h1 | exact h2 | exact h3 | exact h4 | exact h5 | exact h6
theorem vck {c : Cf} (h : okCf c = true) : 1 ≤ c.cap ∧ c.cap ≤ 256 ∧ (c.own.length : Int) ≤ 16 ∧ (c.own.length : Int) ≤ c.cap ∧ (∀ p ∈ c.own, toldB p = true) ∧ c.own.Nodup := by
 unfold okCf freeB at h
 simp only [Bool.and_eq_true, vaf, decide_eq_true_eq, List.all_eq_true] at h
 obtain ⟨⟨_, h1, h2⟩, h3, h4, h5⟩ := h
 exact ⟨h1, h2, by omega, by omega, h4, h5⟩
theorem vkC {p : PI} (h : toldB p = true) : checkP p = 0 := by
 unfold toldB at h
 simp only [Bool.and_eq_true] at h
 unfold checkP
 rw [if_pos h.1]
theorem vaD (r : Rt) : okR r = true ↔ toldB r.p = true ∧ stateB r = true := by unfold okR; rw [Bool.and_eq_true]; exact And.comm
theorem vgV {p : PI} (h : toldB p = true) : okR (noR p) = true := by
 rw [vaD]
 exact ⟨h, by rfl⟩
theorem vec {p : PI} (h : toldB p = true) : okR (ownR p) = true := by
 rw [vaD]
 exact ⟨h, by rfl⟩
theorem vbA {r : Rt} (h : stateB r = true) : r.s = 0 ∨ r.s = 1 ∨ r.s = 2 ∨ r.s = 3 ∨ r.s = 4 := by
 unfold stateB at h
 split at h
 ·exact .inl (by assumption)
 ·split at h
  ·exact .inr (.inl (by assumption))
  ·split at h
   ·exact .inr (.inr (.inl (by assumption)))
   ·split at h
    ·exact .inr (.inr (.inr (.inl (by assumption))))
    ·split at h
     ·exact .inr (.inr (.inr (.inr (by assumption))))
     ·cases h
theorem vbe {r : Rt} (hs : r.s = 2) : stateB r = true ↔ 2 ≤ r.m ∧ r.m ≤ 15 ∧ r.l = 0 ∧ mayB r.f r.x = true ∧ 0 ≤ r.d ∧ r.d ≤ 4611686018427387904 := by
 simp only [stateB, hs, hasB, someB, Bool.and_eq_true, vaf, beq_iff_eq, if_true, if_false, show ¬ (2 : Int) = 0 by decide, show ¬ (2 : Int) = 1 by decide]
 constructor
 ·rintro ⟨⟨a, b⟩, ⟨_, c⟩, d, e, f⟩
  exact ⟨a, b, c, d, e, f⟩
 ·rintro ⟨a, b, c, d, e, f⟩
  exact ⟨⟨a, b⟩, ⟨trivial, c⟩, d, e, f⟩
theorem vcl {r : Rt} (hs : r.s = 3) : stateB r = true ↔ r.m = 16 ∧ 2 ≤ r.l ∧ r.l ≤ 15 ∧ mayB r.f r.x = true ∧ 0 ≤ r.d ∧ r.d ≤ 4611686018427387904 := by
 simp only [stateB, hs, hasB, someB, Bool.and_eq_true, vaf, beq_iff_eq, if_true, if_false, show ¬ (3 : Int) = 0 by decide, show ¬ (3 : Int) = 1 by decide, show ¬ (3 : Int) = 2 by decide]
 constructor
 ·rintro ⟨⟨a, b⟩, ⟨c, _⟩, d, e, f⟩
  exact ⟨c, a, b, d, e, f⟩
 ·rintro ⟨c, a, b, d, e, f⟩
  exact ⟨⟨a, b⟩, ⟨c, trivial⟩, d, e, f⟩
theorem viF {r : Rt} (hs : r.s = 4) : stateB r = true ↔ r.m = 16 ∧ r.l = 0 ∧ mayB r.f r.x = true ∧ 0 ≤ r.d ∧ r.d ≤ 4611686018427387904 := by
 simp only [stateB, hs, hasB, someB, Bool.and_eq_true, vaf, beq_iff_eq, if_true, if_false, show ¬ (4 : Int) = 0 by decide, show ¬ (4 : Int) = 1 by decide, show ¬ (4 : Int) = 2 by decide, show ¬ (4 : Int) = 3 by decide]
 constructor
 ·rintro ⟨⟨a, b⟩, d, e, f⟩
  exact ⟨a, b, d, e, f⟩
 ·rintro ⟨a, b, d, e, f⟩
  exact ⟨⟨a, b⟩, d, e, f⟩
theorem vfG {c : Cf} {r : Rt} {now : Int} (hc : okCf c = true) (hr : okR r = true) (hs : r.s = 2) (hn : okNow now = true) : okR (lostR c r now) = true := by
 rw [vaD] at hr ⊢
 rw [vbe hs] at hr
 have ht := veb hc 3 (by omega)
 simp only [leastS, Cf.t] at ht
 rw [okNow, vaf] at hn
 refine ⟨hr.1, (vcl rfl).2 ?_⟩
 simp only [lostR]
 exact ⟨trivial, hr.2.1, hr.2.2.1, hr.2.2.2.2.1, by omega, by omega⟩
theorem vaZ {c : Cf} {r : Rt} {h : Hd} {now : Int} (hc : okCf c = true) (hr : okR r = true) (hh : okHd h = true) (hn : okNow now = true) (hm : min (h.m + 1) 16 < 16) : okR (newR c r h now) = true := by
 rw [vaD] at hr ⊢
 have ht := veb hc 2 (by omega)
 simp only [leastS, Cf.t] at ht
 rw [okNow, vaf] at hn
 rw [okHd, Bool.and_eq_true, vaf] at hh
 refine ⟨hr.1, (vbe rfl).2 ?_⟩
 simp only [newR]
 exact ⟨by omega, by omega, trivial, hh.1, by omega, by omega⟩
theorem vda {c : Cf} {r : Rt} {h : Hd} {now : Int} (hc : okCf c = true) (hr : okR r = true) (hh : okHd h = true) (hn : okNow now = true) : okR (hearR c r h now) = true := by
 have hr' := hr
 rw [vaD] at hr'
 have hm : 2 ≤ min (h.m + 1) 16 := by rw [okHd, Bool.and_eq_true, vaf] at hh; omega
 unfold hearR
 rcases vbA hr'.2 with hs | hs | hs | hs | hs
 ·rw [if_neg (by omega), if_neg (by omega), if_neg (by omega)]
  split
  ·exact vaZ hc hr hh hn (by assumption)
  ·exact hr
 ·rw [if_pos hs]
  exact hr
 ·rw [if_neg (by omega), if_pos hs]
  have h2 := (vbe hs).1 hr'.2
  split
  ·split
   ·rw [vaD]
    have ht := veb hc 2 (by omega)
    simp only [leastS, Cf.t] at ht
    rw [okNow, vaf] at hn
    refine ⟨hr'.1, (vbe rfl).2 ?_⟩
    simp only
    exact ⟨h2.1, h2.2.1, h2.2.2.1, h2.2.2.2.1, by omega, by omega⟩
   ·split
    ·exact vfG hc hr hs hn
    ·exact vaZ hc hr hh hn (by omega)
  ·split
   ·exact vaZ hc hr hh hn (by omega)
   ·exact hr
 ·rw [if_neg (by omega), if_neg (by omega), if_pos hs]
  have h3 := (vcl hs).1 hr'.2
  split
  ·exact vaZ hc hr hh hn (by omega)
  ·exact hr
 ·rw [if_neg (by omega), if_neg (by omega), if_neg (by omega)]
  split
  ·exact vaZ hc hr hh hn (by assumption)
  ·exact hr
theorem vjw (c : Cf) (r : Rt) (h : Hd) (now : Int) : (hearR c r h now).p = r.p := by
 unfold hearR newR lostR
 repeat' split
 all_goals rfl
def cfC (c : Cf) (A : Option Addr) (n k : Nat) : Array Value := #[.int .i64 c.t0, .int .i64 c.t1, .int .i64 c.t2, .int .i64 c.t3, .int .i64 c.t4, .int .i64 c.t5, .int .i64 c.t6, .int .i64 c.cap, .slice A n k]
abbrev cfV (c : Cf) (A : Option Addr) (n k : Nat) : Value := .agg #[.int .i64 c.t0, .int .i64 c.t1, .int .i64 c.t2, .int .i64 c.t3, .int .i64 c.t4, .int .i64 c.t5, .int .i64 c.t6, .int .i64 c.cap, .slice A n k]
theorem vkD (c : Cf) (A : Option Addr) (n k : Nat) (w : World) : Calls Tryz.prog 235 #[cfV c A n k] w fun e w' => e = .returned (.int .i64 c.t0) ∧ Kp w w' := by
 obtain ⟨W, hW, kW, B0⟩ := Blk.al1 (w := w) rfl (cfC c A n k) 49
 have p0 := Blk.f B0 rfl
 unfold cfC at hW
 go_enter Tryz.func235, Tryz.ntmps235
 go_wp2_with fail
 go_ret
 exact ⟨rfl, kW⟩
theorem vkE (c : Cf) (A : Option Addr) (n k : Nat) (w : World) : Calls Tryz.prog 236 #[cfV c A n k] w fun e w' => e = .returned (.int .i64 c.t1) ∧ Kp w w' := by
 obtain ⟨W, hW, kW, B0⟩ := Blk.al1 (w := w) rfl (cfC c A n k) 49
 have p0 := Blk.f B0 rfl
 unfold cfC at hW
 go_enter Tryz.func236, Tryz.ntmps236
 go_wp2_with fail
 go_ret
 exact ⟨rfl, kW⟩
theorem vkF (c : Cf) (A : Option Addr) (n k : Nat) (w : World) : Calls Tryz.prog 237 #[cfV c A n k] w fun e w' => e = .returned (.int .i64 c.t2) ∧ Kp w w' := by
 obtain ⟨W, hW, kW, B0⟩ := Blk.al1 (w := w) rfl (cfC c A n k) 49
 have p0 := Blk.f B0 rfl
 unfold cfC at hW
 go_enter Tryz.func237, Tryz.ntmps237
 go_wp2_with fail
 go_ret
 exact ⟨rfl, kW⟩
theorem vkG (c : Cf) (A : Option Addr) (n k : Nat) (w : World) : Calls Tryz.prog 238 #[cfV c A n k] w fun e w' => e = .returned (.int .i64 c.t3) ∧ Kp w w' := by
 obtain ⟨W, hW, kW, B0⟩ := Blk.al1 (w := w) rfl (cfC c A n k) 49
 have p0 := Blk.f B0 rfl
 unfold cfC at hW
 go_enter Tryz.func238, Tryz.ntmps238
 go_wp2_with fail
 go_ret
 exact ⟨rfl, kW⟩
theorem vkH (c : Cf) (A : Option Addr) (n k : Nat) (w : World) : Calls Tryz.prog 239 #[cfV c A n k] w fun e w' => e = .returned (.int .i64 c.t4) ∧ Kp w w' := by
 obtain ⟨W, hW, kW, B0⟩ := Blk.al1 (w := w) rfl (cfC c A n k) 49
 have p0 := Blk.f B0 rfl
 unfold cfC at hW
 go_enter Tryz.func239, Tryz.ntmps239
 go_wp2_with fail
 go_ret
 exact ⟨rfl, kW⟩
theorem vkI (c : Cf) (A : Option Addr) (n k : Nat) (w : World) : Calls Tryz.prog 240 #[cfV c A n k] w fun e w' => e = .returned (.int .i64 c.t5) ∧ Kp w w' := by
 obtain ⟨W, hW, kW, B0⟩ := Blk.al1 (w := w) rfl (cfC c A n k) 49
 have p0 := Blk.f B0 rfl
 unfold cfC at hW
 go_enter Tryz.func240, Tryz.ntmps240
 go_wp2_with fail
 go_ret
 exact ⟨rfl, kW⟩
theorem vkJ (c : Cf) (A : Option Addr) (n k : Nat) (w : World) : Calls Tryz.prog 241 #[cfV c A n k] w fun e w' => e = .returned (.int .i64 c.t6) ∧ Kp w w' := by
 obtain ⟨W, hW, kW, B0⟩ := Blk.al1 (w := w) rfl (cfC c A n k) 49
 have p0 := Blk.f B0 rfl
 unfold cfC at hW
 go_enter Tryz.func241, Tryz.ntmps241
 go_wp2_with fail
 go_ret
 exact ⟨rfl, kW⟩
def clampI (n lo hi : Int) : Int := max lo (min n hi)
theorem vaB (n lo hi : Int) (h : lo ≤ hi) : (clampI n lo hi != n) = !withB lo hi n := by
 unfold clampI withB
 by_cases h1 : n < lo
 ·have : max lo (min n hi) ≠ n := by omega
  simp [h1, this]
 ·by_cases h2 : hi < n
  ·have : max lo (min n hi) ≠ n := by omega
   simp [h1, h2, this]
  ·have : max lo (min n hi) = n := by omega
   simp [h1, h2, this]
theorem vao (n lo hi : Int) (w : World) : Calls Tryz.prog 169 #[.int .i64 n, .int .i64 lo, .int .i64 hi] w fun e w' => e = .returned (.int .i64 (clampI n lo hi)) ∧ w = w' := by
 go_enter Tryz.func169, Tryz.ntmps169
 go_wp2_with fail
 all_goals
  rename_i h0
  go_ret
  refine ⟨congrArg (fun z => Ending.returned (.int .i64 z)) ?_, rfl⟩
  unfold clampI
  first | rw [if_pos h] at h0 | rw [if_neg (by omega)] at h0
  omega
theorem vdb (n lo hi : Int) (w : World) : Calls Tryz.prog 170 #[.int .i64 n, .int .i64 lo, .int .i64 hi] w fun e w' => e = .returned (.int .i64 (clampI n lo hi)) ∧ w = w' := by
 go_enter Tryz.func170, Tryz.ntmps170
 go_wp2_with fail
 all_goals
  rename_i h0
  go_ret
  refine ⟨congrArg (fun z => Ending.returned (.int .i64 z)) ?_, rfl⟩
  unfold clampI
  first | rw [if_pos h] at h0 | rw [if_neg (by omega)] at h0
  omega
set_option maxRecDepth 100000 in
theorem viG (A : Option Addr) (c : Nat) (ps : List PI) (p : PI) (w : World) (hR : Rd w 2 PI.enc A ps) (hn : ps.length ≤ 1000000) : Calls Tryz.prog 243 #[.slice A ps.length c, .agg #[.int .u32 (p.a : Int), .int .i64 p.l]] w fun e w' => (∃ i : Int, e = .returned (.int .i64 i) ∧ decide (0 ≤ i) = decide (p ∈ ps)) ∧ Kp w w' := by
 obtain ⟨W, hW, kW, B0⟩ := Blk.al1 (w := w) rfl #[.int .u32 (p.a : Int), .int .i64 p.l] 39
 have hR := hR.keep kW
 go_enter Tryz.func243, Tryz.ntmps243
 go_wp2_with fail
 clear hW
 go_loopw [8] (fun i wr => ∃ k : Nat, k ≤ ps.length ∧ i = .int .i64 k ∧ Hid (∀ j (hj : j < ps.length), j < k → ¬ ps[j] = p) ∧ Kp w wr ∧ Kp W wr) (fun i _ => ps.length - (intOf i).toNat)
 case atStart => exact ⟨0, Nat.zero_le _, rfl, fun _ _ h => absurd h (by omega), kW, Kp.refl _⟩
 case round =>
  obtain ⟨k, hk, rfl, hall, hK, hK2⟩ := hrel
  have B := B0.keep hK2
  have p0 := Blk.f B rfl
  by_cases hlt : k < ps.length
  ·obtain ⟨b, off, rfl, c0, c1⟩ := pi_at (hR.keep hK2) hlt
   have heq := fun u => vky u (p.a : Int) p.l (ps[k].a : Int) ps[k].l
   by_cases he : ps[k] = p
   ·rw [show ((p.a : Int) == (ps[k].a : Int) && p.l == ps[k].l) = true by simp [he]] at heq
    have H := Lib.hid (show p ∈ ps from he ▸ List.getElem_mem hlt)
    clear he
    go_wp2_with fail
    go_quiet (fail)
    go_wp2_with fail
    go_ret
    exact ⟨⟨_, rfl, by rw [decide_eq_true (show (0 : Int) ≤ (k : Int) by omega), decide_eq_true H.out]⟩, hK.drewN _⟩
   ·rw [show ((p.a : Int) == (ps[k].a : Int) && p.l == ps[k].l) = false by
     rw [Bool.eq_false_iff]
     intro h
     simp only [Bool.and_eq_true, beq_iff_eq] at h
     exact he (PI.ext' (by omega) h.2.symm)] at heq
    have H := Lib.hid he
    clear he
    go_wp2_with fail
    go_quiet (fail)
    go_wp2_with fail
    go_roundw
    case rel =>
     refine ⟨k + 1, by omega, by go_num, Lib.hid (fun j hj hjk => ?_), hK.drewN _, hK2.drewN _⟩
     by_cases hj' : j < k
     ·exact hall.out j hj hj'
     ·obtain rfl : j = k := by omega
      exact H.out
    case measure => simp [intOf]; omega
  ·obtain rfl : k = ps.length := by omega
   go_wp2_with fail
   go_ret
   refine ⟨⟨_, rfl, ?_⟩, hK⟩
   rw [decide_eq_false (by omega), eq_comm, decide_eq_false_iff_not]
   intro h
   obtain ⟨j, hj, e⟩ := List.getElem_of_mem h
   exact hall.out j hj hj e
set_option maxRecDepth 100000 in
theorem viH (A : Option Addr) (c : Nat) (ps : List PI) (p : PI) (w : World) (hR : Rd w 2 PI.enc A ps) (hn : ps.length ≤ 1000000) : Calls Tryz.prog 171 #[.slice A ps.length c, .agg #[.int .u32 (p.a : Int), .int .i64 p.l]] w fun e w' => e = .returned (.bool (decide (p ∈ ps))) ∧ Kp w w' := by
 obtain ⟨W, hW, kW, B0⟩ := Blk.al1 (w := w) rfl #[.int .u32 (p.a : Int), .int .i64 p.l] 39
 have hR := hR.keep kW
 have p0 := Blk.f B0 rfl
 go_enter Tryz.func171, Tryz.ntmps171
 go_wp2_with fail
 refine (viG A c ps p _ hR hn).mono ?_
 rintro e w1 ⟨⟨i, rfl, hi⟩, K1⟩
 go_wp2_with fail
 go_ret
 exact ⟨by rw [← hi]; rfl, kW.trans K1⟩
abbrev stopCV (e : Int) : Value := .iface 289 (.int .i64 e)
abbrev stopC (e : Int) : Ending := .panicked [{ v := stopCV e, recovered := false }]
def CapAt (w : World) : Prop := w.cell? ⟨1, 0, none⟩ = some (.int .i64 1) ∧ w.cell? ⟨1, 1, none⟩ = some (.int .i64 256)
theorem CapAt.keep {w w' : World} (h : CapAt w) (k : Kp w w') : CapAt w' := ⟨k.cell h.1, k.cell h.2⟩
def MustC (c : Cf) (w : World) (e : Ending) (w' : World) : Prop := (okCf c = true → e = .returned (.tuple #[])) ∧ (okCf c = false → e = stopC 2) ∧ Kp w w'
theorem MustC.no {c : Cf} {w w' : World} (h : okCf c = false) (k : Kp w w') : MustC c w (stopC 2) w' := ⟨fun e => (by rw [h] at e; cases e), fun _ => rfl, k⟩
theorem MustC.yes {c : Cf} {w w' : World} (h : okCf c = true) (k : Kp w w') : MustC c w (.returned (.tuple #[])) w' := ⟨fun _ => rfl, fun e => (by rw [h] at e; cases e), k⟩
theorem vbm {c : Cf} {k : Nat} (hk : k < 7) (h : spanB k c = false) : okCf c = false := by
 unfold okCf spansB
 have : k = 0 ∨ k = 1 ∨ k = 2 ∨ k = 3 ∨ k = 4 ∨ k = 5 ∨ k = 6 := by omega
 rcases this with rfl | rfl | rfl | rfl | rfl | rfl | rfl <;> simp [h]
theorem vkK {α : Type} {w : World} {n : Nat} {enc : α → List Value} {A : Option Addr} {xs : List α} (h : Rd w n enc A xs) (k : Nat) : Rd w n enc A (xs.take k) := fun i hi => by
 have h2 : i < xs.length := by rw [List.length_take] at hi; omega
 obtain ⟨b, off, e, hc⟩ := h i h2
 exact ⟨b, off, e, fun j u hj => hc j u (by rw [List.getElem_take] at hj; exact hj)⟩
set_option maxRecDepth 100000 in
theorem viI (c : Cf) (A : Option Addr) (m : Nat) (w : World) (hm : c.own.length ≤ m) (hR : Rd w 2 PI.enc A c.own) (hC : CapAt w) (ha : ∀ k (hk : k < c.own.length), c.own[k].a < 4294967296) :
  Calls Tryz.prog 116 #[cfV c A c.own.length m] w (MustC c w) := by
 obtain ⟨b, hb⟩ : ∃ b, w.heap.size = b := ⟨_, rfl⟩
 obtain ⟨W, hW, kW, B0⟩ := Blk.al1 hb (cfC c A c.own.length m) 209
 have hR := hR.keep kW
 have hC := hC.keep kW
 have Ha := Lib.hid ha
 clear ha
 unfold cfC at hW
 go_enter Tryz.func116, Tryz.ntmps116
 go_wp2_with fail
 clear hW hb
 refine (vgN _).mono ?_
 rintro e w1 ⟨g, n, rfl, BG, hg, K1⟩
 have B1 := B0.keep K1
 have hR := hR.keep K1
 have hC := hC.keep K1
 have kW := kW.trans K1
 clear B0 K1 hg
 have hbl := B1.lt
 go_wp2_with fail
 refine wp_loop_rounds 8 ?_
 -- round 0
 rw [rounds_succ]
 obtain ⟨d, hd⟩ : ∃ d, w1.heap.size = d := ⟨_, rfl⟩
 obtain ⟨Y, hY, KY, DY⟩ := Blk.al1 hd #[.string (n 0), .int .i64 1, .func (.func 235) #[] #[]] 295
 obtain ⟨l0, l1, l2⟩ := Blk.v3 (BG.keep (Kp.refl w1)) (.string (n 0)) (.int .i64 1) (.func (.func 235) #[] #[]) rfl
 obtain ⟨-, y1, y2⟩ := Blk.v3 DY _ (.int .i64 1) (.func (.func 235) #[] #[]) rfl
 obtain ⟨c0, c1, c2, c3, c4, c5, c6, c7, c8⟩ := Blk.p9 (B1.keep KY)
 have HG := Lib.hid BG
 have HB := Lib.hid B1
 have HD := Lib.hid DY
 have HR := Lib.hid hR
 have HC := Lib.hid hC
 clear BG B1 DY hR hC
 go_wp2_with fail
 refine (vkD c A c.own.length m _).mono ?_
 rintro e Z0 ⟨rfl, KZ⟩
 have z1 : Z0.cell? ⟨d, 1, none⟩ = some (.int .i64 1) := KZ.cell y1
 have KX0 : Kp w1 Z0 := KY.trans KZ
 clear c0 c1 c2 c3 c4 c5 c6 c7 c8 l0 l1 l2 y1 y2 hY KZ KY hd
 go_wp2_with fail
 refine (vao _ _ _ _).mono ?_
 rintro e Z' ⟨rfl, rfl⟩
 have hN : (clampI c.t0 1 1000000 != c.t0) = !spanB 0 c := vaB _ _ _ (by decide)
 rcases hs0 : spanB 0 c with _ | _
 ·rw [hs0] at hN
  have H := Lib.hid (vbm (by omega) hs0)
  clear hs0
  go_wp2_with fail
  exact ⟨rfl, MustC.no H.out (kW.trans KX0)⟩
 rw [hs0] at hN
 have HS0 := Lib.hid hs0
 clear hs0
 go_wp2_with fail
 have BG := HG.out
 have B1 := HB.out
 have hR := HR.out
 have hC := HC.out
 clear HG HB HD HR HC hN z1
 -- round 1
 rw [rounds_succ]
 obtain ⟨d, hd⟩ : ∃ d, Z0.heap.size = d := ⟨_, rfl⟩
 obtain ⟨Y, hY, KY, DY⟩ : ∃ Y, Z0.alloc (.cells #[.string (n 1), .int .i64 0, .func (.func 236) #[] #[]] 295) = Y ∧ Kp w1 Y ∧ Blk Y d 295 #[.string (n 1), .int .i64 0, .func (.func 236) #[] #[]] := ⟨_, rfl, (KX0).alloc _, by rw [← hd]; exact Blk.new _ _ _⟩
 obtain ⟨-, -, -, l0, l1, l2⟩ := Blk.v6 (BG.keep (KX0)) _ _ _ (.string (n 1)) (.int .i64 0) (.func (.func 236) #[] #[]) rfl
 obtain ⟨-, y1, y2⟩ := Blk.v3 DY _ (.int .i64 0) (.func (.func 236) #[] #[]) rfl
 obtain ⟨c0, c1, c2, c3, c4, c5, c6, c7, c8⟩ := Blk.p9 (B1.keep KY)
 have HG := Lib.hid BG
 have HB := Lib.hid B1
 have HD := Lib.hid DY
 have HR := Lib.hid hR
 have HC := Lib.hid hC
 clear BG B1 DY hR hC
 go_wp2_with fail
 refine (vkE c A c.own.length m _).mono ?_
 rintro e Z1 ⟨rfl, KZ⟩
 have z1 : Z1.cell? ⟨d, 1, none⟩ = some (.int .i64 0) := KZ.cell y1
 have KX1 : Kp w1 Z1 := KY.trans KZ
 clear c0 c1 c2 c3 c4 c5 c6 c7 c8 l0 l1 l2 y1 y2 hY KZ KY hd
 go_wp2_with fail
 refine (vao _ _ _ _).mono ?_
 rintro e Z' ⟨rfl, rfl⟩
 have hN : (clampI c.t1 0 1000000 != c.t1) = !spanB 1 c := vaB _ _ _ (by decide)
 rcases hs1 : spanB 1 c with _ | _
 ·rw [hs1] at hN
  have H := Lib.hid (vbm (by omega) hs1)
  clear hs1
  go_wp2_with fail
  exact ⟨rfl, MustC.no H.out (kW.trans KX1)⟩
 rw [hs1] at hN
 have HS1 := Lib.hid hs1
 clear hs1
 go_wp2_with fail
 have BG := HG.out
 have B1 := HB.out
 have hR := HR.out
 have hC := HC.out
 clear HG HB HD HR HC hN z1
 -- round 2
 rw [rounds_succ]
 obtain ⟨d, hd⟩ : ∃ d, Z1.heap.size = d := ⟨_, rfl⟩
 obtain ⟨Y, hY, KY, DY⟩ : ∃ Y, Z1.alloc (.cells #[.string (n 2), .int .i64 1, .func (.func 237) #[] #[]] 295) = Y ∧ Kp w1 Y ∧ Blk Y d 295 #[.string (n 2), .int .i64 1, .func (.func 237) #[] #[]] := ⟨_, rfl, (KX1).alloc _, by rw [← hd]; exact Blk.new _ _ _⟩
 obtain ⟨-, -, -, -, -, -, l0, l1, l2⟩ := Blk.v9 (BG.keep (KX1)) _ _ _ _ _ _ (.string (n 2)) (.int .i64 1) (.func (.func 237) #[] #[]) rfl
 obtain ⟨-, y1, y2⟩ := Blk.v3 DY _ (.int .i64 1) (.func (.func 237) #[] #[]) rfl
 obtain ⟨c0, c1, c2, c3, c4, c5, c6, c7, c8⟩ := Blk.p9 (B1.keep KY)
 have HG := Lib.hid BG
 have HB := Lib.hid B1
 have HD := Lib.hid DY
 have HR := Lib.hid hR
 have HC := Lib.hid hC
 clear BG B1 DY hR hC
 go_wp2_with fail
 refine (vkF c A c.own.length m _).mono ?_
 rintro e Z2 ⟨rfl, KZ⟩
 have z1 : Z2.cell? ⟨d, 1, none⟩ = some (.int .i64 1) := KZ.cell y1
 have KX2 : Kp w1 Z2 := KY.trans KZ
 clear c0 c1 c2 c3 c4 c5 c6 c7 c8 l0 l1 l2 y1 y2 hY KZ KY hd
 go_wp2_with fail
 refine (vao _ _ _ _).mono ?_
 rintro e Z' ⟨rfl, rfl⟩
 have hN : (clampI c.t2 1 1000000 != c.t2) = !spanB 2 c := vaB _ _ _ (by decide)
 rcases hs2 : spanB 2 c with _ | _
 ·rw [hs2] at hN
  have H := Lib.hid (vbm (by omega) hs2)
  clear hs2
  go_wp2_with fail
  exact ⟨rfl, MustC.no H.out (kW.trans KX2)⟩
 rw [hs2] at hN
 have HS2 := Lib.hid hs2
 clear hs2
 go_wp2_with fail
 have BG := HG.out
 have B1 := HB.out
 have hR := HR.out
 have hC := HC.out
 clear HG HB HD HR HC hN z1
 -- round 3
 rw [rounds_succ]
 obtain ⟨d, hd⟩ : ∃ d, Z2.heap.size = d := ⟨_, rfl⟩
 obtain ⟨Y, hY, KY, DY⟩ : ∃ Y, Z2.alloc (.cells #[.string (n 3), .int .i64 0, .func (.func 238) #[] #[]] 295) = Y ∧ Kp w1 Y ∧ Blk Y d 295 #[.string (n 3), .int .i64 0, .func (.func 238) #[] #[]] := ⟨_, rfl, (KX2).alloc _, by rw [← hd]; exact Blk.new _ _ _⟩
 obtain ⟨-, -, -, -, -, -, -, -, -, l0, l1, l2⟩ := Blk.v12 (BG.keep (KX2)) _ _ _ _ _ _ _ _ _ (.string (n 3)) (.int .i64 0) (.func (.func 238) #[] #[]) rfl
 obtain ⟨-, y1, y2⟩ := Blk.v3 DY _ (.int .i64 0) (.func (.func 238) #[] #[]) rfl
 obtain ⟨c0, c1, c2, c3, c4, c5, c6, c7, c8⟩ := Blk.p9 (B1.keep KY)
 have HG := Lib.hid BG
 have HB := Lib.hid B1
 have HD := Lib.hid DY
 have HR := Lib.hid hR
 have HC := Lib.hid hC
 clear BG B1 DY hR hC
 go_wp2_with fail
 refine (vkG c A c.own.length m _).mono ?_
 rintro e Z3 ⟨rfl, KZ⟩
 have z1 : Z3.cell? ⟨d, 1, none⟩ = some (.int .i64 0) := KZ.cell y1
 have KX3 : Kp w1 Z3 := KY.trans KZ
 clear c0 c1 c2 c3 c4 c5 c6 c7 c8 l0 l1 l2 y1 y2 hY KZ KY hd
 go_wp2_with fail
 refine (vao _ _ _ _).mono ?_
 rintro e Z' ⟨rfl, rfl⟩
 have hN : (clampI c.t3 0 1000000 != c.t3) = !spanB 3 c := vaB _ _ _ (by decide)
 rcases hs3 : spanB 3 c with _ | _
 ·rw [hs3] at hN
  have H := Lib.hid (vbm (by omega) hs3)
  clear hs3
  go_wp2_with fail
  exact ⟨rfl, MustC.no H.out (kW.trans KX3)⟩
 rw [hs3] at hN
 have HS3 := Lib.hid hs3
 clear hs3
 go_wp2_with fail
 have BG := HG.out
 have B1 := HB.out
 have hR := HR.out
 have hC := HC.out
 clear HG HB HD HR HC hN z1
 -- round 4
 rw [rounds_succ]
 obtain ⟨d, hd⟩ : ∃ d, Z3.heap.size = d := ⟨_, rfl⟩
 obtain ⟨Y, hY, KY, DY⟩ : ∃ Y, Z3.alloc (.cells #[.string (n 4), .int .i64 1, .func (.func 239) #[] #[]] 295) = Y ∧ Kp w1 Y ∧ Blk Y d 295 #[.string (n 4), .int .i64 1, .func (.func 239) #[] #[]] := ⟨_, rfl, (KX3).alloc _, by rw [← hd]; exact Blk.new _ _ _⟩
 have l0 : Z3.cell? ⟨g, 12, none⟩ = some (.string (n 4)) := (BG.keep (KX3)).cell 12
 have l1 : Z3.cell? ⟨g, 13, none⟩ = some (.int .i64 1) := (BG.keep (KX3)).cell 13
 have l2 : Z3.cell? ⟨g, 14, none⟩ = some (.func (.func 239) #[] #[]) := (BG.keep (KX3)).cell 14
 obtain ⟨-, y1, y2⟩ := Blk.v3 DY _ (.int .i64 1) (.func (.func 239) #[] #[]) rfl
 obtain ⟨c0, c1, c2, c3, c4, c5, c6, c7, c8⟩ := Blk.p9 (B1.keep KY)
 have HG := Lib.hid BG
 have HB := Lib.hid B1
 have HD := Lib.hid DY
 have HR := Lib.hid hR
 have HC := Lib.hid hC
 clear BG B1 DY hR hC
 go_wp2_with fail
 refine (vkH c A c.own.length m _).mono ?_
 rintro e Z4 ⟨rfl, KZ⟩
 have z1 : Z4.cell? ⟨d, 1, none⟩ = some (.int .i64 1) := KZ.cell y1
 have KX4 : Kp w1 Z4 := KY.trans KZ
 clear c0 c1 c2 c3 c4 c5 c6 c7 c8 l0 l1 l2 y1 y2 hY KZ KY hd
 go_wp2_with fail
 refine (vao _ _ _ _).mono ?_
 rintro e Z' ⟨rfl, rfl⟩
 have hN : (clampI c.t4 1 1000000 != c.t4) = !spanB 4 c := vaB _ _ _ (by decide)
 rcases hs4 : spanB 4 c with _ | _
 ·rw [hs4] at hN
  have H := Lib.hid (vbm (by omega) hs4)
  clear hs4
  go_wp2_with fail
  exact ⟨rfl, MustC.no H.out (kW.trans KX4)⟩
 rw [hs4] at hN
 have HS4 := Lib.hid hs4
 clear hs4
 go_wp2_with fail
 have BG := HG.out
 have B1 := HB.out
 have hR := HR.out
 have hC := HC.out
 clear HG HB HD HR HC hN z1
 -- round 5
 rw [rounds_succ]
 obtain ⟨d, hd⟩ : ∃ d, Z4.heap.size = d := ⟨_, rfl⟩
 obtain ⟨Y, hY, KY, DY⟩ : ∃ Y, Z4.alloc (.cells #[.string (n 5), .int .i64 0, .func (.func 240) #[] #[]] 295) = Y ∧ Kp w1 Y ∧ Blk Y d 295 #[.string (n 5), .int .i64 0, .func (.func 240) #[] #[]] := ⟨_, rfl, (KX4).alloc _, by rw [← hd]; exact Blk.new _ _ _⟩
 have l0 : Z4.cell? ⟨g, 15, none⟩ = some (.string (n 5)) := (BG.keep (KX4)).cell 15
 have l1 : Z4.cell? ⟨g, 16, none⟩ = some (.int .i64 0) := (BG.keep (KX4)).cell 16
 have l2 : Z4.cell? ⟨g, 17, none⟩ = some (.func (.func 240) #[] #[]) := (BG.keep (KX4)).cell 17
 obtain ⟨-, y1, y2⟩ := Blk.v3 DY _ (.int .i64 0) (.func (.func 240) #[] #[]) rfl
 obtain ⟨c0, c1, c2, c3, c4, c5, c6, c7, c8⟩ := Blk.p9 (B1.keep KY)
 have HG := Lib.hid BG
 have HB := Lib.hid B1
 have HD := Lib.hid DY
 have HR := Lib.hid hR
 have HC := Lib.hid hC
 clear BG B1 DY hR hC
 go_wp2_with fail
 refine (vkI c A c.own.length m _).mono ?_
 rintro e Z5 ⟨rfl, KZ⟩
 have z1 : Z5.cell? ⟨d, 1, none⟩ = some (.int .i64 0) := KZ.cell y1
 have KX5 : Kp w1 Z5 := KY.trans KZ
 clear c0 c1 c2 c3 c4 c5 c6 c7 c8 l0 l1 l2 y1 y2 hY KZ KY hd
 go_wp2_with fail
 refine (vao _ _ _ _).mono ?_
 rintro e Z' ⟨rfl, rfl⟩
 have hN : (clampI c.t5 0 1000000 != c.t5) = !spanB 5 c := vaB _ _ _ (by decide)
 rcases hs5 : spanB 5 c with _ | _
 ·rw [hs5] at hN
  have H := Lib.hid (vbm (by omega) hs5)
  clear hs5
  go_wp2_with fail
  exact ⟨rfl, MustC.no H.out (kW.trans KX5)⟩
 rw [hs5] at hN
 have HS5 := Lib.hid hs5
 clear hs5
 go_wp2_with fail
 have BG := HG.out
 have B1 := HB.out
 have hR := HR.out
 have hC := HC.out
 clear HG HB HD HR HC hN z1
 -- round 6
 rw [rounds_succ]
 obtain ⟨d, hd⟩ : ∃ d, Z5.heap.size = d := ⟨_, rfl⟩
 obtain ⟨Y, hY, KY, DY⟩ : ∃ Y, Z5.alloc (.cells #[.string (n 6), .int .i64 0, .func (.func 241) #[] #[]] 295) = Y ∧ Kp w1 Y ∧ Blk Y d 295 #[.string (n 6), .int .i64 0, .func (.func 241) #[] #[]] := ⟨_, rfl, (KX5).alloc _, by rw [← hd]; exact Blk.new _ _ _⟩
 have l0 : Z5.cell? ⟨g, 18, none⟩ = some (.string (n 6)) := (BG.keep (KX5)).cell 18
 have l1 : Z5.cell? ⟨g, 19, none⟩ = some (.int .i64 0) := (BG.keep (KX5)).cell 19
 have l2 : Z5.cell? ⟨g, 20, none⟩ = some (.func (.func 241) #[] #[]) := (BG.keep (KX5)).cell 20
 obtain ⟨-, y1, y2⟩ := Blk.v3 DY _ (.int .i64 0) (.func (.func 241) #[] #[]) rfl
 obtain ⟨c0, c1, c2, c3, c4, c5, c6, c7, c8⟩ := Blk.p9 (B1.keep KY)
 have HG := Lib.hid BG
 have HB := Lib.hid B1
 have HD := Lib.hid DY
 have HR := Lib.hid hR
 have HC := Lib.hid hC
 clear BG B1 DY hR hC
 go_wp2_with fail
 refine (vkJ c A c.own.length m _).mono ?_
 rintro e Z6 ⟨rfl, KZ⟩
 have z1 : Z6.cell? ⟨d, 1, none⟩ = some (.int .i64 0) := KZ.cell y1
 have KX6 : Kp w1 Z6 := KY.trans KZ
 clear c0 c1 c2 c3 c4 c5 c6 c7 c8 l0 l1 l2 y1 y2 hY KZ KY hd
 go_wp2_with fail
 refine (vao _ _ _ _).mono ?_
 rintro e Z' ⟨rfl, rfl⟩
 have hN : (clampI c.t6 0 1000000 != c.t6) = !spanB 6 c := vaB _ _ _ (by decide)
 rcases hs6 : spanB 6 c with _ | _
 ·rw [hs6] at hN
  have H := Lib.hid (vbm (by omega) hs6)
  clear hs6
  go_wp2_with fail
  exact ⟨rfl, MustC.no H.out (kW.trans KX6)⟩
 rw [hs6] at hN
 have HS6 := Lib.hid hs6
 clear hs6
 go_wp2_with fail
 have BG := HG.out
 have B1 := HB.out
 have hR := HR.out
 have hC := HC.out
 clear HG HB HD HR HC hN z1
 rw [rounds_succ]
 have C := hC.keep KX6
 have q0 := C.1
 have q1 := C.2
 obtain ⟨-, -, -, -, -, -, -, p7, p8⟩ := Blk.p9 (B1.keep KX6)
 have hN : (clampI c.cap 1 256 != c.cap) = !withB 1 256 c.cap := vaB _ _ _ (by decide)
 have i0 : (0 : Int) < 2 := by decide
 have i1 : (1 : Int) < 2 := by decide
 have HR := Lib.hid (hR.keep KX6)
 have HS := Lib.hid (show spansB c = true by unfold spansB; rw [HS0.out, HS1.out, HS2.out, HS3.out, HS4.out, HS5.out, HS6.out]; rfl)
 have KX := kW.trans KX6
 clear C BG B1 hR hC HS0 HS1 HS2 HS3 HS4 HS5 HS6 KX0 KX1 KX2 KX3 KX4 KX5 KX6 kW
 rcases hcap : withB 1 256 c.cap with _ | _
 ·rw [hcap] at hN
  have H := Lib.hid (show okCf c = false by unfold okCf; rw [hcap]; simp)
  clear hcap
  go_wp2_with fail
  go_quiet (first | (go_at_call 170; exact Calls.quiet_of_same ((vdb _ _ _ _).mono fun _ _ h => ⟨h.1, h.2.symm⟩)))
  go_wp2_with fail
  exact ⟨rfl, MustC.no H.out (KX.drewN _)⟩
 rw [hcap] at hN
 have HW := Lib.hid hcap
 clear hcap
 go_wp2_with fail
 go_quiet (first | (go_at_call 170; exact Calls.quiet_of_same ((vdb _ _ _ _).mono fun _ _ h => ⟨h.1, h.2.symm⟩)))
 rcases hl : decide ((c.own.length : Int) ≤ min 16 c.cap) with _ | _
 ·have H := Lib.hid (show okCf c = false by unfold okCf; rw [hl]; simp)
  have h1 := of_decide_eq_false hl
  clear hl
  go_wp2_with fail
  all_goals exact ⟨rfl, MustC.no H.out (KX.drewN _)⟩
 have HL := Lib.hid hl
 have h1 := of_decide_eq_true hl
 have hlen : c.own.length ≤ 16 := by omega
 have hfin : freeB c.own = true → okCf c = true := fun hf => by
  unfold okCf
  rw [HS.out, HW.out, HL.out, hf]
  rfl
 have hbad : freeB c.own = false → okCf c = false := fun hf => by
  unfold okCf
  rw [hf]
  simp
 have HF := Lib.hid hfin
 have HX := Lib.hid hbad
 clear hl hfin hbad HW HL HS hN
 go_wp2_with fail
 all_goals
  go_loopw [55] (fun i wr => ∃ k : Nat, k ≤ c.own.length ∧ i = .int .i64 k ∧ Hid (freeB (c.own.take k) = true) ∧ Kp Z6 wr ∧ Kp w wr) (fun i _ => c.own.length - (intOf i).toNat)
  case atStart => exact ⟨0, Nat.zero_le _, rfl, Lib.hid rfl, (Kp.refl _).drewN _, KX.drewN _⟩
  case round =>
   obtain ⟨k, hk, rfl, hall, hK, hKw⟩ := hrel
   by_cases hlt : k < c.own.length
   ·obtain ⟨a, off, rfl, c0, c1⟩ := pi_at (HR.out.keep hK) hlt
    have hak := Ha.out k hlt
    have hkm : k ≤ m := by omega
    have s8 : wr.cell? ⟨b, 8, none⟩ = some (.slice (some ⟨a, off, none⟩) c.own.length m) := hK.cell p8
    obtain ⟨f, hf⟩ : ∃ f, wr.heap.size = f := ⟨_, rfl⟩
    obtain ⟨V, hV, kV, kVw, D0⟩ : ∃ V, wr.alloc (.cells #[.int .u32 (c.own[k].a : Int), .int .i64 c.own[k].l] 39) = V ∧ Kp Z6 V ∧ Kp w V ∧ Blk V f 39 #[.int .u32 (c.own[k].a : Int), .int .i64 c.own[k].l] := ⟨_, rfl, hK.alloc _, hKw.alloc _, by rw [← hf]; exact Blk.new _ _ _⟩
    obtain ⟨v0, v1⟩ := Blk.v2 D0 (.int .u32 (c.own[k].a : Int)) (.int .i64 c.own[k].l) rfl
    go_wp2_with fail
    refine (vjs c.own[k] _ hak).mono ?_
    rintro e V1 ⟨x0, x1, x2, x3, x4, x5, rfl, K1⟩
    clear c0 c1 v0 v1 s8 hV
    obtain ⟨V2, hV2, kV2, kV2w, D2⟩ : ∃ V2, V1.alloc (.cells #[.int .i64 x0, .int .i64 x1, .int .u32 x2, .int .u32 x3, .int .u32 x4, .int .u32 x5] 66) = V2 ∧ Kp Z6 V2 ∧ Kp w V2 ∧ Blk V2 f 39 #[.int .u32 (c.own[k].a : Int), .int .i64 c.own[k].l] := ⟨_, rfl, (kV.trans K1).alloc _, (kVw.trans K1).alloc _, (D0.keep K1).alloc _⟩
    obtain ⟨v0, v1⟩ := Blk.v2 D2 (.int .u32 (c.own[k].a : Int)) (.int .i64 c.own[k].l) rfl
    have s8 : V2.cell? ⟨b, 8, none⟩ = some (.slice (some ⟨a, off, none⟩) c.own.length m) := kV2.cell p8
    have hs := vcC hlt
    rw [hall.out, Bool.true_and] at hs
    cases ht : toldB c.own[k] with
    | false =>
     rw [ht, Bool.false_and] at hs
     have H := Lib.hid (HX.out (vea hs))
     clear hs ht hall
     go_wp2_with fail
     go_quiet (fail)
     go_wp2_with fail
     exact ⟨rfl, MustC.no H.out (kV2w.drewN _)⟩
    | true =>
     rw [ht, Bool.true_and] at hs
     have htk : (c.own.take k).length = k := by rw [List.length_take]; omega
     have hh := fun u (hu : Rd u 2 PI.enc (some ⟨a, off, none⟩) (c.own.take k)) => viH (some ⟨a, off, none⟩) m (c.own.take k) c.own[k] u hu (by omega)
     rw [htk] at hh
     have HT := Lib.hid (show Rd V2 2 PI.enc (some ⟨a, off, none⟩) (c.own.take k) from vkK (HR.out.keep kV2) k)
     have K : Kp V2 V2.drew := (Kp.refl V2).drew
     rcases hin : decide (c.own[k] ∈ c.own.take k) with _ | _
     ·rw [hin] at hh
      have H := Lib.hid (show freeB (c.own.take (k + 1)) = true by rw [hs]; simpa using hin)
      have HH := Lib.hid hh
      clear hs ht hall hin hh htk
      go_wp2_with fail
      go_region_held3 (fun w' => w'.cell? ⟨f, 0, none⟩ = some (.int .u32 (c.own[k].a : Int)) ∧ w'.cell? ⟨f, 1, none⟩ = some (.int .i64 c.own[k].l) ∧ w'.cell? ⟨b, 8, none⟩ = some (.slice (some ⟨a, off, none⟩) c.own.length m))
       (first | exact ⟨K.cell v0, K.cell v1, K.cell s8⟩ | go_keep)
       (first | (go_at_call 171; refine (HH.out _ (HT.out.keep K)).mono ?_; rintro e wv ⟨rfl, hKv⟩; have K := K.trans hKv; clear hKv))
      all_goals (try go_wp2_with fail)
      go_roundw
      case rel => exact ⟨k + 1, by omega, by go_num, H, kV2.trans K, kV2w.trans K⟩
      case measure => simp [intOf]; omega
     ·rw [hin] at hh
      have H := Lib.hid (HX.out (vea (i := k + 1) (by rw [hs]; simpa using hin)))
      have HH := Lib.hid hh
      clear hs ht hall hin hh htk
      go_wp2_with fail
      go_region_held3 (fun w' => w'.cell? ⟨f, 0, none⟩ = some (.int .u32 (c.own[k].a : Int)) ∧ w'.cell? ⟨f, 1, none⟩ = some (.int .i64 c.own[k].l) ∧ w'.cell? ⟨b, 8, none⟩ = some (.slice (some ⟨a, off, none⟩) c.own.length m))
       (first | exact ⟨K.cell v0, K.cell v1, K.cell s8⟩ | go_keep)
       (first | (go_at_call 171; refine (HH.out _ (HT.out.keep K)).mono ?_; rintro e wv ⟨rfl, hKv⟩; have K := K.trans hKv; clear hKv))
      all_goals (try go_wp2_with fail)
      exact ⟨rfl, MustC.no H.out (kV2w.trans K)⟩
   ·obtain rfl : k = c.own.length := by omega
    have H := Lib.hid (HF.out (by have := hall.out; rwa [List.take_length] at this))
    clear hall
    go_wp2_with fail
    go_end0
    exact MustC.yes H.out hKw
end

end Go.Proofs.YtgopnfacklmkaaaGreatDoor
