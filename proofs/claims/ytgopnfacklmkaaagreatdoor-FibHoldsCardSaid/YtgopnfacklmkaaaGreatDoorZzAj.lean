/- Lemmas and contracts for the theorem of this claim: RoL, CfC. -/
import Derived.Test.YtgopnfacklmkaaaGreatDoorZzAi
set_option linter.all false
set_option maxHeartbeats 16000000
namespace Go.Proofs.YtgopnfacklmkaaaGreatDoor
section
open Go.RowKit
def okR (r : Rt) : Bool := stateB r && toldB r.p
theorem vdC (r : Rt) : checkR r = if okR r then 0 else 2 := rfl
structure Cf where
 t0 : Int
 t1 : Int
 t2 : Int
 t3 : Int
 t4 : Int
 t5 : Int
 t6 : Int
 cap : Int
 own : List PI
def Cf.t (c : Cf) (k : Nat) : Int := match k with | 0 => c.t0 | 1 => c.t1 | 2 => c.t2 | 3 => c.t3 | 4 => c.t4 | 5 => c.t5 | _ => c.t6
def leastS (k : Nat) : Int := match k with | 0 => 1 | 1 => 0 | 2 => 1 | 3 => 0 | 4 => 1 | 5 => 0 | _ => 0
def spanB (k : Nat) (c : Cf) : Bool := withB (leastS k) 1000000 (c.t k)
def spansB (c : Cf) : Bool := spanB 0 c && spanB 1 c && spanB 2 c && spanB 3 c && spanB 4 c && spanB 5 c && spanB 6 c
def freeB (l : List PI) : Bool := l.all toldB && decide l.Nodup
def okCf (c : Cf) : Bool := spansB c && withB 1 256 c.cap && (decide ((c.own.length : Int) ≤ min 16 c.cap) && freeB c.own)
def checkC (c : Cf) : Int := if okCf c then 0 else 2
theorem vaa {lo hi n : Int} : withB lo hi n = true ↔ lo ≤ n ∧ n ≤ hi := by
 simp only [withB, Bool.and_eq_true, Bool.not_eq_true', decide_eq_false_iff_not]
 omega
theorem vbI {l : List PI} {i : Nat} (h : i < l.length) : freeB (l.take (i + 1)) = (freeB (l.take i) && (toldB l[i] && decide (l[i] ∉ l.take i))) := by
 have e : l.take (i + 1) = l.take i ++ [l[i]] := by rw [List.take_succ_eq_append_getElem h]
 unfold freeB
 rw [e, List.all_append, Bool.eq_iff_iff]
 simp only [Bool.and_eq_true, List.all_cons, List.all_nil, Bool.and_true, decide_eq_true_eq, List.nodup_append]
 constructor
 ·rintro ⟨⟨h1, h2⟩, h3, _, h4⟩
  exact ⟨⟨h1, h3⟩, h2, fun hm => h4 _ hm _ (by simp) rfl⟩
 ·rintro ⟨⟨h1, h2⟩, h3, h4⟩
  refine ⟨⟨h1, h3⟩, h2, by simp, fun a ha b hb e => ?_⟩
  simp only [List.mem_cons, List.not_mem_nil, or_false] at hb
  subst hb
  subst e
  exact h4 ha
theorem vcu {l : List PI} {i : Nat} (h : freeB (l.take i) = false) : freeB l = false := by
 cases e : freeB l with
 | false => rfl
 | true =>
  unfold freeB at e h
  simp only [Bool.and_eq_true, List.all_eq_true, decide_eq_true_eq] at e
  rw [← h]
  symm
  simp only [Bool.and_eq_true, List.all_eq_true, decide_eq_true_eq]
  exact ⟨fun x hx => e.1 x (List.mem_of_mem_take hx), e.2.sublist (List.take_sublist _ _)⟩
structure Hd where
 f : Int
 a : Nat
 m : Int
def okHd (h : Hd) : Bool := mayB h.f h.a && withB 1 16 h.m
def okNow (t : Int) : Bool := withB 0 4611686018426387904 t
def noR (p : PI) : Rt := ⟨p, 0, 0, 0, 0, 0, 0, false⟩
def ownR (p : PI) : Rt := ⟨p, 1, 1, 0, 0, 0, 0, true⟩
def lostR (c : Cf) (r : Rt) (now : Int) : Rt := ⟨r.p, 3, 16, r.m, r.f, r.x, now + c.t3, true⟩
def newR (c : Cf) (r : Rt) (h : Hd) (now : Int) : Rt := ⟨r.p, 2, min (h.m + 1) 16, 0, h.f, h.a, now + c.t2, true⟩
def hearR (c : Cf) (r : Rt) (h : Hd) (now : Int) : Rt :=
 if r.s = 1 then r
 else if r.s = 2 then
  if h.f = r.f ∧ h.a = r.x then
   if min (h.m + 1) 16 = r.m then ⟨r.p, 2, r.m, r.l, r.f, r.x, now + c.t2, r.c⟩
   else if min (h.m + 1) 16 = 16 then lostR c r now
   else newR c r h now
  else if min (h.m + 1) 16 < r.m then newR c r h now else r
 else if r.s = 3 then if min (h.m + 1) 16 < r.l then newR c r h now else r
 else if min (h.m + 1) 16 < 16 then newR c r h now else r
def expR (c : Cf) (r : Rt) (now : Int) : Rt :=
 if r.s < 2 ∨ now < r.d then r
 else if r.s = 2 then lostR c r now
 else if r.s = 3 then ⟨r.p, 4, r.m, 0, r.f, r.x, now + c.t4, r.c⟩
 else noR r.p
def askR (c : Cf) (r : Rt) (now : Int) : Int := if okCf c && okR r then (if okNow now then 0 else 170) else 2
def askH (c : Cf) (r : Rt) (h : Hd) (now : Int) : Int := if okCf c && okR r && okHd h then (if okNow now then 0 else 170) else 2
theorem vbJ {c : Cf} (h : okCf c = true) : ∀ k, k < 7 → leastS k ≤ c.t k ∧ c.t k ≤ 1000000 := by
 unfold okCf spansB spanB at h
 rw [Bool.and_eq_true, Bool.and_eq_true] at h
 simp only [Bool.and_eq_true, vaa] at h
 obtain ⟨⟨⟨⟨⟨⟨⟨⟨h0, h1⟩, h2⟩, h3⟩, h4⟩, h5⟩, h6⟩, _⟩, _⟩ := h
 intro k hk
 have : k = 0 ∨ k = 1 ∨ k = 2 ∨ k = 3 ∨ k = 4 ∨ k = 5 ∨ k = 6 := by omega
 rcases this with rfl | rfl | rfl | rfl | rfl | rfl | rfl
 all_goals first | exact h0 | exact h1 | exact h2 | exact h3 | exact h4 | exact h5 | exact h6
theorem vaO {c : Cf} (h : okCf c = true) : 1 ≤ c.cap ∧ c.cap ≤ 256 ∧ (c.own.length : Int) ≤ 16 ∧ (c.own.length : Int) ≤ c.cap ∧ (∀ p ∈ c.own, toldB p = true) ∧ c.own.Nodup := by
 unfold okCf freeB at h
 simp only [Bool.and_eq_true, vaa, decide_eq_true_eq, List.all_eq_true] at h
 obtain ⟨⟨_, h1, h2⟩, h3, h4, h5⟩ := h
 exact ⟨h1, h2, by omega, by omega, h4, h5⟩
theorem vnN {p : PI} (h : toldB p = true) : checkP p = 0 := by
 unfold toldB at h
 simp only [Bool.and_eq_true] at h
 unfold checkP
 rw [if_pos h.1]
theorem vaq (r : Rt) : okR r = true ↔ toldB r.p = true ∧ stateB r = true := by unfold okR; rw [Bool.and_eq_true]; exact And.comm
theorem vfC {p : PI} (h : toldB p = true) : okR (noR p) = true := by
 rw [vaq]
 exact ⟨h, by rfl⟩
theorem vfD {p : PI} (h : toldB p = true) : okR (ownR p) = true := by
 rw [vaq]
 exact ⟨h, by rfl⟩
theorem vbh {r : Rt} (h : stateB r = true) : r.s = 0 ∨ r.s = 1 ∨ r.s = 2 ∨ r.s = 3 ∨ r.s = 4 := by
 unfold stateB at h
 split at h
 ·exact .inl (by assumption)
 ·split at h
  ·exact .inr (.inl (by assumption))
  ·split at h
   ·exact .inr (.inr (.inl (by assumption)))
   ·split at h
    ·exact .inr (.inr (.inr (.inl (by assumption))))
    ·split at h
     ·exact .inr (.inr (.inr (.inr (by assumption))))
     ·cases h
theorem vbS {r : Rt} (hs : r.s = 2) : stateB r = true ↔ 2 ≤ r.m ∧ r.m ≤ 15 ∧ r.l = 0 ∧ mayB r.f r.x = true ∧ 0 ≤ r.d ∧ r.d ≤ 4611686018427387904 := by
 simp only [stateB, hs, hasB, someB, Bool.and_eq_true, vaa, beq_iff_eq, if_true, if_false, show ¬ (2 : Int) = 0 by decide, show ¬ (2 : Int) = 1 by decide]
 constructor
 ·rintro ⟨⟨a, b⟩, ⟨_, c⟩, d, e, f⟩
  exact ⟨a, b, c, d, e, f⟩
 ·rintro ⟨a, b, c, d, e, f⟩
  exact ⟨⟨a, b⟩, ⟨trivial, c⟩, d, e, f⟩
theorem vcv {r : Rt} (hs : r.s = 3) : stateB r = true ↔ r.m = 16 ∧ 2 ≤ r.l ∧ r.l ≤ 15 ∧ mayB r.f r.x = true ∧ 0 ≤ r.d ∧ r.d ≤ 4611686018427387904 := by
 simp only [stateB, hs, hasB, someB, Bool.and_eq_true, vaa, beq_iff_eq, if_true, if_false, show ¬ (3 : Int) = 0 by decide, show ¬ (3 : Int) = 1 by decide, show ¬ (3 : Int) = 2 by decide]
 constructor
 ·rintro ⟨⟨a, b⟩, ⟨c, _⟩, d, e, f⟩
  exact ⟨c, a, b, d, e, f⟩
 ·rintro ⟨c, a, b, d, e, f⟩
  exact ⟨⟨a, b⟩, ⟨c, trivial⟩, d, e, f⟩
theorem vgW {r : Rt} (hs : r.s = 4) : stateB r = true ↔ r.m = 16 ∧ r.l = 0 ∧ mayB r.f r.x = true ∧ 0 ≤ r.d ∧ r.d ≤ 4611686018427387904 := by
 simp only [stateB, hs, hasB, someB, Bool.and_eq_true, vaa, beq_iff_eq, if_true, if_false, show ¬ (4 : Int) = 0 by decide, show ¬ (4 : Int) = 1 by decide, show ¬ (4 : Int) = 2 by decide, show ¬ (4 : Int) = 3 by decide]
 constructor
 ·rintro ⟨⟨a, b⟩, d, e, f⟩
  exact ⟨a, b, d, e, f⟩
 ·rintro ⟨a, b, d, e, f⟩
  exact ⟨⟨a, b⟩, d, e, f⟩
theorem ver {c : Cf} {r : Rt} {now : Int} (hc : okCf c = true) (hr : okR r = true) (hs : r.s = 2) (hn : okNow now = true) : okR (lostR c r now) = true := by
 rw [vaq] at hr ⊢
 rw [vbS hs] at hr
 have ht := vbJ hc 3 (by omega)
 simp only [leastS, Cf.t] at ht
 rw [okNow, vaa] at hn
 refine ⟨hr.1, (vcv rfl).2 ?_⟩
 simp only [lostR]
 exact ⟨trivial, hr.2.1, hr.2.2.1, hr.2.2.2.2.1, by omega, by omega⟩
theorem vbK {c : Cf} {r : Rt} {h : Hd} {now : Int} (hc : okCf c = true) (hr : okR r = true) (hh : okHd h = true) (hn : okNow now = true) (hm : min (h.m + 1) 16 < 16) : okR (newR c r h now) = true := by
 rw [vaq] at hr ⊢
 have ht := vbJ hc 2 (by omega)
 simp only [leastS, Cf.t] at ht
 rw [okNow, vaa] at hn
 rw [okHd, Bool.and_eq_true, vaa] at hh
 refine ⟨hr.1, (vbS rfl).2 ?_⟩
 simp only [newR]
 exact ⟨by omega, by omega, trivial, hh.1, by omega, by omega⟩
theorem vcN {c : Cf} {r : Rt} {h : Hd} {now : Int} (hc : okCf c = true) (hr : okR r = true) (hh : okHd h = true) (hn : okNow now = true) : okR (hearR c r h now) = true := by
 have hr' := hr
 rw [vaq] at hr'
 have hm : 2 ≤ min (h.m + 1) 16 := by rw [okHd, Bool.and_eq_true, vaa] at hh; omega
 unfold hearR
 rcases vbh hr'.2 with hs | hs | hs | hs | hs
 ·rw [if_neg (by omega), if_neg (by omega), if_neg (by omega)]
  split
  ·exact vbK hc hr hh hn (by assumption)
  ·exact hr
 ·rw [if_pos hs]
  exact hr
 ·rw [if_neg (by omega), if_pos hs]
  have h2 := (vbS hs).1 hr'.2
  split
  ·split
   ·rw [vaq]
    have ht := vbJ hc 2 (by omega)
    simp only [leastS, Cf.t] at ht
    rw [okNow, vaa] at hn
    refine ⟨hr'.1, (vbS rfl).2 ?_⟩
    simp only
    exact ⟨h2.1, h2.2.1, h2.2.2.1, h2.2.2.2.1, by omega, by omega⟩
   ·split
    ·exact ver hc hr hs hn
    ·exact vbK hc hr hh hn (by omega)
  ·split
   ·exact vbK hc hr hh hn (by omega)
   ·exact hr
 ·rw [if_neg (by omega), if_neg (by omega), if_pos hs]
  have h3 := (vcv hs).1 hr'.2
  split
  ·exact vbK hc hr hh hn (by omega)
  ·exact hr
 ·rw [if_neg (by omega), if_neg (by omega), if_neg (by omega)]
  split
  ·exact vbK hc hr hh hn (by assumption)
  ·exact hr
theorem vcw {c : Cf} {r : Rt} {now : Int} (hc : okCf c = true) (hr : okR r = true) (hn : okNow now = true) : okR (expR c r now) = true := by
 have hr' := hr
 rw [vaq] at hr'
 unfold expR
 split
 ·exact hr
 ·split
  ·exact ver hc hr (by assumption) hn
  ·split
   ·next hs =>
    have h3 := (vcv hs).1 hr'.2
    have ht := vbJ hc 4 (by omega)
    simp only [leastS, Cf.t] at ht
    rw [okNow, vaa] at hn
    rw [vaq]
    refine ⟨hr'.1, (vgW rfl).2 ?_⟩
    simp only
    exact ⟨h3.1, trivial, h3.2.2.2.1, by omega, by omega⟩
   ·exact vfC hr'.1
theorem vjh (c : Cf) (r : Rt) (h : Hd) (now : Int) : (hearR c r h now).p = r.p := by
 unfold hearR newR lostR
 repeat' split
 all_goals rfl
theorem exp_p (c : Cf) (r : Rt) (now : Int) : (expR c r now).p = r.p := by
 unfold expR lostR noR
 repeat' split
 all_goals rfl
def cfC (c : Cf) (A : Option Addr) (n k : Nat) : Array Value := #[.int .i64 c.t0, .int .i64 c.t1, .int .i64 c.t2, .int .i64 c.t3, .int .i64 c.t4, .int .i64 c.t5, .int .i64 c.t6, .int .i64 c.cap, .slice A n k]
abbrev cfV (c : Cf) (A : Option Addr) (n k : Nat) : Value := .agg #[.int .i64 c.t0, .int .i64 c.t1, .int .i64 c.t2, .int .i64 c.t3, .int .i64 c.t4, .int .i64 c.t5, .int .i64 c.t6, .int .i64 c.cap, .slice A n k]
theorem vnO (c : Cf) (A : Option Addr) (n k : Nat) (w : World) : Calls Tryz.prog 235 #[cfV c A n k] w fun e w' => e = .returned (.int .i64 c.t0) ∧ Kp w w' := by
 obtain ⟨W, hW, kW, B0⟩ := Blk.al1 (w := w) rfl (cfC c A n k) 49
 have p0 := Blk.f B0 rfl
 unfold cfC at hW
 go_enter Tryz.func235, Tryz.ntmps235
 go_wp2_with fail
 go_ret
 exact ⟨rfl, kW⟩
theorem vnP (c : Cf) (A : Option Addr) (n k : Nat) (w : World) : Calls Tryz.prog 236 #[cfV c A n k] w fun e w' => e = .returned (.int .i64 c.t1) ∧ Kp w w' := by
 obtain ⟨W, hW, kW, B0⟩ := Blk.al1 (w := w) rfl (cfC c A n k) 49
 have p0 := Blk.f B0 rfl
 unfold cfC at hW
 go_enter Tryz.func236, Tryz.ntmps236
 go_wp2_with fail
 go_ret
 exact ⟨rfl, kW⟩
theorem vnQ (c : Cf) (A : Option Addr) (n k : Nat) (w : World) : Calls Tryz.prog 237 #[cfV c A n k] w fun e w' => e = .returned (.int .i64 c.t2) ∧ Kp w w' := by
 obtain ⟨W, hW, kW, B0⟩ := Blk.al1 (w := w) rfl (cfC c A n k) 49
 have p0 := Blk.f B0 rfl
 unfold cfC at hW
 go_enter Tryz.func237, Tryz.ntmps237
 go_wp2_with fail
 go_ret
 exact ⟨rfl, kW⟩
theorem vnR (c : Cf) (A : Option Addr) (n k : Nat) (w : World) : Calls Tryz.prog 238 #[cfV c A n k] w fun e w' => e = .returned (.int .i64 c.t3) ∧ Kp w w' := by
 obtain ⟨W, hW, kW, B0⟩ := Blk.al1 (w := w) rfl (cfC c A n k) 49
 have p0 := Blk.f B0 rfl
 unfold cfC at hW
 go_enter Tryz.func238, Tryz.ntmps238
 go_wp2_with fail
 go_ret
 exact ⟨rfl, kW⟩
theorem vnS (c : Cf) (A : Option Addr) (n k : Nat) (w : World) : Calls Tryz.prog 239 #[cfV c A n k] w fun e w' => e = .returned (.int .i64 c.t4) ∧ Kp w w' := by
 obtain ⟨W, hW, kW, B0⟩ := Blk.al1 (w := w) rfl (cfC c A n k) 49
 have p0 := Blk.f B0 rfl
 unfold cfC at hW
 go_enter Tryz.func239, Tryz.ntmps239
 go_wp2_with fail
 go_ret
 exact ⟨rfl, kW⟩
theorem vnT (c : Cf) (A : Option Addr) (n k : Nat) (w : World) : Calls Tryz.prog 240 #[cfV c A n k] w fun e w' => e = .returned (.int .i64 c.t5) ∧ Kp w w' := by
 obtain ⟨W, hW, kW, B0⟩ := Blk.al1 (w := w) rfl (cfC c A n k) 49
 have p0 := Blk.f B0 rfl
 unfold cfC at hW
 go_enter Tryz.func240, Tryz.ntmps240
 go_wp2_with fail
 go_ret
 exact ⟨rfl, kW⟩
theorem vnU (c : Cf) (A : Option Addr) (n k : Nat) (w : World) : Calls Tryz.prog 241 #[cfV c A n k] w fun e w' => e = .returned (.int .i64 c.t6) ∧ Kp w w' := by
 obtain ⟨W, hW, kW, B0⟩ := Blk.al1 (w := w) rfl (cfC c A n k) 49
 have p0 := Blk.f B0 rfl
 unfold cfC at hW
 go_enter Tryz.func241, Tryz.ntmps241
 go_wp2_with fail
 go_ret
 exact ⟨rfl, kW⟩
def clampI (n lo hi : Int) : Int := max lo (min n hi)
theorem vaT (n lo hi : Int) (h : lo ≤ hi) : (clampI n lo hi != n) = !withB lo hi n := by
 unfold clampI withB
 by_cases h1 : n < lo
 ·have : max lo (min n hi) ≠ n := by omega
  simp [h1, this]
 ·by_cases h2 : hi < n
  ·have : max lo (min n hi) ≠ n := by omega
   simp [h1, h2, this]
  ·have : max lo (min n hi) = n := by omega
   simp [h1, h2, this]
theorem vaB (n lo hi : Int) (w : World) : Calls Tryz.prog 169 #[.int .i64 n, .int .i64 lo, .int .i64 hi] w fun e w' => e = .returned (.int .i64 (clampI n lo hi)) ∧ w = w' := by
 go_enter Tryz.func169, Tryz.ntmps169
 go_wp2_with fail
 all_goals
  rename_i h0
  go_ret
  refine ⟨congrArg (fun z => Ending.returned (.int .i64 z)) ?_, rfl⟩
  unfold clampI
  first | rw [if_pos h] at h0 | rw [if_neg (by omega)] at h0
  omega
theorem ves (n lo hi : Int) (w : World) : Calls Tryz.prog 170 #[.int .i64 n, .int .i64 lo, .int .i64 hi] w fun e w' => e = .returned (.int .i64 (clampI n lo hi)) ∧ w = w' := by
 go_enter Tryz.func170, Tryz.ntmps170
 go_wp2_with fail
 all_goals
  rename_i h0
  go_ret
  refine ⟨congrArg (fun z => Ending.returned (.int .i64 z)) ?_, rfl⟩
  unfold clampI
  first | rw [if_pos h] at h0 | rw [if_neg (by omega)] at h0
  omega
set_option maxRecDepth 100000 in
theorem vlN (A : Option Addr) (c : Nat) (ps : List PI) (p : PI) (w : World) (hR : Rd w 2 PI.enc A ps) (hn : ps.length ≤ 1000000) : Calls Tryz.prog 243 #[.slice A ps.length c, .agg #[.int .u32 (p.a : Int), .int .i64 p.l]] w fun e w' => (∃ i : Int, e = .returned (.int .i64 i) ∧ decide (0 ≤ i) = decide (p ∈ ps)) ∧ Kp w w' := by
 obtain ⟨W, hW, kW, B0⟩ := Blk.al1 (w := w) rfl #[.int .u32 (p.a : Int), .int .i64 p.l] 39
 have hR := hR.keep kW
 go_enter Tryz.func243, Tryz.ntmps243
 go_wp2_with fail
 clear hW
 go_loopw [8] (fun i wr => ∃ k : Nat, k ≤ ps.length ∧ i = .int .i64 k ∧ Hid (∀ j (hj : j < ps.length), j < k → ¬ ps[j] = p) ∧ Kp w wr ∧ Kp W wr) (fun i _ => ps.length - (intOf i).toNat)
 case atStart => exact ⟨0, Nat.zero_le _, rfl, fun _ _ h => absurd h (by omega), kW, Kp.refl _⟩
 case round =>
  obtain ⟨k, hk, rfl, hall, hK, hK2⟩ := hrel
  have B := B0.keep hK2
  have p0 := Blk.f B rfl
  by_cases hlt : k < ps.length
  ·obtain ⟨b, off, rfl, c0, c1⟩ := pi_at (hR.keep hK2) hlt
   have heq := fun u => vnJ u (p.a : Int) p.l (ps[k].a : Int) ps[k].l
   by_cases he : ps[k] = p
   ·rw [show ((p.a : Int) == (ps[k].a : Int) && p.l == ps[k].l) = true by simp [he]] at heq
    have H := Lib.hid (show p ∈ ps from he ▸ List.getElem_mem hlt)
    clear he
    go_wp2_with fail
    go_quiet (fail)
    go_wp2_with fail
    go_ret
    exact ⟨⟨_, rfl, by rw [decide_eq_true (show (0 : Int) ≤ (k : Int) by omega), decide_eq_true H.out]⟩, hK.drewN _⟩
   ·rw [show ((p.a : Int) == (ps[k].a : Int) && p.l == ps[k].l) = false by
     rw [Bool.eq_false_iff]
     intro h
     simp only [Bool.and_eq_true, beq_iff_eq] at h
     exact he (PI.ext' (by omega) h.2.symm)] at heq
    have H := Lib.hid he
    clear he
    go_wp2_with fail
    go_quiet (fail)
    go_wp2_with fail
    go_roundw
    case rel =>
     refine ⟨k + 1, by omega, by go_num, Lib.hid (fun j hj hjk => ?_), hK.drewN _, hK2.drewN _⟩
     by_cases hj' : j < k
     ·exact hall.out j hj hj'
     ·obtain rfl : j = k := by omega
      exact H.out
    case measure => simp [intOf]; omega
  ·obtain rfl : k = ps.length := by omega
   go_wp2_with fail
   go_ret
   refine ⟨⟨_, rfl, ?_⟩, hK⟩
   rw [decide_eq_false (by omega), eq_comm, decide_eq_false_iff_not]
   intro h
   obtain ⟨j, hj, e⟩ := List.getElem_of_mem h
   exact hall.out j hj hj e
set_option maxRecDepth 100000 in
theorem vlO (A : Option Addr) (c : Nat) (ps : List PI) (p : PI) (w : World) (hR : Rd w 2 PI.enc A ps) (hn : ps.length ≤ 1000000) : Calls Tryz.prog 171 #[.slice A ps.length c, .agg #[.int .u32 (p.a : Int), .int .i64 p.l]] w fun e w' => e = .returned (.bool (decide (p ∈ ps))) ∧ Kp w w' := by
 obtain ⟨W, hW, kW, B0⟩ := Blk.al1 (w := w) rfl #[.int .u32 (p.a : Int), .int .i64 p.l] 39
 have hR := hR.keep kW
 have p0 := Blk.f B0 rfl
 go_enter Tryz.func171, Tryz.ntmps171
 go_wp2_with fail
 refine (vlN A c ps p _ hR hn).mono ?_
 rintro e w1 ⟨⟨i, rfl, hi⟩, K1⟩
 go_wp2_with fail
 go_ret
 exact ⟨by rw [← hi]; rfl, kW.trans K1⟩
end

end Go.Proofs.YtgopnfacklmkaaaGreatDoor
