/- Lemmas and contracts for the theorem of this claim: RbT, RbU. -/
import Derived.Test.YtgopnfacklmkaaaGreatDoorZwAs
import Derived.BigQuiet
set_option linter.all false
set_option maxHeartbeats 16000000
namespace Go.Proofs.YtgopnfacklmkaaaGreatDoor
section
open Go.RowKit Go.Maps
theorem TabM.cap_ {w : World} {B t : Nat} {F : List Nat} {T : Tb} (h : TabM w B t F T) : w.cell? ⟨t, 8, none⟩ = some (.int .i64 T.c.cap) := by
 obtain ⟨q, mp, m, A, QF, l, _, X⟩ := h
 exact X.bk.cell 8
set_option maxRecDepth 100000 in
theorem veh (B t : Nat) (F : List Nat) (T : Tb) (pb pr pt : Nat) (there : Bool) (r : Rt) (w : World) (h : TabM w B t F T) (h0 : Blk w pb 4 #[.bool there]) (h1 : Blk w pr 52 (roC r)) (h2 : Blk w pt 43 #[.pointer (some ⟨t, 0, none⟩)]) (hr : okR r = true) (ha : r.p.a < 4294967296) (hn : T.l.length < 800000) (hf : 0 ≤ T.rf ∧ T.rf ≤ 2147483647) (e0 : there = true) :
  Calls Tryz.prog 59 #[.pointer (some ⟨pb, 0, none⟩), .pointer (some ⟨pr, 0, none⟩), .pointer (some ⟨pt, 0, none⟩)] w (fun e w' => e = .returned (.tuple #[]) ∧ TabT w w' B t F ⟨T.c, setR r T.l, T.now, T.rf⟩) := by
 obtain ⟨mp, hm, hM⟩ := h.cellm
 have hcap := h.cap_
 obtain ⟨g1, g2, g3⟩ := h.celln
 have hz := g3 12
 have hl := fun k => vez hM 3 (w.drewN k) rfl
 have c0 : w.cell? ⟨pb, 0, none⟩ = some (.bool there) := h0.cell 0
 have d0 : w.cell? ⟨pt, 0, none⟩ = some (.pointer (some ⟨t, 0, none⟩)) := h2.cell 0
 have p0 := Blk.f h1 rfl
 have HH := Lib.hid h
 have H1 := Lib.hid h1
 clear h g3 h0 h1 h2 hM
 subst e0
 go_enter Tryz.func59, Tryz.ntmps59
 go_wp2_with fail
 go_quiet (fail)
 obtain ⟨g, hg⟩ : ∃ g, w.heap.size = g := ⟨_, rfl⟩
 obtain ⟨W, hW, kW, B0⟩ : ∃ W, (w.drewN nq).alloc (.cells (roC r) 52) = W ∧ Kp w W ∧ Blk W g 52 (roC r) := ⟨_, rfl, ((Kp.refl _).drewN _).alloc _, by rw [← hg]; exact Blk.new (w.drewN nq) _ _⟩
 unfold roC at hW
 clear hl
 go_wp2_with fail
 refine (vdk B t g F T r _ (HH.out.keep kW) B0 hr ha hn).mono ?_
 rintro e w2 ⟨rfl, hT⟩
 have HT := Lib.hid (hT.trans (Only.of_kp kW) (fun _ e => .inl e))
 clear hT hW c0 d0 p0 hm hcap g1 g2 hz
 go_wp2_with fail
 go_end0
 exact ⟨rfl, HT.out⟩
set_option maxRecDepth 100000 in
theorem vff (B t : Nat) (F : List Nat) (T : Tb) (pb pr pt : Nat) (there : Bool) (r : Rt) (w : World) (h : TabM w B t F T) (h0 : Blk w pb 4 #[.bool there]) (h1 : Blk w pr 52 (roC r)) (h2 : Blk w pt 43 #[.pointer (some ⟨t, 0, none⟩)]) (hr : okR r = true) (ha : r.p.a < 4294967296) (hn : T.l.length < 800000) (hf : 0 ≤ T.rf ∧ T.rf ≤ 2147483647) (e0 : there = false) (e1 : (r.s == 2) = false) :
  Calls Tryz.prog 59 #[.pointer (some ⟨pb, 0, none⟩), .pointer (some ⟨pr, 0, none⟩), .pointer (some ⟨pt, 0, none⟩)] w (fun e w' => e = .returned (.tuple #[]) ∧ TabT w w' B t F ⟨T.c, setR r T.l, T.now, T.rf⟩) := by
 obtain ⟨mp, hm, hM⟩ := h.cellm
 have hcap := h.cap_
 obtain ⟨g1, g2, g3⟩ := h.celln
 have hz := g3 12
 have hl := fun k => vez hM 3 (w.drewN k) rfl
 have c0 : w.cell? ⟨pb, 0, none⟩ = some (.bool there) := h0.cell 0
 have d0 : w.cell? ⟨pt, 0, none⟩ = some (.pointer (some ⟨t, 0, none⟩)) := h2.cell 0
 have p0 := Blk.f h1 rfl
 have HH := Lib.hid h
 have H1 := Lib.hid h1
 clear h g3 h0 h1 h2 hM
 subst e0
 go_enter Tryz.func59, Tryz.ntmps59
 go_wp2_with fail
 go_quiet (fail)
 obtain ⟨g, hg⟩ : ∃ g, w.heap.size = g := ⟨_, rfl⟩
 obtain ⟨W, hW, kW, B0⟩ : ∃ W, (w.drewN nq).alloc (.cells (roC r) 52) = W ∧ Kp w W ∧ Blk W g 52 (roC r) := ⟨_, rfl, ((Kp.refl _).drewN _).alloc _, by rw [← hg]; exact Blk.new (w.drewN nq) _ _⟩
 unfold roC at hW
 clear hl
 go_wp2_with fail
 refine (vdk B t g F T r _ (HH.out.keep kW) B0 hr ha hn).mono ?_
 rintro e w2 ⟨rfl, hT⟩
 have HT := Lib.hid (hT.trans (Only.of_kp kW) (fun _ e => .inl e))
 clear hT hW c0 d0 p0 hm hcap g1 g2 hz
 go_wp2_with fail
 go_end0
 exact ⟨rfl, HT.out⟩
set_option maxRecDepth 100000 in
theorem vfg (B t : Nat) (F : List Nat) (T : Tb) (pb pr pt : Nat) (there : Bool) (r : Rt) (w : World) (h : TabM w B t F T) (h0 : Blk w pb 4 #[.bool there]) (h1 : Blk w pr 52 (roC r)) (h2 : Blk w pt 43 #[.pointer (some ⟨t, 0, none⟩)]) (hr : okR r = true) (ha : r.p.a < 4294967296) (hn : T.l.length < 800000) (hf : 0 ≤ T.rf ∧ T.rf ≤ 2147483647) (e0 : there = false) (e1 : (r.s == 2) = true) (e2 : decide (T.c.cap ≤ (T.l.length : Int)) = false) :
  Calls Tryz.prog 59 #[.pointer (some ⟨pb, 0, none⟩), .pointer (some ⟨pr, 0, none⟩), .pointer (some ⟨pt, 0, none⟩)] w (fun e w' => e = .returned (.tuple #[]) ∧ TabT w w' B t F ⟨T.c, setR r T.l, T.now, T.rf⟩) := by
 obtain ⟨mp, hm, hM⟩ := h.cellm
 have hcap := h.cap_
 obtain ⟨g1, g2, g3⟩ := h.celln
 have hz := g3 12
 have hl := fun k => vez hM 3 (w.drewN k) rfl
 have c0 : w.cell? ⟨pb, 0, none⟩ = some (.bool there) := h0.cell 0
 have d0 : w.cell? ⟨pt, 0, none⟩ = some (.pointer (some ⟨t, 0, none⟩)) := h2.cell 0
 have p0 := Blk.f h1 rfl
 have HH := Lib.hid h
 have H1 := Lib.hid h1
 clear h g3 h0 h1 h2 hM
 subst e0
 go_enter Tryz.func59, Tryz.ntmps59
 go_wp2_with fail
 go_quiet (fail)
 obtain ⟨g, hg⟩ : ∃ g, w.heap.size = g := ⟨_, rfl⟩
 obtain ⟨W, hW, kW, B0⟩ : ∃ W, (w.drewN nq).alloc (.cells (roC r) 52) = W ∧ Kp w W ∧ Blk W g 52 (roC r) := ⟨_, rfl, ((Kp.refl _).drewN _).alloc _, by rw [← hg]; exact Blk.new (w.drewN nq) _ _⟩
 unfold roC at hW
 clear hl
 go_wp2_with fail
 refine (vdk B t g F T r _ (HH.out.keep kW) B0 hr ha hn).mono ?_
 rintro e w2 ⟨rfl, hT⟩
 have HT := Lib.hid (hT.trans (Only.of_kp kW) (fun _ e => .inl e))
 clear hT hW c0 d0 p0 hm hcap g1 g2 hz
 go_wp2_with fail
 go_end0
 exact ⟨rfl, HT.out⟩
set_option maxRecDepth 100000 in
theorem vfh (B t : Nat) (F : List Nat) (T : Tb) (pb pr pt : Nat) (there : Bool) (r : Rt) (w : World) (h : TabM w B t F T) (h0 : Blk w pb 4 #[.bool there]) (h1 : Blk w pr 52 (roC r)) (h2 : Blk w pt 43 #[.pointer (some ⟨t, 0, none⟩)]) (hr : okR r = true) (ha : r.p.a < 4294967296) (hn : T.l.length < 800000) (hf : 0 ≤ T.rf ∧ T.rf ≤ 2147483647) (e0 : there = false) (e1 : (r.s == 2) = true) (e2 : decide (T.c.cap ≤ (T.l.length : Int)) = true) :
  Calls Tryz.prog 59 #[.pointer (some ⟨pb, 0, none⟩), .pointer (some ⟨pr, 0, none⟩), .pointer (some ⟨pt, 0, none⟩)] w (fun e w' => e = stopB 200 ∧ TabM w' B t F ⟨T.c, T.l, T.now, min (T.rf + 1) 2147483647⟩ ∧ Only [t] w w') := by
 obtain ⟨mp, hm, hM⟩ := h.cellm
 have hcap := h.cap_
 obtain ⟨g1, g2, g3⟩ := h.celln
 have hz := g3 12
 have hl := fun k => vez hM 3 (w.drewN k) rfl
 have c0 : w.cell? ⟨pb, 0, none⟩ = some (.bool there) := h0.cell 0
 have d0 : w.cell? ⟨pt, 0, none⟩ = some (.pointer (some ⟨t, 0, none⟩)) := h2.cell 0
 have p0 := Blk.f h1 rfl
 have HH := Lib.hid h
 have H1 := Lib.hid h1
 clear h g3 h0 h1 h2 hM
 subst e0
 go_enter Tryz.func59, Tryz.ntmps59
 go_wp2_with fail
 go_quiet (fail)
 clear hl
 rcases Int.lt_or_le 2147483647 (T.rf + 1) with hrf | hrf
 ·have hmin : min (T.rf + 1) 2147483647 = 2147483647 := by omega
  go_wp2_with fail
  go_region
  all_goals go_wp2_with (first | (go_at_call 56; refine (vcq 200 (by decide) _).mono ?_; rintro e w' ⟨rfl, hw'⟩; rw [hw']; clear hw' w'))
  all_goals exact ⟨rfl, rfl, by rw [hmin]; exact (HH.out.keep ((Kp.refl w).drewN _)).rf_ _, ((Only.refl [t] w).drewN _).setCell (p := ⟨t, 12, none⟩) (.inl (by simp)) _⟩
 ·have hmin : min (T.rf + 1) 2147483647 = T.rf + 1 := by omega
  go_wp2_with fail
  go_region
  all_goals go_wp2_with (first | (go_at_call 56; refine (vcq 200 (by decide) _).mono ?_; rintro e w' ⟨rfl, hw'⟩; rw [hw']; clear hw' w'))
  all_goals exact ⟨rfl, rfl, by rw [hmin]; exact (HH.out.keep ((Kp.refl w).drewN _)).rf_ _, ((Only.refl [t] w).drewN _).setCell (p := ⟨t, 12, none⟩) (.inl (by simp)) _⟩
theorem vki (e : Int) (w : World) : (Instr.typeAssert (stopBV e) 20 128 true).run Tryz.prog w = .ok (.tuple #[.int .i64 e, .bool true]) w := by kernel_rfl
theorem vkj (w : World) : (Instr.typeAssert .nilIface 20 128 true).run Tryz.prog w = .ok (.tuple #[.int .i64 0, .bool false]) w := by kernel_rfl
def upB (e : Int) : FrameMode := .panicking [{ v := stopBV e, recovered := false }]
def caughtB (e : Int) : FrameMode := .panicking [{ v := stopBV e, recovered := true }]
theorem vio (e : Int) : recM (upB e) = (stopBV e, caughtB e) := rfl
set_option maxRecDepth 100000 in
theorem vbh (p0 p1 : Nat) (y v0 v1 v2 v3 v4 v5 v6 v7 v8 : Value) (e : Int) (w : World) (h0 : Blk w p0 52 #[v0, v1, v2, v3, v4, v5, v6, v7, v8]) (h1 : Blk w p1 44 #[y]) (n01 : ¬ p0 = p1) :
  CallsD Tryz.prog 54 #[.pointer (some ⟨p0, 0, none⟩), .pointer (some ⟨p1, 0, none⟩)] (upB e) w fun en u' w' =>
   en = .returned (.tuple #[]) ∧ u' = caughtB e ∧ Blk w' p0 52 zero9 ∧ Blk w' p1 44 #[.int .i64 e] ∧ Only [p0, p1] w w' := by
 have c0 := Blk.f (l := [v0, v1, v2, v3, v4, v5, v6, v7, v8]) h0 rfl
 have z0 := Blk.frozen h0
 have d0 : w.cell? ⟨p1, 0, none⟩ = some y := h1.cell 0
 have zd := Blk.frozen h1
 have n10 : ¬ p1 = p0 := fun h => n01 h.symm
 have hty := vki
 obtain ⟨R, hR, BR, BE, hO⟩ := Blk.putO h0 zeroR h1 n01 (v := .int .i64 e)
 simp only [roSet, noR, zeroR, Int.natCast_zero] at hR
 rw [vev] at BR
 refine vah _ _ (vio e) Tryz.func54 rfl rfl rfl ?_
 simp only [Tryz.ntmps54, Act.put, List.size_toArray, List.length_cons, List.length_nil, Nat.reduceAdd, Nat.reduceSub, Array.replicate_succ, Array.replicate_zero, List.push_toArray, List.append_toArray, List.nil_append, List.cons_append]
 go_wp2_with fail
 go_end0
 exact ⟨rfl, trivial, BR, BE, hO⟩
set_option maxRecDepth 100000 in
theorem vfi (p0 p1 : Value) (w : World) :
  CallsD Tryz.prog 54 #[p0, p1] .returning w fun en u' w' => en = .returned (.tuple #[]) ∧ u' = .returning ∧ w' = w := by
 have hty := vkj
 refine vah _ _ vcm Tryz.func54 rfl rfl rfl ?_
 simp only [Tryz.ntmps54, Act.put, List.size_toArray, List.length_cons, List.length_nil, Nat.reduceAdd, Nat.reduceSub, Array.replicate_succ, Array.replicate_zero, List.push_toArray, List.append_toArray, List.nil_append, List.cons_append]
 go_wp2_with fail
 go_end0
 exact ⟨rfl, trivial, rfl⟩
theorem vkk (c : Cf) (p : PI) (h : Hd) (now : Int) : (hearR c (noR p) h now).s = 0 ∨ (hearR c (noR p) h now).s = 2 := by
 unfold hearR
 rw [if_neg (show ¬ (noR p).s = 1 from (by decide : ¬ (0 : Int) = 1)), if_neg (show ¬ (noR p).s = 2 from (by decide : ¬ (0 : Int) = 2)), if_neg (show ¬ (noR p).s = 3 from (by decide : ¬ (0 : Int) = 3))]
 split
 ·exact .inr rfl
 ·exact .inl rfl
def Hear2P (B t : Nat) (F : List Nat) (T : Tb) (full : Bool) (r : Rt) (w : World) (e : Ending) (w' : World) : Prop := (full = true → e = stopB 200 ∧ TabM w' B t F ⟨T.c, T.l, T.now, min (T.rf + 1) 2147483647⟩ ∧ Only [t] w w') ∧ (full = false → e = .returned (.tuple #[]) ∧ TabT w w' B t F ⟨T.c, setR r T.l, T.now, T.rf⟩)
theorem vgG (B t : Nat) (F : List Nat) (T : Tb) (pb pr pt : Nat) (p : PI) (h : Hd) (now : Int) (r : Rt) (w : World) (hM : TabM w B t F T) (h0 : Blk w pb 4 #[.bool (getR p T.l).isSome]) (h1 : Blk w pr 52 (roC r)) (h2 : Blk w pt 43 #[.pointer (some ⟨t, 0, none⟩)]) (hr : okR r = true) (ha : r.p.a < 4294967296) (hn : T.l.length < 800000) (hf : 0 ≤ T.rf ∧ T.rf ≤ 2147483647) (he : r = hearR T.c (wasR p T.l) h now) :
  Calls Tryz.prog 59 #[.pointer (some ⟨pb, 0, none⟩), .pointer (some ⟨pr, 0, none⟩), .pointer (some ⟨pt, 0, none⟩)] w (Hear2P B t F T (fullB T p r) r w) := by
 cases hg : getR p T.l with
 | some x =>
  rw [hg] at h0
  have hb : fullB T p r = false := by unfold fullB; rw [hg]; rfl
  refine (veh B t F T pb pr pt true r w hM h0 h1 h2 hr ha hn hf rfl).mono ?_
  rintro e w' hE
  exact ⟨fun z => (by rw [hb] at z; cases z), fun _ => hE⟩
 | none =>
  rw [hg] at h0
  have hw : wasR p T.l = noR p := by unfold wasR; rw [hg]; rfl
  have hs : r.s = 0 ∨ r.s = 2 := by rw [he, hw]; exact vkk _ _ _ _
  rcases hs with hs | hs
  ·have hb : fullB T p r = false := by unfold fullB; rw [decide_eq_false (by omega)]; simp
   refine (vff B t F T pb pr pt false r w hM h0 h1 h2 hr ha hn hf rfl (beqF (by omega))).mono ?_
   rintro e w' hE
   exact ⟨fun z => (by rw [hb] at z; cases z), fun _ => hE⟩
  ·cases hc : decide (T.c.cap ≤ (T.l.length : Int)) with
   | true =>
    have hb : fullB T p r = true := by unfold fullB; rw [hg, decide_eq_true (by omega), hc]; rfl
    refine (vfh B t F T pb pr pt false r w hM h0 h1 h2 hr ha hn hf rfl (beqT hs) hc).mono ?_
    rintro e w' hE
    exact ⟨fun _ => hE, fun z => (by rw [hb] at z; cases z)⟩
   | false =>
    have hb : fullB T p r = false := by unfold fullB; rw [hc]; simp
    refine (vfg B t F T pb pr pt false r w hM h0 h1 h2 hr ha hn hf rfl (beqT hs) hc).mono ?_
    rintro e w' hE
    exact ⟨fun z => (by rw [hb] at z; cases z), fun _ => hE⟩
end

end Go.Proofs.YtgopnfacklmkaaaGreatDoor
