/- Lemmas and contracts for the theorem of this claim: RbU. -/
import Derived.Test.YtffckpkikdlbpaaGreatDoorZvAr
set_option linter.all false
set_option maxHeartbeats 16000000
namespace Go.Proofs.YtffckpkikdlbpaaGreatDoor
section
open Go.RowKit Go.Maps
theorem vfA (e : Int) (w : World) : (Instr.typeAssert (stopBV e) 20 111 true).run Tryz.prog w = .ok (.tuple #[.int .i64 e, .bool true]) w := by kernel_rfl
theorem vfB (w : World) : (Instr.typeAssert .nilIface 20 111 true).run Tryz.prog w = .ok (.tuple #[.int .i64 0, .bool false]) w := by kernel_rfl
def upB (e : Int) : FrameMode := .panicking [{ v := stopBV e, recovered := false }]
def caughtB (e : Int) : FrameMode := .panicking [{ v := stopBV e, recovered := true }]
theorem ven (e : Int) : recM (upB e) = (stopBV e, caughtB e) := rfl
set_option maxRecDepth 100000 in
theorem vbU (p0 p1 : Nat) (y v0 v1 v2 v3 v4 v5 v6 v7 v8 : Value) (e : Int) (w : World) (h0 : Blk w p0 48 #[v0, v1, v2, v3, v4, v5, v6, v7, v8]) (h1 : Blk w p1 53 #[y]) (n01 : ¬ p0 = p1) :
  CallsD Tryz.prog 59 #[.pointer (some ⟨p0, 0, none⟩), .pointer (some ⟨p1, 0, none⟩)] (upB e) w fun en u' w' =>
   en = .returned (.tuple #[]) ∧ u' = caughtB e ∧ Blk w' p0 48 zero9 ∧ Blk w' p1 53 #[.int .i64 e] ∧ Only [p0, p1] w w' := by
 have c0 := Blk.f (l := [v0, v1, v2, v3, v4, v5, v6, v7, v8]) h0 rfl
 have z0 := Blk.frozen h0
 have d0 : w.cell? ⟨p1, 0, none⟩ = some y := h1.cell 0
 have zd := Blk.frozen h1
 have n10 : ¬ p1 = p0 := fun h => n01 h.symm
 have hty := vfA
 obtain ⟨R, hR, BR, BE, hO⟩ := Blk.putO h0 zeroR h1 n01 (v := .int .i64 e)
 simp only [roSet, noR, zeroR, Int.natCast_zero] at hR
 rw [vcm] at BR
 refine vaj _ _ (ven e) Tryz.func59 rfl rfl rfl ?_
 simp only [Tryz.ntmps59, Act.put, List.size_toArray, List.length_cons, List.length_nil, Nat.reduceAdd, Nat.reduceSub, Array.replicate_succ, Array.replicate_zero, List.push_toArray, List.append_toArray, List.nil_append, List.cons_append]
 go_wp2_with fail
 go_end0
 exact ⟨rfl, trivial, BR, BE, hO⟩
set_option maxRecDepth 100000 in
theorem vgW (p0 p1 : Value) (w : World) :
  CallsD Tryz.prog 59 #[p0, p1] .returning w fun en u' w' => en = .returned (.tuple #[]) ∧ u' = .returning ∧ w' = w := by
 have hty := vfB
 refine vaj _ _ vbQ Tryz.func59 rfl rfl rfl ?_
 simp only [Tryz.ntmps59, Act.put, List.size_toArray, List.length_cons, List.length_nil, Nat.reduceAdd, Nat.reduceSub, Array.replicate_succ, Array.replicate_zero, List.push_toArray, List.append_toArray, List.nil_append, List.cons_append]
 go_wp2_with fail
 go_end0
 exact ⟨rfl, trivial, rfl⟩
set_option maxRecDepth 100000 in
theorem vbV (p0 p1 : Nat) (y v0 : Value) (e : Int) (w : World) (h0 : Blk w p0 3 #[v0]) (h1 : Blk w p1 53 #[y]) (n01 : ¬ p0 = p1) :
  CallsD Tryz.prog 65 #[.pointer (some ⟨p0, 0, none⟩), .pointer (some ⟨p1, 0, none⟩)] (upB e) w fun en u' w' =>
   en = .returned (.tuple #[]) ∧ u' = caughtB e ∧ Blk w' p0 3 #[.int .i64 0] ∧ Blk w' p1 53 #[.int .i64 e] ∧ Only [p0, p1] w w' := by
 have c0 : w.cell? ⟨p0, 0, none⟩ = some (v0) := h0.cell 0
 have z0 := Blk.frozen h0
 have d0 : w.cell? ⟨p1, 0, none⟩ = some y := h1.cell 0
 have zd := Blk.frozen h1
 have n10 : ¬ p1 = p0 := fun h => n01 h.symm
 have hty := vfA
 obtain ⟨R, hR, BR, BE, hO⟩ : ∃ R, ((w.setCell ⟨p0, 0, none⟩ (.int .i64 0)).setCell ⟨p1, 0, none⟩ (.int .i64 e)) = R ∧ Blk R p0 3 #[.int .i64 0] ∧ Blk R p1 53 #[.int .i64 e] ∧ Only [p0, p1] w R :=
  ⟨_, rfl, (h0.set_ 0 (.int .i64 0)).far (p := ⟨p1, 0, none⟩) n01 _, (h1.far (p := ⟨p0, 0, none⟩) n10 (.int .i64 0)).set_ 0 (.int .i64 e), ((Only.refl [p0, p1] w).setCell (p := ⟨p0, 0, none⟩) (.inl (by simp)) (.int .i64 0)).setCell (p := ⟨p1, 0, none⟩) (.inl (by simp)) (.int .i64 e)⟩
 refine vaj _ _ (ven e) Tryz.func65 rfl rfl rfl ?_
 simp only [Tryz.ntmps65, Act.put, List.size_toArray, List.length_cons, List.length_nil, Nat.reduceAdd, Nat.reduceSub, Array.replicate_succ, Array.replicate_zero, List.push_toArray, List.append_toArray, List.nil_append, List.cons_append]
 go_wp2_with fail
 go_end0
 exact ⟨rfl, trivial, BR, BE, hO⟩
set_option maxRecDepth 100000 in
theorem vgX (p0 p1 : Value) (w : World) :
  CallsD Tryz.prog 65 #[p0, p1] .returning w fun en u' w' => en = .returned (.tuple #[]) ∧ u' = .returning ∧ w' = w := by
 have hty := vfB
 refine vaj _ _ vbQ Tryz.func65 rfl rfl rfl ?_
 simp only [Tryz.ntmps65, Act.put, List.size_toArray, List.length_cons, List.length_nil, Nat.reduceAdd, Nat.reduceSub, Array.replicate_succ, Array.replicate_zero, List.push_toArray, List.append_toArray, List.nil_append, List.cons_append]
 go_wp2_with fail
 go_end0
 exact ⟨rfl, trivial, rfl⟩
set_option maxRecDepth 100000 in
theorem vgY (p0 p1 : Nat) (y v0 : Value) (e : Int) (w : World) (h0 : Blk w p0 3 #[v0]) (h1 : Blk w p1 53 #[y]) (n01 : ¬ p0 = p1) :
  CallsD Tryz.prog 69 #[.pointer (some ⟨p0, 0, none⟩), .pointer (some ⟨p1, 0, none⟩)] (upB e) w fun en u' w' =>
   en = .returned (.tuple #[]) ∧ u' = caughtB e ∧ Blk w' p0 3 #[.int .i64 0] ∧ Blk w' p1 53 #[.int .i64 e] ∧ Only [p0, p1] w w' := by
 have c0 : w.cell? ⟨p0, 0, none⟩ = some (v0) := h0.cell 0
 have z0 := Blk.frozen h0
 have d0 : w.cell? ⟨p1, 0, none⟩ = some y := h1.cell 0
 have zd := Blk.frozen h1
 have n10 : ¬ p1 = p0 := fun h => n01 h.symm
 have hty := vfA
 obtain ⟨R, hR, BR, BE, hO⟩ : ∃ R, ((w.setCell ⟨p0, 0, none⟩ (.int .i64 0)).setCell ⟨p1, 0, none⟩ (.int .i64 e)) = R ∧ Blk R p0 3 #[.int .i64 0] ∧ Blk R p1 53 #[.int .i64 e] ∧ Only [p0, p1] w R :=
  ⟨_, rfl, (h0.set_ 0 (.int .i64 0)).far (p := ⟨p1, 0, none⟩) n01 _, (h1.far (p := ⟨p0, 0, none⟩) n10 (.int .i64 0)).set_ 0 (.int .i64 e), ((Only.refl [p0, p1] w).setCell (p := ⟨p0, 0, none⟩) (.inl (by simp)) (.int .i64 0)).setCell (p := ⟨p1, 0, none⟩) (.inl (by simp)) (.int .i64 e)⟩
 refine vaj _ _ (ven e) Tryz.func69 rfl rfl rfl ?_
 simp only [Tryz.ntmps69, Act.put, List.size_toArray, List.length_cons, List.length_nil, Nat.reduceAdd, Nat.reduceSub, Array.replicate_succ, Array.replicate_zero, List.push_toArray, List.append_toArray, List.nil_append, List.cons_append]
 go_wp2_with fail
 go_end0
 exact ⟨rfl, trivial, BR, BE, hO⟩
set_option maxRecDepth 100000 in
theorem viE (p0 p1 : Value) (w : World) :
  CallsD Tryz.prog 69 #[p0, p1] .returning w fun en u' w' => en = .returned (.tuple #[]) ∧ u' = .returning ∧ w' = w := by
 have hty := vfB
 refine vaj _ _ vbQ Tryz.func69 rfl rfl rfl ?_
 simp only [Tryz.ntmps69, Act.put, List.size_toArray, List.length_cons, List.length_nil, Nat.reduceAdd, Nat.reduceSub, Array.replicate_succ, Array.replicate_zero, List.push_toArray, List.append_toArray, List.nil_append, List.cons_append]
 go_wp2_with fail
 go_end0
 exact ⟨rfl, trivial, rfl⟩
theorem vmO (c : Cf) (p : PI) (h : Hd) (now : Int) : (hearR c (noR p) h now).s = 0 ∨ (hearR c (noR p) h now).s = 2 := by
 unfold hearR
 rw [if_neg (show ¬ (noR p).s = 1 from (by decide : ¬ (0 : Int) = 1)), if_neg (show ¬ (noR p).s = 2 from (by decide : ¬ (0 : Int) = 2)), if_neg (show ¬ (noR p).s = 3 from (by decide : ¬ (0 : Int) = 3))]
 split
 ·exact .inr rfl
 ·exact .inl rfl
def Hear2P (B t : Nat) (F : List Nat) (T : Tb) (full : Bool) (r : Rt) (w : World) (e : Ending) (w' : World) : Prop := (full = true → e = stopB 200 ∧ TabM w' B t F ⟨T.c, T.l, T.now, min (T.rf + 1) 2147483647⟩ ∧ Only [t] w w') ∧ (full = false → e = .returned (.tuple #[]) ∧ TabT w w' B t F ⟨T.c, setR r T.l, T.now, T.rf⟩)
theorem viF (B t : Nat) (F : List Nat) (T : Tb) (pb pr pt : Nat) (p : PI) (h : Hd) (now : Int) (r : Rt) (w : World) (hM : TabM w B t F T) (h0 : Blk w pb 4 #[.bool (getR p T.l).isSome]) (h1 : Blk w pr 48 (roC r)) (h2 : Blk w pt 36 #[.pointer (some ⟨t, 0, none⟩)]) (hr : okR r = true) (ha : r.p.a < 4294967296) (hn : T.l.length < 800000) (hf : 0 ≤ T.rf ∧ T.rf ≤ 2147483647) (he : r = hearR T.c (wasR p T.l) h now) :
  Calls Tryz.prog 63 #[.pointer (some ⟨pb, 0, none⟩), .pointer (some ⟨pr, 0, none⟩), .pointer (some ⟨pt, 0, none⟩)] w (Hear2P B t F T (fullB T p r) r w) := by
 cases hg : getR p T.l with
 | some x =>
  rw [hg] at h0
  have hb : fullB T p r = false := by unfold fullB; rw [hg]; rfl
  refine (vfz B t F T pb pr pt true r w hM h0 h1 h2 hr ha hn hf rfl).mono ?_
  rintro e w' hE
  exact ⟨fun z => (by rw [hb] at z; cases z), fun _ => hE⟩
 | none =>
  rw [hg] at h0
  have hw : wasR p T.l = noR p := by unfold wasR; rw [hg]; rfl
  have hs : r.s = 0 ∨ r.s = 2 := by rw [he, hw]; exact vmO _ _ _ _
  rcases hs with hs | hs
  ·have hb : fullB T p r = false := by unfold fullB; rw [decide_eq_false (by omega)]; simp
   refine (vgT B t F T pb pr pt false r w hM h0 h1 h2 hr ha hn hf rfl (beqF (by omega))).mono ?_
   rintro e w' hE
   exact ⟨fun z => (by rw [hb] at z; cases z), fun _ => hE⟩
  ·cases hc : decide (T.c.cap ≤ (T.l.length : Int)) with
   | true =>
    have hb : fullB T p r = true := by unfold fullB; rw [hg, decide_eq_true (by omega), hc]; rfl
    refine (vgV B t F T pb pr pt false r w hM h0 h1 h2 hr ha hn hf rfl (beqT hs) hc).mono ?_
    rintro e w' hE
    exact ⟨fun _ => hE, fun z => (by rw [hb] at z; cases z)⟩
   | false =>
    have hb : fullB T p r = false := by unfold fullB; rw [hc]; simp
    refine (vgU B t F T pb pr pt false r w hM h0 h1 h2 hr ha hn hf rfl (beqT hs) hc).mono ?_
    rintro e w' hE
    exact ⟨fun z => (by rw [hb] at z; cases z), fun _ => hE⟩
end

end Go.Proofs.YtffckpkikdlbpaaGreatDoor
