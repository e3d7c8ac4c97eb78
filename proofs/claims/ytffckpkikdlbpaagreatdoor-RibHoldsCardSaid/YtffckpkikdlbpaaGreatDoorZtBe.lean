/- Lemmas and contracts for the theorem of this claim: RbU. -/
import Derived.Test.YtffckpkikdlbpaaGreatDoorZtBd
set_option linter.unusedSimpArgs false
set_option linter.unusedVariables false
namespace Go.Proofs.YtffckpkikdlbpaaGreatDoor
open Go.RowKit Go.Maps
theorem bta_yes (e : Int) (w : World) : (Instr.typeAssert (stopBV e) 20 111 true).run Tryz.prog w = .ok (.tuple #[.int .i64 e, .bool true]) w := by kernel_rfl
theorem bta_nil (w : World) : (Instr.typeAssert .nilIface 20 111 true).run Tryz.prog w = .ok (.tuple #[.int .i64 0, .bool false]) w := by kernel_rfl
def upB (e : Int) : FrameMode := .panicking [{ v := stopBV e, recovered := false }]
def caughtB (e : Int) : FrameMode := .panicking [{ v := stopBV e, recovered := true }]
theorem recM_upB (e : Int) : recM (upB e) = (stopBV e, caughtB e) := rfl
set_option maxRecDepth 100000 in
set_option maxHeartbeats 1000000 in
theorem catch_bhear (p0 p1 : Nat) (y v0 v1 v2 v3 v4 v5 v6 v7 v8 : Value) (e : Int) (w : World) (h0 : Blk w p0 48 #[v0, v1, v2, v3, v4, v5, v6, v7, v8]) (h1 : Blk w p1 53 #[y]) (n01 : ¬ p0 = p1) :
    CallsD Tryz.prog 59 #[.pointer (some ⟨p0, 0, none⟩), .pointer (some ⟨p1, 0, none⟩)] (upB e) w fun en u' w' =>
      en = .returned (.tuple #[]) ∧ u' = caughtB e ∧ Blk w' p0 48 zero9 ∧ Blk w' p1 53 #[.int .i64 e] ∧ Only [p0, p1] w w' := by
  have c0 : w.cell? ⟨p0, 0, none⟩ = some (v0) := h0.cell 0
  have c1 : w.cell? ⟨p0, 1, none⟩ = some (v1) := h0.cell 1
  have c2 : w.cell? ⟨p0, 2, none⟩ = some (v2) := h0.cell 2
  have c3 : w.cell? ⟨p0, 3, none⟩ = some (v3) := h0.cell 3
  have c4 : w.cell? ⟨p0, 4, none⟩ = some (v4) := h0.cell 4
  have c5 : w.cell? ⟨p0, 5, none⟩ = some (v5) := h0.cell 5
  have c6 : w.cell? ⟨p0, 6, none⟩ = some (v6) := h0.cell 6
  have c7 : w.cell? ⟨p0, 7, none⟩ = some (v7) := h0.cell 7
  have c8 : w.cell? ⟨p0, 8, none⟩ = some (v8) := h0.cell 8
  have z0 := h0.frozen 0
  have z1 := h0.frozen 1
  have z2 := h0.frozen 2
  have z3 := h0.frozen 3
  have z4 := h0.frozen 4
  have z5 := h0.frozen 5
  have z6 := h0.frozen 6
  have z7 := h0.frozen 7
  have z8 := h0.frozen 8
  have d0 : w.cell? ⟨p1, 0, none⟩ = some y := h1.cell 0
  have zd := h1.frozen 0
  have n10 : ¬ p1 = p0 := fun h => n01 h.symm
  have hty := bta_yes
  obtain ⟨R, hR, BR, BE, hO⟩ : ∃ R, ((((((((((w.setCell ⟨p0, 0, none⟩ (.int .u32 0)).setCell ⟨p0, 1, none⟩ (.int .i64 0)).setCell ⟨p0, 2, none⟩ (.int .i64 0)).setCell ⟨p0, 3, none⟩ (.int .i64 0)).setCell ⟨p0, 4, none⟩ (.int .i64 0)).setCell ⟨p0, 5, none⟩ (.int .i64 0)).setCell ⟨p0, 6, none⟩ (.int .u32 0)).setCell ⟨p0, 7, none⟩ (.int .i64 0)).setCell ⟨p0, 8, none⟩ (.bool false)).setCell ⟨p1, 0, none⟩ (.int .i64 e)) = R ∧ Blk R p0 48 zero9 ∧ Blk R p1 53 #[.int .i64 e] ∧ Only [p0, p1] w R :=
    ⟨_, rfl, (Blk.putRo h0 zeroR).far (p := ⟨p1, 0, none⟩) n01 _, (((((((((h1.far (p := ⟨p0, 0, none⟩) n10 (.int .u32 0)).far (p := ⟨p0, 1, none⟩) n10 (.int .i64 0)).far (p := ⟨p0, 2, none⟩) n10 (.int .i64 0)).far (p := ⟨p0, 3, none⟩) n10 (.int .i64 0)).far (p := ⟨p0, 4, none⟩) n10 (.int .i64 0)).far (p := ⟨p0, 5, none⟩) n10 (.int .i64 0)).far (p := ⟨p0, 6, none⟩) n10 (.int .u32 0)).far (p := ⟨p0, 7, none⟩) n10 (.int .i64 0)).far (p := ⟨p0, 8, none⟩) n10 (.bool false)).set_ 0 (.int .i64 e), ((((((((((Only.refl [p0, p1] w).setCell (p := ⟨p0, 0, none⟩) (.inl (by simp)) (.int .u32 0)).setCell (p := ⟨p0, 1, none⟩) (.inl (by simp)) (.int .i64 0)).setCell (p := ⟨p0, 2, none⟩) (.inl (by simp)) (.int .i64 0)).setCell (p := ⟨p0, 3, none⟩) (.inl (by simp)) (.int .i64 0)).setCell (p := ⟨p0, 4, none⟩) (.inl (by simp)) (.int .i64 0)).setCell (p := ⟨p0, 5, none⟩) (.inl (by simp)) (.int .i64 0)).setCell (p := ⟨p0, 6, none⟩) (.inl (by simp)) (.int .u32 0)).setCell (p := ⟨p0, 7, none⟩) (.inl (by simp)) (.int .i64 0)).setCell (p := ⟨p0, 8, none⟩) (.inl (by simp)) (.bool false)).setCell (p := ⟨p1, 0, none⟩) (.inl (by simp)) (.int .i64 e)⟩
  refine callsD_rec _ _ (recM_upB e) Tryz.func59 rfl rfl rfl ?_
  simp only [Tryz.ntmps59, Act.put, List.size_toArray, List.length_cons, List.length_nil, Nat.reduceAdd, Nat.reduceSub, Array.replicate_succ, Array.replicate_zero, List.push_toArray, List.append_toArray, List.nil_append, List.cons_append]
  go_wp2_with fail
  go_end0
  exact ⟨rfl, trivial, BR, BE, hO⟩
set_option maxRecDepth 100000 in
theorem idle_bhear (p0 p1 : Value) (w : World) :
    CallsD Tryz.prog 59 #[p0, p1] .returning w fun en u' w' => en = .returned (.tuple #[]) ∧ u' = .returning ∧ w' = w := by
  have hty := bta_nil
  refine callsD_rec _ _ recM_rt Tryz.func59 rfl rfl rfl ?_
  simp only [Tryz.ntmps59, Act.put, List.size_toArray, List.length_cons, List.length_nil, Nat.reduceAdd, Nat.reduceSub, Array.replicate_succ, Array.replicate_zero, List.push_toArray, List.append_toArray, List.nil_append, List.cons_append]
  go_wp2_with fail
  go_end0
  exact ⟨rfl, trivial, rfl⟩
set_option maxRecDepth 100000 in
set_option maxHeartbeats 1000000 in
theorem catch_blose (p0 p1 : Nat) (y v0 : Value) (e : Int) (w : World) (h0 : Blk w p0 3 #[v0]) (h1 : Blk w p1 53 #[y]) (n01 : ¬ p0 = p1) :
    CallsD Tryz.prog 65 #[.pointer (some ⟨p0, 0, none⟩), .pointer (some ⟨p1, 0, none⟩)] (upB e) w fun en u' w' =>
      en = .returned (.tuple #[]) ∧ u' = caughtB e ∧ Blk w' p0 3 #[.int .i64 0] ∧ Blk w' p1 53 #[.int .i64 e] ∧ Only [p0, p1] w w' := by
  have c0 : w.cell? ⟨p0, 0, none⟩ = some (v0) := h0.cell 0
  have z0 := h0.frozen 0
  have d0 : w.cell? ⟨p1, 0, none⟩ = some y := h1.cell 0
  have zd := h1.frozen 0
  have n10 : ¬ p1 = p0 := fun h => n01 h.symm
  have hty := bta_yes
  obtain ⟨R, hR, BR, BE, hO⟩ : ∃ R, ((w.setCell ⟨p0, 0, none⟩ (.int .i64 0)).setCell ⟨p1, 0, none⟩ (.int .i64 e)) = R ∧ Blk R p0 3 #[.int .i64 0] ∧ Blk R p1 53 #[.int .i64 e] ∧ Only [p0, p1] w R :=
    ⟨_, rfl, (h0.set_ 0 (.int .i64 0)).far (p := ⟨p1, 0, none⟩) n01 _, (h1.far (p := ⟨p0, 0, none⟩) n10 (.int .i64 0)).set_ 0 (.int .i64 e), ((Only.refl [p0, p1] w).setCell (p := ⟨p0, 0, none⟩) (.inl (by simp)) (.int .i64 0)).setCell (p := ⟨p1, 0, none⟩) (.inl (by simp)) (.int .i64 e)⟩
  refine callsD_rec _ _ (recM_upB e) Tryz.func65 rfl rfl rfl ?_
  simp only [Tryz.ntmps65, Act.put, List.size_toArray, List.length_cons, List.length_nil, Nat.reduceAdd, Nat.reduceSub, Array.replicate_succ, Array.replicate_zero, List.push_toArray, List.append_toArray, List.nil_append, List.cons_append]
  go_wp2_with fail
  go_end0
  exact ⟨rfl, trivial, BR, BE, hO⟩
set_option maxRecDepth 100000 in
theorem idle_blose (p0 p1 : Value) (w : World) :
    CallsD Tryz.prog 65 #[p0, p1] .returning w fun en u' w' => en = .returned (.tuple #[]) ∧ u' = .returning ∧ w' = w := by
  have hty := bta_nil
  refine callsD_rec _ _ recM_rt Tryz.func65 rfl rfl rfl ?_
  simp only [Tryz.ntmps65, Act.put, List.size_toArray, List.length_cons, List.length_nil, Nat.reduceAdd, Nat.reduceSub, Array.replicate_succ, Array.replicate_zero, List.push_toArray, List.append_toArray, List.nil_append, List.cons_append]
  go_wp2_with fail
  go_end0
  exact ⟨rfl, trivial, rfl⟩
set_option maxRecDepth 100000 in
set_option maxHeartbeats 1000000 in
theorem catch_bexp (p0 p1 : Nat) (y v0 : Value) (e : Int) (w : World) (h0 : Blk w p0 3 #[v0]) (h1 : Blk w p1 53 #[y]) (n01 : ¬ p0 = p1) :
    CallsD Tryz.prog 69 #[.pointer (some ⟨p0, 0, none⟩), .pointer (some ⟨p1, 0, none⟩)] (upB e) w fun en u' w' =>
      en = .returned (.tuple #[]) ∧ u' = caughtB e ∧ Blk w' p0 3 #[.int .i64 0] ∧ Blk w' p1 53 #[.int .i64 e] ∧ Only [p0, p1] w w' := by
  have c0 : w.cell? ⟨p0, 0, none⟩ = some (v0) := h0.cell 0
  have z0 := h0.frozen 0
  have d0 : w.cell? ⟨p1, 0, none⟩ = some y := h1.cell 0
  have zd := h1.frozen 0
  have n10 : ¬ p1 = p0 := fun h => n01 h.symm
  have hty := bta_yes
  obtain ⟨R, hR, BR, BE, hO⟩ : ∃ R, ((w.setCell ⟨p0, 0, none⟩ (.int .i64 0)).setCell ⟨p1, 0, none⟩ (.int .i64 e)) = R ∧ Blk R p0 3 #[.int .i64 0] ∧ Blk R p1 53 #[.int .i64 e] ∧ Only [p0, p1] w R :=
    ⟨_, rfl, (h0.set_ 0 (.int .i64 0)).far (p := ⟨p1, 0, none⟩) n01 _, (h1.far (p := ⟨p0, 0, none⟩) n10 (.int .i64 0)).set_ 0 (.int .i64 e), ((Only.refl [p0, p1] w).setCell (p := ⟨p0, 0, none⟩) (.inl (by simp)) (.int .i64 0)).setCell (p := ⟨p1, 0, none⟩) (.inl (by simp)) (.int .i64 e)⟩
  refine callsD_rec _ _ (recM_upB e) Tryz.func69 rfl rfl rfl ?_
  simp only [Tryz.ntmps69, Act.put, List.size_toArray, List.length_cons, List.length_nil, Nat.reduceAdd, Nat.reduceSub, Array.replicate_succ, Array.replicate_zero, List.push_toArray, List.append_toArray, List.nil_append, List.cons_append]
  go_wp2_with fail
  go_end0
  exact ⟨rfl, trivial, BR, BE, hO⟩
set_option maxRecDepth 100000 in
theorem idle_bexp (p0 p1 : Value) (w : World) :
    CallsD Tryz.prog 69 #[p0, p1] .returning w fun en u' w' => en = .returned (.tuple #[]) ∧ u' = .returning ∧ w' = w := by
  have hty := bta_nil
  refine callsD_rec _ _ recM_rt Tryz.func69 rfl rfl rfl ?_
  simp only [Tryz.ntmps69, Act.put, List.size_toArray, List.length_cons, List.length_nil, Nat.reduceAdd, Nat.reduceSub, Array.replicate_succ, Array.replicate_zero, List.push_toArray, List.append_toArray, List.nil_append, List.cons_append]
  go_wp2_with fail
  go_end0
  exact ⟨rfl, trivial, rfl⟩
theorem hear_s0 (c : Cf) (p : PI) (h : Hd) (now : Int) : (hearR c (noR p) h now).s = 0 ∨ (hearR c (noR p) h now).s = 2 := by
  unfold hearR
  rw [if_neg (show ¬ (noR p).s = 1 from (by decide : ¬ (0 : Int) = 1)), if_neg (show ¬ (noR p).s = 2 from (by decide : ¬ (0 : Int) = 2)), if_neg (show ¬ (noR p).s = 3 from (by decide : ¬ (0 : Int) = 3))]
  split
  · exact .inr rfl
  · exact .inl rfl
def Hear2P (B t : Nat) (F : List Nat) (T : Tb) (full : Bool) (r : Rt) (w : World) (e : Ending) (w' : World) : Prop := (full = true → e = stopB 200 ∧ TabM w' B t F ⟨T.c, T.l, T.now, min (T.rf + 1) 2147483647⟩ ∧ Only [t] w w') ∧ (full = false → e = .returned (.tuple #[]) ∧ TabT w w' B t F ⟨T.c, setR r T.l, T.now, T.rf⟩)
theorem hear2_any (B t : Nat) (F : List Nat) (T : Tb) (pb pr pt : Nat) (p : PI) (h : Hd) (now : Int) (r : Rt) (w : World) (hM : TabM w B t F T) (h0 : Blk w pb 4 #[.bool (getR p T.l).isSome]) (h1 : Blk w pr 48 (roC r)) (h2 : Blk w pt 36 #[.pointer (some ⟨t, 0, none⟩)]) (hr : okR r = true) (ha : r.p.a < 4294967296) (hn : T.l.length < 800000) (hf : 0 ≤ T.rf ∧ T.rf ≤ 2147483647) (he : r = hearR T.c (wasR p T.l) h now) :
    Calls Tryz.prog 63 #[.pointer (some ⟨pb, 0, none⟩), .pointer (some ⟨pr, 0, none⟩), .pointer (some ⟨pt, 0, none⟩)] w (Hear2P B t F T (fullB T p r) r w) := by
  cases hg : getR p T.l with
  | some x =>
    rw [hg] at h0
    have hb : fullB T p r = false := by unfold fullB; rw [hg]; rfl
    refine (hear2_there B t F T pb pr pt true r w hM h0 h1 h2 hr ha hn hf rfl).mono ?_
    rintro e w' hE
    exact ⟨fun z => (by rw [hb] at z; cases z), fun _ => hE⟩
  | none =>
    rw [hg] at h0
    have hw : wasR p T.l = noR p := by unfold wasR; rw [hg]; rfl
    have hs : r.s = 0 ∨ r.s = 2 := by rw [he, hw]; exact hear_s0 _ _ _ _
    rcases hs with hs | hs
    · have hb : fullB T p r = false := by unfold fullB; rw [decide_eq_false (by omega)]; simp
      refine (hear2_live B t F T pb pr pt false r w hM h0 h1 h2 hr ha hn hf rfl (beqF (by omega))).mono ?_
      rintro e w' hE
      exact ⟨fun z => (by rw [hb] at z; cases z), fun _ => hE⟩
    · cases hc : decide (T.c.cap ≤ (T.l.length : Int)) with
      | true =>
        have hb : fullB T p r = true := by unfold fullB; rw [hg, decide_eq_true (by omega), hc]; rfl
        refine (hear2_full B t F T pb pr pt false r w hM h0 h1 h2 hr ha hn hf rfl (beqT hs) hc).mono ?_
        rintro e w' hE
        exact ⟨fun _ => hE, fun z => (by rw [hb] at z; cases z)⟩
      | false =>
        have hb : fullB T p r = false := by unfold fullB; rw [hc]; simp
        refine (hear2_room B t F T pb pr pt false r w hM h0 h1 h2 hr ha hn hf rfl (beqT hs) hc).mono ?_
        rintro e w' hE
        exact ⟨fun z => (by rw [hb] at z; cases z), fun _ => hE⟩
end Go.Proofs.YtffckpkikdlbpaaGreatDoor
