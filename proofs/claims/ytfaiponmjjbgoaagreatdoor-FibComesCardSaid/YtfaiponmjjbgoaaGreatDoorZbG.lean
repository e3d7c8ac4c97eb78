/- Proved here: THE TIED CARD of FibComes of the package waywardenlaw13: for every input the law returns true, and each argument reads behind the call as it read before (Rows.FibComesCardSaid). Conditions: the variable prefix.rels starts as the program's text lays it, which the card ties. -/
import Derived.Test.YtfaiponmjjbgoaaGreatDoorZbF
import Derived.Deep.CutBlock
import Derived.Test.YtfaiponmjjbgoaaGreatDoorRows
import Derived.ProofKit
import Derived.Lib.SmallJoins
import Derived.Deep.Slices
import Derived.Deep.Fields
import Derived.ChangeSame
import Derived.ChangeArms
import Derived.LaidMore
import Derived.OpenShut
import Derived.Stop.Joined
import Derived.Test.YtfaiponmjjbgoaaGreatDoorTie
import Derived.Test.YtfaiponmjjbgoaaGreatDoorCards
import Derived.SevenTiedAt
set_option linter.unusedSimpArgs false
set_option linter.unusedVariables false
/- fib's Get of any prefix; layer 13's is. -/
namespace Go.Proofs.YtfaiponmjjbgoaaGreatDoor
open Go.RowKit
attribute [local go_sem] Oper.semAt_some

set_option maxRecDepth 100000 in
set_option maxHeartbeats 1000000 in
theorem get_bad (tr : Nat) (p : PI) (many : Int) (t : Tr) (w : World) (hT : Blk w tr 87 #[t.ptr, .int .i64 many, .bool true]) (ha : p.a < 4294967296) (hp : p.okB = false) :
    Calls Tryz.prog 53 #[.pointer (some ⟨tr, 0, none⟩), .agg #[.int .u32 p.a, .int .i64 p.l]] w fun e w' => e = .returned (.tuple #[.int .i64 0, .bool false]) ∧ Kp w w' := by
  have Hck := Lib.hid (show checkP p = 2 by simp [checkP, hp])
  have kW : Kp w (w.alloc (.cells #[.int .u32 p.a, .int .i64 p.l] 26)) := (Kp.refl _).alloc _
  have HT := Lib.hid (hT.keep kW)
  clear hT hp
  go_enter Tryz.func53, Tryz.ntmps53
  go_wp2_with fail
  refine (none_any tr _ many _ HT.out).mono ?_
  rintro e w' ⟨rfl, rfl⟩
  go_wp2_with fail
  refine (check_any p _ ha).mono ?_
  rintro e w1 ⟨rfl, hK1⟩
  rw [Hck.out]
  go_wp2_with fail
  go_ret2
  exact ⟨rfl, kW.trans hK1⟩
set_option maxRecDepth 100000 in
set_option maxHeartbeats 1000000 in
theorem kplace_bad (tr : Nat) (p : PI) (many : Int) (t : Tr) (w : World) (hT : TrieM w tr t many) (ha : p.a < 4294967296) (hp : p.okB = false) :
    Calls Tryz.prog 35 #[.agg #[.pointer (some ⟨tr, 0, none⟩)], .agg #[.int .u32 p.a, .int .i64 p.l]] w fun e w' => e = .returned (.tuple #[.int .i64 0, .bool false]) ∧ Kp w w' := by
  have HT := Lib.hid hT
  have Hp := Lib.hid hp
  clear hT hp
  go_enter Tryz.func35, Tryz.ntmps35
  go_wp2_with fail
  have k1 : Kp w ((w.alloc (.cells #[.pointer (some ⟨tr, 0, none⟩)] 67)).alloc (.cells #[.int .u32 p.a, .int .i64 p.l] 26)) := ((Kp.refl _).alloc _).alloc _
  refine (get_bad tr p many t _ (HT.out.blk.keep k1) ha Hp.out).mono ?_
  rintro e w1 ⟨rfl, hK⟩
  go_wp2_with fail
  go_ret2
  exact ⟨rfl, k1.trans hK⟩

/-- What place answers of any prefix. -/
def placeR (t : Tr) (p : PI) : Int × Bool := if p.okB then (t.look p.pn).got p.pn else (0, false)
theorem getI_mem {p : PI} {L : List Hp} (u : Up L) {h : Hp} (hm : h ∈ L) (hp : isP p h = true) : getI p L = (h, true) := by
  obtain ⟨k, hk, rfl⟩ := List.getElem_of_mem hm
  refine getI_at hk (fun j hj hjk => ?_) hp
  cases h1 : isP p L[j] with
  | false => rfl
  | true =>
    exfalso
    unfold isP at h1 hp
    simp only [Bool.and_eq_true, beq_iff_eq] at h1 hp
    have e : L[j].p = L[k].p := by
      have h2 : L[j].p.a = L[k].p.a := by omega
      have h3 : L[j].p.l = L[k].p.l := by omega
      cases hh : L[j].p; cases hh2 : L[k].p; rw [hh, hh2] at h2 h3; simp at h2 h3; simp [h2, h3]
    have := List.pairwise_iff_getElem.1 u j k hj hk hjk
    rw [e] at this
    exact lt_irrefl _ this
theorem kplace_all (tr : Nat) (p : PI) (many : Int) (t : Tr) (w : World) (hG : RelsAt w) (hT : TrieM w tr t many) (ha : p.a < 4294967296) :
    Calls Tryz.prog 35 #[.agg #[.pointer (some ⟨tr, 0, none⟩)], .agg #[.int .u32 p.a, .int .i64 p.l]] w fun e w' => e = .returned (.tuple #[.int .i64 (placeR t p).1, .bool (placeR t p).2]) ∧ Kp w w' := by
  cases hp : p.okB with
  | false =>
    have e : placeR t p = (0, false) := by simp [placeR, hp]
    rw [e]
    exact kplace_bad tr p _ t w hT ha hp
  | true =>
    obtain ⟨hq, hl⟩ := pn_ok hp ha
    have ep : p = p.pn.pi := by cases p; simp only [Pn.pi, PI.pn] at *; rw [hl]; simp
    have e : placeR t p = (t.look p.pn).got p.pn := by simp [placeR, hp]
    rw [e]
    have := kplace_any tr p.pn many t w hG hT hq
    rw [← hl] at this
    exact this
theorem place_case {t : Tr} {H L : List Hp} {p : PI} (hfi : FI t H) (hu : Up L) (hpm : H.Perm L) (hoks : ∀ h ∈ H, h.p.ok) (ha : p.a < 4294967296) : (placeR t p = (0, false) ∧ getI p L = (hop0, false)) ∨ ∃ (k : Nat) (hk : k < H.length), placeR t p = ((k : Int), true) ∧ getI p L = (H[k], true) := by
  cases hp : p.okB with
  | false =>
    refine .inl ⟨by simp [placeR, hp], getI_no (fun j hj => ?_)⟩
    cases h1 : isP p L[j] with
    | false => rfl
    | true =>
      exfalso
      unfold isP at h1
      simp only [Bool.and_eq_true, beq_iff_eq] at h1
      have hok := hoks L[j] (hpm.mem_iff.2 (List.getElem_mem hj))
      have e : p = (L[j].p).pi := by cases p; simp only [Pn.pi] at *; simp; omega
      rw [e, pi_ok hok] at hp
      cases hp
  | true =>
    obtain ⟨hq, hl⟩ := pn_ok hp ha
    have ep : p = p.pn.pi := by cases p; simp only [Pn.pi, PI.pn] at *; rw [hl]; simp
    have e : placeR t p = (t.look p.pn).got p.pn := by simp [placeR, hp]
    rw [e]
    rcases got_at hfi hq with ⟨k, hk, hpk, hgot, _⟩ | ⟨hno, hgot, _⟩
    · right
      refine ⟨k, hk, hgot, ?_⟩
      exact getI_mem hu (hpm.mem_iff.1 (List.getElem_mem hk)) (by rw [ep, isP_pi]; simp [hpk])
    · left
      refine ⟨hgot, getI_no (fun j hj => ?_)⟩
      rw [ep, isP_pi]
      simp only [decide_eq_false_iff_not]
      exact hno _ (hpm.mem_iff.2 (List.getElem_mem hj))

set_option maxRecDepth 100000 in
set_option maxHeartbeats 2000000 in
theorem fGet_any (f : Nat) (F : List Nat) (L : List Hp) (p : PI) (w : World) (hG : RelsAt w) (hM : FM w f F L) (ha : p.a < 4294967296) :
    Calls Tryz.prog 17 #[.pointer (some ⟨f, 0, none⟩), .agg #[.int .u32 p.a, .int .i64 p.l]] w (FindP w (getI p L)) := by
  obtain ⟨tr, t, A, c, H, rfl, m, u, pm⟩ := hM
  have hcase := place_case m.fi u pm m.oks ha
  have hroom := m.room
  obtain ⟨W, hW, kW, B1, B0⟩ : ∃ W, (w.alloc (.cells #[.int .u32 p.a, .int .i64 p.l] 26)).alloc (.cells #[.int .u32 0, .int .i64 0, .bool false, .int .i64 0, .int .u32 0, .int .i64 0] 53) = W ∧ Kp w W ∧ Blk W w.heap.size 26 #[.int .u32 p.a, .int .i64 p.l] ∧ Blk W (w.heap.size + 1) 53 #[.int .u32 0, .int .i64 0, .bool false, .int .i64 0, .int .u32 0, .int .i64 0] := ⟨_, rfl, ((Kp.refl _).alloc _).alloc _, (Blk.new w _ _).alloc _, Blk.new1 w _ _ _⟩
  have HM := Lib.hid (m.keep kW)
  have HG := Lib.hid (hG.keep kW)
  clear m hG u pm
  obtain ⟨R, hR⟩ : ∃ R, getI p L = R := ⟨_, rfl⟩
  obtain ⟨pr, hpr⟩ : ∃ pr, placeR t p = pr := ⟨_, rfl⟩
  rw [hR, hpr] at hcase
  rw [hR]
  have Hpr := Lib.hid hpr
  have Hcase := Lib.hid hcase
  clear hR hpr hcase
  have p0 : W.cell? ⟨w.heap.size, 0, none⟩ = some (.int .u32 p.a) := B1.cell 0
  have p1 : W.cell? ⟨w.heap.size, 1, none⟩ = some (.int .i64 p.l) := B1.cell 1
  have f0 : W.cell? ⟨f, 0, none⟩ = some (.pointer (some ⟨tr, 0, none⟩)) := HM.out.blk.cell 0
  have fin : Hid (∀ (V : World) (y : Hp), Kp W V → Blk (set6 V (w.heap.size + 1) 0 y) (w.heap.size + 1) 53 #[.int .u32 y.p.a, .int .i64 y.p.l, .bool y.d, .int .i64 y.f, .int .u32 y.x, .int .i64 y.m] ∧ Kp w (set6 V (w.heap.size + 1) 0 y)) := fun V y hK =>
    ⟨(B0.keep hK).set6 0 y rfl, ((Only.refl [w.heap.size + 1] _).set6 (by simp) _ _).kp (kW.trans hK) (by simp)⟩
  go_enter Tryz.func17, Tryz.ntmps17
  go_wp2_with fail
  refine (fnone_any f tr _ _ HM.out.blk).mono ?_
  rintro e w' ⟨rfl, rfl⟩
  go_wp2_with fail
  go_region_held3 (fun w' => w'.cell? ⟨f, 0, none⟩ = some (.pointer (some ⟨tr, 0, none⟩)) ∧ w'.cell? ⟨w.heap.size, 0, none⟩ = some (.int .u32 p.a) ∧ w'.cell? ⟨w.heap.size, 1, none⟩ = some (.int .i64 p.l)) (first | exact ⟨Ka.cell f0, Ka.cell p0, Ka.cell p1⟩ | go_keep) (first | (go_at_call 35; refine (kplace_all tr p _ t _ (HG.out.keep (Kp.refl W).drew) (HM.out.trie.keep (Kp.refl W).drew) ha).mono ?_; rintro e wa ⟨rfl, hKa⟩; rw [Hpr.out]; have Ka : Kp W wa := (Kp.refl W).drew.trans hKa))
  have M1 := HM.out.keep Ka
  have D0 := B0.keep Ka
  have r0 : wa.cell? ⟨w.heap.size + 1, 0, none⟩ = some (.int .u32 0) := D0.cell 0
  have r1 : wa.cell? ⟨w.heap.size + 1, 1, none⟩ = some (.int .i64 0) := D0.cell 1
  have r2 : wa.cell? ⟨w.heap.size + 1, 2, none⟩ = some (.bool false) := D0.cell 2
  have r3 : wa.cell? ⟨w.heap.size + 1, 3, none⟩ = some (.int .i64 0) := D0.cell 3
  have r4 : wa.cell? ⟨w.heap.size + 1, 4, none⟩ = some (.int .u32 0) := D0.cell 4
  have r5 : wa.cell? ⟨w.heap.size + 1, 5, none⟩ = some (.int .i64 0) := D0.cell 5
  have z0 := D0.frozen 0
  have z1 := D0.frozen 1
  have z2 := D0.frozen 2
  have z3 := D0.frozen 3
  have z4 := D0.frozen 4
  have z5 := D0.frozen 5
  clear p0 p1 f0 hW
  rcases Hcase.out with ⟨rfl, rfl⟩ | ⟨k, hk, rfl, rfl⟩
  · go_wp2_with fail
    change bodyPost _ _ _ _ _ (set6 wa (w.heap.size + 1) 0 hop0)
    obtain ⟨R1, kz⟩ := fin.out wa hop0 Ka
    generalize set6 wa (w.heap.size + 1) 0 hop0 = Z at R1 kz ⊢
    have d0 := R1.cell 0
    have d1 := R1.cell 1
    have d2 := R1.cell 2
    have d3 := R1.cell 3
    have d4 := R1.cell 4
    have d5 := R1.cell 5
    simp at d0 d1 d2 d3 d4 d5
    exact bodyPost_ret (v := .tuple #[hopV hop0, .bool false]) (by simp [results, Tryz.results17, go_sem, d0, d1, d2, d3, d4, d5, hopV]) rfl ⟨rfl, kz⟩
  · obtain ⟨y, hy⟩ : ∃ y, H[k] = y := ⟨_, rfl⟩
    obtain ⟨b, off, rfl, g0, g1, g2, g3, g4, g5⟩ := hop_at (M1.own.rdAt (by decide) Hp.len) hk
    have f1 : wa.cell? ⟨f, 1, none⟩ = some (.slice (some ⟨b, off, none⟩) H.length c) := M1.blk.cell 1
    rw [hy] at g0 g1 g2 g3 g4 g5
    have Hy := Lib.hid hy
    clear hy M1 Hcase
    go_wp2_with fail
    change bodyPost _ _ _ _ _ (set6 wa (w.heap.size + 1) 0 y)
    obtain ⟨R1, kz⟩ := fin.out wa y Ka
    generalize set6 wa (w.heap.size + 1) 0 y = Z at R1 kz ⊢
    have d0 := R1.cell 0
    have d1 := R1.cell 1
    have d2 := R1.cell 2
    have d3 := R1.cell 3
    have d4 := R1.cell 4
    have d5 := R1.cell 5
    simp at d0 d1 d2 d3 d4 d5
    exact bodyPost_ret (v := .tuple #[hopV y, .bool true]) (by simp [results, Tryz.results17, go_sem, d0, d1, d2, d3, d4, d5, hopV]) rfl ⟨by rw [Hy.out], kz⟩
end Go.Proofs.YtfaiponmjjbgoaaGreatDoor

/- layer 13's works. -/
namespace Go.Proofs.YtfaiponmjjbgoaaGreatDoor
open Go.RowKit
attribute [local go_sem] Oper.semAt_some

def wr1 : Rt := ⟨⟨167772160, 8⟩, 1, 1, 0, 0, 0, 0, true⟩
def wr2 : Rt := ⟨⟨167837696, 16⟩, 2, 3, 0, 1, 167772674, 9, false⟩
def wr3 : Rt := ⟨⟨167837696, 16⟩, 3, 16, 3, 1, 167772674, 9, false⟩
def wh1 : Hp := ⟨⟨167772160, 8⟩, true, 0, 0, 1⟩
def wh2 : Hp := ⟨⟨167837696, 16⟩, false, 1, 167772674, 3⟩
theorem wl1 : runL [wr1, wr2] [] = [wh1, wh2] := by decide +kernel
theorem wn1 : runN [wr1, wr2] [] = 2 := by decide +kernel
theorem we1 : runE [wr1, wr2] [] = 0 := by decide +kernel
theorem wf1 : foundH 167838211 [wh1, wh2] = (wh2, true) := by decide +kernel
theorem wf2 : foundH 167903232 [wh1, wh2] = (wh1, true) := by decide +kernel
theorem wf3 : foundH 184549376 [wh1, wh2] = (hop0, false) := by decide +kernel
theorem wl3 : runL [wr3] [wh1, wh2] = [wh1] := by decide +kernel
theorem wn3 : runN [wr3] [wh1, wh2] = 1 := by decide +kernel
theorem we3 : runE [wr3] [wh1, wh2] = 0 := by decide +kernel
theorem wf4 : foundH 167838211 [wh1] = (wh1, true) := by decide +kernel

set_option maxRecDepth 100000 in
theorem own_any (q l : Int) (w : World) : Calls Tryz.prog 24 #[.agg #[.int .u32 q, .int .i64 l]] w fun e w' => e = .returned (.agg #[.int .u32 q, .int .i64 l, .int .i64 1, .int .i64 1, .int .i64 0, .int .i64 0, .int .u32 0, .int .i64 0, .bool true]) ∧ Kp w w' := by
  go_enter Tryz.func24, Tryz.ntmps24
  go_wp2_with fail
  refine bodyPost_ret (v := .agg #[.int .u32 q, .int .i64 l, .int .i64 1, .int .i64 1, .int .i64 0, .int .i64 0, .int .u32 0, .int .i64 0, .bool true]) (by simp [results, Tryz.results24, go_sem]) rfl ⟨rfl, ?_⟩
  exact ((Kp.refl _).alloc _).alloc _
theorem num_any (n : Int) (w : World) : Calls Tryz.prog 13 #[.int .i64 n] w fun e w' => e = .returned (.int .i64 n) ∧ w = w' := by
  go_enter Tryz.func13, Tryz.ntmps13
  go_wp2_with fail
  go_ret
  exact ⟨rfl, rfl⟩

theorem wq1 (w : World) : (binOp .eql 53 (.agg #[.int .u32 167837696, .int .i64 16, .bool false, .int .i64 1, .int .u32 167772674, .int .i64 3]) (.agg #[.int .u32 167837696, .int .i64 16, .bool false, .int .i64 1, .int .u32 167772674, .int .i64 3])).run Tryz.prog w = .ok (.bool true) w := by kernel_rfl
theorem wq2 (w : World) : (binOp .eql 53 (.agg #[.int .u32 167772160, .int .i64 8, .bool true, .int .i64 0, .int .u32 0, .int .i64 1]) (.agg #[.int .u32 167772160, .int .i64 8, .bool true, .int .i64 0, .int .u32 0, .int .i64 1])).run Tryz.prog w = .ok (.bool true) w := by kernel_rfl

theorem hv1 : hopV wh1 = .agg #[.int .u32 167772160, .int .i64 8, .bool true, .int .i64 0, .int .u32 0, .int .i64 1] := rfl
theorem hv2 : hopV wh2 = .agg #[.int .u32 167837696, .int .i64 16, .bool false, .int .i64 1, .int .u32 167772674, .int .i64 3] := rfl
theorem hv0 : hopV hop0 = .agg #[.int .u32 0, .int .i64 0, .bool false, .int .i64 0, .int .u32 0, .int .i64 0] := rfl
theorem FT.open {w w' : World} {f : Nat} {F : List Nat} {L : List Hp} (h : FT w w' f F L) (hG : RelsAt w) (hGn : 0 ∉ F) : ∃ F', FM w' f F' L ∧ Only F w w' ∧ (∀ b ∈ F', b ∈ F ∨ w.heap.size ≤ b) ∧ RelsAt w' ∧ 0 ∉ F' := by
  obtain ⟨F', h1, h2, h3⟩ := h
  refine ⟨F', h1, h2, h3, hG.only h2 hGn, fun hc => ?_⟩
  rcases h3 _ hc with e | e
  · exact hGn e
  · have := rels_lt hG; omega
theorem Rd.one (w : World) (r : Rt) : Rd (w.alloc (.cells r.enc.toArray 29)) 9 Rt.enc (some ⟨w.heap.size, 0, none⟩) [r] := Rd.of_blk (Blk.new w _ _) (by omega) Rt.len (by unfold maxLen; simp) (by simp)
theorem Rd.one1 (w : World) (o : Obj) (r : Rt) : Rd ((w.alloc o).alloc (.cells r.enc.toArray 29)) 9 Rt.enc (some ⟨w.heap.size + 1, 0, none⟩) [r] := Rd.of_blk (Blk.new1 w _ _ _) (by omega) Rt.len (by unfold maxLen; simp) (by simp)
theorem Rd.two (w : World) (r s : Rt) : Rd (w.alloc (.cells (r.enc ++ s.enc).toArray 29)) 9 Rt.enc (some ⟨w.heap.size, 0, none⟩) [r, s] := Rd.of_blk (Blk.new w _ _) (by omega) Rt.len (by unfold maxLen; simp) (by simp)

set_option maxRecDepth 100000 in
set_option maxHeartbeats 4000000 in
theorem works_any (w : World) (hG : RelsAt w) : Calls Tryz.prog 6 #[] w fun e w' => e = .returned (.bool true) ∧ Kp w w' := by
  have HG := Lib.hid hG
  clear hG
  go_enter Tryz.func6, Tryz.ntmps6
  go_wp2_with fail
  refine (fnew_any w).mono ?_
  rintro e w1 ⟨f, F, rfl, hM, hK, hF⟩
  have hlF := hM.lt
  have hGn : 0 ∉ F := fun hc => by have := hF _ hc; have := rels_lt HG.out; omega
  obtain ⟨W, hW, kW, B0, B1⟩ : ∃ W, (w1.alloc (.cells #[.int .u32 167772160, .int .i64 8] 26)).alloc (.cells #[.int .u32 167837696, .int .i64 16] 26) = W ∧ Kp w1 W ∧ Blk W w1.heap.size 26 #[.int .u32 167772160, .int .i64 8] ∧ Blk W (w1.heap.size + 1) 26 #[.int .u32 167837696, .int .i64 16] := ⟨_, rfl, ((Kp.refl _).alloc _).alloc _, (Blk.new w1 _ _).alloc _, Blk.new1 w1 _ _ _⟩
  have a0 : W.cell? ⟨w1.heap.size, 0, none⟩ = some (.int .u32 167772160) := B0.cell 0
  have a1 : W.cell? ⟨w1.heap.size, 1, none⟩ = some (.int .i64 8) := B0.cell 1
  have a2 : W.cell? ⟨w1.heap.size + 1, 0, none⟩ = some (.int .u32 167837696) := B1.cell 0
  have a3 : W.cell? ⟨w1.heap.size + 1, 1, none⟩ = some (.int .i64 16) := B1.cell 1
  have HM := Lib.hid (hM.keep kW)
  have HGW := Lib.hid (HG.out.keep (hK.trans kW))
  have HGn := Lib.hid hGn
  have HlF := Lib.hid hlF
  have HF := Lib.hid hF
  clear hM hGn hlF hF
  go_wp2_with fail
  have hb0 : w1.heap.size ∉ F := fun hc => by have := HlF.out _ hc; omega
  have hb1 : w1.heap.size + 1 ∉ F := fun hc => by have := HlF.out _ hc; omega
  have Hb0 := Lib.hid hb0
  have Hb1 := Lib.hid hb1
  clear hb0 hb1
  go_region_held3 (fun w' => w'.cell? ⟨w1.heap.size, 0, none⟩ = some (.int .u32 167772160) ∧ w'.cell? ⟨w1.heap.size, 1, none⟩ = some (.int .i64 8) ∧ w'.cell? ⟨w1.heap.size + 1, 0, none⟩ = some (.int .u32 167837696) ∧ w'.cell? ⟨w1.heap.size + 1, 1, none⟩ = some (.int .i64 16))
    (first | exact ⟨Ob.cell a0 Hb0.out, Ob.cell a1 Hb0.out, Ob.cell a2 Hb1.out, Ob.cell a3 Hb1.out⟩ | exact ⟨Ka.cell a0, Ka.cell a1, Ka.cell a2, Ka.cell a3⟩ | exact ⟨(Ka.alloc _).cell a0, (Ka.alloc _).cell a1, (Ka.alloc _).cell a2, (Ka.alloc _).cell a3⟩ | go_keep)
    (first | (go_at_call 24; refine (own_any 167772160 8 _).mono ?_; rintro e wa ⟨rfl, hKa⟩; have Ka : Kp W wa := (Kp.refl W).drew.trans hKa) | (go_at_call 8; refine (Come_any f F [] [wr1, wr2] (some ⟨wa.heap.size, 0, none⟩) 2 _ (HGW.out.keep (Ka.alloc _)) HGn.out (HM.out.keep (Ka.alloc _)) (Rd.two wa wr1 wr2) (fun _ a ha hc => by injection ha with ha; subst ha; have h9 : wa.heap.size < w1.heap.size := HlF.out _ hc; have := kW.size; have := Ka.size; omega) (by simp) (by simp [Rt.fits, wr1, wr2])).mono ?_; rintro e wb ⟨rfl, hT⟩; rw [wn1, we1]; rw [wl1] at hT; obtain ⟨F2, hM2, hO2, hs2, hG2, hGn2⟩ := hT.open (HGW.out.keep (Ka.alloc _)) HGn.out; have Ob : Only F W wb := (Only.of_kp (Ka.alloc _)).trans hO2))
  have B0b := B0.only Ob Hb0.out
  have B1b := B1.only Ob Hb1.out
  have kwb : Kp w wb := hO2.kp (((hK.trans kW).trans Ka).alloc _) HF.out
  have hs2' : ∀ b ∈ F2, w.heap.size ≤ b := fun b hb => by
    rcases hs2 b hb with e | e
    · exact HF.out b e
    · exact Nat.le_trans ((((hK.trans kW).trans Ka).alloc _).size) e
  have Hs2 := Lib.hid hs2'
  have hl1 := B1.lt
  have hn0 : w1.heap.size ∉ F2 := fun hc => by
    rcases hs2 _ hc with e | e
    · exact Hb0.out e
    · have := Ka.size; simp at e; omega
  have hn1 : w1.heap.size + 1 ∉ F2 := fun hc => by
    rcases hs2 _ hc with e | e
    · exact Hb1.out e
    · have := Ka.size; simp at e; omega
  have Hn0 := Lib.hid hn0
  have Hn1 := Lib.hid hn1
  have Hl2 := Lib.hid hM2.lt
  clear hn0 hn1 hl1
  clear a0 a1 a2 a3 hs2 hs2' hO2 hT hW
  go_wp2_with fail
  refine (fFind_any f F2 [wh1, wh2] 167838211 _ (hG2) (hM2) (by omega)).mono ?_
  rintro e x2 ⟨rfl, hK2⟩
  rw [wf1]
  obtain ⟨V2, hV2, kV2, BV2⟩ : ∃ V, x2.alloc (.cells #[.int .u32 167837696, .int .i64 16, .bool false, .int .i64 1, .int .u32 167772674, .int .i64 3] 53) = V ∧ Kp x2 V ∧ Blk V x2.heap.size 53 #[.int .u32 167837696, .int .i64 16, .bool false, .int .i64 1, .int .u32 167772674, .int .i64 3] := ⟨_, rfl, (Kp.refl _).alloc _, Blk.new x2 _ _⟩
  have K2 := hK2.trans kV2
  simp only [hv2]
  have hG3 := hG2.keep K2
  have hM3 := hM2.keep K2
  have hkx2 := hK2
  clear hK2 kV2 hG2 hM2
  go_wp2_with fail
  refine (fFind_any f F2 [wh1, wh2] 167903232 _ (hG3) (hM3) (by omega)).mono ?_
  rintro e x3 ⟨rfl, hK3⟩
  rw [wf2]
  obtain ⟨V3, hV3, kV3, BV3⟩ : ∃ V, x3.alloc (.cells #[.int .u32 167772160, .int .i64 8, .bool true, .int .i64 0, .int .u32 0, .int .i64 1] 53) = V ∧ Kp x3 V ∧ Blk V x3.heap.size 53 #[.int .u32 167772160, .int .i64 8, .bool true, .int .i64 0, .int .u32 0, .int .i64 1] := ⟨_, rfl, (Kp.refl _).alloc _, Blk.new x3 _ _⟩
  have K3 := hK3.trans kV3
  simp only [hv1]
  have hG4 := hG3.keep K3
  have hM4 := hM3.keep K3
  have hkx3 := K2.trans hK3
  clear hK3 kV3 hG3 hM3 hV2
  go_wp2_with fail
  refine (fFind_any f F2 [wh1, wh2] 184549376 _ (hG4) (hM4) (by omega)).mono ?_
  rintro e x4 ⟨rfl, hK4⟩
  rw [wf3]
  simp only [hv0]
  have K4 : Kp V3 (x4.alloc (.cells #[.int .u32 0, .int .i64 0, .bool false, .int .i64 0, .int .u32 0, .int .i64 0] 53)) := hK4.alloc _
  have hG5 := hG4.keep K4
  have hM5 := hM4.keep K4
  have B1c := B1b.keep ((K2.trans K3).trans K4)
  have B1d := B1b.keep ((K2.trans K3).trans hK4)
  have a2 : ∀ o, (x4.alloc o).cell? ⟨w1.heap.size + 1, 0, none⟩ = some (.int .u32 167837696) := fun o => (B1d.alloc o).cell 0
  have a3 : ∀ o, (x4.alloc o).cell? ⟨w1.heap.size + 1, 1, none⟩ = some (.int .i64 16) := fun o => (B1d.alloc o).cell 1
  clear hK4 hG4 hM4 hV3 B1d
  have HM5 := Lib.hid hM5
  have HG5 := Lib.hid hG5
  have HGn2 := Lib.hid hGn2
  have hl5 := hM5.lt
  have Hl5 := Lib.hid hl5
  clear hM5 hG5 hGn2 hl5
  go_wp2_with fail
  have k5 : ∀ o, Kp (x4.alloc (.cells #[.int .u32 0, .int .i64 0, .bool false, .int .i64 0, .int .u32 0, .int .i64 0] 53)) ((x4.alloc (.cells #[.int .u32 0, .int .i64 0, .bool false, .int .i64 0, .int .u32 0, .int .i64 0] 53)).alloc o) := fun o => (Kp.refl _).alloc o
  refine (Come_any f F2 [wh1, wh2] [wr3] (some ⟨x4.heap.size + 1, 0, none⟩) 1 _ (HG5.out.keep (k5 _)) HGn2.out (HM5.out.keep (k5 _)) (Rd.one1 x4 _ wr3) (fun _ a ha hc => by injection ha with ha; subst ha; have h9 := Hl5.out _ hc; simp at h9) (by simp) (by simp [Rt.fits, wr3])).mono ?_
  rintro e wc ⟨rfl, hT⟩
  rw [wn3, we3]
  rw [wl3] at hT
  obtain ⟨F6, hM6, hO6, hs6, hG6, hGn6⟩ := hT.open (HG5.out.keep (k5 _)) HGn2.out
  have O6 : Only F2 (x4.alloc (.cells #[.int .u32 0, .int .i64 0, .bool false, .int .i64 0, .int .u32 0, .int .i64 0] 53)) wc := (Only.of_kp (k5 _)).trans hO6
  have kwv : Kp w (x4.alloc (.cells #[.int .u32 0, .int .i64 0, .bool false, .int .i64 0, .int .u32 0, .int .i64 0] 53)) := ((kwb.trans K2).trans K3).trans K4
  have kwc : Kp w wc := O6.kp kwv Hs2.out
  clear hT hO6 a2 a3 hs6
  go_wp2_with fail
  refine (fFind_any f F6 [wh1] 167838211 _ (hG6) (hM6) (by omega)).mono ?_
  rintro e x6 ⟨rfl, hK6⟩
  rw [wf4]
  obtain ⟨V6, hV6, kV6, BV6⟩ : ∃ V, x6.alloc (.cells #[.int .u32 167772160, .int .i64 8, .bool true, .int .i64 0, .int .u32 0, .int .i64 1] 53) = V ∧ Kp x6 V ∧ Blk V x6.heap.size 53 #[.int .u32 167772160, .int .i64 8, .bool true, .int .i64 0, .int .u32 0, .int .i64 1] := ⟨_, rfl, (Kp.refl _).alloc _, Blk.new x6 _ _⟩
  have K6 := hK6.trans kV6
  simp only [hv1]
  have kz := kwc.trans K6
  have D0 := ((B0b.keep ((K2.trans K3).trans K4)).only O6 Hn0.out).keep K6
  have D1 := ((B1b.keep ((K2.trans K3).trans K4)).only O6 Hn1.out).keep K6
  have D2 := ((BV2.keep (K3.trans K4)).only O6 (fun hc => by have h1 := Hl2.out _ hc; have := hkx2.size; omega)).keep K6
  have D3 := ((BV3.keep K4).only O6 (fun hc => by have h1 := Hl2.out _ hc; have := hkx3.size; omega)).keep K6
  have hM7 := hM6.keep K6
  have HM7 := Lib.hid hM7
  have d0 : V6.cell? ⟨w1.heap.size, 0, none⟩ = some (.int .u32 167772160) := D0.cell 0
  have d1 : V6.cell? ⟨w1.heap.size, 1, none⟩ = some (.int .i64 8) := D0.cell 1
  have g0 : V6.cell? ⟨w1.heap.size + 1, 0, none⟩ = some (.int .u32 167837696) := D1.cell 0
  have g1 : V6.cell? ⟨w1.heap.size + 1, 1, none⟩ = some (.int .i64 16) := D1.cell 1
  have p0 : V6.cell? ⟨x2.heap.size, 0, none⟩ = some (.int .u32 167837696) := D2.cell 0
  have p1 : V6.cell? ⟨x2.heap.size, 1, none⟩ = some (.int .i64 16) := D2.cell 1
  have p2 : V6.cell? ⟨x2.heap.size, 2, none⟩ = some (.bool false) := D2.cell 2
  have p3 : V6.cell? ⟨x2.heap.size, 3, none⟩ = some (.int .i64 1) := D2.cell 3
  have p4 : V6.cell? ⟨x2.heap.size, 4, none⟩ = some (.int .u32 167772674) := D2.cell 4
  have p5 : V6.cell? ⟨x2.heap.size, 5, none⟩ = some (.int .i64 3) := D2.cell 5
  have q0 : V6.cell? ⟨x3.heap.size, 0, none⟩ = some (.int .u32 167772160) := D3.cell 0
  have q1 : V6.cell? ⟨x3.heap.size, 1, none⟩ = some (.int .i64 8) := D3.cell 1
  have q2 : V6.cell? ⟨x3.heap.size, 2, none⟩ = some (.bool true) := D3.cell 2
  have q3 : V6.cell? ⟨x3.heap.size, 3, none⟩ = some (.int .i64 0) := D3.cell 3
  have q4 : V6.cell? ⟨x3.heap.size, 4, none⟩ = some (.int .u32 0) := D3.cell 4
  have q5 : V6.cell? ⟨x3.heap.size, 5, none⟩ = some (.int .i64 1) := D3.cell 5
  have r0 : V6.cell? ⟨x6.heap.size, 0, none⟩ = some (.int .u32 167772160) := BV6.cell 0
  have r1 : V6.cell? ⟨x6.heap.size, 1, none⟩ = some (.int .i64 8) := BV6.cell 1
  have r2 : V6.cell? ⟨x6.heap.size, 2, none⟩ = some (.bool true) := BV6.cell 2
  have r3 : V6.cell? ⟨x6.heap.size, 3, none⟩ = some (.int .i64 0) := BV6.cell 3
  have r4 : V6.cell? ⟨x6.heap.size, 4, none⟩ = some (.int .u32 0) := BV6.cell 4
  have r5 : V6.cell? ⟨x6.heap.size, 5, none⟩ = some (.int .i64 1) := BV6.cell 5
  have e1 := wq1
  have e2 := wq2
  clear hK6 kV6 hM7 hM6 D0 D1 D2 D3 BV6 BV2 BV3 K2 K3 K4 K6 O6 kwv kwc HM5 HG5 Hl5 k5 B1c kwb Ob Ka hKa HM HGW
  go_wp2_with fail
  refine (num_any 0 _).mono ?_
  rintro e w' ⟨rfl, rfl⟩
  go_wp2_with fail
  refine (num_any 0 _).mono ?_
  rintro e w' ⟨rfl, rfl⟩
  go_wp2_with fail
  refine (flen_any f F6 [wh1] _ HM7.out).mono ?_
  rintro e w' ⟨rfl, rfl⟩
  go_wp2_with fail
  go_ret
  exact ⟨rfl, kz⟩
end Go.Proofs.YtfaiponmjjbgoaaGreatDoor

/- FibAll's table and the reference's list, side by side. -/
namespace Go.Proofs.YtfaiponmjjbgoaaGreatDoor
open Go.RowKit

theorem runL_one (r : Rt) (L : List Hp) : runL [r] L = comeL r L := by
  simp only [runL]
  by_cases h : comeE r L = 0
  · rw [if_pos h]
  · rw [if_neg h, come_err h]
theorem FM.up {w : World} {f : Nat} {F : List Nat} {L : List Hp} (h : FM w f F L) : Up L ∧ L.length ≤ 512 := by
  obtain ⟨tr, t, A, c, H, _, m, u, pm⟩ := h
  exact ⟨u, by rw [← pm.length_eq]; exact m.room⟩

/-- A table of hops, and the reference's list of the same hops in a block of its own. -/
structure AlI (w : World) (f u : Nat) (W : World) (F : List Nat) (L : List Hp) (A : Option Addr) (c : Nat) : Prop where
  fm : FM W f F L
  new : ∀ b ∈ F, w.heap.size ≤ b
  rels : RelsAt W
  gn : 0 ∉ F
  kp : Kp w W
  ub : Blk W u 35 #[.slice A L.length c]
  un : u ∉ F
  uw : w.heap.size ≤ u
  ug : u ≠ 0
  rd : Rd W 6 Hp.enc A L
  an : ∀ a, A = some a → a.block < W.heap.size ∧ a.block ∉ F ∧ a.block ≠ u

section
variable {w : World} {f u : Nat} {W W' : World} {F : List Nat} {L L' : List Hp} {A A' : Option Addr} {c c' : Nat}
theorem AlI.keep (h : AlI w f u W F L A c) (k : Kp W W') : AlI w f u W' F L A c :=
  ⟨h.fm.keep k, h.new, h.rels.keep k, h.gn, h.kp.trans k, h.ub.keep k, h.un, h.uw, h.ug, h.rd.keep k, fun a ha => ⟨Nat.lt_of_lt_of_le (h.an a ha).1 k.size, (h.an a ha).2⟩⟩
/-- Routes came to the table alone: the reference's list stands. -/
structure AlJ (w : World) (f u : Nat) (W : World) (F : List Nat) (L0 L : List Hp) (A : Option Addr) (c : Nat) : Prop where
  fm : FM W f F L
  new : ∀ b ∈ F, w.heap.size ≤ b
  rels : RelsAt W
  gn : 0 ∉ F
  kp : Kp w W
  ub : Blk W u 35 #[.slice A L0.length c]
  un : u ∉ F
  uw : w.heap.size ≤ u
  ug : u ≠ 0
  rd : Rd W 6 Hp.enc A L0
  an : ∀ a, A = some a → a.block < W.heap.size ∧ a.block ∉ F ∧ a.block ≠ u
theorem AlI.come (h : AlI w f u W F L A c) (hT : FT W W' f F L') : ∃ F', AlJ w f u W' F' L L' A c ∧ Only F W W' ∧ ∀ b ∈ F', b ∈ F ∨ W.heap.size ≤ b := by
  obtain ⟨F', fm, O, s5, r5, gn5⟩ := hT.open h.rels h.gn
  have hub := h.ub.lt
  refine ⟨F', ⟨fm, fun b hb => ?_, r5, gn5, O.kp h.kp h.new, h.ub.only O h.un, fun hc => ?_, h.uw, h.ug, h.rd.only O (fun a ha => (h.an a ha).2.1), fun a ha => ⟨Nat.lt_of_lt_of_le (h.an a ha).1 O.size, fun hc => ?_, (h.an a ha).2.2⟩⟩, O, s5⟩
  · rcases s5 b hb with e | e
    · exact h.new b e
    · exact Nat.le_trans h.kp.size e
  · rcases s5 _ hc with e | e
    · exact h.un e
    · omega
  · have := (h.an a ha).1
    rcases s5 _ hc with e | e
    · exact (h.an a ha).2.1 e
    · omega
theorem AlJ.keep {L0 : List Hp} (h : AlJ w f u W F L0 L A c) (k : Kp W W') : AlJ w f u W' F L0 L A c :=
  ⟨h.fm.keep k, h.new, h.rels.keep k, h.gn, h.kp.trans k, h.ub.keep k, h.un, h.uw, h.ug, h.rd.keep k, fun a ha => ⟨Nat.lt_of_lt_of_le (h.an a ha).1 k.size, (h.an a ha).2⟩⟩
/-- The reference's list is set to the table's. -/
theorem AlJ.set {L0 : List Hp} (h : AlJ w f u W F L0 L A c) (k : Kp W W') (hR : Rd W' 6 Hp.enc A' L) (hA : A' = A ∨ ∀ a, A' = some a → W.heap.size ≤ a.block ∧ a.block < W'.heap.size) : AlI w f u (W'.setCell ⟨u, 0, none⟩ (.slice A' L.length c')) F L A' c' := by
  have g := h.keep k
  have hub := h.ub.lt
  have O : Only [u] W' (W'.setCell ⟨u, 0, none⟩ (.slice A' L.length c')) := (Only.refl _ _).setCell (.inl (by simp)) _
  have hall : ∀ a, A' = some a → a.block < W'.heap.size ∧ a.block ∉ F ∧ a.block ≠ u := fun a ha => by
    rcases hA with rfl | hA
    · exact g.an a ha
    · have h1 := hA a ha
      exact ⟨h1.2, fun hc => by have := h.fm.lt _ hc; omega, by omega⟩
  refine ⟨g.fm.only O (fun b hb => by simp; intro e; subst e; exact g.un hb), g.new, g.rels.only O ?_, g.gn, O.kp g.kp (by simp; exact g.uw), g.ub.set_ 0 _, g.un, g.uw, g.ug, hR.only O (fun a ha => by simp; exact (hall a ha).2.2), fun a ha => ⟨?_, (hall a ha).2⟩⟩
  · simp only [List.mem_singleton]
    exact fun e => g.ug e.symm
  · simpa [World.setCell] using (hall a ha).1
end
end Go.Proofs.YtfaiponmjjbgoaaGreatDoor

/- Layer 13's is; the reference's Come. -/
namespace Go.Proofs.YtfaiponmjjbgoaaGreatDoor
open Go.RowKit
attribute [local go_sem] Oper.semAt_some

set_option maxRecDepth 100000 in
set_option maxHeartbeats 2000000 in
theorem is_any (f : Nat) (F : List Nat) (L : List Hp) (A : Option Addr) (c : Nat) (w : World) (hM : FM w f F L) (hR : Rd w 6 Hp.enc A L) :
    Calls Tryz.prog 14 #[.pointer (some ⟨f, 0, none⟩), .agg #[.slice A L.length c]] w fun e w' => e = .returned (.bool true) ∧ Kp w w' := by
  obtain ⟨W, hW, kW, B0⟩ : ∃ W, w.alloc (.cells #[.slice A L.length c] 35) = W ∧ Kp w W ∧ Blk W w.heap.size 35 #[.slice A L.length c] := ⟨_, rfl, (Kp.refl _).alloc _, Blk.new w _ _⟩
  have hn := hM.up.2
  have HM := Lib.hid (hM.keep kW)
  have HR := Lib.hid (hR.keep kW)
  have u0 : W.cell? ⟨w.heap.size, 0, none⟩ = some (.slice A L.length c) := B0.cell 0
  clear hM hR
  go_enter Tryz.func14, Tryz.ntmps14
  go_wp2_with fail
  go_region_held3 (fun w' => w'.cell? ⟨w.heap.size, 0, none⟩ = some (.slice A L.length c)) (first | exact (Ka.trans Kb).cell u0 | exact Ka.cell u0 | go_keep) (first | (go_at_call 10; refine (all_any f F L _ (HM.out.keep (Kp.refl W).drew)).mono ?_; rintro e wa ⟨bx, A', c', rfl, hD, hKa, hb, hA'⟩; have Ka : Kp W wa := (Kp.refl W).drew.trans hKa; have HD := Lib.hid hD; clear hD hA') | (go_at_call 11; refine (rows_any bx A' c' A c L 999 _ HD.out (HR.out.keep Ka) hn).mono ?_; rintro e wb ⟨rfl, Kb⟩) | (go_at_call 19; refine (flen_any f F L _ (HM.out.keep (Ka.trans Kb))).mono ?_; rintro e w' ⟨rfl, rfl⟩))
  go_wp2_with fail
  go_ret
  exact ⟨rfl, (kW.trans Ka).trans Kb⟩
end Go.Proofs.YtfaiponmjjbgoaaGreatDoor

/- The reference's Come: many routes. -/
namespace Go.Proofs.YtfaiponmjjbgoaaGreatDoor
open Go.RowKit
attribute [local go_sem] Oper.semAt_some

theorem insH_len {h : Hp} : ∀ {l : List Hp}, (insH h l).length = (delH h.p l).length + 1
  | [] => by simp [insH, delH]
  | e :: l => by
    unfold insH
    split
    · rename_i hlt
      have hne : ¬ e.p = h.p := fun e' => by rw [e'] at hlt; exact lt_irrefl _ hlt
      have e1 : delH h.p (e :: l) = e :: delH h.p l := by simp [delH, hne]
      rw [e1, List.length_cons, List.length_cons, insH_len]
    · simp
theorem del_lt {q : Pn} {L : List Hp} (h : hasP q L = true) : (delH q L).length < L.length := by
  obtain ⟨e, he, hp⟩ := hasP_iff.1 h
  unfold delH
  rw [List.length_filter_lt_length_iff_exists]
  exact ⟨e, he, by simp [hp]⟩
theorem come_len {r : Rt} {L : List Hp} (hl : L.length ≤ 512) : (comeL r L).length ≤ 512 := by
  have hd : ∀ q, (delH q L).length ≤ L.length := fun q => List.length_filter_le _ _
  unfold comeL putL
  split
  · split
    · split
      · rename_i h1
        rw [insH_len]
        rcases Bool.or_eq_true_iff.1 h1 with h2 | h2
        · have := del_lt h2; omega
        · have := hd r.hop.p; have := of_decide_eq_true h2; omega
      · exact hl
    · have := hd r.p.pn; omega
  · exact hl

/-- What the reference's list is behind a route, wherever its block came to lie. -/
def RcQ (wr : World) (A0 : Option Addr) (l : List Hp) (n : Int) (s8 s9 : Value) (W : World) : Prop := ∃ g A c, s8 = .pointer (some ⟨g, 0, none⟩) ∧ s9 = .int .i64 n ∧ Blk W g 35 #[.slice A l.length c] ∧ Rd W 6 Hp.enc A l ∧ Kp wr W ∧ (A = A0 ∨ ∀ a, A = some a → wr.heap.size ≤ a.block ∧ a.block < W.heap.size) ∧ wr.heap.size ≤ g
theorem RcQ.after {wr w6 : World} {A0 A : Option Addr} {l : List Hp} {n : Int} {c : Nat} (hR : Rd w6 6 Hp.enc A l) (hK : Kp wr w6) (hA : A = A0 ∨ ∀ a, A = some a → wr.heap.size ≤ a.block ∧ a.block < w6.heap.size) :
    RcQ wr A0 l n (.pointer (some ⟨w6.heap.size, 0, none⟩)) (.int .i64 n) (w6.alloc (.cells #[.slice A l.length c] 35)) :=
  ⟨w6.heap.size, A, c, rfl, rfl, Blk.new w6 _ _, hR.keep ((Kp.refl _).alloc _), hK.alloc _, hA.imp id (fun h a ha => ⟨(h a ha).1, by have := (h a ha).2; simp; omega⟩), hK.size⟩
theorem RcQ.ahead {wr X w6 : World} {A0 A : Option Addr} {l : List Hp} {n : Int} {c : Nat} (h0 : ∀ a, A0 = some a → a.block < wr.heap.size) (hX : Kp wr X) (hs : X.heap.size = wr.heap.size + 1) (hB : Blk X wr.heap.size 35 #[.slice none 0 0]) (hR : Rd w6 6 Hp.enc A l) (hK : Kp X w6) (hA : A = A0 ∨ ∀ a, A = some a → X.heap.size ≤ a.block ∧ a.block < w6.heap.size) :
    RcQ wr A0 l n (.pointer (some ⟨wr.heap.size, 0, none⟩)) (.int .i64 n) (w6.setCell ⟨wr.heap.size, 0, none⟩ (.slice A l.length c)) := by
  have O : Only [wr.heap.size] w6 (w6.setCell ⟨wr.heap.size, 0, none⟩ (.slice A l.length c)) := (Only.refl _ _).setCell (.inl (by simp)) _
  refine ⟨wr.heap.size, A, c, rfl, rfl, (hB.keep hK).set_ 0 _, hR.only O (fun a ha => ?_), O.kp (hX.trans hK) (by simp), hA.imp id (fun h a ha => ⟨by have := (h a ha).1; omega, by have := (h a ha).2; simpa [World.setCell] using this⟩), Nat.le_refl _⟩
  simp only [List.mem_singleton]
  rcases hA with rfl | hA
  · have := h0 a ha; omega
  · have := (hA a ha).1; omega

structure RcI (w : World) (A0 : Option Addr) (L : List Hp) (A : Option Addr) (c : Nat) (W : World) : Prop where
  kp : Kp w W
  fb : Blk W w.heap.size 35 #[.slice A L.length c]
  rb : Blk W (w.heap.size + 1) 35 #[.slice none 0 0]
  rd : Rd W 6 Hp.enc A L
  an : A = A0 ∨ ∀ a, A = some a → w.heap.size + 1 < a.block ∧ a.block < W.heap.size
def RcA (w : World) (A0 : Option Addr) (L : List Hp) (W : World) : Prop := ∃ A c, RcI w A0 L A c W
def RcP (w : World) (A0 : Option Addr) (l : List Hp) (n : Nat) (no : Int) (e : Ending) (w' : World) : Prop := ∃ A c, e = .returned (.tuple #[.agg #[.slice A l.length c], .int .i64 n, .int .i64 no]) ∧ Rd w' 6 Hp.enc A l ∧ Kp w w' ∧ (A = A0 ∨ ∀ a, A = some a → w.heap.size ≤ a.block ∧ a.block < w'.heap.size)

set_option maxRecDepth 100000 in
set_option maxHeartbeats 8000000 in
theorem rcome_any (A0 : Option Addr) (c0 : Nat) (L : List Hp) (B : Option Addr) (d : Nat) (rs : List Rt) (w : World) (hR : Rd w 6 Hp.enc A0 L) (h0 : ∀ a, A0 = some a → a.block < w.heap.size) (hn : L.length ≤ 512) (hu : Up L) (hB : Rd w 9 Rt.enc B rs) (hfit : ∀ r ∈ rs, r.fits) (hrs : rs.length ≤ 1000000) :
    Calls Tryz.prog 12 #[.agg #[.slice A0 L.length c0], .slice B rs.length d] w (RcP w A0 (runL rs L) (runN rs L) (runE rs L)) := by
  have HB := Lib.hid hB
  have Hfit := Lib.hid hfit
  have H0 := Lib.hid h0
  go_enter Tryz.func12, Tryz.ntmps12
  go_wp2_with fail
  obtain ⟨W0, hW0, I0⟩ : ∃ W0, (w.alloc (.cells #[.slice A0 L.length c0] 35)).alloc (.cells #[.slice none 0 0] 35) = W0 ∧ RcA w A0 L W0 :=
    ⟨_, rfl, A0, c0, ((Kp.refl _).alloc _).alloc _, (Blk.new w _ _).alloc _, Blk.new1 w _ _ _, hR.keep (((Kp.refl _).alloc _).alloc _), .inl rfl⟩
  have HI0 := Lib.hid I0
  rw [hW0]
  clear hW0 I0 hR h0 hB hfit
  have Hst : Hid (Up L ∧ L.length ≤ 512) := ⟨hu, hn⟩
  clear hu hn
  go_loopw [7] (fun i wr => ∃ (k : Nat) (Lk : List Hp), k ≤ rs.length ∧ i = .int .i64 k ∧ Hid (RunAt rs L k Lk) ∧ Hid (Up Lk ∧ Lk.length ≤ 512) ∧ Hid (RcA w A0 Lk wr)) (fun i _ => rs.length - (intOf i).toNat)
  case atStart => exact ⟨0, L, Nat.zero_le _, rfl, RunAt.start rs L, Hst, HI0⟩
  case round =>
    obtain ⟨k, Lk, hk, rfl, hrun, hup, hI⟩ := hrel
    obtain ⟨A, c, I⟩ := hI.out
    have HII := Lib.hid I
    by_cases hlt : k < rs.length
    · obtain ⟨b, off, hb, x0, x1, x2, x3, x4, x5, x6, x7, x8⟩ := rt_at (HB.out.keep I.kp) hlt
      subst hb
      obtain ⟨q, hq⟩ : ∃ q, rs[k] = q := ⟨_, rfl⟩
      rw [hq] at x0 x1 x2 x3 x4 x5 x6 x7 x8
      have Hq := Lib.hid (Hfit.out q (by rw [← hq]; exact List.getElem_mem _))
      have Hqe := Lib.hid hq
      obtain ⟨hqa, hqx⟩ := Hq.out
      obtain ⟨hupk, hlnk⟩ := hup.out
      have Hupk := Lib.hid hupk
      clear hupk
      have u0 : wr.cell? ⟨w.heap.size, 0, none⟩ = some (.slice A Lk.length c) := I.fb.cell 0
      have h0A : Hid (∀ a, A = some a → a.block < wr.heap.size) := fun a ha => by
        rcases HII.out.an with e | e
        · have := H0.out a (by rw [← e]; exact ha); have := HII.out.kp.size; omega
        · exact (e a ha).2
      clear hq I
      go_upto_region 4 with (fail)
      go_cut [8, 9] from 16 to 24 (fun s8 s9 wx => RcQ wr A (comeL q Lk) (comeE q Lk) s8 s9 wx)
      case first =>
        have al : ∀ o, Kp wr (wr.alloc o) := fun o => (Kp.refl wr).alloc o
        have u1 : ∀ o, (wr.alloc o).cell? ⟨w.heap.size, 0, none⟩ = some (.slice A Lk.length c) := fun o => (al o).cell u0
        have y0 : ∀ o, (wr.alloc o).cell? _ = _ := fun o => (al o).cell x0
        have y1 : ∀ o, (wr.alloc o).cell? _ = _ := fun o => (al o).cell x1
        have y2 : ∀ o, (wr.alloc o).cell? _ = _ := fun o => (al o).cell x2
        have y3 : ∀ o, (wr.alloc o).cell? _ = _ := fun o => (al o).cell x3
        have y4 : ∀ o, (wr.alloc o).cell? _ = _ := fun o => (al o).cell x4
        have y5 : ∀ o, (wr.alloc o).cell? _ = _ := fun o => (al o).cell x5
        have y6 : ∀ o, (wr.alloc o).cell? _ = _ := fun o => (al o).cell x6
        have y7 : ∀ o, (wr.alloc o).cell? _ = _ := fun o => (al o).cell x7
        have y8 : ∀ o, (wr.alloc o).cell? _ = _ := fun o => (al o).cell x8
        have Hal := Lib.hid al
        clear al
        go_region_with (go_at_call 9; (first | ((with_reducible refine (one_any A c Lk q _ (HII.out.rd.keep (Kp.refl wr).drew) hlnk hqa hqx Hupk.out).mono ?_); rintro e w6 ⟨A2, c2, rfl, hR2, hK2, hA2⟩; have HQ := Lib.hid (RcQ.after (n := comeE q Lk) (c := c2) hR2 ((Kp.refl wr).drew.trans hK2) hA2); clear hR2 hA2) | ((with_reducible refine (one_any A c Lk q _ (HII.out.rd.keep (Hal.out _).drew) hlnk hqa hqx Hupk.out).mono ?_); rintro e w6 ⟨A2, c2, rfl, hR2, hK2, hA2⟩; have HQ := Lib.hid (RcQ.ahead (n := comeE q Lk) (c := c2) h0A.out (Hal.out _).drew (by simp) (Blk.new wr _ _).drew hR2 hK2 hA2); have Bg := (Blk.new wr 35 #[.slice none 0 0]).drew.keep hK2; have cg := Bg.cell 0; have zg := Bg.frozen 0; clear hR2 hA2)))
        all_goals
          go_wp2_with fail
          go_meet
          case rel => exact HQ.out
      case rest =>
      obtain ⟨g, A2, c2, rfl, rfl, hBg, hR2, hK2, hA2, hg⟩ := hcut
      have HR2 := Lib.hid hR2
      have HA2 := Lib.hid hA2
      have HBg := Lib.hid hBg
      have J1 := HII.out.fb.keep hK2
      have J2 := HII.out.rb.keep hK2
      have hlo := J2.lt
      have hwl := HII.out.rb.lt
      have cg : wc.cell? ⟨g, 0, none⟩ = some (.slice A2 (comeL q Lk).length c2) := hBg.cell 0
      have v0 : wc.cell? ⟨w.heap.size, 0, none⟩ = some (.slice A Lk.length c) := J1.cell 0
      have zv := J1.frozen 0
      have s0 : wc.cell? ⟨w.heap.size + 1, 0, none⟩ = some (.slice none 0 0) := J2.cell 0
      have zs := J2.frozen 0
      clear u0 x0 x1 x2 x3 x4 x5 x6 x7 x8 hR2 hA2 hBg
      by_cases he : comeE q Lk = 0
      · have hrun2 := hrun.out.step hlt (by rw [Hqe.out]; exact he)
        rw [Hqe.out] at hrun2
        have Hrun2 := Lib.hid hrun2; clear hrun2
        rw [he]
        clear he
        obtain ⟨L2, hL2⟩ : ∃ L2, comeL q Lk = L2 := ⟨_, rfl⟩
        have Hup2 : Hid (Up L2 ∧ L2.length ≤ 512) := by rw [← hL2]; exact ⟨come_up Hupk.out, come_len hlnk⟩
        rw [hL2] at HR2 HBg cg Hrun2
        clear hL2
        have hne : g ≠ w.heap.size := by omega
        have O : Only [w.heap.size] wc (wc.setCell ⟨w.heap.size, 0, none⟩ (.slice A2 L2.length c2)) := (Only.refl _ _).setCell (.inl (by simp)) _
        have hJ : RcA w A0 L2 (wc.setCell ⟨w.heap.size, 0, none⟩ (.slice A2 L2.length c2)) := by
          have hall : A2 = A0 ∨ ∀ a, A2 = some a → w.heap.size + 1 < a.block ∧ a.block < wc.heap.size := by
            rcases HA2.out with e | e
            · rw [e]; exact HII.out.an.imp id (fun h a ha => ⟨(h a ha).1, Nat.lt_of_lt_of_le (h a ha).2 hK2.size⟩)
            · exact .inr (fun a ha => ⟨by have := (e a ha).1; omega, (e a ha).2⟩)
          refine ⟨A2, c2, O.kp (HII.out.kp.trans hK2) (by simp), J1.set_ 0 _, J2.far (by simp) _, HR2.out.only O (fun a ha => ?_), hall.imp id (fun h a ha => ⟨(h a ha).1, by have := (h a ha).2; simpa [World.setCell] using this⟩)⟩
          simp only [List.mem_singleton]
          rcases hall with e | e
          · have := H0.out a (by rw [← e]; exact ha); omega
          · have := (e a ha).1; omega
        have HJ := Lib.hid hJ
        clear hJ O
        go_wp2_with fail
        go_roundw
        case rel => exact ⟨k + 1, L2, by omega, by go_num, Hrun2, Hup2, HJ⟩
        case measure => simp [intOf]; omega
      · obtain ⟨s1, s2, s3⟩ := hrun.out.stop hlt (by rw [Hqe.out]; exact he)
        rw [Hqe.out] at s3
        have HS1 := Lib.hid s1
        have HS2 := Lib.hid s2
        have HS3 := Lib.hid s3
        have hne : (comeE q Lk != 0) = true := by simpa using he
        clear s1 s2 s3 he
        obtain ⟨ee, hee⟩ : ∃ ee, comeE q Lk = ee := ⟨_, rfl⟩
        rw [hee] at hne ⊢
        have Hee := Lib.hid hee; clear hee
        have O : Only [w.heap.size + 1] wc (wc.setCell ⟨w.heap.size + 1, 0, none⟩ (.slice A Lk.length c)) := (Only.refl _ _).setCell (.inl (by simp)) _
        have R1 := J2.set_ 0 (.slice A Lk.length c)
        have hP : RcP w A0 (runL rs L) (runN rs L) (runE rs L) (.returned (.tuple #[.agg #[.slice A Lk.length c], .int .i64 k, .int .i64 ee])) (wc.setCell ⟨w.heap.size + 1, 0, none⟩ (.slice A Lk.length c)) := by
          refine ⟨A, c, by rw [HS1.out, HS2.out, HS3.out, Hee.out], ?_, O.kp (HII.out.kp.trans hK2) (by simp), HII.out.an.imp id (fun h a ha => ⟨by have := (h a ha).1; omega, by have := (h a ha).2; have := hK2.size; simp [World.setCell]; omega⟩)⟩
          rw [HS1.out]
          refine (HII.out.rd.keep hK2).only O (fun a ha => ?_)
          simp only [List.mem_singleton]
          rcases HII.out.an with e | e
          · have := H0.out a (by rw [← e]; exact ha); omega
          · have := (e a ha).1; omega
        have HP := Lib.hid hP
        have HR1 := Lib.hid R1
        clear hP O R1
        go_wp2_with fail
        have d0 := HR1.out.cell 0
        have P := HP.out
        generalize wc.setCell ⟨w.heap.size + 1, 0, none⟩ (.slice A Lk.length c) = Z at d0 P ⊢
        simp at d0
        exact bodyPost_ret (v := .tuple #[.agg #[.slice A Lk.length c], .int .i64 k, .int .i64 ee]) (by simp [results, Tryz.results12, go_sem, d0]) rfl P
    · obtain rfl : k = rs.length := by omega
      obtain ⟨s1, s2, s3⟩ := hrun.out.done
      have HS1 := Lib.hid s1
      have HS2 := Lib.hid s2
      have HS3 := Lib.hid s3
      have J2 := HII.out.rb
      have v0 : wr.cell? ⟨w.heap.size, 0, none⟩ = some (.slice A Lk.length c) := HII.out.fb.cell 0
      have s0 : wr.cell? ⟨w.heap.size + 1, 0, none⟩ = some (.slice none 0 0) := J2.cell 0
      have zs := J2.frozen 0
      have hlo := J2.lt
      have O : Only [w.heap.size + 1] wr (wr.setCell ⟨w.heap.size + 1, 0, none⟩ (.slice A Lk.length c)) := (Only.refl _ _).setCell (.inl (by simp)) _
      have R1 := J2.set_ 0 (.slice A Lk.length c)
      have hP : RcP w A0 (runL rs L) (runN rs L) (runE rs L) (.returned (.tuple #[.agg #[.slice A Lk.length c], .int .i64 rs.length, .int .i64 0])) (wr.setCell ⟨w.heap.size + 1, 0, none⟩ (.slice A Lk.length c)) := by
        refine ⟨A, c, by rw [HS1.out, HS2.out, HS3.out], ?_, O.kp HII.out.kp (by simp), HII.out.an.imp id (fun h a ha => ⟨by have := (h a ha).1; omega, by have := (h a ha).2; simpa [World.setCell] using this⟩)⟩
        rw [HS1.out]
        refine HII.out.rd.only O (fun a ha => ?_)
        simp only [List.mem_singleton]
        rcases HII.out.an with e | e
        · have := H0.out a (by rw [← e]; exact ha); omega
        · have := (e a ha).1; omega
      have HP := Lib.hid hP
      have HR1 := Lib.hid R1
      clear hP O R1 s1 s2 s3 I
      go_wp2_with fail
      have d0 := HR1.out.cell 0
      have P := HP.out
      generalize wr.setCell ⟨w.heap.size + 1, 0, none⟩ (.slice A Lk.length c) = Z at d0 P ⊢
      simp at d0
      exact bodyPost_ret (v := .tuple #[.agg #[.slice A Lk.length c], .int .i64 rs.length, .int .i64 0]) (by simp [results, Tryz.results12, go_sem, d0]) rfl P
end Go.Proofs.YtfaiponmjjbgoaaGreatDoor

/- FibComes' pieces: what stands behind a region that makes a box in an open order. -/
namespace Go.Proofs.YtfaiponmjjbgoaaGreatDoor
open Go.RowKit

/-- A list of routes as it came in: where it lies. -/
structure Sl where
  A : Option Addr
  c : Nat
  rs : List Rt
def Sl.enc (s : Sl) : List Value := [.slice s.A s.rs.length s.c]
theorem Sl.len (s : Sl) : s.enc.length = 1 := rfl
def Sl.good (w : World) (s : Sl) : Prop := Rd w 9 Rt.enc s.A s.rs ∧ ∀ r ∈ s.rs, r.fits
def adE (a : Nat) : List Value := [.int .u32 a]
theorem sl_at {w : World} {B : Option Addr} {ls : List Sl} (h : Rd w 1 Sl.enc B ls) {k : Nat} (hk : k < ls.length) :
    ∃ b off : Nat, B = some ⟨b, off, none⟩ ∧ w.cell? ⟨b, off + k, none⟩ = some (.slice ls[k].A ls[k].rs.length ls[k].c) := by
  obtain ⟨b, off, e, hc⟩ := h k hk
  exact ⟨b, off, e, by simpa using hc 0 _ rfl⟩
theorem ad_at {w : World} {B : Option Addr} {xs : List Nat} (h : Rd w 1 adE B xs) {k : Nat} (hk : k < xs.length) :
    ∃ b off : Nat, B = some ⟨b, off, none⟩ ∧ w.cell? ⟨b, off + k, none⟩ = some (.int .u32 xs[k]) := by
  obtain ⟨b, off, e, hc⟩ := h k hk
  exact ⟨b, off, e, by simpa using hc 0 _ rfl⟩

/-- The reference's list behind routes, wherever its block came to lie. -/
def RkQ (wr : World) (A0 : Option Addr) (l : List Hp) (n : Nat) (no : Int) (s8 s9 s10 : Value) (W : World) : Prop := ∃ g A c, s8 = .pointer (some ⟨g, 0, none⟩) ∧ s9 = .int .i64 n ∧ s10 = .int .i64 no ∧ Blk W g 35 #[.slice A l.length c] ∧ Rd W 6 Hp.enc A l ∧ Kp wr W ∧ (A = A0 ∨ ∀ a, A = some a → wr.heap.size ≤ a.block ∧ a.block < W.heap.size) ∧ wr.heap.size ≤ g
theorem RkQ.of {wr W : World} {A0 : Option Addr} {l : List Hp} {n : Nat} {no : Int} {s8 : Value} (h : RcQ wr A0 l no s8 (.int .i64 no) W) : RkQ wr A0 l n no s8 (.int .i64 n) (.int .i64 no) W := by
  obtain ⟨g, A, c, h1, _, h3, h4, h5, h6, h7⟩ := h
  exact ⟨g, A, c, h1, rfl, rfl, h3, h4, h5, h6, h7⟩
/-- A hop that was told, in a block of its own. -/
def HpQ (wr : World) (r : Hp × Bool) (s16 s17 : Value) (W : World) : Prop := ∃ g, s16 = .pointer (some ⟨g, 0, none⟩) ∧ s17 = .bool r.2 ∧ Blk W g 53 #[.int .u32 r.1.p.a, .int .i64 r.1.p.l, .bool r.1.d, .int .i64 r.1.f, .int .u32 r.1.x, .int .i64 r.1.m] ∧ Kp wr W ∧ wr.heap.size ≤ g
theorem HpQ.after {wr w6 : World} {r : Hp × Bool} (hK : Kp wr w6) : HpQ wr r (.pointer (some ⟨w6.heap.size, 0, none⟩)) (.bool r.2) (w6.alloc (.cells #[.int .u32 r.1.p.a, .int .i64 r.1.p.l, .bool r.1.d, .int .i64 r.1.f, .int .u32 r.1.x, .int .i64 r.1.m] 53)) :=
  ⟨w6.heap.size, rfl, rfl, Blk.new w6 _ _, hK.alloc _, hK.size⟩
theorem HpQ.ahead {wr X w6 : World} {r : Hp × Bool} (hX : Kp wr X) (hB : Blk X wr.heap.size 53 #[.int .u32 0, .int .i64 0, .bool false, .int .i64 0, .int .u32 0, .int .i64 0]) (hK : Kp X w6) : HpQ wr r (.pointer (some ⟨wr.heap.size, 0, none⟩)) (.bool r.2) (set6 w6 wr.heap.size 0 r.1) :=
  ⟨wr.heap.size, rfl, rfl, (hB.keep hK).set6 0 r.1 rfl, ((Only.refl [wr.heap.size] _).set6 (by simp) _ _).kp (hX.trans hK) (by simp), Nat.le_refl _⟩

section
variable {w : World} {f u : Nat} {W : World} {F : List Nat} {L0 L : List Hp} {A A' : Option Addr} {c c' : Nat}
theorem AlJ.put (h : AlJ w f u W F L0 L A c) (hR : Rd W 6 Hp.enc A' L) (hall : ∀ a, A' = some a → a.block < W.heap.size ∧ a.block ∉ F ∧ a.block ≠ u) : AlI w f u (W.setCell ⟨u, 0, none⟩ (.slice A' L.length c')) F L A' c' := by
  have O : Only [u] W (W.setCell ⟨u, 0, none⟩ (.slice A' L.length c')) := (Only.refl _ _).setCell (.inl (by simp)) _
  refine ⟨h.fm.only O (fun b hb => by simp; intro e; subst e; exact h.un hb), h.new, h.rels.only O ?_, h.gn, O.kp h.kp (by simp; exact h.uw), h.ub.set_ 0 _, h.un, h.uw, h.ug, hR.only O (fun a ha => by simp; exact (hall a ha).2.2), fun a ha => ⟨?_, (hall a ha).2⟩⟩
  · simp only [List.mem_singleton]
    exact fun e => h.ug e.symm
  · simpa [World.setCell] using (hall a ha).1
end
theorem FM.oks {w : World} {f : Nat} {F : List Nat} {L : List Hp} (h : FM w f F L) : ∀ e ∈ L, e.p.ok := by
  obtain ⟨tr, t, A, c, H, _, m, u, pm⟩ := h
  exact fun e he => m.oks e (pm.mem_iff.2 he)
end Go.Proofs.YtfaiponmjjbgoaaGreatDoor

/- FibComes: whatever the routes and the addresses, the law returns true, and what was there stands. -/
namespace Go.Proofs.YtfaiponmjjbgoaaGreatDoor
open Go.RowKit
attribute [local go_sem] Oper.semAt_some
def CmAll (w : World) (f u : Nat) (W : World) : Prop := ∃ F L A c, AlI w f u W F L A c

set_option maxRecDepth 100000 in
set_option maxHeartbeats 8000000 in
theorem comes_walk (B : Option Addr) (d : Nat) (ls : List Sl) (T : Option Addr) (e0 : Nat) (ts : List Nat) (w : World) (hG : RelsAt w) (hL : Rd w 1 Sl.enc B ls) (hls : ∀ s ∈ ls, s.good w) (hT : Rd w 1 adE T ts) (hts : ∀ a ∈ ts, a < 4294967296) (hn : ls.length ≤ 6) (hm : ts.length ≤ 20) :
    Calls Tryz.prog 4 #[.slice B ls.length d, .slice T ts.length e0] w fun e w' => e = .returned (.bool true) ∧ Kp w w' := by
  have HG := Lib.hid hG
  have HL := Lib.hid hL
  have Hls := Lib.hid hls
  have HT := Lib.hid hT
  have Hts := Lib.hid hts
  clear hG hL hls hT hts
  have d1 : decide ((6 : Int) < ls.length) = false := by simp; omega
  have d1' : decide (6 < ls.length) = false := by simp; omega
  have d2 : decide ((20 : Int) < ts.length) = false := by simp; omega
  have d2' : decide (20 < ts.length) = false := by simp; omega
  go_enter Tryz.func4, Tryz.ntmps4
  go_wp2_with fail
  refine (fnew_any w).mono ?_
  rintro e w1 ⟨f, F0, rfl, hM, hK, hF⟩
  have hlF := hM.lt
  have hgl := rels_lt HG.out
  have hI : CmAll w f w1.heap.size (w1.alloc (.cells #[.slice none 0 0] 35)) :=
    ⟨F0, [], none, 0, ⟨hM.keep ((Kp.refl _).alloc _), hF, HG.out.keep (hK.alloc _), fun hc => by have := hF _ hc; omega, hK.alloc _, Blk.new w1 _ _, fun hc => by have := hlF _ hc; omega, hK.size, by have := hK.size; omega, Rd.nil _ _ _ _, fun a ha => by cases ha⟩⟩
  have HI := Lib.hid hI
  clear hM hK hF hlF hI hgl d1 d1' d2 d2'
  go_wp2_with fail
  go_loopw [7] (fun i wr => ∃ k : Nat, k ≤ ls.length ∧ i = .int .i64 k ∧ Hid (CmAll w f w1.heap.size wr)) (fun i _ => ls.length - (intOf i).toNat)
  case atStart => exact ⟨0, Nat.zero_le _, rfl, HI⟩
  case round =>
    obtain ⟨k, hk, rfl, hA⟩ := hrel
    obtain ⟨F, L, A1, c1, I⟩ := hA.out
    have HII := Lib.hid I
    clear HI hA
    by_cases hlt : k < ls.length
    · obtain ⟨b, off, hb, x0⟩ := sl_at (HL.out.keep I.kp) hlt
      subst hb
      obtain ⟨s, hs⟩ : ∃ s, ls[k] = s := ⟨_, rfl⟩
      rw [hs] at x0
      have HLb : Hid (b < w.heap.size) := Lib.hid (World.block_lt_of_cell? w _ (sl_at HL.out hlt |> fun ⟨b', off', e', h'⟩ => by injection e' with e'; injection e' with e1 e2; subst e1 e2; exact h'))
      have hsg := Hls.out s (by rw [← hs]; exact List.getElem_mem _)
      clear hs I
      obtain ⟨sA, sc, rs⟩ := s
      simp only at x0
      obtain ⟨hsR, hsF⟩ := hsg
      simp only at hsR hsF
      have HsR := Lib.hid hsR
      have HsF := Lib.hid hsF
      clear hsR hsF
      by_cases hl12 : rs.length ≤ 12
      · have d3 : decide ((12 : Int) < rs.length) = false := by simp; omega
        have d3' : decide (12 < rs.length) = false := by simp; omega
        have u0 : wr.cell? ⟨w1.heap.size, 0, none⟩ = some (.slice A1 L.length c1) := HII.out.ub.cell 0
        have hup := HII.out.fm.up
        obtain ⟨hupL, hlnL⟩ := hup
        have HupL := Lib.hid hupL
        clear hupL
        have h0A : Hid (∀ a, A1 = some a → a.block < wr.heap.size) := fun a ha => (HII.out.an a ha).1
        go_upto_region 9 with (fail)
        go_cut [8, 9, 10] from 47 to 56 (fun s8 s9 s10 wx => RkQ wr A1 (runL rs L) (runN rs L) (runE rs L) s8 s9 s10 wx)
        case first =>
          have al : ∀ o, Kp wr (wr.alloc o) := fun o => (Kp.refl wr).alloc o
          have u1 : ∀ o, (wr.alloc o).cell? ⟨w1.heap.size, 0, none⟩ = some (.slice A1 L.length c1) := fun o => (al o).cell u0
          have y0 : ∀ o, (wr.alloc o).cell? ⟨b, off + k, none⟩ = some (.slice sA rs.length sc) := fun o => (al o).cell x0
          have Hal := Lib.hid al
          have h0D : Hid (∀ a, A1 = some a → a.block < wr.drew.heap.size) := h0A
          have hr12 : Hid (rs.length ≤ 1000000) := Lib.hid (by omega)
          clear al
          go_region_with (go_at_call 12; (first | ((with_reducible refine (rcome_any A1 c1 L sA sc rs _ (HII.out.rd.keep (Kp.refl wr).drew) h0D.out hlnL HupL.out (HsR.out.keep (HII.out.kp.trans (Kp.refl wr).drew)) HsF.out hr12.out).mono ?_); rintro e w6 ⟨A2, c2, rfl, hR2, hK2, hA2⟩; have HQ := Lib.hid (RkQ.of (n := runN rs L) (RcQ.after (n := runE rs L) (c := c2) hR2 ((Kp.refl wr).drew.trans hK2) hA2)); clear hR2 hA2) | ((with_reducible refine (rcome_any A1 c1 L sA sc rs _ (HII.out.rd.keep (Hal.out _).drew) (fun a ha => Nat.lt_of_lt_of_le (h0A.out a ha) (Hal.out _).drew.size) hlnL HupL.out (HsR.out.keep (HII.out.kp.trans (Hal.out _).drew)) HsF.out hr12.out).mono ?_); rintro e w6 ⟨A2, c2, rfl, hR2, hK2, hA2⟩; have HQ := Lib.hid (RkQ.of (n := runN rs L) (RcQ.ahead (n := runE rs L) (c := c2) h0A.out (Hal.out _).drew (by simp) (Blk.new wr _ _).drew hR2 hK2 hA2)); have Bg := (Blk.new wr 35 #[.slice none 0 0]).drew.keep hK2; have cg := Bg.cell 0; have zg := Bg.frozen 0; clear hR2 hA2)))
          all_goals
            go_wp2_with fail
            go_meet
            case rel => exact HQ.out
        case rest =>
        obtain ⟨g, A2, c2, rfl, rfl, rfl, hBg, hR2, hK2, hA2, hg⟩ := hcut
        have HR2 := Lib.hid hR2
        have HA2 := Lib.hid hA2
        have HBg := Lib.hid hBg
        have I2 := Lib.hid (HII.out.keep hK2)
        have x2 := hK2.cell x0
        have hlF := HII.out.fm.lt
        have HlF := Lib.hid hlF
        have huw := HII.out.ub.lt
        clear u0 x0 d3 d3' hR2 hA2 hBg hlF
        go_wp2_with fail
        refine (Come_any f F L rs sA sc wc I2.out.rels I2.out.gn I2.out.fm (HsR.out.keep I2.out.kp) (fun h a ha hc => by have h1 := I2.out.new _ hc; have h2 := HsR.out.lt h (fun x => by simp [Rt.enc]) a ha; omega) (by omega) HsF.out).mono ?_
        rintro e w5 ⟨rfl, hT⟩
        obtain ⟨F5, hJ, hO, hS⟩ := I2.out.come hT
        have hgF : g ∉ F := fun hc => by have := HlF.out _ hc; omega
        have B5 := HBg.out.only hO hgF
        have hR5 : Rd w5 6 Hp.enc A2 (runL rs L) := HR2.out.only hO (fun a ha hc => by
          rcases HA2.out with e | e
          · rw [e] at ha; exact (HII.out.an a ha).2.1 hc
          · have := (e a ha).1; have := HlF.out _ hc; omega)
        have hall : ∀ a, A2 = some a → a.block < w5.heap.size ∧ a.block ∉ F5 ∧ a.block ≠ w1.heap.size := fun a ha => by
          rcases HA2.out with e | e
          · rw [e] at ha; exact hJ.an a ha
          · have h1 := e a ha
            refine ⟨Nat.lt_of_lt_of_le h1.2 hO.size, fun hc => ?_, by omega⟩
            rcases hS _ hc with h2 | h2
            · have := HlF.out _ h2; omega
            · omega
        have I6 := hJ.put (c' := c2) hR5 hall
        have cg : w5.cell? ⟨g, 0, none⟩ = some (.slice A2 (runL rs L).length c2) := B5.cell 0
        have cu : w5.cell? ⟨w1.heap.size, 0, none⟩ = some (.slice A1 L.length c1) := hJ.ub.cell 0
        have zu := hJ.ub.frozen 0
        have x5 := hO.cell x2 (fun hc => by have h1 := I2.out.new _ hc; have h2 := World.block_lt_of_cell? _ _ x2; have h3 := HLb.out; simp only at h3 h1; omega)
        obtain ⟨L', hL'⟩ : ∃ L', runL rs L = L' := ⟨_, rfl⟩
        obtain ⟨n, hnn⟩ : ∃ n, runN rs L = n := ⟨_, rfl⟩
        obtain ⟨no, hno⟩ : ∃ no, runE rs L = no := ⟨_, rfl⟩
        rw [hL'] at cg I6
        rw [hnn, hno]
        obtain ⟨w6, hw6⟩ : ∃ w6, w5.setCell ⟨w1.heap.size, 0, none⟩ (.slice A2 L'.length c2) = w6 := ⟨_, rfl⟩
        rw [hw6] at I6
        have x6 : w6.cell? ⟨b, off + k, none⟩ = some (.slice sA rs.length sc) := by
          rw [← hw6]
          exact ((Only.refl [w1.heap.size] w5).setCell (.inl (by simp)) _).cell x5 (by have h3 := HLb.out; have h4 := HII.out.uw; simp only [List.mem_singleton] at *; omega)
        have HI6 := Lib.hid I6
        have H6w := Lib.hid hw6
        clear hT hJ hO hS hgF B5 hR5 hall x2 x5 hL' hnn hno I6 HR2 HA2 HBg hw6
        go_wp2_with fail
        refine (num_any no _).mono ?_
        rintro e w' ⟨rfl, rfl⟩
        have c6 : (w5.setCell ⟨w1.heap.size, 0, none⟩ (.slice A2 L'.length c2)).cell? ⟨w1.heap.size, 0, none⟩ = some (.slice A2 L'.length c2) := by rw [H6w.out]; exact HI6.out.ub.cell 0
        clear cg cu zu
        go_wp2_with fail
        rw [H6w.out] at c6 ⊢
        refine (is_any f F5 L' A2 c2 w6 HI6.out.fm HI6.out.rd).mono ?_
        rintro e w7 ⟨rfl, hK7⟩
        have HI7 := Lib.hid (HI6.out.keep hK7)
        have x7 := hK7.cell x6
        clear c6 x6 H6w
        obtain ⟨hup7, hln7⟩ := HI7.out.fm.up
        have Hup7 := Lib.hid hup7
        clear hup7
        go_upto_block 2 with (fail)
        go_cut [13, 14, 15, 16, 17] from 82 to 113 (fun _ _ _ _ _ wx => Kp w7 wx)
        case first =>
          go_wp2_with fail
          go_loopw [13] (fun i wx => ∃ j : Nat, j ≤ ts.length ∧ i = .int .i64 j ∧ Hid (Kp w7 wx)) (fun i _ => ts.length - (intOf i).toNat)
          case atStart => exact ⟨0, Nat.zero_le _, rfl, Kp.refl _⟩
          case round =>
            obtain ⟨j, hj, rfl, hKx⟩ := hrel
            have HIx := Lib.hid (HI7.out.keep hKx.out)
            by_cases hjt : j < ts.length
            · obtain ⟨tb, toff, htb, t0⟩ := ad_at (HT.out.keep HIx.out.kp) hjt
              subst htb
              obtain ⟨a, haa⟩ : ∃ a, ts[j] = a := ⟨_, rfl⟩
              have hal := Hts.out a (by rw [← haa]; exact List.getElem_mem _)
              rw [haa] at t0
              clear haa
              have Hres := Lib.hid (fFind_any f F5 L' a)
              have Hrer := Lib.hid (fun w hR => rfind_any A2 c2 L' a w hR (by omega) hal Hup7.out HIx.out.fm.oks)
              obtain ⟨⟨y, yb⟩, hy⟩ : ∃ y, foundH a L' = y := ⟨_, rfl⟩
              rw [hy] at Hres Hrer
              clear hy
              go_wp2_with fail
              refine (Hres.out _ HIx.out.rels HIx.out.fm hal).mono ?_
              rintro e wf ⟨rfl, hKf⟩
              unfold hopV
              obtain ⟨wg, hwg, kg, Bg1⟩ : ∃ wg, wf.alloc (.cells #[.int .u32 y.p.a, .int .i64 y.p.l, .bool y.d, .int .i64 y.f, .int .u32 y.x, .int .i64 y.m] 53) = wg ∧ Kp wf wg ∧ Blk wg wf.heap.size 53 #[.int .u32 y.p.a, .int .i64 y.p.l, .bool y.d, .int .i64 y.f, .int .u32 y.x, .int .i64 y.m] := ⟨_, rfl, (Kp.refl _).alloc _, Blk.new wf _ _⟩
              go_upto_region 18 with (fail)
              have HIg := Lib.hid (HIx.out.keep (hKf.trans kg))
              have u9 : wg.cell? ⟨w1.heap.size, 0, none⟩ = some (.slice A2 L'.length c2) := HIg.out.ub.cell 0
              have t9 : wg.cell? ⟨tb, toff + j, none⟩ = some (.int .u32 a) := (hKf.trans kg).cell t0

              go_cut [16, 17] from 97 to 105 (fun s16 s17 wx => HpQ wg (y, yb) s16 s17 wx)
              case first =>
                have al : ∀ o, Kp wg (wg.alloc o) := fun o => (Kp.refl wg).alloc o
                have u1 : ∀ o, (wg.alloc o).cell? ⟨w1.heap.size, 0, none⟩ = some (.slice A2 L'.length c2) := fun o => (al o).cell u9
                have t1 : ∀ o, (wg.alloc o).cell? ⟨tb, toff + j, none⟩ = some (.int .u32 a) := fun o => (al o).cell t9
                have Hal := Lib.hid al
                clear al
                go_region_with (go_at_call 16; (first | ((with_reducible refine (Hrer.out _ (HIg.out.rd.keep (Kp.refl wg).drew)).mono ?_); rintro e w9 ⟨rfl, hK9⟩; unfold hopV; have HQ := Lib.hid (HpQ.after (r := (y, yb)) ((Kp.refl wg).drew.trans hK9))) | ((with_reducible refine (Hrer.out _ (HIg.out.rd.keep (Hal.out _).drew)).mono ?_); rintro e w9 ⟨rfl, hK9⟩; unfold hopV; have HQ := Lib.hid (HpQ.ahead (r := (y, yb)) (Hal.out _).drew (Blk.new wg _ _).drew hK9); have Bq := (Blk.new wg 53 #[.int .u32 0, .int .i64 0, .bool false, .int .i64 0, .int .u32 0, .int .i64 0]).drew.keep hK9; have q0 := Bq.cell 0; have q1 := Bq.cell 1; have q2 := Bq.cell 2; have q3 := Bq.cell 3; have q4 := Bq.cell 4; have q5 := Bq.cell 5; have v0 := Bq.frozen 0; have v1 := Bq.frozen 1; have v2 := Bq.frozen 2; have v3 := Bq.frozen 3; have v4 := Bq.frozen 4; have v5 := Bq.frozen 5)))
                all_goals
                  go_wp2_with fail
                  go_meet
                  case rel => exact HQ.out
              case rest =>
              obtain ⟨gq, rfl, rfl, hB2, hK9, hg2⟩ := hcut
              have Bz := Bg1.keep hK9
              have g0 : wc.cell? ⟨wf.heap.size, 0, none⟩ = some (.int .u32 y.p.a) := Bz.cell 0
              have g1 : wc.cell? ⟨wf.heap.size, 1, none⟩ = some (.int .i64 y.p.l) := Bz.cell 1
              have g2 : wc.cell? ⟨wf.heap.size, 2, none⟩ = some (.bool y.d) := Bz.cell 2
              have g3 : wc.cell? ⟨wf.heap.size, 3, none⟩ = some (.int .i64 y.f) := Bz.cell 3
              have g4 : wc.cell? ⟨wf.heap.size, 4, none⟩ = some (.int .u32 y.x) := Bz.cell 4
              have g5 : wc.cell? ⟨wf.heap.size, 5, none⟩ = some (.int .i64 y.m) := Bz.cell 5
              have r0 : wc.cell? ⟨gq, 0, none⟩ = some (.int .u32 y.p.a) := hB2.cell 0
              have r1 : wc.cell? ⟨gq, 1, none⟩ = some (.int .i64 y.p.l) := hB2.cell 1
              have r2 : wc.cell? ⟨gq, 2, none⟩ = some (.bool y.d) := hB2.cell 2
              have r3 : wc.cell? ⟨gq, 3, none⟩ = some (.int .i64 y.f) := hB2.cell 3
              have r4 : wc.cell? ⟨gq, 4, none⟩ = some (.int .u32 y.x) := hB2.cell 4
              have r5 : wc.cell? ⟨gq, 5, none⟩ = some (.int .i64 y.m) := hB2.cell 5

              have hne : ∀ w, (binOp .neq 53 (.agg #[.int .u32 y.p.a, .int .i64 y.p.l, .bool y.d, .int .i64 y.f, .int .u32 y.x, .int .i64 y.m]) (.agg #[.int .u32 y.p.a, .int .i64 y.p.l, .bool y.d, .int .i64 y.f, .int .u32 y.x, .int .i64 y.m])).run Tryz.prog w = .ok (.bool false) w := fun w => by
                have := hopV_ne w y y
                unfold hopV at this
                simpa using this
              have Kend : Hid (Kp w7 wc) := Lib.hid (((hKx.out.trans hKf).trans kg).trans hK9)
              clear u9 hwg
              go_wp2_with fail
              go_roundw
              case rel => exact ⟨j + 1, by omega, by go_num, Kend⟩
              case measure => simp [intOf]; omega

            · obtain rfl : j = ts.length := by omega
              go_wp2_with fail
              go_meet
              case rel => exact hKx.out

        case rest =>
        have Kc := hcut
        clear hcut
        have HI8 := Lib.hid (HI7.out.keep Kc)
        have x8 := Kc.cell x7
        obtain ⟨w8, hw8⟩ : ∃ w8, w8 = wc := ⟨_, rfl⟩
        rw [← hw8] at HI8 x8 ⊢
        clear Kc hw8 x7
        go_wp2_with fail
        go_loopw [18] (fun i wx => ∃ j : Nat, j ≤ rs.length ∧ i = .int .i64 j ∧ Hid (Kp w8 wx)) (fun i _ => rs.length - (intOf i).toNat)
        case atStart => exact ⟨0, Nat.zero_le _, rfl, Kp.refl _⟩
        case round =>
            obtain ⟨j, hj, rfl, hKx⟩ := hrel
            have HIx := Lib.hid (HI8.out.keep hKx.out)
            have xx := hKx.out.cell x8
            by_cases hjt : j < rs.length
            · obtain ⟨tb, toff, htb, t0, t1, _⟩ := rt_at (HsR.out.keep HIx.out.kp) hjt
              subst htb
              obtain ⟨p, hpp⟩ : ∃ p : PI, rs[j].p = p := ⟨_, rfl⟩
              have hal := (HsF.out rs[j] (List.getElem_mem _)).1
              rw [hpp] at t0 t1 hal
              clear hpp
              have Hres := Lib.hid (fGet_any f F5 L' p)
              have Hrer := Lib.hid (fun w hR => rget_any A2 c2 L' p w hR (by omega))
              obtain ⟨⟨y, yb⟩, hy⟩ : ∃ y, getI p L' = y := ⟨_, rfl⟩
              rw [hy] at Hres Hrer
              clear hy
              go_wp2_with fail
              refine (Hres.out _ HIx.out.rels HIx.out.fm hal).mono ?_
              rintro e wf ⟨rfl, hKf⟩
              unfold hopV
              obtain ⟨wg, hwg, kg, Bg1⟩ : ∃ wg, wf.alloc (.cells #[.int .u32 y.p.a, .int .i64 y.p.l, .bool y.d, .int .i64 y.f, .int .u32 y.x, .int .i64 y.m] 53) = wg ∧ Kp wf wg ∧ Blk wg wf.heap.size 53 #[.int .u32 y.p.a, .int .i64 y.p.l, .bool y.d, .int .i64 y.f, .int .u32 y.x, .int .i64 y.m] := ⟨_, rfl, (Kp.refl _).alloc _, Blk.new wf _ _⟩
              go_upto_region 25 with (fail)
              have HIg := Lib.hid (HIx.out.keep (hKf.trans kg))
              have u9 : wg.cell? ⟨w1.heap.size, 0, none⟩ = some (.slice A2 L'.length c2) := HIg.out.ub.cell 0
              have t9 : wg.cell? ⟨tb, toff + j * 9, none⟩ = some (.int .u32 p.a) := (hKf.trans kg).cell t0
              have t8 : wg.cell? ⟨tb, toff + j * 9 + 1, none⟩ = some (.int .i64 p.l) := (hKf.trans kg).cell t1
              have xg := (hKf.trans kg).cell xx

              go_cut [21, 22] from 136 to 148 (fun s16 s17 wx => HpQ wg (y, yb) s16 s17 wx)
              case first =>
                have al : ∀ o, Kp wg (wg.alloc o) := fun o => (Kp.refl wg).alloc o
                have u1 : ∀ o, (wg.alloc o).cell? ⟨w1.heap.size, 0, none⟩ = some (.slice A2 L'.length c2) := fun o => (al o).cell u9
                have t91 : ∀ o, (wg.alloc o).cell? ⟨tb, toff + j * 9, none⟩ = some (.int .u32 p.a) := fun o => (al o).cell t9
                have t81 : ∀ o, (wg.alloc o).cell? ⟨tb, toff + j * 9 + 1, none⟩ = some (.int .i64 p.l) := fun o => (al o).cell t8
                have xg1 : ∀ o, (wg.alloc o).cell? ⟨b, off + k, none⟩ = some (.slice (some ⟨tb, toff, none⟩) rs.length sc) := fun o => (al o).cell xg
                have Hal := Lib.hid al
                clear al
                go_region_with (go_at_call 18; (first | ((with_reducible refine (Hrer.out _ (HIg.out.rd.keep (Kp.refl wg).drew)).mono ?_); rintro e w9 ⟨rfl, hK9⟩; unfold hopV; have HQ := Lib.hid (HpQ.after (r := (y, yb)) ((Kp.refl wg).drew.trans hK9))) | ((with_reducible refine (Hrer.out _ (HIg.out.rd.keep (Hal.out _).drew)).mono ?_); rintro e w9 ⟨rfl, hK9⟩; unfold hopV; have HQ := Lib.hid (HpQ.ahead (r := (y, yb)) (Hal.out _).drew (Blk.new wg _ _).drew hK9); have Bq := (Blk.new wg 53 #[.int .u32 0, .int .i64 0, .bool false, .int .i64 0, .int .u32 0, .int .i64 0]).drew.keep hK9; have q0 := Bq.cell 0; have q1 := Bq.cell 1; have q2 := Bq.cell 2; have q3 := Bq.cell 3; have q4 := Bq.cell 4; have q5 := Bq.cell 5; have v0 := Bq.frozen 0; have v1 := Bq.frozen 1; have v2 := Bq.frozen 2; have v3 := Bq.frozen 3; have v4 := Bq.frozen 4; have v5 := Bq.frozen 5)))
                all_goals
                  go_wp2_with fail
                  go_meet
                  case rel => exact HQ.out
              case rest =>
              obtain ⟨gq, rfl, rfl, hB2, hK9, hg2⟩ := hcut
              have Bz := Bg1.keep hK9
              have g0 : wc.cell? ⟨wf.heap.size, 0, none⟩ = some (.int .u32 y.p.a) := Bz.cell 0
              have g1 : wc.cell? ⟨wf.heap.size, 1, none⟩ = some (.int .i64 y.p.l) := Bz.cell 1
              have g2 : wc.cell? ⟨wf.heap.size, 2, none⟩ = some (.bool y.d) := Bz.cell 2
              have g3 : wc.cell? ⟨wf.heap.size, 3, none⟩ = some (.int .i64 y.f) := Bz.cell 3
              have g4 : wc.cell? ⟨wf.heap.size, 4, none⟩ = some (.int .u32 y.x) := Bz.cell 4
              have g5 : wc.cell? ⟨wf.heap.size, 5, none⟩ = some (.int .i64 y.m) := Bz.cell 5
              have r0 : wc.cell? ⟨gq, 0, none⟩ = some (.int .u32 y.p.a) := hB2.cell 0
              have r1 : wc.cell? ⟨gq, 1, none⟩ = some (.int .i64 y.p.l) := hB2.cell 1
              have r2 : wc.cell? ⟨gq, 2, none⟩ = some (.bool y.d) := hB2.cell 2
              have r3 : wc.cell? ⟨gq, 3, none⟩ = some (.int .i64 y.f) := hB2.cell 3
              have r4 : wc.cell? ⟨gq, 4, none⟩ = some (.int .u32 y.x) := hB2.cell 4
              have r5 : wc.cell? ⟨gq, 5, none⟩ = some (.int .i64 y.m) := hB2.cell 5

              have hne : ∀ w, (binOp .neq 53 (.agg #[.int .u32 y.p.a, .int .i64 y.p.l, .bool y.d, .int .i64 y.f, .int .u32 y.x, .int .i64 y.m]) (.agg #[.int .u32 y.p.a, .int .i64 y.p.l, .bool y.d, .int .i64 y.f, .int .u32 y.x, .int .i64 y.m])).run Tryz.prog w = .ok (.bool false) w := fun w => by
                have := hopV_ne w y y
                unfold hopV at this
                simpa using this
              have Kend : Hid (Kp w8 wc) := Lib.hid (((hKx.out.trans hKf).trans kg).trans hK9)
              clear u9 hwg
              go_wp2_with fail
              go_roundw
              case rel => exact ⟨j + 1, by omega, by go_num, Kend⟩
              case measure => simp [intOf]; omega

            · obtain rfl : j = rs.length := by omega
              go_wp2_with fail
              go_roundw
              case rel => exact ⟨k + 1, by omega, by go_num, Lib.hid ⟨F5, L', A2, c2, HIx.out⟩⟩
              case measure => simp [intOf]; omega
      · have d3 : decide ((12 : Int) < rs.length) = true := by simp; omega
        have d3' : decide (12 < rs.length) = true := by simp; omega
        go_wp2_with fail
        refine (works_any _ HII.out.rels).mono ?_
        rintro e w' ⟨rfl, hK⟩
        go_wp2_with fail
        go_ret
        exact ⟨rfl, HII.out.kp.trans hK⟩
    · obtain rfl : k = ls.length := by omega
      go_wp2_with fail
      refine (works_any _ HII.out.rels).mono ?_
      rintro e w' ⟨rfl, hK⟩
      go_wp2_with fail
      go_ret
      exact ⟨rfl, HII.out.kp.trans hK⟩
end Go.Proofs.YtfaiponmjjbgoaaGreatDoor

/- The row of a law: what its walk gives, closed as the row asks it. No condition. -/
namespace Go.Proofs.YtfaiponmjjbgoaaGreatDoor
open Go.ChangeShapes Go.WideShapes Go.ChangeAt Go.RowKit Go.Joins Go.Deep

theorem Tryz.own : ownKnob Tryz.prog.godebug = none := by kernel_rfl
theorem Tryz.laidOut : laidOutB Tryz.prog = true := by kernel_rfl

section
variable {H : Type} {enc : TypeId × Value → H}

theorem trodAll_kp {W W' : World} (hK : Kp W W') {sp : Nat → Bool} : ∀ {ts : List TypeId} {vs : List Value} {ds : List (DataW H)} {ps : List MemPlace},
    (∀ t ∈ ts, Tryz.prog.readableRec t = true ∧ t < Tryz.prog.types.size) → (∀ p ∈ ps, p.block < W.heap.size) → (∀ p ∈ ps, sp p.block = true) →
    DataW.TrodAll enc Tryz.prog W 0 (fun _ => true) true ts vs ds ps → DataW.TrodAll enc Tryz.prog W' 0 sp true ts vs ds ps
  | [], [], [], _, _, _, _, h => h
  | [], _ :: _, _, _, _, _, _, h => h.elim
  | [], [], _ :: _, _, _, _, _, h => h.elim
  | _ :: _, [], _, _, _, _, _, h => h.elim
  | _ :: _, _ :: _, [], _, _, _, _, h => h.elim
  | t :: ts, v :: vs, d :: ds, ps, hr, hlt, hsp, ⟨p, q, h1, h2, e⟩ => by
    subst e
    refine ⟨p, q, ?_, trodAll_kp hK (fun t ht => hr t (by simp [ht])) (fun x hx => hlt x (by simp [hx])) (fun x hx => hsp x (by simp [hx])) h2, rfl⟩
    exact WideElems.Trod_stays Tryz.laidOut (hr t (by simp)).1 (hr t (by simp)).2 h1 (fun x hx => Below.same hK (hlt x (by simp [hx]))) (fun x hx => hsp x (by simp [hx]))

set_option maxRecDepth 100000 in
/-- A law's walk has come to true, and what was there stands: the row's post. -/
theorem law_post {f : Func} {s : ChangeSpec} {apart fresh handsOn again : Bool} {W W' : World} {args : Array Value} {ds : List (DataW H)} {before : List MemPlace}
    (hW : DataW.Whole enc Tryz.prog f.params.toList s.vars apart W args.toList ds [] before) (hv : s.vars = []) (hres : f.resultTypes = #[4])
    (h1 : (s.fn H (ds ++ [])).results = [.lit (.bool true)]) (h2 : (s.fn H (ds ++ [])).args = ds) (h3 : (s.fn H (ds ++ [])).vars = [])
    (hr : ∀ t ∈ f.params.toList, Tryz.prog.readableRec t = true ∧ t < Tryz.prog.types.size) (hK : Kp W W') :
    s.post enc Tryz.prog f apart fresh handsOn again W args (.bool true) W' := by
  have hW' := hW
  obtain ⟨p, q, hA, hV, he, hz, hn⟩ := hW'
  rw [hv] at hV
  obtain ⟨_, rfl⟩ := trodVars_none hV
  rw [List.append_nil] at he
  obtain rfl : p = before := he.symm
  have hlt : ∀ x ∈ p, x.block < W.heap.size := fun x hx => hW.lt x (by simpa using hx)
  have hold : ∀ x ∈ p, (fun b => decide (b < W.heap.size)) x.block = true := fun x hx => by simpa using hlt x hx
  have hresults : ∀ (b : Nat) (sp : Nat → Bool) (hd : Bool), DataW.TrodAll enc Tryz.prog W' b sp hd f.resultTypes.toList ((Value.bool true).resultList f.resultTypes.size) (s.fn H (ds ++ [])).results [] := by
    intro b sp hd
    rw [hres, h1]
    exact trodAll_mk1 (shut_bool Tryz.underlying4 true)
  have hargs : ∀ sp : Nat → Bool, (∀ x ∈ p, sp x.block = true) → DataW.TrodAll enc Tryz.prog W' 0 sp true f.params.toList args.toList (s.fn H (ds ++ [])).args p := by
    intro sp hsp
    rw [h2]
    exact trodAll_kp hK hr hlt hsp hA
  have hvars : ∀ sp : Nat → Bool, DataW.TrodVars enc Tryz.prog W' sp s.vars (s.fn H (ds ++ [])).vars [] := by
    intro sp; rw [hv, h3]; rfl
  refine ⟨ds, [], p, [], p, [], hW, hresults _ _ _, hargs _ hold, hvars _, World.keptBut_mono (fun x hx => ⟨hx, ?_⟩) (Below.frame hK (· ∈ p)), fun _ => ?_⟩
  · exact Or.inr (by simpa using hx)
  · refine ⟨?_, _, _, ([] ++ p) ++ [], ⟨[] ++ p, [], trodAll_append (hargs _ (fun _ _ => rfl)) (hresults _ _ _), hvars _, rfl, ?_, ?_⟩, ?_⟩
    · exact ok_one hres rfl (okWide_bool_mk Tryz.underlying4 true)
    · intro b off hp
      have hin : MemPlace.cell b off ∈ p := by simpa using hp
      rw [Below.frozen hK (hlt _ hin)]
      exact hz b off (by simpa using hin)
    · intro ha
      simpa using hn ha
    · intro x hx _
      simpa using hx

/-- A slice that came in, read as a list. -/
theorem rd_of_slice {α : Type} {W : World} {fuel : Nat} {v : Value} {x : DataW H × List MemPlace} {t e sz : Nat} (enc' : α → List Value) (good : α → Prop) (henc : ∀ y, (enc' y).length = sz) (ht : Tryz.prog.underlying t = some (.slice e)) (hsz : Tryz.prog.cellsOf e = sz) (hs0 : 0 < sz)
    (hel : ∀ (cs : List Value) (n : Nat) (x : DataW H × List MemPlace), DataW.trod enc Tryz.prog W 0 (fun _ => true) true n e cs = some x → ∃ y, cs = enc' y ∧ good y)
    (h : DataW.trod enc Tryz.prog W 0 (fun _ => true) true fuel t [v] = some x) : ∃ A c ys, v = .slice A ys.length c ∧ ys.length ≤ maxLen ∧ Rd W sz enc' A ys ∧ ∀ y ∈ ys, good y := by
  rcases open_slice ht h with ⟨hc, _⟩ | ⟨a, len, cap, m, n, D, Pl, hc, _, hl, hm, hmm, _, hi⟩
  · exact ⟨none, 0, [], by simpa using hc, by simp, Rd.nil _ _ _ _, by simp⟩
  · simp only [if_true] at hmm
    subst hmm
    rw [hsz] at hi
    by_cases h0 : len = 0
    · subst h0
      exact ⟨some a, m, [], by simpa using hc, by simp, Rd.nil _ _ _ _, by simp⟩
    have key : ∀ i, i < len → ∃ y, good y ∧ ∀ j u, (enc' y)[j]? = some u → W.cell? (a.add (i * sz + j)) = some u := by
      intro i hi'
      obtain ⟨cs', hcs, htr⟩ := hi i (by omega)
      obtain ⟨y, rfl, hg⟩ := hel cs' n _ htr
      obtain ⟨_, hlen, hat⟩ := World.cells?_some hcs
      refine ⟨y, hg, fun j u hu => ?_⟩
      have hj : j < sz := by have := (List.getElem?_eq_some_iff.1 hu).1; rw [henc] at this; exact this
      have := hat j hj
      rw [Go.Deep.add_add] at this
      rw [this, hu]
    obtain ⟨y0, hg0, hy0⟩ := key 0 (by omega)
    have hf : ∃ f : Nat → α, ∀ i, i < len → good (f i) ∧ ∀ j u, (enc' (f i))[j]? = some u → W.cell? (a.add (i * sz + j)) = some u := by
      refine ⟨fun i => if hi' : i < len then Classical.choose (key i hi') else y0, fun i hi' => ?_⟩
      simp only [hi', dif_pos]
      exact Classical.choose_spec (key i hi')
    obtain ⟨f, hf⟩ := hf
    have hsp : ∃ b off, a = ⟨b, off, none⟩ := by
      have h1 : 0 < (enc' (f 0)).length := by rw [henc]; exact hs0
      have := (hf 0 (by omega)).2 0 _ (List.getElem?_eq_getElem h1)
      simp only [Nat.zero_mul, Nat.add_zero] at this
      have h2 := World.cell?_spot this
      obtain ⟨b, off, spot⟩ := a
      simp [Addr.add] at h2
      subst h2
      exact ⟨b, off, rfl⟩
    obtain ⟨b, off, rfl⟩ := hsp
    refine ⟨some ⟨b, off, none⟩, m, (List.range len).map f, by simpa using hc, by simp; omega, ?_, ?_⟩
    · intro i hi'
      have hi2 : i < len := by simpa using hi'
      refine ⟨b, off, rfl, fun j u hu => ?_⟩
      have := (hf i hi2).2 j u (by simpa using hu)
      have hadd : (⟨b, off, none⟩ : Addr).add (i * sz + j) = ⟨b, off + i * sz + j, none⟩ := by
        unfold Addr.add; split <;> simp_all [Nat.add_assoc]
      rw [hadd] at this
      exact this
    · intro y hy
      obtain ⟨i, hi', rfl⟩ := List.mem_map.1 hy
      exact (hf i (by simpa using hi')).1
end
end Go.Proofs.YtfaiponmjjbgoaaGreatDoor

/- FibAll: whatever the routes, the law returns true, and what was there stands. -/
namespace Go.Proofs.YtfaiponmjjbgoaaGreatDoor
open Go.RowKit
attribute [local go_sem] Oper.semAt_some

def rtA (r : Rt) : Array Value := #[.int .u32 r.p.a, .int .i64 r.p.l, .int .i64 r.s, .int .i64 r.m, .int .i64 r.l, .int .i64 r.f, .int .u32 r.x, .int .i64 r.d, .bool r.c]
def AlAll (w : World) (f u : Nat) (W : World) : Prop := ∃ F L A c, AlI w f u W F L A c
theorem AllMem.only {bx : Nat} {A : Option Addr} {c : Nat} {l : List Hp} {W W' : World} {bs : List Nat} (h : AllMem bx A c l W) (k : Only bs W W') (h1 : bx ∉ bs) (h2 : ∀ a, A = some a → a.block ∉ bs) : AllMem bx A c l W' := ⟨h.bx.only k h1, h.rd.only k h2⟩
theorem AllMem.keep {bx : Nat} {A : Option Addr} {c : Nat} {l : List Hp} {W W' : World} (h : AllMem bx A c l W) (k : Kp W W') : AllMem bx A c l W' := ⟨h.bx.keep k, h.rd.keep k⟩

set_option maxRecDepth 100000 in
set_option maxHeartbeats 8000000 in
theorem all_walk (A : Option Addr) (c : Nat) (rs : List Rt) (many : Int) (r : Rt) (w : World) (hG : RelsAt w) (hR : Rd w 9 Rt.enc A rs) (hn : rs.length ≤ 20) (hfit : ∀ r ∈ rs, r.fits) (hr : r.fits) :
    Calls Tryz.prog 3 #[.slice A rs.length c, .int .i64 many, .agg (rtA r)] w fun e w' => e = .returned (.bool true) ∧ Kp w w' := by
  obtain ⟨W, hW, kW, B0⟩ : ∃ W, w.alloc (.cells (rtA r) 29) = W ∧ Kp w W ∧ Blk W w.heap.size 29 (rtA r) := ⟨_, rfl, (Kp.refl _).alloc _, Blk.new w _ _⟩
  have HG := Lib.hid (hG.keep kW)
  have HR := Lib.hid (hR.keep kW)
  have Hfit := Lib.hid hfit
  have Hr := Lib.hid hr
  clear hG hR hfit hr
  have hd : decide ((20 : Int) < rs.length) = false := by simp; omega
  have hd' : decide (20 < rs.length) = false := by simp; omega
  unfold rtA at hW B0 ⊢
  go_enter Tryz.func3, Tryz.ntmps3
  go_wp2_with fail
  refine (fnew_any W).mono ?_
  rintro e w1 ⟨f, F0, rfl, hM, hK, hF⟩
  have hlF := hM.lt
  have hgl := rels_lt HG.out
  have hI : AlAll W f w1.heap.size (w1.alloc (.cells #[.slice none 0 0] 35)) :=
    ⟨F0, [], none, 0, ⟨hM.keep ((Kp.refl _).alloc _), hF, HG.out.keep (hK.alloc _), fun hc => by have := hF _ hc; omega, hK.alloc _, Blk.new w1 _ _, fun hc => by have := hlF _ hc; omega, hK.size, by have := hK.size; omega, Rd.nil _ _ _ _, fun a ha => by cases ha⟩⟩
  have HI := Lib.hid hI
  clear hM hK hF hlF hI hgl
  go_wp2_with fail
  go_loopw [9] (fun i wr => ∃ k : Nat, k ≤ rs.length ∧ i = .int .i64 k ∧ Hid (AlAll W f w1.heap.size wr)) (fun i _ => rs.length - (intOf i).toNat)
  case atStart => exact ⟨0, Nat.zero_le _, rfl, HI⟩
  case round =>
    obtain ⟨k, hk, rfl, hA⟩ := hrel
    obtain ⟨F, L, A1, c1, I⟩ := hA.out
    have HII := Lib.hid I
    by_cases hlt : k < rs.length
    · obtain ⟨b, off, hb, x0, x1, x2, x3, x4, x5, x6, x7, x8⟩ := rt_at (HR.out.keep I.kp) hlt
      subst hb
      obtain ⟨q, hq⟩ : ∃ q, rs[k] = q := ⟨_, rfl⟩
      rw [hq] at x0 x1 x2 x3 x4 x5 x6 x7 x8
      have hqf := Hfit.out q (by rw [← hq]; exact List.getElem_mem _)
      have Hq := Lib.hid hqf
      have Hqe := Lib.hid hq
      clear hq hqf I
      go_wp2_with fail
      have ha : ∀ o, Kp wr (wr.alloc o) := fun o => (Kp.refl _).alloc o
      have hlF := HII.out.fm.lt
      refine (Come_any f F L [q] (some ⟨wr.heap.size, 0, none⟩) 1 _ (HII.out.rels.keep (ha _)) HII.out.gn (HII.out.fm.keep (ha _)) (Rd.one wr q) (fun _ a ha hc => by injection ha with ha; subst ha; have h9 : wr.heap.size < wr.heap.size := hlF _ hc; omega) (by simp) (by simpa using Hq.out)).mono ?_
      rintro e w5 ⟨rfl, hT⟩
      obtain ⟨F5, hJ, hO, hS⟩ := (HII.out.keep (ha _)).come hT
      rw [runL_one] at hJ
      have HJ := Lib.hid hJ
      have hRk := rt_at (HR.out.keep hJ.kp) hlt
      rw [Hqe.out] at hRk
      obtain ⟨b2, off2, hb2, y0, y1, y2, y3, y4, y5, y6, y7, y8⟩ := hRk
      injection hb2 with hb2
      injection hb2 with hb3 hb4
      subst hb3 hb4
      have u0 : w5.cell? ⟨w1.heap.size, 0, none⟩ = some (.slice A1 L.length c1) := hJ.ub.cell 0
      have z0 := hJ.ub.frozen 0
      have hLu := HII.out.fm.up
      have HLu := Lib.hid hLu
      clear hT hJ hO hS hlF ha x0 x1 x2 x3 x4 x5 x6 x7 x8 hLu
      go_wp2_with fail
      go_region_with (go_at_call 9; refine (one_any A1 c1 L q _ (HJ.out.rd.keep (Kp.refl _).drew) HLu.out.2 Hq.out.1 Hq.out.2 HLu.out.1).mono ?_; rintro e w6 ⟨A2, c2, rfl, hR2, hK2, hA2⟩; have v0 : w6.cell? ⟨w1.heap.size, 0, none⟩ = some (.slice A1 L.length c1) := ((Kp.refl w5).drew.trans hK2).cell u0; have zz0 : w6.frozen? ⟨w1.heap.size, 0, none⟩ = false := (((Kp.refl w5).drew.trans hK2).frozen u0).trans z0; have HR2 := Lib.hid hR2; have HA2 := Lib.hid hA2; clear hR2 hA2)
      all_goals
        go_wp2_with fail
        go_roundw
        case rel => exact ⟨k + 1, by omega, by go_num, Lib.hid ⟨_, _, _, _, HJ.out.set ((Kp.refl w5).drew.trans hK2) HR2.out HA2.out⟩⟩
        case measure => simp [intOf]; omega
    · obtain rfl : k = rs.length := by omega
      clear hA I
      go_wp2_with fail
      refine (all_any f F L wr HII.out.fm).mono ?_
      rintro e w3 ⟨bx, A2, c2, rfl, hD, hK3, hbx, hA2⟩
      have HI3 := Lib.hid (HII.out.keep hK3)
      have HD := Lib.hid hD
      have Hbx := Lib.hid hbx
      have HA2 := Lib.hid hA2
      clear hD hbx hA2
      have B3 := B0.keep (HII.out.kp.trans hK3)
      have y0 : w3.cell? ⟨w.heap.size, 0, none⟩ = some (.int .u32 r.p.a) := B3.cell 0
      have y1 : w3.cell? ⟨w.heap.size, 1, none⟩ = some (.int .i64 r.p.l) := B3.cell 1
      have y2 : w3.cell? ⟨w.heap.size, 2, none⟩ = some (.int .i64 r.s) := B3.cell 2
      have y3 : w3.cell? ⟨w.heap.size, 3, none⟩ = some (.int .i64 r.m) := B3.cell 3
      have y4 : w3.cell? ⟨w.heap.size, 4, none⟩ = some (.int .i64 r.l) := B3.cell 4
      have y5 : w3.cell? ⟨w.heap.size, 5, none⟩ = some (.int .i64 r.f) := B3.cell 5
      have y6 : w3.cell? ⟨w.heap.size, 6, none⟩ = some (.int .u32 r.x) := B3.cell 6
      have y7 : w3.cell? ⟨w.heap.size, 7, none⟩ = some (.int .i64 r.d) := B3.cell 7
      have y8 : w3.cell? ⟨w.heap.size, 8, none⟩ = some (.bool r.c) := B3.cell 8
      clear B3
      unfold allV
      go_wp2_with fail
      have ha : ∀ o, Kp w3 (w3.alloc o) := fun o => (Kp.refl _).alloc o
      have hlF := HII.out.fm.lt
      have hlF3 := HI3.out.fm.lt
      refine (Come_any f F L [r] (some ⟨w3.heap.size, 0, none⟩) 1 _ (HI3.out.rels.keep (ha _)) HI3.out.gn (HI3.out.fm.keep (ha _)) (Rd.one w3 r) (fun _ a ha hc => by injection ha with ha; subst ha; have h9 : w3.heap.size < w3.heap.size := hlF3 _ hc; omega) (by simp) (by simpa using Hr.out)).mono ?_
      rintro e w5 ⟨rfl, hT⟩
      obtain ⟨F5, hJ, hO, hS⟩ := (HI3.out.keep (ha _)).come hT
      have HJ := Lib.hid hJ
      have hD5 : AllMem bx A2 c2 L w5 := (HD.out.keep (ha _)).only hO (fun hc => by have := hlF _ hc; have := Hbx.out; omega) (fun a ha hc => by have := hlF _ hc; have := HA2.out a ha; omega)
      have HD5 := Lib.hid hD5
      have u0 : w5.cell? ⟨w1.heap.size, 0, none⟩ = some (.slice A1 L.length c1) := hJ.ub.cell 0
      have hLu := HII.out.fm.up.2
      clear hT hJ hO hS hlF hlF3 ha y0 y1 y2 y3 y4 y5 y6 y7 y8 hD5
      go_wp2_with fail
      refine (rows_any bx A2 c2 A1 c1 L many w5 HD5.out HJ.out.rd hLu).mono ?_
      rintro e w6 ⟨rfl, hK6⟩
      have u6 : w6.cell? ⟨w1.heap.size, 0, none⟩ = some (.slice A1 L.length c1) := hK6.cell u0
      clear u0
      go_wp2_with fail
      refine (rows_any bx A2 c2 A1 c1 L 999 w6 (HD5.out.keep hK6) (HJ.out.rd.keep hK6) hLu).mono ?_
      rintro e w7 ⟨rfl, hK7⟩
      go_wp2_with fail
      refine (works_any _ (HJ.out.rels.keep (hK6.trans hK7))).mono ?_
      rintro e w8 ⟨rfl, hK8⟩
      go_wp2_with fail
      go_ret
      exact ⟨rfl, (((kW.trans HJ.out.kp).trans hK6).trans hK7).trans hK8⟩

set_option maxRecDepth 100000 in
set_option maxHeartbeats 2000000 in
theorem all_law (A : Option Addr) (c : Nat) (rs : List Rt) (many : Int) (r : Rt) (w : World) (hG : RelsAt w) (hR : Rd w 9 Rt.enc A rs) (hfit : ∀ r ∈ rs, r.fits) (hr : r.fits) :
    Calls Tryz.prog 3 #[.slice A rs.length c, .int .i64 many, .agg (rtA r)] w fun e w' => e = .returned (.bool true) ∧ Kp w w' := by
  by_cases hn : rs.length ≤ 20
  · exact all_walk A c rs many r w hG hR hn hfit hr
  · have hd : decide ((20 : Int) < rs.length) = true := by simp; omega
    have hd' : decide (20 < rs.length) = true := by simp; omega
    have kW : Kp w (w.alloc (.cells (rtA r) 29)) := (Kp.refl _).alloc _
    have HG := Lib.hid (hG.keep kW)
    clear hG hR hfit hr hn
    unfold rtA at kW HG ⊢
    go_enter Tryz.func3, Tryz.ntmps3
    go_wp2_with fail
    refine (works_any _ HG.out).mono ?_
    rintro e w' ⟨rfl, hK⟩
    go_wp2_with fail
    go_ret
    exact ⟨rfl, kW.trans hK⟩
end Go.Proofs.YtfaiponmjjbgoaaGreatDoor

/- Routes among a law's arguments, opened. -/
namespace Go.Proofs.YtfaiponmjjbgoaaGreatDoor
open Go.ChangeShapes Go.WideShapes Go.ChangeAt Go.RowKit Go.Joins Go.Deep

theorem len9 {l : List Value} (h : l.length = 9) : ∃ c0 c1 c2 c3 c4 c5 c6 c7 c8, l = [c0, c1, c2, c3, c4, c5, c6, c7, c8] := by
  match l, h with
  | [c0, c1, c2, c3, c4, c5, c6, c7, c8], _ => exact ⟨c0, c1, c2, c3, c4, c5, c6, c7, c8, rfl⟩
theorem len8 {α : Type} {l : List α} (h : l.length = 8) : ∃ c0 c1 c2 c3 c4 c5 c6 c7, l = [c0, c1, c2, c3, c4, c5, c6, c7] := by
  match l, h with
  | [c0, c1, c2, c3, c4, c5, c6, c7], _ => exact ⟨c0, c1, c2, c3, c4, c5, c6, c7, rfl⟩
theorem two_of {α : Type} {l : List α} (h : l.length = 2) : ∃ a b, l = [a, b] := by
  match l, h with
  | [a, b], _ => exact ⟨a, b, rfl⟩
theorem nat_of_u32 {n : Int} (h : (Lit.int .u32 n).wf = true) : ∃ a : Nat, n = (a : Int) ∧ a < 4294967296 := by
  simp [Lit.wf, IntKind.min, IntKind.max, IntKind.bits, IntKind.signed] at h
  exact ⟨n.toNat, by omega, by omega⟩

section
variable {H : Type} {enc : TypeId × Value → H}
set_option maxRecDepth 100000 in
theorem pfx_of {W : World} {base : Nat} {sp : Nat → Bool} {held : Bool} (cs : List Value) (n : Nat) (x : DataW H × List MemPlace) (h : DataW.trod enc Tryz.prog W base sp held n 26 cs = some x) : ∃ (a : Nat) (l : Int), cs = [.int .u32 a, .int .i64 l] ∧ a < 4294967296 := by
  obtain ⟨xs, m, _, _, hl, hlen, hf⟩ := DataW.trod_struct Tryz.underlying26 h
  have hC : Tryz.prog.cellsOf 26 = 2 := by kernel_rfl
  have hCi : Tryz.prog.cellsOf 3 = 1 := by kernel_rfl
  have hCa : Tryz.prog.cellsOf 24 = 1 := by kernel_rfl
  rw [hC] at hl
  obtain ⟨c0, c1, rfl⟩ := two_of hl
  obtain ⟨y0, y1, rfl⟩ := two_of hlen
  have e0 : DataW.trod enc Tryz.prog W base sp held m 24 [c0] = some y0 := by
    have this : DataW.trod enc Tryz.prog W base sp held m 24 (([c0, c1].drop 0).take (Tryz.prog.cellsOf 24)) = some y0 := hf 0 _ rfl
    rw [hCa] at this; exact this
  have e1 : DataW.trod enc Tryz.prog W base sp held m 3 [c1] = some y1 := by
    have this : DataW.trod enc Tryz.prog W base sp held m 3 (([c0, c1].drop 1).take (Tryz.prog.cellsOf 3)) = some y1 := hf 1 _ rfl
    rw [hCi] at this; exact this
  obtain ⟨a, ha, _, hw⟩ := DataW.trod_int Tryz.underlying24 e0
  obtain ⟨b, hb, _⟩ := DataW.trod_int Tryz.underlying3 e1
  simp at ha hb
  subst ha hb
  obtain ⟨a', rfl, hlt⟩ := nat_of_u32 hw
  exact ⟨a', b, rfl, hlt⟩

set_option maxRecDepth 100000 in
theorem route_of {W : World} {base : Nat} {sp : Nat → Bool} {held : Bool} (cs : List Value) (n : Nat) (x : DataW H × List MemPlace) (h : DataW.trod enc Tryz.prog W base sp held n 29 cs = some x) : ∃ y : Rt, cs = y.enc ∧ y.fits := by
  obtain ⟨xs, m, _, _, hl, hlen, hf⟩ := DataW.trod_struct Tryz.underlying29 h
  have hC : Tryz.prog.cellsOf 29 = 9 := by kernel_rfl
  have hCp : Tryz.prog.cellsOf 26 = 2 := by kernel_rfl
  have hCs : Tryz.prog.cellsOf 27 = 1 := by kernel_rfl
  have hCi : Tryz.prog.cellsOf 3 = 1 := by kernel_rfl
  have hCl : Tryz.prog.cellsOf 2 = 1 := by kernel_rfl
  have hCa : Tryz.prog.cellsOf 24 = 1 := by kernel_rfl
  have hCb : Tryz.prog.cellsOf 4 = 1 := by kernel_rfl
  rw [hC] at hl
  obtain ⟨c0, c1, c2, c3, c4, c5, c6, c7, c8, rfl⟩ := len9 hl
  obtain ⟨y0, y1, y2, y3, y4, y5, y6, y7, rfl⟩ := len8 hlen
  clear hl hlen hC h
  have e0 : DataW.trod enc Tryz.prog W base sp held m 26 [c0, c1] = some y0 := by
    have this : DataW.trod enc Tryz.prog W base sp held m 26 (([c0, c1, c2, c3, c4, c5, c6, c7, c8].drop 0).take (Tryz.prog.cellsOf 26)) = some y0 := hf 0 _ rfl
    rw [hCp] at this; exact this
  have e1 : DataW.trod enc Tryz.prog W base sp held m 27 [c2] = some y1 := by
    have this : DataW.trod enc Tryz.prog W base sp held m 27 (([c0, c1, c2, c3, c4, c5, c6, c7, c8].drop 2).take (Tryz.prog.cellsOf 27)) = some y1 := hf 1 _ rfl
    rw [hCs] at this; exact this
  have e2 : DataW.trod enc Tryz.prog W base sp held m 3 [c3] = some y2 := by
    have this : DataW.trod enc Tryz.prog W base sp held m 3 (([c0, c1, c2, c3, c4, c5, c6, c7, c8].drop 3).take (Tryz.prog.cellsOf 3)) = some y2 := hf 2 _ rfl
    rw [hCi] at this; exact this
  have e3 : DataW.trod enc Tryz.prog W base sp held m 3 [c4] = some y3 := by
    have this : DataW.trod enc Tryz.prog W base sp held m 3 (([c0, c1, c2, c3, c4, c5, c6, c7, c8].drop 4).take (Tryz.prog.cellsOf 3)) = some y3 := hf 3 _ rfl
    rw [hCi] at this; exact this
  have e4 : DataW.trod enc Tryz.prog W base sp held m 3 [c5] = some y4 := by
    have this : DataW.trod enc Tryz.prog W base sp held m 3 (([c0, c1, c2, c3, c4, c5, c6, c7, c8].drop 5).take (Tryz.prog.cellsOf 3)) = some y4 := hf 4 _ rfl
    rw [hCi] at this; exact this
  have e5 : DataW.trod enc Tryz.prog W base sp held m 24 [c6] = some y5 := by
    have this : DataW.trod enc Tryz.prog W base sp held m 24 (([c0, c1, c2, c3, c4, c5, c6, c7, c8].drop 6).take (Tryz.prog.cellsOf 24)) = some y5 := hf 5 _ rfl
    rw [hCa] at this; exact this
  have e6 : DataW.trod enc Tryz.prog W base sp held m 2 [c7] = some y6 := by
    have this : DataW.trod enc Tryz.prog W base sp held m 2 (([c0, c1, c2, c3, c4, c5, c6, c7, c8].drop 7).take (Tryz.prog.cellsOf 2)) = some y6 := hf 6 _ rfl
    rw [hCl] at this; exact this
  have e7 : DataW.trod enc Tryz.prog W base sp held m 4 [c8] = some y7 := by
    have this : DataW.trod enc Tryz.prog W base sp held m 4 (([c0, c1, c2, c3, c4, c5, c6, c7, c8].drop 8).take (Tryz.prog.cellsOf 4)) = some y7 := hf 7 _ rfl
    rw [hCb] at this; exact this
  clear hf
  obtain ⟨a, l, hp, hpl⟩ := pfx_of _ _ _ e0
  obtain ⟨s, hs, _⟩ := DataW.trod_int Tryz.underlying27 e1
  obtain ⟨mm, hm, _⟩ := DataW.trod_int Tryz.underlying3 e2
  obtain ⟨ll, hll, _⟩ := DataW.trod_int Tryz.underlying3 e3
  obtain ⟨f, hff, _⟩ := DataW.trod_int Tryz.underlying3 e4
  obtain ⟨xx, hx, _, hw⟩ := DataW.trod_int Tryz.underlying24 e5
  obtain ⟨d, hd, _⟩ := DataW.trod_int Tryz.underlying2 e6
  obtain ⟨b, hb, _⟩ := DataW.trod_bool Tryz.underlying4 e7
  clear e0 e1 e2 e3 e4 e5 e6 e7
  simp only [List.cons.injEq, and_true] at hp hs hm hll hff hx hd hb
  obtain ⟨x', rfl, hlt⟩ := nat_of_u32 hw
  obtain ⟨rfl, rfl⟩ := hp
  subst hs hm hll hff hx hd hb
  exact ⟨⟨⟨a, l⟩, s, mm, ll, f, x', d, b⟩, rfl, hpl, hlt⟩

set_option maxRecDepth 100000 in
theorem open_route {W : World} {base : Nat} {v : Value} {d : DataW H} {p : List MemPlace} (hv : Value.okWide Tryz.prog W .any base 29 v) (h : DataW.Trod enc Tryz.prog W 0 (fun _ => true) true 29 v d p) : ∃ r : Rt, v = .agg (rtA r) ∧ r.fits := by
  obtain ⟨cs, rfl, hsz⟩ := okWide_struct Tryz.underlying29 hv
  obtain ⟨fuel, hf⟩ := h
  obtain ⟨r, hr, hfit⟩ := route_of _ _ _ hf
  refine ⟨r, ?_, hfit⟩
  have : cs = r.enc.toArray := by
    apply Array.ext'
    simpa [Value.cells] using hr
  rw [this]
  rfl
set_option maxRecDepth 100000 in
theorem open_routes {W : World} {base : Nat} {v : Value} {d : DataW H} {p : List MemPlace} (hv : Value.okWide Tryz.prog W .any base 22 v) (h : DataW.Trod enc Tryz.prog W 0 (fun _ => true) true 22 v d p) : ∃ A c rs, v = .slice A rs.length c ∧ Rd W 9 Rt.enc A rs ∧ ∀ r ∈ rs, r.fits := by
  obtain ⟨a, l, cp, rfl⟩ := okWide_slice Tryz.underlying22 hv
  obtain ⟨n, h⟩ := h
  obtain ⟨A, c, ls, hl, _, hrd, hg⟩ := rd_of_slice (sz := 9) Rt.enc Rt.fits (fun _ => rfl) Tryz.underlying22 (by kernel_rfl) (by omega) route_of h
  exact ⟨A, c, ls, hl, hrd, hg⟩
end
end Go.Proofs.YtfaiponmjjbgoaaGreatDoor

/- FibComes of any input; its arguments, opened. -/
namespace Go.Proofs.YtfaiponmjjbgoaaGreatDoor
open Go.ChangeShapes Go.WideShapes Go.ChangeAt Go.RowKit Go.Joins Go.Deep

set_option maxRecDepth 100000 in
set_option maxHeartbeats 2000000 in
theorem comes_law (B : Option Addr) (d : Nat) (ls : List Sl) (T : Option Addr) (e0 : Nat) (ts : List Nat) (w : World) (hG : RelsAt w) (hL : Rd w 1 Sl.enc B ls) (hls : ∀ s ∈ ls, s.good w) (hT : Rd w 1 adE T ts) (hts : ∀ a ∈ ts, a < 4294967296) :
    Calls Tryz.prog 4 #[.slice B ls.length d, .slice T ts.length e0] w fun e w' => e = .returned (.bool true) ∧ Kp w w' := by
  by_cases hn : ls.length ≤ 6
  · by_cases hm : ts.length ≤ 20
    · exact comes_walk B d ls T e0 ts w hG hL hls hT hts hn hm
    · have d1 : decide ((6 : Int) < ls.length) = false := by simp; omega
      have d1' : decide (6 < ls.length) = false := by simp; omega
      have d2 : decide ((20 : Int) < ts.length) = true := by simp; omega
      have d2' : decide (20 < ts.length) = true := by simp; omega
      have HG := Lib.hid hG
      clear hG hL hls hT hts hn hm
      go_enter Tryz.func4, Tryz.ntmps4
      go_wp2_with fail
      refine (works_any _ HG.out).mono ?_
      rintro e w' ⟨rfl, hK⟩
      go_wp2_with fail
      go_ret
      exact ⟨rfl, hK⟩
  · have d1 : decide ((6 : Int) < ls.length) = true := by simp; omega
    have d1' : decide (6 < ls.length) = true := by simp; omega
    have HG := Lib.hid hG
    clear hG hL hls hT hts hn
    go_enter Tryz.func4, Tryz.ntmps4
    go_wp2_with fail
    refine (works_any _ HG.out).mono ?_
    rintro e w' ⟨rfl, hK⟩
    go_wp2_with fail
    go_ret
    exact ⟨rfl, hK⟩

section
variable {H : Type} {enc : TypeId × Value → H}
set_option maxRecDepth 100000 in
theorem sl_of {W : World} (cs : List Value) (n : Nat) (x : DataW H × List MemPlace) (h : DataW.trod enc Tryz.prog W 0 (fun _ => true) true n 22 cs = some x) : ∃ y : Sl, cs = y.enc ∧ y.good W := by
  obtain ⟨a, l, c, rfl⟩ := slice_form Tryz.underlying22 h
  obtain ⟨A, c', ys, hv, _, hR, hg⟩ := rd_of_slice (sz := 9) Rt.enc Rt.fits (fun _ => rfl) Tryz.underlying22 (by kernel_rfl) (by omega) route_of h
  exact ⟨⟨A, c', ys⟩, by rw [hv]; rfl, hR, hg⟩
theorem ad_of {W : World} (cs : List Value) (n : Nat) (x : DataW H × List MemPlace) (h : DataW.trod enc Tryz.prog W 0 (fun _ => true) true n 24 cs = some x) : ∃ y : Nat, cs = adE y ∧ y < 4294967296 := by
  obtain ⟨a, ha, _, hw⟩ := DataW.trod_int Tryz.underlying24 h
  obtain ⟨a', rfl, hlt⟩ := nat_of_u32 hw
  exact ⟨a', ha, hlt⟩
set_option maxRecDepth 100000 in
theorem open_sls {W : World} {base : Nat} {v : Value} {d : DataW H} {p : List MemPlace} (hv : Value.okWide Tryz.prog W .any base 46 v) (h : DataW.Trod enc Tryz.prog W 0 (fun _ => true) true 46 v d p) : ∃ A c ls, v = .slice A ls.length c ∧ Rd W 1 Sl.enc A ls ∧ ∀ s ∈ ls, s.good W := by
  obtain ⟨a, l, cp, rfl⟩ := okWide_slice Tryz.underlying46 hv
  obtain ⟨n, h⟩ := h
  obtain ⟨A, c, ls, hl, _, hrd, hg⟩ := rd_of_slice (sz := 1) Sl.enc (fun s => s.good W) (fun _ => rfl) Tryz.underlying46 (by kernel_rfl) (by omega) sl_of h
  exact ⟨A, c, ls, hl, hrd, hg⟩
set_option maxRecDepth 100000 in
theorem open_ads {W : World} {base : Nat} {v : Value} {d : DataW H} {p : List MemPlace} (hv : Value.okWide Tryz.prog W .any base 47 v) (h : DataW.Trod enc Tryz.prog W 0 (fun _ => true) true 47 v d p) : ∃ A c ts, v = .slice A ts.length c ∧ Rd W 1 adE A ts ∧ ∀ a ∈ ts, a < 4294967296 := by
  obtain ⟨a, l, cp, rfl⟩ := okWide_slice Tryz.underlying47 hv
  obtain ⟨n, h⟩ := h
  obtain ⟨A, c, ls, hl, _, hrd, hg⟩ := rd_of_slice (sz := 1) adE (fun a => a < 4294967296) (fun _ => rfl) Tryz.underlying47 (by kernel_rfl) (by omega) ad_of h
  exact ⟨A, c, ls, hl, hrd, hg⟩
end
end Go.Proofs.YtfaiponmjjbgoaaGreatDoor

/- What the listed variable gives the walks. -/
namespace Go.Proofs.YtfaiponmjjbgoaaGreatDoor
open Go.ChangeShapes Go.WideShapes Go.ChangeAt Go.RowKit

theorem gRels : Tryz.prog.globalNamed "waywarden/prefix.rels" = some 0 := by kernel_rfl
theorem tRels : (Tryz.prog.globals[0]?).map (·.type) = some 232 := by kernel_rfl
def relsLaid : List (String × DataW Unit) := [("waywarden/prefix.rels", Rows.laid_waywarden_prefix_rels)]

theorem rel_one {H : Type} {enc : TypeId × Value → H} {W : World} {base fuel : Nat} {sp : Nat → Bool} {held : Bool} {c : List Value} {p : List MemPlace} {a : Int}
    (h : DataW.trod enc Tryz.prog W base sp held fuel 216 c = some (.lit (.int .i64 a), p)) : c = [.int .i64 a] := by
  obtain ⟨n, e1, e2, _⟩ := DataW.trod_int Tryz.underlying216 h
  simp only [Prod.mk.injEq, DataW.lit.injEq, Lit.int.injEq] at e2
  rw [e1, e2.1.2]
theorem len2 {l : List Value} (h : l.length = 2) : ∃ a b, l = [a, b] := by
  match l, h with
  | [a, b], _ => exact ⟨a, b, rfl⟩
theorem len4 {l : List Value} (h : l.length = 4) : ∃ a b c d, l = [a, b, c, d] := by
  match l, h with
  | [a, b, c, d], _ => exact ⟨a, b, c, d, rfl⟩
set_option maxRecDepth 100000 in
theorem rel_row {H : Type} {enc : TypeId × Value → H} {W : World} {base fuel : Nat} {sp : Nat → Bool} {held : Bool} {c : List Value} {p : List MemPlace} {a b : Int}
    (h : DataW.trod enc Tryz.prog W base sp held fuel 231 c = some (.agg [.lit (.int .i64 a), .lit (.int .i64 b)], p)) : c = [.int .i64 a, .int .i64 b] := by
  obtain ⟨xs, m, rfl, hx, hlen, hn, hel⟩ := DataW.trod_array Tryz.underlying231 h
  have c1 : Tryz.prog.cellsOf 216 = 1 := by kernel_rfl
  have c2 : Tryz.prog.cellsOf 231 = 2 := by kernel_rfl
  rw [c2] at hlen
  rw [c1] at hel
  have h0 := hel 0 (by decide)
  have h1 := hel 1 (by decide)
  match xs, hn, hx, h0, h1 with
  | [(x0, p0), (x1, p1)], _, hx, h0, h1 =>
    simp only [List.map_cons, List.map_nil, Prod.mk.injEq, DataW.agg.injEq, List.cons.injEq, and_true] at hx
    obtain ⟨⟨rfl, rfl⟩, _⟩ := hx
    have e0 := rel_one (show DataW.trod _ Tryz.prog W _ _ _ m _ _ = some (_, p0) from h0)
    have e1 := rel_one (show DataW.trod _ Tryz.prog W _ _ _ m _ _ = some (_, p1) from h1)
    obtain ⟨u, v, rfl⟩ := len2 hlen
    simp at e0 e1
    rw [e0, e1]
set_option maxRecDepth 100000 in
theorem rels_of_laid {W : World} (h : laidMetH Tryz.prog relsLaid W) : RelsAt W := by
  unfold relsLaid at h
  rw [MakeChecks.laidMetH_plain _ _ _ (by kernel_rfl)] at h
  obtain ⟨ps, ⟨g0, t0, cs0, f0, p0, q0, hg0, ht0, hv0, hd0, _, _⟩, _, _⟩ := h
  obtain rfl := Option.some.inj (gRels.symm.trans hg0)
  obtain rfl := Option.some.inj (tRels.symm.trans ht0)
  obtain ⟨xs, m, rfl, hx, hlen, hn, hel⟩ := DataW.trod_array Tryz.underlying232 hd0
  have c2 : Tryz.prog.cellsOf 231 = 2 := by kernel_rfl
  have c4 : Tryz.prog.cellsOf 232 = 4 := by kernel_rfl
  rw [c4] at hlen
  rw [c2] at hel
  have h0 := hel 0 (by decide)
  have h1 := hel 1 (by decide)
  have r0 := World.var?_cell hg0 hv0 0
  have r1 := World.var?_cell hg0 hv0 1
  have r2 := World.var?_cell hg0 hv0 2
  have r3 := World.var?_cell hg0 hv0 3
  match xs, hn, hx, h0, h1 with
  | [(x0, p0), (x1, p1)], _, hx, h0, h1 =>
    simp only [Rows.laid_waywarden_prefix_rels, List.map_cons, List.map_nil, Prod.mk.injEq, DataW.agg.injEq, List.cons.injEq, and_true] at hx
    obtain ⟨⟨rfl, rfl⟩, _⟩ := hx
    have e0 := rel_row (show DataW.trod _ Tryz.prog W _ _ _ m _ _ = some (_, p0) from h0)
    have e1 := rel_row (show DataW.trod _ Tryz.prog W _ _ _ m _ _ = some (_, p1) from h1)
    obtain ⟨l⟩ := cs0
    obtain ⟨a, b, c, d, rfl⟩ := len4 hlen
    simp at e0 e1 r0 r1 r2 r3
    obtain ⟨rfl, rfl⟩ := e0
    obtain ⟨rfl, rfl⟩ := e1
    exact ⟨r0, r1, r2, r3⟩
theorem door_met (os : Os) (args : Array Value) : laidMetH Tryz.prog relsLaid ((World.doorLaid Tryz.prog 400 os).forCall (fun _ _ => 0) ⟨#[], args, []⟩).memory :=
  laidMetH_of_parts3 (fuel := 8) (laidMet_of_run' 8 (by kernel_rfl) (by kernel_rfl)) (by kernel_rfl) (by kernel_rfl)
end Go.Proofs.YtfaiponmjjbgoaaGreatDoor

namespace Go.Proofs.YtfaiponmjjbgoaaGreatDoor
open Go Go.ChangeShapes Go.WideShapes Go.ChangeAt Go.RowKit Go.Joins Go.Deep

set_option maxRecDepth 100000 in
theorem fibComes_lifted (os : Os) (started : os.Started) (H : Type) (enc : TypeId × Value → H) :
    ReturnsInHanded {} Tryz.checked os 4 .any (fun w args => (Rows.fibComesSpec.pre enc Tryz.prog Tryz.f4 [] false w args ∧ laidMetH Tryz.prog relsLaid w) ∧ sizedMet enc Tryz.prog Tryz.f4 (OpenSpec.ofChange Rows.fibComesSpec) false w args)
      (Rows.fibComesSpec.post enc Tryz.prog Tryz.f4 false true false false) := by
  refine returnsInHanded_of_change_and (C := Tryz.checked) (X := fun w _ => laidMetH Tryz.prog relsLaid w) (fun _ _ _ hh h => h.of_heap hh) Tryz.own started (by kernel_rfl) Tryz.func4
    (ChangeSpec.witness_shaped (enc := enc) (C := Tryz.checked) (os := os) (X := fun w _ => laidMetH Tryz.prog relsLaid w) false (World.doorLaid Tryz.prog 400 os) #[.slice none 0 0, .slice none 0 0] 8 rfl (World.shaped_of_RefB (by kernel_rfl) (by kernel_rfl)) (by kernel_rfl) (by kernel_rfl) (by kernel_rfl) (door_met os _)) ?_
  intro W base args ds gs before hval0 hW _ _ hL _
  have hval : ∀ (j : Nat) t v, Tryz.f4.params[j]? = some t → args[j]? = some v → Value.okWide Tryz.prog W .any base t v := hval0
  have hW' := hW
  obtain ⟨p, q, hA0, hV, rfl, hfz, hnd⟩ := hW
  have hA : DataW.TrodAll enc Tryz.prog W 0 (fun _ => true) true Tryz.f4.params.toList args.toList ds p := hA0
  rw [Tryz.params4] at hA hval
  obtain ⟨v0, v1, d0, d1, p0, p1, rfl, rfl, rfl, h0, h1⟩ := trodAll_two hA
  obtain ⟨rfl, rfl⟩ := trodVars_none hV
  obtain ⟨A, c, ls, rfl, hrd, hgood⟩ := open_sls (hval 0 _ v0 rfl rfl) h0
  obtain ⟨T, e0, ts, rfl, hrt, hts⟩ := open_ads (hval 1 _ v1 rfl rfl) h1
  clear hA0 hval0
  refine (comes_law A c ls T e0 ts W (rels_of_laid hL) hrd hgood hrt hts).mono fun e W' ⟨he, hK⟩ => ?_
  subst he
  refine ⟨_, rfl, law_post hW' rfl rfl rfl rfl rfl ?_ hK⟩
  intro t ht
  rw [Tryz.params4] at ht
  simp only [List.mem_cons, List.not_mem_nil, or_false] at ht
  rcases ht with rfl | rfl <;> exact ⟨by kernel_rfl, of_decide_eq_true (by kernel_rfl)⟩

theorem fibComes_holds : Rows.FibComesSaid :=
  OpenClaim.holds_of_wide 4 Tryz.f4 rfl rfl rfl rfl rfl rfl rfl ⟨rfl, rfl, rfl, rfl, rfl⟩ rfl rfl rfl rfl rfl (by kernel_rfl) Tryz.func4 (by kernel_rfl)
    (of_decide_eq_true (by kernel_rfl)) (by unfold Func.isWrapper; first | (rw [if_pos (by decide +kernel)]; kernel_rfl) | (rw [if_neg (by decide +kernel)]; exact ⟨rfl, rfl⟩))
    (fun os started H enc _ => fibComes_lifted os started H enc)

theorem fibComes_card_holds : Rows.FibComesCardSaid :=
  Claim7.holds_tied_plain_at .later [] [.data] true (true, "89544b4481af1fe2b1dcb90f9884f3ae7a5bb5c016065a8cb0c8ddfef58b9e85") true
    fibComes_holds (fun _ h => by cases h) (by kernel_rfl) (fun _ h => by cases h) fibComes_row_tie rfl ⟨rfl, rfl⟩ (by kernel_rfl) rfl
    (fun f fn hf hfn => by
      obtain rfl : f = 4 := Option.some.inj ((show Tryz.prog.funcNamed "waywarden/waywardenlaw13.FibComes" = some 4 by kernel_rfl).symm.trans hf) |>.symm
      obtain rfl : fn = Tryz.f4 := (Option.some.inj (Tryz.func4.symm.trans hfn)).symm
      exact ⟨by kernel_rfl, fun j t ht => by
        rw [Tryz.params4] at ht
        have hm : t ∈ [46, 47] := by simpa using Array.mem_of_getElem? ht
        have hall : ([46, 47].all fun u => !Tryz.prog.wantsStandIn u) = true := by kernel_rfl
        exact (show Tryz.prog.wantsStandIn t = false by simpa using List.all_eq_true.1 hall t hm)⟩)
    (by kernel_rfl)
end Go.Proofs.YtfaiponmjjbgoaaGreatDoor
