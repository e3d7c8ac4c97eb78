/- Lemmas and contracts for the theorem of this claim: LwE, LwF, LwG, HdA, Law. -/
import Derived.Test.YtffckpkikdlbpaaGreatDoorZtBs
import Derived.Test.YtffckpkikdlbpaaGreatDoorRows
import Derived.ProofKit
import Derived.Lib.SmallJoins
import Derived.Deep.Slices
import Derived.Deep.Fields
import Derived.ChangeSame
set_option linter.unusedSimpArgs false
set_option linter.unusedVariables false
namespace Go.Proofs.YtffckpkikdlbpaaGreatDoor
open Go.RowKit Go.Maps
attribute [local go_sem] Oper.semAt_some
structure RwS (w : World) (sl : Value) (m n : Int) (C : Prop) (W : World) : Prop where
  k : Kp w W
  s : Blk W w.heap.size 37 #[sl]
  m : Blk W (w.heap.size + 1) 3 #[.int .i64 m]
  o : Blk W (w.heap.size + 1 + 1) 4 #[.bool false]
  n : Blk W (w.heap.size + 1 + 1 + 1) 3 #[.int .i64 n]
  c : C
theorem RwS.only {w W W' : World} {sl : Value} {m n : Int} {C : Prop} {bs : List Nat} (h : RwS w sl m n C W) (hO : Only bs W W') (hb : ∀ b ∈ bs, w.heap.size + 1 + 1 + 1 < b) : RwS w sl m n C W' :=
  have far : ∀ x, x ≤ w.heap.size + 1 + 1 + 1 → x ∉ bs := fun x hx hm => by have := hb x hm; omega
  ⟨hO.kp h.k (fun b hm => by have := hb b hm; omega), h.s.only hO (far _ (by omega)), h.m.only hO (far _ (by omega)), h.o.only hO (far _ (by omega)), h.n.only hO (far _ (by omega)), h.c⟩
end Go.Proofs.YtffckpkikdlbpaaGreatDoor

namespace Go.Proofs.YtffckpkikdlbpaaGreatDoor
open Go.RowKit
set_option maxRecDepth 100000 in
theorem rspans_any (c : Cf) (A : Option Addr) (n m : Nat) (w : World) : Calls Tryz.prog 48 #[cfV c A n m] w fun e w' => e = .returned (.agg #[.int .i64 c.t0, .int .i64 c.t1, .int .i64 c.t2, .int .i64 c.t3, .int .i64 c.t4, .int .i64 c.t5, .int .i64 c.t6]) ∧ Kp w w' := by
  go_enter Tryz.func48, Tryz.ntmps48
  go_wp2_with fail
  have B1 := Blk.new1 w (.cells (cfC c A n m) 24) 95 #[.int .i64 c.t0, .int .i64 c.t1, .int .i64 c.t2, .int .i64 c.t3, .int .i64 c.t4, .int .i64 c.t5, .int .i64 c.t6]
  have K1 : Kp w ((w.alloc (.cells (cfC c A n m) 24)).alloc (.cells #[.int .i64 c.t0, .int .i64 c.t1, .int .i64 c.t2, .int .i64 c.t3, .int .i64 c.t4, .int .i64 c.t5, .int .i64 c.t6] 95)) := ((Kp.refl _).alloc _).alloc _
  unfold cfC at B1 K1
  revert B1 K1
  generalize (w.alloc (.cells _ 24)).alloc (.cells _ 95) = X
  intro B1 K1
  have y0 : X.cell? ⟨w.heap.size + 1, 0, none⟩ = some (.int .i64 c.t0) := B1.cell 0
  have y1 : X.cell? ⟨w.heap.size + 1, 1, none⟩ = some (.int .i64 c.t1) := B1.cell 1
  have y2 : X.cell? ⟨w.heap.size + 1, 2, none⟩ = some (.int .i64 c.t2) := B1.cell 2
  have y3 : X.cell? ⟨w.heap.size + 1, 3, none⟩ = some (.int .i64 c.t3) := B1.cell 3
  have y4 : X.cell? ⟨w.heap.size + 1, 4, none⟩ = some (.int .i64 c.t4) := B1.cell 4
  have y5 : X.cell? ⟨w.heap.size + 1, 5, none⟩ = some (.int .i64 c.t5) := B1.cell 5
  have y6 : X.cell? ⟨w.heap.size + 1, 6, none⟩ = some (.int .i64 c.t6) := B1.cell 6
  refine bodyPost_ret (v := .agg #[.int .i64 c.t0, .int .i64 c.t1, .int .i64 c.t2, .int .i64 c.t3, .int .i64 c.t4, .int .i64 c.t5, .int .i64 c.t6]) ?_ rfl ⟨rfl, K1⟩
  clear B1 K1
  simp [results, Tryz.results48, go_sem, y0, y1, y2, y3, y4, y5, y6]
end Go.Proofs.YtffckpkikdlbpaaGreatDoor

namespace Go.Proofs.YtffckpkikdlbpaaGreatDoor
open Go.RowKit Go.Maps
structure Ac where
  wh : Int
  fc : Int
  p : PI
  h : Hd
  more : Int
  la : Bool
def acC (x : Ac) : Array Value := #[.int .i64 x.wh, .int .i64 x.fc, .int .u32 (x.p.a : Int), .int .i64 x.p.l, .int .i64 x.h.f, .int .u32 (x.h.a : Int), .int .i64 x.h.m, .int .i64 x.more, .bool x.la]
end Go.Proofs.YtffckpkikdlbpaaGreatDoor

namespace Go.Proofs.YtffckpkikdlbpaaGreatDoor
open Go.RowKit Go.Maps
attribute [local go_sem] Oper.semAt_some
theorem post_takes {P : Program} {fn : Func} {R : Ending → World → Prop} {a : Act} {w : World} (h : Takes a.defers w (fun w' => ∃ v, (results fn a.tmps).run P w' = .ok v w' ∧ R (.returned v) w')) : bodyPostM P fn R Exit.ret a w := h
theorem few_any (c : Cf) (A : Option Addr) (n m : Nat) (w : World) : Calls Tryz.prog 9 #[cfV c A n m] w fun e w' => e = .returned (.bool (decide ((n : Int) ≤ 20))) ∧ Kp w w' := by
  have B := Blk.new w 24 (cfC c A n m)
  have s8 : (w.alloc (.cells (cfC c A n m) 24)).cell? ⟨w.heap.size, 8, none⟩ = some (.slice A n m) := B.cell 8
  unfold cfC at s8
  clear B
  go_enter Tryz.func9, Tryz.ntmps9
  go_wp2_with fail
  go_ret
  exact ⟨rfl, (Kp.refl _).alloc _⟩
def atV (x : Ac) (now : Int) : Int := if x.la = true ∧ 0 ≤ x.more ∧ x.more ≤ 1000 ∧ now < 2305843009213693952 then now + x.more else x.more
set_option maxRecDepth 100000 in
set_option maxHeartbeats 2000000 in
theorem at_any (x : Ac) (now : Int) (w : World) (hn : 0 ≤ now) : Calls Tryz.prog 21 #[.agg (acC x), .int .i64 now] w fun e w' => e = .returned (.int .i64 (atV x now)) ∧ Kp w w' := by
  have B := Blk.new w 33 (acC x)
  obtain ⟨b, hb⟩ : ∃ b, w.heap.size = b := ⟨_, rfl⟩
  obtain ⟨W, hW, kW, p7, p8⟩ : ∃ W, w.alloc (.cells (acC x) 33) = W ∧ Kp w W ∧ W.cell? ⟨b, 7, none⟩ = some (.int .i64 x.more) ∧ W.cell? ⟨b, 8, none⟩ = some (.bool x.la) := ⟨_, rfl, (Kp.refl _).alloc _, by rw [← hb]; exact B.cell 7, by rw [← hb]; exact B.cell 8⟩
  clear B
  unfold acC at hW ⊢
  have HN := Lib.hid hn
  clear hn
  cases hl : x.la with
  | false =>
    rw [hl] at p8 hW
    have H := Lib.hid (show atV x now = x.more by unfold atV; rw [hl, if_neg (by simp)])
    clear hl
    go_enter Tryz.func21, Tryz.ntmps21
    go_wp2_with fail
    go_ret
    exact ⟨by rw [H.out]; rfl, kW⟩
  | true =>
    rw [hl] at p8 hW
    by_cases h0 : 0 ≤ x.more
    · have d0 : decide (0 ≤ x.more) = true := decide_eq_true h0
      by_cases h1 : x.more ≤ 1000
      · have d1 : decide (x.more ≤ 1000) = true := decide_eq_true h1
        by_cases h2 : now < 2305843009213693952
        · have d2 : decide (now < 2305843009213693952) = true := decide_eq_true h2
          have H := Lib.hid (show atV x now = now + x.more by unfold atV; rw [hl, if_pos ⟨rfl, h0, h1, h2⟩])
          have n1 : -9223372036854775808 ≤ now + x.more := by have := HN.out; omega
          have n2 : now + x.more ≤ 9223372036854775807 := by omega
          clear hl h0 h1 h2
          go_enter Tryz.func21, Tryz.ntmps21
          go_wp2_with fail
          go_ret
          exact ⟨by rw [H.out]; rfl, kW⟩
        · have d2 : decide (now < 2305843009213693952) = false := decide_eq_false h2
          have H := Lib.hid (show atV x now = x.more by unfold atV; rw [if_neg (fun z => h2 z.2.2.2)])
          clear hl h0 h1 h2
          go_enter Tryz.func21, Tryz.ntmps21
          go_wp2_with fail
          go_ret
          exact ⟨by rw [H.out]; rfl, kW⟩
      · have d1 : decide (x.more ≤ 1000) = false := decide_eq_false h1
        have H := Lib.hid (show atV x now = x.more by unfold atV; rw [if_neg (fun z => h1 z.2.2.1)])
        clear hl h0 h1
        go_enter Tryz.func21, Tryz.ntmps21
        go_wp2_with fail
        go_ret
        exact ⟨by rw [H.out]; rfl, kW⟩
    · have d0 : decide (0 ≤ x.more) = false := decide_eq_false h0
      have H := Lib.hid (show atV x now = x.more by unfold atV; rw [if_neg (fun z => h0 z.2.1)])
      clear hl h0
      go_enter Tryz.func21, Tryz.ntmps21
      go_wp2_with fail
      go_ret
      exact ⟨by rw [H.out]; rfl, kW⟩
theorem all_seq43 (bx : Nat) (w : World) : (binOp .eql 43 (.func (.func 42) #[] #[.pointer (some ⟨bx, 0, none⟩)]) .nilFunc).run Tryz.prog w = .ok (.bool false) w := by kernel_rfl
def GI (w0 ws : World) (s : Nat) (L : List Rt) (k : Nat) (W : World) : Prop := ∃ v, Blk W s 37 #[v] ∧ Own W (ws.heap.size + 1 + 1) 48 9 Rt.enc v (L.take k) ∧ Only [s] ws W ∧ Kp w0 W
theorem GI.only {w0 ws W W' : World} {s k : Nat} {L : List Rt} {bs : List Nat} (h : GI w0 ws s L k W) (k' : Only bs W W') (hb : ∀ b ∈ bs, ws.heap.size ≤ b ∧ b < ws.heap.size + 1 + 1) (hs : s < ws.heap.size) (h0 : w0.heap.size ≤ s) : GI w0 ws s L k W' := by
  obtain ⟨v, h1, h2, h3, h4⟩ := h
  exact ⟨v, h1.only k' (fun z => by have := hb s z; omega), h2.only k' (fun b z => (hb b z).2), h3.over (F1 := [s] ++ bs) (fun b z => by
    rcases List.mem_append.1 z with z | z
    · exact .inl z
    · exact .inr (hb b z).1) (k'.more (fun b z => List.mem_append.2 (.inr z))), k'.kp h4 (fun b z => by have := hb b z; omega)⟩
theorem GI.keep {w0 ws W W' : World} {s k : Nat} {L : List Rt} (h : GI w0 ws s L k W) (k' : Kp W W') (hs : s < ws.heap.size) (h0 : w0.heap.size ≤ s) : GI w0 ws s L k W' := h.only (bs := []) (Only.of_kp k') (by simp) hs h0
set_option maxRecDepth 100000 in
set_option maxHeartbeats 4000000 in
theorem alike_same (B t C u : Nat) (F G : List Nat) (T U : Tb) (w : World) (h1 : TabM w B t F T) (h2 : TabM w C u G U) (hl : T.l = U.l) :
    Calls Tryz.prog 25 #[.pointer (some ⟨t, 0, none⟩), .pointer (some ⟨u, 0, none⟩)] w fun e w' => e = .returned (.bool true) ∧ Kp w w' := by
  obtain ⟨L, hL⟩ : ∃ L, T.l = L := ⟨_, rfl⟩
  have hn : L.length ≤ 900000 := by
    obtain ⟨q, mp, m, A, QF, l, _, X⟩ := h1
    rw [← hL]
    exact X.n
  have HA := Lib.hid (all_any B t F T w h1)
  have HB : Hid (∀ W, Kp w W → Calls Tryz.prog 12 #[.pointer (some ⟨u, 0, none⟩)] W (AllP L W)) := Lib.hid (fun W k => by have := all_any C u G U W (h2.keep k); rwa [← hl, hL] at this)
  rw [hL] at HA
  clear h1 h2 hl hL
  refine calls_of_wp_marks Tryz.func25 rfl ?_; simp only [Tryz.ntmps25, List.size_toArray, List.length_cons, List.length_nil, Nat.reduceAdd, Nat.reduceSub, Array.replicate_succ, Array.replicate_zero, List.push_toArray, List.append_toArray, List.nil_append, List.cons_append]
  go_wp2_with fail
  refine HA.out.mono ?_
  rintro e w1 ⟨x1, A1, c1, rfl, hM1, K1, -, q1⟩
  have HM1 := Lib.hid hM1
  have hx1 := hM1.bx.lt
  clear hM1
  unfold allV
  go_wp2_with fail
  refine (HB.out w1 K1).mono ?_
  rintro e w2 ⟨x2, A2, c2, rfl, hM2, K2, -, q2⟩
  have hx2 := hM2.bx.lt
  have HMX := Lib.hid (show x1 < w2.heap.size ∧ ∀ a, A1 = some a → a.block < w2.heap.size from ⟨by have := K2.size; omega, fun a e => by have := (q1 a e).2; have := K2.size; omega⟩)
  have HMY := Lib.hid (show x2 < w2.heap.size ∧ ∀ a, A2 = some a → a.block < w2.heap.size from ⟨hx2, fun a e => by have := (q2 a e).2; omega⟩)
  have HM1b := Lib.hid (HM1.out.keep K2)
  have HM2 := Lib.hid hM2
  have HK2 := Lib.hid (K1.trans K2)
  have hq1 := fun w => all_seq43 x1 w
  have hq2 := fun w => all_seq43 x2 w
  clear hM2 HM1 K1 K2 HA HB q1 q2 hx1 hx2
  unfold allV
  go_wp2_with fail
  clear hq1 hq2
  obtain ⟨b, hb⟩ : ∃ b, w2.heap.size = b := ⟨_, rfl⟩
  obtain ⟨ws, hws, S0, B2, KS, hsz0⟩ : ∃ ws, (w2.alloc (.cells #[.slice none 0 0] 37)).alloc (.cells #[.slice none 0 0] 37) = ws ∧ GI w2 ws b L 0 ws ∧ Blk ws (b + 1) 37 #[.slice none 0 0] ∧ Kp w2 ws ∧ ws.heap.size = b + 1 + 1 := by
    have k : Kp w2 ((w2.alloc (.cells #[.slice none 0 0] 37)).alloc (.cells #[.slice none 0 0] 37)) := ((Kp.refl _).alloc _).alloc _
    refine ⟨_, rfl, ⟨_, by rw [← hb]; exact (Blk.new w2 _ _).alloc _, by rw [List.take_zero]; exact Own.nil _ _ _ _ _, Only.refl _ _, k⟩, by rw [← hb]; exact Blk.new1 w2 _ _ _, k, by simp [hb]⟩
  rw [hws, hb]
  have Hsz := Lib.hid hsz0
  have Hb := Lib.hid (show w2.heap.size ≤ b by omega)
  have HB2 := Lib.hid B2
  have HM1c := Lib.hid (HM1b.out.keep KS)
  have HM2c := Lib.hid (HM2.out.keep KS)
  clear hws hsz0 hb B2 HM1b HM2 KS
  have Hn := Lib.hid hn
  clear hn
  refine wp_range_join_a (N := L.length) rfl call_all1 (all1_iter x1 A1 c1 L Hn.out) (fun _ _ => rfl)
    (GI w2 ws b L) (fun _ _ => False) (GI w2 ws b L L.length)
    ?_ (fun _ _ _ h => h.elim) ?_ S0 (fun _ h => h) (fun _ _ _ _ h => h.elim) ?_ ?_
  · intro k V V' h hO
    exact h.only hO (by simp <;> omega) (by have := Hsz.out; omega) (by have := Hb.out; omega)
  · intro k V h
    obtain ⟨v, _, _, h3, _⟩ := h
    exact HM1c.out.only h3 (by have := HMX.out.1; have := Hb.out; simp; omega) (fun a e => by have := HMX.out.2 a e; have := Hb.out; simp; omega)
  · rintro l k V hk h hsV
    have HI := Lib.hid h
    rw [rtAt_eq hk]
    obtain ⟨r, hr⟩ : ∃ r, L[k] = r := ⟨_, rfl⟩
    rw [hr]
    have HRK := Lib.hid hr
    have hsW := Lib.hid (show b < ws.heap.size by have := Hsz.out; omega)
    have hs0 := Lib.hid (show w2.heap.size ≤ b by have := Hb.out; omega)
    clear h hr
    gi_wp2_with fail
    refine ⟨?_, fun U => Blk U V.heap.size 48 (roC r) ∧ GI w2 ws b L k U, ⟨Blk.new _ _ _, HI.out.keep ((Kp.refl _).alloc _) hsW.out hs0.out⟩, ?_, ?_⟩
    · rw [Kept2]
      exact ⟨Below.heap_alloc _ _ _ (by omega), Below.heap_alloc _ _ _ (by omega)⟩
    · rintro U U' ⟨h0, h1⟩ hO
      exact ⟨h0.only hO (by simp <;> omega), h1.only hO (by simp <;> omega) hsW.out hs0.out⟩
    · rintro V2 ⟨h0, v, h1, h2, h3, h4⟩ hsz
      have x0 : V2.cell? ⟨b, 0, none⟩ = some v := h1.cell 0
      have z0 := h1.frozen 0
      obtain ⟨r0, r1, r2, r3, r4, r5, r6, r7, r8⟩ := ro_cells h0
      obtain ⟨M, hM⟩ : ∃ M, L.take k = M := ⟨_, rfl⟩
      have HLn := Lib.hid (show M.length = k by rw [← hM, List.length_take]; omega)
      have Htk := Lib.hid (show M ++ [r] = L.take (k + 1) by rw [← hM, List.take_succ_eq_append_getElem hk, HRK.out])
      rw [hM] at h2
      clear hM
      have n1 := hsW.out
      have n2 := hs0.out
      refine wpIn_block ?_
      refine round_list (by kernel_rfl) (no_out_block no_out_round) ?_
      go_wp2_with (at_builtin; go_must (refine wpList_appx ERtR rfl _ _ rfl r rfl h2 h4 (by omega) (by omega) rfl rfl rfl rfl rfl (by rw [HLn.out]; have := Hn.out; omega) ?_); intro v' w2' hown' hK' hg; obtain ⟨A9, c9, rfl⟩ := hown'.form1; have B9 := h1.grown hg (h2.ne (by omega)); have cc9 : w2'.cell? ⟨b, 0, none⟩ = some v := B9.cell 0; have zz := B9.frozen 0)
      have e1 : w2'.heap[ws.heap.size]? = V2.heap[ws.heap.size]? := hg.block _ (by omega) (h2.ne (by omega))
      have e2 : w2'.heap[ws.heap.size + 1]? = V2.heap[ws.heap.size + 1]? := hg.block _ (by omega) (h2.ne (by omega))
      refine ⟨⟨(Below.heap_setCell w2' ⟨b, 0, none⟩ _ _ (show ws.heap.size ≠ b by omega)).trans e1, (Below.heap_setCell w2' ⟨b, 0, none⟩ _ _ (show ws.heap.size + 1 ≠ b by omega)).trans e2⟩, _, B9.set_ 0 _, ?_, (h3.grown hg (fun q hq => ?_)).setCell (.inl (by simp)) _, hK'.setCell (p := ⟨b, 0, none⟩) (show w2.heap.size ≤ b by omega) _⟩
      · rw [← Htk.out]
        exact hown'.setBelow (p := ⟨b, 0, none⟩) (show b < ws.heap.size + 1 + 1 by omega) _
      · have := World.ownsRow.lt h2 q hq
        omega
  · rintro w3 hG3 hd3
    have HD3 := Lib.hid hd3
    obtain ⟨v1, S1, O1, N1, K3⟩ := hG3
    rw [List.take_length] at O1
    obtain ⟨A3, c3, rfl, R3⟩ := O1.rd (by decide) Rt.len
    have HR3 := Lib.hid R3
    have HA3 := Lib.hid (show ∀ a, A3 = some a → b + 1 + 1 ≤ a.block from fun a e => by subst e; have := (World.ownsRow.lt O1 a.block rfl).1; have := Hsz.out; omega)
    have HS1 := Lib.hid S1
    have B3 := HB2.out.only N1 (by simp)
    have hw3 := N1.size
    have S2 : GI w2 w3 (b + 1) L 0 w3 := ⟨_, B3, by rw [List.take_zero]; exact Own.nil _ _ _ _ _, Only.refl _ _, K3⟩
    have HM2d := Lib.hid (HM2c.out.only N1 (by have := HMY.out.1; have := Hb.out; simp; omega) (fun a e => by have := HMY.out.2 a e; have := Hb.out; simp; omega))
    have Hsz3 := Lib.hid (show b + 1 < w3.heap.size by have := Hsz.out; omega)
    clear hd3 S1 O1 R3 HB2 HM1c HM2c B3 hw3 K3
    go_wp2_with fail
    refine wp_range_join_a (N := L.length) rfl call_all1 (all1_iter x2 A2 c2 L Hn.out) (fun _ _ => rfl)
      (GI w2 w3 (b + 1) L) (fun _ _ => False) (GI w2 w3 (b + 1) L L.length)
      ?_ (fun _ _ _ h => h.elim) ?_ S2 (fun _ h => h) (fun _ _ _ _ h => h.elim) ?_ ?_
    · intro k V V' h hO
      exact h.only hO (by simp <;> omega) (by have := Hsz.out; have := Hsz3.out; omega) (by have := Hb.out; omega)
    · intro k V h
      obtain ⟨v, _, _, h3, _⟩ := h
      exact HM2d.out.only h3 (by have := HMY.out.1; have := Hb.out; simp; omega) (fun a e => by have := HMY.out.2 a e; have := Hb.out; simp; omega)
    · rintro l k V hk h hsV
      have HI := Lib.hid h
      rw [rtAt_eq hk]
      obtain ⟨r, hr⟩ : ∃ r, L[k] = r := ⟨_, rfl⟩
      rw [hr]
      have HRK := Lib.hid hr
      have hsW := Lib.hid (show (b + 1) < w3.heap.size by have := Hsz.out; have := Hsz3.out; omega)
      have hs0 := Lib.hid (show w2.heap.size ≤ (b + 1) by have := Hb.out; omega)
      clear h hr
      gi_wp2_with fail
      refine ⟨?_, fun U => Blk U V.heap.size 48 (roC r) ∧ GI w2 w3 (b + 1) L k U, ⟨Blk.new _ _ _, HI.out.keep ((Kp.refl _).alloc _) hsW.out hs0.out⟩, ?_, ?_⟩
      · rw [Kept2]
        exact ⟨Below.heap_alloc _ _ _ (by omega), Below.heap_alloc _ _ _ (by omega)⟩
      · rintro U U' ⟨h0, h1⟩ hO
        exact ⟨h0.only hO (by simp <;> omega), h1.only hO (by simp <;> omega) hsW.out hs0.out⟩
      · rintro V2 ⟨h0, v, h1, h2, h3, h4⟩ hsz
        have x0 : V2.cell? ⟨(b + 1), 0, none⟩ = some v := h1.cell 0
        have z0 := h1.frozen 0
        obtain ⟨r0, r1, r2, r3, r4, r5, r6, r7, r8⟩ := ro_cells h0
        obtain ⟨M, hM⟩ : ∃ M, L.take k = M := ⟨_, rfl⟩
        have HLn := Lib.hid (show M.length = k by rw [← hM, List.length_take]; omega)
        have Htk := Lib.hid (show M ++ [r] = L.take (k + 1) by rw [← hM, List.take_succ_eq_append_getElem hk, HRK.out])
        rw [hM] at h2
        clear hM
        have n1 := hsW.out
        have n2 := hs0.out
        refine wpIn_block ?_
        refine round_list (by kernel_rfl) (no_out_block no_out_round) ?_
        go_wp2_with (at_builtin; go_must (refine wpList_appx ERtR rfl _ _ rfl r rfl h2 h4 (by omega) (by omega) rfl rfl rfl rfl rfl (by rw [HLn.out]; have := Hn.out; omega) ?_); intro v' w2' hown' hK' hg; obtain ⟨A9, c9, rfl⟩ := hown'.form1; have B9 := h1.grown hg (h2.ne (by omega)); have cc9 : w2'.cell? ⟨(b + 1), 0, none⟩ = some v := B9.cell 0; have zz := B9.frozen 0)
        have e1 : w2'.heap[w3.heap.size]? = V2.heap[w3.heap.size]? := hg.block _ (by omega) (h2.ne (by omega))
        have e2 : w2'.heap[w3.heap.size + 1]? = V2.heap[w3.heap.size + 1]? := hg.block _ (by omega) (h2.ne (by omega))
        refine ⟨⟨(Below.heap_setCell w2' ⟨(b + 1), 0, none⟩ _ _ (show w3.heap.size ≠ (b + 1) by omega)).trans e1, (Below.heap_setCell w2' ⟨(b + 1), 0, none⟩ _ _ (show w3.heap.size + 1 ≠ (b + 1) by omega)).trans e2⟩, _, B9.set_ 0 _, ?_, (h3.grown hg (fun q hq => ?_)).setCell (.inl (by simp)) _, hK'.setCell (p := ⟨(b + 1), 0, none⟩) (show w2.heap.size ≤ (b + 1) by omega) _⟩
        · rw [← Htk.out]
          exact hown'.setBelow (p := ⟨(b + 1), 0, none⟩) (show (b + 1) < w3.heap.size + 1 + 1 by omega) _
        · have := World.ownsRow.lt h2 q hq
          omega
    · rintro w4 hG4 hd4
      obtain ⟨v2, S2, O2, N2, K4⟩ := hG4
      rw [List.take_length] at O2
      obtain ⟨A4, c4, rfl, R4⟩ := O2.rd (by decide) Rt.len
      have n3 := Hsz3.out
      have n0 := Hsz.out
      have hws := (Array.getElem?_eq_some_iff.1 HD3.out).1
      have S1 := HS1.out.only N2 (by simp)
      have R3 : Rd w4 9 Rt.enc A3 L := fun i hi => by
        obtain ⟨b', off, e, hc⟩ := HR3.out i hi
        refine ⟨b', off, e, fun j u hu => N2.cell (hc j u hu) (fun z => ?_)⟩
        have := HA3.out ⟨b', off, none⟩ e
        simp at z
        have : b + 1 + 1 ≤ b' := this
        omega
      have d3 : w4.heap[ws.heap.size]? = some (.deferred (some [])) := (N2.block ws.heap.size hws (by simp; omega)).trans HD3.out
      have g1 : w4.cell? ⟨b, 0, none⟩ = some (.slice A3 L.length c3) := S1.cell 0
      have g2 : w4.cell? ⟨b + 1, 0, none⟩ = some (.slice A4 L.length c4) := S2.cell 0
      have HD4 := Lib.hid (And.intro d3 hd4)
      clear d3 hd4 S1 S2 O2 N2 n0
      go_wp2_with fail
      refine (rroutesame_any L L A3 A4 c3 c4 w4 R3 R4 (by have := Hn.out; omega) (by have := Hn.out; omega)).mono ?_
      rintro e w5 ⟨rfl, K5⟩
      rw [decide_eq_true rfl]
      have k5 := K4.trans K5
      have e5 : ∀ r, w4.heap[r]? = some (Obj.deferred (some [])) → w5.heap[r]? = some (Obj.deferred (some [])) := fun r h => (K5.heap (Array.getElem?_eq_some_iff.1 h).1).trans h
      go_wp2_with fail
      refine post_takes ?_
      refine takes_all [w3.heap.size, ws.heap.size] w5 (by simp; omega) (fun r hr => ?_) (fun W' hO => ⟨.bool true, ?_, rfl, hO.kp (HK2.out.trans k5) (fun r hr => ?_)⟩)
      · simp only [List.mem_cons, List.not_mem_nil, or_false] at hr
        rcases hr with rfl | rfl
        · exact e5 _ HD4.out.2
        · exact e5 _ HD4.out.1
      · simp [results, Tryz.results25, go_sem]
      · have := HK2.out.size
        have := Hb.out
        have := Hsz.out
        simp only [List.mem_cons, List.not_mem_nil, or_false] at hr
        rcases hr with rfl | rfl <;> omega
end Go.Proofs.YtffckpkikdlbpaaGreatDoor

namespace Go.Proofs.YtffckpkikdlbpaaGreatDoor
open Go.ChangeShapes Go.WideShapes Go.ChangeAt Go.RowKit Go.Joins Go.Deep
theorem Tryz.own : ownKnob Tryz.prog.godebug = none := by kernel_rfl
theorem Tryz.laidOut : laidOutB Tryz.prog = true := by kernel_rfl
section
variable {H : Type} {enc : TypeId × Value → H}
theorem trodAll_kp {W W' : World} (hK : Kp W W') {sp : Nat → Bool} : ∀ {ts : List TypeId} {vs : List Value} {ds : List (DataW H)} {ps : List MemPlace},
    (∀ t ∈ ts, Tryz.prog.readableRec t = true ∧ t < Tryz.prog.types.size) → (∀ p ∈ ps, p.block < W.heap.size) → (∀ p ∈ ps, sp p.block = true) →
    DataW.TrodAll enc Tryz.prog W 0 (fun _ => true) true ts vs ds ps → DataW.TrodAll enc Tryz.prog W' 0 sp true ts vs ds ps
  | [], [], [], _, _, _, _, h => h
  | [], _ :: _, _, _, _, _, _, h => h.elim
  | [], [], _ :: _, _, _, _, _, h => h.elim
  | _ :: _, [], _, _, _, _, _, h => h.elim
  | _ :: _, _ :: _, [], _, _, _, _, h => h.elim
  | t :: ts, v :: vs, d :: ds, ps, hr, hlt, hsp, ⟨p, q, h1, h2, e⟩ => by
    subst e
    refine ⟨p, q, ?_, trodAll_kp hK (fun t ht => hr t (by simp [ht])) (fun x hx => hlt x (by simp [hx])) (fun x hx => hsp x (by simp [hx])) h2, rfl⟩
    exact WideElems.Trod_stays Tryz.laidOut (hr t (by simp)).1 (hr t (by simp)).2 h1 (fun x hx => Below.same hK (hlt x (by simp [hx]))) (fun x hx => hsp x (by simp [hx]))
set_option maxRecDepth 100000 in
theorem law_post {f : Func} {s : ChangeSpec} {apart fresh handsOn again : Bool} {W W' : World} {args : Array Value} {ds : List (DataW H)} {before : List MemPlace}
    (hW : DataW.Whole enc Tryz.prog f.params.toList s.vars apart W args.toList ds [] before) (hv : s.vars = []) (hres : f.resultTypes = #[4])
    (h1 : (s.fn H (ds ++ [])).results = [.lit (.bool true)]) (h2 : (s.fn H (ds ++ [])).args = ds) (h3 : (s.fn H (ds ++ [])).vars = [])
    (hr : ∀ t ∈ f.params.toList, Tryz.prog.readableRec t = true ∧ t < Tryz.prog.types.size) (hK : Kp W W') :
    s.post enc Tryz.prog f apart fresh handsOn again W args (.bool true) W' := by
  have hW' := hW
  obtain ⟨p, q, hA, hV, he, hz, hn⟩ := hW'
  rw [hv] at hV
  obtain ⟨_, rfl⟩ := trodVars_none hV
  rw [List.append_nil] at he
  obtain rfl : p = before := he.symm
  have hlt : ∀ x ∈ p, x.block < W.heap.size := fun x hx => hW.lt x (by simpa using hx)
  have hold : ∀ x ∈ p, (fun b => decide (b < W.heap.size)) x.block = true := fun x hx => by simpa using hlt x hx
  have hresults : ∀ (b : Nat) (sp : Nat → Bool) (hd : Bool), DataW.TrodAll enc Tryz.prog W' b sp hd f.resultTypes.toList ((Value.bool true).resultList f.resultTypes.size) (s.fn H (ds ++ [])).results [] := by
    intro b sp hd
    rw [hres, h1]
    exact trodAll_mk1 (shut_bool Tryz.underlying4 true)
  have hargs : ∀ sp : Nat → Bool, (∀ x ∈ p, sp x.block = true) → DataW.TrodAll enc Tryz.prog W' 0 sp true f.params.toList args.toList (s.fn H (ds ++ [])).args p := by
    intro sp hsp
    rw [h2]
    exact trodAll_kp hK hr hlt hsp hA
  have hvars : ∀ sp : Nat → Bool, DataW.TrodVars enc Tryz.prog W' sp s.vars (s.fn H (ds ++ [])).vars [] := by
    intro sp; rw [hv, h3]; rfl
  refine ⟨ds, [], p, [], p, [], hW, hresults _ _ _, hargs _ hold, hvars _, World.keptBut_mono (fun x hx => ⟨hx, ?_⟩) (Below.frame hK (· ∈ p)), fun _ => ?_⟩
  · exact Or.inr (by simpa using hx)
  · refine ⟨?_, _, _, ([] ++ p) ++ [], ⟨[] ++ p, [], trodAll_append (hargs _ (fun _ _ => rfl)) (hresults _ _ _), hvars _, rfl, ?_, ?_⟩, ?_⟩
    · exact ok_one hres rfl (okWide_bool_mk Tryz.underlying4 true)
    · intro b off hp
      have hin : MemPlace.cell b off ∈ p := by simpa using hp
      rw [Below.frozen hK (hlt _ hin)]
      exact hz b off (by simpa using hin)
    · intro ha
      simpa using hn ha
    · intro x hx _
      simpa using hx
theorem rd_of_slice {α : Type} {W : World} {fuel : Nat} {v : Value} {x : DataW H × List MemPlace} {t e sz : Nat} (enc' : α → List Value) (good : α → Prop) (henc : ∀ y, (enc' y).length = sz) (ht : Tryz.prog.underlying t = some (.slice e)) (hsz : Tryz.prog.cellsOf e = sz) (hs0 : 0 < sz)
    (hel : ∀ (cs : List Value) (n : Nat) (x : DataW H × List MemPlace), DataW.trod enc Tryz.prog W 0 (fun _ => true) true n e cs = some x → ∃ y, cs = enc' y ∧ good y)
    (h : DataW.trod enc Tryz.prog W 0 (fun _ => true) true fuel t [v] = some x) : ∃ A c ys, v = .slice A ys.length c ∧ ys.length ≤ maxLen ∧ Rd W sz enc' A ys ∧ ∀ y ∈ ys, good y := by
  rcases open_slice ht h with ⟨hc, _⟩ | ⟨a, len, cap, m, n, D, Pl, hc, _, hl, hm, hmm, _, hi⟩
  · exact ⟨none, 0, [], by simpa using hc, by simp, Rd.nil _ _ _ _, by simp⟩
  · simp only [if_true] at hmm
    subst hmm
    rw [hsz] at hi
    by_cases h0 : len = 0
    · subst h0
      exact ⟨some a, m, [], by simpa using hc, by simp, Rd.nil _ _ _ _, by simp⟩
    have key : ∀ i, i < len → ∃ y, good y ∧ ∀ j u, (enc' y)[j]? = some u → W.cell? (a.add (i * sz + j)) = some u := by
      intro i hi'
      obtain ⟨cs', hcs, htr⟩ := hi i (by omega)
      obtain ⟨y, rfl, hg⟩ := hel cs' n _ htr
      obtain ⟨_, hlen, hat⟩ := World.cells?_some hcs
      refine ⟨y, hg, fun j u hu => ?_⟩
      have hj : j < sz := by have := (List.getElem?_eq_some_iff.1 hu).1; rw [henc] at this; exact this
      have := hat j hj
      rw [Go.Deep.add_add] at this
      rw [this, hu]
    obtain ⟨y0, hg0, hy0⟩ := key 0 (by omega)
    have hf : ∃ f : Nat → α, ∀ i, i < len → good (f i) ∧ ∀ j u, (enc' (f i))[j]? = some u → W.cell? (a.add (i * sz + j)) = some u := by
      refine ⟨fun i => if hi' : i < len then Classical.choose (key i hi') else y0, fun i hi' => ?_⟩
      simp only [hi', dif_pos]
      exact Classical.choose_spec (key i hi')
    obtain ⟨f, hf⟩ := hf
    have hsp : ∃ b off, a = ⟨b, off, none⟩ := by
      have h1 : 0 < (enc' (f 0)).length := by rw [henc]; exact hs0
      have := (hf 0 (by omega)).2 0 _ (List.getElem?_eq_getElem h1)
      simp only [Nat.zero_mul, Nat.add_zero] at this
      have h2 := World.cell?_spot this
      obtain ⟨b, off, spot⟩ := a
      simp [Addr.add] at h2
      subst h2
      exact ⟨b, off, rfl⟩
    obtain ⟨b, off, rfl⟩ := hsp
    refine ⟨some ⟨b, off, none⟩, m, (List.range len).map f, by simpa using hc, by simp; omega, ?_, ?_⟩
    · intro i hi'
      have hi2 : i < len := by simpa using hi'
      refine ⟨b, off, rfl, fun j u hu => ?_⟩
      have := (hf i hi2).2 j u (by simpa using hu)
      have hadd : (⟨b, off, none⟩ : Addr).add (i * sz + j) = ⟨b, off + i * sz + j, none⟩ := by
        unfold Addr.add; split <;> simp_all [Nat.add_assoc]
      rw [hadd] at this
      exact this
    · intro y hy
      obtain ⟨i, hi', rfl⟩ := List.mem_map.1 hy
      exact (hf i (by simpa using hi')).1
end
end Go.Proofs.YtffckpkikdlbpaaGreatDoor
