/- Lemmas and contracts for the theorem of this claim: LwE, LwF. -/
import Derived.Test.YtffckpkikdlbpaaGreatDoorZrBl
set_option linter.unusedSimpArgs false
set_option linter.unusedVariables false
namespace Go.Proofs.YtffckpkikdlbpaaGreatDoor
open Go.RowKit Go.Maps
attribute [local go_sem] Oper.semAt_some
theorem all_seq_some (bx : Nat) (w : World) : (binOp .eql 42 (.func (.func 42) #[] #[.pointer (some ⟨bx, 0, none⟩)]) .nilFunc).run Tryz.prog w = .ok (.bool false) w := by kernel_rfl
theorem takes_oneR {W : World} {r : Nat} (hd : W.heap[r]? = some (.deferred (some []))) {K : World → Prop} (h : ∀ W', Only [r] W W' → K W') : Takes [{ target := .collected r, args := #[] }] W K :=
  ⟨r, rfl, hd, h _ ((Only.refl [r] W).putObj (by simp) _)⟩
/-- The law's cells: what is wanted, how many, its result, how many came. -/
structure RwS (w : World) (sl : Value) (m n : Int) (C : Prop) (W : World) : Prop where
  k : Kp w W
  s : Blk W w.heap.size 37 #[sl]
  m : Blk W (w.heap.size + 1) 3 #[.int .i64 m]
  o : Blk W (w.heap.size + 1 + 1) 4 #[.bool false]
  n : Blk W (w.heap.size + 1 + 1 + 1) 3 #[.int .i64 n]
  c : C
theorem RwS.only {w W W' : World} {sl : Value} {m n : Int} {C : Prop} {bs : List Nat} (h : RwS w sl m n C W) (hO : Only bs W W') (hb : ∀ b ∈ bs, w.heap.size + 1 + 1 + 1 < b) : RwS w sl m n C W' :=
  have far : ∀ x, x ≤ w.heap.size + 1 + 1 + 1 → x ∉ bs := fun x hx hm => by have := hb x hm; omega
  ⟨hO.kp h.k (fun b hm => by have := hb b hm; omega), h.s.only hO (far _ (by omega)), h.m.only hO (far _ (by omega)), h.o.only hO (far _ (by omega)), h.n.only hO (far _ (by omega)), h.c⟩
theorem RwS.keep {w W W' : World} {sl : Value} {m n : Int} {C : Prop} (h : RwS w sl m n C W) (k : Kp W W') : RwS w sl m n C W' := ⟨h.k.trans k, h.s.keep k, h.m.keep k, h.o.keep k, h.n.keep k, h.c⟩
theorem RwS.next {w W : World} {sl : Value} {m n : Int} {C : Prop} (h : RwS w sl m n C W) (n' : Int) {C' : Prop} (hC : C') : RwS w sl m n' C' (W.setCell ⟨w.heap.size + 1 + 1 + 1, 0, none⟩ (.int .i64 n')) :=
  ⟨h.k.setCell (by simp <;> omega) _, h.s.far (by simp <;> omega) _, h.m.far (by simp <;> omega) _, h.o.far (by simp <;> omega) _, by simpa using h.n.set_ 0 (.int .i64 n'), hC⟩
set_option maxRecDepth 100000 in
set_option maxHeartbeats 4000000 in
theorem rows_any (bx : Nat) (A A2 : Option Addr) (c c2 : Nat) (L : List Rt) (m : Int) (w : World) (hM : AllM bx A c L w) (hR : Rd w 9 Rt.enc A2 L) (hn : L.length ≤ 900000) (hm : -9223372036854775808 ≤ m ∧ m < 9223372036854775808) :
    Calls Tryz.prog 15 #[allV bx, .slice A2 L.length c2, .int .i64 m] w fun e w' => e = .returned (.bool true) ∧ Kp w w' := by
  have HM := Lib.hid hM
  have HR := Lib.hid hR
  obtain ⟨hm0, hm1⟩ := hm
  clear hM hR
  unfold allV
  have hsn := all_seq_some bx
  refine calls_of_wp_marks Tryz.func15 rfl ?_; simp only [Tryz.ntmps15, List.size_toArray, List.length_cons, List.length_nil, Nat.reduceAdd, Nat.reduceSub, Array.replicate_succ, Array.replicate_zero, List.push_toArray, List.append_toArray, List.nil_append, List.cons_append]
  go_wp2_with fail
  clear hsn
  obtain ⟨ws, hws, S0, hsz0⟩ : ∃ ws, ((((w.alloc (.cells #[.slice A2 L.length c2] 37)).alloc (.cells #[.int .i64 m] 3)).alloc (.cells #[.bool false] 4)).alloc (.cells #[.int .i64 0] 3)) = ws ∧ RwS w (.slice A2 L.length c2) m 0 ((0 : Int) = 0 ∨ (0 : Int) < m) ws ∧ ws.heap.size = w.heap.size + 1 + 1 + 1 + 1 := by
    refine ⟨_, rfl, ⟨((((Kp.refl _).alloc _).alloc _).alloc _).alloc _, (((Blk.new w _ _).alloc _).alloc _).alloc _, ((Blk.new1 w _ _ _).alloc _).alloc _, (Blk.new2 w _ _ _ _).alloc _, Blk.new3 w _ _ _ _ _, .inl rfl⟩, by simp⟩
  rw [hws]
  have Hsz := Lib.hid hsz0
  clear hws hsz0
  refine wp_range_join_a (N := L.length) rfl call_all1 (all1_iter bx A c L hn) (fun _ _ => rfl)
    (fun k W => RwS w (.slice A2 L.length c2) m k (k = 0 ∨ (k : Int) < m) W)
    (fun k W => RwS w (.slice A2 L.length c2) m k ((k : Int) = max 1 m) W)
    (fun W => RwS w (.slice A2 L.length c2) m (min L.length (max 1 m)) True W)
    ?_ ?_ (fun _ _ h => HM.out.keep h.k) ?_ ?_ ?_ ?_ ?_
  · intro k W W' h hO
    rw [Hsz.out] at hO
    exact h.only hO (by simp)
  · intro k W W' h hO
    rw [Hsz.out] at hO
    exact h.only hO (by simp)
  · exact ⟨S0.k, S0.s, S0.m, S0.o, S0.n, .inl rfl⟩
  · rintro W h
    have e : min (L.length : Int) (max 1 m) = (L.length : Int) := by have := h.c; omega
    exact ⟨h.k, h.s, h.m, h.o, by rw [e]; exact h.n, trivial⟩
  · rintro k W hk0 hkN h
    have e : min (L.length : Int) (max 1 m) = (k : Int) := by have := h.c; omega
    exact ⟨h.k, h.s, h.m, h.o, by rw [e]; exact h.n, trivial⟩
  · rintro l k W hk h hsW
    rw [Hsz.out] at hsW
    have HI := Lib.hid h
    rw [rtAt_eq hk]
    obtain ⟨r, hr⟩ : ∃ r, L[k] = r := ⟨_, rfl⟩
    rw [hr]
    have HRK := Lib.hid hr
    clear h hr
    gi_wp2_with fail
    refine ⟨?_, fun U => Blk U W.heap.size 48 (roC r) ∧ RwS w (.slice A2 L.length c2) m k (k = 0 ∨ (k : Int) < m) U, ⟨Blk.new _ _ _, HI.out.keep ((Kp.refl _).alloc _)⟩, ?_, ?_⟩
    · rw [Kept2, Hsz.out]
      exact ⟨Below.heap_alloc _ _ _ (by omega), Below.heap_alloc _ _ _ (by omega)⟩
    · rintro V V' ⟨h0, h1⟩ hO
      rw [Hsz.out] at hO
      exact ⟨h0.only hO (by simp <;> omega), h1.only hO (by simp)⟩
    · rintro W2 ⟨h0, h1⟩ hsz
      rw [Hsz.out] at hsz
      have HB := Lib.hid h0
      have HS := Lib.hid h1
      have hgi : (k : Int) < (L.length : Int) := by omega
      have hg0 : (0 : Int) ≤ (k : Int) := by omega
      have hne := rt_neq r r
      rw [decide_eq_true rfl] at hne
      clear h0 h1
      refine wpIn_block ?_
      repeat refine wpIn_seq ?_
      refine round_tail 16 (by kernel_rfl) (by kernel_rfl) (by kernel_rfl) (no_out (no_out (no_out_block no_out_round))) (fun V hV => ?_)
      have KV : Kp W2 V := by rw [hV]; exact (Kp.refl _).drew
      have BV := HB.out.keep KV
      have SV := HS.out.keep KV
      obtain ⟨r0, r1, r2, r3, r4, r5, r6, r7, r8⟩ := ro_cells BV
      have OV : Kept2 ws W2 V := by rw [hV]; exact ⟨rfl, rfl⟩
      obtain ⟨b, off, hA, x0, x1, x2, x3, x4, x5, x6, x7, x8⟩ := rt9_at (HR.out.keep SV.k) hk
      rw [HRK.out] at x0 x1 x2 x3 x4 x5 x6 x7 x8
      subst hA
      clear hV
      have g0 : V.cell? ⟨w.heap.size, 0, none⟩ = some (.slice (some ⟨b, off, none⟩) L.length c2) := SV.s.cell 0
      have g3 : V.cell? ⟨w.heap.size + 1 + 1 + 1, 0, none⟩ = some (.int .i64 k) := SV.n.cell 0
      simp only [List.take_succ_cons, List.take_zero, List.drop_succ_cons, List.drop_zero]
      repeat still_step
      refine wpStill_nil ?_
      go_wp2_with fail
      have z3 := SV.n.frozen 0
      have g1 : V.cell? ⟨w.heap.size + 1, 0, none⟩ = some (.int .i64 m) := SV.m.cell 0
      have hlt := SV.m.lt
      have hvs := KV.size
      have kept : ∀ u, Kept2 ws W2 (V.setCell ⟨w.heap.size + 1 + 1 + 1, 0, none⟩ u) := fun u => ⟨(Below.heap_setCell _ _ _ _ (by simp [Hsz.out])).trans OV.1, (Below.heap_setCell _ _ _ _ (by simp [Hsz.out] <;> omega)).trans OV.2⟩
      have Hkept := Lib.hid kept
      have HK := Lib.hid SV.c
      have HN : ∀ C : Prop, C → RwS w (.slice (some ⟨b, off, none⟩) L.length c2) m (↑(k + 1)) C (V.setCell ⟨w.heap.size + 1 + 1 + 1, 0, none⟩ (.int .i64 (k + 1))) := fun C hC => by rw [show ((k + 1 : Nat) : Int) = (k : Int) + 1 from rfl]; exact SV.next _ hC
      have HNN := Lib.hid HN
      clear kept HN x0 x1 x2 x3 x4 x5 x6 x7 x8 r0 r1 r2 r3 r4 r5 r6 r7 r8 hne KV BV OV SV
      by_cases hm : m ≤ (k : Int) + 1
      · gi_wp2_with fail
        exact ⟨Hkept.out _, rfl, HNN.out _ (by have := HK.out; omega)⟩
      · gi_wp2_with fail
        exact ⟨Hkept.out _, HNN.out _ (by omega)⟩
  · rintro W h hd
    rw [Hsz.out] at hd ⊢
    have g0 : W.cell? ⟨w.heap.size, 0, none⟩ = some (.slice A2 L.length c2) := h.s.cell 0
    have g1 : W.cell? ⟨w.heap.size + 1, 0, none⟩ = some (.int .i64 m) := h.m.cell 0
    have g2 : W.cell? ⟨w.heap.size + 1 + 1, 0, none⟩ = some (.bool false) := h.o.cell 0
    have z2 := h.o.frozen 0
    have g3 : W.cell? ⟨w.heap.size + 1 + 1 + 1, 0, none⟩ = some (.int .i64 (min L.length (max 1 m))) := h.n.cell 0
    have KW := h.k
    have O2 := h.o.set_ 0 (.bool true)
    have K2 : Kp w (W.setCell ⟨w.heap.size + 1 + 1, 0, none⟩ (.bool true)) := KW.setCell (by simp <;> omega) _
    have hd2 : (W.setCell ⟨w.heap.size + 1 + 1, 0, none⟩ (.bool true)).heap[w.heap.size + 1 + 1 + 1 + 1]? = some (.deferred (some [])) := (Below.heap_setCell _ _ _ _ (by simp <;> omega)).trans hd
    have HD := Lib.hid hd2
    have HO2 := Lib.hid O2
    have HK2 := Lib.hid K2
    clear hd2 O2 K2 hd KW h
    obtain ⟨N, hN⟩ : ∃ N, min (L.length : Int) (max 1 m) = N := ⟨_, rfl⟩
    rw [hN] at g3
    go_wp2_with fail
    refine takes_oneR HD.out (fun W' hO => ?_)
    have u0 : W'.cell? ⟨w.heap.size + 1 + 1, 0, none⟩ = some (.bool true) := (HO2.out.only hO (by simp)).cell 0
    refine ⟨.bool true, ?_, rfl, hO.kp HK2.out (by simp <;> omega)⟩
    simp [results, Tryz.results15, go_sem, u0]
end Go.Proofs.YtffckpkikdlbpaaGreatDoor

namespace Go.Proofs.YtffckpkikdlbpaaGreatDoor
open Go.RowKit
set_option maxRecDepth 100000 in
set_option maxHeartbeats 1000000 in
theorem rpsame_any (A B : Option Addr) (c d : Nat) (ps : List PI) (w : World) (hR : Rd w 2 PI.enc A ps) (hQ : Rd w 2 PI.enc B ps) (hn : ps.length ≤ 1000000) :
    Calls Tryz.prog 78 #[.slice A ps.length c, .slice B ps.length d] w fun e w' => e = .returned (.bool true) ∧ Kp w w' := by
  have HR := Lib.hid hR
  have HQ := Lib.hid hQ
  clear hR hQ
  go_enter Tryz.func78, Tryz.ntmps78
  go_wp2_with fail
  go_loopw [5] (fun i wr => ∃ k : Nat, k ≤ ps.length ∧ i = .int .i64 k ∧ Kp w wr) (fun i _ => ps.length - (intOf i).toNat)
  case atStart => exact ⟨0, Nat.zero_le _, rfl, Kp.refl _⟩
  case round =>
    obtain ⟨k, hk, rfl, hK⟩ := hrel
    by_cases hlt : k < ps.length
    · have hgi : (k : Int) < (ps.length : Int) := by omega
      have hg0 : (0 : Int) ≤ (k : Int) := by omega
      obtain ⟨b, off, rfl, c0, c1⟩ := pi_at (HR.out.keep hK) hlt
      obtain ⟨b', off', rfl, d0, d1⟩ := pi_at (HQ.out.keep hK) hlt
      have hne := fun u => pfx_neqv u (ps[k].a : Int) ps[k].l (ps[k].a : Int) ps[k].l
      simp only [pi_beq, decide_true] at hne
      go_wp2_with fail
      go_quiet (fail)
      go_wp2_with fail
      go_roundw
      case rel => exact ⟨k + 1, by omega, by go_num, hK.drewN _⟩
      case measure => simp [intOf]; omega
    · obtain rfl : k = ps.length := by omega
      go_wp2_with fail
      go_ret
      exact ⟨rfl, hK⟩
set_option maxRecDepth 100000 in
theorem spans_eqi (c : Cf) (w : World) : (Op.equalIn 10000 95 (.agg #[.int .i64 c.t0, .int .i64 c.t1, .int .i64 c.t2, .int .i64 c.t3, .int .i64 c.t4, .int .i64 c.t5, .int .i64 c.t6]) (.agg #[.int .i64 c.t0, .int .i64 c.t1, .int .i64 c.t2, .int .i64 c.t3, .int .i64 c.t4, .int .i64 c.t5, .int .i64 c.t6])).run Tryz.prog w = .ok true w := by
  obtain ⟨i, hi⟩ : ∃ i, Tryz.prog.info? 2 = some i := Option.isSome_iff_exists.1 (by kernel_rfl)
  have hc : Tryz.prog.cellsOf 2 = 1 := by kernel_rfl
  rw [run_equalIn_array w 9999 _ _ Tryz.underlying95 hi, hc]
  simp [Op.eqItems, List.range_succ, part, go_sem, Tryz.underlying2]
set_option maxRecDepth 100000 in
theorem spans_eql (c : Cf) (w : World) : (binOp .eql 95 (.agg #[.int .i64 c.t0, .int .i64 c.t1, .int .i64 c.t2, .int .i64 c.t3, .int .i64 c.t4, .int .i64 c.t5, .int .i64 c.t6]) (.agg #[.int .i64 c.t0, .int .i64 c.t1, .int .i64 c.t2, .int .i64 c.t3, .int .i64 c.t4, .int .i64 c.t5, .int .i64 c.t6])).run Tryz.prog w = .ok (.bool true) w := by
  rw [run_eql_struct, spans_eqi]
  rfl
set_option maxRecDepth 100000 in
theorem rspans_any (c : Cf) (A : Option Addr) (n m : Nat) (w : World) : Calls Tryz.prog 48 #[cfV c A n m] w fun e w' => e = .returned (.agg #[.int .i64 c.t0, .int .i64 c.t1, .int .i64 c.t2, .int .i64 c.t3, .int .i64 c.t4, .int .i64 c.t5, .int .i64 c.t6]) ∧ Kp w w' := by
  go_enter Tryz.func48, Tryz.ntmps48
  go_wp2_with fail
  have B1 := Blk.new1 w (.cells (cfC c A n m) 24) 95 #[.int .i64 c.t0, .int .i64 c.t1, .int .i64 c.t2, .int .i64 c.t3, .int .i64 c.t4, .int .i64 c.t5, .int .i64 c.t6]
  have K1 : Kp w ((w.alloc (.cells (cfC c A n m) 24)).alloc (.cells #[.int .i64 c.t0, .int .i64 c.t1, .int .i64 c.t2, .int .i64 c.t3, .int .i64 c.t4, .int .i64 c.t5, .int .i64 c.t6] 95)) := ((Kp.refl _).alloc _).alloc _
  unfold cfC at B1 K1
  revert B1 K1
  generalize (w.alloc (.cells _ 24)).alloc (.cells _ 95) = X
  intro B1 K1
  have y0 : X.cell? ⟨w.heap.size + 1, 0, none⟩ = some (.int .i64 c.t0) := B1.cell 0
  have y1 : X.cell? ⟨w.heap.size + 1, 1, none⟩ = some (.int .i64 c.t1) := B1.cell 1
  have y2 : X.cell? ⟨w.heap.size + 1, 2, none⟩ = some (.int .i64 c.t2) := B1.cell 2
  have y3 : X.cell? ⟨w.heap.size + 1, 3, none⟩ = some (.int .i64 c.t3) := B1.cell 3
  have y4 : X.cell? ⟨w.heap.size + 1, 4, none⟩ = some (.int .i64 c.t4) := B1.cell 4
  have y5 : X.cell? ⟨w.heap.size + 1, 5, none⟩ = some (.int .i64 c.t5) := B1.cell 5
  have y6 : X.cell? ⟨w.heap.size + 1, 6, none⟩ = some (.int .i64 c.t6) := B1.cell 6
  refine bodyPost_ret (v := .agg #[.int .i64 c.t0, .int .i64 c.t1, .int .i64 c.t2, .int .i64 c.t3, .int .i64 c.t4, .int .i64 c.t5, .int .i64 c.t6]) ?_ rfl ⟨rfl, K1⟩
  clear B1 K1
  simp [results, Tryz.results48, go_sem, y0, y1, y2, y3, y4, y5, y6]
set_option maxRecDepth 100000 in
set_option maxHeartbeats 4000000 in
theorem rcsame_any (c : Cf) (A A2 : Option Addr) (m m2 : Nat) (w : World) (hS : Rd w 2 PI.enc A c.own) (hQ : Rd w 2 PI.enc A2 c.own) (hn : c.own.length ≤ 1000000) :
    Calls Tryz.prog 35 #[cfV c A c.own.length m, cfV c A2 c.own.length m2] w fun e w' => e = .returned (.bool true) ∧ Kp w w' := by
  obtain ⟨b, hb⟩ : ∃ b, w.heap.size = b := ⟨_, rfl⟩
  obtain ⟨W, hW, kW, B0, B1⟩ : ∃ W, (w.alloc (.cells (cfC c A c.own.length m) 24)).alloc (.cells (cfC c A2 c.own.length m2) 24) = W ∧ Kp w W ∧ Blk W b 24 (cfC c A c.own.length m) ∧ Blk W (b + 1) 24 (cfC c A2 c.own.length m2) := ⟨_, rfl, ((Kp.refl _).alloc _).alloc _, by rw [← hb]; exact (Blk.new _ _ _).alloc _, by rw [← hb]; exact Blk.new1 _ _ _ _⟩
  have HS := Lib.hid (hS.keep kW)
  have HQ := Lib.hid (hQ.keep kW)
  unfold cfC at hW
  clear hS hQ
  go_enter Tryz.func35, Tryz.ntmps35
  go_upto_region 1 with (fail)
  try rw [hb, hW]
  clear hW hb
  have B0 := Lib.hid B0
  have B1 := Lib.hid B1
  refine wp_anyV [5, 6, 7, 8, 9, 10, 11, 12, 13, 14, 15, 16, 17, 18, 19, 20, 21, 22, 23, 4] [.agg #[.int .i64 c.t0, .int .i64 c.t1, .int .i64 c.t2, .int .i64 c.t3, .int .i64 c.t4, .int .i64 c.t5, .int .i64 c.t6, .int .i64 c.cap, .slice A c.own.length m], .agg #[.int .i64 c.t0, .int .i64 c.t1, .int .i64 c.t2, .int .i64 c.t3, .int .i64 c.t4, .int .i64 c.t5, .int .i64 c.t6], .agg #[.int .i64 c.t0, .int .i64 c.t1, .int .i64 c.t2, .int .i64 c.t3, .int .i64 c.t4, .int .i64 c.t5, .int .i64 c.t6, .int .i64 c.cap, .slice A2 c.own.length m2], .agg #[.int .i64 c.t0, .int .i64 c.t1, .int .i64 c.t2, .int .i64 c.t3, .int .i64 c.t4, .int .i64 c.t5, .int .i64 c.t6], .bool true, .bool true, .pointer (some ⟨b, 7, none⟩), .int .i64 c.cap, .pointer (some ⟨b + 1, 7, none⟩), .int .i64 c.cap, .bool true, .bool true, .bool true, .pointer (some ⟨b, 8, none⟩), .slice A c.own.length m, .pointer (some ⟨b + 1, 8, none⟩), .slice A2 c.own.length m2, .bool true, .bool true, .bool true] (by kernel_rfl) (by kernel_rfl) ?_ ?_
  · intro i o L a w9 ho hd hG K hK
    have hi : i < 20 := by have := (List.getElem?_eq_some_iff.1 ho).1; simpa using this
    have hcs : i = 0 ∨ i = 1 ∨ i = 2 ∨ i = 3 ∨ i = 4 ∨ i = 5 ∨ i = 6 ∨ i = 7 ∨ i = 8 ∨ i = 9 ∨ i = 10 ∨ i = 11 ∨ i = 12 ∨ i = 13 ∨ i = 14 ∨ i = 15 ∨ i = 16 ∨ i = 17 ∨ i = 18 ∨ i = 19 := by omega
    clear hi
    rcases hcs with rfl | rfl | rfl | rfl | rfl | rfl | rfl | rfl | rfl | rfl | rfl | rfl | rfl | rfl | rfl | rfl | rfl | rfl | rfl | rfl
    all_goals
      first | simp only [List.getElem?_cons_zero, List.getElem?_cons_succ, Option.some.injEq] at ho | replace ho := Option.some.inj ho
      subst ho
    · rw [if_pos (wanted_all rfl)]
      have t2 : a.tmps[2]?.getD undef = .pointer (some ⟨b, 0, none⟩) := slot_is (hG.old 2 (by decide))
      have c0 : w9.cell? ⟨b, 0, none⟩ = some (.int .i64 c.t0) := (B0.out.keep hG.kp).cell 0
      have c1 : w9.cell? ⟨b, 1, none⟩ = some (.int .i64 c.t1) := (B0.out.keep hG.kp).cell 1
      have c2 : w9.cell? ⟨b, 2, none⟩ = some (.int .i64 c.t2) := (B0.out.keep hG.kp).cell 2
      have c3 : w9.cell? ⟨b, 3, none⟩ = some (.int .i64 c.t3) := (B0.out.keep hG.kp).cell 3
      have c4 : w9.cell? ⟨b, 4, none⟩ = some (.int .i64 c.t4) := (B0.out.keep hG.kp).cell 4
      have c5 : w9.cell? ⟨b, 5, none⟩ = some (.int .i64 c.t5) := (B0.out.keep hG.kp).cell 5
      have c6 : w9.cell? ⟨b, 6, none⟩ = some (.int .i64 c.t6) := (B0.out.keep hG.kp).cell 6
      have c7 : w9.cell? ⟨b, 7, none⟩ = some (.int .i64 c.cap) := (B0.out.keep hG.kp).cell 7
      have c8 : w9.cell? ⟨b, 8, none⟩ = some (.slice A c.own.length m) := (B0.out.keep hG.kp).cell 8
      unfold Oper.wp
      simp only [execOp, Act.eval, Array.getD_eq_getD_getElem?]
      go_simp
      exact hK _ _ (hG.put 0 5 rfl (by decide) (by simp) (Kp.refl _) rfl)
    · rw [if_pos (wanted_all rfl)]
      have t5 : a.tmps[5]?.getD undef = .agg #[.int .i64 c.t0, .int .i64 c.t1, .int .i64 c.t2, .int .i64 c.t3, .int .i64 c.t4, .int .i64 c.t5, .int .i64 c.t6, .int .i64 c.cap, .slice A c.own.length m] := slot_is (hG.new 0 (hd 0 (by decide) (by decide)) 5 rfl)
      unfold Oper.wp
      simp only [execOp, Act.eval, Array.getD_eq_getD_getElem?]
      go_simp
      refine (rspans_any c A c.own.length m _).mono ?_
      rintro e wa ⟨rfl, hKc⟩
      exact hK _ _ (hG.put 1 6 rfl (by decide) (by simp) hKc rfl)
    · rw [if_pos (wanted_all rfl)]
      have t3 : a.tmps[3]?.getD undef = .pointer (some ⟨b + 1, 0, none⟩) := slot_is (hG.old 3 (by decide))
      have c0 : w9.cell? ⟨b + 1, 0, none⟩ = some (.int .i64 c.t0) := (B1.out.keep hG.kp).cell 0
      have c1 : w9.cell? ⟨b + 1, 1, none⟩ = some (.int .i64 c.t1) := (B1.out.keep hG.kp).cell 1
      have c2 : w9.cell? ⟨b + 1, 2, none⟩ = some (.int .i64 c.t2) := (B1.out.keep hG.kp).cell 2
      have c3 : w9.cell? ⟨b + 1, 3, none⟩ = some (.int .i64 c.t3) := (B1.out.keep hG.kp).cell 3
      have c4 : w9.cell? ⟨b + 1, 4, none⟩ = some (.int .i64 c.t4) := (B1.out.keep hG.kp).cell 4
      have c5 : w9.cell? ⟨b + 1, 5, none⟩ = some (.int .i64 c.t5) := (B1.out.keep hG.kp).cell 5
      have c6 : w9.cell? ⟨b + 1, 6, none⟩ = some (.int .i64 c.t6) := (B1.out.keep hG.kp).cell 6
      have c7 : w9.cell? ⟨b + 1, 7, none⟩ = some (.int .i64 c.cap) := (B1.out.keep hG.kp).cell 7
      have c8 : w9.cell? ⟨b + 1, 8, none⟩ = some (.slice A2 c.own.length m2) := (B1.out.keep hG.kp).cell 8
      unfold Oper.wp
      simp only [execOp, Act.eval, Array.getD_eq_getD_getElem?]
      go_simp
      exact hK _ _ (hG.put 2 7 rfl (by decide) (by simp) (Kp.refl _) rfl)
    · rw [if_pos (wanted_all rfl)]
      have t7 : a.tmps[7]?.getD undef = .agg #[.int .i64 c.t0, .int .i64 c.t1, .int .i64 c.t2, .int .i64 c.t3, .int .i64 c.t4, .int .i64 c.t5, .int .i64 c.t6, .int .i64 c.cap, .slice A2 c.own.length m2] := slot_is (hG.new 2 (hd 2 (by decide) (by decide)) 7 rfl)
      unfold Oper.wp
      simp only [execOp, Act.eval, Array.getD_eq_getD_getElem?]
      go_simp
      refine (rspans_any c A2 c.own.length m2 _).mono ?_
      rintro e wa ⟨rfl, hKc⟩
      exact hK _ _ (hG.put 3 8 rfl (by decide) (by simp) hKc rfl)
    · rw [if_pos (wanted_all rfl)]
      have t6 : a.tmps[6]?.getD undef = .agg #[.int .i64 c.t0, .int .i64 c.t1, .int .i64 c.t2, .int .i64 c.t3, .int .i64 c.t4, .int .i64 c.t5, .int .i64 c.t6] := slot_is (hG.new 1 (hd 1 (by decide) (by decide)) 6 rfl)
      have t8 : a.tmps[8]?.getD undef = .agg #[.int .i64 c.t0, .int .i64 c.t1, .int .i64 c.t2, .int .i64 c.t3, .int .i64 c.t4, .int .i64 c.t5, .int .i64 c.t6] := slot_is (hG.new 3 (hd 3 (by decide) (by decide)) 8 rfl)
      have q9 := spans_eql c w9
      have q8 := spans_eqi c w9
      unfold Oper.wp
      simp only [execOp, Act.eval, Array.getD_eq_getD_getElem?]
      go_simp
      exact hK _ _ (hG.put 4 9 rfl (by decide) (by simp) (Kp.refl _) rfl)
    · rw [if_pos (wanted_all rfl)]
      have t9 : a.tmps[9]?.getD undef = .bool true := slot_is (hG.new 4 (hd 4 (by decide) (by decide)) 9 rfl)
      unfold Oper.wp
      simp only [execOp, Act.eval, Array.getD_eq_getD_getElem?]
      go_simp
      exact hK _ _ (hG.put 5 10 rfl (by decide) (by simp) (Kp.refl _) rfl)
    · rw [if_pos (wanted_yes rfl rfl (hG.new 5 (hd 5 (by decide) (by decide)) 10 rfl))]
      have t2 : a.tmps[2]?.getD undef = .pointer (some ⟨b, 0, none⟩) := slot_is (hG.old 2 (by decide))
      unfold Oper.wp
      simp only [execOp, Act.eval, Array.getD_eq_getD_getElem?]
      go_simp
      exact hK _ _ (hG.put 6 11 rfl (by decide) (by simp) (Kp.refl _) rfl)
    · rw [if_pos (wanted_yes rfl rfl (hG.new 5 (hd 5 (by decide) (by decide)) 10 rfl))]
      have t11 : a.tmps[11]?.getD undef = .pointer (some ⟨b, 7, none⟩) := slot_is (hG.new 6 (hd 6 (by decide) (by decide)) 11 rfl)
      have c7 : w9.cell? ⟨b, 7, none⟩ = some (.int .i64 c.cap) := (B0.out.keep hG.kp).cell 7
      unfold Oper.wp
      simp only [execOp, Act.eval, Array.getD_eq_getD_getElem?]
      go_simp
      exact hK _ _ (hG.put 7 12 rfl (by decide) (by simp) (Kp.refl _) rfl)
    · rw [if_pos (wanted_yes rfl rfl (hG.new 5 (hd 5 (by decide) (by decide)) 10 rfl))]
      have t3 : a.tmps[3]?.getD undef = .pointer (some ⟨b + 1, 0, none⟩) := slot_is (hG.old 3 (by decide))
      unfold Oper.wp
      simp only [execOp, Act.eval, Array.getD_eq_getD_getElem?]
      go_simp
      exact hK _ _ (hG.put 8 13 rfl (by decide) (by simp) (Kp.refl _) rfl)
    · rw [if_pos (wanted_yes rfl rfl (hG.new 5 (hd 5 (by decide) (by decide)) 10 rfl))]
      have t13 : a.tmps[13]?.getD undef = .pointer (some ⟨b + 1, 7, none⟩) := slot_is (hG.new 8 (hd 8 (by decide) (by decide)) 13 rfl)
      have c7 : w9.cell? ⟨b + 1, 7, none⟩ = some (.int .i64 c.cap) := (B1.out.keep hG.kp).cell 7
      unfold Oper.wp
      simp only [execOp, Act.eval, Array.getD_eq_getD_getElem?]
      go_simp
      exact hK _ _ (hG.put 9 14 rfl (by decide) (by simp) (Kp.refl _) rfl)
    · rw [if_pos (wanted_yes rfl rfl (hG.new 5 (hd 5 (by decide) (by decide)) 10 rfl))]
      have t12 : a.tmps[12]?.getD undef = .int .i64 c.cap := slot_is (hG.new 7 (hd 7 (by decide) (by decide)) 12 rfl)
      have t14 : a.tmps[14]?.getD undef = .int .i64 c.cap := slot_is (hG.new 9 (hd 9 (by decide) (by decide)) 14 rfl)
      unfold Oper.wp
      simp only [execOp, Act.eval, Array.getD_eq_getD_getElem?]
      go_simp
      exact hK _ _ (hG.put 10 15 rfl (by decide) (by simp) (Kp.refl _) rfl)
    · rw [if_pos (wanted_all rfl)]
      have t10 : a.tmps[10]?.getD undef = .bool true := slot_is (hG.new 5 (hd 5 (by decide) (by decide)) 10 rfl)
      have t15 : a.tmps[15]?.getD undef = .bool true := slot_is (hG.new 10 (hd 10 (by decide) (by decide)) 15 rfl)
      unfold Oper.wp
      simp only [execOp, Act.eval, Array.getD_eq_getD_getElem?]
      go_simp
      exact hK _ _ (hG.put 11 16 rfl (by decide) (by simp) (Kp.refl _) rfl)
    · rw [if_pos (wanted_all rfl)]
      have t16 : a.tmps[16]?.getD undef = .bool true := slot_is (hG.new 11 (hd 11 (by decide) (by decide)) 16 rfl)
      unfold Oper.wp
      simp only [execOp, Act.eval, Array.getD_eq_getD_getElem?]
      go_simp
      exact hK _ _ (hG.put 12 17 rfl (by decide) (by simp) (Kp.refl _) rfl)
    · rw [if_pos (wanted_yes rfl rfl (hG.new 12 (hd 12 (by decide) (by decide)) 17 rfl))]
      have t2 : a.tmps[2]?.getD undef = .pointer (some ⟨b, 0, none⟩) := slot_is (hG.old 2 (by decide))
      unfold Oper.wp
      simp only [execOp, Act.eval, Array.getD_eq_getD_getElem?]
      go_simp
      exact hK _ _ (hG.put 13 18 rfl (by decide) (by simp) (Kp.refl _) rfl)
    · rw [if_pos (wanted_yes rfl rfl (hG.new 12 (hd 12 (by decide) (by decide)) 17 rfl))]
      have t18 : a.tmps[18]?.getD undef = .pointer (some ⟨b, 8, none⟩) := slot_is (hG.new 13 (hd 13 (by decide) (by decide)) 18 rfl)
      have c8 : w9.cell? ⟨b, 8, none⟩ = some (.slice A c.own.length m) := (B0.out.keep hG.kp).cell 8
      unfold Oper.wp
      simp only [execOp, Act.eval, Array.getD_eq_getD_getElem?]
      go_simp
      exact hK _ _ (hG.put 14 19 rfl (by decide) (by simp) (Kp.refl _) rfl)
    · rw [if_pos (wanted_yes rfl rfl (hG.new 12 (hd 12 (by decide) (by decide)) 17 rfl))]
      have t3 : a.tmps[3]?.getD undef = .pointer (some ⟨b + 1, 0, none⟩) := slot_is (hG.old 3 (by decide))
      unfold Oper.wp
      simp only [execOp, Act.eval, Array.getD_eq_getD_getElem?]
      go_simp
      exact hK _ _ (hG.put 15 20 rfl (by decide) (by simp) (Kp.refl _) rfl)
    · rw [if_pos (wanted_yes rfl rfl (hG.new 12 (hd 12 (by decide) (by decide)) 17 rfl))]
      have t20 : a.tmps[20]?.getD undef = .pointer (some ⟨b + 1, 8, none⟩) := slot_is (hG.new 15 (hd 15 (by decide) (by decide)) 20 rfl)
      have c8 : w9.cell? ⟨b + 1, 8, none⟩ = some (.slice A2 c.own.length m2) := (B1.out.keep hG.kp).cell 8
      unfold Oper.wp
      simp only [execOp, Act.eval, Array.getD_eq_getD_getElem?]
      go_simp
      exact hK _ _ (hG.put 16 21 rfl (by decide) (by simp) (Kp.refl _) rfl)
    · rw [if_pos (wanted_yes rfl rfl (hG.new 12 (hd 12 (by decide) (by decide)) 17 rfl))]
      have t19 : a.tmps[19]?.getD undef = .slice A c.own.length m := slot_is (hG.new 14 (hd 14 (by decide) (by decide)) 19 rfl)
      have t21 : a.tmps[21]?.getD undef = .slice A2 c.own.length m2 := slot_is (hG.new 16 (hd 16 (by decide) (by decide)) 21 rfl)
      unfold Oper.wp
      simp only [execOp, Act.eval, Array.getD_eq_getD_getElem?]
      go_simp
      refine (rpsame_any A A2 m m2 c.own _ (HS.out.keep hG.kp) (HQ.out.keep hG.kp) hn).mono ?_
      rintro e wa ⟨rfl, hKc⟩
      exact hK _ _ (hG.put 17 22 rfl (by decide) (by simp) hKc rfl)
    · rw [if_pos (wanted_all rfl)]
      have t17 : a.tmps[17]?.getD undef = .bool true := slot_is (hG.new 12 (hd 12 (by decide) (by decide)) 17 rfl)
      have t22 : a.tmps[22]?.getD undef = .bool true := slot_is (hG.new 17 (hd 17 (by decide) (by decide)) 22 rfl)
      unfold Oper.wp
      simp only [execOp, Act.eval, Array.getD_eq_getD_getElem?]
      go_simp
      exact hK _ _ (hG.put 18 23 rfl (by decide) (by simp) (Kp.refl _) rfl)
    · rw [if_pos (wanted_all rfl)]
      have t23 : a.tmps[23]?.getD undef = .bool true := slot_is (hG.new 18 (hd 18 (by decide) (by decide)) 23 rfl)
      unfold Oper.wp
      simp only [execOp, Act.eval, Array.getD_eq_getD_getElem?]
      go_simp
      exact hK _ _ (hG.put 19 4 rfl (by decide) (by simp) (Kp.refl _) rfl)
  · intro a w9 KV hdf hsz hold hnew
    have hr := slot_is (hnew 18 (by decide) 23 rfl)
    have hr4 := slot_is (hnew 19 (by decide) 4 rfl)
    (try simp only [Exit.then])
    rename_i hk
    refine hk a w9 ?_
    refine wp_ret ?_
    refine bodyPost_ret (v := .bool true) ?_ hdf ⟨rfl, kW.trans KV⟩
    simp [results, Tryz.results35, go_sem, hr4]
end Go.Proofs.YtffckpkikdlbpaaGreatDoor
