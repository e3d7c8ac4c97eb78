/- Layer 2: mayBe, Check, Stands; the trie's isOrWithin. Condition: the table of relations reads as it is laid. -/
import Derived.Test.YtfaiponmjjbgoaaDoorPfA
namespace Go.Proofs.YtfaiponmjjbgoaaDoor
open Go.RowKit

/-- A prefix that came in: an address, and whatever length. -/
structure PI where
  a : Nat
  l : Int
def PI.enc (p : PI) : List Value := [.int .u32 p.a, .int .i64 p.l]
def PI.okB (p : PI) : Bool := decide (0 ≤ p.l ∧ p.l ≤ 32 ∧ cut p.a p.l.toNat = p.a)
theorem PI.len (p : PI) : p.enc.length = 2 := rfl
def PI.pn (p : PI) : Pn := ⟨p.a, p.l.toNat⟩
def Pn.pi (p : Pn) : PI := ⟨p.a, p.l⟩
theorem pn_ok {p : PI} (h : p.okB = true) (ha : p.a < 4294967296) : p.pn.ok ∧ p.l = (p.pn.l : Int) := by
  have := of_decide_eq_true h
  exact ⟨⟨ha, by simp [PI.pn]; omega, this.2.2⟩, by simp [PI.pn]; omega⟩
theorem pi_ok {p : Pn} (h : p.ok) : p.pi.okB = true := by
  have h1 := h.2.1
  exact decide_eq_true (show 0 ≤ (p.l : Int) ∧ (p.l : Int) ≤ 32 ∧ cut p.a (p.l : Int).toNat = p.a from ⟨by omega, by omega, by rw [Int.toNat_natCast]; exact h.2.2⟩)

theorem pi_at {w : World} {A : Option Addr} {ps : List PI} (h : Rd w 2 PI.enc A ps) {k : Nat} (hk : k < ps.length) :
    ∃ b off : Nat, A = some ⟨b, off, none⟩ ∧ w.cell? ⟨b, off + k * 2, none⟩ = some (.int .u32 ps[k].a) ∧ w.cell? ⟨b, off + k * 2 + 1, none⟩ = some (.int .i64 ps[k].l) := by
  obtain ⟨b, off, e, hc⟩ := h k hk
  exact ⟨b, off, e, hc 0 _ rfl, hc 1 _ rfl⟩

theorem notmask_zero {a n : Nat} (ha : a < 4294967296) (hn : n ≤ 32) : (bits .andNot .u32 (a : Int) (maskN n : Int) != 0) = !decide (cut a n = a) := by
  rw [andnot_u32 a _ ha (maskN_lt n), andnot_mask ha hn]
  have := cut_le a n
  by_cases h : cut a n = a
  · simp [h]
  · simp [h]; omega

set_option maxRecDepth 100000 in
set_option maxHeartbeats 1000000 in
theorem mayBe_any (A : Option Addr) (c : Nat) (ps : List PI) (w : World) (hR : Rd w 2 PI.enc A ps) (hn : ps.length ≤ 1000000) (ha : ∀ k (hk : k < ps.length), ps[k].a < 4294967296) :
    Calls Tryd.prog 49 #[.slice A ps.length c] w fun e w' => e = .returned (.bool (ps.all PI.okB)) ∧ Kp w w' := by
  have Ha := Lib.hid ha; clear ha
  go_enter Tryd.func49, Tryd.ntmps49
  go_wp2_with fail
  go_loopw [7] (fun i wr => ∃ k : Nat, k ≤ ps.length ∧ i = .int .i64 k ∧ Hid (∀ j (hj : j < ps.length), j < k → ps[j].okB = true) ∧ Kp w wr) (fun i _ => ps.length - (intOf i).toNat)
  case atStart => exact ⟨0, Nat.zero_le _, rfl, fun _ _ h => absurd h (by omega), Kp.refl _⟩
  case round =>
    obtain ⟨k, hk, rfl, hall, hK⟩ := hrel
    by_cases hlt : k < ps.length
    · obtain ⟨b, off, rfl, c0, c1⟩ := pi_at (hR.keep hK) hlt
      have hak := Ha.out k hlt
      have hno : ps[k].okB = false → ps.all PI.okB = false := fun h => by rw [List.all_eq_false]; exact ⟨ps[k], List.getElem_mem hlt, by simp [h]⟩
      have Hno := Lib.hid hno; clear hno
      obtain ⟨W, hW, kW, B0⟩ : ∃ W, wr.alloc (.cells #[.int .u32 ps[k].a, .int .i64 ps[k].l] 29) = W ∧ Kp w W ∧ Blk W wr.heap.size 29 #[.int .u32 ps[k].a, .int .i64 ps[k].l] := ⟨_, rfl, hK.alloc _, Blk.new wr _ _⟩
      have p0 : W.cell? ⟨wr.heap.size, 0, none⟩ = some (.int .u32 ps[k].a) := B0.cell 0
      have p1 : W.cell? ⟨wr.heap.size, 1, none⟩ = some (.int .i64 ps[k].l) := B0.cell 1
      by_cases h0 : ps[k].l < 0
      · have H := Lib.hid (Hno.out (by simp [PI.okB]; omega))
        have d0 : decide (ps[k].l < 0) = true := by simpa using h0
        clear h0
        go_wp2_with fail
        go_quiet (fail)
        go_wp2_with fail
        go_ret
        exact ⟨by rw [H.out]; rfl, kW.drewN _⟩
      · have d0 : decide (ps[k].l < 0) = false := by simpa using h0
        by_cases h1 : 32 < ps[k].l
        · have H := Lib.hid (Hno.out (by simp [PI.okB]; omega))
          have d1 : decide (32 < ps[k].l) = true := by simpa using h1
          clear h0 h1
          go_wp2_with fail
          go_quiet (fail)
          go_wp2_with fail
          go_ret
          exact ⟨by rw [H.out]; rfl, kW.drewN _⟩
        · have d1 : decide (32 < ps[k].l) = false := by simpa using h1
          obtain ⟨n, hnl⟩ := Int.eq_ofNat_of_zero_le (show 0 ≤ ps[k].l by omega)
          have hn32 : n ≤ 32 := by omega
          have hz := notmask_zero hak hn32
          have Hl := Lib.hid hnl
          rw [hnl] at c1 p1 d0 d1 hW
          clear h0 h1 hnl
          by_cases hc : cut ps[k].a n = ps[k].a
          · have hok := Lib.hid (show ps[k].okB = true by simp only [PI.okB, Hl.out, Int.toNat_natCast, decide_eq_true_eq]; exact ⟨by omega, by omega, hc⟩)
            rw [show (!decide (cut ps[k].a n = ps[k].a)) = false by simp [hc]] at hz
            clear hc
            go_wp2_with fail
            go_region_held3 (fun w' => w'.cell? ⟨wr.heap.size, 0, none⟩ = some (.int .u32 ps[k].a) ∧ w'.cell? ⟨wr.heap.size, 1, none⟩ = some (.int .i64 n)) (go_keep)
              (first | (go_at_call 58; refine (mask_any _ _ hn32).mono ?_; rintro e w' ⟨rfl, rfl⟩))
            go_wp2_with fail
            go_roundw
            case rel =>
              refine ⟨k + 1, by omega, by go_num, fun j hj hjk => ?_, kW.drew⟩
              by_cases hj' : j < k
              · exact hall.out j hj hj'
              · obtain rfl : j = k := by omega
                exact hok.out
            case measure => simp [intOf]; omega
          · have H := Lib.hid (Hno.out (by simp only [PI.okB, Hl.out, Int.toNat_natCast, decide_eq_false_iff_not]; rintro ⟨_, _, h⟩; exact hc h))
            rw [show (!decide (cut ps[k].a n = ps[k].a)) = true by simp [hc]] at hz
            clear hc
            go_wp2_with fail
            go_region_held3 (fun w' => w'.cell? ⟨wr.heap.size, 0, none⟩ = some (.int .u32 ps[k].a) ∧ w'.cell? ⟨wr.heap.size, 1, none⟩ = some (.int .i64 n)) (go_keep)
              (first | (go_at_call 58; refine (mask_any _ _ hn32).mono ?_; rintro e w' ⟨rfl, rfl⟩))
            go_wp2_with fail
            go_ret
            exact ⟨by rw [H.out]; rfl, kW.drew⟩
    · obtain rfl : k = ps.length := by omega
      have H := Lib.hid (show ps.all PI.okB = true by
        rw [List.all_eq_true]; intro x hx
        obtain ⟨j, hj, rfl⟩ := List.getElem_of_mem hx
        exact hall.out j hj hj)
      clear hall
      go_wp2_with fail
      go_ret
      exact ⟨by rw [H.out]; rfl, hK⟩

def checkP (p : PI) : Int := if p.okB then 0 else 2

set_option maxRecDepth 100000 in
set_option maxHeartbeats 1000000 in
theorem check_any (p : PI) (w : World) (ha : p.a < 4294967296) :
    Calls Tryd.prog 39 #[.agg #[.int .u32 p.a, .int .i64 p.l]] w fun e w' => e = .returned (.int .i64 (checkP p)) ∧ Kp w w' := by
  have hrd : Rd ((w.alloc (.cells #[.int .u32 p.a, .int .i64 p.l] 29)).alloc (.cells #[.int .u32 p.a, .int .i64 p.l] 29)) 2 PI.enc (some ⟨w.heap.size + 1, 0, none⟩) [p] := Rd.of_blk (Blk.new1 w _ _ _) (by omega) PI.len (by unfold maxLen; simp) rfl
  have Hrd := Lib.hid hrd; clear hrd
  go_enter Tryd.func39, Tryd.ntmps39
  go_wp2_with fail
  refine wp_scope_fwd 0 rfl ?_
  go_wp2_with fail
  refine (mayBe_any _ 1 [p] _ Hrd.out (by simp) (fun k hk => by simp at hk; subst hk; exact ha)).mono ?_
  rintro e w1 ⟨rfl, hK1⟩
  have hk1 : Kp w w1 := (((Kp.refl _).alloc _).alloc _).trans hK1
  rw [show [p].all PI.okB = p.okB by simp]
  cases hok : p.okB with
  | true =>
    have H := Lib.hid (show checkP p = 0 by simp [checkP, hok]); clear hok
    go_wp2_with fail
    refine jump_ret ?_
    go_ret
    exact ⟨by rw [H.out]; rfl, hk1⟩
  | false =>
    have H := Lib.hid (show checkP p = 2 by simp [checkP, hok]); clear hok
    go_wp2_with fail
    go_step3
    refine ⟨rfl, ?_⟩
    go_wp2_with fail
    refine noGoto_ret ?_
    go_ret
    exact ⟨by rw [H.out]; rfl, hk1⟩

/-- The table of relations reads as it is laid. -/
def RelsAt (w : World) : Prop := w.cell? ⟨0, 0, none⟩ = some (.int .i64 4) ∧ w.cell? ⟨0, 1, none⟩ = some (.int .i64 2) ∧ w.cell? ⟨0, 2, none⟩ = some (.int .i64 3) ∧ w.cell? ⟨0, 3, none⟩ = some (.int .i64 1)
theorem RelsAt.keep {w w' : World} (h : RelsAt w) (k : Kp w w') : RelsAt w' := ⟨k.cell h.1, k.cell h.2.1, k.cell h.2.2.1, k.cell h.2.2.2⟩
def relI (p q : Pn) : Int := if p.holds q then (if q.holds p then 1 else 3) else (if q.holds p then 2 else 4)

set_option maxRecDepth 100000 in
set_option maxHeartbeats 600000 in
theorem stands_any (p q : Pn) (w : World) (hG : RelsAt w) (hp : p.ok) (hq : q.ok) :
    Calls Tryd.prog 64 #[.agg #[.int .u32 p.a, .int .i64 p.l], .agg #[.int .u32 q.a, .int .i64 q.l]] w fun e w' => e = .returned (.tuple #[.int .i64 (relI p q), .int .i64 0]) ∧ Kp w w' := by
  have hpl := hp.2.1
  have hql := hq.2.1
  have Hp := Lib.hid hp
  have Hq := Lib.hid hq
  obtain ⟨W, hW, kW, B0, B1⟩ : ∃ W, (w.alloc (.cells #[.int .u32 p.a, .int .i64 p.l] 29)).alloc (.cells #[.int .u32 q.a, .int .i64 q.l] 29) = W ∧ Kp w W ∧ Blk W w.heap.size 29 #[.int .u32 p.a, .int .i64 p.l] ∧ Blk W (w.heap.size + 1) 29 #[.int .u32 q.a, .int .i64 q.l] :=
    ⟨_, rfl, ((Kp.refl _).alloc _).alloc _, (Blk.new w _ _).alloc _, Blk.new1 w _ _ _⟩
  have p0 : W.cell? ⟨w.heap.size, 0, none⟩ = some (.int .u32 p.a) := B0.cell 0
  have p1 : W.cell? ⟨w.heap.size, 1, none⟩ = some (.int .i64 p.l) := B0.cell 1
  have q0 : W.cell? ⟨w.heap.size + 1, 0, none⟩ = some (.int .u32 q.a) := B1.cell 0
  have q1 : W.cell? ⟨w.heap.size + 1, 1, none⟩ = some (.int .i64 q.l) := B1.cell 1
  have hrd : Rd (W.alloc (.cells #[.int .u32 p.a, .int .i64 p.l, .int .u32 q.a, .int .i64 q.l] 29)) 2 PI.enc (some ⟨W.heap.size, 0, none⟩) [p.pi, q.pi] := Rd.of_blk (Blk.new W _ _) (by omega) PI.len (by unfold maxLen; simp) rfl
  have Hrd := Lib.hid hrd; clear hrd
  clear hp hq
  go_enter Tryd.func64, Tryd.ntmps64
  go_wp2_with fail
  refine wp_scope_fwd 0 rfl ?_
  go_wp2_with fail
  refine (mayBe_any _ 2 [p.pi, q.pi] _ Hrd.out (by simp) (fun k hk => by
    have hk2 : k = 0 ∨ k = 1 := by simp at hk; omega
    rcases hk2 with rfl | rfl
    · exact Hp.out.1
    · exact Hq.out.1)).mono ?_
  rintro e w1 ⟨rfl, hK1⟩
  rw [show [p.pi, q.pi].all PI.okB = true by simp [pi_ok Hp.out, pi_ok Hq.out]]
  have k1 : Kp W w1 := ((Kp.refl _).alloc _).trans hK1
  have C0 := B0.keep k1
  have C1 := B1.keep k1
  obtain ⟨g0, g1, g2, g3⟩ := hG.keep (kW.trans k1)
  clear p0 p1 q0 q1 hW B0 B1 hK1 Hrd
  have p0 : w1.cell? ⟨w.heap.size, 0, none⟩ = some (.int .u32 p.a) := C0.cell 0
  have p1 : w1.cell? ⟨w.heap.size, 1, none⟩ = some (.int .i64 p.l) := C0.cell 1
  have q0 : w1.cell? ⟨w.heap.size + 1, 0, none⟩ = some (.int .u32 q.a) := C1.cell 0
  have q1 : w1.cell? ⟨w.heap.size + 1, 1, none⟩ = some (.int .i64 q.l) := C1.cell 1
  have kw := kW.trans k1
  clear k1 kW C0 C1
  obtain ⟨i, hi⟩ : ∃ i, holdsI p q = i := ⟨_, rfl⟩
  obtain ⟨j, hj⟩ : ∃ j, holdsI q p = j := ⟨_, rfl⟩
  have gr : w1.cell? ⟨0, i * 2 + j, none⟩ = some (.int .i64 (relI p q)) := by
    unfold holdsI at hi hj
    unfold relI
    by_cases a : p.holds q <;> by_cases b : q.holds p <;> simp [a, b] at hi hj <;> subst hi hj <;> simp [a, b, g0, g1, g2, g3]
  have hi2 : i < 2 := by unfold holdsI at hi; split at hi <;> omega
  have hj2 : j < 2 := by unfold holdsI at hj; split at hj <;> omega
  have Hi := Lib.hid hi; clear hi
  have Hj := Lib.hid hj; clear hj
  clear g0 g1 g2 g3
  have i0 : (0 : Int) ≤ (i : Int) := by omega
  have i1 : (i : Int) < 2 := by omega
  have j0 : (0 : Int) ≤ (j : Int) := by omega
  have j1 : (j : Int) < 2 := by omega
  go_wp2_with fail
  go_region_held3 (fun w' => w'.cell? ⟨w.heap.size, 0, none⟩ = some (.int .u32 p.a) ∧ w'.cell? ⟨w.heap.size, 1, none⟩ = some (.int .i64 p.l) ∧ w'.cell? ⟨w.heap.size + 1, 0, none⟩ = some (.int .u32 q.a) ∧ w'.cell? ⟨w.heap.size + 1, 1, none⟩ = some (.int .i64 q.l) ∧ w'.cell? ⟨0, i * 2 + j, none⟩ = some (.int .i64 (relI p q)))
      (first | exact ⟨Kb.cell p0, Kb.cell p1, Kb.cell q0, Kb.cell q1, Kb.cell gr⟩ | exact ⟨Ka.cell p0, Ka.cell p1, Ka.cell q0, Ka.cell q1, Ka.cell gr⟩ | go_keep)
      (first
        | (have tk := Ka; go_at_call 61; refine (holds_any q p _ Hq.out.1 Hp.out.1 hql hpl).mono ?_; rintro e wb ⟨rfl, hKb⟩; rw [Hj.out]; have Kb : Kp w1 wb := Ka.trans hKb; clear tk)
        | (go_at_call 61; refine (holds_any p q _ Hp.out.1 Hq.out.1 hpl hql).mono ?_; rintro e wa ⟨rfl, hKa⟩; rw [Hi.out]; have Ka : Kp w1 wa := (Kp.refl w1).drew.trans hKa))
  go_wp2_with fail
  refine jump_ret ?_
  go_ret2
  exact ⟨rfl, kw.trans Kb⟩

theorem relI_cases (p n : Pn) : (n.holds p → (relI p n == 1) = true ∨ ((relI p n == 1) = false ∧ (relI p n == 2) = true)) ∧ (¬ n.holds p → (relI p n == 1) = false ∧ (relI p n == 2) = false) := by
  unfold relI
  by_cases a : p.holds n <;> by_cases b : n.holds p <;> simp [a, b]

set_option maxRecDepth 100000 in
set_option maxHeartbeats 1000000 in
theorem within_any (p n : Pn) (w : World) (hG : RelsAt w) (hp : p.ok) (hn : n.ok) :
    Calls Tryd.prog 56 #[.agg #[.int .u32 p.a, .int .i64 p.l], .agg #[.int .u32 n.a, .int .i64 n.l]] w fun e w' => e = .returned (.bool (decide (n.holds p))) ∧ Kp w w' := by
  have Hc := Lib.hid (relI_cases p n)
  go_enter Tryd.func56, Tryd.ntmps56
  go_wp2_with fail
  refine (stands_any p n _ (hG.keep (((Kp.refl _).alloc _).alloc _)) hp hn).mono ?_
  rintro e w1 ⟨rfl, hK1⟩
  have k1 : Kp w w1 := (((Kp.refl _).alloc _).alloc _).trans hK1
  by_cases h : n.holds p
  · have H := Lib.hid (show decide (n.holds p) = true by simpa using h)
    rcases Hc.out.1 h with h1 | ⟨h1, h2⟩
    · clear h
      go_wp2_with fail
      go_ret
      exact ⟨by rw [H.out]; rfl, k1⟩
    · clear h
      go_wp2_with fail
      go_ret
      exact ⟨by rw [H.out]; rfl, k1⟩
  · have H := Lib.hid (show decide (n.holds p) = false by simpa using h)
    obtain ⟨h1, h2⟩ := Hc.out.2 h
    clear h
    go_wp2_with fail
    go_ret
    exact ⟨by rw [H.out]; rfl, k1⟩
end Go.Proofs.YtfaiponmjjbgoaaDoor
