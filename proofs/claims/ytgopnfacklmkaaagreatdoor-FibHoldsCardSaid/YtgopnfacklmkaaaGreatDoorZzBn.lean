/- Lemmas and contracts for the theorem of this claim: LxA, LxB. -/
import Derived.Test.YtgopnfacklmkaaaGreatDoorZzBm
set_option linter.all false
set_option maxHeartbeats 16000000
namespace Go.Proofs.YtgopnfacklmkaaaGreatDoor
section
open Go.RowKit
theorem viF (n : Int) (w : World) : Calls Tryz.prog 71 #[.int .i64 n] w fun e w' => e = .returned (.bool (withB 0 1000000 n)) ∧ w = w' := by
 by_cases h0 : 0 ≤ n
 ·have d0 : decide (0 ≤ n) = true := decide_eq_true h0
  by_cases h1 : n ≤ 1000000
  ·have d1 : decide (n ≤ 1000000) = true := decide_eq_true h1
   have H := Lib.hid (show withB 0 1000000 n = true by rw [vaa]; exact ⟨h0, h1⟩)
   go_enter Tryz.func71, Tryz.ntmps71
   go_wp2_with fail
   go_ret
   exact ⟨by rw [H.out]; rfl, rfl⟩
  ·have d1 : decide (n ≤ 1000000) = false := decide_eq_false h1
   have H := Lib.hid (show withB 0 1000000 n = false by rw [Bool.eq_false_iff]; intro z; rw [vaa] at z; exact h1 z.2)
   go_enter Tryz.func71, Tryz.ntmps71
   go_wp2_with fail
   go_ret
   exact ⟨by rw [H.out]; rfl, rfl⟩
 ·have d0 : decide (0 ≤ n) = false := decide_eq_false h0
  have H := Lib.hid (show withB 0 1000000 n = false by rw [Bool.eq_false_iff]; intro z; rw [vaa] at z; exact h0 z.1)
  go_enter Tryz.func71, Tryz.ntmps71
  go_wp2_with fail
  go_ret
  exact ⟨by rw [H.out]; rfl, rfl⟩
set_option maxRecDepth 100000 in
theorem vmR (w : World) (a l b k : Int) : (binOp .eql 39 (.agg #[.int .u32 a, .int .i64 l]) (.agg #[.int .u32 b, .int .i64 k])).run Tryz.prog w = .ok (.bool (a == b && l == k)) w := by
 rw [run_eql_struct, run_equalIn_agg w 9999 _ _ _ Tryz.underlying39 (by kernel_rfl)]
 simp [Op.eqFields, part, go_sem, Tryz.underlying3, Tryz.underlying37]
 by_cases h1 : a = b <;> by_cases h2 : l = k <;> simp [h1, h2]
theorem vfo {ps : List PI} {p : PI} {k : Nat} (h1 : k < ps.length) (h : p ∉ ps.take k) (e : ps[k] ≠ p) : p ∉ ps.take (k + 1) := by
 rw [List.take_succ_eq_append_getElem h1, List.mem_append, List.mem_singleton]
 rintro (z | z)
 ·exact h z
 ·exact e z.symm
set_option maxRecDepth 100000 in
theorem vmS (c : Cf) (A : Option Addr) (m : Nat) (p : PI) (w : World) (hR : Rd w 2 PI.enc A c.own) (hn : c.own.length ≤ 1000000) :
  Calls Tryz.prog 137 #[cfV c A c.own.length m, pfV p] w fun e w' => e = .returned (.bool (decide (p ∈ c.own))) ∧ Kp w w' := by
 obtain ⟨b, hb⟩ : ∃ b, w.heap.size = b := ⟨_, rfl⟩
 obtain ⟨W, hW, kW, B0, B1⟩ := Blk.al2 hb (cfC c A c.own.length m) 49 #[.int .u32 (p.a : Int), .int .i64 p.l] 39
 have HR := Lib.hid (hR.keep kW)
 unfold cfC at hW
 clear hR
 go_enter Tryz.func137, Tryz.ntmps137
 go_wp2_with fail
 clear hW
 go_loopw [5] (fun i wr => ∃ k : Nat, k ≤ c.own.length ∧ i = .int .i64 k ∧ Hid (p ∉ c.own.take k) ∧ Kp W wr) (fun i _ => c.own.length - (intOf i).toNat)
 case atStart => exact ⟨0, Nat.zero_le _, rfl, Lib.hid (by simp), Kp.refl _⟩
 case round =>
  obtain ⟨k, hk, rfl, hN, hK⟩ := hrel
  have s8 := Blk.f (B0.keep hK) rfl
  have q0 := Blk.f (B1.keep hK) rfl
  by_cases hlt : k < c.own.length
  ·have hgi : (k : Int) < (c.own.length : Int) := by omega
   have hg0 : (0 : Int) ≤ (k : Int) := by omega
   obtain ⟨b', off, rfl, c0, c1⟩ := pi_at (HR.out.keep hK) hlt
   have hne := fun u => vmR u (c.own[k].a : Int) c.own[k].l (p.a : Int) p.l
   simp only [voR] at hne
   by_cases he : c.own[k] = p
   ·rw [decide_eq_true he] at hne
    have H := Lib.hid (show decide (p ∈ c.own) = true from decide_eq_true (by rw [← he]; exact List.getElem_mem hlt))
    clear he
    go_wp2_with fail
    go_quiet (fail)
    go_wp2_with fail
    go_ret
    exact ⟨by rw [H.out] <;> rfl, kW.trans (hK.drewN _)⟩
   ·rw [decide_eq_false he] at hne
    have H := Lib.hid (vfo hlt hN.out he)
    clear he
    go_wp2_with fail
    go_quiet (fail)
    go_wp2_with fail
    go_roundw
    case rel => exact ⟨k + 1, by omega, by go_num, H, hK.drewN _⟩
    case measure => simp [intOf]; omega
  ·obtain rfl : k = c.own.length := by omega
   have H := Lib.hid (show decide (p ∈ c.own) = false from decide_eq_false (by have := hN.out; rwa [List.take_length] at this))
   go_wp2_with fail
   go_ret
   exact ⟨by rw [H.out] <;> rfl, kW.trans hK⟩
set_option maxRecDepth 100000 in
theorem vlf (l : List PI) (A : Option Addr) (m : Nat) (w : World) (hS : SlPI w A m l) (hw : ∀ k (hk : k < l.length), l[k].a < 4294967296) (hn : l.length ≤ 1000000) :
  Calls Tryz.prog 72 #[.slice A l.length m] w fun e w' => e = .returned (.bool (decide (l.length ≤ 16) && freeB l)) ∧ Kp w w' := by
 have HS := Lib.hid hS
 have HWF := Lib.hid hw
 clear hS hw
 by_cases h16 : l.length ≤ 16
 ·have d16 : decide (16 < (l.length : Int)) = false := decide_eq_false (by omega)
  have HD := Lib.hid (show decide (l.length ≤ 16) = true from decide_eq_true h16)
  clear h16
  go_enter Tryz.func72, Tryz.ntmps72
  go_wp2_with fail
  go_loopw [3] (fun i wr => ∃ k : Nat, k ≤ l.length ∧ i = .int .i64 k ∧ Hid (freeB (l.take k) = true) ∧ Kp w wr) (fun i _ => l.length - (intOf i).toNat)
  case atStart => exact ⟨0, Nat.zero_le _, rfl, Lib.hid rfl, Kp.refl _⟩
  case round =>
   obtain ⟨k, hk, rfl, hF, hK⟩ := hrel
   by_cases hlt : k < l.length
   ·have hgi : (k : Int) < (l.length : Int) := by omega
    have hg0 : (0 : Int) ≤ (k : Int) := by omega
    have hml := HS.out.le
    have hgm : (k : Int) ≤ (m : Int) := by omega
    obtain ⟨b, off, hA, c0, c1⟩ := pi_at (HS.out.rd.keep hK) hlt
    subst hA
    obtain ⟨q, hq⟩ : ∃ q, l[k] = q := ⟨_, rfl⟩
    rw [hq] at c0 c1
    have HC := Lib.hid (And.intro c0 c1)
    have HQ := Lib.hid (show q.a < 4294967296 by rw [← hq]; exact HWF.out k hlt)
    have HF := Lib.hid (show freeB (l.take (k + 1)) = (toldB q && decide (q ∉ l.take k)) by rw [vbI hlt, hF.out, hq, Bool.true_and])
    clear c0 c1 hq
    go_upto_region 6 with (fail)
    cases ht : toldB q with
    | false =>
     have HT := Lib.hid ht
     have HN := Lib.hid (show freeB l = false from vcu (i := k + 1) (by rw [HF.out, ht]; rfl))
     clear ht
     refine' vcV (fun (_ : Unit) _ V9 => Kp _ V9) [13, 14, 15, 16, 17, 18, 19, 20, 21, 22, 23, 24, 25, 26, 27, 28, 29] (fun (_ : Unit) => [.slice (some ⟨b, off, none⟩) l.length m, .int .i64 k, .pointer (some ⟨b, off + k * 2, none⟩), .agg #[.int .u32 (q.a : Int), .int .i64 q.l], .bool false, .bool true, .bool true, undef, undef, undef, undef, undef, undef, undef, undef, undef, .bool true]) [true, true, true, true, true, true, true, false, false, false, false, false, false, false, false, false, true] [] (by kernel_rfl) (by kernel_rfl) (fun _ => rfl) (fun _ => rfl) (fun _ => rfl) () (Kp.refl _).drew (fun _ _ _ _ _ h => h) ?_ ?_ ?_
     rotate_left
     ·intro z; simp only [List.zip_cons_cons, List.zip_nil_right, wrC, wrN, List.set_cons_zero, List.set_cons_succ, List.set_nil]; rfl
     ·repeat' (first | refine And.intro ?_ ?_ | exact trivial)
      all_goals intro z L a w9 hLi d hcl hM hO K hK
      all_goals try (go_simp; exact hK z _ _ (hO rfl) (fun _ _ => rfl) rfl)
      ·have c0 : w9.cell? ⟨b, off + k * 2, none⟩ = some (.int .u32 (q.a : Int)) := hM.cell HC.out.1
       have c1 : w9.cell? ⟨b, off + k * 2 + 1, none⟩ = some (.int .i64 q.l) := hM.cell HC.out.2
       go_simp
       exact hK z _ _ (hO rfl) (fun _ _ => rfl) rfl
      ·go_simp
       refine (vfi q _ HQ.out).mono ?_
       rintro e wa ⟨rfl, hKc⟩
       rw [HT.out]
       exact hK z _ _ (hM.trans hKc) (fun _ _ => rfl) rfl
     intro z L w9 hL KV
     (try simp only [Exit.then])
     go_wp2_with fail
     go_ret
     exact ⟨by rw [HD.out, HN.out] <;> rfl, hK.trans KV⟩
    | true =>
     have HT := Lib.hid ht
     have HO : Hid (∀ u, Kp wr u → Calls Tryz.prog 137 #[.agg #[.int .i64 0, .int .i64 0, .int .i64 0, .int .i64 0, .int .i64 0, .int .i64 0, .int .i64 0, .int .i64 0, .slice (some ⟨b, off, none⟩) k m], .agg #[.int .u32 (q.a : Int), .int .i64 q.l]] u fun e w' => e = .returned (.bool (decide (q ∈ l.take k))) ∧ Kp u w') := by
      refine Lib.hid (fun u hu => ?_)
      have e : (l.take k).length = k := by rw [List.length_take]; omega
      have h0 := vmS ⟨0, 0, 0, 0, 0, 0, 0, 0, l.take k⟩ (some ⟨b, off, none⟩) m q u (vji (HS.out.rd.keep (hK.trans hu)) k) (by rw [e]; omega)
      simp only [e] at h0
      exact h0
     clear ht
     cases ho : decide (q ∈ l.take k) with
     | true =>
      have hoo : decide (q ∈ l.take k) = true := ho
      rw [ho] at HO
      have HN := Lib.hid (show freeB l = false from vcu (i := k + 1) (by rw [HF.out, HT.out]; simpa using ho))
      clear ho hoo
      refine' vcV (fun (_ : Unit) _ V9 => Kp _ V9) [13, 14, 15, 16, 17, 18, 19, 20, 21, 22, 23, 24, 25, 26, 27, 28, 29] (fun (_ : Unit) => [.slice (some ⟨b, off, none⟩) l.length m, .int .i64 k, .pointer (some ⟨b, off + k * 2, none⟩), .agg #[.int .u32 (q.a : Int), .int .i64 q.l], .bool true, .bool false, .bool false, .slice (some ⟨b, off, none⟩) l.length m, .int .i64 k, .slice (some ⟨b, off, none⟩) k m, .agg #[.int .i64 0, .int .i64 0, .int .i64 0, .int .i64 0, .int .i64 0, .int .i64 0, .int .i64 0, .int .i64 0, .slice (some ⟨b, off, none⟩) k m], .slice (some ⟨b, off, none⟩) l.length m, .int .i64 k, .pointer (some ⟨b, off + k * 2, none⟩), .agg #[.int .u32 (q.a : Int), .int .i64 q.l], .bool true, .bool true]) (List.replicate 17 true) [] (by kernel_rfl) (by kernel_rfl) (fun _ => rfl) (fun _ => rfl) (fun _ => rfl) () (Kp.refl _).drew (fun _ _ _ _ _ h => h) ?_ ?_ ?_
      rotate_left
      ·intro z; simp only [List.zip_cons_cons, List.zip_nil_right, wrC, wrN, List.set_cons_zero, List.set_cons_succ, List.set_nil]; rfl
      ·repeat' (first | refine And.intro ?_ ?_ | exact trivial)
       all_goals intro z L a w9 hLi d hcl hM hO K hK
       all_goals try (go_simp; exact hK z _ _ (hO rfl) (fun _ _ => rfl) rfl)
       ·have c0 : w9.cell? ⟨b, off + k * 2, none⟩ = some (.int .u32 (q.a : Int)) := hM.cell HC.out.1
        have c1 : w9.cell? ⟨b, off + k * 2 + 1, none⟩ = some (.int .i64 q.l) := hM.cell HC.out.2
        go_simp
        exact hK z _ _ (hO rfl) (fun _ _ => rfl) rfl
       ·go_simp
        refine (vfi q _ HQ.out).mono ?_
        rintro e wa ⟨rfl, hKc⟩
        rw [HT.out]
        exact hK z _ _ (hM.trans hKc) (fun _ _ => rfl) rfl
       ·have c0 : w9.cell? ⟨b, off + k * 2, none⟩ = some (.int .u32 (q.a : Int)) := hM.cell HC.out.1
        have c1 : w9.cell? ⟨b, off + k * 2 + 1, none⟩ = some (.int .i64 q.l) := hM.cell HC.out.2
        go_simp
        exact hK z _ _ (hO rfl) (fun _ _ => rfl) rfl
       ·go_simp
        refine (HO.out _ hM).mono ?_
        rintro e wa ⟨rfl, hKc⟩
        exact hK z _ _ (hM.trans hKc) (fun _ _ => rfl) rfl
      intro z L w9 hL KV
      (try simp only [Exit.then])
      go_wp2_with fail
      go_ret
      exact ⟨by rw [HD.out, HN.out] <;> rfl, hK.trans KV⟩
     | false =>
      rw [ho] at HO
      have HN := Lib.hid (show freeB (l.take (k + 1)) = true by rw [HF.out, HT.out]; simpa using ho)
      clear ho
      refine' vcV (fun (_ : Unit) _ V9 => Kp _ V9) [13, 14, 15, 16, 17, 18, 19, 20, 21, 22, 23, 24, 25, 26, 27, 28, 29] (fun (_ : Unit) => [.slice (some ⟨b, off, none⟩) l.length m, .int .i64 k, .pointer (some ⟨b, off + k * 2, none⟩), .agg #[.int .u32 (q.a : Int), .int .i64 q.l], .bool true, .bool false, .bool false, .slice (some ⟨b, off, none⟩) l.length m, .int .i64 k, .slice (some ⟨b, off, none⟩) k m, .agg #[.int .i64 0, .int .i64 0, .int .i64 0, .int .i64 0, .int .i64 0, .int .i64 0, .int .i64 0, .int .i64 0, .slice (some ⟨b, off, none⟩) k m], .slice (some ⟨b, off, none⟩) l.length m, .int .i64 k, .pointer (some ⟨b, off + k * 2, none⟩), .agg #[.int .u32 (q.a : Int), .int .i64 q.l], .bool false, .bool false]) (List.replicate 17 true) [] (by kernel_rfl) (by kernel_rfl) (fun _ => rfl) (fun _ => rfl) (fun _ => rfl) () (Kp.refl _).drew (fun _ _ _ _ _ h => h) ?_ ?_ ?_
      rotate_left
      ·intro z; simp only [List.zip_cons_cons, List.zip_nil_right, wrC, wrN, List.set_cons_zero, List.set_cons_succ, List.set_nil]; rfl
      ·repeat' (first | refine And.intro ?_ ?_ | exact trivial)
       all_goals intro z L a w9 hLi d hcl hM hO K hK
       all_goals try (go_simp; exact hK z _ _ (hO rfl) (fun _ _ => rfl) rfl)
       ·have c0 : w9.cell? ⟨b, off + k * 2, none⟩ = some (.int .u32 (q.a : Int)) := hM.cell HC.out.1
        have c1 : w9.cell? ⟨b, off + k * 2 + 1, none⟩ = some (.int .i64 q.l) := hM.cell HC.out.2
        go_simp
        exact hK z _ _ (hO rfl) (fun _ _ => rfl) rfl
       ·go_simp
        refine (vfi q _ HQ.out).mono ?_
        rintro e wa ⟨rfl, hKc⟩
        rw [HT.out]
        exact hK z _ _ (hM.trans hKc) (fun _ _ => rfl) rfl
       ·have c0 : w9.cell? ⟨b, off + k * 2, none⟩ = some (.int .u32 (q.a : Int)) := hM.cell HC.out.1
        have c1 : w9.cell? ⟨b, off + k * 2 + 1, none⟩ = some (.int .i64 q.l) := hM.cell HC.out.2
        go_simp
        exact hK z _ _ (hO rfl) (fun _ _ => rfl) rfl
       ·go_simp
        refine (HO.out _ hM).mono ?_
        rintro e wa ⟨rfl, hKc⟩
        exact hK z _ _ (hM.trans hKc) (fun _ _ => rfl) rfl
      intro z L w9 hL KV
      (try simp only [Exit.then])
      go_wp2_with fail
      go_roundw
      case rel => exact ⟨k + 1, by omega, by go_num, HN, hK.trans KV⟩
      case measure => simp [intOf]; omega
   ·obtain rfl : k = l.length := by omega
    have HN := Lib.hid (show freeB l = true by have := hF.out; rwa [List.take_length] at this)
    go_wp2_with fail
    go_ret
    exact ⟨by rw [HD.out, HN.out] <;> rfl, hK⟩
 ·have d16 : decide (16 < (l.length : Int)) = true := decide_eq_true (by omega)
  have HD := Lib.hid (show decide (l.length ≤ 16) = false from decide_eq_false h16)
  clear h16
  go_enter Tryz.func72, Tryz.ntmps72
  go_wp2_with fail
  go_ret
  exact ⟨by rw [HD.out] <;> rfl, Kp.refl _⟩
theorem vlg (j : Nat) : 0 ≤ leastS j := by
 unfold leastS
 split <;> decide
theorem vlh (c : Cf) : okCf c = true ↔ (∀ j, j < 7 → withB 0 1000000 (c.t j) = true) ∧ 1 ≤ c.t0 ∧ 1 ≤ c.t2 ∧ 1 ≤ c.t4 ∧ 1 ≤ c.cap ∧ c.cap ≤ 256 ∧ (c.own.length : Int) ≤ c.cap ∧ c.own.length ≤ 16 ∧ freeB c.own = true := by
 constructor
 ·intro h
  have ht := vbJ h
  obtain ⟨h1, h2, h3, h4, _, _⟩ := vaO h
  have hf : freeB c.own = true := by
   unfold okCf at h
   simp only [Bool.and_eq_true] at h
   exact h.2.2
  refine ⟨fun j hj => ?_, (ht 0 (by omega)).1, (ht 2 (by omega)).1, (ht 4 (by omega)).1, h1, h2, h4, by omega, hf⟩
  rw [vaa]
  have h5 := ht j hj
  have h6 := vlg j
  omega
 ·rintro ⟨h, h0, h2, h4, c0, c1, c2, c3, hf⟩
  have a0 := vaa.1 (h 0 (by omega))
  have a1 := vaa.1 (h 1 (by omega))
  have a2 := vaa.1 (h 2 (by omega))
  have a3 := vaa.1 (h 3 (by omega))
  have a4 := vaa.1 (h 4 (by omega))
  have a5 := vaa.1 (h 5 (by omega))
  have a6 := vaa.1 (h 6 (by omega))
  have s0 : spanB 0 c = true := vaa.2 ⟨h0, a0.2⟩
  have s1 : spanB 1 c = true := vaa.2 a1
  have s2 : spanB 2 c = true := vaa.2 ⟨h2, a2.2⟩
  have s3 : spanB 3 c = true := vaa.2 a3
  have s4 : spanB 4 c = true := vaa.2 ⟨h4, a4.2⟩
  have s5 : spanB 5 c = true := vaa.2 a5
  have s6 : spanB 6 c = true := vaa.2 a6
  have sc : withB 1 256 c.cap = true := vaa.2 ⟨c0, c1⟩
  have so : decide ((c.own.length : Int) ≤ min 16 c.cap) = true := decide_eq_true (by omega)
  unfold okCf spansB
  rw [s0, s1, s2, s3, s4, s5, s6, sc, so, hf]
  rfl
theorem vbA {c : Cf} (h : ¬ ((∀ j, j < 7 → withB 0 1000000 (c.t j) = true) ∧ 1 ≤ c.t0 ∧ 1 ≤ c.t2 ∧ 1 ≤ c.t4 ∧ 1 ≤ c.cap ∧ c.cap ≤ 256 ∧ (c.own.length : Int) ≤ c.cap ∧ c.own.length ≤ 16 ∧ freeB c.own = true)) : okCf c = false := by
 rw [Bool.eq_false_iff]
 exact fun z => h ((vlh c).1 z)
theorem voS (c : Cf) (k : Nat) (hk : k < 7) {w : World} {g : Nat} (h : Blk w g 155 #[.int .i64 c.t0, .int .i64 c.t1, .int .i64 c.t2, .int .i64 c.t3, .int .i64 c.t4, .int .i64 c.t5, .int .i64 c.t6]) : w.cell? ⟨g, k, none⟩ = some (.int .i64 (c.t k)) := by
 rcases seven hk with rfl | rfl | rfl | rfl | rfl | rfl | rfl
 ·exact h.cell 0
 ·exact h.cell 1
 ·exact h.cell 2
 ·exact h.cell 3
 ·exact h.cell 4
 ·exact h.cell 5
 ·exact h.cell 6
set_option maxRecDepth 100000 in
theorem veb (c : Cf) (A : Option Addr) (m : Nat) (w : World) (hS : SlPI w A m c.own) (hw : ∀ k (hk : k < c.own.length), c.own[k].a < 4294967296) (hn : c.own.length ≤ 1000000) :
  Calls Tryz.prog 20 #[cfV c A c.own.length m] w fun e w' => e = .returned (.bool (okCf c)) ∧ Kp w w' := by
 have HS := Lib.hid hS
 have HWF := Lib.hid hw
 obtain ⟨b, hb⟩ : ∃ b, w.heap.size = b := ⟨_, rfl⟩
 obtain ⟨W, hW, kW, B0⟩ := Blk.al1 hb (cfC c A c.own.length m) 49
 have HB := Lib.hid B0
 have y0 := Blk.f B0 rfl
 unfold cfC at hW
 clear hS hw B0
 go_enter Tryz.func20, Tryz.ntmps20
 go_wp2_with fail
 clear hW
 refine (viE c A c.own.length m _).mono ?_
 rintro e w1 ⟨rfl, K1⟩
 clear y0
 obtain ⟨g, hg⟩ : ∃ g, w1.heap.size = g := ⟨_, rfl⟩
 obtain ⟨X, hX, kX, BX⟩ := Blk.al1 hg #[.int .i64 c.t0, .int .i64 c.t1, .int .i64 c.t2, .int .i64 c.t3, .int .i64 c.t4, .int .i64 c.t5, .int .i64 c.t6] 155
 have KX := kW.trans (K1.trans kX)
 have HBX := Lib.hid (HB.out.keep (K1.trans kX))
 clear K1 kX
 go_wp2_with fail
 try rw [hX]
 try rw [hg]
 clear hX hg
 go_loopw [4] (fun i wr => ∃ k : Nat, k ≤ 7 ∧ i = .int .i64 k ∧ Hid (∀ j, j < k → withB 0 1000000 (c.t j) = true) ∧ Kp X wr) (fun i _ => 7 - (intOf i).toNat)
 case atStart => exact ⟨0, Nat.zero_le _, rfl, Lib.hid (fun j h => absurd h (by omega)), Kp.refl _⟩
 case round =>
  obtain ⟨k, hk, rfl, hF, hK⟩ := hrel
  have K := KX.trans hK
  by_cases hlt : k < 7
  ·have hgi : (k : Int) < 7 := by omega
   have hg0 : (0 : Int) ≤ (k : Int) := by omega
   have ck := voS c k hlt (BX.keep hK)
   obtain ⟨x, hx⟩ : ∃ x, c.t k = x := ⟨_, rfl⟩
   rw [hx] at ck
   have HX := Lib.hid hx
   clear hx
   go_wp2_with fail
   refine (viF x _).mono ?_
   rintro e w2 ⟨rfl, rfl⟩
   cases hs : withB 0 1000000 x with
   | false =>
    have HN := Lib.hid (vbA (c := c) (fun z => by have := z.1 k hlt; rw [HX.out, hs] at this; cases this))
    clear hs
    go_wp2_with fail
    go_ret
    exact ⟨by rw [HN.out] <;> rfl, K⟩
   | true =>
    have HN : Hid (∀ j, j < k + 1 → withB 0 1000000 (c.t j) = true) := Lib.hid (fun j hj => by
     by_cases e : j = k
     ·subst e; rw [HX.out]; exact hs
     ·exact hF.out j (by omega))
    clear hs
    go_wp2_with fail
    go_roundw
    case rel => exact ⟨k + 1, by omega, by go_num, HN, hK⟩
    case measure => simp [intOf]; omega
  ·obtain rfl : k = 7 := by omega
   have B := HBX.out.keep hK
   have y0 := Blk.f B rfl
   clear B
   by_cases h1 : 1 ≤ c.t0
   ·have d1 : decide (1 ≤ c.t0) = true := decide_eq_true h1
    by_cases h2 : 1 ≤ c.t2
    ·have d2 : decide (1 ≤ c.t2) = true := decide_eq_true h2
     by_cases h3 : 1 ≤ c.t4
     ·have d3 : decide (1 ≤ c.t4) = true := decide_eq_true h3
      by_cases h4 : 1 ≤ c.cap
      ·have d4 : decide (1 ≤ c.cap) = true := decide_eq_true h4
       by_cases h5 : c.cap ≤ 256
       ·have d5 : decide (c.cap ≤ 256) = true := decide_eq_true h5
        by_cases h6 : (c.own.length : Int) ≤ c.cap
        ·have d6 : decide ((c.own.length : Int) ≤ c.cap) = true := decide_eq_true h6
         have HN := Lib.hid (show okCf c = (decide (c.own.length ≤ 16) && freeB c.own) by
          rw [Bool.eq_iff_iff, vlh, Bool.and_eq_true, decide_eq_true_eq]
          exact ⟨fun z => ⟨z.2.2.2.2.2.2.2.1, z.2.2.2.2.2.2.2.2⟩, fun z => ⟨hF.out, h1, h2, h3, h4, h5, h6, z.1, z.2⟩⟩)
         go_wp2_with fail
         refine (vlf c.own A m _ (HS.out.keep K) HWF.out hn).mono ?_
         rintro e w3 ⟨rfl, K3⟩
         rw [← HN.out]
         go_wp2_with fail
         go_ret
         exact ⟨rfl, K.trans K3⟩
        ·have d6 : decide ((c.own.length : Int) ≤ c.cap) = false := decide_eq_false h6
         have HN := Lib.hid (vbA (c := c) (fun z => h6 z.2.2.2.2.2.2.1))
         go_wp2_with fail
         go_ret
         exact ⟨by rw [HN.out] <;> rfl, K⟩
       ·have d5 : decide (c.cap ≤ 256) = false := decide_eq_false h5
        have HN := Lib.hid (vbA (c := c) (fun z => h5 z.2.2.2.2.2.1))
        go_wp2_with fail
        go_ret
        exact ⟨by rw [HN.out] <;> rfl, K⟩
      ·have d4 : decide (1 ≤ c.cap) = false := decide_eq_false h4
       have HN := Lib.hid (vbA (c := c) (fun z => h4 z.2.2.2.2.1))
       go_wp2_with fail
       go_ret
       exact ⟨by rw [HN.out] <;> rfl, K⟩
     ·have d3 : decide (1 ≤ c.t4) = false := decide_eq_false h3
      have HN := Lib.hid (vbA (c := c) (fun z => h3 z.2.2.2.1))
      go_wp2_with fail
      go_ret
      exact ⟨by rw [HN.out] <;> rfl, K⟩
    ·have d2 : decide (1 ≤ c.t2) = false := decide_eq_false h2
     have HN := Lib.hid (vbA (c := c) (fun z => h2 z.2.2.1))
     go_wp2_with fail
     go_ret
     exact ⟨by rw [HN.out] <;> rfl, K⟩
   ·have d1 : decide (1 ≤ c.t0) = false := decide_eq_false h1
    have HN := Lib.hid (vbA (c := c) (fun z => h1 z.2.1))
    go_wp2_with fail
    go_ret
    exact ⟨by rw [HN.out] <;> rfl, K⟩
end

end Go.Proofs.YtgopnfacklmkaaaGreatDoor
