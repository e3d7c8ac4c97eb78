/- Lemmas and contracts for the theorem of this claim: PfX, Tr, Tr2. -/
import Derived.Test.YtgopnfacklmkaaaGreatDoorZzAc
import Derived.Deep.RegionHeld3
set_option linter.all false
set_option maxHeartbeats 16000000
namespace Go.Proofs.YtgopnfacklmkaaaGreatDoor
section
open Go.RowKit
set_option maxRecDepth 100000 in
theorem vdK (p q : Pn) (w : World) (hp : p.a < 4294967296) (hq : q.a < 4294967296) (hl : p.l ≤ 32) (hl2 : q.l ≤ 32) :
  Calls Tryz.prog 325 #[.agg #[.int .u32 p.a, .int .i64 p.l], .agg #[.int .u32 q.a, .int .i64 q.l]] w fun e w' => e = .returned (.int .i64 (holdsI p q : Nat)) ∧ Kp w w' := by
 have hb := Lib.hid (vgi q.a (maskN p.l) hq (vco _))
 have hm := Lib.hid (vgQ hq hl)
 obtain ⟨W, hW, kW, B0, B1⟩ : ∃ W, (w.alloc (.cells #[.int .u32 p.a, .int .i64 p.l] 39)).alloc (.cells #[.int .u32 q.a, .int .i64 q.l] 39) = W ∧ Kp w W ∧ Blk W w.heap.size 39 #[.int .u32 p.a, .int .i64 p.l] ∧ Blk W (w.heap.size + 1) 39 #[.int .u32 q.a, .int .i64 q.l] :=
  ⟨_, rfl, ((Kp.refl _).alloc _).alloc _, (Blk.new w _ _).alloc _, Blk.new1 w _ _ _⟩
 have p0 : W.cell? ⟨w.heap.size, 0, none⟩ = some (.int .u32 p.a) := B0.cell 0
 have p1 : W.cell? ⟨w.heap.size, 1, none⟩ = some (.int .i64 p.l) := B0.cell 1
 have q0 : W.cell? ⟨w.heap.size + 1, 0, none⟩ = some (.int .u32 q.a) := B1.cell 0
 have q1 : W.cell? ⟨w.heap.size + 1, 1, none⟩ = some (.int .i64 q.l) := B1.cell 1
 by_cases h : p.l ≤ q.l
 ·have hd : decide (p.l ≤ q.l) = true := by simpa using h
  by_cases he : cut q.a p.l = p.a
  ·have H := Lib.hid (show holdsI p q = 1 by simp [holdsI, Pn.holds, h, he])
   have hcmp : (bits .and .u32 (q.a : Int) (maskN p.l : Int) == (p.a : Int)) = true := by rw [hb.out, hm.out, he]; simp
   clear he
   go_enter Tryz.func325, Tryz.ntmps325
   go_wp2_with fail
   go_region_held3 (fun w' => w'.cell? ⟨w.heap.size, 0, none⟩ = some (.int .u32 p.a) ∧ w'.cell? ⟨w.heap.size, 1, none⟩ = some (.int .i64 p.l) ∧ w'.cell? ⟨w.heap.size + 1, 0, none⟩ = some (.int .u32 q.a) ∧ w'.cell? ⟨w.heap.size + 1, 1, none⟩ = some (.int .i64 q.l)) (go_keep)
    (first | (go_at_call 293; refine (vbt _ _ hl).mono ?_; rintro e w' ⟨rfl, rfl⟩))
   go_wp2_with fail
   go_ret
   exact ⟨by rw [H.out]; rfl, kW.drew⟩
  ·have H := Lib.hid (show holdsI p q = 0 by simp [holdsI, Pn.holds, he])
   have hcmp : (bits .and .u32 (q.a : Int) (maskN p.l : Int) == (p.a : Int)) = false := by rw [hb.out, hm.out]; simp; omega
   clear he
   go_enter Tryz.func325, Tryz.ntmps325
   go_wp2_with fail
   go_region_held3 (fun w' => w'.cell? ⟨w.heap.size, 0, none⟩ = some (.int .u32 p.a) ∧ w'.cell? ⟨w.heap.size, 1, none⟩ = some (.int .i64 p.l) ∧ w'.cell? ⟨w.heap.size + 1, 0, none⟩ = some (.int .u32 q.a) ∧ w'.cell? ⟨w.heap.size + 1, 1, none⟩ = some (.int .i64 q.l)) (go_keep)
    (first | (go_at_call 293; refine (vbt _ _ hl).mono ?_; rintro e w' ⟨rfl, rfl⟩))
   go_wp2_with fail
   go_ret
   exact ⟨by rw [H.out]; rfl, kW.drew⟩
 ·have H := Lib.hid (show holdsI p q = 0 by simp [holdsI, Pn.holds, h])
  have hd : decide (p.l ≤ q.l) = false := by simpa using h
  clear h
  go_enter Tryz.func325, Tryz.ntmps325
  go_wp2_with fail
  go_quiet (fail)
  go_wp2_with fail
  go_ret
  exact ⟨by rw [H.out]; rfl, kW.drewN _⟩
theorem vbk (a i : Nat) (w : World) (ha : a < 4294967296) (hi : i ≤ 32) :
  Calls Tryz.prog 300 #[.int .u32 a, .int .i64 i] w fun e w' => e = .returned (.int .i64 (bitN a i)) ∧ w = w' := by
 by_cases h : i < 32
 ·have hq : (a : Int) / 2 ^ (31 - i) = ((a / 2 ^ (31 - i) : Nat) : Int) := by simp
  have hb : bits .and .u32 ((a / 2 ^ (31 - i) : Nat) : Int) 1 = ((a / 2 ^ (31 - i) % 2 : Nat) : Int) := by
   have := vgi (a / 2 ^ (31 - i)) 1 (Nat.lt_of_le_of_lt (Nat.div_le_self _ _) ha) (by omega)
   rw [Nat.and_one_is_mod] at this
   exact this
  have H := Lib.hid (show bitN a i = a / 2 ^ (31 - i) % 2 by simp [bitN, h])
  have Hq := Lib.hid hq; clear hq
  have Hb := Lib.hid hb; clear hb
  have hw : wrap64 ((a / 2 ^ (31 - i) % 2 : Nat) : Int) = ((a / 2 ^ (31 - i) % 2 : Nat) : Int) := IntWalk.wrap64_in _ ⟨by omega, by omega⟩
  have Hw := Lib.hid hw; clear hw
  go_enter Tryz.func300, Tryz.ntmps300
  go_wp2
  go_ret
  rw [Hq.out, Hb.out, Hw.out, H.out]
  exact ⟨rfl, rfl⟩
 ·have H := Lib.hid (show bitN a i = 0 by simp [bitN, h])
  go_enter Tryz.func300, Tryz.ntmps300
  go_wp2
  go_ret
  exact ⟨by rw [H.out]; rfl, rfl⟩
def RelsAt (w : World) : Prop := w.cell? ⟨3, 0, none⟩ = some (.int .i64 4) ∧ w.cell? ⟨3, 1, none⟩ = some (.int .i64 2) ∧ w.cell? ⟨3, 2, none⟩ = some (.int .i64 3) ∧ w.cell? ⟨3, 3, none⟩ = some (.int .i64 1)
theorem RelsAt.keep {w w' : World} (h : RelsAt w) (k : Kp w w') : RelsAt w' := ⟨k.cell h.1, k.cell h.2.1, k.cell h.2.2.1, k.cell h.2.2.2⟩
set_option maxRecDepth 100000 in
theorem vih (p q : Pn) (w : World) (hG : RelsAt w) (hp : p.ok) (hq : q.ok) :
  Calls Tryz.prog 329 #[.agg #[.int .u32 p.a, .int .i64 p.l], .agg #[.int .u32 q.a, .int .i64 q.l]] w fun e w' => e = .returned (.tuple #[.int .i64 (relI p q), .int .i64 0]) ∧ Kp w w' := by
 have hpl := hp.2.1
 have hql := hq.2.1
 have Hp := Lib.hid hp
 have Hq := Lib.hid hq
 obtain ⟨W, hW, kW, B0, B1⟩ : ∃ W, (w.alloc (.cells #[.int .u32 p.a, .int .i64 p.l] 39)).alloc (.cells #[.int .u32 q.a, .int .i64 q.l] 39) = W ∧ Kp w W ∧ Blk W w.heap.size 39 #[.int .u32 p.a, .int .i64 p.l] ∧ Blk W (w.heap.size + 1) 39 #[.int .u32 q.a, .int .i64 q.l] :=
  ⟨_, rfl, ((Kp.refl _).alloc _).alloc _, (Blk.new w _ _).alloc _, Blk.new1 w _ _ _⟩
 have p0 : W.cell? ⟨w.heap.size, 0, none⟩ = some (.int .u32 p.a) := B0.cell 0
 have p1 : W.cell? ⟨w.heap.size, 1, none⟩ = some (.int .i64 p.l) := B0.cell 1
 have q0 : W.cell? ⟨w.heap.size + 1, 0, none⟩ = some (.int .u32 q.a) := B1.cell 0
 have q1 : W.cell? ⟨w.heap.size + 1, 1, none⟩ = some (.int .i64 q.l) := B1.cell 1
 have hrd : Rd (W.alloc (.cells #[.int .u32 p.a, .int .i64 p.l, .int .u32 q.a, .int .i64 q.l] 39)) 2 PI.enc (some ⟨W.heap.size, 0, none⟩) [p.pi, q.pi] := Rd.of_blk (Blk.new W _ _) (by omega) PI.len (by unfold maxLen; simp) rfl
 have Hrd := Lib.hid hrd; clear hrd
 clear hp hq
 go_enter Tryz.func329, Tryz.ntmps329
 go_wp2_with fail
 refine vac 0 rfl ?_
 go_wp2_with fail
 refine (vcp _ 2 [p.pi, q.pi] _ Hrd.out (by simp) (fun k hk => by
  have hk2 : k = 0 ∨ k = 1 := by simp at hk; omega
  rcases hk2 with rfl | rfl
  ·exact Hp.out.1
  ·exact Hq.out.1)).mono ?_
 rintro e w1 ⟨rfl, hK1⟩
 rw [show [p.pi, q.pi].all PI.okB = true by simp [pi_ok Hp.out, pi_ok Hq.out]]
 have k1 : Kp W w1 := ((Kp.refl _).alloc _).trans hK1
 have C0 := B0.keep k1
 have C1 := B1.keep k1
 obtain ⟨g0, g1, g2, g3⟩ := hG.keep (kW.trans k1)
 clear p0 p1 q0 q1 hW B0 B1 hK1 Hrd
 have p0 : w1.cell? ⟨w.heap.size, 0, none⟩ = some (.int .u32 p.a) := C0.cell 0
 have p1 : w1.cell? ⟨w.heap.size, 1, none⟩ = some (.int .i64 p.l) := C0.cell 1
 have q0 : w1.cell? ⟨w.heap.size + 1, 0, none⟩ = some (.int .u32 q.a) := C1.cell 0
 have q1 : w1.cell? ⟨w.heap.size + 1, 1, none⟩ = some (.int .i64 q.l) := C1.cell 1
 have kw := kW.trans k1
 clear k1 kW C0 C1
 obtain ⟨i, hi⟩ : ∃ i, holdsI p q = i := ⟨_, rfl⟩
 obtain ⟨j, hj⟩ : ∃ j, holdsI q p = j := ⟨_, rfl⟩
 have gr : w1.cell? ⟨3, i * 2 + j, none⟩ = some (.int .i64 (relI p q)) := by
  unfold holdsI at hi hj
  unfold relI
  by_cases a : p.holds q <;> by_cases b : q.holds p <;> simp [a, b] at hi hj <;> subst hi hj <;> simp [a, b, g0, g1, g2, g3]
 have hi2 : i < 2 := by unfold holdsI at hi; split at hi <;> omega
 have hj2 : j < 2 := by unfold holdsI at hj; split at hj <;> omega
 have Hi := Lib.hid hi; clear hi
 have Hj := Lib.hid hj; clear hj
 clear g0 g1 g2 g3
 have i0 : (0 : Int) ≤ (i : Int) := by omega
 have i1 : (i : Int) < 2 := by omega
 have j0 : (0 : Int) ≤ (j : Int) := by omega
 have j1 : (j : Int) < 2 := by omega
 go_wp2_with fail
 go_region_held3 (fun w' => w'.cell? ⟨w.heap.size, 0, none⟩ = some (.int .u32 p.a) ∧ w'.cell? ⟨w.heap.size, 1, none⟩ = some (.int .i64 p.l) ∧ w'.cell? ⟨w.heap.size + 1, 0, none⟩ = some (.int .u32 q.a) ∧ w'.cell? ⟨w.heap.size + 1, 1, none⟩ = some (.int .i64 q.l) ∧ w'.cell? ⟨3, i * 2 + j, none⟩ = some (.int .i64 (relI p q)))
   (first | exact ⟨Kb.cell p0, Kb.cell p1, Kb.cell q0, Kb.cell q1, Kb.cell gr⟩ | exact ⟨Ka.cell p0, Ka.cell p1, Ka.cell q0, Ka.cell q1, Ka.cell gr⟩ | go_keep)
   (first
    | (have tk := Ka; go_at_call 325; refine (vdK q p _ Hq.out.1 Hp.out.1 hql hpl).mono ?_; rintro e wb ⟨rfl, hKb⟩; rw [Hj.out]; have Kb : Kp w1 wb := Ka.trans hKb; clear tk)
    | (go_at_call 325; refine (vdK p q _ Hp.out.1 Hq.out.1 hpl hql).mono ?_; rintro e wa ⟨rfl, hKa⟩; rw [Hi.out]; have Ka : Kp w1 wa := (Kp.refl w1).drew.trans hKa))
 go_wp2_with fail
 refine vak ?_
 go_ret2
 exact ⟨rfl, kw.trans Kb⟩
set_option maxRecDepth 100000 in
theorem vew (p n : Pn) (w : World) (hG : RelsAt w) (hp : p.ok) (hn : n.ok) :
  Calls Tryz.prog 313 #[.agg #[.int .u32 p.a, .int .i64 p.l], .agg #[.int .u32 n.a, .int .i64 n.l]] w fun e w' => e = .returned (.bool (decide (n.holds p))) ∧ Kp w w' := by
 have Hc := Lib.hid (vhG p n)
 go_enter Tryz.func313, Tryz.ntmps313
 go_wp2_with fail
 refine (vih p n _ (hG.keep (((Kp.refl _).alloc _).alloc _)) hp hn).mono ?_
 rintro e w1 ⟨rfl, hK1⟩
 have k1 : Kp w w1 := (((Kp.refl _).alloc _).alloc _).trans hK1
 by_cases h : n.holds p
 ·have H := Lib.hid (show decide (n.holds p) = true by simpa using h)
  rcases Hc.out.1 h with h1 | ⟨h1, h2⟩
  ·clear h
   go_wp2_with fail
   go_ret
   exact ⟨by rw [H.out]; rfl, k1⟩
  ·clear h
   go_wp2_with fail
   go_ret
   exact ⟨by rw [H.out]; rfl, k1⟩
 ·have H := Lib.hid (show decide (n.holds p) = false by simpa using h)
  obtain ⟨h1, h2⟩ := Hc.out.2 h
  clear h
  go_wp2_with fail
  go_ret
  exact ⟨by rw [H.out]; rfl, k1⟩
end

section
inductive Tr where
 | nil
 | node (b : Nat) (p : Pn) (v : Int) (h : Bool) (x y : Tr)
def Tr.rows : Tr → List (Pn × Int)
 | .nil => []
 | .node _ p v h x y => (if h then [(p, v)] else []) ++ x.rows ++ y.rows
def Tr.pfx : Tr → List Pn
 | .nil => []
 | .node _ p _ _ x y => p :: x.pfx ++ y.pfx
def Tr.bs : Tr → List Nat
 | .nil => []
 | .node b _ _ _ x y => b :: x.bs ++ y.bs
def Tr.Wf : Tr → Prop
 | .nil => True
 | .node _ p _ _ x y => p.ok ∧ (∀ q ∈ x.pfx, (p.child 0).holds q) ∧ (∀ q ∈ y.pfx, (p.child 1).holds q) ∧ x.Wf ∧ y.Wf
theorem vbb : ∀ {t : Tr}, t.Wf → ∀ q ∈ t.pfx, q.ok
 | .nil, _, q, h => by cases h
 | .node b p v hh x y, ⟨hp, _, _, hx, hy⟩, q, h => by
  simp only [Tr.pfx, List.cons_append, List.mem_cons, List.mem_append] at h
  rcases h with rfl | h | h
  ·exact hp
  ·exact vbb hx q h
  ·exact vbb hy q h
theorem vab : ∀ {t : Tr} {r : Pn × Int}, r ∈ t.rows → r.1 ∈ t.pfx
 | .node b p v h x y, r, hr => by
  simp only [Tr.rows, List.mem_append] at hr
  simp only [Tr.pfx, List.cons_append, List.mem_cons, List.mem_append]
  rcases hr with (hr | hr) | hr
  ·left; split at hr
   ·simp at hr; rw [hr]
   ·cases hr
  ·right; left; exact vab hr
  ·right; right; exact vab hr
def Rises : List (Pn × Int) → Prop := List.Pairwise (fun r s => r.1.lt s.1)
theorem vah : ∀ {t : Tr}, t.Wf → Rises t.rows
 | .nil, _ => List.Pairwise.nil
 | .node b p v h x y, ⟨hp, h0, h1, hx, hy⟩ => by
  have px : ∀ r ∈ x.rows, p.lt r.1 := fun r hr => by
   have h := h0 _ (vab hr)
   have hq := vbb hx _ (vab hr)
   obtain ⟨a, b, _⟩ := vad (by omega) hp h hq.2.1
   exact vbC a b
  have py : ∀ r ∈ y.rows, p.lt r.1 := fun r hr => by
   have h := h1 _ (vab hr)
   have hq := vbb hy _ (vab hr)
   obtain ⟨a, b, _⟩ := vad (by omega) hp h hq.2.1
   exact vbC a b
  have pxy : ∀ r ∈ x.rows, ∀ s ∈ y.rows, r.1.lt s.1 := fun r hr s hs => by
   have hq := vbb hx _ (vab hr)
   have hl := (vad (by omega) hp (h0 _ (vab hr)) hq.2.1).2.1
   have := hq.2.1
   exact vln (h0 _ (vab hr)) (h1 _ (vab hs)) (by omega)
  unfold Rises Tr.rows
  rw [List.pairwise_append, List.pairwise_append]
  refine ⟨⟨?_, vah hx, ?_⟩, vah hy, ?_⟩
  ·split <;> simp
  ·intro r hr s hs
   split at hr
   ·simp at hr; subst hr; exact px s hs
   ·cases hr
  ·intro r hr s hs
   rcases List.mem_append.1 hr with hr | hr
   ·split at hr
    ·simp at hr; subst hr; exact py s hs
    ·cases hr
   ·exact pxy r hr s hs
def Tr.look (q : Pn) : Tr → Tr
 | .nil => .nil
 | .node b p v h x y => if p.holds q then (if p.l = q.l then .node b p v h x y else if bitN q.a p.l = 0 then x.look q else y.look q) else .node b p v h x y
def Tr.put (q : Pn) (s : Tr) : Tr → Tr
 | .nil => s
 | .node b p v h x y => if p.holds q then (if p.l = q.l then s else if bitN q.a p.l = 0 then .node b p v h (Tr.put q s x) y else .node b p v h x (Tr.put q s y)) else s
theorem vaI (a i : Nat) : bitN a i = 0 ∨ bitN a i = 1 := by have := vcm a i; omega
theorem veZ {p q : Pn} {t : Tr} {i : Nat} (hi : i < 2) (hp : p.ok) (hq : q.ok) (h : ∀ r ∈ t.pfx, (p.child i).holds r) (hb : bitN q.a p.l ≠ i) : q ∉ t.pfx := fun hm => by
 exact hb (vad hi hp (h q hm) hq.2.1).2.2
theorem vaV {q : Pn} (hq : q.ok) : ∀ {t : Tr}, t.Wf → ∀ v, ((q, v) ∈ t.rows ↔ ∃ b x y, t.look q = .node b q v true x y)
 | .nil, _, v => by simp [Tr.rows, Tr.look]
 | .node b p u h x y, ⟨hp, h0, h1, hx, hy⟩, v => by
  have ihx := vaV hq hx v
  have ihy := vaV hq hy v
  have hnx : ¬ p.holds q → (q, v) ∉ x.rows := fun hn hm => hn (vad (by omega) hp (h0 _ (vab hm)) hq.2.1).1
  have hny : ¬ p.holds q → (q, v) ∉ y.rows := fun hn hm => hn (vad (by omega) hp (h1 _ (vab hm)) hq.2.1).1
  by_cases hh : p.holds q
  ·by_cases hl : p.l = q.l
   ·have e := vbe hh hl hq
    subst e
    have nx : (p, v) ∉ x.rows := fun hm => absurd (vad (by omega) hp (h0 _ (vab hm)) hq.2.1).2.1 (Nat.lt_irrefl _)
    have ny : (p, v) ∉ y.rows := fun hm => absurd (vad (by omega) hp (h1 _ (vab hm)) hq.2.1).2.1 (Nat.lt_irrefl _)
    simp only [Tr.look, hh, if_true, Tr.rows, List.mem_append, nx, ny, or_false]
    constructor
    ·intro hm
     cases h with
     | true => simp at hm; subst hm; exact ⟨b, x, y, rfl⟩
     | false => simp at hm
    ·rintro ⟨b', x', y', e⟩
     injection e with e1 e2 e3 e4 e5 e6
     subst e3 e4
     simp
   ·have np : ¬ q = p := fun e => hl (by rw [e])
    have nself : (q, v) ∉ (if h then [(p, u)] else []) := by
     cases h <;> simp [np]
    rcases vaI q.a p.l with hb | hb
    ·have ny : (q, v) ∉ y.rows := fun hm => veZ (by omega) hp hq h1 (by omega) (vab hm)
     simp only [Tr.look, hh, hl, hb, if_true, if_false, Tr.rows, List.mem_append, nself, ny, false_or, or_false]
     exact ihx
    ·have hb0 : ¬ bitN q.a p.l = 0 := by omega
     have nx : (q, v) ∉ x.rows := fun hm => veZ (by omega) hp hq h0 (by omega) (vab hm)
     simp only [Tr.look, hh, hl, hb0, if_true, if_false, Tr.rows, List.mem_append, nself, nx, false_or]
     exact ihy
  ·have np : ¬ q = p := fun e => hh (by rw [e]; exact vem hp)
   have nself : (q, v) ∉ (if h then [(p, u)] else []) := by cases h <;> simp [np]
   simp only [Tr.look, hh, if_false, Tr.rows, List.mem_append, nself, hnx hh, hny hh, or_false, false_iff, not_exists]
   intro b' x' y' e
   injection e with e1 e2
   exact np e2.symm
theorem vdi {q : Pn} (hq : q.ok) {s : Tr} : ∀ {t : Tr}, t.Wf → (∀ r : Pn × Int, r ∈ s.rows → r.1 = q ∨ r ∈ (t.look q).rows) → (∀ r : Pn × Int, r ∈ (t.look q).rows → r.1 ≠ q → r ∈ s.rows) →
  (∀ r : Pn × Int, r.1 ≠ q → (r ∈ (Tr.put q s t).rows ↔ r ∈ t.rows)) ∧ (∀ v, (q, v) ∈ (Tr.put q s t).rows ↔ (q, v) ∈ s.rows)
 | .nil, _, h1, h2 => by
  refine ⟨fun r hr => ?_, fun v => by first | exact Iff.rfl | trivial⟩
  simp only [Tr.put, Tr.rows, List.not_mem_nil, iff_false]
  intro hm
  rcases h1 r hm with e | hm
  ·exact hr e
  ·simp [Tr.look, Tr.rows] at hm
 | .node b p u h x y, ⟨hp, h0, hone, hx, hy⟩, h1, h2 => by
  by_cases hh : p.holds q
  ·by_cases hl : p.l = q.l
   ·simp only [Tr.look, hh, hl, if_true] at h1 h2
    simp only [Tr.put, hh, hl, if_true]
    refine ⟨fun r hr => ⟨fun hm => ?_, fun hm => h2 r hm hr⟩, fun v => by first | exact Iff.rfl | trivial⟩
    rcases h1 r hm with e | hm
    ·exact absurd e hr
    ·exact hm
   ·have np : ¬ q = p := fun e => hl (by rw [e])
    have nself : ∀ v, (q, v) ∉ (if h then [(p, u)] else []) := by intro v; cases h <;> simp [np]
    rcases vaI q.a p.l with hb | hb
    ·simp only [Tr.look, hh, hl, hb, if_true, if_false] at h1 h2
     obtain ⟨i1, i2⟩ := vdi hq hx h1 h2
     have ny : ∀ v, (q, v) ∉ y.rows := fun v hm => veZ (by omega) hp hq hone (by omega) (vab hm)
     simp only [Tr.put, hh, hl, hb, if_true, if_false, Tr.rows, List.mem_append]
     refine ⟨fun r hr => by rw [i1 r hr], fun v => ?_⟩
     rw [i2 v]; simp [nself v, ny v]
    ·have hb0 : ¬ bitN q.a p.l = 0 := by omega
     simp only [Tr.look, hh, hl, hb0, if_true, if_false] at h1 h2
     obtain ⟨i1, i2⟩ := vdi hq hy h1 h2
     have nx : ∀ v, (q, v) ∉ x.rows := fun v hm => veZ (by omega) hp hq h0 (by omega) (vab hm)
     simp only [Tr.put, hh, hl, hb0, if_true, if_false, Tr.rows, List.mem_append]
     refine ⟨fun r hr => by rw [i1 r hr], fun v => ?_⟩
     rw [i2 v]; simp [nself v, nx v]
  ·simp only [Tr.look, hh, if_false] at h1 h2
   simp only [Tr.put, hh, if_false]
   refine ⟨fun r hr => ⟨fun hm => ?_, fun hm => h2 r hm hr⟩, fun v => by first | exact Iff.rfl | trivial⟩
   rcases h1 r hm with e | hm
   ·exact absurd e hr
   ·exact hm
theorem vhl {q : Pn} (hq : q.ok) {s : Tr} (hs : s.Wf) : ∀ {t : Tr}, t.Wf → (∀ c : Pn, c.ok → c.holds q → (∀ r ∈ (t.look q).pfx, c.holds r) → ∀ r ∈ s.pfx, c.holds r) → (Tr.put q s t).Wf ∧ ∀ c : Pn, c.ok → c.holds q → (∀ r ∈ t.pfx, c.holds r) → ∀ r ∈ (Tr.put q s t).pfx, c.holds r
 | .nil, _, hc => ⟨hs, fun c h1 h2 _ => hc c h1 h2 (by simp [Tr.look, Tr.pfx])⟩
 | .node b p u h x y, ⟨hp, h0, h1, hx, hy⟩, hc => by
  by_cases hh : p.holds q
  ·by_cases hl : p.l = q.l
   ·simp only [Tr.look, hh, hl, if_true] at hc
    simp only [Tr.put, hh, hl, if_true]
    exact ⟨hs, hc⟩
   ·have hlt : p.l < q.l := Nat.lt_of_le_of_ne hh.1 hl
    have hp32 : p.l < 32 := Nat.lt_of_lt_of_le hlt hq.2.1
    have hch := vaK hh hlt hq.2.1
    rcases vaI q.a p.l with hb | hb
    ·simp only [Tr.look, hh, hl, hb, if_true, if_false] at hc
     obtain ⟨i1, i2⟩ := vhl hq hs hx hc
     simp only [Tr.put, hh, hl, hb, if_true, if_false]
     rw [hb] at hch
     refine ⟨⟨hp, i2 _ (vgM (by omega) hp hp32) hch h0, h1, i1, hy⟩, fun c hco hcq hall r hr => ?_⟩
     simp only [Tr.pfx, List.cons_append, List.mem_cons, List.mem_append] at hr hall
     rcases hr with rfl | hr | hr
     ·exact hall _ (.inl rfl)
     ·exact i2 c hco hcq (fun r hr => hall r (.inr (.inl hr))) r hr
     ·exact hall r (.inr (.inr hr))
    ·have hb0 : ¬ bitN q.a p.l = 0 := by omega
     simp only [Tr.look, hh, hl, hb0, if_true, if_false] at hc
     obtain ⟨i1, i2⟩ := vhl hq hs hy (by simpa using hc)
     simp only [Tr.put, hh, hl, hb0, if_true, if_false]
     rw [hb] at hch
     refine ⟨⟨hp, h0, i2 _ (vgM (by omega) hp hp32) hch h1, hx, i1⟩, fun c hco hcq hall r hr => ?_⟩
     simp only [Tr.pfx, List.cons_append, List.mem_cons, List.mem_append] at hr hall
     rcases hr with rfl | hr | hr
     ·exact hall _ (.inl rfl)
     ·exact hall r (.inr (.inl hr))
     ·exact i2 c hco hcq (fun r hr => hall r (.inr (.inr hr))) r hr
  ·simp only [Tr.look, hh, if_false] at hc
   simp only [Tr.put, hh, if_false]
   exact ⟨hs, hc⟩
theorem vdL {q : Pn} : ∀ {t : Tr}, t.Wf → (t.look q).Wf
 | .nil, h => h
 | .node b p u h x y, hw => by
  unfold Tr.look
  split
  ·split
   ·exact hw
   ·split
    ·exact vdL hw.2.2.2.1
    ·exact vdL hw.2.2.2.2
  ·exact hw
theorem vcB {q : Pn} (hq : q.ok) : ∀ {t : Tr} {b : Nat} {p : Pn} {u : Int} {h : Bool} {x y : Tr}, t.look q = .node b p u h x y → p = q ∨ ¬ p.holds q
 | .nil, _, _, _, _, _, _, e => by simp [Tr.look] at e
 | .node b p u h x y, b', p', u', h', x', y', e => by
  unfold Tr.look at e
  split at e
  ·rename_i hh
   split at e
   ·rename_i hl
    injection e with _ e2
    subst e2
    exact .inl (vbe hh hl hq)
   ·split at e
    ·exact vcB hq e
    ·exact vcB hq e
  ·rename_i hh
   injection e with _ e2
   subst e2
   exact .inr hh
def hangT (q : Pn) (v : Int) (b1 b2 : Nat) : Tr → Tr
 | .nil => .node b1 q v true .nil .nil
 | .node b p u h x y =>
  if p = q then .node b p v true x y
  else if p.com q = q then (if bitN p.a q.l = 0 then .node b1 q v true (.node b p u h x y) .nil else .node b1 q v true .nil (.node b p u h x y))
  else if bitN q.a (p.com q).l = 0 then .node b2 (p.com q) 0 false (.node b1 q v true .nil .nil) (.node b p u h x y)
  else .node b2 (p.com q) 0 false (.node b p u h x y) (.node b1 q v true .nil .nil)
theorem vfK {t : Tr} {b : Nat} {p : Pn} {u : Int} {h : Bool} {x y : Tr} (e : t = .node b p u h x y) (hw : t.Wf) : ∀ r ∈ t.pfx, p.holds r := by
 subst e
 intro r hr
 simp only [Tr.pfx, List.cons_append, List.mem_cons, List.mem_append] at hr
 obtain ⟨hp, h0, h1, hx, hy⟩ := hw
 rcases hr with rfl | hr | hr
 ·exact vem hp
 ·exact (vad (by omega) hp (h0 r hr) (vbb hx r hr).2.1).1
 ·exact (vad (by omega) hp (h1 r hr) (vbb hy r hr).2.1).1
theorem vjV {q : Pn} {v : Int} {b1 b2 : Nat} {s : Tr} (hs : s.Wf) (hk : ∀ u, (q, u) ∉ s.rows) : ∀ r : Pn × Int, r ∈ (hangT q v b1 b2 s).rows ↔ r = (q, v) ∨ r ∈ s.rows := by
 intro r
 cases s with
 | nil => simp [hangT, Tr.rows]
 | node b p u h x y =>
  simp only [hangT]
  split
  ·rename_i e
   subst e
   have hf : h = false := by
    cases h with
    | false => rfl
    | true => exact absurd (show (p, u) ∈ (Tr.node b p u true x y).rows by simp [Tr.rows]) (hk u)
   subst hf
   simp [Tr.rows]
  ·split
   ·split <;> simp [Tr.rows]
   ·split
    ·simp [Tr.rows]
    ·simp only [Tr.rows, List.mem_append]
     simp
     constructor
     ·rintro (h | h); exact .inr h; exact .inl h
     ·rintro (h | h); exact .inr h; exact .inl h
theorem vfL {c p q : Pn} (h1 : c.holds p) (h2 : c.holds q) (hp : p.ok) (hq : q.ok) : c.holds (p.com q) :=
 ven h1 vcn (viO h1 h2) (viN hp).2.1
theorem vod {q : Pn} (hq : q.ok) {v : Int} {b1 b2 : Nat} {s : Tr} (hs : s.Wf) (hk : ∀ b p u h x y, s = .node b p u h x y → p = q ∨ ¬ p.holds q) :
  (hangT q v b1 b2 s).Wf ∧ ∀ c : Pn, c.ok → c.holds q → (∀ r ∈ s.pfx, c.holds r) → ∀ r ∈ (hangT q v b1 b2 s).pfx, c.holds r := by
 cases s with
 | nil =>
  refine ⟨⟨hq, by simp [Tr.pfx], by simp [Tr.pfx], trivial, trivial⟩, fun c _ hc _ r hr => ?_⟩
  simp [hangT, Tr.pfx] at hr
  subst hr; exact hc
 | node b p u h x y =>
  have hp : p.ok := hs.1
  have hin := vfK rfl hs
  have hkk := hk b p u h x y rfl
  simp only [hangT]
  split
  ·rename_i e
   subst e
   exact ⟨hs, fun c _ _ hall r hr => hall r hr⟩
  ·rename_i hne
   have hno : ¬ p.holds q := by rcases hkk with e | e; exact absurd e hne; exact e
   split
   ·rename_i hc
    have hqp : q.holds p := by rw [← hc]; exact vcn
    have hlt : q.l < p.l := by
     rcases Nat.lt_or_ge q.l p.l with h1 | h1
     ·exact h1
     ·exact absurd (vbe hqp (Nat.le_antisymm hqp.1 h1) hp).symm hne
    have hch := vaK hqp hlt hp.2.1
    have hside : ∀ r ∈ (Tr.node b p u h x y).pfx, (q.child (bitN p.a q.l)).holds r := fun r hr => vaJ hch (hin r hr) hp.2.1
    split
    ·rename_i hb
     rw [hb] at hside
     refine ⟨⟨hq, hside, by simp [Tr.pfx], hs, trivial⟩, fun c _ hcq hall r hr => ?_⟩
     rw [Tr.pfx] at hr
     simp only [Tr.pfx, List.append_nil, List.mem_cons] at hr
     rcases hr with rfl | hr
     ·exact hcq
     ·exact hall r (by simpa [Tr.pfx] using hr)
    ·rename_i hb
     have hb1 : bitN p.a q.l = 1 := by have := vcm p.a q.l; omega
     rw [hb1] at hside
     refine ⟨⟨hq, by simp [Tr.pfx], hside, trivial, hs⟩, fun c _ hcq hall r hr => ?_⟩
     rw [Tr.pfx] at hr
     simp only [Tr.pfx, List.cons_append, List.nil_append, List.mem_cons] at hr
     rcases hr with rfl | hr
     ·exact hcq
     ·exact hall r (by simpa [Tr.pfx] using hr)
   ·rename_i hc
    have hcok := viN (p := p) (q := q) hp
    have c1 : (p.com q).holds p := vcn
    have c2 := vdp hp hq
    have l1 : (p.com q).l < p.l := by
     rcases Nat.lt_or_ge (p.com q).l p.l with h1 | h1
     ·exact h1
     ·have e := vbe c1 (Nat.le_antisymm c1.1 h1) hp
      rw [e] at c2; exact absurd c2 hno
    have l2 : (p.com q).l < q.l := by
     rcases Nat.lt_or_ge (p.com q).l q.l with h1 | h1
     ·exact h1
     ·exact absurd (vbe c2 (Nat.le_antisymm c2.1 h1) hq) hc
    have hbits := vgO hp hq l1 l2
    have s1 := vaK c1 l1 hp.2.1
    have s2 := vaK c2 l2 hq.2.1
    have hside : ∀ r ∈ (Tr.node b p u h x y).pfx, ((p.com q).child (bitN p.a (p.com q).l)).holds r := fun r hr => vaJ s1 (hin r hr) hp.2.1
    have hleaf : (Tr.node b1 q v true .nil .nil).Wf := ⟨hq, by simp [Tr.pfx], by simp [Tr.pfx], trivial, trivial⟩
    split
    ·rename_i hb
     have hb1 : bitN p.a (p.com q).l = 1 := by have := vcm p.a (p.com q).l; omega
     rw [hb1] at hside
     rw [hb] at s2
     refine ⟨⟨hcok, fun r hr => ?_, hside, hleaf, hs⟩, fun c _ hcq hall r hr => ?_⟩
     ·simp [Tr.pfx] at hr; subst hr; exact s2
     ·rw [Tr.pfx] at hr
      simp only [Tr.pfx, List.append_nil, List.cons_append, List.nil_append, List.mem_cons] at hr
      have hcp := hall p (by simp [Tr.pfx])
      rcases hr with rfl | rfl | hr
      ·exact vfL hcp hcq hp hq
      ·exact hcq
      ·exact hall r (by simpa [Tr.pfx] using hr)
    ·rename_i hb
     have hb1 : bitN q.a (p.com q).l = 1 := by have := vcm q.a (p.com q).l; omega
     have hb0 : bitN p.a (p.com q).l = 0 := by have := vcm p.a (p.com q).l; omega
     rw [hb0] at hside
     rw [hb1] at s2
     refine ⟨⟨hcok, hside, fun r hr => ?_, hs, hleaf⟩, fun c _ hcq hall r hr => ?_⟩
     ·simp [Tr.pfx] at hr; subst hr; exact s2
     ·rw [Tr.pfx] at hr
      have hcp := hall p (by simp [Tr.pfx])
      rcases List.mem_cons.1 hr with rfl | hr
      ·exact vfL hcp hcq hp hq
      ·rcases List.mem_append.1 hr with hr | hr
       ·exact hall r hr
       ·simp [Tr.pfx] at hr; subst hr; exact hcq
def insT (q : Pn) (v : Int) (b1 b2 : Nat) (t : Tr) : Tr := Tr.put q (hangT q v b1 b2 (t.look q)) t
theorem voe {q : Pn} (hq : q.ok) {v : Int} {b1 b2 : Nat} {t : Tr} (ht : t.Wf) (hn : ∀ u, (q, u) ∉ t.rows) :
  (insT q v b1 b2 t).Wf ∧ ∀ r : Pn × Int, r ∈ (insT q v b1 b2 t).rows ↔ r = (q, v) ∨ r ∈ t.rows := by
 have hs := vdL (q := q) ht
 have hk : ∀ b p u h x y, t.look q = .node b p u h x y → p = q ∨ ¬ p.holds q := fun b p u h x y e => vcB hq e
 have hnone : ∀ u, (q, u) ∉ (t.look q).rows := fun u hm => by
  rcases hl : t.look q with _ | ⟨b, p, w, h, x, y⟩
  ·rw [hl] at hm; simp [Tr.rows] at hm
  ·rw [hl] at hm hs
   rcases hk b p w h x y hl with e | e
   ·subst e
    have hx : (p, u) ∉ x.rows := fun hm => absurd (vad (by omega) hs.1 (hs.2.1 _ (vab hm)) hq.2.1).2.1 (Nat.lt_irrefl _)
    have hy : (p, u) ∉ y.rows := fun hm => absurd (vad (by omega) hs.1 (hs.2.2.1 _ (vab hm)) hq.2.1).2.1 (Nat.lt_irrefl _)
    simp only [Tr.rows, List.mem_append, hx, hy, or_false] at hm
    cases h with
    | false => simp at hm
    | true =>
     simp at hm
     subst hm
     exact hn u ((vaV hq ht u).2 ⟨b, x, y, hl⟩)
   ·exact e ((vfK rfl hs) q (vab hm))
 obtain ⟨w1, w2⟩ := vod hq (v := v) (b1 := b1) (b2 := b2) hs hk
 have hr := vjV (v := v) (b1 := b1) (b2 := b2) hs hnone
 obtain ⟨p1, p2⟩ := vdi hq (s := hangT q v b1 b2 (t.look q)) ht (fun r hm => by rcases (hr r).1 hm with e | e; exact .inl (by rw [e]); exact .inr e) (fun r hm _ => (hr r).2 (.inr hm))
 refine ⟨(vhl hq w1 ht w2).1, fun r => ?_⟩
 by_cases e : r.1 = q
 ·obtain ⟨r1, r2⟩ := r
  simp only at e
  subst e
  unfold insT
  rw [p2 r2, hr]
  constructor
  ·rintro (h | h)
   ·exact .inl h
   ·exact absurd h (hnone r2)
  ·rintro (h | h)
   ·exact .inl h
   ·exact absurd h (hn r2)
 ·unfold insT
  rw [p1 r e]
  constructor
  ·exact .inr
  ·rintro (h | h)
   ·exact absurd (by rw [h]) e
   ·exact h
def setT (q : Pn) (v : Int) (h : Bool) (t : Tr) : Tr := match t.look q with
 | .node b p _ _ x y => Tr.put q (.node b p v h x y) t
 | .nil => t
theorem vjW {q : Pn} (hq : q.ok) {v u : Int} {h : Bool} {t : Tr} (ht : t.Wf) (hm : (q, u) ∈ t.rows) :
  (setT q v h t).Wf ∧ ∀ r : Pn × Int, r ∈ (setT q v h t).rows ↔ (h = true ∧ r = (q, v)) ∨ (r.1 ≠ q ∧ r ∈ t.rows) := by
 obtain ⟨b, x, y, hl⟩ := (vaV hq ht u).1 hm
 have hs := vdL (q := q) ht
 rw [hl] at hs
 have e : setT q v h t = Tr.put q (.node b q v h x y) t := by simp [setT, hl]
 have hx : ∀ w, (q, w) ∉ x.rows := fun w hm => absurd (vad (by omega) hs.1 (hs.2.1 _ (vab hm)) hq.2.1).2.1 (Nat.lt_irrefl _)
 have hy : ∀ w, (q, w) ∉ y.rows := fun w hm => absurd (vad (by omega) hs.1 (hs.2.2.1 _ (vab hm)) hq.2.1).2.1 (Nat.lt_irrefl _)
 have hw : (Tr.node b q v h x y).Wf := hs
 obtain ⟨p1, p2⟩ := vdi hq (s := .node b q v h x y) ht (fun r hr => by
   simp only [Tr.rows, List.mem_append] at hr
   rcases hr with (hr | hr) | hr
   ·split at hr
    ·simp at hr; left; rw [hr]
    ·cases hr
   ·right; rw [hl]; simp [Tr.rows, hr]
   ·right; rw [hl]; simp [Tr.rows, hr]) (fun r hr hne => by
   rw [hl] at hr
   simp only [Tr.rows, List.mem_append] at hr ⊢
   rcases hr with (hr | hr) | hr
   ·simp at hr; exact absurd (by rw [hr]) hne
   ·exact .inl (.inr hr)
   ·exact .inr hr)
 rw [e]
 refine ⟨(vhl hq hw ht (fun c _ hc hall r hr => by rw [hl] at hall; exact hall r hr)).1, fun r => ?_⟩
 by_cases e1 : r.1 = q
 ·obtain ⟨r1, r2⟩ := r
  simp only at e1
  subst e1
  rw [p2 r2]
  simp only [Tr.rows, List.mem_append, hx, hy, or_false]
  cases h <;> simp
 ·rw [p1 r e1]
  constructor
  ·exact fun h => .inr ⟨e1, h⟩
  ·rintro (⟨_, h⟩ | ⟨_, h⟩)
   ·exact absurd (by rw [h]) e1
   ·exact h
def keptT : Tr → Tr
 | .node b p v true x y => .node b p v true x y
 | .node _ _ _ false .nil y => y
 | .node _ _ _ false x .nil => x
 | t => t
theorem vjX (t : Tr) : (keptT t).rows = t.rows := by
 cases t with
 | nil => rfl
 | node b p v h x y =>
  cases h
  ·cases x <;> cases y <;> simp [keptT, Tr.rows]
  ·rfl
theorem vdM {t : Tr} (h : t.Wf) : (keptT t).Wf ∧ ∀ r ∈ (keptT t).pfx, r ∈ t.pfx := by
 cases t with
 | nil => exact ⟨trivial, fun _ h => h⟩
 | node b p v hh x y =>
  cases hh
  ·cases x with
   | nil => exact ⟨h.2.2.2.2, fun r hr => by simp only [keptT] at hr; simp [Tr.pfx, hr]⟩
   | node b1 p1 v1 h1 x1 y1 =>
    cases y with
    | nil => exact ⟨h.2.2.2.1, fun r hr => by simp only [keptT] at hr; simp only [Tr.pfx, List.append_nil, List.mem_cons]; exact .inr (by simpa [Tr.pfx] using hr)⟩
    | node b2 p2 v2 h2 x2 y2 => exact ⟨h, fun _ h => h⟩
  ·exact ⟨h, fun _ h => h⟩
def tidyT (q : Pn) : Tr → Tr
 | .nil => .nil
 | .node b p v h x y => if p.holds q then keptT (if p.l = q.l then .node b p v h x y else if bitN q.a p.l = 0 then .node b p v h (tidyT q x) y else .node b p v h x (tidyT q y)) else .node b p v h x y
theorem vdN (q : Pn) : ∀ t : Tr, (tidyT q t).rows = t.rows
 | .nil => rfl
 | .node b p v h x y => by
  unfold tidyT
  split
  ·rw [vjX]
   split
   ·rfl
   ·split
    ·simp only [Tr.rows, vdN q x]
    ·simp only [Tr.rows, vdN q y]
  ·rfl
theorem vgv (q : Pn) : ∀ {t : Tr}, t.Wf → (tidyT q t).Wf ∧ ∀ r ∈ (tidyT q t).pfx, r ∈ t.pfx
 | .nil, h => ⟨h, fun _ h => h⟩
 | .node b p v h x y, hw => by
  obtain ⟨hp, h0, h1, hx, hy⟩ := hw
  obtain ⟨x1, x2⟩ := vgv q hx
  obtain ⟨y1, y2⟩ := vgv q hy
  have wx : (Tr.node b p v h (tidyT q x) y).Wf := ⟨hp, fun r hr => h0 r (x2 r hr), h1, x1, hy⟩
  have wy : (Tr.node b p v h x (tidyT q y)).Wf := ⟨hp, h0, fun r hr => h1 r (y2 r hr), hx, y1⟩
  have mx : ∀ r ∈ (Tr.node b p v h (tidyT q x) y).pfx, r ∈ (Tr.node b p v h x y).pfx := fun r hr => by
   simp only [Tr.pfx, List.cons_append, List.mem_cons, List.mem_append] at hr ⊢
   rcases hr with hr | hr | hr
   ·exact .inl hr
   ·exact .inr (.inl (x2 r hr))
   ·exact .inr (.inr hr)
  have my : ∀ r ∈ (Tr.node b p v h x (tidyT q y)).pfx, r ∈ (Tr.node b p v h x y).pfx := fun r hr => by
   simp only [Tr.pfx, List.cons_append, List.mem_cons, List.mem_append] at hr ⊢
   rcases hr with hr | hr | hr
   ·exact .inl hr
   ·exact .inr (.inl hr)
   ·exact .inr (.inr (y2 r hr))
  unfold tidyT
  split
  ·split
   ·exact vdM ⟨hp, h0, h1, hx, hy⟩
   ·split
    ·exact ⟨(vdM wx).1, fun r hr => mx r ((vdM wx).2 r hr)⟩
    ·exact ⟨(vdM wy).1, fun r hr => my r ((vdM wy).2 r hr)⟩
  ·exact ⟨⟨hp, h0, h1, hx, hy⟩, fun _ h => h⟩
def aboveT (q : Pn) : Tr → List (Pn × Int)
 | .nil => []
 | .node _ p v h x y => if p.holds q then (if h then [(p, v)] else []) ++ (if p.l = q.l then [] else if bitN q.a p.l = 0 then aboveT q x else aboveT q y) else []
theorem vdO {q : Pn} (hq : q.ok) : ∀ {t : Tr}, t.Wf → aboveT q t = t.rows.filter (fun r => decide (r.1.holds q))
 | .nil, _ => rfl
 | .node b p v h x y, ⟨hp, h0, h1, hx, hy⟩ => by
  have none : ∀ {t : Tr}, (∀ r ∈ t.rows, ¬ r.1.holds q) → t.rows.filter (fun r => decide (r.1.holds q)) = [] := fun {t} h => by
   rw [List.filter_eq_nil_iff]; intro r hr; simpa using h r hr
  have self : (if h then [(p, v)] else []).filter (fun r : Pn × Int => decide (r.1.holds q)) = if p.holds q then (if h then [(p, v)] else []) else [] := by
   cases h <;> simp [List.filter_cons]
  simp only [aboveT, Tr.rows, List.filter_append, self]
  by_cases hh : p.holds q
  ·by_cases hl : p.l = q.l
   ·have nx : ∀ r ∈ x.rows, ¬ r.1.holds q := fun r hr hc => by
     have := (vad (by omega) hp (h0 _ (vab hr)) (vbb hx _ (vab hr)).2.1).2.1
     have := hc.1; omega
    have ny : ∀ r ∈ y.rows, ¬ r.1.holds q := fun r hr hc => by
     have := (vad (by omega) hp (h1 _ (vab hr)) (vbb hy _ (vab hr)).2.1).2.1
     have := hc.1; omega
    rw [none nx, none ny]
    simp [hh, hl]
   ·have hlt : p.l < q.l := Nat.lt_of_le_of_ne hh.1 hl
    have bitof : ∀ {r : Pn} {i : Nat}, i < 2 → (p.child i).holds r → r.ok → r.holds q → bitN q.a p.l = i := fun {r i} hi hc hr hrq => by
     exact (vad hi hp (vaJ hc hrq hr.2.1) hq.2.1).2.2
    rcases vaI q.a p.l with hb | hb
    ·have ny : ∀ r ∈ y.rows, ¬ r.1.holds q := fun r hr hc => by
      have := bitof (by omega) (h1 _ (vab hr)) (vbb hy _ (vab hr)) hc; omega
     rw [none ny, ← vdO hq hx]
     simp [hh, hl, hb]
    ·have hb0 : ¬ bitN q.a p.l = 0 := by omega
     have nx : ∀ r ∈ x.rows, ¬ r.1.holds q := fun r hr hc => by
      have := bitof (by omega) (h0 _ (vab hr)) (vbb hx _ (vab hr)) hc; omega
     rw [none nx, ← vdO hq hy]
     simp [hh, hl, hb0]
  ·have nx : ∀ r ∈ x.rows, ¬ r.1.holds q := fun r hr hc => hh (vaJ (vad (by omega) hp (h0 _ (vab hr)) (vbb hx _ (vab hr)).2.1).1 hc (vbb hx _ (vab hr)).2.1)
   have ny : ∀ r ∈ y.rows, ¬ r.1.holds q := fun r hr hc => hh (vaJ (vad (by omega) hp (h1 _ (vab hr)) (vbb hy _ (vab hr)).2.1).1 hc (vbb hy _ (vab hr)).2.1)
   rw [none nx, none ny]
   simp [hh]
end

end Go.Proofs.YtgopnfacklmkaaaGreatDoor
