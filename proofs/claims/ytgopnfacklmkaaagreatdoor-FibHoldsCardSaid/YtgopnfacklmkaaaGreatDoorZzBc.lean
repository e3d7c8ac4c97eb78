/- Lemmas and contracts for the theorem of this claim: FbE, FbF, FbG. -/
import Derived.Test.YtgopnfacklmkaaaGreatDoorZzBb
set_option linter.all false
set_option maxHeartbeats 16000000
namespace Go.Proofs.YtgopnfacklmkaaaGreatDoor
section
open Go.RowKit
attribute [local go_sem] Oper.semAt_some
def TakeEnd (w : World) (f tr : Nat) (t : Tr) (A : Option Addr) (c : Nat) (H : List Hp) (q : Pn) (e : Ending) (w' : World) : Prop :=
 e = .returned (.int .i64 0) ∧ ∃ t2 H', FibM w' f tr t2 A c H' ∧ (∀ x, x ∈ H' ↔ x.p ≠ q ∧ x ∈ H) ∧ Only (Fp f tr t A) w w' ∧ ∀ b ∈ Fp f tr t2 A, b ∈ Fp f tr t A ∨ w.heap.size ≤ b
theorem vhr {w w5 : World} {f tr n k c : Nat} {t t1 t2 : Tr} {A : Option Addr} {H : List Hp} {q : Pn} {y : Hp} (HM : FibM w f tr t A c H) (hn : H.length = n + 1) (hk : k < H.length) (hp : H[k].p = q) (hy : H[n]'(by omega) = y)
  (O : Only (Fp f tr t A) w w5) (BF : Blk w5 f 166 #[.pointer (some ⟨tr, 0, none⟩), .slice A (n + 1) c]) (T5 : TrieM w5 tr t2 (n : Int)) (own5 : Own w5 0 89 6 Hp.enc (.slice A (n + 1) c) (H.set k y))
  (hw1 : t1.Wf) (hr1 : ∀ r : Pn × Int, r ∈ t1.rows ↔ r.1 ≠ q ∧ r ∈ t.rows) (hr2 : ∀ r : Pn × Int, r ∈ t2.rows ↔ if k = n then r ∈ t1.rows else (r = (y.p, (k : Int)) ∨ (r.1 ≠ y.p ∧ r ∈ t1.rows)))
  (sub2 : ∀ b ∈ t2.bs, b ∈ t.bs ∨ w.heap.size ≤ b) : TakeEnd w f tr t A c H q (.returned (.int .i64 0)) (w5.setCell ⟨f, 1, none⟩ (.slice A n c)) := by
 have e1 : H.length - 1 = n := by omega
 have d := FI.del HM.fi hk hp hw1 hr1 T5.wf (by simp only [e1, hy]; exact hr2)
 simp only [e1, hy] at d
 obtain ⟨d1, d2⟩ := d
 have hf : f < w.heap.size := HM.blk.lt
 have hfb : f ∉ t2.bs := fun hc => by
  rcases sub2 f hc with e | e
  ·exact HM.fbs e
  ·omega
 have hlen : ((H.set k y).take n).length = n := by simp; omega
 have OF := (Only.refl [f] w5).setCell (p := ⟨f, 1, none⟩) (.inl (by simp)) (.slice A n c)
 have hfA : ∀ a, A = some a → a.block ∉ [f] := fun a ha => by have := (HM.row a ha).1; simpa using this
 refine ⟨rfl, t2, (H.set k y).take n, ⟨?_, ?_, ?_, d1, HM.ftr, hfb, ?_, by have := HM.room; omega, ?_⟩, d2, O.setCell (.inl (by simp [Fp])) _, ?_⟩
 ·have := BF.set_ 1 (.slice A n c)
  rw [hlen]; simpa using this
 ·rw [hlen]
  exact T5.only OF (by simp; exact fun e => HM.ftr e.symm) (fun b hb => by simp; intro e; subst e; exact hfb hb)
 ·rw [hlen]
  exact (own5.cut (by simp; omega)).only_ OF hfA
 ·intro a ha
  obtain ⟨r1, r2, r3⟩ := HM.row a ha
  refine ⟨r1, r2, fun hc => ?_⟩
  have := HM.own.lt_ a ha
  rcases sub2 _ hc with e | e
  ·exact r3 e
  ·omega
 ·intro x hx
  exact HM.oks x ((d2 x).1 hx).2
 ·intro b hb
  simp only [Fp, List.mem_cons, List.mem_append] at hb ⊢
  rcases hb with e | e | e | e
  ·exact .inl (.inl e)
  ·exact .inl (.inr (.inl e))
  ·rcases sub2 b e with e | e
   ·exact .inl (.inr (.inr (.inl e)))
   ·exact .inr e
  ·exact .inl (.inr (.inr (.inr e)))
set_option maxRecDepth 100000 in
theorem vkm (f tr : Nat) (t : Tr) (A : Option Addr) (c : Nat) (H : List Hp) (q : Pn) (w : World) (hG : RelsAt w) (m : FibM w f tr t A c H) (hno : ∀ u, (q, u) ∉ t.rows) (hq : q.ok) :
  Calls Tryz.prog 142 #[.pointer (some ⟨f, 0, none⟩), .agg #[.int .u32 q.a, .int .i64 q.l]] w fun e w' => e = .returned (.int .i64 0) ∧ Kp w w' := by
 have HM := Lib.hid m
 have HG := Lib.hid hG
 have Hq := Lib.hid hq
 have Hno := Lib.hid hno
 obtain ⟨W, hW, kW, B0⟩ : ∃ W, w.alloc (.cells #[.int .u32 q.a, .int .i64 q.l] 39) = W ∧ Kp w W ∧ Blk W w.heap.size 39 #[.int .u32 q.a, .int .i64 q.l] := ⟨_, rfl, (Kp.refl _).alloc _, Blk.new w _ _⟩
 clear m hG hq hno
 go_enter Tryz.func142, Tryz.ntmps142
 go_wp2_with fail
 have HM1 := Lib.hid (HM.out.keep kW)
 have f0 : W.cell? ⟨f, 0, none⟩ = some (.pointer (some ⟨tr, 0, none⟩)) := HM1.out.blk.cell 0
 have b0 : W.cell? ⟨w.heap.size, 0, none⟩ = some (.int .u32 q.a) := B0.cell 0
 have b1 : W.cell? ⟨w.heap.size, 1, none⟩ = some (.int .i64 q.l) := B0.cell 1
 go_region_held3 (fun w' => w'.cell? ⟨f, 0, none⟩ = some (.pointer (some ⟨tr, 0, none⟩)) ∧ w'.cell? ⟨w.heap.size, 0, none⟩ = some (.int .u32 q.a) ∧ w'.cell? ⟨w.heap.size, 1, none⟩ = some (.int .i64 q.l))
  (first | exact ⟨Ka.cell f0, Ka.cell b0, Ka.cell b1⟩ | go_keep)
  (first | (go_at_call 201; refine (vmm tr q _ t _ (HG.out.keep kW.drew) (HM1.out.trie.keep (Kp.refl W).drew) Hq.out Hno.out).mono ?_; rintro e wa ⟨rfl, hKa⟩; have Ka : Kp W wa := (Kp.refl W).drew.trans hKa))
 go_wp2_with fail
 go_ret
 exact ⟨rfl, kW.trans Ka⟩
set_option maxRecDepth 100000 in
theorem vkn (f tr : Nat) (t : Tr) (A : Option Addr) (c : Nat) (H : List Hp) (q : Pn) (k n b : Nat) (x z : Tr) (w : World) (hG : RelsAt w) (hGn : 3 ∉ Fp f tr t A) (m : FibM w f tr t A c H) (hn : H.length = n + 1) (hk : k < H.length) (hp : H[k].p = q) (hl : t.look q = .node b q (k : Int) true x z) (hq : q.ok) :
  Calls Tryz.prog 142 #[.pointer (some ⟨f, 0, none⟩), .agg #[.int .u32 q.a, .int .i64 q.l]] w (TakeEnd w f tr t A c H q) := by
 have hlen := m.room
 obtain ⟨g, cur, hA, hB, hc, _⟩ := m.own.some_ (by omega)
 subst hA
 obtain ⟨rg1, rg2, rg3⟩ := m.row _ rfl
 have hgf : ¬ f = g := fun e => rg1 e.symm
 have hnc : n + 1 ≤ c := by omega
 clear hB hc
 have HM := Lib.hid m
 have HG := Lib.hid hG
 have HGn := Lib.hid hGn
 have Hq := Lib.hid hq
 have Hl := Lib.hid hl
 have Hn := Lib.hid hn
 have Hpk := Lib.hid hp
 have Hrg := Lib.hid (show g ∉ tr :: t.bs by simp; exact ⟨rg2, rg3⟩)
 obtain ⟨W, hW, kW, B0⟩ : ∃ W, w.alloc (.cells #[.int .u32 q.a, .int .i64 q.l] 39) = W ∧ Kp w W ∧ Blk W w.heap.size 39 #[.int .u32 q.a, .int .i64 q.l] := ⟨_, rfl, (Kp.refl _).alloc _, Blk.new w _ _⟩
 have hkn : k < n + 1 := by omega
 have hn5 : n < 512 := by omega
 clear m hG hGn hq hl hn hp rg1 rg2 rg3
 go_enter Tryz.func142, Tryz.ntmps142
 go_wp2_with fail
 have HM1 := Lib.hid (HM.out.keep kW)
 have f0 : W.cell? ⟨f, 0, none⟩ = some (.pointer (some ⟨tr, 0, none⟩)) := HM1.out.blk.cell 0
 have b0 : W.cell? ⟨w.heap.size, 0, none⟩ = some (.int .u32 q.a) := B0.cell 0
 have b1 : W.cell? ⟨w.heap.size, 1, none⟩ = some (.int .i64 q.l) := B0.cell 1
 have hftr : f ∉ tr :: t.bs := by simp; exact ⟨HM.out.ftr, HM.out.fbs⟩
 have hwtr : w.heap.size ∉ tr :: t.bs := fun hc => by
  rcases List.mem_cons.1 hc with e | e
  ·have := HM.out.trie.blk.lt; omega
  ·have := HM.out.trie.tm.lt _ e; omega
 have hGt : 3 ∉ tr :: t.bs := fun hc => HGn.out (by
  rcases List.mem_cons.1 hc with e | e
  ·simp [Fp, e]
  ·simp [Fp, e])
 have Hftr := Lib.hid hftr
 have Hwtr := Lib.hid hwtr
 have HGt := Lib.hid hGt
 clear hftr hwtr hGt
 go_region_held3 (fun w' => w'.cell? ⟨f, 0, none⟩ = some (.pointer (some ⟨tr, 0, none⟩)) ∧ w'.cell? ⟨w.heap.size, 0, none⟩ = some (.int .u32 q.a) ∧ w'.cell? ⟨w.heap.size, 1, none⟩ = some (.int .i64 q.l))
  (first | exact ⟨Ob.cell f0 Hftr.out, Ob.cell b0 Hwtr.out, Ob.cell b1 Hwtr.out⟩ | go_keep)
  (first | (go_at_call 201; refine (vml tr q (k : Int) (H.length : Int) t b x z _ (HG.out.keep kW.drew) (HM1.out.trie.keep (Kp.refl W).drew) Hq.out Hl.out (by omega) (by omega) HGt.out).mono ?_; rintro e wb ⟨rfl, t1, hTu, hrows⟩; have Ob : Only (tr :: t.bs) W wb := (Only.of_kp (Kp.refl W).drew).trans hTu.only))
 have Hrows := Lib.hid hrows
 have HTu := Lib.hid hTu
 have BF : Blk wb f 166 #[.pointer (some ⟨tr, 0, none⟩), .slice (some ⟨g, 0, none⟩) H.length c] := HM1.out.blk.only Ob Hftr.out
 have hown := HM1.out.own.only_ Ob (fun a ha => by injection ha with ha; subst ha; exact Hrg.out)
 rw [Hn.out] at BF
 have Hown := Lib.hid hown
 clear hrows hTu f0 b0 b1 hown HM1
 have f0 : wb.cell? ⟨f, 0, none⟩ = some (.pointer (some ⟨tr, 0, none⟩)) := BF.cell 0
 have f1 : wb.cell? ⟨f, 1, none⟩ = some (.slice (some ⟨g, 0, none⟩) (n + 1) c) := BF.cell 1
 have z1 := BF.frozen 1
 have Ow : Only (tr :: t.bs) w wb := (Only.of_kp kW).trans Ob
 have hsub : ∀ b ∈ t1.bs, b ∈ t.bs ∨ w.heap.size ≤ b := fun b hb => (HTu.out.sub b hb).imp id (fun e => Nat.le_trans kW.size e)
 have Hsub := Lib.hid hsub; clear hsub
 have OFp : Only (Fp f tr t (some ⟨g, 0, none⟩)) w wb := Ow.wideF (fun b hb => by
  rcases List.mem_cons.1 hb with e | e
  ·simp [Fp, e]
  ·simp [Fp, e])
 have HT1 := Lib.hid HTu.out.trie
 have htw : t1.Wf := HT1.out.wf
 have Htw := Lib.hid htw; clear htw
 by_cases hkl : k = n
 ·subst hkl
  go_wp2_with fail
  go_ret
  have hT := HT1.out
  rw [Hn.out] at hT
  have hO := Hown.out
  rw [Hn.out] at hO
  exact vhr (t1 := t1) (t2 := t1) (y := H[k]) HM.out Hn.out hk Hpk.out rfl OFp BF (by simpa using hT) (by rw [List.set_getElem_self]; exact hO) Htw.out Hrows.out (fun r => by rw [if_pos rfl]) Hsub.out
 ·have hb1 : ((k : Int) == (n : Int)) = false := by simpa using (fun e : (k : Int) = n => hkl (by omega))
  have hb2 : ((k : Int) != (n : Int)) = true := by simp [bne, hb1]
  have Hkl := Lib.hid hkl; clear hkl
  obtain ⟨y, hy⟩ : ∃ y, H[n]'(by have := Hn.out; omega) = y := ⟨_, rfl⟩
  have Hy := Lib.hid hy; clear hy
  go_wp2_with fail
  refine vau 13 (by kernel_rfl) (by kernel_rfl) (fun V2 hV2 => ?_)
  have k2 : Kp wb V2 := by rw [hV2]; exact (Kp.refl _).drew
  have BF2 := BF.keep k2
  have hown2 := Hown.out.keep k2
  have HT2 := Lib.hid (HT1.out.keep k2)
  clear hV2 f0 f1 z1
  have f1 : V2.cell? ⟨f, 1, none⟩ = some (.slice (some ⟨g, 0, none⟩) (n + 1) c) := BF2.cell 1
  obtain ⟨_, cur2, he, hB2, _, _⟩ := hown2.some_ (by omega)
  injection he with he; injection he with he1
  subst he1
  have rd2 := hown2.rdAt (by decide) Hp.len
  obtain ⟨_, _, he, g0, g1, g2, g3, g4, g5⟩ := vda rd2 hk
  injection he with he; injection he with he1 he2
  subst he1 he2
  obtain ⟨_, _, he, s0, s1, s2, s3, s4, s5⟩ := vda rd2 (k := n) (by have := Hn.out; omega)
  injection he with he; injection he with he1 he2
  subst he1 he2
  rw [Hy.out] at s0 s1 s2 s3 s4 s5
  simp only [Nat.zero_add] at g0 g1 g2 g3 g4 g5 s0 s1 s2 s3 s4 s5
  have z0 := hB2.frozen (k * 6)
  have z1 := hB2.frozen (k * 6 + 1)
  have z2 := hB2.frozen (k * 6 + 2)
  have z3 := hB2.frozen (k * 6 + 3)
  have z4 := hB2.frozen (k * 6 + 4)
  have z5 := hB2.frozen (k * 6 + 5)
  have Hown2 := Lib.hid hown2
  clear hB2 hown2 rd2
  have hnn : n < n + 1 := Nat.lt_succ_self n
  have hnn2 : (n : Int) < (n : Int) + 1 := by omega
  have hkn2 : (k : Int) < (n : Int) + 1 := by omega
  simp only [List.take_succ_cons, List.take_zero, List.drop_succ_cons, List.drop_zero]
  repeat still_step
  refine wpStill_nil ?_
  go_wp2_with fail
  refine vau 14 (by kernel_rfl) (by kernel_rfl) (fun V3 hV3 => ?_)
  have e3 : V3 = (set6 V2 g (k * 6) y).drew := by rw [hV3]; simp [set6]
  clear hV3 g0 g1 g2 g3 g4 g5 s0 s1 s2 s3 s4 s5 z0 z1 z2 z3 z4 z5 f1
  have O3 : Only [g] V2 V3 := by rw [e3]; exact ((Only.refl [g] V2).set6 (by simp) _ _).drew
  have own3 : Own V3 0 89 6 Hp.enc (.slice (some ⟨g, 0, none⟩) H.length c) (H.set k y) := by rw [e3]; exact (Hown2.out.set6 hk y).drew
  clear e3
  have BF3 := BF2.only O3 (by simpa using hgf)
  have T3 := HT2.out.only O3 (by simp; exact fun e => Hrg.out (by simp [e])) (fun b hb => by
   simp; intro e; subst e
   rcases Hsub.out b hb with e | e
   ·exact Hrg.out (by simp [e])
   ·have := HM.out.own.lt_ _ rfl; simp at this; omega)
  have f0 : V3.cell? ⟨f, 0, none⟩ = some (.pointer (some ⟨tr, 0, none⟩)) := BF3.cell 0
  have f1 : V3.cell? ⟨f, 1, none⟩ = some (.slice (some ⟨g, 0, none⟩) (n + 1) c) := BF3.cell 1
  obtain ⟨_, _, he, g0, g1, _⟩ := vda (own3.rdAt (by decide) Hp.len) (k := k) (by simpa using hk)
  injection he with he; injection he with he1 he2
  subst he1 he2
  simp only [Nat.zero_add, List.getElem_set_self] at g0 g1
  have Hown3 := Lib.hid own3
  have HT3 := Lib.hid T3
  clear own3 T3
  simp only [List.take_succ_cons, List.take_zero, List.drop_succ_cons, List.drop_zero]
  repeat still_step
  refine wpStill_nil ?_
  go_wp2_with fail
  have hn' := Hn.out
  have hyq : y.p.ok := HM.out.oks y (by rw [← Hy.out]; exact List.getElem_mem _)
  have hyt : (y.p, (n : Int)) ∈ t1.rows := (Hrows.out _).2 ⟨fun e => Hkl.out (HM.out.fi.inj (i := k) (j := n) hk (by omega) (by rw [Hpk.out, Hy.out]; exact e.symm)), (HM.out.fi.rows y.p n).2 ⟨n, by omega, rfl, by rw [Hy.out]⟩⟩
  obtain ⟨b2, x2, z2, hl2⟩ := (vaV hyq Htw.out n).1 hyt
  have Ov : Only (Fp f tr t (some ⟨g, 0, none⟩)) w V3 := (OFp.trans (Only.of_kp k2)).trans (O3.wideF (fun b hb => by simp at hb; simp [Fp, rowB, hb]))
  have hsz : w.heap.size ≤ V3.heap.size := Ov.size
  have hlg := HM.out.own.lt_ _ rfl
  simp only at hlg
  have hf5 : f ∉ tr :: t1.bs := fun hc => by
   rcases List.mem_cons.1 hc with e | e
   ·exact HM.out.ftr e
   ·rcases Hsub.out _ e with e | e
    ·exact HM.out.fbs e
    ·have := HM.out.blk.lt; omega
  have hg5 : g ∉ tr :: t1.bs := fun hc => by
   rcases List.mem_cons.1 hc with e | e
   ·exact Hrg.out (by simp [e])
   ·rcases Hsub.out _ e with e | e
    ·exact Hrg.out (by simp [e])
    ·omega
  have Hf5 := Lib.hid hf5
  have Hg5 := Lib.hid hg5
  have Hyt := Lib.hid hyt
  have Hyq := Lib.hid hyq
  have Hlg := Lib.hid hlg
  refine (vmi tr y.p (k : Int) (n : Int) _ t1 b2 x2 z2 _ (HG.out.only Ov HGn.out) HT3.out hyq hl2).mono ?_
  rintro e w5 ⟨rfl, hTu2⟩
  have BF5 := BF3.only hTu2.only Hf5.out
  have HT5 := Lib.hid hTu2
  have Hown5 := Lib.hid (Hown3.out.only_ hTu2.only (fun a ha => by injection ha with ha; subst ha; exact Hg5.out))
  clear hf5 hg5 hyt hyq hlg hl2 hTu2 f0 f1 g0 g1 hn'
  have f1 : w5.cell? ⟨f, 1, none⟩ = some (.slice (some ⟨g, 0, none⟩) (n + 1) c) := BF5.cell 1
  have z1 := BF5.frozen 1
  go_wp2_with fail
  go_ret
  have hT := HT5.out.trie
  rw [Hn.out] at hT
  have hO := Hown5.out
  rw [Hn.out] at hO
  refine vhr (t1 := t1) (t2 := setT y.p k true t1) (y := y) HM.out Hn.out hk Hpk.out Hy.out ?_ BF5 (by simpa using hT) hO Htw.out Hrows.out (fun r => ?_) (fun b hb => ?_)
  ·refine Ov.join HT5.out.only (fun _ h => h) (fun b hb => ?_)
   rcases List.mem_cons.1 hb with e | e
   ·left; simp [Fp, e]
   ·rcases Hsub.out b e with e | e
    ·left; simp [Fp, e]
    ·exact .inr e
  ·rw [if_neg Hkl.out, (vjW Hyq.out Htw.out Hyt.out).2 r]
   simp
  ·rcases HT5.out.sub b hb with e | e
   ·exact Hsub.out b e
   ·exact .inr (Nat.le_trans hsz e)
attribute [local go_sem] Oper.semAt_some
def hasP (q : Pn) (L : List Hp) : Bool := L.any (fun e => decide (e.p = q))
def fputE (h : Hp) (L : List Hp) : Int := if hasP h.p L || decide (L.length < 512) then 0 else 3
def putL (h : Hp) (L : List Hp) : List Hp := if hasP h.p L || decide (L.length < 512) then insH h L else L
theorem vhs {q : Pn} {L : List Hp} : hasP q L = true ↔ ∃ e ∈ L, e.p = q := by simp [hasP]
theorem FI.nodup {t : Tr} {H : List Hp} (h : FI t H) : H.Nodup := by
 rw [List.nodup_iff_pairwise_ne, List.pairwise_iff_getElem]
 intro i j hi hj hij e
 have := h.inj hi hj (by rw [e])
 omega
theorem Up.nodup {l : List Hp} (h : Up l) : l.Nodup := List.Pairwise.imp (fun {a b} hab e => by rw [e] at hab; exact lt_irrefl _ hab) h
theorem vgA {t : Tr} {H L : List Hp} (h : FI t H) (u : Up L) (e : ∀ x, x ∈ H ↔ x ∈ L) : H.Perm L := (List.perm_ext_iff_of_nodup h.nodup u.nodup).2 e
theorem FT.of_kp {w w' : World} {f : Nat} {F : List Nat} {L : List Hp} (h : FM w f F L) (k : Kp w w') : FT w w' f F L := ⟨F, h.keep k, Only.of_kp k, fun _ hb => .inl hb⟩
theorem FT.keep {w w1 w2 : World} {f : Nat} {F : List Nat} {L : List Hp} (k : Kp w w1) (h : FT w1 w2 f F L) : FT w w2 f F L := by
 obtain ⟨F', h1, h2, h3⟩ := h
 exact ⟨F', h1, (Only.of_kp k).trans h2, fun b hb => (h3 b hb).imp id (fun e => Nat.le_trans k.size e)⟩
theorem FT.after {w w1 w2 : World} {f : Nat} {F : List Nat} {L : List Hp} (h : FT w w1 f F L) (k : Kp w1 w2) : FT w w2 f F L := by
 obtain ⟨F', h1, h2, h3⟩ := h
 exact ⟨F', h1.keep k, h2.trans (Only.of_kp k), h3⟩
theorem FT.trans {w w1 w2 : World} {f : Nat} {F F1 : List Nat} {L : List Hp} (ho : Only F w w1) (hs : ∀ b ∈ F1, b ∈ F ∨ w.heap.size ≤ b) (k : FT w1 w2 f F1 L) : FT w w2 f F L := by
 obtain ⟨F', h1, h2, h3⟩ := k
 refine ⟨F', h1, ho.join h2 (fun _ h => h) hs, fun b hb => ?_⟩
 rcases h3 b hb with e | e
 ·exact hs b e
 ·exact .inr (Nat.le_trans ho.size e)
def PutAny (w : World) (f : Nat) (F : List Nat) (L : List Hp) (h : Hp) (e : Ending) (w' : World) : Prop := e = .returned (.int .i64 (fputE h L)) ∧ FT w w' f F (putL h L)
theorem vmt (f : Nat) (F : List Nat) (L : List Hp) (h : Hp) (w : World) (hG : RelsAt w) (hM : FM w f F L) (hq : h.p.ok) :
  Calls Tryz.prog 140 #[.pointer (some ⟨f, 0, none⟩), .agg #[.int .u32 h.p.a, .int .i64 h.p.l, .bool h.d, .int .i64 h.f, .int .u32 h.x, .int .i64 h.m]] w (PutAny w f F L h) := by
 obtain ⟨tr, t, A, c, H, rfl, m, u, pm⟩ := hM
 rcases vng m.fi hq with ⟨k, hk, hp, hgot, _⟩ | ⟨hno, hgot, hrows⟩
 ·refine (vmq f tr t A c H h k w hG m hk hgot hq).mono ?_
  rintro e w' ⟨rfl, g, rfl, W, kW, rfl⟩
  have hh : hasP h.p L = true := vhs.2 ⟨H[k], pm.mem_iff.1 (List.getElem_mem hk), hp⟩
  obtain ⟨d1, d2⟩ := m.fi.set hk (e := h) hp.symm
  have mW := m.keep kW
  have O6 : Only [g] W (set6 W g (k * 6) h) := (Only.refl [g] W).set6 (by simp) _ _
  obtain ⟨r1, r2, r3⟩ := m.row _ rfl
  refine ⟨by simp [fputE, hh], _, ⟨tr, t, _, c, H.set k h, rfl, ⟨?_, ?_, ?_, d1, m.ftr, m.fbs, m.row, by simpa using m.room, ?_⟩, ?_, ?_⟩, (Only.of_kp kW).join O6 (fun _ h => h) (fun b hb => by simp at hb; left; simp [Fp, rowB, hb]), fun b hb => .inl hb⟩
  ·rw [List.length_set]; exact mW.blk.only O6 (by simp; exact fun e => r1 e.symm)
  ·rw [List.length_set]; exact mW.trie.only O6 (by simp; exact fun e => r2 e.symm) (fun b hb => by simp; intro e; subst e; exact r3 hb)
  ·rw [List.length_set]; exact mW.own.set6 hk h
  ·intro e he
   rcases (d2 e).1 he with e1 | e1
   ·rw [e1]; exact hq
   ·exact m.oks e e1.2
  ·have : putL h L = insH h L := by simp [putL, hh]
   rw [this]; exact vex u
  ·have e1 : putL h L = insH h L := by simp [putL, hh]
   rw [e1]
   exact vgA d1 (vex u) (fun x => by rw [d2, vdT u, pm.mem_iff])
 ·have hh : hasP h.p L = false := by
   rw [Bool.eq_false_iff]
   intro hc
   obtain ⟨e, he, hp⟩ := vhs.1 hc
   exact hno e (pm.mem_iff.2 he) hp
  by_cases hf : H.length < 512
  ·refine (vms f tr t A c H h w hG m hf hgot hrows hq).mono ?_
   rintro e w' ⟨rfl, t', A', c', m', O, hs⟩
   have hl : L.length < 512 := by rw [← pm.length_eq]; exact hf
   have e1 : putL h L = insH h L := by simp [putL, hl]
   refine ⟨by simp [fputE, hl], _, ⟨tr, t', A', c', H ++ [h], rfl, m', ?_, ?_⟩, O, hs⟩
   ·rw [e1]; exact vex u
   ·rw [e1]
    refine vgA m'.fi (vex u) (fun x => ?_)
    rw [vdT u, List.mem_append, List.mem_singleton, pm.mem_iff]
    constructor
    ·rintro (h1 | h1)
     ·exact .inr ⟨hno x (pm.mem_iff.2 h1), h1⟩
     ·exact .inl h1
    ·rintro (h1 | h1)
     ·exact .inr h1
     ·exact .inl h1.2
  ·refine (vkl f tr t A c H h w hG m (by omega) hgot hrows hq).mono ?_
   rintro e w' ⟨rfl, kW⟩
   have hl : ¬ L.length < 512 := by rw [← pm.length_eq]; exact hf
   have e1 : putL h L = L := by simp [putL, hh, hl]
   refine ⟨by simp [fputE, hh, hl], ?_⟩
   rw [e1]
   exact FT.of_kp ⟨tr, t, A, c, H, rfl, m, u, pm⟩ kW
def TakeAny (w : World) (f : Nat) (F : List Nat) (L : List Hp) (q : Pn) (e : Ending) (w' : World) : Prop := e = .returned (.int .i64 0) ∧ FT w w' f F (delH q L)
theorem vko (f : Nat) (F : List Nat) (L : List Hp) (q : Pn) (w : World) (hG : RelsAt w) (hGn : 3 ∉ F) (hM : FM w f F L) (hq : q.ok) :
  Calls Tryz.prog 142 #[.pointer (some ⟨f, 0, none⟩), .agg #[.int .u32 q.a, .int .i64 q.l]] w (TakeAny w f F L q) := by
 obtain ⟨tr, t, A, c, H, rfl, m, u, pm⟩ := hM
 rcases vng m.fi hq with ⟨k, hk, hp, _, b, x, y, hl⟩ | ⟨hno, _, hrows⟩
 ·refine (vkn f tr t A c H q k (H.length - 1) b x y w hG hGn m (by omega) hk hp hl hq).mono ?_
  rintro e w' ⟨rfl, t2, H', m', hm, O, hs⟩
  exact ⟨rfl, _, ⟨tr, t2, A, c, H', rfl, m', vhn u, vgA m'.fi (vhn u) (fun x => by rw [hm, vfe, pm.mem_iff])⟩, O, hs⟩
 ·refine (vkm f tr t A c H q w hG m hrows hq).mono ?_
  rintro e w' ⟨rfl, kW⟩
  have e1 : delH q L = L := by
   unfold delH
   rw [List.filter_eq_self]
   intro e he
   simpa using hno e (pm.mem_iff.2 he)
  refine ⟨rfl, ?_⟩
  rw [e1]
  exact FT.of_kp ⟨tr, t, A, c, H, rfl, m, u, pm⟩ kW
def rtC (q : Pn) (s m l fc : Int) (x : Nat) (d : Int) (ch : Bool) : Array Value := #[.int .u32 q.a, .int .i64 q.l, .int .i64 s, .int .i64 m, .int .i64 l, .int .i64 fc, .int .u32 x, .int .i64 d, .bool ch]
set_option maxRecDepth 100000 in
theorem vkp (c2 c3 f : Nat) (F : List Nat) (L : List Hp) (q : Pn) (s m l fc : Int) (x : Nat) (d : Int) (ch : Bool) (w : World) (hG : RelsAt w) (hM : FM w f F L) (hq : q.ok) (B2 : Blk w c2 72 #[.pointer (some ⟨f, 0, none⟩)]) (B3 : Blk w c3 52 (rtC q s m l fc x d ch)) :
  Calls Tryz.prog 139 #[.pointer (some ⟨c2, 0, none⟩), .pointer (some ⟨c3, 0, none⟩)] w (PutAny w f F L ⟨q, s == 1, fc, x, m⟩) := by
 have HG := Lib.hid hG
 have HM := Lib.hid hM
 have Hq := Lib.hid hq
 have a0 : w.cell? ⟨c2, 0, none⟩ = some (.pointer (some ⟨f, 0, none⟩)) := B2.cell 0
 have r0 : w.cell? ⟨c3, 0, none⟩ = some (.int .u32 q.a) := B3.cell 0
 have r1 : w.cell? ⟨c3, 1, none⟩ = some (.int .i64 q.l) := B3.cell 1
 have r2 : w.cell? ⟨c3, 2, none⟩ = some (.int .i64 s) := B3.cell 2
 have r3 : w.cell? ⟨c3, 3, none⟩ = some (.int .i64 m) := B3.cell 3
 have r5 : w.cell? ⟨c3, 5, none⟩ = some (.int .i64 fc) := B3.cell 5
 have r6 : w.cell? ⟨c3, 6, none⟩ = some (.int .u32 x) := B3.cell 6
 clear hG hM hq B2 B3
 go_enter Tryz.func139, Tryz.ntmps139
 go_wp2_with fail
 refine (vmt f F L ⟨q, s == 1, fc, x, m⟩ _ HG.out HM.out Hq.out).mono ?_
 rintro e w' ⟨rfl, hT⟩
 have HT := Lib.hid hT; clear hT
 go_wp2_with fail
 go_ret
 exact ⟨rfl, HT.out⟩
set_option maxRecDepth 100000 in
theorem vkq (c2 c3 f : Nat) (F : List Nat) (L : List Hp) (q : Pn) (s m l fc : Int) (x : Nat) (d : Int) (ch : Bool) (w : World) (hG : RelsAt w) (hGn : 3 ∉ F) (hM : FM w f F L) (hq : q.ok) (B2 : Blk w c2 72 #[.pointer (some ⟨f, 0, none⟩)]) (B3 : Blk w c3 52 (rtC q s m l fc x d ch)) :
  Calls Tryz.prog 141 #[.pointer (some ⟨c2, 0, none⟩), .pointer (some ⟨c3, 0, none⟩)] w (TakeAny w f F L q) := by
 have HG := Lib.hid hG
 have HGn := Lib.hid hGn
 have HM := Lib.hid hM
 have Hq := Lib.hid hq
 have a0 : w.cell? ⟨c2, 0, none⟩ = some (.pointer (some ⟨f, 0, none⟩)) := B2.cell 0
 have r0 : w.cell? ⟨c3, 0, none⟩ = some (.int .u32 q.a) := B3.cell 0
 have r1 : w.cell? ⟨c3, 1, none⟩ = some (.int .i64 q.l) := B3.cell 1
 clear hG hM hq B2 B3 hGn
 go_enter Tryz.func141, Tryz.ntmps141
 go_wp2_with fail
 refine (vko f F L q _ HG.out HGn.out HM.out Hq.out).mono ?_
 rintro e w' ⟨rfl, hT⟩
 have HT := Lib.hid hT; clear hT
 go_wp2_with fail
 go_ret
 exact ⟨rfl, HT.out⟩
attribute [local go_sem] Oper.semAt_some
def Rt.hop (r : Rt) : Hp := ⟨r.p.pn, r.s == 1, r.f, r.x, r.m⟩
def comeE (r : Rt) (L : List Hp) : Int := if checkR r = 0 then (if r.s = 1 ∨ r.s = 2 then fputE r.hop L else 0) else 2
def comeL (r : Rt) (L : List Hp) : List Hp := if checkR r = 0 then (if r.s = 1 ∨ r.s = 2 then putL r.hop L else delH r.p.pn L) else L
def ComeP (w : World) (f : Nat) (F : List Nat) (L : List Hp) (r : Rt) (e : Ending) (w' : World) : Prop := e = .returned (.int .i64 (comeE r L)) ∧ FT w w' f F (comeL r L)
theorem vgB (r : Rt) : checkR r = 0 ∨ checkR r = 2 := by unfold checkR; split <;> simp
theorem vip {r : Rt} (h : checkR r = 0) : (r.s = 0 ∨ r.s = 1 ∨ r.s = 2 ∨ r.s = 3 ∨ r.s = 4) ∧ r.p.okB = true := by
 unfold checkR at h
 split at h
 ·rename_i h1
  rw [Bool.and_eq_true] at h1
  constructor
  ·have h2 := h1.1
   unfold stateB at h2
   split at h2
   ·exact .inl (by assumption)
   split at h2
   ·exact .inr (.inl (by assumption))
   split at h2
   ·exact .inr (.inr (.inl (by assumption)))
   split at h2
   ·exact .inr (.inr (.inr (.inl (by assumption))))
   split at h2
   ·exact .inr (.inr (.inr (.inr (by assumption))))
   cases h2
  ·have h2 := h1.2
   unfold toldB at h2
   rw [Bool.and_eq_true] at h2
   exact h2.1
 ·omega
theorem vkr (args : Array Value) (w : World) : (callFunc 139 args).run Tryz.prog w = .ok (.enter 139 args) w := by kernel_rfl
theorem vks (args : Array Value) (w : World) : (callFunc 141 args).run Tryz.prog w = .ok (.enter 141 args) w := by kernel_rfl
set_option maxRecDepth 100000 in
theorem vmu (f : Nat) (r : Rt) (w : World) (ha : r.p.a < 4294967296) (hx : r.x < 4294967296) (hc : checkR r = 2) :
  Calls Tryz.prog 76 #[.pointer (some ⟨f, 0, none⟩), .agg #[.int .u32 r.p.a, .int .i64 r.p.l, .int .i64 r.s, .int .i64 r.m, .int .i64 r.l, .int .i64 r.f, .int .u32 r.x, .int .i64 r.d, .bool r.c]] w fun e w' => e = .returned (.int .i64 2) ∧ Kp w w' := by
 have Hc := Lib.hid hc; clear hc
 have k1 : Kp w ((w.alloc (.cells #[.pointer (some ⟨f, 0, none⟩)] 72)).alloc (.cells #[.int .u32 r.p.a, .int .i64 r.p.l, .int .i64 r.s, .int .i64 r.m, .int .i64 r.l, .int .i64 r.f, .int .u32 r.x, .int .i64 r.d, .bool r.c] 52)) := ((Kp.refl _).alloc _).alloc _
 go_enter Tryz.func76, Tryz.ntmps76
 go_wp2_with fail
 refine (vbo r _ ha hx).mono ?_
 rintro e w1 ⟨rfl, hK⟩
 rw [Hc.out]
 go_wp2_with fail
 go_ret
 exact ⟨rfl, k1.trans hK⟩
set_option maxRecDepth 100000 in
theorem vmv (f : Nat) (F : List Nat) (L : List Hp) (q : Pn) (s m l fc : Int) (x : Nat) (d : Int) (ch : Bool) (w : World) (hG : RelsAt w) (hM : FM w f F L) (hq : q.ok) (hx : x < 4294967296) (hc : checkR ⟨q.pi, s, m, l, fc, x, d, ch⟩ = 0) (hs : s = 1 ∨ s = 2) :
  Calls Tryz.prog 76 #[.pointer (some ⟨f, 0, none⟩), .agg (rtC q s m l fc x d ch)] w (PutAny w f F L ⟨q, s == 1, fc, x, m⟩) := by
 have HG := Lib.hid hG
 have HM := Lib.hid hM
 have Hq := Lib.hid hq
 have Hc := Lib.hid hc
 have e1 := vkr
 have e2 := vks
 obtain ⟨W, hW, k1, B2, B3⟩ : ∃ W, (w.alloc (.cells #[.pointer (some ⟨f, 0, none⟩)] 72)).alloc (.cells (rtC q s m l fc x d ch) 52) = W ∧ Kp w W ∧ Blk W w.heap.size 72 #[.pointer (some ⟨f, 0, none⟩)] ∧ Blk W (w.heap.size + 1) 52 (rtC q s m l fc x d ch) := ⟨_, rfl, ((Kp.refl _).alloc _).alloc _, (Blk.new w _ _).alloc _, Blk.new1 w _ _ _⟩
 have y0 : W.cell? ⟨w.heap.size + 1, 0, none⟩ = some (.int .u32 q.a) := B3.cell 0
 have y1 : W.cell? ⟨w.heap.size + 1, 1, none⟩ = some (.int .i64 q.l) := B3.cell 1
 have y2 : W.cell? ⟨w.heap.size + 1, 2, none⟩ = some (.int .i64 s) := B3.cell 2
 have y3 : W.cell? ⟨w.heap.size + 1, 3, none⟩ = some (.int .i64 m) := B3.cell 3
 have y4 : W.cell? ⟨w.heap.size + 1, 4, none⟩ = some (.int .i64 l) := B3.cell 4
 have y5 : W.cell? ⟨w.heap.size + 1, 5, none⟩ = some (.int .i64 fc) := B3.cell 5
 have y6 : W.cell? ⟨w.heap.size + 1, 6, none⟩ = some (.int .u32 x) := B3.cell 6
 have y7 : W.cell? ⟨w.heap.size + 1, 7, none⟩ = some (.int .i64 d) := B3.cell 7
 have y8 : W.cell? ⟨w.heap.size + 1, 8, none⟩ = some (.bool ch) := B3.cell 8
 unfold rtC at hW ⊢
 clear hG hM hq hc
 go_enter Tryz.func76, Tryz.ntmps76
 go_wp2_with fail
 refine (vbo ⟨q.pi, s, m, l, fc, x, d, ch⟩ _ Hq.out.1 hx).mono ?_
 rintro e w1 ⟨rfl, hK⟩
 rw [Hc.out]
 have B2' := B2.keep hK
 have B3' := B3.keep hK
 have kw := k1.trans hK
 clear hW hK y0 y1 y2 y3 y4 y5 y6 y7 y8
 have r2 : w1.cell? ⟨w.heap.size + 1, 2, none⟩ = some (.int .i64 s) := B3'.cell 2
 have r2' : ∀ o, (w1.alloc o).cell? ⟨w.heap.size + 1, 2, none⟩ = some (.int .i64 s) := fun o => (B3'.alloc o).cell 2
 have hl := B3'.lt
 have ha : ∀ o, Kp w1 (w1.alloc o) := fun o => (Kp.refl _).alloc o
 rcases hs with rfl | rfl
 all_goals
  go_wp2_with fail
  refine (vkp (w.heap.size) (w.heap.size + 1) f F L q _ m l fc x d ch _ (HG.out.keep (kw.trans (ha _))) (HM.out.keep (kw.trans (ha _))) Hq.out (B2'.keep (ha _)) (B3'.keep (ha _))).mono ?_
  rintro e w2 ⟨rfl, hT⟩
  have HT := Lib.hid hT; clear hT
  go_wp2_with fail
  go_ret
  exact ⟨rfl, HT.out.keep (kw.trans (ha _))⟩
set_option maxRecDepth 100000 in
theorem vkt (f : Nat) (F : List Nat) (L : List Hp) (q : Pn) (s m l fc : Int) (x : Nat) (d : Int) (ch : Bool) (w : World) (hG : RelsAt w) (hGn : 3 ∉ F) (hM : FM w f F L) (hq : q.ok) (hx : x < 4294967296) (hc : checkR ⟨q.pi, s, m, l, fc, x, d, ch⟩ = 0) (hs : s = 0 ∨ s = 3 ∨ s = 4) :
  Calls Tryz.prog 76 #[.pointer (some ⟨f, 0, none⟩), .agg (rtC q s m l fc x d ch)] w (TakeAny w f F L q) := by
 have HG := Lib.hid hG
 have HGn := Lib.hid hGn
 have HM := Lib.hid hM
 have Hq := Lib.hid hq
 have Hc := Lib.hid hc
 have e1 := vkr
 have e2 := vks
 obtain ⟨W, hW, k1, B2, B3⟩ : ∃ W, (w.alloc (.cells #[.pointer (some ⟨f, 0, none⟩)] 72)).alloc (.cells (rtC q s m l fc x d ch) 52) = W ∧ Kp w W ∧ Blk W w.heap.size 72 #[.pointer (some ⟨f, 0, none⟩)] ∧ Blk W (w.heap.size + 1) 52 (rtC q s m l fc x d ch) := ⟨_, rfl, ((Kp.refl _).alloc _).alloc _, (Blk.new w _ _).alloc _, Blk.new1 w _ _ _⟩
 have y0 : W.cell? ⟨w.heap.size + 1, 0, none⟩ = some (.int .u32 q.a) := B3.cell 0
 have y1 : W.cell? ⟨w.heap.size + 1, 1, none⟩ = some (.int .i64 q.l) := B3.cell 1
 have y2 : W.cell? ⟨w.heap.size + 1, 2, none⟩ = some (.int .i64 s) := B3.cell 2
 have y3 : W.cell? ⟨w.heap.size + 1, 3, none⟩ = some (.int .i64 m) := B3.cell 3
 have y4 : W.cell? ⟨w.heap.size + 1, 4, none⟩ = some (.int .i64 l) := B3.cell 4
 have y5 : W.cell? ⟨w.heap.size + 1, 5, none⟩ = some (.int .i64 fc) := B3.cell 5
 have y6 : W.cell? ⟨w.heap.size + 1, 6, none⟩ = some (.int .u32 x) := B3.cell 6
 have y7 : W.cell? ⟨w.heap.size + 1, 7, none⟩ = some (.int .i64 d) := B3.cell 7
 have y8 : W.cell? ⟨w.heap.size + 1, 8, none⟩ = some (.bool ch) := B3.cell 8
 unfold rtC at hW ⊢
 clear hG hM hq hc hGn
 go_enter Tryz.func76, Tryz.ntmps76
 go_wp2_with fail
 refine (vbo ⟨q.pi, s, m, l, fc, x, d, ch⟩ _ Hq.out.1 hx).mono ?_
 rintro e w1 ⟨rfl, hK⟩
 rw [Hc.out]
 have B2' := B2.keep hK
 have B3' := B3.keep hK
 have kw := k1.trans hK
 clear hW hK y0 y1 y2 y3 y4 y5 y6 y7 y8
 have r2 : w1.cell? ⟨w.heap.size + 1, 2, none⟩ = some (.int .i64 s) := B3'.cell 2
 have r2' : ∀ o, (w1.alloc o).cell? ⟨w.heap.size + 1, 2, none⟩ = some (.int .i64 s) := fun o => (B3'.alloc o).cell 2
 have hl := B3'.lt
 have ha : ∀ o, Kp w1 (w1.alloc o) := fun o => (Kp.refl _).alloc o
 rcases hs with rfl | rfl | rfl
 all_goals
  go_wp2_with fail
  refine (vkq (w.heap.size) (w.heap.size + 1) f F L q _ m l fc x d ch _ (HG.out.keep (kw.trans (ha _))) HGn.out (HM.out.keep (kw.trans (ha _))) Hq.out (B2'.keep (ha _)) (B3'.keep (ha _))).mono ?_
  rintro e w2 ⟨rfl, hT⟩
  have HT := Lib.hid hT; clear hT
  go_wp2_with fail
  go_ret
  exact ⟨rfl, HT.out.keep (kw.trans (ha _))⟩
theorem vmw (f : Nat) (F : List Nat) (L : List Hp) (r : Rt) (w : World) (hG : RelsAt w) (hGn : 3 ∉ F) (hM : FM w f F L) (ha : r.p.a < 4294967296) (hx : r.x < 4294967296) :
  Calls Tryz.prog 76 #[.pointer (some ⟨f, 0, none⟩), .agg #[.int .u32 r.p.a, .int .i64 r.p.l, .int .i64 r.s, .int .i64 r.m, .int .i64 r.l, .int .i64 r.f, .int .u32 r.x, .int .i64 r.d, .bool r.c]] w (ComeP w f F L r) := by
 rcases vgB r with hc | hc
 ·obtain ⟨hs, hok⟩ := vip hc
  obtain ⟨hq, hl⟩ := pn_ok hok ha
  obtain ⟨p, s, m, l, fc, x, d, ch⟩ := r
  simp only at *
  have ep : p = p.pn.pi := by cases p; simp only [Pn.pi, PI.pn] at *; rw [hl]; simp
  by_cases h12 : s = 1 ∨ s = 2
  ·rw [ep] at hc
   have := vmv f F L p.pn s m l fc x d ch w hG hM hq hx hc h12
   unfold rtC at this
   rw [← hl] at this
   refine this.mono ?_
   rintro e w' ⟨rfl, hT⟩
   rw [← ep] at hc
   exact ⟨by simp only [comeE, hc, h12, if_true, Rt.hop], by simp only [comeL, hc, h12, if_true, Rt.hop]; exact hT⟩
  ·rw [ep] at hc
   have := vkt f F L p.pn s m l fc x d ch w hG hGn hM hq hx hc (by omega)
   unfold rtC at this
   rw [← hl] at this
   refine this.mono ?_
   rintro e w' ⟨rfl, hT⟩
   rw [← ep] at hc
   exact ⟨by simp only [comeE, hc, h12, if_true, if_false], by simp only [comeL, hc, h12, if_true, if_false]; exact hT⟩
 ·refine (vmu f r w ha hx hc).mono ?_
  rintro e w' ⟨rfl, hK⟩
  refine ⟨by simp [comeE, hc], ?_⟩
  have : comeL r L = L := by simp [comeL, hc]
  rw [this]
  exact FT.of_kp hM hK
end

end Go.Proofs.YtgopnfacklmkaaaGreatDoor
