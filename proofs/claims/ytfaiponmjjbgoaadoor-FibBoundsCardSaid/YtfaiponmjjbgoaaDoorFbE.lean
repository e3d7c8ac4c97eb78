/- fib's take. -/
import Derived.Test.YtfaiponmjjbgoaaDoorFbD
namespace Go.Proofs.YtfaiponmjjbgoaaDoor
open Go.RowKit
attribute [local go_sem] Oper.semAt_some

/-- A prefix's hop is away. -/
def TakeEnd (w : World) (f tr : Nat) (t : Tr) (A : Option Addr) (c : Nat) (H : List Hp) (q : Pn) (e : Ending) (w' : World) : Prop :=
  e = .returned (.int .i64 0) ∧ ∃ t2 H', FibM w' f tr t2 A c H' ∧ (∀ x, x ∈ H' ↔ x.p ≠ q ∧ x ∈ H) ∧ Only (Fp f tr t A) w w' ∧ ∀ b ∈ Fp f tr t2 A, b ∈ Fp f tr t A ∨ w.heap.size ≤ b

theorem take_end {w w5 : World} {f tr n k c : Nat} {t t1 t2 : Tr} {A : Option Addr} {H : List Hp} {q : Pn} {y : Hp} (HM : FibM w f tr t A c H) (hn : H.length = n + 1) (hk : k < H.length) (hp : H[k].p = q) (hy : H[n]'(by omega) = y)
    (O : Only (Fp f tr t A) w w5) (BF : Blk w5 f 50 #[.pointer (some ⟨tr, 0, none⟩), .slice A (n + 1) c]) (T5 : TrieM w5 tr t2 (n : Int)) (own5 : Own w5 0 41 6 Hp.enc (.slice A (n + 1) c) (H.set k y))
    (hw1 : t1.Wf) (hr1 : ∀ r : Pn × Int, r ∈ t1.rows ↔ r.1 ≠ q ∧ r ∈ t.rows) (hr2 : ∀ r : Pn × Int, r ∈ t2.rows ↔ if k = n then r ∈ t1.rows else (r = (y.p, (k : Int)) ∨ (r.1 ≠ y.p ∧ r ∈ t1.rows)))
    (sub2 : ∀ b ∈ t2.bs, b ∈ t.bs ∨ w.heap.size ≤ b) : TakeEnd w f tr t A c H q (.returned (.int .i64 0)) (w5.setCell ⟨f, 1, none⟩ (.slice A n c)) := by
  have e1 : H.length - 1 = n := by omega
  have d := FI.del HM.fi hk hp hw1 hr1 T5.wf (by simp only [e1, hy]; exact hr2)
  simp only [e1, hy] at d
  obtain ⟨d1, d2⟩ := d
  have hf : f < w.heap.size := HM.blk.lt
  have hfb : f ∉ t2.bs := fun hc => by
    rcases sub2 f hc with e | e
    · exact HM.fbs e
    · omega
  have hlen : ((H.set k y).take n).length = n := by simp; omega
  have OF := (Only.refl [f] w5).setCell (p := ⟨f, 1, none⟩) (.inl (by simp)) (.slice A n c)
  have hfA : ∀ a, A = some a → a.block ∉ [f] := fun a ha => by have := (HM.row a ha).1; simpa using this
  refine ⟨rfl, t2, (H.set k y).take n, ⟨?_, ?_, ?_, d1, HM.ftr, hfb, ?_, by have := HM.room; omega, ?_⟩, d2, O.setCell (.inl (by simp [Fp])) _, ?_⟩
  · have := BF.set_ 1 (.slice A n c)
    rw [hlen]; simpa using this
  · rw [hlen]
    exact T5.only OF (by simp; exact fun e => HM.ftr e.symm) (fun b hb => by simp; intro e; subst e; exact hfb hb)
  · rw [hlen]
    exact (own5.cut (by simp; omega)).only_ OF hfA
  · intro a ha
    obtain ⟨r1, r2, r3⟩ := HM.row a ha
    refine ⟨r1, r2, fun hc => ?_⟩
    have := HM.own.lt_ a ha
    rcases sub2 _ hc with e | e
    · exact r3 e
    · omega
  · intro x hx
    exact HM.oks x ((d2 x).1 hx).2
  · intro b hb
    simp only [Fp, List.mem_cons, List.mem_append] at hb ⊢
    rcases hb with e | e | e | e
    · exact .inl (.inl e)
    · exact .inl (.inr (.inl e))
    · rcases sub2 b e with e | e
      · exact .inl (.inr (.inr (.inl e)))
      · exact .inr e
    · exact .inl (.inr (.inr (.inr e)))

set_option maxRecDepth 100000 in
set_option maxHeartbeats 2000000 in
theorem ftake_not (f tr : Nat) (t : Tr) (A : Option Addr) (c : Nat) (H : List Hp) (q : Pn) (w : World) (hG : RelsAt w) (m : FibM w f tr t A c H) (hno : ∀ u, (q, u) ∉ t.rows) (hq : q.ok) :
    Calls Tryd.prog 19 #[.pointer (some ⟨f, 0, none⟩), .agg #[.int .u32 q.a, .int .i64 q.l]] w fun e w' => e = .returned (.int .i64 0) ∧ Kp w w' := by
  have HM := Lib.hid m
  have HG := Lib.hid hG
  have Hq := Lib.hid hq
  have Hno := Lib.hid hno
  obtain ⟨W, hW, kW, B0⟩ : ∃ W, w.alloc (.cells #[.int .u32 q.a, .int .i64 q.l] 29) = W ∧ Kp w W ∧ Blk W w.heap.size 29 #[.int .u32 q.a, .int .i64 q.l] := ⟨_, rfl, (Kp.refl _).alloc _, Blk.new w _ _⟩
  clear m hG hq hno
  go_enter Tryd.func19, Tryd.ntmps19
  go_wp2_with fail
  have HM1 := Lib.hid (HM.out.keep kW)
  have f0 : W.cell? ⟨f, 0, none⟩ = some (.pointer (some ⟨tr, 0, none⟩)) := HM1.out.blk.cell 0
  have b0 : W.cell? ⟨w.heap.size, 0, none⟩ = some (.int .u32 q.a) := B0.cell 0
  have b1 : W.cell? ⟨w.heap.size, 1, none⟩ = some (.int .i64 q.l) := B0.cell 1
  go_region_held3 (fun w' => w'.cell? ⟨f, 0, none⟩ = some (.pointer (some ⟨tr, 0, none⟩)) ∧ w'.cell? ⟨w.heap.size, 0, none⟩ = some (.int .u32 q.a) ∧ w'.cell? ⟨w.heap.size, 1, none⟩ = some (.int .i64 q.l))
    (first | exact ⟨Ka.cell f0, Ka.cell b0, Ka.cell b1⟩ | go_keep)
    (first | (go_at_call 25; refine (take_not tr q _ t _ (HG.out.keep kW.drew) (HM1.out.trie.keep (Kp.refl W).drew) Hq.out Hno.out).mono ?_; rintro e wa ⟨rfl, hKa⟩; have Ka : Kp W wa := (Kp.refl W).drew.trans hKa))
  go_wp2_with fail
  go_ret
  exact ⟨rfl, kW.trans Ka⟩

set_option maxRecDepth 100000 in
set_option maxHeartbeats 2000000 in
theorem ftake_had (f tr : Nat) (t : Tr) (A : Option Addr) (c : Nat) (H : List Hp) (q : Pn) (k n b : Nat) (x z : Tr) (w : World) (hG : RelsAt w) (hGn : 0 ∉ Fp f tr t A) (m : FibM w f tr t A c H) (hn : H.length = n + 1) (hk : k < H.length) (hp : H[k].p = q) (hl : t.look q = .node b q (k : Int) true x z) (hq : q.ok) :
    Calls Tryd.prog 19 #[.pointer (some ⟨f, 0, none⟩), .agg #[.int .u32 q.a, .int .i64 q.l]] w (TakeEnd w f tr t A c H q) := by
  have hlen := m.room
  obtain ⟨g, cur, hA, hB, hc, _⟩ := m.own.some_ (by omega)
  subst hA
  obtain ⟨rg1, rg2, rg3⟩ := m.row _ rfl
  have hgf : ¬ f = g := fun e => rg1 e.symm
  have hnc : n + 1 ≤ c := by omega
  clear hB hc
  have HM := Lib.hid m
  have HG := Lib.hid hG
  have HGn := Lib.hid hGn
  have Hq := Lib.hid hq
  have Hl := Lib.hid hl
  have Hn := Lib.hid hn
  have Hpk := Lib.hid hp
  have Hrg := Lib.hid (show g ∉ tr :: t.bs by simp; exact ⟨rg2, rg3⟩)
  obtain ⟨W, hW, kW, B0⟩ : ∃ W, w.alloc (.cells #[.int .u32 q.a, .int .i64 q.l] 29) = W ∧ Kp w W ∧ Blk W w.heap.size 29 #[.int .u32 q.a, .int .i64 q.l] := ⟨_, rfl, (Kp.refl _).alloc _, Blk.new w _ _⟩
  have hkn : k < n + 1 := by omega
  have hn5 : n < 512 := by omega
  clear m hG hGn hq hl hn hp rg1 rg2 rg3
  go_enter Tryd.func19, Tryd.ntmps19
  go_wp2_with fail
  have HM1 := Lib.hid (HM.out.keep kW)
  have f0 : W.cell? ⟨f, 0, none⟩ = some (.pointer (some ⟨tr, 0, none⟩)) := HM1.out.blk.cell 0
  have b0 : W.cell? ⟨w.heap.size, 0, none⟩ = some (.int .u32 q.a) := B0.cell 0
  have b1 : W.cell? ⟨w.heap.size, 1, none⟩ = some (.int .i64 q.l) := B0.cell 1
  have hftr : f ∉ tr :: t.bs := by simp; exact ⟨HM.out.ftr, HM.out.fbs⟩
  have hwtr : w.heap.size ∉ tr :: t.bs := fun hc => by
    rcases List.mem_cons.1 hc with e | e
    · have := HM.out.trie.blk.lt; omega
    · have := HM.out.trie.tm.lt _ e; omega
  have hGt : 0 ∉ tr :: t.bs := fun hc => HGn.out (by
    rcases List.mem_cons.1 hc with e | e
    · simp [Fp, e]
    · simp [Fp, e])
  have Hftr := Lib.hid hftr
  have Hwtr := Lib.hid hwtr
  have HGt := Lib.hid hGt
  clear hftr hwtr hGt
  go_region_held3 (fun w' => w'.cell? ⟨f, 0, none⟩ = some (.pointer (some ⟨tr, 0, none⟩)) ∧ w'.cell? ⟨w.heap.size, 0, none⟩ = some (.int .u32 q.a) ∧ w'.cell? ⟨w.heap.size, 1, none⟩ = some (.int .i64 q.l))
    (first | exact ⟨Ob.cell f0 Hftr.out, Ob.cell b0 Hwtr.out, Ob.cell b1 Hwtr.out⟩ | go_keep)
    (first | (go_at_call 25; refine (take_had tr q (k : Int) (H.length : Int) t b x z _ (HG.out.keep kW.drew) (HM1.out.trie.keep (Kp.refl W).drew) Hq.out Hl.out (by omega) (by omega) HGt.out).mono ?_; rintro e wb ⟨rfl, t1, hTu, hrows⟩; have Ob : Only (tr :: t.bs) W wb := (Only.of_kp (Kp.refl W).drew).trans hTu.only))
  have Hrows := Lib.hid hrows
  have HTu := Lib.hid hTu
  have BF : Blk wb f 50 #[.pointer (some ⟨tr, 0, none⟩), .slice (some ⟨g, 0, none⟩) H.length c] := HM1.out.blk.only Ob Hftr.out
  have hown := HM1.out.own.only_ Ob (fun a ha => by injection ha with ha; subst ha; exact Hrg.out)
  rw [Hn.out] at BF
  have Hown := Lib.hid hown
  clear hrows hTu f0 b0 b1 hown HM1
  have f0 : wb.cell? ⟨f, 0, none⟩ = some (.pointer (some ⟨tr, 0, none⟩)) := BF.cell 0
  have f1 : wb.cell? ⟨f, 1, none⟩ = some (.slice (some ⟨g, 0, none⟩) (n + 1) c) := BF.cell 1
  have z1 := BF.frozen 1
  have Ow : Only (tr :: t.bs) w wb := (Only.of_kp kW).trans Ob
  have hsub : ∀ b ∈ t1.bs, b ∈ t.bs ∨ w.heap.size ≤ b := fun b hb => (HTu.out.sub b hb).imp id (fun e => Nat.le_trans kW.size e)
  have Hsub := Lib.hid hsub; clear hsub
  have OFp : Only (Fp f tr t (some ⟨g, 0, none⟩)) w wb := Ow.wide (fun b hb => by
    rcases List.mem_cons.1 hb with e | e
    · simp [Fp, e]
    · simp [Fp, e])
  have HT1 := Lib.hid HTu.out.trie
  have htw : t1.Wf := HT1.out.wf
  have Htw := Lib.hid htw; clear htw
  by_cases hkl : k = n
  · subst hkl
    go_wp2_with fail
    go_ret
    have hT := HT1.out
    rw [Hn.out] at hT
    have hO := Hown.out
    rw [Hn.out] at hO
    exact take_end (t1 := t1) (t2 := t1) (y := H[k]) HM.out Hn.out hk Hpk.out rfl OFp BF (by simpa using hT) (by rw [List.set_getElem_self]; exact hO) Htw.out Hrows.out (fun r => by rw [if_pos rfl]) Hsub.out
  · have hb1 : ((k : Int) == (n : Int)) = false := by simpa using (fun e : (k : Int) = n => hkl (by omega))
    have hb2 : ((k : Int) != (n : Int)) = true := by simp [bne, hb1]
    have Hkl := Lib.hid hkl; clear hkl
    obtain ⟨y, hy⟩ : ∃ y, H[n]'(by have := Hn.out; omega) = y := ⟨_, rfl⟩
    have Hy := Lib.hid hy; clear hy
    go_wp2_with fail
    refine wp_tail 13 (by kernel_rfl) (by kernel_rfl) (fun V2 hV2 => ?_)
    have k2 : Kp wb V2 := by rw [hV2]; exact (Kp.refl _).drew
    have BF2 := BF.keep k2
    have hown2 := Hown.out.keep k2
    have HT2 := Lib.hid (HT1.out.keep k2)
    clear hV2 f0 f1 z1
    have f1 : V2.cell? ⟨f, 1, none⟩ = some (.slice (some ⟨g, 0, none⟩) (n + 1) c) := BF2.cell 1
    obtain ⟨_, cur2, he, hB2, _, _⟩ := hown2.some_ (by omega)
    injection he with he; injection he with he1
    subst he1
    have rd2 := hown2.rdAt (by decide) Hp.len
    obtain ⟨_, _, he, g0, g1, g2, g3, g4, g5⟩ := hop_at rd2 hk
    injection he with he; injection he with he1 he2
    subst he1 he2
    obtain ⟨_, _, he, s0, s1, s2, s3, s4, s5⟩ := hop_at rd2 (k := n) (by have := Hn.out; omega)
    injection he with he; injection he with he1 he2
    subst he1 he2
    rw [Hy.out] at s0 s1 s2 s3 s4 s5
    simp only [Nat.zero_add] at g0 g1 g2 g3 g4 g5 s0 s1 s2 s3 s4 s5
    have z0 := hB2.frozen (k * 6)
    have z1 := hB2.frozen (k * 6 + 1)
    have z2 := hB2.frozen (k * 6 + 2)
    have z3 := hB2.frozen (k * 6 + 3)
    have z4 := hB2.frozen (k * 6 + 4)
    have z5 := hB2.frozen (k * 6 + 5)
    have Hown2 := Lib.hid hown2
    clear hB2 hown2 rd2
    have hnn : n < n + 1 := Nat.lt_succ_self n
    have hnn2 : (n : Int) < (n : Int) + 1 := by omega
    have hkn2 : (k : Int) < (n : Int) + 1 := by omega
    simp only [List.take_succ_cons, List.take_zero, List.drop_succ_cons, List.drop_zero]
    repeat still_step
    refine wpStill_nil ?_
    go_wp2_with fail
    refine wp_tail 14 (by kernel_rfl) (by kernel_rfl) (fun V3 hV3 => ?_)
    have e3 : V3 = (set6 V2 g (k * 6) y).drew := by rw [hV3]; simp [set6]
    clear hV3 g0 g1 g2 g3 g4 g5 s0 s1 s2 s3 s4 s5 z0 z1 z2 z3 z4 z5 f1
    have O3 : Only [g] V2 V3 := by rw [e3]; exact ((Only.refl [g] V2).set6 (by simp) _ _).drew
    have own3 : Own V3 0 41 6 Hp.enc (.slice (some ⟨g, 0, none⟩) H.length c) (H.set k y) := by rw [e3]; exact (Hown2.out.set6 hk y).drew
    clear e3
    have BF3 := BF2.only O3 (by simpa using hgf)
    have T3 := HT2.out.only O3 (by simp; exact fun e => Hrg.out (by simp [e])) (fun b hb => by
      simp; intro e; subst e
      rcases Hsub.out b hb with e | e
      · exact Hrg.out (by simp [e])
      · have := HM.out.own.lt_ _ rfl; simp at this; omega)
    have f0 : V3.cell? ⟨f, 0, none⟩ = some (.pointer (some ⟨tr, 0, none⟩)) := BF3.cell 0
    have f1 : V3.cell? ⟨f, 1, none⟩ = some (.slice (some ⟨g, 0, none⟩) (n + 1) c) := BF3.cell 1
    obtain ⟨_, _, he, g0, g1, _⟩ := hop_at (own3.rdAt (by decide) Hp.len) (k := k) (by simpa using hk)
    injection he with he; injection he with he1 he2
    subst he1 he2
    simp only [Nat.zero_add, List.getElem_set_self] at g0 g1
    have Hown3 := Lib.hid own3
    have HT3 := Lib.hid T3
    clear own3 T3
    simp only [List.take_succ_cons, List.take_zero, List.drop_succ_cons, List.drop_zero]
    repeat still_step
    refine wpStill_nil ?_
    go_wp2_with fail
    have hn' := Hn.out
    have hyq : y.p.ok := HM.out.oks y (by rw [← Hy.out]; exact List.getElem_mem _)
    have hyt : (y.p, (n : Int)) ∈ t1.rows := (Hrows.out _).2 ⟨fun e => Hkl.out (HM.out.fi.inj (i := k) (j := n) hk (by omega) (by rw [Hpk.out, Hy.out]; exact e.symm)), (HM.out.fi.rows y.p n).2 ⟨n, by omega, rfl, by rw [Hy.out]⟩⟩
    obtain ⟨b2, x2, z2, hl2⟩ := (look_mem hyq Htw.out n).1 hyt
    have Ov : Only (Fp f tr t (some ⟨g, 0, none⟩)) w V3 := (OFp.trans (Only.of_kp k2)).trans (O3.wide (fun b hb => by simp at hb; simp [Fp, rowB, hb]))
    have hsz : w.heap.size ≤ V3.heap.size := Ov.size
    have hlg := HM.out.own.lt_ _ rfl
    simp only at hlg
    have hf5 : f ∉ tr :: t1.bs := fun hc => by
      rcases List.mem_cons.1 hc with e | e
      · exact HM.out.ftr e
      · rcases Hsub.out _ e with e | e
        · exact HM.out.fbs e
        · have := HM.out.blk.lt; omega
    have hg5 : g ∉ tr :: t1.bs := fun hc => by
      rcases List.mem_cons.1 hc with e | e
      · exact Hrg.out (by simp [e])
      · rcases Hsub.out _ e with e | e
        · exact Hrg.out (by simp [e])
        · omega
    have Hf5 := Lib.hid hf5
    have Hg5 := Lib.hid hg5
    have Hyt := Lib.hid hyt
    have Hyq := Lib.hid hyq
    have Hlg := Lib.hid hlg
    refine (put_over tr y.p (k : Int) (n : Int) _ t1 b2 x2 z2 _ (HG.out.only Ov HGn.out) HT3.out hyq hl2).mono ?_
    rintro e w5 ⟨rfl, hTu2⟩
    have BF5 := BF3.only hTu2.only Hf5.out
    have HT5 := Lib.hid hTu2
    have Hown5 := Lib.hid (Hown3.out.only_ hTu2.only (fun a ha => by injection ha with ha; subst ha; exact Hg5.out))
    clear hf5 hg5 hyt hyq hlg hl2 hTu2 f0 f1 g0 g1 hn'
    have f1 : w5.cell? ⟨f, 1, none⟩ = some (.slice (some ⟨g, 0, none⟩) (n + 1) c) := BF5.cell 1
    have z1 := BF5.frozen 1
    go_wp2_with fail
    go_ret
    have hT := HT5.out.trie
    rw [Hn.out] at hT
    have hO := Hown5.out
    rw [Hn.out] at hO
    refine take_end (t1 := t1) (t2 := setT y.p k true t1) (y := y) HM.out Hn.out hk Hpk.out Hy.out ?_ BF5 (by simpa using hT) hO Htw.out Hrows.out (fun r => ?_) (fun b hb => ?_)
    · refine Ov.join HT5.out.only (fun _ h => h) (fun b hb => ?_)
      rcases List.mem_cons.1 hb with e | e
      · left; simp [Fp, e]
      · rcases Hsub.out b e with e | e
        · left; simp [Fp, e]
        · exact .inr e
    · rw [if_neg Hkl.out, (set_all Hyq.out Htw.out Hyt.out).2 r]
      simp
    · rcases HT5.out.sub b hb with e | e
      · exact Hsub.out b e
      · exact .inr (Nat.le_trans hsz e)
end Go.Proofs.YtfaiponmjjbgoaaDoor
