/- fib's put: a hop behind the others, or none where the table is full. -/
import Derived.Test.YtfaiponmjjbgoaaDoorFbC
import Derived.Deep.RegionLaw
namespace Go.Proofs.YtfaiponmjjbgoaaDoor
open Go.RowKit
attribute [local go_sem] Oper.semAt_some

theorem Only.of_grown {w w' : World} {A : Option Addr} {n c : Nat} (h : w.grownBy w' (Value.slice A n c).ownBlock) : Only (rowB A) w w' :=
  ⟨h.os, h.tape, h.output, h.size, fun k hk hn => h.block k hk (fun e => by
    cases A with
    | none => cases e
    | some a => injection e with e; exact hn (by simp [rowB, e]))⟩
theorem Only.wide {bs cs : List Nat} {w w' : World} (h : Only bs w w') (hs : ∀ b ∈ bs, b ∈ cs) : Only cs w w' := ⟨h.os, h.tape, h.output, h.size, fun k hk hn => h.block k hk (fun hb => hn (hs k hb))⟩
theorem Only.join {bs cs ds : List Nat} {w w1 w2 : World} (h : Only bs w w1) (k : Only cs w1 w2) (h1 : ∀ b ∈ bs, b ∈ ds) (h2 : ∀ b ∈ cs, b ∈ ds ∨ w.heap.size ≤ b) : Only ds w w2 :=
  ⟨k.os.trans h.os, k.tape.trans h.tape, k.output.trans h.output, Nat.le_trans h.size k.size, fun i hi hn => (k.block i (Nat.lt_of_lt_of_le hi h.size) (fun hb => by
    rcases h2 i hb with e | e
    · exact hn e
    · omega)).trans (h.block i hi (fun hb => hn (h1 i hb)))⟩
def PutFull (w : World) (e : Ending) (w' : World) : Prop := e = .returned (.int .i64 3) ∧ Kp w w'
theorem put_full (tr : Nat) (q : Pn) (v many : Int) (t : Tr) (w : World) (hG : RelsAt w) (hT : TrieM w tr t many) (hq : q.ok) (hno : ∀ u, (q, u) ∉ t.rows) (hm0 : 512 ≤ many) (hm1 : many ≤ 1000000) :
    Calls Tryd.prog 24 #[.pointer (some ⟨tr, 0, none⟩), .agg #[.int .u32 q.a, .int .i64 q.l], .int .i64 v] w fun e w' => e = .returned (.tuple #[.int .i64 0, .bool false, .int .i64 3]) ∧ Kp w w' := by
  refine (put_new tr q v many t w hG hT hq hno (by omega) hm1).mono ?_
  rintro e w' (⟨_, h2, h3⟩ | ⟨h1, _⟩)
  · exact ⟨h2, h3⟩
  · omega
theorem put_ok (tr : Nat) (q : Pn) (v many : Int) (t : Tr) (w : World) (hG : RelsAt w) (hT : TrieM w tr t many) (hq : q.ok) (hno : ∀ u, (q, u) ∉ t.rows) (hm0 : 0 ≤ many) (hm1 : many < 512) :
    Calls Tryd.prog 24 #[.pointer (some ⟨tr, 0, none⟩), .agg #[.int .u32 q.a, .int .i64 q.l], .int .i64 v] w fun e w' => e = .returned (.tuple #[.int .i64 0, .bool false, .int .i64 0]) ∧ NewPost w tr q v many t w' := by
  refine (put_new tr q v many t w hG hT hq hno hm0 (by omega)).mono ?_
  rintro e w' (⟨h1, _⟩ | ⟨_, h2, h3⟩)
  · omega
  · exact ⟨h2, h3⟩
def PutNew (w : World) (f tr : Nat) (t : Tr) (A : Option Addr) (H : List Hp) (h : Hp) (e : Ending) (w' : World) : Prop :=
  e = .returned (.int .i64 0) ∧ ∃ t' A' c', FibM w' f tr t' A' c' (H ++ [h]) ∧ Only (Fp f tr t A) w w' ∧ ∀ b ∈ Fp f tr t' A', b ∈ Fp f tr t A ∨ w.heap.size ≤ b
set_option maxRecDepth 100000 in
set_option maxHeartbeats 2000000 in
theorem fput_full (f tr : Nat) (t : Tr) (A : Option Addr) (c : Nat) (H : List Hp) (h : Hp) (w : World) (hG : RelsAt w) (m : FibM w f tr t A c H) (hfull : 512 ≤ H.length) (hgot : (t.look h.p).got h.p = (0, false)) (hno : ∀ u, (h.p, u) ∉ t.rows) (hq : h.p.ok) :
    Calls Tryd.prog 17 #[.pointer (some ⟨f, 0, none⟩), .agg #[.int .u32 h.p.a, .int .i64 h.p.l, .bool h.d, .int .i64 h.f, .int .u32 h.x, .int .i64 h.m]] w (PutFull w) := by
  have HM := Lib.hid m
  have HG := Lib.hid hG
  have Hq := Lib.hid hq
  have Hg := Lib.hid hgot
  have hlen := m.room
  obtain ⟨W, hW, kW, B0⟩ : ∃ W, w.alloc (.cells #[.int .u32 h.p.a, .int .i64 h.p.l, .bool h.d, .int .i64 h.f, .int .u32 h.x, .int .i64 h.m] 41) = W ∧ Kp w W ∧ Blk W w.heap.size 41 #[.int .u32 h.p.a, .int .i64 h.p.l, .bool h.d, .int .i64 h.f, .int .u32 h.x, .int .i64 h.m] := ⟨_, rfl, (Kp.refl _).alloc _, Blk.new w _ _⟩
  have Hno := Lib.hid hno
  clear m hG hq hgot hno
  go_enter Tryd.func17, Tryd.ntmps17
  go_wp2_with fail
  have HM1 := Lib.hid (HM.out.keep kW)
  have f0 : W.cell? ⟨f, 0, none⟩ = some (.pointer (some ⟨tr, 0, none⟩)) := HM1.out.blk.cell 0
  have b0 : W.cell? ⟨w.heap.size, 0, none⟩ = some (.int .u32 h.p.a) := B0.cell 0
  have b1 : W.cell? ⟨w.heap.size, 1, none⟩ = some (.int .i64 h.p.l) := B0.cell 1
  go_region_held3 (fun w' => w'.cell? ⟨f, 0, none⟩ = some (.pointer (some ⟨tr, 0, none⟩)) ∧ w'.cell? ⟨w.heap.size, 0, none⟩ = some (.int .u32 h.p.a) ∧ w'.cell? ⟨w.heap.size, 1, none⟩ = some (.int .i64 h.p.l))
    (first | exact ⟨Ka.cell f0, Ka.cell b0, Ka.cell b1⟩ | go_keep)
    (first | (go_at_call 23; refine (kplace_any tr h.p _ t _ (HG.out.keep kW.drew) (HM1.out.trie.keep (Kp.refl W).drew) Hq.out).mono ?_; rintro e wa ⟨rfl, hKa⟩; rw [Hg.out]; have Ka : Kp W wa := (Kp.refl W).drew.trans hKa))
  have k2 := kW.trans Ka
  have B2 := B0.keep Ka
  clear f0 b0 b1 HM1 B0 hKa
  have HM2 := Lib.hid (HM.out.keep k2)
  have f0 : wa.cell? ⟨f, 0, none⟩ = some (.pointer (some ⟨tr, 0, none⟩)) := HM2.out.blk.cell 0
  have f1 : wa.cell? ⟨f, 1, none⟩ = some (.slice A H.length c) := HM2.out.blk.cell 1
  have b0 : wa.cell? ⟨w.heap.size, 0, none⟩ = some (.int .u32 h.p.a) := B2.cell 0
  have b1 : wa.cell? ⟨w.heap.size, 1, none⟩ = some (.int .i64 h.p.l) := B2.cell 1
  go_wp2_with fail
  go_region_held3 (fun w' => w'.cell? ⟨f, 0, none⟩ = some (.pointer (some ⟨tr, 0, none⟩)) ∧ w'.cell? ⟨f, 1, none⟩ = some (.slice A H.length c) ∧ w'.cell? ⟨w.heap.size, 0, none⟩ = some (.int .u32 h.p.a) ∧ w'.cell? ⟨w.heap.size, 1, none⟩ = some (.int .i64 h.p.l))
    (first | exact ⟨Kb.cell f0, Kb.cell f1, Kb.cell b0, Kb.cell b1⟩ | go_keep)
    (first | (go_at_call 24; refine (put_full tr h.p _ (H.length : Int) t _ (HG.out.keep k2.drew) (HM2.out.trie.keep (Kp.refl wa).drew) Hq.out Hno.out (by omega) (by omega)).mono ?_; rintro e wb ⟨rfl, hKb⟩; have Kb : Kp wa wb := (Kp.refl wa).drew.trans hKb))
  go_wp2_with fail
  go_ret
  exact ⟨rfl, k2.trans Kb⟩
theorem new_end {w wa wb w4 : World} {f tr : Nat} {t t' : Tr} {A : Option Addr} {c g cap : Nat} {H : List Hp} {h : Hp} {o : Obj} (HM : FibM w f tr t A c H) (k2 : Kp w wa) (hTu : Turned wa.drew wb tr t t' ((H.length : Int) + 1))
    (hrows : ∀ r : Pn × Int, r ∈ t'.rows ↔ r = (h.p, (H.length : Int)) ∨ r ∈ t.rows) (hno : ∀ u, (h.p, u) ∉ t.rows) (hfull : H.length < 512) (hq : h.p.ok) (BF : Blk wb f 50 #[.pointer (some ⟨tr, 0, none⟩), .slice A H.length c])
    (hown4 : Own w4 0 41 6 Hp.enc (.slice (some ⟨g, 0, none⟩) (H.length + 1) cap) (H ++ [h])) (hg : (wb.drew.alloc o).grownBy w4 (Value.slice A H.length c).ownBlock) (hat : (Value.slice A H.length c).ownBlock = some g ∨ g = (wb.drew.alloc o).heap.size)
    (B4 : Blk w4 f 50 #[.pointer (some ⟨tr, 0, none⟩), .slice A H.length c]) : PutNew w f tr t A H h (.returned (.int .i64 0)) (w4.setCell ⟨f, 1, none⟩ (.slice (some ⟨g, 0, none⟩) (H.length + 1) cap)) := by
  have O1 : Only (tr :: t.bs) w wb := (Only.of_kp k2.drew).trans hTu.only
  have O2 : Only (rowB A) wb w4 := ((Only.refl (rowB A) wb).drew.alloc o).trans (Only.of_grown hg)
  have O3 : Only (f :: rowB A) wb (w4.setCell ⟨f, 1, none⟩ (.slice (some ⟨g, 0, none⟩) (H.length + 1) cap)) := (O2.wide (fun b hb => by simp [hb])).setCell (.inl (by simp)) _
  have hsz : (wb.drew.alloc o).heap.size = wb.heap.size + 1 := by simp
  have hkw : w.heap.size ≤ wb.heap.size := O1.size
  have hka : w.heap.size ≤ wa.heap.size := k2.size
  have hsub : ∀ b ∈ t'.bs, b ∈ t.bs ∨ w.heap.size ≤ b := fun b hb => (hTu.sub b hb).imp id (fun e => Nat.le_trans hka e)
  have hf : f < w.heap.size := HM.blk.lt
  have hfb : f ∉ t'.bs := fun hc => by
    rcases hsub f hc with e | e
    · exact HM.fbs e
    · omega
  have hgg : g ≠ f ∧ g ≠ tr ∧ g ∉ t'.bs ∧ (g ∈ rowB A ∨ w.heap.size ≤ g) := by
    rcases hat with e | e
    · cases A with
      | none => cases e
      | some a =>
        injection e with e
        subst e
        obtain ⟨r1, r2, r3⟩ := HM.row a rfl
        have := HM.own.lt_ a rfl
        refine ⟨r1, r2, fun hc => ?_, .inl (by simp [rowB])⟩
        rcases hsub _ hc with e | e
        · exact r3 e
        · omega
    · rw [hsz] at e
      have h1 := BF.lt
      have h2 := hTu.trie.blk.lt
      refine ⟨by omega, by omega, fun hc => ?_, .inr (by omega)⟩
      have := hTu.trie.tm.lt _ hc
      omega
  have hrA : ∀ b ∈ rowB A, b < w.heap.size ∧ b ≠ tr ∧ b ∉ t'.bs := by
    intro b hb
    cases A with
    | none => cases hb
    | some a =>
      simp only [rowB, List.mem_singleton] at hb
      subst hb
      obtain ⟨r1, r2, r3⟩ := HM.row a rfl
      have hl := HM.own.lt_ a rfl
      refine ⟨hl, r2, fun hc => ?_⟩
      rcases hsub _ hc with e | e
      · exact r3 e
      · omega
  refine ⟨rfl, t', some ⟨g, 0, none⟩, cap, ⟨?_, ?_, ?_, (FI.app HM.fi hno hTu.trie.wf hrows).1, HM.ftr, hfb, ?_, by simp; omega, ?_⟩, ?_, ?_⟩
  · have := B4.set_ 1 (.slice (some ⟨g, 0, none⟩) (H.length + 1) cap)
    simpa using this
  · have := hTu.trie.only O3 (fun hc => by
      rcases List.mem_cons.1 hc with e | e
      · exact HM.ftr e.symm
      · exact (hrA _ e).2.1 rfl) (fun b hb hc => by
      rcases List.mem_cons.1 hc with e | e
      · subst e; exact hfb hb
      · exact (hrA _ e).2.2 hb)
    simpa using this
  · have := hown4.only_ ((Only.refl [f] w4).setCell (p := ⟨f, 1, none⟩) (.inl (by simp)) (.slice (some ⟨g, 0, none⟩) (H.length + 1) cap)) (fun a ha => by injection ha with ha; subst ha; simpa using hgg.1)
    simpa using this
  · rintro a ha
    injection ha with ha
    subst ha
    exact ⟨hgg.1, hgg.2.1, hgg.2.2.1⟩
  · intro e he
    rcases List.mem_append.1 he with e1 | e1
    · exact HM.oks e e1
    · simp only [List.mem_singleton] at e1; subst e1; exact hq
  · exact O1.join O3 (fun b hb => by
      rcases List.mem_cons.1 hb with e | e
      · simp [Fp, e]
      · simp [Fp, e]) (fun b hb => by
      rcases List.mem_cons.1 hb with e | e
      · left; simp [Fp, e]
      · left; simp [Fp, e])
  · intro b hb
    simp only [Fp, List.mem_cons, List.mem_append] at hb ⊢
    rcases hb with e | e | e | e
    · exact .inl (.inl e)
    · exact .inl (.inr (.inl e))
    · rcases hsub b e with e | e
      · exact .inl (.inr (.inr (.inl e)))
      · exact .inr e
    · simp only [rowB, List.mem_singleton] at e
      subst e
      rcases hgg.2.2.2 with e | e
      · exact .inl (.inr (.inr (.inr e)))
      · exact .inr e

set_option maxRecDepth 100000 in
set_option maxHeartbeats 2000000 in
theorem fput_new (f tr : Nat) (t : Tr) (A : Option Addr) (c : Nat) (H : List Hp) (h : Hp) (w : World) (hG : RelsAt w) (m : FibM w f tr t A c H) (hfull : H.length < 512) (hgot : (t.look h.p).got h.p = (0, false)) (hno : ∀ u, (h.p, u) ∉ t.rows) (hq : h.p.ok) :
    Calls Tryd.prog 17 #[.pointer (some ⟨f, 0, none⟩), .agg #[.int .u32 h.p.a, .int .i64 h.p.l, .bool h.d, .int .i64 h.f, .int .u32 h.x, .int .i64 h.m]] w (PutNew w f tr t A H h) := by
  have HM := Lib.hid m
  have HG := Lib.hid hG
  have Hq := Lib.hid hq
  have Hg := Lib.hid hgot
  have hlen := m.room
  obtain ⟨W, hW, kW, B0⟩ : ∃ W, w.alloc (.cells #[.int .u32 h.p.a, .int .i64 h.p.l, .bool h.d, .int .i64 h.f, .int .u32 h.x, .int .i64 h.m] 41) = W ∧ Kp w W ∧ Blk W w.heap.size 41 #[.int .u32 h.p.a, .int .i64 h.p.l, .bool h.d, .int .i64 h.f, .int .u32 h.x, .int .i64 h.m] := ⟨_, rfl, (Kp.refl _).alloc _, Blk.new w _ _⟩
  have Hno := Lib.hid hno
  clear m hG hq hgot hno
  go_enter Tryd.func17, Tryd.ntmps17
  go_wp2_with fail
  have HM1 := Lib.hid (HM.out.keep kW)
  have f0 : W.cell? ⟨f, 0, none⟩ = some (.pointer (some ⟨tr, 0, none⟩)) := HM1.out.blk.cell 0
  have b0 : W.cell? ⟨w.heap.size, 0, none⟩ = some (.int .u32 h.p.a) := B0.cell 0
  have b1 : W.cell? ⟨w.heap.size, 1, none⟩ = some (.int .i64 h.p.l) := B0.cell 1
  go_region_held3 (fun w' => w'.cell? ⟨f, 0, none⟩ = some (.pointer (some ⟨tr, 0, none⟩)) ∧ w'.cell? ⟨w.heap.size, 0, none⟩ = some (.int .u32 h.p.a) ∧ w'.cell? ⟨w.heap.size, 1, none⟩ = some (.int .i64 h.p.l))
    (first | exact ⟨Ka.cell f0, Ka.cell b0, Ka.cell b1⟩ | go_keep)
    (first | (go_at_call 23; refine (kplace_any tr h.p _ t _ (HG.out.keep kW.drew) (HM1.out.trie.keep (Kp.refl W).drew) Hq.out).mono ?_; rintro e wa ⟨rfl, hKa⟩; rw [Hg.out]; have Ka : Kp W wa := (Kp.refl W).drew.trans hKa))
  have k2 := kW.trans Ka
  have B2 := B0.keep Ka
  clear f0 b0 b1 HM1 B0 hKa
  have HM2 := Lib.hid (HM.out.keep k2)
  have f0 : wa.cell? ⟨f, 0, none⟩ = some (.pointer (some ⟨tr, 0, none⟩)) := HM2.out.blk.cell 0
  have f1 : wa.cell? ⟨f, 1, none⟩ = some (.slice A H.length c) := HM2.out.blk.cell 1
  have b0 : wa.cell? ⟨w.heap.size, 0, none⟩ = some (.int .u32 h.p.a) := B2.cell 0
  have b1 : wa.cell? ⟨w.heap.size, 1, none⟩ = some (.int .i64 h.p.l) := B2.cell 1
  have hftr : f ∉ tr :: t.bs := by simp; exact ⟨HM.out.ftr, HM.out.fbs⟩
  have hwtr : w.heap.size ∉ tr :: t.bs := fun hc => by
    rcases List.mem_cons.1 hc with e | e
    · have := HM.out.trie.blk.lt; omega
    · have := HM.out.trie.tm.lt _ e; omega
  have Hftr := Lib.hid hftr
  have Hwtr := Lib.hid hwtr
  clear hftr hwtr
  go_wp2_with fail
  go_region_held3 (fun w' => w'.cell? ⟨f, 0, none⟩ = some (.pointer (some ⟨tr, 0, none⟩)) ∧ w'.cell? ⟨f, 1, none⟩ = some (.slice A H.length c) ∧ w'.cell? ⟨w.heap.size, 0, none⟩ = some (.int .u32 h.p.a) ∧ w'.cell? ⟨w.heap.size, 1, none⟩ = some (.int .i64 h.p.l))
    (first | exact ⟨Ob.cell f0 Hftr.out, Ob.cell f1 Hftr.out, Ob.cell b0 Hwtr.out, Ob.cell b1 Hwtr.out⟩ | go_keep)
    (first | (go_at_call 24; refine (put_ok tr h.p _ (H.length : Int) t _ (HG.out.keep k2.drew) (HM2.out.trie.keep (Kp.refl wa).drew) Hq.out Hno.out (by omega) (by omega)).mono ?_; rintro e wb ⟨rfl, hNb⟩; obtain ⟨t', hTu, hrows⟩ := hNb; have Ob : Only (tr :: t.bs) wa wb := (Only.of_kp (Kp.refl wa).drew).trans hTu.only))
  have Hrows := Lib.hid hrows
  have HTu := Lib.hid hTu
  have hA : ∀ a, A = some a → a.block ∉ tr :: t.bs := fun a ha => by have := HM.out.row a ha; simp; exact ⟨this.2.1, this.2.2⟩
  have BF : Blk wb f 50 #[.pointer (some ⟨tr, 0, none⟩), .slice A H.length c] := HM2.out.blk.only Ob Hftr.out
  have BB := B2.only Ob Hwtr.out
  have hown := HM2.out.own.only_ Ob hA
  have HA := Lib.hid hA
  clear hrows hTu f0 f1 b0 b1 hA
  have f1 : wb.cell? ⟨f, 1, none⟩ = some (.slice A H.length c) := BF.cell 1
  have f1' : ∀ o, (wb.alloc o).cell? ⟨f, 1, none⟩ = some (.slice A H.length c) := fun o => (BF.alloc o).cell 1
  have b0 : wb.cell? ⟨w.heap.size, 0, none⟩ = some (.int .u32 h.p.a) := BB.cell 0
  have b1 : wb.cell? ⟨w.heap.size, 1, none⟩ = some (.int .i64 h.p.l) := BB.cell 1
  have b2 : wb.cell? ⟨w.heap.size, 2, none⟩ = some (.bool h.d) := BB.cell 2
  have b3 : wb.cell? ⟨w.heap.size, 3, none⟩ = some (.int .i64 h.f) := BB.cell 3
  have b4 : wb.cell? ⟨w.heap.size, 4, none⟩ = some (.int .u32 h.x) := BB.cell 4
  have b5 : wb.cell? ⟨w.heap.size, 5, none⟩ = some (.int .i64 h.m) := BB.cell 5
  have hne : some f ≠ (Value.slice A H.length c).ownBlock := fun e => by
    cases A with
    | none => cases e
    | some a => injection e with e; exact (HM.out.row a rfl).1 e.symm
  have Hne := Lib.hid hne; clear hne
  go_wp2_with fail
  go_region_law ((refine step_appx EHop (by rfl) _ _ (by rfl) h (by rfl) (hown.drew.alloc _) (Nat.zero_le _) (by rfl) (e' := 41) (heap_alloc_new _ _) (by rfl) (by rfl) (by rfl) (by omega) ?_; intro g cap w4 hown4 hg hat; have B4 := (BF.drew.alloc _).grown hg Hne.out; have z4 := B4.frozen 1; have y4 : w4.cell? ⟨f, 1, none⟩ = some (.slice A H.length c) := B4.cell 1))
  all_goals
    go_wp2_with fail
    go_ret
    exact new_end HM.out k2 HTu.out Hrows.out Hno.out hfull Hq.out BF hown4 hg hat B4
end Go.Proofs.YtfaiponmjjbgoaaDoor
