/- A table of hops: Find. -/
import Derived.Test.YtfaiponmjjbgoaaDoorFbH
namespace Go.Proofs.YtfaiponmjjbgoaaDoor
open Go.RowKit
attribute [local go_sem] Oper.semAt_some

def hop0 : Hp := ⟨⟨0, 0⟩, false, 0, 0, 0⟩
def findL (a : Nat) (L : List Hp) : List Hp := L.filter (fun e => decide (e.p.holds ⟨a, 32⟩))
def foundH (a : Nat) (L : List Hp) : Hp × Bool := match (findL a L).getLast? with
  | some h => (h, true)
  | none => (hop0, false)

theorem found_at {t : Tr} {H L : List Hp} {a : Nat} (ha : a < 4294967296) (h : FI t H) (u : Up L) (pm : H.Perm L) : (foundT (aboveT ⟨a, 32⟩ t) = ((⟨0, 0⟩, 0), false) ∧ foundH a L = (hop0, false)) ∨ ∃ (k : Nat) (hk : k < H.length), foundT (aboveT ⟨a, 32⟩ t) = ((H[k].p, (k : Int)), true) ∧ foundH a L = (H[k], true) := by
  have hq : (⟨a, 32⟩ : Pn).ok := ⟨ha, Nat.le_refl _, cut_32 a⟩
  have hall := above_all hq h.wf
  have hin : ∀ e ∈ findL a L, ∃ i, (e.p, i) ∈ aboveT ⟨a, 32⟩ t := fun e he => by
    obtain ⟨h1, h2⟩ := List.mem_filter.1 he
    obtain ⟨k, hk, rfl⟩ := List.getElem_of_mem (pm.mem_iff.2 h1)
    exact ⟨k, by rw [hall, List.mem_filter]; exact ⟨(h.rows _ _).2 ⟨k, hk, rfl, rfl⟩, h2⟩⟩
  have hup : (aboveT ⟨a, 32⟩ t).Pairwise (fun r s => r.1.lt s.1) := by rw [hall]; exact List.Pairwise.filter _ (rows_rise h.wf)
  have hfu : (findL a L).Pairwise (fun r s => r.p.lt s.p) := List.Pairwise.filter _ u
  rcases List.eq_nil_or_concat (aboveT ⟨a, 32⟩ t) with e | ⟨l', r, e⟩
  · left
    have h0 : findL a L = [] := List.eq_nil_iff_forall_not_mem.2 (fun x hx => by
      obtain ⟨i, hi⟩ := hin x hx
      rw [e] at hi; cases hi)
    exact ⟨by rw [e]; rfl, by simp [foundH, h0]⟩
  · right
    rw [List.concat_eq_append] at e
    have hr : r ∈ aboveT ⟨a, 32⟩ t := by rw [e]; simp
    rw [hall, List.mem_filter] at hr
    obtain ⟨k, hk, hi, hp⟩ := (h.rows r.1 r.2).1 hr.1
    refine ⟨k, hk, by rw [e]; simp [foundT]; exact Prod.ext hp.symm hi, ?_⟩
    have hmem : H[k] ∈ findL a L := List.mem_filter.2 ⟨pm.mem_iff.1 (List.getElem_mem hk), by rw [hp]; exact hr.2⟩
    rcases List.eq_nil_or_concat (findL a L) with e2 | ⟨f', z, e2⟩
    · rw [e2] at hmem; cases hmem
    · rw [List.concat_eq_append] at e2
      have hz : z = H[k] := by
        rw [e2] at hmem hfu
        rcases List.mem_append.1 hmem with h1 | h1
        · have h2 : (H[k]).p.lt z.p := (List.pairwise_append.1 hfu).2.2 _ h1 z (by simp)
          obtain ⟨i, h3⟩ := hin z (by rw [e2]; simp)
          rw [e] at h3 hup
          rcases List.mem_append.1 h3 with h4 | h4
          · have h5 : z.p.lt r.1 := (List.pairwise_append.1 hup).2.2 _ h4 r (by simp)
            rw [← hp] at h5
            exact absurd (lt_trans h2 h5) (lt_irrefl _)
          · simp only [List.mem_singleton] at h4
            have h5 : z.p = r.1 := by rw [← h4]
            rw [h5, ← hp] at h2
            exact absurd h2 (lt_irrefl _)
        · simp only [List.mem_singleton] at h1; exact h1.symm
      simp [foundH, e2, hz]

set_option maxRecDepth 100000 in
set_option maxHeartbeats 1000000 in
theorem klong_any (tr a : Nat) (many : Int) (t : Tr) (w : World) (hG : RelsAt w) (hT : TrieM w tr t many) (ha : a < 4294967296) :
    Calls Tryd.prog 14 #[.agg #[.pointer (some ⟨tr, 0, none⟩)], .int .u32 a] w fun e w' => e = .returned (.tuple #[.int .i64 (foundT (aboveT ⟨a, 32⟩ t)).1.2, .bool (foundT (aboveT ⟨a, 32⟩ t)).2]) ∧ Kp w w' := by
  have HT := Lib.hid hT
  have HG := Lib.hid hG
  clear hT hG
  obtain ⟨g, hg⟩ : ∃ g, foundT (aboveT ⟨a, 32⟩ t) = g := ⟨_, rfl⟩
  rw [hg]
  have Hg := Lib.hid hg; clear hg
  go_enter Tryd.func14, Tryd.ntmps14
  go_wp2_with fail
  have k1 : Kp w (w.alloc (.cells #[.pointer (some ⟨tr, 0, none⟩)] 47)) := (Kp.refl _).alloc _
  refine (find_any tr a many t _ (HG.out.keep k1) (HT.out.blk.keep k1) (HT.out.tm.keep k1) HT.out.wf ha).mono ?_
  rintro e w1 ⟨rfl, hK⟩
  rw [Hg.out]
  go_wp2_with fail
  go_ret2
  exact ⟨rfl, (k1.trans hK).alloc _⟩

theorem Blk.set6 {w : World} {g t : Nat} {cs : Array Value} (h : Blk w g t cs) (o : Nat) (y : Hp) {c0 c1 c2 c3 c4 c5 : Value} (hc : cs = #[c0, c1, c2, c3, c4, c5]) : Blk (set6 w g 0 y) g t #[.int .u32 y.p.a, .int .i64 y.p.l, .bool y.d, .int .i64 y.f, .int .u32 y.x, .int .i64 y.m] := by
  subst hc
  exact (((((h.set_ 0 (.int .u32 y.p.a)).set_ 1 (.int .i64 y.p.l)).set_ 2 (.bool y.d)).set_ 3 (.int .i64 y.f)).set_ 4 (.int .u32 y.x)).set_ 5 (.int .i64 y.m)
theorem Kp.set6 {w w1 : World} (k : Kp w w1) (o : Nat) (y : Hp) : Kp w (set6 w1 w.heap.size o y) := (((((k.setCell (Nat.le_refl _) _).setCell (Nat.le_refl _) _).setCell (Nat.le_refl _) _).setCell (Nat.le_refl _) _).setCell (Nat.le_refl _) _).setCell (Nat.le_refl _) _
def hopV (h : Hp) : Value := .agg #[.int .u32 h.p.a, .int .i64 h.p.l, .bool h.d, .int .i64 h.f, .int .u32 h.x, .int .i64 h.m]
def FindP (w : World) (r : Hp × Bool) (e : Ending) (w' : World) : Prop := e = .returned (.tuple #[hopV r.1, .bool r.2]) ∧ Kp w w'

set_option maxRecDepth 100000 in
set_option maxHeartbeats 2000000 in
theorem fFind_any (f : Nat) (F : List Nat) (L : List Hp) (a : Nat) (w : World) (hG : RelsAt w) (hM : FM w f F L) (ha : a < 4294967296) :
    Calls Tryd.prog 10 #[.pointer (some ⟨f, 0, none⟩), .int .u32 a] w (FindP w (foundH a L)) := by
  obtain ⟨tr, t, A, c, H, rfl, m, u, pm⟩ := hM
  have hcase := found_at ha m.fi u pm
  have hroom := m.room
  obtain ⟨W, hW, kW, B0⟩ : ∃ W, w.alloc (.cells #[.int .u32 0, .int .i64 0, .bool false, .int .i64 0, .int .u32 0, .int .i64 0] 41) = W ∧ Kp w W ∧ Blk W w.heap.size 41 #[.int .u32 0, .int .i64 0, .bool false, .int .i64 0, .int .u32 0, .int .i64 0] := ⟨_, rfl, (Kp.refl _).alloc _, Blk.new w _ _⟩
  have HM := Lib.hid (m.keep kW)
  have HG := Lib.hid (hG.keep kW)
  have Hcase := Lib.hid hcase
  clear m hG hcase
  go_enter Tryd.func10, Tryd.ntmps10
  go_wp2_with fail
  refine (fnone_any f tr _ _ HM.out.blk).mono ?_
  rintro e w' ⟨rfl, rfl⟩
  have f0 : W.cell? ⟨f, 0, none⟩ = some (.pointer (some ⟨tr, 0, none⟩)) := HM.out.blk.cell 0
  go_wp2_with fail
  refine (klong_any tr a _ t _ HG.out HM.out.trie ha).mono ?_
  rintro e w1 ⟨rfl, hK1⟩
  have B1 := B0.keep hK1
  have M1 := HM.out.keep hK1
  have k1 := kW.trans hK1
  have r0 : w1.cell? ⟨w.heap.size, 0, none⟩ = some (.int .u32 0) := B1.cell 0
  have r1 : w1.cell? ⟨w.heap.size, 1, none⟩ = some (.int .i64 0) := B1.cell 1
  have r2 : w1.cell? ⟨w.heap.size, 2, none⟩ = some (.bool false) := B1.cell 2
  have r3 : w1.cell? ⟨w.heap.size, 3, none⟩ = some (.int .i64 0) := B1.cell 3
  have r4 : w1.cell? ⟨w.heap.size, 4, none⟩ = some (.int .u32 0) := B1.cell 4
  have r5 : w1.cell? ⟨w.heap.size, 5, none⟩ = some (.int .i64 0) := B1.cell 5
  have z0 := B1.frozen 0
  have z1 := B1.frozen 1
  have z2 := B1.frozen 2
  have z3 := B1.frozen 3
  have z4 := B1.frozen 4
  have z5 := B1.frozen 5
  clear f0 hW
  rcases Hcase.out with ⟨h1, h2⟩ | ⟨k, hk, h1, h2⟩
  · rw [h1]
    have H2 := Lib.hid h2
    clear h1 h2
    go_wp2_with fail
    change bodyPost _ _ _ _ _ (set6 w1 w.heap.size 0 hop0)
    have R := B1.set6 0 hop0 rfl
    have kz : Kp w (set6 w1 w.heap.size 0 hop0) := k1.set6 _ _
    generalize set6 w1 w.heap.size 0 hop0 = Z at R kz ⊢
    have c0 : Z.cell? ⟨w.heap.size, 0, none⟩ = some (.int .u32 (hop0).p.a) := R.cell 0
    have c1 : Z.cell? ⟨w.heap.size, 1, none⟩ = some (.int .i64 (hop0).p.l) := R.cell 1
    have c2 : Z.cell? ⟨w.heap.size, 2, none⟩ = some (.bool (hop0).d) := R.cell 2
    have c3 : Z.cell? ⟨w.heap.size, 3, none⟩ = some (.int .i64 (hop0).f) := R.cell 3
    have c4 : Z.cell? ⟨w.heap.size, 4, none⟩ = some (.int .u32 (hop0).x) := R.cell 4
    have c5 : Z.cell? ⟨w.heap.size, 5, none⟩ = some (.int .i64 (hop0).m) := R.cell 5
    exact bodyPost_ret (v := .tuple #[hopV hop0, .bool false]) (by simp [results, Tryd.results10, go_sem, c0, c1, c2, c3, c4, c5, hopV]) rfl ⟨by rw [H2.out], kz⟩
  · rw [h1]
    have H2 := Lib.hid h2
    clear h1 h2
    obtain ⟨y, hy⟩ : ∃ y, H[k] = y := ⟨_, rfl⟩
    obtain ⟨b, off, rfl, g0, g1, g2, g3, g4, g5⟩ := hop_at (M1.own.rdAt (by decide) Hp.len) hk
    have f1 : w1.cell? ⟨f, 1, none⟩ = some (.slice (some ⟨b, off, none⟩) H.length c) := M1.blk.cell 1
    rw [hy] at g0 g1 g2 g3 g4 g5
    have Hy := Lib.hid hy; clear hy
    have HM1 := Lib.hid M1
    clear M1
    go_wp2_with fail
    change bodyPost _ _ _ _ _ (set6 w1 w.heap.size 0 y)
    have R := B1.set6 0 y rfl
    have kz : Kp w (set6 w1 w.heap.size 0 y) := k1.set6 _ _
    generalize set6 w1 w.heap.size 0 y = Z at R kz ⊢
    have c0 : Z.cell? ⟨w.heap.size, 0, none⟩ = some (.int .u32 (y).p.a) := R.cell 0
    have c1 : Z.cell? ⟨w.heap.size, 1, none⟩ = some (.int .i64 (y).p.l) := R.cell 1
    have c2 : Z.cell? ⟨w.heap.size, 2, none⟩ = some (.bool (y).d) := R.cell 2
    have c3 : Z.cell? ⟨w.heap.size, 3, none⟩ = some (.int .i64 (y).f) := R.cell 3
    have c4 : Z.cell? ⟨w.heap.size, 4, none⟩ = some (.int .u32 (y).x) := R.cell 4
    have c5 : Z.cell? ⟨w.heap.size, 5, none⟩ = some (.int .i64 (y).m) := R.cell 5
    exact bodyPost_ret (v := .tuple #[hopV y, .bool true]) (by simp [results, Tryd.results10, go_sem, c0, c1, c2, c3, c4, c5, hopV]) rfl ⟨by rw [H2.out, Hy.out], kz⟩
end Go.Proofs.YtfaiponmjjbgoaaDoor
