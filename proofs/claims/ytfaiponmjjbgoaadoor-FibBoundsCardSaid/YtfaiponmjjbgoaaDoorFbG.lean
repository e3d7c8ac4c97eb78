/- A table of hops, as routes come to it: come, Come. -/
import Derived.Test.YtfaiponmjjbgoaaDoorFbF
namespace Go.Proofs.YtfaiponmjjbgoaaDoor
open Go.RowKit
attribute [local go_sem] Oper.semAt_some

def Rt.hop (r : Rt) : Hp := ⟨r.p.pn, r.s == 1, r.f, r.x, r.m⟩
def comeE (r : Rt) (L : List Hp) : Int := if checkR r = 0 then (if r.s = 1 ∨ r.s = 2 then putE r.hop L else 0) else 2
def comeL (r : Rt) (L : List Hp) : List Hp := if checkR r = 0 then (if r.s = 1 ∨ r.s = 2 then putL r.hop L else delH r.p.pn L) else L
def ComeP (w : World) (f : Nat) (F : List Nat) (L : List Hp) (r : Rt) (e : Ending) (w' : World) : Prop := e = .returned (.int .i64 (comeE r L)) ∧ FT w w' f F (comeL r L)
theorem check_range (r : Rt) : checkR r = 0 ∨ checkR r = 2 := by unfold checkR; split <;> simp
theorem check_zero {r : Rt} (h : checkR r = 0) : (r.s = 0 ∨ r.s = 1 ∨ r.s = 2 ∨ r.s = 3 ∨ r.s = 4) ∧ r.p.okB = true := by
  unfold checkR at h
  split at h
  · rename_i h1
    rw [Bool.and_eq_true] at h1
    constructor
    · have h2 := h1.1
      unfold stateB at h2
      split at h2
      · exact .inl (by assumption)
      split at h2
      · exact .inr (.inl (by assumption))
      split at h2
      · exact .inr (.inr (.inl (by assumption)))
      split at h2
      · exact .inr (.inr (.inr (.inl (by assumption))))
      split at h2
      · exact .inr (.inr (.inr (.inr (by assumption))))
      cases h2
    · have h2 := h1.2
      unfold toldB at h2
      rw [Bool.and_eq_true] at h2
      exact h2.1
  · omega
theorem call_c1 (args : Array Value) (w : World) : (callFunc 16 args).run Tryd.prog w = .ok (.enter 16 args) w := by kernel_rfl
theorem call_c2 (args : Array Value) (w : World) : (callFunc 18 args).run Tryd.prog w = .ok (.enter 18 args) w := by kernel_rfl

set_option maxRecDepth 100000 in
set_option maxHeartbeats 1000000 in
theorem come_bad (f : Nat) (r : Rt) (w : World) (ha : r.p.a < 4294967296) (hx : r.x < 4294967296) (hc : checkR r = 2) :
    Calls Tryd.prog 13 #[.pointer (some ⟨f, 0, none⟩), .agg #[.int .u32 r.p.a, .int .i64 r.p.l, .int .i64 r.s, .int .i64 r.m, .int .i64 r.l, .int .i64 r.f, .int .u32 r.x, .int .i64 r.d, .bool r.c]] w fun e w' => e = .returned (.int .i64 2) ∧ Kp w w' := by
  have Hc := Lib.hid hc; clear hc
  have k1 : Kp w ((w.alloc (.cells #[.pointer (some ⟨f, 0, none⟩)] 23)).alloc (.cells #[.int .u32 r.p.a, .int .i64 r.p.l, .int .i64 r.s, .int .i64 r.m, .int .i64 r.l, .int .i64 r.f, .int .u32 r.x, .int .i64 r.d, .bool r.c] 31)) := ((Kp.refl _).alloc _).alloc _
  go_enter Tryd.func13, Tryd.ntmps13
  go_wp2_with fail
  refine (checkR_any r _ ha hx).mono ?_
  rintro e w1 ⟨rfl, hK⟩
  rw [Hc.out]
  go_wp2_with fail
  go_ret
  exact ⟨rfl, k1.trans hK⟩

set_option maxRecDepth 100000 in
set_option maxHeartbeats 1000000 in
theorem come_put (f : Nat) (F : List Nat) (L : List Hp) (q : Pn) (s m l fc : Int) (x : Nat) (d : Int) (ch : Bool) (w : World) (hG : RelsAt w) (hM : FM w f F L) (hq : q.ok) (hx : x < 4294967296) (hc : checkR ⟨q.pi, s, m, l, fc, x, d, ch⟩ = 0) (hs : s = 1 ∨ s = 2) :
    Calls Tryd.prog 13 #[.pointer (some ⟨f, 0, none⟩), .agg (rtC q s m l fc x d ch)] w (PutAny w f F L ⟨q, s == 1, fc, x, m⟩) := by
  have HG := Lib.hid hG
  have HM := Lib.hid hM
  have Hq := Lib.hid hq
  have Hc := Lib.hid hc
  have e1 := call_c1
  have e2 := call_c2
  obtain ⟨W, hW, k1, B2, B3⟩ : ∃ W, (w.alloc (.cells #[.pointer (some ⟨f, 0, none⟩)] 23)).alloc (.cells (rtC q s m l fc x d ch) 31) = W ∧ Kp w W ∧ Blk W w.heap.size 23 #[.pointer (some ⟨f, 0, none⟩)] ∧ Blk W (w.heap.size + 1) 31 (rtC q s m l fc x d ch) := ⟨_, rfl, ((Kp.refl _).alloc _).alloc _, (Blk.new w _ _).alloc _, Blk.new1 w _ _ _⟩
  have y0 : W.cell? ⟨w.heap.size + 1, 0, none⟩ = some (.int .u32 q.a) := B3.cell 0
  have y1 : W.cell? ⟨w.heap.size + 1, 1, none⟩ = some (.int .i64 q.l) := B3.cell 1
  have y2 : W.cell? ⟨w.heap.size + 1, 2, none⟩ = some (.int .i64 s) := B3.cell 2
  have y3 : W.cell? ⟨w.heap.size + 1, 3, none⟩ = some (.int .i64 m) := B3.cell 3
  have y4 : W.cell? ⟨w.heap.size + 1, 4, none⟩ = some (.int .i64 l) := B3.cell 4
  have y5 : W.cell? ⟨w.heap.size + 1, 5, none⟩ = some (.int .i64 fc) := B3.cell 5
  have y6 : W.cell? ⟨w.heap.size + 1, 6, none⟩ = some (.int .u32 x) := B3.cell 6
  have y7 : W.cell? ⟨w.heap.size + 1, 7, none⟩ = some (.int .i64 d) := B3.cell 7
  have y8 : W.cell? ⟨w.heap.size + 1, 8, none⟩ = some (.bool ch) := B3.cell 8
  unfold rtC at hW ⊢
  clear hG hM hq hc
  go_enter Tryd.func13, Tryd.ntmps13
  go_wp2_with fail
  refine (checkR_any ⟨q.pi, s, m, l, fc, x, d, ch⟩ _ Hq.out.1 hx).mono ?_
  rintro e w1 ⟨rfl, hK⟩
  rw [Hc.out]
  have B2' := B2.keep hK
  have B3' := B3.keep hK
  have kw := k1.trans hK
  clear hW hK y0 y1 y2 y3 y4 y5 y6 y7 y8
  have r2 : w1.cell? ⟨w.heap.size + 1, 2, none⟩ = some (.int .i64 s) := B3'.cell 2
  have r2' : ∀ o, (w1.alloc o).cell? ⟨w.heap.size + 1, 2, none⟩ = some (.int .i64 s) := fun o => (B3'.alloc o).cell 2
  have hl := B3'.lt
  have ha : ∀ o, Kp w1 (w1.alloc o) := fun o => (Kp.refl _).alloc o
  rcases hs with rfl | rfl
  all_goals
    go_wp2_with fail
    refine (come1_any (w.heap.size) (w.heap.size + 1) f F L q _ m l fc x d ch _ (HG.out.keep (kw.trans (ha _))) (HM.out.keep (kw.trans (ha _))) Hq.out (B2'.keep (ha _)) (B3'.keep (ha _))).mono ?_
    rintro e w2 ⟨rfl, hT⟩
    have HT := Lib.hid hT; clear hT
    go_wp2_with fail
    go_ret
    exact ⟨rfl, HT.out.keep (kw.trans (ha _))⟩

set_option maxRecDepth 100000 in
set_option maxHeartbeats 1000000 in
theorem come_take (f : Nat) (F : List Nat) (L : List Hp) (q : Pn) (s m l fc : Int) (x : Nat) (d : Int) (ch : Bool) (w : World) (hG : RelsAt w) (hGn : 0 ∉ F) (hM : FM w f F L) (hq : q.ok) (hx : x < 4294967296) (hc : checkR ⟨q.pi, s, m, l, fc, x, d, ch⟩ = 0) (hs : s = 0 ∨ s = 3 ∨ s = 4) :
    Calls Tryd.prog 13 #[.pointer (some ⟨f, 0, none⟩), .agg (rtC q s m l fc x d ch)] w (TakeAny w f F L q) := by
  have HG := Lib.hid hG
  have HGn := Lib.hid hGn
  have HM := Lib.hid hM
  have Hq := Lib.hid hq
  have Hc := Lib.hid hc
  have e1 := call_c1
  have e2 := call_c2
  obtain ⟨W, hW, k1, B2, B3⟩ : ∃ W, (w.alloc (.cells #[.pointer (some ⟨f, 0, none⟩)] 23)).alloc (.cells (rtC q s m l fc x d ch) 31) = W ∧ Kp w W ∧ Blk W w.heap.size 23 #[.pointer (some ⟨f, 0, none⟩)] ∧ Blk W (w.heap.size + 1) 31 (rtC q s m l fc x d ch) := ⟨_, rfl, ((Kp.refl _).alloc _).alloc _, (Blk.new w _ _).alloc _, Blk.new1 w _ _ _⟩
  have y0 : W.cell? ⟨w.heap.size + 1, 0, none⟩ = some (.int .u32 q.a) := B3.cell 0
  have y1 : W.cell? ⟨w.heap.size + 1, 1, none⟩ = some (.int .i64 q.l) := B3.cell 1
  have y2 : W.cell? ⟨w.heap.size + 1, 2, none⟩ = some (.int .i64 s) := B3.cell 2
  have y3 : W.cell? ⟨w.heap.size + 1, 3, none⟩ = some (.int .i64 m) := B3.cell 3
  have y4 : W.cell? ⟨w.heap.size + 1, 4, none⟩ = some (.int .i64 l) := B3.cell 4
  have y5 : W.cell? ⟨w.heap.size + 1, 5, none⟩ = some (.int .i64 fc) := B3.cell 5
  have y6 : W.cell? ⟨w.heap.size + 1, 6, none⟩ = some (.int .u32 x) := B3.cell 6
  have y7 : W.cell? ⟨w.heap.size + 1, 7, none⟩ = some (.int .i64 d) := B3.cell 7
  have y8 : W.cell? ⟨w.heap.size + 1, 8, none⟩ = some (.bool ch) := B3.cell 8
  unfold rtC at hW ⊢
  clear hG hM hq hc hGn
  go_enter Tryd.func13, Tryd.ntmps13
  go_wp2_with fail
  refine (checkR_any ⟨q.pi, s, m, l, fc, x, d, ch⟩ _ Hq.out.1 hx).mono ?_
  rintro e w1 ⟨rfl, hK⟩
  rw [Hc.out]
  have B2' := B2.keep hK
  have B3' := B3.keep hK
  have kw := k1.trans hK
  clear hW hK y0 y1 y2 y3 y4 y5 y6 y7 y8
  have r2 : w1.cell? ⟨w.heap.size + 1, 2, none⟩ = some (.int .i64 s) := B3'.cell 2
  have r2' : ∀ o, (w1.alloc o).cell? ⟨w.heap.size + 1, 2, none⟩ = some (.int .i64 s) := fun o => (B3'.alloc o).cell 2
  have hl := B3'.lt
  have ha : ∀ o, Kp w1 (w1.alloc o) := fun o => (Kp.refl _).alloc o
  rcases hs with rfl | rfl | rfl
  all_goals
    go_wp2_with fail
    refine (come2_any (w.heap.size) (w.heap.size + 1) f F L q _ m l fc x d ch _ (HG.out.keep (kw.trans (ha _))) HGn.out (HM.out.keep (kw.trans (ha _))) Hq.out (B2'.keep (ha _)) (B3'.keep (ha _))).mono ?_
    rintro e w2 ⟨rfl, hT⟩
    have HT := Lib.hid hT; clear hT
    go_wp2_with fail
    go_ret
    exact ⟨rfl, HT.out.keep (kw.trans (ha _))⟩

theorem come_any (f : Nat) (F : List Nat) (L : List Hp) (r : Rt) (w : World) (hG : RelsAt w) (hGn : 0 ∉ F) (hM : FM w f F L) (ha : r.p.a < 4294967296) (hx : r.x < 4294967296) :
    Calls Tryd.prog 13 #[.pointer (some ⟨f, 0, none⟩), .agg #[.int .u32 r.p.a, .int .i64 r.p.l, .int .i64 r.s, .int .i64 r.m, .int .i64 r.l, .int .i64 r.f, .int .u32 r.x, .int .i64 r.d, .bool r.c]] w (ComeP w f F L r) := by
  rcases check_range r with hc | hc
  · obtain ⟨hs, hok⟩ := check_zero hc
    obtain ⟨hq, hl⟩ := pn_ok hok ha
    obtain ⟨p, s, m, l, fc, x, d, ch⟩ := r
    simp only at *
    have ep : p = p.pn.pi := by cases p; simp only [Pn.pi, PI.pn] at *; rw [hl]; simp
    by_cases h12 : s = 1 ∨ s = 2
    · rw [ep] at hc
      have := come_put f F L p.pn s m l fc x d ch w hG hM hq hx hc h12
      unfold rtC at this
      rw [← hl] at this
      refine this.mono ?_
      rintro e w' ⟨rfl, hT⟩
      rw [← ep] at hc
      exact ⟨by simp only [comeE, hc, h12, if_true, Rt.hop], by simp only [comeL, hc, h12, if_true, Rt.hop]; exact hT⟩
    · rw [ep] at hc
      have := come_take f F L p.pn s m l fc x d ch w hG hGn hM hq hx hc (by omega)
      unfold rtC at this
      rw [← hl] at this
      refine this.mono ?_
      rintro e w' ⟨rfl, hT⟩
      rw [← ep] at hc
      exact ⟨by simp only [comeE, hc, h12, if_true, if_false], by simp only [comeL, hc, h12, if_true, if_false]; exact hT⟩
  · refine (come_bad f r w ha hx hc).mono ?_
    rintro e w' ⟨rfl, hK⟩
    refine ⟨by simp [comeE, hc], ?_⟩
    have : comeL r L = L := by simp [comeL, hc]
    rw [this]
    exact FT.of_kp hM hK
end Go.Proofs.YtfaiponmjjbgoaaDoor
