/- Lemmas and contracts for the theorem of this claim: FbF, FbG, FbH, FbI, AlL, AlA, RfA, RfB, RfC, RfD. -/
import Derived.Test.YtfaiponmjjbgoaaGreatDoorZbD
set_option linter.unusedSimpArgs false
set_option linter.unusedVariables false
/- A table of hops, as one route comes to it: put, take, come. -/
namespace Go.Proofs.YtfaiponmjjbgoaaGreatDoor
open Go.RowKit
attribute [local go_sem] Oper.semAt_some

def hasP (q : Pn) (L : List Hp) : Bool := L.any (fun e => decide (e.p = q))
def putE (h : Hp) (L : List Hp) : Int := if hasP h.p L || decide (L.length < 512) then 0 else 3
def putL (h : Hp) (L : List Hp) : List Hp := if hasP h.p L || decide (L.length < 512) then insH h L else L
theorem hasP_iff {q : Pn} {L : List Hp} : hasP q L = true ↔ ∃ e ∈ L, e.p = q := by simp [hasP]

theorem FI.nodup {t : Tr} {H : List Hp} (h : FI t H) : H.Nodup := by
  rw [List.nodup_iff_pairwise_ne, List.pairwise_iff_getElem]
  intro i j hi hj hij e
  have := h.inj hi hj (by rw [e])
  omega
theorem Up.nodup {l : List Hp} (h : Up l) : l.Nodup := List.Pairwise.imp (fun {a b} hab e => by rw [e] at hab; exact lt_irrefl _ hab) h
theorem perm_of {t : Tr} {H L : List Hp} (h : FI t H) (u : Up L) (e : ∀ x, x ∈ H ↔ x ∈ L) : H.Perm L := (List.perm_ext_iff_of_nodup h.nodup u.nodup).2 e

theorem FT.of_kp {w w' : World} {f : Nat} {F : List Nat} {L : List Hp} (h : FM w f F L) (k : Kp w w') : FT w w' f F L := ⟨F, h.keep k, Only.of_kp k, fun _ hb => .inl hb⟩
theorem FT.keep {w w1 w2 : World} {f : Nat} {F : List Nat} {L : List Hp} (k : Kp w w1) (h : FT w1 w2 f F L) : FT w w2 f F L := by
  obtain ⟨F', h1, h2, h3⟩ := h
  exact ⟨F', h1, (Only.of_kp k).trans h2, fun b hb => (h3 b hb).imp id (fun e => Nat.le_trans k.size e)⟩
theorem FT.after {w w1 w2 : World} {f : Nat} {F : List Nat} {L : List Hp} (h : FT w w1 f F L) (k : Kp w1 w2) : FT w w2 f F L := by
  obtain ⟨F', h1, h2, h3⟩ := h
  exact ⟨F', h1.keep k, h2.trans (Only.of_kp k), h3⟩
theorem FT.trans {w w1 w2 : World} {f : Nat} {F F1 : List Nat} {L : List Hp} (ho : Only F w w1) (hs : ∀ b ∈ F1, b ∈ F ∨ w.heap.size ≤ b) (k : FT w1 w2 f F1 L) : FT w w2 f F L := by
  obtain ⟨F', h1, h2, h3⟩ := k
  refine ⟨F', h1, ho.join h2 (fun _ h => h) hs, fun b hb => ?_⟩
  rcases h3 b hb with e | e
  · exact hs b e
  · exact .inr (Nat.le_trans ho.size e)

def PutAny (w : World) (f : Nat) (F : List Nat) (L : List Hp) (h : Hp) (e : Ending) (w' : World) : Prop := e = .returned (.int .i64 (putE h L)) ∧ FT w w' f F (putL h L)
theorem fput_any (f : Nat) (F : List Nat) (L : List Hp) (h : Hp) (w : World) (hG : RelsAt w) (hM : FM w f F L) (hq : h.p.ok) :
    Calls Tryz.prog 42 #[.pointer (some ⟨f, 0, none⟩), .agg #[.int .u32 h.p.a, .int .i64 h.p.l, .bool h.d, .int .i64 h.f, .int .u32 h.x, .int .i64 h.m]] w (PutAny w f F L h) := by
  obtain ⟨tr, t, A, c, H, rfl, m, u, pm⟩ := hM
  rcases got_at m.fi hq with ⟨k, hk, hp, hgot, _⟩ | ⟨hno, hgot, hrows⟩
  · refine (fput_had f tr t A c H h k w hG m hk hgot hq).mono ?_
    rintro e w' ⟨rfl, g, rfl, W, kW, rfl⟩
    have hh : hasP h.p L = true := hasP_iff.2 ⟨H[k], pm.mem_iff.1 (List.getElem_mem hk), hp⟩
    obtain ⟨d1, d2⟩ := m.fi.set hk (e := h) hp.symm
    have mW := m.keep kW
    have O6 : Only [g] W (set6 W g (k * 6) h) := (Only.refl [g] W).set6 (by simp) _ _
    obtain ⟨r1, r2, r3⟩ := m.row _ rfl
    refine ⟨by simp [putE, hh], _, ⟨tr, t, _, c, H.set k h, rfl, ⟨?_, ?_, ?_, d1, m.ftr, m.fbs, m.row, by simpa using m.room, ?_⟩, ?_, ?_⟩, (Only.of_kp kW).join O6 (fun _ h => h) (fun b hb => by simp at hb; left; simp [Fp, rowB, hb]), fun b hb => .inl hb⟩
    · rw [List.length_set]; exact mW.blk.only O6 (by simp; exact fun e => r1 e.symm)
    · rw [List.length_set]; exact mW.trie.only O6 (by simp; exact fun e => r2 e.symm) (fun b hb => by simp; intro e; subst e; exact r3 hb)
    · rw [List.length_set]; exact mW.own.set6 hk h
    · intro e he
      rcases (d2 e).1 he with e1 | e1
      · rw [e1]; exact hq
      · exact m.oks e e1.2
    · have : putL h L = insH h L := by simp [putL, hh]
      rw [this]; exact ins_up u
    · have e1 : putL h L = insH h L := by simp [putL, hh]
      rw [e1]
      exact perm_of d1 (ins_up u) (fun x => by rw [d2, ins_mem u, pm.mem_iff])
  · have hh : hasP h.p L = false := by
      rw [Bool.eq_false_iff]
      intro hc
      obtain ⟨e, he, hp⟩ := hasP_iff.1 hc
      exact hno e (pm.mem_iff.2 he) hp
    by_cases hf : H.length < 512
    · refine (fput_new f tr t A c H h w hG m hf hgot hrows hq).mono ?_
      rintro e w' ⟨rfl, t', A', c', m', O, hs⟩
      have hl : L.length < 512 := by rw [← pm.length_eq]; exact hf
      have e1 : putL h L = insH h L := by simp [putL, hl]
      refine ⟨by simp [putE, hl], _, ⟨tr, t', A', c', H ++ [h], rfl, m', ?_, ?_⟩, O, hs⟩
      · rw [e1]; exact ins_up u
      · rw [e1]
        refine perm_of m'.fi (ins_up u) (fun x => ?_)
        rw [ins_mem u, List.mem_append, List.mem_singleton, pm.mem_iff]
        constructor
        · rintro (h1 | h1)
          · exact .inr ⟨hno x (pm.mem_iff.2 h1), h1⟩
          · exact .inl h1
        · rintro (h1 | h1)
          · exact .inr h1
          · exact .inl h1.2
    · refine (fput_full f tr t A c H h w hG m (by omega) hgot hrows hq).mono ?_
      rintro e w' ⟨rfl, kW⟩
      have hl : ¬ L.length < 512 := by rw [← pm.length_eq]; exact hf
      have e1 : putL h L = L := by simp [putL, hh, hl]
      refine ⟨by simp [putE, hh, hl], ?_⟩
      rw [e1]
      exact FT.of_kp ⟨tr, t, A, c, H, rfl, m, u, pm⟩ kW

def TakeAny (w : World) (f : Nat) (F : List Nat) (L : List Hp) (q : Pn) (e : Ending) (w' : World) : Prop := e = .returned (.int .i64 0) ∧ FT w w' f F (delH q L)
theorem ftake_any (f : Nat) (F : List Nat) (L : List Hp) (q : Pn) (w : World) (hG : RelsAt w) (hGn : 0 ∉ F) (hM : FM w f F L) (hq : q.ok) :
    Calls Tryz.prog 44 #[.pointer (some ⟨f, 0, none⟩), .agg #[.int .u32 q.a, .int .i64 q.l]] w (TakeAny w f F L q) := by
  obtain ⟨tr, t, A, c, H, rfl, m, u, pm⟩ := hM
  rcases got_at m.fi hq with ⟨k, hk, hp, _, b, x, y, hl⟩ | ⟨hno, _, hrows⟩
  · refine (ftake_had f tr t A c H q k (H.length - 1) b x y w hG hGn m (by omega) hk hp hl hq).mono ?_
    rintro e w' ⟨rfl, t2, H', m', hm, O, hs⟩
    exact ⟨rfl, _, ⟨tr, t2, A, c, H', rfl, m', del_up u, perm_of m'.fi (del_up u) (fun x => by rw [hm, del_mem, pm.mem_iff])⟩, O, hs⟩
  · refine (ftake_not f tr t A c H q w hG m hrows hq).mono ?_
    rintro e w' ⟨rfl, kW⟩
    have e1 : delH q L = L := by
      unfold delH
      rw [List.filter_eq_self]
      intro e he
      simpa using hno e (pm.mem_iff.2 he)
    refine ⟨rfl, ?_⟩
    rw [e1]
    exact FT.of_kp ⟨tr, t, A, c, H, rfl, m, u, pm⟩ kW

/-- A route's cells. -/
def rtC (q : Pn) (s m l fc : Int) (x : Nat) (d : Int) (ch : Bool) : Array Value := #[.int .u32 q.a, .int .i64 q.l, .int .i64 s, .int .i64 m, .int .i64 l, .int .i64 fc, .int .u32 x, .int .i64 d, .bool ch]

set_option maxRecDepth 100000 in
set_option maxHeartbeats 1000000 in
theorem come1_any (c2 c3 f : Nat) (F : List Nat) (L : List Hp) (q : Pn) (s m l fc : Int) (x : Nat) (d : Int) (ch : Bool) (w : World) (hG : RelsAt w) (hM : FM w f F L) (hq : q.ok) (B2 : Blk w c2 31 #[.pointer (some ⟨f, 0, none⟩)]) (B3 : Blk w c3 29 (rtC q s m l fc x d ch)) :
    Calls Tryz.prog 41 #[.pointer (some ⟨c2, 0, none⟩), .pointer (some ⟨c3, 0, none⟩)] w (PutAny w f F L ⟨q, s == 1, fc, x, m⟩) := by
  have HG := Lib.hid hG
  have HM := Lib.hid hM
  have Hq := Lib.hid hq
  have a0 : w.cell? ⟨c2, 0, none⟩ = some (.pointer (some ⟨f, 0, none⟩)) := B2.cell 0
  have r0 : w.cell? ⟨c3, 0, none⟩ = some (.int .u32 q.a) := B3.cell 0
  have r1 : w.cell? ⟨c3, 1, none⟩ = some (.int .i64 q.l) := B3.cell 1
  have r2 : w.cell? ⟨c3, 2, none⟩ = some (.int .i64 s) := B3.cell 2
  have r3 : w.cell? ⟨c3, 3, none⟩ = some (.int .i64 m) := B3.cell 3
  have r5 : w.cell? ⟨c3, 5, none⟩ = some (.int .i64 fc) := B3.cell 5
  have r6 : w.cell? ⟨c3, 6, none⟩ = some (.int .u32 x) := B3.cell 6
  clear hG hM hq B2 B3
  go_enter Tryz.func41, Tryz.ntmps41
  go_wp2_with fail
  refine (fput_any f F L ⟨q, s == 1, fc, x, m⟩ _ HG.out HM.out Hq.out).mono ?_
  rintro e w' ⟨rfl, hT⟩
  have HT := Lib.hid hT; clear hT
  go_wp2_with fail
  go_ret
  exact ⟨rfl, HT.out⟩
set_option maxRecDepth 100000 in
set_option maxHeartbeats 1000000 in
theorem come2_any (c2 c3 f : Nat) (F : List Nat) (L : List Hp) (q : Pn) (s m l fc : Int) (x : Nat) (d : Int) (ch : Bool) (w : World) (hG : RelsAt w) (hGn : 0 ∉ F) (hM : FM w f F L) (hq : q.ok) (B2 : Blk w c2 31 #[.pointer (some ⟨f, 0, none⟩)]) (B3 : Blk w c3 29 (rtC q s m l fc x d ch)) :
    Calls Tryz.prog 43 #[.pointer (some ⟨c2, 0, none⟩), .pointer (some ⟨c3, 0, none⟩)] w (TakeAny w f F L q) := by
  have HG := Lib.hid hG
  have HGn := Lib.hid hGn
  have HM := Lib.hid hM
  have Hq := Lib.hid hq
  have a0 : w.cell? ⟨c2, 0, none⟩ = some (.pointer (some ⟨f, 0, none⟩)) := B2.cell 0
  have r0 : w.cell? ⟨c3, 0, none⟩ = some (.int .u32 q.a) := B3.cell 0
  have r1 : w.cell? ⟨c3, 1, none⟩ = some (.int .i64 q.l) := B3.cell 1
  clear hG hM hq B2 B3 hGn
  go_enter Tryz.func43, Tryz.ntmps43
  go_wp2_with fail
  refine (ftake_any f F L q _ HG.out HGn.out HM.out Hq.out).mono ?_
  rintro e w' ⟨rfl, hT⟩
  have HT := Lib.hid hT; clear hT
  go_wp2_with fail
  go_ret
  exact ⟨rfl, HT.out⟩
end Go.Proofs.YtfaiponmjjbgoaaGreatDoor

/- A table of hops, as routes come to it: come, Come. -/
namespace Go.Proofs.YtfaiponmjjbgoaaGreatDoor
open Go.RowKit
attribute [local go_sem] Oper.semAt_some

def Rt.hop (r : Rt) : Hp := ⟨r.p.pn, r.s == 1, r.f, r.x, r.m⟩
def comeE (r : Rt) (L : List Hp) : Int := if checkR r = 0 then (if r.s = 1 ∨ r.s = 2 then putE r.hop L else 0) else 2
def comeL (r : Rt) (L : List Hp) : List Hp := if checkR r = 0 then (if r.s = 1 ∨ r.s = 2 then putL r.hop L else delH r.p.pn L) else L
def ComeP (w : World) (f : Nat) (F : List Nat) (L : List Hp) (r : Rt) (e : Ending) (w' : World) : Prop := e = .returned (.int .i64 (comeE r L)) ∧ FT w w' f F (comeL r L)
theorem check_range (r : Rt) : checkR r = 0 ∨ checkR r = 2 := by unfold checkR; split <;> simp
theorem check_zero {r : Rt} (h : checkR r = 0) : (r.s = 0 ∨ r.s = 1 ∨ r.s = 2 ∨ r.s = 3 ∨ r.s = 4) ∧ r.p.okB = true := by
  unfold checkR at h
  split at h
  · rename_i h1
    rw [Bool.and_eq_true] at h1
    constructor
    · have h2 := h1.1
      unfold stateB at h2
      split at h2
      · exact .inl (by assumption)
      split at h2
      · exact .inr (.inl (by assumption))
      split at h2
      · exact .inr (.inr (.inl (by assumption)))
      split at h2
      · exact .inr (.inr (.inr (.inl (by assumption))))
      split at h2
      · exact .inr (.inr (.inr (.inr (by assumption))))
      cases h2
    · have h2 := h1.2
      unfold toldB at h2
      rw [Bool.and_eq_true] at h2
      exact h2.1
  · omega
theorem call_c1 (args : Array Value) (w : World) : (callFunc 41 args).run Tryz.prog w = .ok (.enter 41 args) w := by kernel_rfl
theorem call_c2 (args : Array Value) (w : World) : (callFunc 43 args).run Tryz.prog w = .ok (.enter 43 args) w := by kernel_rfl

set_option maxRecDepth 100000 in
set_option maxHeartbeats 1000000 in
theorem come_bad (f : Nat) (r : Rt) (w : World) (ha : r.p.a < 4294967296) (hx : r.x < 4294967296) (hc : checkR r = 2) :
    Calls Tryz.prog 27 #[.pointer (some ⟨f, 0, none⟩), .agg #[.int .u32 r.p.a, .int .i64 r.p.l, .int .i64 r.s, .int .i64 r.m, .int .i64 r.l, .int .i64 r.f, .int .u32 r.x, .int .i64 r.d, .bool r.c]] w fun e w' => e = .returned (.int .i64 2) ∧ Kp w w' := by
  have Hc := Lib.hid hc; clear hc
  have k1 : Kp w ((w.alloc (.cells #[.pointer (some ⟨f, 0, none⟩)] 31)).alloc (.cells #[.int .u32 r.p.a, .int .i64 r.p.l, .int .i64 r.s, .int .i64 r.m, .int .i64 r.l, .int .i64 r.f, .int .u32 r.x, .int .i64 r.d, .bool r.c] 29)) := ((Kp.refl _).alloc _).alloc _
  go_enter Tryz.func27, Tryz.ntmps27
  go_wp2_with fail
  refine (checkR_any r _ ha hx).mono ?_
  rintro e w1 ⟨rfl, hK⟩
  rw [Hc.out]
  go_wp2_with fail
  go_ret
  exact ⟨rfl, k1.trans hK⟩

set_option maxRecDepth 100000 in
set_option maxHeartbeats 1000000 in
theorem come_put (f : Nat) (F : List Nat) (L : List Hp) (q : Pn) (s m l fc : Int) (x : Nat) (d : Int) (ch : Bool) (w : World) (hG : RelsAt w) (hM : FM w f F L) (hq : q.ok) (hx : x < 4294967296) (hc : checkR ⟨q.pi, s, m, l, fc, x, d, ch⟩ = 0) (hs : s = 1 ∨ s = 2) :
    Calls Tryz.prog 27 #[.pointer (some ⟨f, 0, none⟩), .agg (rtC q s m l fc x d ch)] w (PutAny w f F L ⟨q, s == 1, fc, x, m⟩) := by
  have HG := Lib.hid hG
  have HM := Lib.hid hM
  have Hq := Lib.hid hq
  have Hc := Lib.hid hc
  have e1 := call_c1
  have e2 := call_c2
  obtain ⟨W, hW, k1, B2, B3⟩ : ∃ W, (w.alloc (.cells #[.pointer (some ⟨f, 0, none⟩)] 31)).alloc (.cells (rtC q s m l fc x d ch) 29) = W ∧ Kp w W ∧ Blk W w.heap.size 31 #[.pointer (some ⟨f, 0, none⟩)] ∧ Blk W (w.heap.size + 1) 29 (rtC q s m l fc x d ch) := ⟨_, rfl, ((Kp.refl _).alloc _).alloc _, (Blk.new w _ _).alloc _, Blk.new1 w _ _ _⟩
  have y0 : W.cell? ⟨w.heap.size + 1, 0, none⟩ = some (.int .u32 q.a) := B3.cell 0
  have y1 : W.cell? ⟨w.heap.size + 1, 1, none⟩ = some (.int .i64 q.l) := B3.cell 1
  have y2 : W.cell? ⟨w.heap.size + 1, 2, none⟩ = some (.int .i64 s) := B3.cell 2
  have y3 : W.cell? ⟨w.heap.size + 1, 3, none⟩ = some (.int .i64 m) := B3.cell 3
  have y4 : W.cell? ⟨w.heap.size + 1, 4, none⟩ = some (.int .i64 l) := B3.cell 4
  have y5 : W.cell? ⟨w.heap.size + 1, 5, none⟩ = some (.int .i64 fc) := B3.cell 5
  have y6 : W.cell? ⟨w.heap.size + 1, 6, none⟩ = some (.int .u32 x) := B3.cell 6
  have y7 : W.cell? ⟨w.heap.size + 1, 7, none⟩ = some (.int .i64 d) := B3.cell 7
  have y8 : W.cell? ⟨w.heap.size + 1, 8, none⟩ = some (.bool ch) := B3.cell 8
  unfold rtC at hW ⊢
  clear hG hM hq hc
  go_enter Tryz.func27, Tryz.ntmps27
  go_wp2_with fail
  refine (checkR_any ⟨q.pi, s, m, l, fc, x, d, ch⟩ _ Hq.out.1 hx).mono ?_
  rintro e w1 ⟨rfl, hK⟩
  rw [Hc.out]
  have B2' := B2.keep hK
  have B3' := B3.keep hK
  have kw := k1.trans hK
  clear hW hK y0 y1 y2 y3 y4 y5 y6 y7 y8
  have r2 : w1.cell? ⟨w.heap.size + 1, 2, none⟩ = some (.int .i64 s) := B3'.cell 2
  have r2' : ∀ o, (w1.alloc o).cell? ⟨w.heap.size + 1, 2, none⟩ = some (.int .i64 s) := fun o => (B3'.alloc o).cell 2
  have hl := B3'.lt
  have ha : ∀ o, Kp w1 (w1.alloc o) := fun o => (Kp.refl _).alloc o
  rcases hs with rfl | rfl
  all_goals
    go_wp2_with fail
    refine (come1_any (w.heap.size) (w.heap.size + 1) f F L q _ m l fc x d ch _ (HG.out.keep (kw.trans (ha _))) (HM.out.keep (kw.trans (ha _))) Hq.out (B2'.keep (ha _)) (B3'.keep (ha _))).mono ?_
    rintro e w2 ⟨rfl, hT⟩
    have HT := Lib.hid hT; clear hT
    go_wp2_with fail
    go_ret
    exact ⟨rfl, HT.out.keep (kw.trans (ha _))⟩

set_option maxRecDepth 100000 in
set_option maxHeartbeats 1000000 in
theorem come_take (f : Nat) (F : List Nat) (L : List Hp) (q : Pn) (s m l fc : Int) (x : Nat) (d : Int) (ch : Bool) (w : World) (hG : RelsAt w) (hGn : 0 ∉ F) (hM : FM w f F L) (hq : q.ok) (hx : x < 4294967296) (hc : checkR ⟨q.pi, s, m, l, fc, x, d, ch⟩ = 0) (hs : s = 0 ∨ s = 3 ∨ s = 4) :
    Calls Tryz.prog 27 #[.pointer (some ⟨f, 0, none⟩), .agg (rtC q s m l fc x d ch)] w (TakeAny w f F L q) := by
  have HG := Lib.hid hG
  have HGn := Lib.hid hGn
  have HM := Lib.hid hM
  have Hq := Lib.hid hq
  have Hc := Lib.hid hc
  have e1 := call_c1
  have e2 := call_c2
  obtain ⟨W, hW, k1, B2, B3⟩ : ∃ W, (w.alloc (.cells #[.pointer (some ⟨f, 0, none⟩)] 31)).alloc (.cells (rtC q s m l fc x d ch) 29) = W ∧ Kp w W ∧ Blk W w.heap.size 31 #[.pointer (some ⟨f, 0, none⟩)] ∧ Blk W (w.heap.size + 1) 29 (rtC q s m l fc x d ch) := ⟨_, rfl, ((Kp.refl _).alloc _).alloc _, (Blk.new w _ _).alloc _, Blk.new1 w _ _ _⟩
  have y0 : W.cell? ⟨w.heap.size + 1, 0, none⟩ = some (.int .u32 q.a) := B3.cell 0
  have y1 : W.cell? ⟨w.heap.size + 1, 1, none⟩ = some (.int .i64 q.l) := B3.cell 1
  have y2 : W.cell? ⟨w.heap.size + 1, 2, none⟩ = some (.int .i64 s) := B3.cell 2
  have y3 : W.cell? ⟨w.heap.size + 1, 3, none⟩ = some (.int .i64 m) := B3.cell 3
  have y4 : W.cell? ⟨w.heap.size + 1, 4, none⟩ = some (.int .i64 l) := B3.cell 4
  have y5 : W.cell? ⟨w.heap.size + 1, 5, none⟩ = some (.int .i64 fc) := B3.cell 5
  have y6 : W.cell? ⟨w.heap.size + 1, 6, none⟩ = some (.int .u32 x) := B3.cell 6
  have y7 : W.cell? ⟨w.heap.size + 1, 7, none⟩ = some (.int .i64 d) := B3.cell 7
  have y8 : W.cell? ⟨w.heap.size + 1, 8, none⟩ = some (.bool ch) := B3.cell 8
  unfold rtC at hW ⊢
  clear hG hM hq hc hGn
  go_enter Tryz.func27, Tryz.ntmps27
  go_wp2_with fail
  refine (checkR_any ⟨q.pi, s, m, l, fc, x, d, ch⟩ _ Hq.out.1 hx).mono ?_
  rintro e w1 ⟨rfl, hK⟩
  rw [Hc.out]
  have B2' := B2.keep hK
  have B3' := B3.keep hK
  have kw := k1.trans hK
  clear hW hK y0 y1 y2 y3 y4 y5 y6 y7 y8
  have r2 : w1.cell? ⟨w.heap.size + 1, 2, none⟩ = some (.int .i64 s) := B3'.cell 2
  have r2' : ∀ o, (w1.alloc o).cell? ⟨w.heap.size + 1, 2, none⟩ = some (.int .i64 s) := fun o => (B3'.alloc o).cell 2
  have hl := B3'.lt
  have ha : ∀ o, Kp w1 (w1.alloc o) := fun o => (Kp.refl _).alloc o
  rcases hs with rfl | rfl | rfl
  all_goals
    go_wp2_with fail
    refine (come2_any (w.heap.size) (w.heap.size + 1) f F L q _ m l fc x d ch _ (HG.out.keep (kw.trans (ha _))) HGn.out (HM.out.keep (kw.trans (ha _))) Hq.out (B2'.keep (ha _)) (B3'.keep (ha _))).mono ?_
    rintro e w2 ⟨rfl, hT⟩
    have HT := Lib.hid hT; clear hT
    go_wp2_with fail
    go_ret
    exact ⟨rfl, HT.out.keep (kw.trans (ha _))⟩

theorem come_any (f : Nat) (F : List Nat) (L : List Hp) (r : Rt) (w : World) (hG : RelsAt w) (hGn : 0 ∉ F) (hM : FM w f F L) (ha : r.p.a < 4294967296) (hx : r.x < 4294967296) :
    Calls Tryz.prog 27 #[.pointer (some ⟨f, 0, none⟩), .agg #[.int .u32 r.p.a, .int .i64 r.p.l, .int .i64 r.s, .int .i64 r.m, .int .i64 r.l, .int .i64 r.f, .int .u32 r.x, .int .i64 r.d, .bool r.c]] w (ComeP w f F L r) := by
  rcases check_range r with hc | hc
  · obtain ⟨hs, hok⟩ := check_zero hc
    obtain ⟨hq, hl⟩ := pn_ok hok ha
    obtain ⟨p, s, m, l, fc, x, d, ch⟩ := r
    simp only at *
    have ep : p = p.pn.pi := by cases p; simp only [Pn.pi, PI.pn] at *; rw [hl]; simp
    by_cases h12 : s = 1 ∨ s = 2
    · rw [ep] at hc
      have := come_put f F L p.pn s m l fc x d ch w hG hM hq hx hc h12
      unfold rtC at this
      rw [← hl] at this
      refine this.mono ?_
      rintro e w' ⟨rfl, hT⟩
      rw [← ep] at hc
      exact ⟨by simp only [comeE, hc, h12, if_true, Rt.hop], by simp only [comeL, hc, h12, if_true, Rt.hop]; exact hT⟩
    · rw [ep] at hc
      have := come_take f F L p.pn s m l fc x d ch w hG hGn hM hq hx hc (by omega)
      unfold rtC at this
      rw [← hl] at this
      refine this.mono ?_
      rintro e w' ⟨rfl, hT⟩
      rw [← ep] at hc
      exact ⟨by simp only [comeE, hc, h12, if_true, if_false], by simp only [comeL, hc, h12, if_true, if_false]; exact hT⟩
  · refine (come_bad f r w ha hx hc).mono ?_
    rintro e w' ⟨rfl, hK⟩
    refine ⟨by simp [comeE, hc], ?_⟩
    have : comeL r L = L := by simp [comeL, hc]
    rw [this]
    exact FT.of_kp hM hK
end Go.Proofs.YtfaiponmjjbgoaaGreatDoor

/- A table of hops, as routes come to it: Come. -/
namespace Go.Proofs.YtfaiponmjjbgoaaGreatDoor
open Go.RowKit
attribute [local go_sem] Oper.semAt_some

def runL : List Rt → List Hp → List Hp
  | [], L => L
  | r :: rs, L => if comeE r L = 0 then runL rs (comeL r L) else L
def runN : List Rt → List Hp → Nat
  | [], _ => 0
  | r :: rs, L => if comeE r L = 0 then runN rs (comeL r L) + 1 else 0
def runE : List Rt → List Hp → Int
  | [], _ => 0
  | r :: rs, L => if comeE r L = 0 then runE rs (comeL r L) else comeE r L
theorem come_err {r : Rt} {L : List Hp} (h : comeE r L ≠ 0) : comeL r L = L := by
  unfold comeE at h
  unfold comeL
  by_cases h1 : checkR r = 0
  · by_cases h2 : r.s = 1 ∨ r.s = 2
    · rw [if_pos h1, if_pos h2] at h
      rw [if_pos h1, if_pos h2]
      unfold putE at h
      unfold putL
      split at h
      · exact absurd rfl h
      · rename_i h3; rw [if_neg h3]
    · rw [if_pos h1, if_neg h2] at h; exact absurd rfl h
  · rw [if_neg h1]
theorem come_range (r : Rt) (L : List Hp) : comeE r L = 0 ∨ comeE r L = 2 ∨ comeE r L = 3 := by
  unfold comeE putE
  split
  · split
    · split <;> simp
    · simp
  · simp
/-- How far routes have come. -/
def RunAt (rs : List Rt) (L : List Hp) (k : Nat) (Lk : List Hp) : Prop := runL rs L = runL (rs.drop k) Lk ∧ runN rs L = k + runN (rs.drop k) Lk ∧ runE rs L = runE (rs.drop k) Lk
theorem RunAt.start (rs : List Rt) (L : List Hp) : RunAt rs L 0 L := ⟨rfl, by simp, rfl⟩
theorem RunAt.step {rs : List Rt} {L Lk : List Hp} {k : Nat} (h : RunAt rs L k Lk) (hk : k < rs.length) (he : comeE rs[k] Lk = 0) : RunAt rs L (k + 1) (comeL rs[k] Lk) := by
  unfold RunAt at *
  rw [List.drop_eq_getElem_cons hk] at h
  simp only [runL, runN, runE, he, if_true] at h
  exact ⟨h.1, by omega, h.2.2⟩
theorem RunAt.stop {rs : List Rt} {L Lk : List Hp} {k : Nat} (h : RunAt rs L k Lk) (hk : k < rs.length) (he : comeE rs[k] Lk ≠ 0) : runL rs L = Lk ∧ runN rs L = k ∧ runE rs L = comeE rs[k] Lk := by
  unfold RunAt at *
  rw [List.drop_eq_getElem_cons hk] at h
  simp only [runL, runN, runE, he, if_false] at h
  exact ⟨h.1, by omega, h.2.2⟩
theorem RunAt.done {rs : List Rt} {L Lk : List Hp} (h : RunAt rs L rs.length Lk) : runL rs L = Lk ∧ runN rs L = rs.length ∧ runE rs L = 0 := by
  unfold RunAt at *
  rw [List.drop_length] at h
  exact ⟨h.1, by simpa [runN] using h.2.1, h.2.2⟩

theorem rt_at {w : World} {A : Option Addr} {rs : List Rt} (h : Rd w 9 Rt.enc A rs) {k : Nat} (hk : k < rs.length) :
    ∃ b off : Nat, A = some ⟨b, off, none⟩ ∧ w.cell? ⟨b, off + k * 9, none⟩ = some (.int .u32 rs[k].p.a) ∧ w.cell? ⟨b, off + k * 9 + 1, none⟩ = some (.int .i64 rs[k].p.l) ∧ w.cell? ⟨b, off + k * 9 + 2, none⟩ = some (.int .i64 rs[k].s) ∧ w.cell? ⟨b, off + k * 9 + 3, none⟩ = some (.int .i64 rs[k].m) ∧ w.cell? ⟨b, off + k * 9 + 4, none⟩ = some (.int .i64 rs[k].l) ∧ w.cell? ⟨b, off + k * 9 + 5, none⟩ = some (.int .i64 rs[k].f) ∧ w.cell? ⟨b, off + k * 9 + 6, none⟩ = some (.int .u32 rs[k].x) ∧ w.cell? ⟨b, off + k * 9 + 7, none⟩ = some (.int .i64 rs[k].d) ∧ w.cell? ⟨b, off + k * 9 + 8, none⟩ = some (.bool rs[k].c) := by
  obtain ⟨b, off, e, hc⟩ := h k hk
  exact ⟨b, off, e, hc 0 _ rfl, hc 1 _ rfl, hc 2 _ rfl, hc 3 _ rfl, hc 4 _ rfl, hc 5 _ rfl, hc 6 _ rfl, hc 7 _ rfl, hc 8 _ rfl⟩
theorem Rd.lt {α : Type} {w : World} {sz : Nat} {enc : α → List Value} {A : Option Addr} {xs : List α} (h : Rd w sz enc A xs) (hs : 0 < xs.length) (hz : ∀ x, enc x ≠ []) : ∀ a, A = some a → a.block < w.heap.size := by
  intro a ha
  obtain ⟨b, off, e, hc⟩ := h 0 hs
  rw [e] at ha
  injection ha with ha
  subst ha
  cases he : enc xs[0] with
  | nil => exact absurd he (hz _)
  | cons u us => have := hc 0 u (by rw [he]; rfl); simp only [Nat.zero_mul, Nat.add_zero] at this; exact World.block_lt_of_cell? w _ this
/-- Routes that may lie in memory. -/
def Rt.fits (r : Rt) : Prop := r.p.a < 4294967296 ∧ r.x < 4294967296
def RunP (w : World) (f : Nat) (F : List Nat) (L : List Hp) (rs : List Rt) (e : Ending) (w' : World) : Prop := e = .returned (.tuple #[.int .i64 (runN rs L), .int .i64 (runE rs L)]) ∧ FT w w' f F (runL rs L)
def RunI (w : World) (f : Nat) (F : List Nat) (L : List Hp) (rs : List Rt) (k : Nat) (W : World) : Prop := ∃ Lk, RunAt rs L k Lk ∧ FT w W f F Lk
theorem rels_lt {w : World} (h : RelsAt w) : 0 < w.heap.size := World.block_lt_of_cell? w _ h.1
theorem FM.none {w : World} {f : Nat} {F : List Nat} {L : List Hp} (h : FM w f F L) : ∃ tr x, Blk w f 69 #[.pointer (some ⟨tr, 0, none⟩), x] := by
  obtain ⟨tr, t, A, c, H, _, m, _⟩ := h
  exact ⟨tr, _, m.blk⟩

set_option maxRecDepth 100000 in
set_option maxHeartbeats 2000000 in
theorem Come_any (f : Nat) (F : List Nat) (L : List Hp) (rs : List Rt) (A : Option Addr) (c : Nat) (w : World) (hG : RelsAt w) (hGn : 0 ∉ F) (hM : FM w f F L) (hR : Rd w 9 Rt.enc A rs) (hA : 0 < rs.length → ∀ a, A = some a → a.block ∉ F) (hn : rs.length ≤ 1000000) (hfit : ∀ r ∈ rs, r.fits) :
    Calls Tryz.prog 8 #[.pointer (some ⟨f, 0, none⟩), .slice A rs.length c] w (RunP w f F L rs) := by
  obtain ⟨tr, x, hB⟩ := hM.none
  have HB := Lib.hid hB
  have HG := Lib.hid hG
  have HGn := Lib.hid hGn
  have HM := Lib.hid hM
  have HR := Lib.hid hR
  have HA := Lib.hid hA
  have Hfit := Lib.hid hfit
  clear hG hGn hM hR hA hfit hB
  go_enter Tryz.func8, Tryz.ntmps8
  go_wp2_with fail
  refine wp_scope_fwd 0 rfl ?_
  go_wp2_with fail
  refine (fnone_any f tr x _ HB.out).mono ?_
  rintro e w' ⟨rfl, rfl⟩
  go_wp2_with fail
  go_loopw [14, 6, 7] (fun i n e wr => ∃ k : Nat, k ≤ rs.length ∧ i = .int .i64 k ∧ n = .int .i64 k ∧ (∃ z : Int, e = .int .i64 z) ∧ RunI w f F L rs k wr) (fun i _ _ _ => rs.length - (intOf i).toNat)
  case atStart => exact ⟨0, Nat.zero_le _, rfl, rfl, ⟨1, rfl⟩, L, RunAt.start rs L, FT.of_kp HM.out (Kp.refl _)⟩
  case round =>
    obtain ⟨k, hk, rfl, rfl, ⟨z, rfl⟩, Lk, hrun, F', hM', hO', hs'⟩ := hrel
    have Hrun := Lib.hid hrun
    have HM' := Lib.hid hM'
    have Hs' := Lib.hid hs'
    clear hrun hM' hs'
    by_cases hlt : k < rs.length
    · have hrt := rt_at HR.out hlt
      obtain ⟨b, off, rfl, c0, c1, c2, c3, c4, c5, c6, c7, c8⟩ := hrt
      have hbF : b ∉ F := HA.out (by omega) _ rfl
      have x0 := hO'.cell c0 hbF
      have x1 := hO'.cell c1 hbF
      have x2 := hO'.cell c2 hbF
      have x3 := hO'.cell c3 hbF
      have x4 := hO'.cell c4 hbF
      have x5 := hO'.cell c5 hbF
      have x6 := hO'.cell c6 hbF
      have x7 := hO'.cell c7 hbF
      have x8 := hO'.cell c8 hbF
      clear c0 c1 c2 c3 c4 c5 c6 c7 c8
      have HbF := Lib.hid hbF; clear hbF
      obtain ⟨r, hr⟩ : ∃ r, rs[k] = r := ⟨_, rfl⟩
      rw [hr] at x0 x1 x2 x3 x4 x5 x6 x7 x8
      have Hr := Lib.hid hr; clear hr
      have hrf := Hfit.out r (by rw [← Hr.out]; exact List.getElem_mem _)
      have Hrf := Lib.hid hrf; clear hrf
      have hGn' : 0 ∉ F' := fun hc => by
        rcases Hs'.out _ hc with e | e
        · exact HGn.out e
        · have := rels_lt HG.out; omega
      have HGn' := Lib.hid hGn'; clear hGn'
      have HG' := Lib.hid (HG.out.only hO' HGn.out)
      have ha : ∀ o, Kp wr (wr.alloc o) := fun o => (Kp.refl _).alloc o
      go_wp2_with fail
      refine (come_any f F' Lk r _ (HG'.out.keep (ha _)) HGn'.out (HM'.out.keep (ha _)) Hrf.out.1 Hrf.out.2).mono ?_
      rintro e w2 ⟨rfl, hT⟩
      have hT2 : FT w w2 f F (comeL r Lk) := FT.trans hO' Hs'.out (hT.keep (ha _))
      have HT2 := Lib.hid hT2; clear hT2 hT
      by_cases he : comeE r Lk = 0
      · have hrun2 := Hrun.out.step hlt (by rw [Hr.out]; exact he)
        rw [Hr.out] at hrun2
        have Hrun2 := Lib.hid hrun2; clear hrun2
        rw [he]
        have He := Lib.hid he; clear he
        go_wp2_with fail
        go_roundw
        case rel => exact ⟨k + 1, by omega, by go_num, by go_num, ⟨0, rfl⟩, _, Hrun2.out, HT2.out⟩
        case measure => simp [intOf]; omega
      · obtain ⟨s1, s2, s3⟩ := Hrun.out.stop hlt (by rw [Hr.out]; exact he)
        rw [Hr.out] at s3
        have hcl := come_err he
        have Hcl := Lib.hid hcl; clear hcl
        have hne : (comeE r Lk != 0) = true := by simpa using he
        have hne2 : (comeE r Lk == 0) = false := by simpa using he
        have HS1 := Lib.hid s1
        have HS2 := Lib.hid s2
        have HS3 := Lib.hid s3
        clear s1 s2 s3 he
        obtain ⟨ee, hee⟩ : ∃ ee, comeE r Lk = ee := ⟨_, rfl⟩
        rw [hee] at hne hne2 ⊢
        have Hee := Lib.hid hee; clear hee
        go_wp2_with fail
        go_step3
        refine ⟨rfl, ?_⟩
        go_wp2_with fail
        refine noGoto_ret ?_
        refine bodyPost_ret (v := .tuple #[.int .i64 k, .int .i64 ee]) (by simp [results, Tryz.results8, go_sem]) rfl ⟨?_, ?_⟩
        · rw [HS2.out, HS3.out, Hee.out]
        · rw [HS1.out]
          have := HT2.out
          rw [Hcl.out] at this
          exact this
    · have hke : k = rs.length := by omega
      subst hke
      obtain ⟨s1, s2, s3⟩ := Hrun.out.done
      have HS1 := Lib.hid s1
      have HS2 := Lib.hid s2
      have HS3 := Lib.hid s3
      clear s1 s2 s3
      go_wp2_with fail
      refine jump_ret ?_
      refine bodyPost_ret (v := .tuple #[.int .i64 rs.length, .int .i64 0]) (by simp [results, Tryz.results8, go_sem]) rfl ⟨?_, ?_⟩
      · rw [HS2.out, HS3.out]
      · rw [HS1.out]; exact ⟨F', HM'.out, hO', Hs'.out⟩
end Go.Proofs.YtfaiponmjjbgoaaGreatDoor

/- A table of hops: Find. -/
namespace Go.Proofs.YtfaiponmjjbgoaaGreatDoor
open Go.RowKit
attribute [local go_sem] Oper.semAt_some

def hop0 : Hp := ⟨⟨0, 0⟩, false, 0, 0, 0⟩
def findL (a : Nat) (L : List Hp) : List Hp := L.filter (fun e => decide (e.p.holds ⟨a, 32⟩))
def foundH (a : Nat) (L : List Hp) : Hp × Bool := match (findL a L).getLast? with
  | some h => (h, true)
  | none => (hop0, false)

theorem found_at {t : Tr} {H L : List Hp} {a : Nat} (ha : a < 4294967296) (h : FI t H) (u : Up L) (pm : H.Perm L) : (foundT (aboveT ⟨a, 32⟩ t) = ((⟨0, 0⟩, 0), false) ∧ foundH a L = (hop0, false)) ∨ ∃ (k : Nat) (hk : k < H.length), foundT (aboveT ⟨a, 32⟩ t) = ((H[k].p, (k : Int)), true) ∧ foundH a L = (H[k], true) := by
  have hq : (⟨a, 32⟩ : Pn).ok := ⟨ha, Nat.le_refl _, cut_32 a⟩
  have hall := above_all hq h.wf
  have hin : ∀ e ∈ findL a L, ∃ i, (e.p, i) ∈ aboveT ⟨a, 32⟩ t := fun e he => by
    obtain ⟨h1, h2⟩ := List.mem_filter.1 he
    obtain ⟨k, hk, rfl⟩ := List.getElem_of_mem (pm.mem_iff.2 h1)
    exact ⟨k, by rw [hall, List.mem_filter]; exact ⟨(h.rows _ _).2 ⟨k, hk, rfl, rfl⟩, h2⟩⟩
  have hup : (aboveT ⟨a, 32⟩ t).Pairwise (fun r s => r.1.lt s.1) := by rw [hall]; exact List.Pairwise.filter _ (rows_rise h.wf)
  have hfu : (findL a L).Pairwise (fun r s => r.p.lt s.p) := List.Pairwise.filter _ u
  rcases List.eq_nil_or_concat (aboveT ⟨a, 32⟩ t) with e | ⟨l', r, e⟩
  · left
    have h0 : findL a L = [] := List.eq_nil_iff_forall_not_mem.2 (fun x hx => by
      obtain ⟨i, hi⟩ := hin x hx
      rw [e] at hi; cases hi)
    exact ⟨by rw [e]; rfl, by simp [foundH, h0]⟩
  · right
    rw [List.concat_eq_append] at e
    have hr : r ∈ aboveT ⟨a, 32⟩ t := by rw [e]; simp
    rw [hall, List.mem_filter] at hr
    obtain ⟨k, hk, hi, hp⟩ := (h.rows r.1 r.2).1 hr.1
    refine ⟨k, hk, by rw [e]; simp [foundT]; exact Prod.ext hp.symm hi, ?_⟩
    have hmem : H[k] ∈ findL a L := List.mem_filter.2 ⟨pm.mem_iff.1 (List.getElem_mem hk), by rw [hp]; exact hr.2⟩
    rcases List.eq_nil_or_concat (findL a L) with e2 | ⟨f', z, e2⟩
    · rw [e2] at hmem; cases hmem
    · rw [List.concat_eq_append] at e2
      have hz : z = H[k] := by
        rw [e2] at hmem hfu
        rcases List.mem_append.1 hmem with h1 | h1
        · have h2 : (H[k]).p.lt z.p := (List.pairwise_append.1 hfu).2.2 _ h1 z (by simp)
          obtain ⟨i, h3⟩ := hin z (by rw [e2]; simp)
          rw [e] at h3 hup
          rcases List.mem_append.1 h3 with h4 | h4
          · have h5 : z.p.lt r.1 := (List.pairwise_append.1 hup).2.2 _ h4 r (by simp)
            rw [← hp] at h5
            exact absurd (lt_trans h2 h5) (lt_irrefl _)
          · simp only [List.mem_singleton] at h4
            have h5 : z.p = r.1 := by rw [← h4]
            rw [h5, ← hp] at h2
            exact absurd h2 (lt_irrefl _)
        · simp only [List.mem_singleton] at h1; exact h1.symm
      simp [foundH, e2, hz]

set_option maxRecDepth 100000 in
set_option maxHeartbeats 1000000 in
theorem klong_any (tr a : Nat) (many : Int) (t : Tr) (w : World) (hG : RelsAt w) (hT : TrieM w tr t many) (ha : a < 4294967296) :
    Calls Tryz.prog 33 #[.agg #[.pointer (some ⟨tr, 0, none⟩)], .int .u32 a] w fun e w' => e = .returned (.tuple #[.int .i64 (foundT (aboveT ⟨a, 32⟩ t)).1.2, .bool (foundT (aboveT ⟨a, 32⟩ t)).2]) ∧ Kp w w' := by
  have HT := Lib.hid hT
  have HG := Lib.hid hG
  clear hT hG
  obtain ⟨g, hg⟩ : ∃ g, foundT (aboveT ⟨a, 32⟩ t) = g := ⟨_, rfl⟩
  rw [hg]
  have Hg := Lib.hid hg; clear hg
  go_enter Tryz.func33, Tryz.ntmps33
  go_wp2_with fail
  have k1 : Kp w (w.alloc (.cells #[.pointer (some ⟨tr, 0, none⟩)] 67)) := (Kp.refl _).alloc _
  refine (find_any tr a many t _ (HG.out.keep k1) (HT.out.blk.keep k1) (HT.out.tm.keep k1) HT.out.wf ha).mono ?_
  rintro e w1 ⟨rfl, hK⟩
  rw [Hg.out]
  go_wp2_with fail
  go_ret2
  exact ⟨rfl, (k1.trans hK).alloc _⟩

theorem Blk.set6 {w : World} {g t : Nat} {cs : Array Value} (h : Blk w g t cs) (o : Nat) (y : Hp) {c0 c1 c2 c3 c4 c5 : Value} (hc : cs = #[c0, c1, c2, c3, c4, c5]) : Blk (set6 w g 0 y) g t #[.int .u32 y.p.a, .int .i64 y.p.l, .bool y.d, .int .i64 y.f, .int .u32 y.x, .int .i64 y.m] := by
  subst hc
  exact (((((h.set_ 0 (.int .u32 y.p.a)).set_ 1 (.int .i64 y.p.l)).set_ 2 (.bool y.d)).set_ 3 (.int .i64 y.f)).set_ 4 (.int .u32 y.x)).set_ 5 (.int .i64 y.m)
theorem Kp.set6 {w w1 : World} (k : Kp w w1) (o : Nat) (y : Hp) : Kp w (set6 w1 w.heap.size o y) := (((((k.setCell (Nat.le_refl _) _).setCell (Nat.le_refl _) _).setCell (Nat.le_refl _) _).setCell (Nat.le_refl _) _).setCell (Nat.le_refl _) _).setCell (Nat.le_refl _) _
def hopV (h : Hp) : Value := .agg #[.int .u32 h.p.a, .int .i64 h.p.l, .bool h.d, .int .i64 h.f, .int .u32 h.x, .int .i64 h.m]
def FindP (w : World) (r : Hp × Bool) (e : Ending) (w' : World) : Prop := e = .returned (.tuple #[hopV r.1, .bool r.2]) ∧ Kp w w'

set_option maxRecDepth 100000 in
set_option maxHeartbeats 2000000 in
theorem fFind_any (f : Nat) (F : List Nat) (L : List Hp) (a : Nat) (w : World) (hG : RelsAt w) (hM : FM w f F L) (ha : a < 4294967296) :
    Calls Tryz.prog 15 #[.pointer (some ⟨f, 0, none⟩), .int .u32 a] w (FindP w (foundH a L)) := by
  obtain ⟨tr, t, A, c, H, rfl, m, u, pm⟩ := hM
  have hcase := found_at ha m.fi u pm
  have hroom := m.room
  obtain ⟨W, hW, kW, B0⟩ : ∃ W, w.alloc (.cells #[.int .u32 0, .int .i64 0, .bool false, .int .i64 0, .int .u32 0, .int .i64 0] 53) = W ∧ Kp w W ∧ Blk W w.heap.size 53 #[.int .u32 0, .int .i64 0, .bool false, .int .i64 0, .int .u32 0, .int .i64 0] := ⟨_, rfl, (Kp.refl _).alloc _, Blk.new w _ _⟩
  have HM := Lib.hid (m.keep kW)
  have HG := Lib.hid (hG.keep kW)
  have Hcase := Lib.hid hcase
  clear m hG hcase
  go_enter Tryz.func15, Tryz.ntmps15
  go_wp2_with fail
  refine (fnone_any f tr _ _ HM.out.blk).mono ?_
  rintro e w' ⟨rfl, rfl⟩
  have f0 : W.cell? ⟨f, 0, none⟩ = some (.pointer (some ⟨tr, 0, none⟩)) := HM.out.blk.cell 0
  go_wp2_with fail
  refine (klong_any tr a _ t _ HG.out HM.out.trie ha).mono ?_
  rintro e w1 ⟨rfl, hK1⟩
  have B1 := B0.keep hK1
  have M1 := HM.out.keep hK1
  have k1 := kW.trans hK1
  have r0 : w1.cell? ⟨w.heap.size, 0, none⟩ = some (.int .u32 0) := B1.cell 0
  have r1 : w1.cell? ⟨w.heap.size, 1, none⟩ = some (.int .i64 0) := B1.cell 1
  have r2 : w1.cell? ⟨w.heap.size, 2, none⟩ = some (.bool false) := B1.cell 2
  have r3 : w1.cell? ⟨w.heap.size, 3, none⟩ = some (.int .i64 0) := B1.cell 3
  have r4 : w1.cell? ⟨w.heap.size, 4, none⟩ = some (.int .u32 0) := B1.cell 4
  have r5 : w1.cell? ⟨w.heap.size, 5, none⟩ = some (.int .i64 0) := B1.cell 5
  have z0 := B1.frozen 0
  have z1 := B1.frozen 1
  have z2 := B1.frozen 2
  have z3 := B1.frozen 3
  have z4 := B1.frozen 4
  have z5 := B1.frozen 5
  clear f0 hW
  rcases Hcase.out with ⟨h1, h2⟩ | ⟨k, hk, h1, h2⟩
  · rw [h1]
    have H2 := Lib.hid h2
    clear h1 h2
    go_wp2_with fail
    change bodyPost _ _ _ _ _ (set6 w1 w.heap.size 0 hop0)
    have R := B1.set6 0 hop0 rfl
    have kz : Kp w (set6 w1 w.heap.size 0 hop0) := k1.set6 _ _
    generalize set6 w1 w.heap.size 0 hop0 = Z at R kz ⊢
    have c0 : Z.cell? ⟨w.heap.size, 0, none⟩ = some (.int .u32 (hop0).p.a) := R.cell 0
    have c1 : Z.cell? ⟨w.heap.size, 1, none⟩ = some (.int .i64 (hop0).p.l) := R.cell 1
    have c2 : Z.cell? ⟨w.heap.size, 2, none⟩ = some (.bool (hop0).d) := R.cell 2
    have c3 : Z.cell? ⟨w.heap.size, 3, none⟩ = some (.int .i64 (hop0).f) := R.cell 3
    have c4 : Z.cell? ⟨w.heap.size, 4, none⟩ = some (.int .u32 (hop0).x) := R.cell 4
    have c5 : Z.cell? ⟨w.heap.size, 5, none⟩ = some (.int .i64 (hop0).m) := R.cell 5
    exact bodyPost_ret (v := .tuple #[hopV hop0, .bool false]) (by simp [results, Tryz.results15, go_sem, c0, c1, c2, c3, c4, c5, hopV]) rfl ⟨by rw [H2.out], kz⟩
  · rw [h1]
    have H2 := Lib.hid h2
    clear h1 h2
    obtain ⟨y, hy⟩ : ∃ y, H[k] = y := ⟨_, rfl⟩
    obtain ⟨b, off, rfl, g0, g1, g2, g3, g4, g5⟩ := hop_at (M1.own.rdAt (by decide) Hp.len) hk
    have f1 : w1.cell? ⟨f, 1, none⟩ = some (.slice (some ⟨b, off, none⟩) H.length c) := M1.blk.cell 1
    rw [hy] at g0 g1 g2 g3 g4 g5
    have Hy := Lib.hid hy; clear hy
    have HM1 := Lib.hid M1
    clear M1
    go_wp2_with fail
    change bodyPost _ _ _ _ _ (set6 w1 w.heap.size 0 y)
    have R := B1.set6 0 y rfl
    have kz : Kp w (set6 w1 w.heap.size 0 y) := k1.set6 _ _
    generalize set6 w1 w.heap.size 0 y = Z at R kz ⊢
    have c0 : Z.cell? ⟨w.heap.size, 0, none⟩ = some (.int .u32 (y).p.a) := R.cell 0
    have c1 : Z.cell? ⟨w.heap.size, 1, none⟩ = some (.int .i64 (y).p.l) := R.cell 1
    have c2 : Z.cell? ⟨w.heap.size, 2, none⟩ = some (.bool (y).d) := R.cell 2
    have c3 : Z.cell? ⟨w.heap.size, 3, none⟩ = some (.int .i64 (y).f) := R.cell 3
    have c4 : Z.cell? ⟨w.heap.size, 4, none⟩ = some (.int .u32 (y).x) := R.cell 4
    have c5 : Z.cell? ⟨w.heap.size, 5, none⟩ = some (.int .i64 (y).m) := R.cell 5
    exact bodyPost_ret (v := .tuple #[hopV y, .bool true]) (by simp [results, Tryz.results15, go_sem, c0, c1, c2, c3, c4, c5, hopV]) rfl ⟨by rw [H2.out, Hy.out], kz⟩
end Go.Proofs.YtfaiponmjjbgoaaGreatDoor

/- The hops of a table in the order of its tree's rows; the reference's numbers of bits and masks. No program in sight. -/
namespace Go.Proofs.YtfaiponmjjbgoaaGreatDoor

/-- The hops at the places of the tree's rows are the hops in order. -/
theorem sorted_hops {t : Tr} {H L : List Hp} (h : FI t H) (u : Up L) (pm : H.Perm L) : t.rows.map (fun r => H.getD r.2.toNat hop0) = L := by
  have key : ∀ r ∈ t.rows, (H.getD r.2.toNat hop0) ∈ H ∧ (H.getD r.2.toNat hop0).p = r.1 := fun r hr => by
    obtain ⟨k, hk, hi, hp⟩ := (h.rows r.1 r.2).1 hr
    rw [hi, Int.toNat_natCast]
    have : H.getD k hop0 = H[k] := by simp [List.getD, hk]
    rw [this]
    exact ⟨List.getElem_mem hk, hp⟩
  refine up_ext ?_ u (fun e => ?_)
  · unfold Up
    rw [List.pairwise_map]
    refine List.Pairwise.imp_of_mem ?_ (rows_rise h.wf)
    intro r s hr hs hlt
    rw [(key r hr).2, (key s hs).2]
    exact hlt
  · rw [List.mem_map, ← pm.mem_iff]
    constructor
    · rintro ⟨r, hr, rfl⟩
      exact (key r hr).1
    · intro he
      obtain ⟨k, hk, rfl⟩ := List.getElem_of_mem he
      refine ⟨(H[k].p, (k : Int)), (h.rows _ _).2 ⟨k, hk, rfl, rfl⟩, ?_⟩
      simp [List.getD, hk]
theorem row_place {t : Tr} {H : List Hp} (h : FI t H) {r : Pn × Int} (hr : r ∈ t.rows) : 0 ≤ r.2 ∧ r.2.toNat < H.length := by
  obtain ⟨k, hk, hi, _⟩ := (h.rows r.1 r.2).1 hr
  rw [hi]; simp; omega

/-- The mask, bit by bit. -/
def mskN (n i : Nat) : Nat := (2 ^ min i n - 1) * 2 ^ (i - min i n)
theorem msk_zero (n : Nat) : mskN n 0 = 0 := by simp [mskN]
theorem msk_lt (n i : Nat) : mskN n i < 2 ^ i := by
  unfold mskN
  have h1 : 2 ^ i = 2 ^ min i n * 2 ^ (i - min i n) := by rw [← Nat.pow_add]; congr 1; omega
  have h2 : 0 < 2 ^ min i n := Nat.pow_pos (by decide)
  have h3 : 0 < 2 ^ (i - min i n) := Nat.pow_pos (by decide)
  rw [h1]
  exact Nat.mul_lt_mul_of_pos_right (by omega) h3
theorem msk_less {n i : Nat} (h : i < n) : mskN n (i + 1) = 2 * mskN n i + 1 := by
  unfold mskN
  have e1 : min (i + 1) n = i + 1 := by omega
  have e2 : min i n = i := by omega
  rw [e1, e2]
  have h2 : 0 < 2 ^ i := Nat.pow_pos (by decide)
  simp only [Nat.sub_self, Nat.pow_zero, Nat.mul_one, Nat.pow_succ]
  omega
theorem msk_more {n i : Nat} (h : ¬ i < n) : mskN n (i + 1) = 2 * mskN n i := by
  unfold mskN
  have e1 : min (i + 1) n = n := by omega
  have e2 : min i n = n := by omega
  rw [e1, e2, show i + 1 - n = (i - n) + 1 by omega, Nat.pow_succ]
  generalize 2 ^ (i - n) = x
  generalize 2 ^ n - 1 = y
  rw [Nat.mul_comm x 2, Nat.mul_left_comm]
theorem msk_all {n : Nat} (h : n ≤ 32) : mskN n 32 = maskN n := by
  unfold mskN maskN
  have e1 : min 32 n = n := by omega
  rw [e1, Nat.sub_mul, ← Nat.pow_add, show n + (32 - n) = 32 by omega]
  simp
theorem half_step (a k : Nat) : a / 2 ^ k / 2 = a / 2 ^ (k + 1) := by rw [Nat.div_div_eq_div_mul, ← Nat.pow_succ]
theorem bit_of {a i : Nat} (h : i < 32) : a / 2 ^ (31 - i) % 2 = bitN a i := by unfold bitN; rw [if_pos h]

/-- What holds an address, in order, is longer the later. -/
theorem up_len {p q : Pn} {a : Nat} (hp : p.ok) (hq : q.ok) (h1 : p.holds ⟨a, 32⟩) (h2 : q.holds ⟨a, 32⟩) (h : p.lt q) : p.l < q.l := by
  rcases Nat.lt_or_ge p.l q.l with hl | hl
  · exact hl
  · have := holds_both h2 h1 hl hp.2.1
    rcases Nat.lt_or_ge q.l p.l with h3 | h3
    · exact absurd (lt_trans h (lt_of_within this h3)) (lt_irrefl _)
    · have e := holds_eq this (by omega) hp
      rw [e] at h; exact absurd h (lt_irrefl _)
/-- The reference's search, step by step. -/
def findStep (a : Nat) (s : Hp × Bool) (e : Hp) : Hp × Bool := if e.p.holds ⟨a, 32⟩ ∧ (s.2 = false ∨ s.1.p.l < e.p.l) then (e, true) else s
theorem findStep_all {a : Nat} : ∀ (l m : List Hp), Up (m ++ l) → (∀ h ∈ m ++ l, h.p.ok) → l.foldl (findStep a) (foundH a m) = foundH a (m ++ l)
  | [], m, _, _ => by simp
  | e :: l, m, hu, ho => by
    have e1 : m ++ e :: l = (m ++ [e]) ++ l := by simp
    rw [e1] at hu ho ⊢
    rw [List.foldl_cons, ← findStep_all l (m ++ [e]) hu ho]
    congr 1
    have hu' : Up (m ++ [e]) := (List.pairwise_append.1 hu).1
    unfold findStep
    by_cases hh : e.p.holds ⟨a, 32⟩
    · have h2 : findL a (m ++ [e]) = findL a m ++ [e] := by simp [findL, hh]
      have h3 : foundH a (m ++ [e]) = (e, true) := by unfold foundH; rw [h2]; simp
      rw [h3]
      rcases List.eq_nil_or_concat (findL a m) with e2 | ⟨f', z, e2⟩
      · have h4 : foundH a m = (hop0, false) := by unfold foundH; rw [e2]; simp
        rw [h4]; simp [hh]
      · rw [List.concat_eq_append] at e2
        have h4 : foundH a m = (z, true) := by unfold foundH; rw [e2]; simp
        rw [h4]
        have hz : z ∈ findL a m := by rw [e2]; simp
        obtain ⟨hz1, hz2⟩ := List.mem_filter.1 hz
        have hlt : z.p.lt e.p := (List.pairwise_append.1 hu').2.2 z hz1 e (by simp)
        have hl := up_len (ho z (by simp [hz1])) (ho e (by simp)) (of_decide_eq_true hz2) hh hlt
        simp [hh, hl]
    · have h2 : findL a (m ++ [e]) = findL a m := by simp [findL, hh]
      have h3 : foundH a (m ++ [e]) = foundH a m := by unfold foundH; rw [h2]
      rw [h3]; simp [hh]
theorem found_nil (a : Nat) : foundH a [] = (hop0, false) := by simp [foundH, findL]

/-- Routes coming keep the order, and prefixes that may be. -/
theorem come_up {r : Rt} {L : List Hp} (u : Up L) : Up (comeL r L) := by
  unfold comeL putL
  split
  · split
    · split
      · exact ins_up u
      · exact u
    · exact del_up u
  · exact u
theorem come_ok {r : Rt} {L : List Hp} (hr : r.p.a < 4294967296) (u : Up L) (ho : ∀ h ∈ L, h.p.ok) : ∀ h ∈ comeL r L, h.p.ok := by
  intro h hh
  unfold comeL putL at hh
  split at hh
  · rename_i hc
    have hp := (pn_ok (check_zero hc).2 hr).1
    split at hh
    · split at hh
      · rcases (ins_mem u h).1 hh with e | e
        · rw [e]; exact hp
        · exact ho h e.2
      · exact ho h hh
    · exact ho h (del_mem.1 hh).2
  · exact ho h hh
end Go.Proofs.YtfaiponmjjbgoaaGreatDoor

/- The trie's rows: the recursive closure that gathers them, and rows itself. -/
namespace Go.Proofs.YtfaiponmjjbgoaaGreatDoor
open Go.RowKit
attribute [local go_sem] Oper.semAt_some

def cloV (ox wx : Nat) : Value := .func (.func 114) #[] #[.pointer (some ⟨ox, 0, none⟩), .pointer (some ⟨wx, 0, none⟩)]
/-- What stands while rows are gathered. -/
structure RowsI (w0 : World) (ox wx base : Nat) (acc : List (Pn × Int)) (W : World) : Prop where
  kp : Kp w0 W
  wb : Blk W wx 188 #[cloV ox wx]
  sz : base ≤ W.heap.size
  ob : ∃ v, Blk W ox 126 #[v] ∧ Own W base 129 3 rowE v acc
def RowsP (w0 : World) (ox wx base : Nat) (acc : List (Pn × Int)) (e : Ending) (W : World) : Prop := e = .returned (.tuple #[]) ∧ RowsI w0 ox wx base acc W
theorem call_rows1 (args : Array Value) (w : World) : (callFunc 114 args).run Tryz.prog w = .ok (.enter 114 args) w := by kernel_rfl
theorem wp_anyW {id : Nat} {P : Program} {Q : Exit → Act → World → Prop} {a : Act} {w : World} {l : List Oper} (hm : P.follows .mixedOrders = true)
    (h : ∀ W, W = w.drew → wpAny P .any l.toArray Q l.toArray.size (Array.replicate l.toArray.size false) a W) : (Code.region id l.toArray true).wp P Q a w := wp_region_any hm (h _ rfl)
theorem RowsI.drew {w0 : World} {ox wx base : Nat} {acc : List (Pn × Int)} {W : World} (h : RowsI w0 ox wx base acc W) : RowsI w0 ox wx base acc W.drew := ⟨h.kp.drew, h.wb.drew, h.sz, h.ob⟩

set_option maxRecDepth 100000 in
set_option maxHeartbeats 2000000 in
theorem rows1_any (w0 : World) (ox wx base : Nat) (ho : w0.heap.size ≤ ox) (hob : ox < base) (hw : w0.heap.size ≤ wx) (hwb : wx < base) (how : ox ≠ wx) :
    ∀ (t : Tr) (acc : List (Pn × Int)) (w : World), TM w0 t → (acc ++ t.rows).length ≤ 1000000 → RowsI w0 ox wx base acc w →
    Calls Tryz.prog 114 #[t.ptr, .pointer (some ⟨ox, 0, none⟩), .pointer (some ⟨wx, 0, none⟩)] w (RowsP w0 ox wx base (acc ++ t.rows))
  | .nil, acc, w, _, _, hI => by
    have h1 := ptr_is_nil
    have HI := Lib.hid hI; clear hI
    simp only [Tr.ptr]
    go_enter Tryz.func114, Tryz.ntmps114
    go_wp2_with fail
    refine bodyPost_ret (v := .tuple #[]) (by simp [results, Tryz.results114, go_sem]) rfl ⟨rfl, ?_⟩
    simpa [Tr.rows] using HI.out
  | .node b p u h x y, acc, w, hT, hn, hI => by
    have h1 := ptr_not_nil
    have hcr := call_row
    have hc1 := call_rows1
    obtain ⟨hB0, hTx, hTy⟩ := hT
    have ihx := rows1_any w0 ox wx base ho hob hw hwb how x (acc ++ (if h then [(p, u)] else []))
    have ihy := rows1_any w0 ox wx base ho hob hw hwb how y (acc ++ (if h then [(p, u)] else []) ++ x.rows)
    have e0 : acc ++ (Tr.node b p u h x y).rows = acc ++ (if h then [(p, u)] else []) ++ x.rows ++ y.rows := by simp [Tr.rows]
    rw [e0] at hn ⊢
    have hnx : (acc ++ (if h then [(p, u)] else []) ++ x.rows).length ≤ 1000000 := by
      rw [List.length_append] at hn; omega
    have hnh : (acc ++ (if h then [(p, u)] else [])).length ≤ 1000000 := by
      rw [List.length_append] at hnx; omega
    have Ihx := Lib.hid (fun w => ihx w hTx hnx)
    have Ihy := Lib.hid (fun w => ihy w hTy hn)
    have Hnh := Lib.hid hnh
    have HN := Lib.hid hB0
    have HI := Lib.hid hI
    clear ihx ihy e0 hn hnx hnh hI hTx hTy
    have N1 := HN.out.keep HI.out.kp
    have n3 : w.cell? ⟨b, 3, none⟩ = some (.bool h) := N1.cell 3
    clear hB0
    simp only [Tr.ptr]
    go_enter Tryz.func114, Tryz.ntmps114
    cases h with
    | false =>
      simp only [Bool.false_eq_true, if_false, List.append_nil] at Ihx Ihy ⊢
      go_upto_region 4 with (fail)
      have J0 := HI
      clear n3 N1

      refine wp_tail 6 (by kernel_rfl) (by kernel_rfl) (fun V hV => ?_)
      have JV : Hid (RowsI w0 ox wx base acc V) := by rw [hV]; exact Lib.hid J0.out.drew
      clear hV
      have NV := HN.out.keep JV.out.kp
      have m4 : V.cell? ⟨b, 4, none⟩ = some x.ptr := NV.cell 4
      have mw : V.cell? ⟨wx, 0, none⟩ = some (cloV ox wx) := JV.out.wb.cell 0
      unfold cloV at mw
      simp only [List.take_succ_cons, List.take_zero, List.drop_succ_cons, List.drop_zero]
      repeat still_step
      refine wpStill_nil ?_
      clear m4 mw NV
      go_wp2_with fail
      refine (Ihx.out V JV.out).mono ?_
      rintro e w2 ⟨rfl, J2⟩
      have J2 := Lib.hid J2
      go_wp2_with fail
      refine wp_tail 6 (by kernel_rfl) (by kernel_rfl) (fun V2 hV2 => ?_)
      have JV2 : Hid (RowsI w0 ox wx base (acc ++ x.rows) V2) := by rw [hV2]; exact Lib.hid J2.out.drew
      clear hV2
      have NV2 := HN.out.keep JV2.out.kp
      have m5 : V2.cell? ⟨b, 5, none⟩ = some y.ptr := NV2.cell 5
      have mw2 : V2.cell? ⟨wx, 0, none⟩ = some (cloV ox wx) := JV2.out.wb.cell 0
      unfold cloV at mw2
      simp only [List.take_succ_cons, List.take_zero, List.drop_succ_cons, List.drop_zero]
      repeat still_step
      refine wpStill_nil ?_
      clear m5 mw2 NV2
      go_wp2_with fail
      refine (Ihy.out V2 JV2.out).mono ?_
      rintro e w3 ⟨rfl, J3⟩
      have J3 := Lib.hid J3
      go_wp2_with fail
      refine bodyPost_ret (v := .tuple #[]) (by simp [results, Tryz.results114, go_sem]) rfl ⟨rfl, ?_⟩
      exact J3.out
    | true =>
      simp only [if_true] at Ihx Ihy Hnh ⊢
      have hfit := Hnh.out
      rw [List.length_append, List.length_singleton] at hfit
      have JI := HI.out
      obtain ⟨v, B, o0⟩ := JI.ob
      have hlo := B.lt
      have hlw := JI.wb.lt
      have hsz := JI.sz
      have fin : Hid (∀ (w3 : World) (A3 : Option Addr) (c3 : Nat), Own w3 base 129 3 rowE (.slice A3 (acc.length + 1) c3) (acc ++ [(p, u)]) → Kp w0 w3 → Blk w3 ox 126 #[v] → w3.heap[wx]? = w.heap[wx]? → base ≤ w3.heap.size →
          RowsI w0 ox wx base (acc ++ [(p, u)]) (w3.setCell ⟨ox, 0, none⟩ (.slice A3 (acc.length + 1) c3))) := by
        intro w3 A3 c3 hown' hK' B3 hE hs3
        exact ⟨hK'.setCell (show w0.heap.size ≤ ox from ho) _, (show Blk w3 wx _ _ from hE.trans JI.wb).far (fun e => how e.symm) _, by simpa [World.setCell] using hs3, _, B3.set_ 0 _, Own.setBelow (p := ⟨ox, 0, none⟩) hown' hob _⟩
      go_upto_region 3 with (fail)
      clear n3
      go_cut [] from 13 to 17 (fun wx' => RowsI w0 ox wx base (acc ++ [(p, u)]) wx')
      case first =>
        have n0 : w.cell? ⟨b, 0, none⟩ = some (.int .u32 p.a) := N1.cell 0
        have n1 : w.cell? ⟨b, 1, none⟩ = some (.int .i64 p.l) := N1.cell 1
        have n2 : w.cell? ⟨b, 2, none⟩ = some (.int .i64 u) := N1.cell 2
        have x0 : w.cell? ⟨ox, 0, none⟩ = some v := B.cell 0
        refine wp_anyW (by kernel_rfl) (fun V hV => ?_)
        have KV : Kp w V := by rw [hV]; exact (Kp.refl _).drew
        clear hV
        have B' := B.keep KV
        have m0 := KV.cell n0
        have m1 := KV.cell n1
        have m2 := KV.cell n2
        have xV := KV.cell x0
        clear n0 n1 n2 x0 N1
        refine wpAny_take (i := 1) (v := .func (.func 95) #[.pointer (some ⟨b, 0, none⟩)] #[]) rfl (by kernel_rfl) (by kernel_rfl) (by kernel_rfl) (fun _ _ _ h => h) (Or.inl ⟨by rfl, fun w => by go_simp⟩) ?_
        refine wpAny_ready (rs := [0, 2]) (by kernel_rfl) (by simp) ?_
        refine AllReady.cons rfl (fun K hK => ?_) (AllReady.cons rfl (fun K hK => ?_) AllReady.nil)
        · go_simp
          refine hK _ _ ?_
          clear hK K
          refine wpAny_ready (rs := [2]) (by kernel_rfl) (by simp) ?_
          refine AllReady.cons rfl (fun K hK => ?_) AllReady.nil
          go_simp
          refine (row_any b p u _ m0 m1 m2).mono ?_
          rintro e wa ⟨rfl, hKa⟩
          have KW : Kp w wa := KV.trans hKa
          have hsW := KW.size
          have BW := B.keep KW
          have xW : wa.cell? ⟨ox, 0, none⟩ = some v := BW.cell 0
          refine hK _ _ ?_
          clear hK K
          refine wpAny_ready (rs := [3]) (by kernel_rfl) (by simp) ?_
          refine AllReady.cons rfl (fun K hK => ?_) AllReady.nil
          go_simp
          refine hK _ _ ?_
          clear hK K
          refine wpAny_rest 4 rfl (by kernel_rfl) ?_
          simp only [List.drop_succ_cons, List.drop_zero]
          go_wp2_with (at_builtin; go_must (refine wpList_appx ERow rfl _ _ rfl (p, u) rfl (o0.keep KW) (JI.kp.trans KW) (by omega) (by omega) rfl rfl rfl rfl rfl (by omega) ?_); intro v' w3 hown' hK' hg; obtain ⟨A3, c3, rfl⟩ := hown'.form1; have B3 := BW.grown hg (Own.ne (o0.keep KW) hob); have cc3 : w3.cell? ⟨ox, 0, none⟩ = some v := B3.cell 0; have zz := B3.frozen 0)
          go_meet
          case rel => exact fin.out w3 _ _ hown' hK' B3 ((hg.block _ (by omega) (Own.ne (o0.keep KW) hwb)).trans (KW.heap (by omega))) (Nat.le_trans (Nat.le_trans JI.sz KW.size) hg.size)
        · go_simp
          refine (row_any b p u _ m0 m1 m2).mono ?_
          rintro e wa ⟨rfl, hKa⟩
          have KW : Kp w wa := KV.trans hKa
          have hsW := KW.size
          have BW := B.keep KW
          have xW : wa.cell? ⟨ox, 0, none⟩ = some v := BW.cell 0
          refine hK _ _ ?_
          clear hK K
          refine wpAny_ready (rs := [0, 3]) (by kernel_rfl) (by simp) ?_
          refine AllReady.cons rfl (fun K hK => ?_) (AllReady.cons rfl (fun K hK => ?_) AllReady.nil)
          · go_simp
            refine hK _ _ ?_
            clear hK K
            refine wpAny_ready (rs := [3]) (by kernel_rfl) (by simp) ?_
            refine AllReady.cons rfl (fun K hK => ?_) AllReady.nil
            go_simp
            refine hK _ _ ?_
            clear hK K
            refine wpAny_rest 4 rfl (by kernel_rfl) ?_
            simp only [List.drop_succ_cons, List.drop_zero]
            go_wp2_with (at_builtin; go_must (refine wpList_appx ERow rfl _ _ rfl (p, u) rfl (o0.keep KW) (JI.kp.trans KW) (by omega) (by omega) rfl rfl rfl rfl rfl (by omega) ?_); intro v' w3 hown' hK' hg; obtain ⟨A3, c3, rfl⟩ := hown'.form1; have B3 := BW.grown hg (Own.ne (o0.keep KW) hob); have cc3 : w3.cell? ⟨ox, 0, none⟩ = some v := B3.cell 0; have zz := B3.frozen 0)
            go_meet
            case rel => exact fin.out w3 _ _ hown' hK' B3 ((hg.block _ (by omega) (Own.ne (o0.keep KW) hwb)).trans (KW.heap (by omega))) (Nat.le_trans (Nat.le_trans JI.sz KW.size) hg.size)
          · go_simp
            refine hK _ _ ?_
            clear hK K
            have xX : (wa.alloc (.cells #[.int .u32 p.a, .int .i64 p.l, .int .i64 u] 129)).cell? ⟨ox, 0, none⟩ = some v := ((Kp.refl wa).alloc _).cell xW
            refine wpAny_ready (rs := [0]) (by kernel_rfl) (by simp) ?_
            refine AllReady.cons rfl (fun K hK => ?_) AllReady.nil
            go_simp
            refine hK _ _ ?_
            clear hK K
            refine wpAny_rest 4 rfl (by kernel_rfl) ?_
            simp only [List.drop_succ_cons, List.drop_zero]
            go_wp2_with (at_builtin; go_must (refine wpList_appx ERow rfl _ _ rfl (p, u) rfl (o0.keep KW) (JI.kp.trans KW) (by omega) (by omega) rfl rfl rfl rfl rfl (by omega) ?_); intro v' w3 hown' hK' hg; obtain ⟨A3, c3, rfl⟩ := hown'.form1; have B3 := BW.grown hg (Own.ne (o0.keep KW) hob); have cc3 : w3.cell? ⟨ox, 0, none⟩ = some v := B3.cell 0; have zz := B3.frozen 0)
            go_meet
            case rel => exact fin.out w3 _ _ hown' hK' B3 ((hg.block _ (by omega) (Own.ne (o0.keep KW) hwb)).trans (KW.heap (by omega))) (Nat.le_trans (Nat.le_trans JI.sz KW.size) hg.size)
      case rest =>
      have J0 := Lib.hid hcut
      clear hcut fin B o0 JI N1
      go_upto_region 4 with (fail)

      refine wp_tail 6 (by kernel_rfl) (by kernel_rfl) (fun V hV => ?_)
      have JV : Hid (RowsI w0 ox wx base (acc ++ [(p, u)]) V) := by rw [hV]; exact Lib.hid J0.out.drew
      clear hV
      have NV := HN.out.keep JV.out.kp
      have m4 : V.cell? ⟨b, 4, none⟩ = some x.ptr := NV.cell 4
      have mw : V.cell? ⟨wx, 0, none⟩ = some (cloV ox wx) := JV.out.wb.cell 0
      unfold cloV at mw
      simp only [List.take_succ_cons, List.take_zero, List.drop_succ_cons, List.drop_zero]
      repeat still_step
      refine wpStill_nil ?_
      clear m4 mw NV
      go_wp2_with fail
      refine (Ihx.out V JV.out).mono ?_
      rintro e w2 ⟨rfl, J2⟩
      have J2 := Lib.hid J2
      go_wp2_with fail
      refine wp_tail 6 (by kernel_rfl) (by kernel_rfl) (fun V2 hV2 => ?_)
      have JV2 : Hid (RowsI w0 ox wx base ((acc ++ [(p, u)]) ++ x.rows) V2) := by rw [hV2]; exact Lib.hid J2.out.drew
      clear hV2
      have NV2 := HN.out.keep JV2.out.kp
      have m5 : V2.cell? ⟨b, 5, none⟩ = some y.ptr := NV2.cell 5
      have mw2 : V2.cell? ⟨wx, 0, none⟩ = some (cloV ox wx) := JV2.out.wb.cell 0
      unfold cloV at mw2
      simp only [List.take_succ_cons, List.take_zero, List.drop_succ_cons, List.drop_zero]
      repeat still_step
      refine wpStill_nil ?_
      clear m5 mw2 NV2
      go_wp2_with fail
      refine (Ihy.out V2 JV2.out).mono ?_
      rintro e w3 ⟨rfl, J3⟩
      have J3 := Lib.hid J3
      go_wp2_with fail
      refine bodyPost_ret (v := .tuple #[]) (by simp [results, Tryz.results114, go_sem]) rfl ⟨rfl, ?_⟩
      exact J3.out

def TRowsP (w : World) (t : Tr) (e : Ending) (w' : World) : Prop := ∃ A c, e = .returned (.slice A t.rows.length c) ∧ Rd w' 3 rowE A t.rows ∧ Kp w w' ∧ ∀ a, A = some a → w.heap.size ≤ a.block
set_option maxRecDepth 100000 in
set_option maxHeartbeats 1000000 in
theorem trows_any (tr : Nat) (many : Int) (t : Tr) (w : World) (hT : Blk w tr 87 #[t.ptr, .int .i64 many, .bool true]) (hM : TM w t) (hn : t.rows.length ≤ 1000000) :
    Calls Tryz.prog 93 #[.pointer (some ⟨tr, 0, none⟩)] w (TRowsP w t) := by
  have hmf := makeFunc_run
  have hc1 := call_rows1
  have HT := Lib.hid hT
  have HM := Lib.hid hM
  have hlt := hT.lt
  clear hT hM
  go_enter Tryz.func93, Tryz.ntmps93
  go_upto_region 4 with (fail)
  obtain ⟨W, hW⟩ : ∃ W, (w.alloc (.cells #[.slice none 0 0] 126)).alloc (.cells #[cloV w.heap.size (w.heap.size + 1)] 188) = W := ⟨_, rfl⟩
  have hI : RowsI w w.heap.size (w.heap.size + 1) (w.heap.size + 1 + 1) [] W := by
    rw [← hW]
    refine ⟨((Kp.refl _).alloc _).alloc _, Blk.new1 w _ _ _, by simp, _, (Blk.new w _ _).alloc _, Own.nil _ _ _ _ _⟩
  unfold cloV at hW
  rw [hW]
  have HI := Lib.hid hI; clear hI hW
  refine wp_tail 5 (by kernel_rfl) (by kernel_rfl) (fun V hV => ?_)
  have JV : Hid (RowsI w w.heap.size (w.heap.size + 1) (w.heap.size + 1 + 1) [] V) := by rw [hV]; exact Lib.hid HI.out.drew
  clear hV
  have c0 : V.cell? ⟨tr, 0, none⟩ = some t.ptr := (HT.out.keep JV.out.kp).cell 0
  have mw : V.cell? ⟨w.heap.size + 1, 0, none⟩ = some (cloV w.heap.size (w.heap.size + 1)) := JV.out.wb.cell 0
  unfold cloV at mw
  simp only [List.take_succ_cons, List.take_zero, List.drop_succ_cons, List.drop_zero]
  repeat still_step
  refine wpStill_nil ?_
  clear c0 mw
  go_wp2_with fail
  refine (rows1_any w w.heap.size (w.heap.size + 1) (w.heap.size + 1 + 1) (Nat.le_refl _) (by omega) (by omega) (by omega) (by omega) t [] V HM.out (by simpa using hn) JV.out).mono ?_
  rintro e w2 ⟨rfl, J2⟩
  rw [List.nil_append] at J2
  obtain ⟨v, B, o⟩ := J2.ob
  obtain ⟨A, c, rfl, hR⟩ := o.rd (by decide) rowE_len
  have x0 : w2.cell? ⟨w.heap.size, 0, none⟩ = some (.slice A t.rows.length c) := B.cell 0
  have HR := Lib.hid hR
  have HJ := Lib.hid J2
  have Ho := Lib.hid o
  clear hR J2 o B
  go_wp2_with fail
  go_ret
  exact ⟨A, c, rfl, HR.out, HJ.out.kp, fun a ha => by have := Ho.out.newA a ha; omega⟩
end Go.Proofs.YtfaiponmjjbgoaaGreatDoor

/- The references of layers 1, 2, 4, 7 as far as layer 13 needs them: bits, masks, which prefixes may be and may be told, kinds. -/
namespace Go.Proofs.YtfaiponmjjbgoaaGreatDoor
open Go.RowKit

theorem half_cast (x : Nat) : ((x : Int) / 2) = ((x / 2 : Nat) : Int) := by omega
theorem rem_cast (x : Nat) : ((x : Int) % 2) = ((x % 2 : Nat) : Int) := by omega
set_option maxRecDepth 100000 in
set_option maxHeartbeats 1000000 in
theorem rbit_any (a i : Nat) (w : World) (ha : a < 4294967296) (hi : i < 32) : Calls Tryz.prog 52 #[.int .u32 a, .int .i64 i] w fun e w' => e = .returned (.int .i64 (bitN a i)) ∧ w = w' := by
  obtain ⟨r, hr⟩ : ∃ r, bitN a i = r := ⟨_, rfl⟩
  rw [hr]
  have Hr := Lib.hid hr; clear hr
  have d1 : decide ((i : Int) < 0) = false := by simp
  have d2 : decide ((31 : Int) < i) = false := by simp; omega
  go_enter Tryz.func52, Tryz.ntmps52
  go_wp2_with fail
  go_loop [5, 6] (fun n k => ∃ m x : Nat, i ≤ m ∧ m ≤ 31 ∧ k = .int .i64 m ∧ n = .int .i64 x ∧ x < 4294967296 ∧ Hid (x = a / 2 ^ (31 - m))) (fun _ k => (intOf k).toNat)
  case atStart => exact ⟨31, a, by omega, by omega, rfl, rfl, ha, Lib.hid (by simp)⟩
  case round =>
    obtain ⟨m, x, him, hm, rfl, rfl, hx, hxe⟩ := hrel
    by_cases hlt : i < m
    · have hd : decide ((i : Int) < m) = true := by simpa using hlt
      go_wp2_with fail
      go_round
      case rel =>
        refine ⟨m - 1, x / 2, by omega, by omega, ?_, by rw [← half_cast], by omega, ?_⟩
        · have e : ((m : Int) - 1) = ((m - 1 : Nat) : Int) := by omega
          rw [e]
        · rw [hxe.out, half_step]; congr 2; omega
      case measure => simp [intOf]; omega
    · obtain rfl : m = i := by omega
      have hd : decide ((m : Int) < m) = false := by simp
      go_wp2_with fail
      go_ret
      refine ⟨?_, rfl⟩
      rw [rem_cast, hxe.out, bit_of hi, Hr.out]
      rfl

set_option maxRecDepth 100000 in
set_option maxHeartbeats 1000000 in
theorem rmask_any (n : Nat) (w : World) (hn : n ≤ 32) : Calls Tryz.prog 65 #[.int .i64 n] w fun e w' => e = .returned (.int .u32 (maskN n)) ∧ w = w' := by
  have HR := Lib.hid (msk_all hn)
  go_enter Tryz.func65, Tryz.ntmps65
  go_wp2_with fail
  go_loop [3, 4] (fun v k => ∃ i : Nat, i ≤ 32 ∧ k = .int .i64 i ∧ v = .int .u32 (mskN n i)) (fun _ k => 32 - (intOf k).toNat)
  case atStart => exact ⟨0, by omega, rfl, by rw [msk_zero]; rfl⟩
  case round =>
    obtain ⟨i, hi, rfl, rfl⟩ := hrel
    by_cases hlt : i < 32
    · have hd : decide ((i : Int) < 32) = true := by simp; omega
      have hb := msk_lt n i
      have hb2 : 2 ^ i ≤ 2 ^ 31 := Nat.pow_le_pow_right (by omega) (by omega)
      have hb3 : mskN n i < 2147483648 := Nat.lt_of_lt_of_le hb (by simpa using hb2)
      clear hb hb2
      obtain ⟨x, hx⟩ : ∃ x, mskN n i = x := ⟨_, rfl⟩
      rw [hx] at hb3 ⊢
      have Hx := Lib.hid hx; clear hx
      by_cases hin : i < n
      · have hd2 : decide ((i : Int) < n) = true := by simpa using hin
        have hd3 : decide (i < n) = true := by simpa using hin
        go_wp2_with fail
        go_round
        case rel => exact ⟨i + 1, by omega, by go_num, by rw [msk_less hin, Hx.out]; simp⟩
        case measure => simp [intOf]; omega
      · have hd2 : decide ((i : Int) < n) = false := by simpa using hin
        have hd3 : decide (i < n) = false := by simpa using hin
        go_wp2_with fail
        go_round
        case rel => exact ⟨i + 1, by omega, by go_num, by rw [msk_more hin, Hx.out]; simp⟩
        case measure => simp [intOf]; omega
    · obtain rfl : i = 32 := by omega
      rw [HR.out]
      go_wp2_with fail
      go_ret
      exact ⟨rfl, rfl⟩

set_option maxRecDepth 100000 in
set_option maxHeartbeats 1000000 in
theorem rright_any (p : PI) (w : World) (ha : p.a < 4294967296) : Calls Tryz.prog 51 #[.agg #[.int .u32 p.a, .int .i64 p.l]] w fun e w' => e = .returned (.bool p.okB) ∧ Kp w w' := by
  obtain ⟨W, hW, kW, B0⟩ : ∃ W, w.alloc (.cells #[.int .u32 p.a, .int .i64 p.l] 26) = W ∧ Kp w W ∧ Blk W w.heap.size 26 #[.int .u32 p.a, .int .i64 p.l] := ⟨_, rfl, (Kp.refl _).alloc _, Blk.new w _ _⟩
  have p0 : W.cell? ⟨w.heap.size, 0, none⟩ = some (.int .u32 p.a) := B0.cell 0
  have p1 : W.cell? ⟨w.heap.size, 1, none⟩ = some (.int .i64 p.l) := B0.cell 1
  obtain ⟨r, hr⟩ : ∃ r, p.okB = r := ⟨_, rfl⟩
  rw [hr]
  have Hr := Lib.hid hr; clear hr
  by_cases h0 : p.l < 0
  · have d0 : decide (p.l < 0) = true := by simpa using h0
    obtain rfl : r = false := by rw [← Hr.out]; simp [PI.okB]; omega
    clear h0 Hr
    go_enter Tryz.func51, Tryz.ntmps51
    go_wp2_with fail
    go_ret
    exact ⟨rfl, kW⟩
  have d0 : decide (p.l < 0) = false := by simpa using h0
  by_cases h1 : 32 < p.l
  · have d1 : decide (32 < p.l) = true := by simpa using h1
    obtain rfl : r = false := by rw [← Hr.out]; simp [PI.okB]; omega
    clear h0 h1 Hr
    go_enter Tryz.func51, Tryz.ntmps51
    go_wp2_with fail
    go_ret
    exact ⟨rfl, kW⟩
  have d1 : decide (32 < p.l) = false := by simpa using h1
  obtain ⟨n, hn⟩ : ∃ n : Nat, p.l = (n : Int) := ⟨p.l.toNat, by omega⟩
  have hn32 : n ≤ 32 := by omega
  have Hok : Hid (r = decide (cut p.a n = p.a)) := by
    rw [← Hr.out]
    have e : p.l.toNat = n := by omega
    unfold PI.okB
    rw [e]
    exact Lib.hid (by congr 1; simp; omega)
  rw [hn] at p1 d0 d1 hW ⊢
  clear h0 h1 hn Hr B0
  go_enter Tryz.func51, Tryz.ntmps51
  go_wp2_with fail
  go_loop [3] (fun k => ∃ i : Nat, n ≤ i ∧ i ≤ 32 ∧ k = .int .i64 i ∧ Hid (∀ j, n ≤ j → j < i → bitN p.a j = 0)) (fun k => 32 - (intOf k).toNat)
  case atStart => exact ⟨n, Nat.le_refl _, hn32, rfl, fun j h1 h2 => absurd h2 (by omega)⟩
  case round =>
    obtain ⟨i, hni, hi, rfl, hall⟩ := hrel
    by_cases hlt : i < 32
    · have hd : decide ((i : Int) < 32) = true := by simp; omega
      have hbl := bit_lt p.a i
      go_wp2_with fail
      refine (rbit_any p.a i _ ha hlt).mono ?_
      rintro e w' ⟨rfl, rfl⟩
      by_cases hb : bitN p.a i = 0
      · rw [hb]
        have Hb := Lib.hid hb; clear hb
        go_wp2_with fail
        go_round
        case rel =>
          refine ⟨i + 1, by omega, by omega, by go_num, fun j h1 h2 => ?_⟩
          rcases Nat.lt_or_ge j i with h3 | h3
          · exact hall.out j h1 h3
          · obtain rfl : j = i := by omega
            exact Hb.out
        case measure => simp [intOf]; omega
      · obtain rfl : r = false := by
          rw [Hok.out]
          simp only [decide_eq_false_iff_not]
          intro hc
          exact hb ((bits_zero hn32).2 hc i hni hlt)
        obtain ⟨x, hx⟩ : ∃ x, bitN p.a i = x := ⟨_, rfl⟩
        rw [hx] at hb hbl ⊢
        obtain rfl : x = 1 := by omega
        clear hb hbl hx
        go_wp2_with fail
        go_ret
        exact ⟨rfl, kW⟩
    · obtain rfl : i = 32 := by omega
      obtain rfl : r = true := by
        rw [Hok.out]
        simp only [decide_eq_true_eq]
        exact (bits_zero hn32).1 (fun j h1 h2 => hall.out j h1 h2)
      go_wp2_with fail
      go_ret
      exact ⟨rfl, kW⟩

def RPartsP (m : Nat) (w : World) (e : Ending) (w' : World) : Prop := ∃ y z u : Int, e = .returned (.agg #[.int .i64 m, .int .i64 y, .int .i64 z, .int .i64 u]) ∧ Kp w w'
set_option maxRecDepth 100000 in
set_option maxHeartbeats 1000000 in
theorem rparts_any (a m : Nat) (w : World) (ha : a < 4294967296) (hm : a / 16777216 = m) : Calls Tryz.prog 91 #[.int .u32 a] w (RPartsP m w) := by
  have Hm := Lib.hid hm; clear hm
  go_enter Tryz.func91, Tryz.ntmps91
  go_wp2_with fail
  exact bodyPost_ret (v := .agg #[.int .i64 ((a : Int) / 16777216), .int .i64 ((a : Int) / 65536 % 256), .int .i64 ((a : Int) / 256 % 256), .int .i64 ((a : Int) % 256)]) (by simp [results, Tryz.results91, go_sem]) rfl ⟨_, _, _, by rw [← Hm.out]; rfl, (Kp.refl _).alloc _⟩

set_option maxRecDepth 100000 in
set_option maxHeartbeats 2000000 in
theorem rkind_any (a : Nat) (w : World) (ha : a < 4294967296) : Calls Tryz.prog 66 #[.int .u32 a] w fun e w' => e = .returned (.int .i64 (kindN a)) ∧ Kp w w' := by
  obtain ⟨r, hr⟩ : ∃ r, kindN a = r := ⟨_, rfl⟩
  rw [hr]
  obtain ⟨m, hm⟩ : ∃ m, a / 16777216 = m := ⟨_, rfl⟩
  have hm2 : m < 256 := by omega
  unfold kindN at hr
  rw [hm] at hr
  have Hm := Lib.hid hm; clear hm
  have hall : Hid ((a = 0 ∧ r = 1) ∨ (a ≠ 0 ∧ m = 0 ∧ r = 2) ∨ (a ≠ 0 ∧ m = 127 ∧ r = 3) ∨ (a ≠ 0 ∧ 224 ≤ m ∧ m ≤ 239 ∧ r = 4) ∨ (a ≠ 0 ∧ 240 ≤ m ∧ r = 5) ∨ (a ≠ 0 ∧ m ≠ 0 ∧ m ≠ 127 ∧ m < 224 ∧ r = 6)) := by
    revert hr
    by_cases h0 : a = 0
    · rw [if_pos h0]; intro hr; exact .inl ⟨h0, hr.symm⟩
    rw [if_neg h0]
    by_cases h1 : m = 0
    · rw [if_pos h1]; intro hr; exact .inr (.inl ⟨h0, h1, hr.symm⟩)
    rw [if_neg h1]
    by_cases h2 : m = 127
    · rw [if_pos h2]; intro hr; exact .inr (.inr (.inl ⟨h0, h2, hr.symm⟩))
    rw [if_neg h2]
    by_cases h3 : 224 ≤ m ∧ m ≤ 239
    · rw [if_pos h3]; intro hr; exact .inr (.inr (.inr (.inl ⟨h0, h3.1, h3.2, hr.symm⟩)))
    rw [if_neg h3]
    by_cases h4 : 240 ≤ m
    · rw [if_pos h4]; intro hr; exact .inr (.inr (.inr (.inr (.inl ⟨h0, h4, hr.symm⟩))))
    rw [if_neg h4]
    intro hr
    exact .inr (.inr (.inr (.inr (.inr ⟨h0, h1, h2, by omega, hr.symm⟩))))
  clear hr
  go_enter Tryz.func66, Tryz.ntmps66
  go_wp2_with fail
  refine (rparts_any a m w ha Hm.out).mono ?_
  rintro e w1 ⟨y, z, u, rfl, hK⟩
  rcases hall.out with ⟨h0, rfl⟩ | ⟨h0, h1, rfl⟩ | ⟨h0, h1, rfl⟩ | ⟨h0, h1, h2, rfl⟩ | ⟨h0, h1, rfl⟩ | ⟨h0, h1, h2, h3, rfl⟩
  · subst h0
    clear hall
    go_wp2_with fail
    go_ret
    exact ⟨rfl, hK.alloc _⟩
  · have q0 : ((a : Int) == 0) = false := by simpa using h0
    subst h1
    clear hall h0
    go_wp2_with fail
    go_ret
    exact ⟨rfl, hK.alloc _⟩
  · have q0 : ((a : Int) == 0) = false := by simpa using h0
    subst h1
    clear hall h0
    go_wp2_with fail
    go_ret
    exact ⟨rfl, hK.alloc _⟩
  · have q0 : ((a : Int) == 0) = false := by simpa using h0
    have q1 : ((m : Int) == 0) = false := by simp; omega
    have q2 : ((m : Int) == 127) = false := by simp; omega
    have q3 : decide ((224 : Int) ≤ m) = true := by simp; omega
    have q4 : decide ((m : Int) ≤ 239) = true := by simp; omega
    clear hall h0
    go_wp2_with fail
    go_ret
    exact ⟨rfl, hK.alloc _⟩
  · have q0 : ((a : Int) == 0) = false := by simpa using h0
    have q1 : ((m : Int) == 0) = false := by simp; omega
    have q2 : ((m : Int) == 127) = false := by simp; omega
    have q3 : decide ((224 : Int) ≤ m) = true := by simp; omega
    have q4 : decide ((m : Int) ≤ 239) = false := by simp; omega
    have q5 : decide ((240 : Int) ≤ m) = true := by simp; omega
    clear hall h0
    go_wp2_with fail
    go_ret
    exact ⟨rfl, hK.alloc _⟩
  · have q0 : ((a : Int) == 0) = false := by simpa using h0
    have q1 : ((m : Int) == 0) = false := by simp; omega
    have q2 : ((m : Int) == 127) = false := by simp; omega
    have q3 : decide ((224 : Int) ≤ m) = false := by simp; omega
    have q5 : decide ((240 : Int) ≤ m) = false := by simp; omega
    clear hall h0
    go_wp2_with fail
    go_ret
    exact ⟨rfl, hK.alloc _⟩

set_option maxRecDepth 100000 in
set_option maxHeartbeats 2000000 in
theorem rbad_any (a n : Nat) (w : World) (ha : a < 4294967296) (hn : n ≤ 32) : Calls Tryz.prog 64 #[.int .u32 a, .int .u32 (maskN n)] w fun e w' => e = .returned (.bool (badKind a n)) ∧ Kp w w' := by
  obtain ⟨r, hr⟩ : ∃ r, badKind a n = r := ⟨_, rfl⟩
  rw [hr]
  have hk := kindN_range a
  have hmm := mask_ne n hn
  unfold badKind at hr
  have Hk := Lib.hid (rkind_any a w ha)
  obtain ⟨k, hkk⟩ : ∃ k, kindN a = k := ⟨_, rfl⟩
  rw [hkk] at hr hk Hk
  obtain ⟨mm, hM⟩ : ∃ mm, maskN n = mm := ⟨_, rfl⟩
  rw [hM] at hmm ⊢
  clear hkk hM
  have Hmm := Lib.hid hmm; clear hmm
  have hcase : k = 1 ∨ k = 2 ∨ k = 3 ∨ k = 4 ∨ k = 5 ∨ k = 6 := by omega
  clear hk
  rcases hcase with rfl | rfl | rfl | rfl | rfl | rfl
  · simp only [show ¬ (1 = 6) by omega, if_false, if_true] at hr
    rw [hr] at Hmm
    have hm := Hmm.out
    clear hr
    go_enter Tryz.func64, Tryz.ntmps64
    go_wp2_with fail
    refine Hk.out.mono ?_
    rintro e w1 ⟨rfl, hK⟩
    cases r
    all_goals
      go_wp2_with fail
      go_ret
      exact ⟨rfl, hK⟩
  all_goals
    simp at hr
    subst hr
    go_enter Tryz.func64, Tryz.ntmps64
    go_wp2_with fail
    refine Hk.out.mono ?_
    rintro e w1 ⟨rfl, hK⟩
    go_wp2_with fail
    go_ret
    exact ⟨rfl, hK⟩

set_option maxRecDepth 100000 in
set_option maxHeartbeats 2000000 in
theorem good_any (p : PI) (w : World) (ha : p.a < 4294967296) : Calls Tryz.prog 45 #[.agg #[.int .u32 p.a, .int .i64 p.l]] w fun e w' => e = .returned (.bool (toldB p)) ∧ Kp w w' := by
  obtain ⟨W, hW, kW, B0⟩ : ∃ W, w.alloc (.cells #[.int .u32 p.a, .int .i64 p.l] 26) = W ∧ Kp w W ∧ Blk W w.heap.size 26 #[.int .u32 p.a, .int .i64 p.l] := ⟨_, rfl, (Kp.refl _).alloc _, Blk.new w _ _⟩
  have p0 : W.cell? ⟨w.heap.size, 0, none⟩ = some (.int .u32 p.a) := B0.cell 0
  have p1 : W.cell? ⟨w.heap.size, 1, none⟩ = some (.int .i64 p.l) := B0.cell 1
  cases hok : p.okB with
  | false =>
    have Ht : Hid (toldB p = false) := Lib.hid (by simp [toldB, hok])
    have Hok := Lib.hid hok; clear hok
    go_enter Tryz.func45, Tryz.ntmps45
    go_wp2_with fail
    refine wp_anyW (by kernel_rfl) (fun V hV => ?_)
    have KV : Kp W V := by rw [hV]; exact (Kp.refl _).drew
    clear hV
    have q0 := KV.cell p0
    have q1 := KV.cell p1
    clear p0 p1
    refine wpAny_ready (rs := [0]) (by kernel_rfl) (by simp) ?_
    refine AllReady.cons rfl (fun K hK => ?_) AllReady.nil
    go_simp
    refine hK _ _ ?_
    clear hK K
    refine wpAny_ready (rs := [1]) (by kernel_rfl) (by simp) ?_
    refine AllReady.cons rfl (fun K hK => ?_) AllReady.nil
    go_simp
    refine (rright_any p _ ha).mono ?_
    rintro e wa ⟨rfl, hKa⟩
    rw [Hok.out]
    refine hK _ _ ?_
    clear hK K
    refine wpAny_take (i := 2) (v := .bool false) rfl (by kernel_rfl) (by kernel_rfl) (by kernel_rfl) (fun _ _ _ h => h) (Or.inl ⟨by rfl, fun w => by go_simp⟩) ?_
    refine wpAny_take (i := 3) (v := undef) rfl (by kernel_rfl) (by kernel_rfl) (by kernel_rfl) (fun _ _ _ h => h) (Or.inr ⟨by rfl, rfl⟩) ?_
    refine wpAny_take (i := 4) (v := undef) rfl (by kernel_rfl) (by kernel_rfl) (by kernel_rfl) (fun _ _ _ h => h) (Or.inr ⟨by rfl, rfl⟩) ?_
    refine wpAny_take (i := 5) (v := undef) rfl (by kernel_rfl) (by kernel_rfl) (by kernel_rfl) (fun _ _ _ h => h) (Or.inr ⟨by rfl, rfl⟩) ?_
    refine wpAny_take (i := 6) (v := undef) rfl (by kernel_rfl) (by kernel_rfl) (by kernel_rfl) (fun _ _ _ h => h) (Or.inr ⟨by rfl, rfl⟩) ?_
    refine wpAny_take (i := 7) (v := undef) rfl (by kernel_rfl) (by kernel_rfl) (by kernel_rfl) (fun _ _ _ h => h) (Or.inr ⟨by rfl, rfl⟩) ?_
    refine wpAny_take (i := 8) (v := undef) rfl (by kernel_rfl) (by kernel_rfl) (by kernel_rfl) (fun _ _ _ h => h) (Or.inr ⟨by rfl, rfl⟩) ?_
    refine wpAny_take (i := 9) (v := undef) rfl (by kernel_rfl) (by kernel_rfl) (by kernel_rfl) (fun _ _ _ h => h) (Or.inr ⟨by rfl, rfl⟩) ?_
    refine wpAny_rest 10 rfl (by kernel_rfl) ?_
    simp only [List.drop_succ_cons, List.drop_zero]
    go_wp2_with fail
    go_ret
    exact ⟨by rw [Ht.out]; rfl, (kW.trans KV).trans hKa⟩
  | true =>
    have hq := of_decide_eq_true hok
    obtain ⟨n, hn⟩ : ∃ n : Nat, p.l = (n : Int) := ⟨p.l.toNat, by omega⟩
    have hn32 : n ≤ 32 := by omega
    have Ht : Hid (toldB p = !badKind p.a n) := Lib.hid (by simp [toldB, hok, hn])
    have Hok := Lib.hid hok; clear hok hq
    have HR := Lib.hid (fun w => rright_any p w ha)
    rw [hn] at hW p1 B0 HR ⊢
    clear hn
    go_enter Tryz.func45, Tryz.ntmps45
    go_wp2_with fail
    go_region_held3 (fun w' => w'.cell? ⟨w.heap.size, 0, none⟩ = some (.int .u32 p.a) ∧ w'.cell? ⟨w.heap.size, 1, none⟩ = some (.int .i64 n)) (first | exact ⟨(Ka.trans Kb).cell p0, (Ka.trans Kb).cell p1⟩ | exact ⟨Ka.cell p0, Ka.cell p1⟩ | go_keep) (first | (go_at_call 51; refine (HR.out _).mono ?_; rintro e wa ⟨rfl, hKa⟩; rw [Hok.out]; have Ka : Kp W wa := (Kp.refl W).drew.trans hKa) | (go_at_call 65; refine (rmask_any n _ hn32).mono ?_; rintro e w' ⟨rfl, rfl⟩) | (go_at_call 64; refine (rbad_any p.a n _ ha hn32).mono ?_; rintro e wb ⟨rfl, Kb⟩))
    go_wp2_with fail
    go_ret
    exact ⟨by rw [Ht.out]; rfl, (kW.trans Ka).trans Kb⟩

theorem rtime_any (d : Int) (w : World) : Calls Tryz.prog 47 #[.int .i64 d] w fun e w' => e = .returned (.bool (withB 0 4611686018427387904 d)) ∧ w = w' := by
  obtain ⟨T, hT⟩ : ∃ T : Int, (4611686018427387904 : Int) = T := ⟨_, rfl⟩
  by_cases h0 : d < 0
  · have e : withB 0 4611686018427387904 d = false := by simp [withB, h0]
    have d0 : decide (0 ≤ d) = false := by simp; omega
    rw [e]
    clear e h0 hT
    go_enter Tryz.func47, Tryz.ntmps47
    go_wp2_with fail
    go_ret
    exact ⟨rfl, rfl⟩
  · have d0 : decide (0 ≤ d) = true := by simp; omega
    have e : withB 0 4611686018427387904 d = decide (d ≤ 4611686018427387904) := by
      simp only [withB]
      rw [decide_eq_false h0]
      by_cases h1 : 4611686018427387904 < d
      · rw [decide_eq_true h1, decide_eq_false (by omega)]; rfl
      · rw [decide_eq_false h1, decide_eq_true (by omega)]; rfl
    rw [e]
    clear e h0 hT
    go_enter Tryz.func47, Tryz.ntmps47
    go_wp2_with fail
    go_ret
    exact ⟨rfl, rfl⟩

set_option maxHeartbeats 1000000 in
theorem rside_any (f : Int) (x : Nat) (w : World) (hx : x < 4294967296) : Calls Tryz.prog 46 #[.int .i64 f, .int .u32 x] w fun e w' => e = .returned (.bool (mayB f x)) ∧ Kp w w' := by
  obtain ⟨r, hr⟩ : ∃ r, mayB f x = r := ⟨_, rfl⟩
  rw [hr]
  have Hk := Lib.hid (rkind_any x w hx)
  unfold mayB withB at hr
  obtain ⟨k, hkk⟩ : ∃ k, kindN x = k := ⟨_, rfl⟩
  rw [hkk] at hr Hk
  clear hkk
  by_cases h0 : f < 0
  · obtain rfl : r = false := by rw [← hr]; simp [h0]
    have d0 : decide (0 ≤ f) = false := by simp; omega
    clear hr h0
    go_enter Tryz.func46, Tryz.ntmps46
    go_wp2_with fail
    go_ret
    exact ⟨rfl, Kp.refl _⟩
  have d0 : decide (0 ≤ f) = true := by simp; omega
  by_cases h1 : 15 < f
  · obtain rfl : r = false := by rw [← hr]; simp [h1]
    have d1 : decide (f ≤ 15) = false := by simp; omega
    clear hr h0 h1
    go_enter Tryz.func46, Tryz.ntmps46
    go_wp2_with fail
    go_ret
    exact ⟨rfl, Kp.refl _⟩
  have d1 : decide (f ≤ 15) = true := by simp; omega
  have hr' : ((k : Int) == 6) = r := by rw [← hr]; simp [h0, h1]
  have Hr := Lib.hid hr'
  clear hr h0 h1 hr'
  go_enter Tryz.func46, Tryz.ntmps46
  go_wp2_with fail
  refine Hk.out.mono ?_
  rintro e w1 ⟨rfl, hK⟩
  have hr := Hr.out
  go_wp2_with fail
  go_ret
  exact ⟨rfl, hK⟩
end Go.Proofs.YtfaiponmjjbgoaaGreatDoor

/- Hops and routes compared; the reference of layer 11: which routes may be. -/
namespace Go.Proofs.YtfaiponmjjbgoaaGreatDoor
open Go.RowKit

set_option maxRecDepth 100000 in
set_option maxHeartbeats 1000000 in
theorem hop_eql (w : World) (a l f x m a' l' f' x' m' : Int) (d d' : Bool) : (binOp .eql 53 (.agg #[.int .u32 a, .int .i64 l, .bool d, .int .i64 f, .int .u32 x, .int .i64 m]) (.agg #[.int .u32 a', .int .i64 l', .bool d', .int .i64 f', .int .u32 x', .int .i64 m'])).run Tryz.prog w = .ok (.bool ((a == a' && l == l') && (d == d') && (f == f') && (x == x') && (m == m'))) w := by
  rw [run_eql_struct, run_equalIn_agg w 9999 _ _ _ Tryz.underlying53 (by kernel_rfl)]
  simp [Op.eqFields, part, go_sem, Tryz.underlying3, Tryz.underlying24, Tryz.underlying4]
  repeat' split
  all_goals simp_all
set_option maxRecDepth 100000 in
set_option maxHeartbeats 1000000 in
theorem hop_neq (w : World) (a l f x m a' l' f' x' m' : Int) (d d' : Bool) : (binOp .neq 53 (.agg #[.int .u32 a, .int .i64 l, .bool d, .int .i64 f, .int .u32 x, .int .i64 m]) (.agg #[.int .u32 a', .int .i64 l', .bool d', .int .i64 f', .int .u32 x', .int .i64 m'])).run Tryz.prog w = .ok (.bool (!((a == a' && l == l') && (d == d') && (f == f') && (x == x') && (m == m')))) w := by
  rw [run_neq_struct, run_equalIn_agg w 9999 _ _ _ Tryz.underlying53 (by kernel_rfl)]
  simp [Op.eqFields, part, go_sem, Tryz.underlying3, Tryz.underlying24, Tryz.underlying4]
  repeat' split
  all_goals simp_all
theorem hp_beq {h k : Hp} : ((((h.p.a : Int) == k.p.a && (h.p.l : Int) == k.p.l) && (h.d == k.d)) && (h.f == k.f) && ((h.x : Int) == k.x) && (h.m == k.m)) = decide (h = k) := by
  obtain ⟨⟨a, l⟩, d, f, x, m⟩ := h
  obtain ⟨⟨a', l'⟩, d', f', x', m'⟩ := k
  rw [Bool.eq_iff_iff]
  simp only [Bool.and_eq_true, beq_iff_eq, decide_eq_true_eq, Hp.mk.injEq, Pn.mk.injEq]
  constructor
  · rintro ⟨⟨⟨⟨⟨h1, h2⟩, h3⟩, h4⟩, h5⟩, h6⟩
    exact ⟨⟨by omega, by omega⟩, h3, h4, by omega, h6⟩
  · rintro ⟨⟨h1, h2⟩, h3, h4, h5, h6⟩
    exact ⟨⟨⟨⟨⟨by omega, by omega⟩, h3⟩, h4⟩, by omega⟩, h6⟩
theorem hopV_ne (w : World) (h k : Hp) : (binOp .neq 53 (hopV h) (hopV k)).run Tryz.prog w = .ok (.bool (!decide (h = k))) w := by
  unfold hopV
  rw [hop_neq, hp_beq]

set_option maxRecDepth 100000 in
set_option maxHeartbeats 1000000 in
theorem route_eql (w : World) (a l s m t f x d a' l' s' m' t' f' x' d' : Int) (c c' : Bool) : (binOp .eql 29 (.agg #[.int .u32 a, .int .i64 l, .int .i64 s, .int .i64 m, .int .i64 t, .int .i64 f, .int .u32 x, .int .i64 d, .bool c]) (.agg #[.int .u32 a', .int .i64 l', .int .i64 s', .int .i64 m', .int .i64 t', .int .i64 f', .int .u32 x', .int .i64 d', .bool c'])).run Tryz.prog w = .ok (.bool ((a == a' && l == l') && (s == s') && (m == m') && (t == t') && (f == f') && (x == x') && (d == d') && (c == c'))) w := by
  rw [run_eql_struct, run_equalIn_agg w 9999 _ _ _ Tryz.underlying29 (by kernel_rfl)]
  simp [Op.eqFields, part, go_sem, Tryz.underlying3, Tryz.underlying2, Tryz.underlying24, Tryz.underlying4, Tryz.underlying27]
  repeat' split
  all_goals simp_all

def rightB (r : Rt) : Bool := stateB r && toldB r.p
theorem check_right (r : Rt) : checkR r = if rightB r then 0 else 2 := rfl

set_option maxRecDepth 100000 in
set_option maxHeartbeats 4000000 in
theorem right_no (r : Rt) (w : World) (ha : r.p.a < 4294967296) (hx : r.x < 4294967296) (ht : toldB r.p = false) : Calls Tryz.prog 28 #[.agg #[.int .u32 r.p.a, .int .i64 r.p.l, .int .i64 r.s, .int .i64 r.m, .int .i64 r.l, .int .i64 r.f, .int .u32 r.x, .int .i64 r.d, .bool r.c]] w fun e w' => e = .returned (.bool (rightB r)) ∧ Kp w w' := by
  obtain ⟨W, hW, kW, B0⟩ : ∃ W, w.alloc (.cells #[.int .u32 r.p.a, .int .i64 r.p.l, .int .i64 r.s, .int .i64 r.m, .int .i64 r.l, .int .i64 r.f, .int .u32 r.x, .int .i64 r.d, .bool r.c] 29) = W ∧ Kp w W ∧ Blk W w.heap.size 29 #[.int .u32 r.p.a, .int .i64 r.p.l, .int .i64 r.s, .int .i64 r.m, .int .i64 r.l, .int .i64 r.f, .int .u32 r.x, .int .i64 r.d, .bool r.c] := ⟨_, rfl, (Kp.refl _).alloc _, Blk.new w _ _⟩
  obtain ⟨R, hR⟩ : ∃ R, rightB r = R := ⟨_, rfl⟩
  rw [hR]
  have HR := Lib.hid hR; clear hR
  have p0 : W.cell? ⟨w.heap.size, 0, none⟩ = some (.int .u32 r.p.a) := B0.cell 0
  have p1 : W.cell? ⟨w.heap.size, 1, none⟩ = some (.int .i64 r.p.l) := B0.cell 1
  obtain rfl : R = false := by rw [← HR.out]; simp [rightB, ht]
  have Ht := Lib.hid ht; clear ht
  go_enter Tryz.func28, Tryz.ntmps28
  go_wp2_with fail
  refine (good_any r.p _ ha).mono ?_
  rintro e w1 ⟨rfl, hK⟩
  rw [Ht.out]
  go_wp2_with fail
  go_ret
  exact ⟨rfl, kW.trans hK⟩

set_option maxRecDepth 100000 in
set_option maxHeartbeats 4000000 in
theorem right_0 (r : Rt) (w : World) (ha : r.p.a < 4294967296) (hx : r.x < 4294967296) (ht : toldB r.p = true) (hs : r.s = 0) : Calls Tryz.prog 28 #[.agg #[.int .u32 r.p.a, .int .i64 r.p.l, .int .i64 r.s, .int .i64 r.m, .int .i64 r.l, .int .i64 r.f, .int .u32 r.x, .int .i64 r.d, .bool r.c]] w fun e w' => e = .returned (.bool (rightB r)) ∧ Kp w w' := by
  obtain ⟨W, hW, kW, B0⟩ : ∃ W, w.alloc (.cells #[.int .u32 r.p.a, .int .i64 r.p.l, .int .i64 r.s, .int .i64 r.m, .int .i64 r.l, .int .i64 r.f, .int .u32 r.x, .int .i64 r.d, .bool r.c] 29) = W ∧ Kp w W ∧ Blk W w.heap.size 29 #[.int .u32 r.p.a, .int .i64 r.p.l, .int .i64 r.s, .int .i64 r.m, .int .i64 r.l, .int .i64 r.f, .int .u32 r.x, .int .i64 r.d, .bool r.c] := ⟨_, rfl, (Kp.refl _).alloc _, Blk.new w _ _⟩
  obtain ⟨R, hR⟩ : ∃ R, rightB r = R := ⟨_, rfl⟩
  rw [hR]
  have HR := Lib.hid hR; clear hR
  have p0 : W.cell? ⟨w.heap.size, 0, none⟩ = some (.int .u32 r.p.a) := B0.cell 0
  have p1 : W.cell? ⟨w.heap.size, 1, none⟩ = some (.int .i64 r.p.l) := B0.cell 1
  have Hs := Lib.hid hs
  have Ht := Lib.hid ht
  have HR2 : Hid (stateB r = R) := by rw [← HR.out]; exact Lib.hid (by simp [rightB, ht])
  clear ht hs HR
  go_enter Tryz.func28, Tryz.ntmps28
  go_wp2_with fail
  refine (good_any r.p _ ha).mono ?_
  rintro e w1 ⟨rfl, hK⟩
  rw [Ht.out]
  have k1 := kW.trans hK
  have B1 := B0.keep hK
  clear p0 p1 hW
  have c0 : w1.cell? ⟨w.heap.size, 0, none⟩ = some (.int .u32 r.p.a) := B1.cell 0
  have c1 : w1.cell? ⟨w.heap.size, 1, none⟩ = some (.int .i64 r.p.l) := B1.cell 1
  have c2 : w1.cell? ⟨w.heap.size, 2, none⟩ = some (.int .i64 0) := by have := B1.cell 2; rw [Hs.out] at this; exact this
  have c3 : w1.cell? ⟨w.heap.size, 3, none⟩ = some (.int .i64 r.m) := B1.cell 3
  have c4 : w1.cell? ⟨w.heap.size, 4, none⟩ = some (.int .i64 r.l) := B1.cell 4
  have c5 : w1.cell? ⟨w.heap.size, 5, none⟩ = some (.int .i64 r.f) := B1.cell 5
  have c6 : w1.cell? ⟨w.heap.size, 6, none⟩ = some (.int .u32 r.x) := B1.cell 6
  have c7 : w1.cell? ⟨w.heap.size, 7, none⟩ = some (.int .i64 r.d) := B1.cell 7
  have c8 : w1.cell? ⟨w.heap.size, 8, none⟩ = some (.bool r.c) := B1.cell 8
  go_wp2_with fail
  all_goals
    go_ret
    refine ⟨?_, k1⟩
    have h8 := Hs.out
    rw [← HR2.out]
    simp [stateB, hasB, nowB, *]

set_option maxRecDepth 100000 in
set_option maxHeartbeats 4000000 in
theorem right_1 (r : Rt) (w : World) (ha : r.p.a < 4294967296) (hx : r.x < 4294967296) (ht : toldB r.p = true) (hs : r.s = 1) : Calls Tryz.prog 28 #[.agg #[.int .u32 r.p.a, .int .i64 r.p.l, .int .i64 r.s, .int .i64 r.m, .int .i64 r.l, .int .i64 r.f, .int .u32 r.x, .int .i64 r.d, .bool r.c]] w fun e w' => e = .returned (.bool (rightB r)) ∧ Kp w w' := by
  obtain ⟨W, hW, kW, B0⟩ : ∃ W, w.alloc (.cells #[.int .u32 r.p.a, .int .i64 r.p.l, .int .i64 r.s, .int .i64 r.m, .int .i64 r.l, .int .i64 r.f, .int .u32 r.x, .int .i64 r.d, .bool r.c] 29) = W ∧ Kp w W ∧ Blk W w.heap.size 29 #[.int .u32 r.p.a, .int .i64 r.p.l, .int .i64 r.s, .int .i64 r.m, .int .i64 r.l, .int .i64 r.f, .int .u32 r.x, .int .i64 r.d, .bool r.c] := ⟨_, rfl, (Kp.refl _).alloc _, Blk.new w _ _⟩
  obtain ⟨R, hR⟩ : ∃ R, rightB r = R := ⟨_, rfl⟩
  rw [hR]
  have HR := Lib.hid hR; clear hR
  have p0 : W.cell? ⟨w.heap.size, 0, none⟩ = some (.int .u32 r.p.a) := B0.cell 0
  have p1 : W.cell? ⟨w.heap.size, 1, none⟩ = some (.int .i64 r.p.l) := B0.cell 1
  have Hs := Lib.hid hs
  have Ht := Lib.hid ht
  have HR2 : Hid (stateB r = R) := by rw [← HR.out]; exact Lib.hid (by simp [rightB, ht])
  clear ht hs HR
  go_enter Tryz.func28, Tryz.ntmps28
  go_wp2_with fail
  refine (good_any r.p _ ha).mono ?_
  rintro e w1 ⟨rfl, hK⟩
  rw [Ht.out]
  have k1 := kW.trans hK
  have B1 := B0.keep hK
  clear p0 p1 hW
  have c0 : w1.cell? ⟨w.heap.size, 0, none⟩ = some (.int .u32 r.p.a) := B1.cell 0
  have c1 : w1.cell? ⟨w.heap.size, 1, none⟩ = some (.int .i64 r.p.l) := B1.cell 1
  have c2 : w1.cell? ⟨w.heap.size, 2, none⟩ = some (.int .i64 1) := by have := B1.cell 2; rw [Hs.out] at this; exact this
  have c3 : w1.cell? ⟨w.heap.size, 3, none⟩ = some (.int .i64 r.m) := B1.cell 3
  have c4 : w1.cell? ⟨w.heap.size, 4, none⟩ = some (.int .i64 r.l) := B1.cell 4
  have c5 : w1.cell? ⟨w.heap.size, 5, none⟩ = some (.int .i64 r.f) := B1.cell 5
  have c6 : w1.cell? ⟨w.heap.size, 6, none⟩ = some (.int .u32 r.x) := B1.cell 6
  have c7 : w1.cell? ⟨w.heap.size, 7, none⟩ = some (.int .i64 r.d) := B1.cell 7
  have c8 : w1.cell? ⟨w.heap.size, 8, none⟩ = some (.bool r.c) := B1.cell 8
  go_wp2_with fail
  all_goals
    go_ret
    refine ⟨?_, k1⟩
    have h8 := Hs.out
    rw [← HR2.out]
    simp [stateB, hasB, nowB, *]

set_option maxRecDepth 100000 in
set_option maxHeartbeats 4000000 in
theorem right_z (r : Rt) (w : World) (ha : r.p.a < 4294967296) (hx : r.x < 4294967296) (ht : toldB r.p = true) (hs : r.s ≠ 0 ∧ r.s ≠ 1 ∧ r.s ≠ 2 ∧ r.s ≠ 3 ∧ r.s ≠ 4) : Calls Tryz.prog 28 #[.agg #[.int .u32 r.p.a, .int .i64 r.p.l, .int .i64 r.s, .int .i64 r.m, .int .i64 r.l, .int .i64 r.f, .int .u32 r.x, .int .i64 r.d, .bool r.c]] w fun e w' => e = .returned (.bool (rightB r)) ∧ Kp w w' := by
  obtain ⟨W, hW, kW, B0⟩ : ∃ W, w.alloc (.cells #[.int .u32 r.p.a, .int .i64 r.p.l, .int .i64 r.s, .int .i64 r.m, .int .i64 r.l, .int .i64 r.f, .int .u32 r.x, .int .i64 r.d, .bool r.c] 29) = W ∧ Kp w W ∧ Blk W w.heap.size 29 #[.int .u32 r.p.a, .int .i64 r.p.l, .int .i64 r.s, .int .i64 r.m, .int .i64 r.l, .int .i64 r.f, .int .u32 r.x, .int .i64 r.d, .bool r.c] := ⟨_, rfl, (Kp.refl _).alloc _, Blk.new w _ _⟩
  obtain ⟨R, hR⟩ : ∃ R, rightB r = R := ⟨_, rfl⟩
  rw [hR]
  have HR := Lib.hid hR; clear hR
  have p0 : W.cell? ⟨w.heap.size, 0, none⟩ = some (.int .u32 r.p.a) := B0.cell 0
  have p1 : W.cell? ⟨w.heap.size, 1, none⟩ = some (.int .i64 r.p.l) := B0.cell 1
  have q0 : (r.s == 0) = false := by simpa using hs.1
  have q1 : (r.s == 1) = false := by simpa using hs.2.1
  have q2 : (r.s == 2) = false := by simpa using hs.2.2.1
  have q3 : (r.s == 3) = false := by simpa using hs.2.2.2.1
  have q4 : (r.s == 4) = false := by simpa using hs.2.2.2.2
  have Hs := Lib.hid hs
  have Ht := Lib.hid ht
  have HR2 : Hid (stateB r = R) := by rw [← HR.out]; exact Lib.hid (by simp [rightB, ht])
  clear ht hs HR
  go_enter Tryz.func28, Tryz.ntmps28
  go_wp2_with fail
  refine (good_any r.p _ ha).mono ?_
  rintro e w1 ⟨rfl, hK⟩
  rw [Ht.out]
  have k1 := kW.trans hK
  have B1 := B0.keep hK
  clear p0 p1 hW
  have c0 : w1.cell? ⟨w.heap.size, 0, none⟩ = some (.int .u32 r.p.a) := B1.cell 0
  have c1 : w1.cell? ⟨w.heap.size, 1, none⟩ = some (.int .i64 r.p.l) := B1.cell 1
  have c2 : w1.cell? ⟨w.heap.size, 2, none⟩ = some (.int .i64 r.s) := by have := B1.cell 2; exact this
  have c3 : w1.cell? ⟨w.heap.size, 3, none⟩ = some (.int .i64 r.m) := B1.cell 3
  have c4 : w1.cell? ⟨w.heap.size, 4, none⟩ = some (.int .i64 r.l) := B1.cell 4
  have c5 : w1.cell? ⟨w.heap.size, 5, none⟩ = some (.int .i64 r.f) := B1.cell 5
  have c6 : w1.cell? ⟨w.heap.size, 6, none⟩ = some (.int .u32 r.x) := B1.cell 6
  have c7 : w1.cell? ⟨w.heap.size, 7, none⟩ = some (.int .i64 r.d) := B1.cell 7
  have c8 : w1.cell? ⟨w.heap.size, 8, none⟩ = some (.bool r.c) := B1.cell 8
  obtain rfl : R = false := by rw [← HR2.out]; simp [stateB, Hs.out]
  go_wp2_with fail
  go_ret
  exact ⟨rfl, k1⟩

set_option maxRecDepth 100000 in
set_option maxHeartbeats 4000000 in
theorem right_2 (r : Rt) (w : World) (ha : r.p.a < 4294967296) (hx : r.x < 4294967296) (ht : toldB r.p = true) (hs : r.s = 2) : Calls Tryz.prog 28 #[.agg #[.int .u32 r.p.a, .int .i64 r.p.l, .int .i64 r.s, .int .i64 r.m, .int .i64 r.l, .int .i64 r.f, .int .u32 r.x, .int .i64 r.d, .bool r.c]] w fun e w' => e = .returned (.bool (rightB r)) ∧ Kp w w' := by
  obtain ⟨W, hW, kW, B0⟩ : ∃ W, w.alloc (.cells #[.int .u32 r.p.a, .int .i64 r.p.l, .int .i64 r.s, .int .i64 r.m, .int .i64 r.l, .int .i64 r.f, .int .u32 r.x, .int .i64 r.d, .bool r.c] 29) = W ∧ Kp w W ∧ Blk W w.heap.size 29 #[.int .u32 r.p.a, .int .i64 r.p.l, .int .i64 r.s, .int .i64 r.m, .int .i64 r.l, .int .i64 r.f, .int .u32 r.x, .int .i64 r.d, .bool r.c] := ⟨_, rfl, (Kp.refl _).alloc _, Blk.new w _ _⟩
  obtain ⟨R, hR⟩ : ∃ R, rightB r = R := ⟨_, rfl⟩
  rw [hR]
  have HR := Lib.hid hR; clear hR
  have p0 : W.cell? ⟨w.heap.size, 0, none⟩ = some (.int .u32 r.p.a) := B0.cell 0
  have p1 : W.cell? ⟨w.heap.size, 1, none⟩ = some (.int .i64 r.p.l) := B0.cell 1
  have Hs := Lib.hid hs
  have Ht := Lib.hid ht
  have HR2 : Hid (stateB r = R) := by rw [← HR.out]; exact Lib.hid (by simp [rightB, ht])
  clear ht hs HR
  go_enter Tryz.func28, Tryz.ntmps28
  go_wp2_with fail
  refine (good_any r.p _ ha).mono ?_
  rintro e w1 ⟨rfl, hK⟩
  rw [Ht.out]
  have k1 := kW.trans hK
  have B1 := B0.keep hK
  clear p0 p1 hW
  have c0 : w1.cell? ⟨w.heap.size, 0, none⟩ = some (.int .u32 r.p.a) := B1.cell 0
  have c1 : w1.cell? ⟨w.heap.size, 1, none⟩ = some (.int .i64 r.p.l) := B1.cell 1
  have c2 : w1.cell? ⟨w.heap.size, 2, none⟩ = some (.int .i64 2) := by have := B1.cell 2; rw [Hs.out] at this; exact this
  have c3 : w1.cell? ⟨w.heap.size, 3, none⟩ = some (.int .i64 r.m) := B1.cell 3
  have c4 : w1.cell? ⟨w.heap.size, 4, none⟩ = some (.int .i64 r.l) := B1.cell 4
  have c5 : w1.cell? ⟨w.heap.size, 5, none⟩ = some (.int .i64 r.f) := B1.cell 5
  have c6 : w1.cell? ⟨w.heap.size, 6, none⟩ = some (.int .u32 r.x) := B1.cell 6
  have c7 : w1.cell? ⟨w.heap.size, 7, none⟩ = some (.int .i64 r.d) := B1.cell 7
  have c8 : w1.cell? ⟨w.heap.size, 8, none⟩ = some (.bool r.c) := B1.cell 8
  have HS : Hid (R = ((mayB r.f r.x && withB 0 4611686018427387904 r.d) && (decide (2 ≤ r.m) && decide (r.m ≤ 15) && (r.l == 0)))) := by
    rw [← HR2.out]
    simp only [stateB, Hs.out, hasB, someB, withB]
    refine Lib.hid ?_
    simp only [show ¬ ((2 : Int) = 0) by omega, show ¬ ((2 : Int) = 1) by omega, if_true, if_false]
    cases mayB r.f r.x
    · simp
    · rw [Bool.eq_iff_iff]
      simp only [Bool.and_eq_true, Bool.not_eq_true', decide_eq_false_iff_not, decide_eq_true_eq, beq_iff_eq, true_and, and_true]
      omega
  obtain ⟨sb, hsb⟩ : ∃ sb, mayB r.f r.x = sb := ⟨_, rfl⟩
  have Hsd := Lib.hid (fun w => rside_any r.f r.x w hx)
  rw [hsb] at HS Hsd
  clear hsb
  obtain ⟨tb, htb⟩ : ∃ tb, withB 0 4611686018427387904 r.d = tb := ⟨_, rfl⟩
  have Htd := Lib.hid (fun w => rtime_any r.d w)
  rw [htb] at HS Htd
  clear htb
  obtain ⟨b0, h0⟩ : ∃ b0, decide (2 ≤ r.m) = b0 := ⟨_, rfl⟩
  obtain ⟨b1, h1⟩ : ∃ b1, decide (r.m ≤ 15) = b1 := ⟨_, rfl⟩
  obtain ⟨b2, h2⟩ : ∃ b2, (r.l == 0) = b2 := ⟨_, rfl⟩
  rw [h0, h1, h2] at HS
  go_wp2_with fail
  refine (Hsd.out _).mono ?_
  rintro e w2 ⟨rfl, hK2⟩
  have k2 := k1.trans hK2
  have B2 := B1.keep hK2
  clear c0 c1 c2 c3 c4 c5 c6 c7 c8
  have d3 : w2.cell? ⟨w.heap.size, 3, none⟩ = some (.int .i64 r.m) := B2.cell 3
  have d4 : w2.cell? ⟨w.heap.size, 4, none⟩ = some (.int .i64 r.l) := B2.cell 4
  have d7 : w2.cell? ⟨w.heap.size, 7, none⟩ = some (.int .i64 r.d) := B2.cell 7
  cases sb with
  | false =>
    obtain rfl : R = false := by rw [HS.out]; rfl
    clear h0 h1 h2
    go_wp2_with fail
    go_ret
    exact ⟨rfl, k2⟩
  | true =>
  go_wp2_with fail
  refine (Htd.out _).mono ?_
  rintro e w' ⟨rfl, rfl⟩
  cases tb with
  | false =>
    obtain rfl : R = false := by rw [HS.out]; rfl
    clear h0 h1 h2
    go_wp2_with fail
    go_ret
    exact ⟨rfl, k2⟩
  | true =>
  cases b0 with
  | false =>
    obtain rfl : R = false := by rw [HS.out]; simp
    clear HS h1 h2
    go_wp2_with fail
    go_ret
    exact ⟨rfl, k2⟩
  | true =>
  cases b1 with
  | false =>
    obtain rfl : R = false := by rw [HS.out]; simp
    clear HS h2
    go_wp2_with fail
    go_ret
    exact ⟨rfl, k2⟩
  | true =>
  cases b2 with
  | false =>
    obtain rfl : R = false := by rw [HS.out]; simp
    clear HS
    go_wp2_with fail
    go_ret
    exact ⟨rfl, k2⟩
  | true =>
  obtain rfl : R = true := by rw [HS.out]; rfl
  clear HS
  go_wp2_with fail
  go_ret
  exact ⟨rfl, k2⟩

set_option maxRecDepth 100000 in
set_option maxHeartbeats 4000000 in
theorem right_3 (r : Rt) (w : World) (ha : r.p.a < 4294967296) (hx : r.x < 4294967296) (ht : toldB r.p = true) (hs : r.s = 3) : Calls Tryz.prog 28 #[.agg #[.int .u32 r.p.a, .int .i64 r.p.l, .int .i64 r.s, .int .i64 r.m, .int .i64 r.l, .int .i64 r.f, .int .u32 r.x, .int .i64 r.d, .bool r.c]] w fun e w' => e = .returned (.bool (rightB r)) ∧ Kp w w' := by
  obtain ⟨W, hW, kW, B0⟩ : ∃ W, w.alloc (.cells #[.int .u32 r.p.a, .int .i64 r.p.l, .int .i64 r.s, .int .i64 r.m, .int .i64 r.l, .int .i64 r.f, .int .u32 r.x, .int .i64 r.d, .bool r.c] 29) = W ∧ Kp w W ∧ Blk W w.heap.size 29 #[.int .u32 r.p.a, .int .i64 r.p.l, .int .i64 r.s, .int .i64 r.m, .int .i64 r.l, .int .i64 r.f, .int .u32 r.x, .int .i64 r.d, .bool r.c] := ⟨_, rfl, (Kp.refl _).alloc _, Blk.new w _ _⟩
  obtain ⟨R, hR⟩ : ∃ R, rightB r = R := ⟨_, rfl⟩
  rw [hR]
  have HR := Lib.hid hR; clear hR
  have p0 : W.cell? ⟨w.heap.size, 0, none⟩ = some (.int .u32 r.p.a) := B0.cell 0
  have p1 : W.cell? ⟨w.heap.size, 1, none⟩ = some (.int .i64 r.p.l) := B0.cell 1
  have Hs := Lib.hid hs
  have Ht := Lib.hid ht
  have HR2 : Hid (stateB r = R) := by rw [← HR.out]; exact Lib.hid (by simp [rightB, ht])
  clear ht hs HR
  go_enter Tryz.func28, Tryz.ntmps28
  go_wp2_with fail
  refine (good_any r.p _ ha).mono ?_
  rintro e w1 ⟨rfl, hK⟩
  rw [Ht.out]
  have k1 := kW.trans hK
  have B1 := B0.keep hK
  clear p0 p1 hW
  have c0 : w1.cell? ⟨w.heap.size, 0, none⟩ = some (.int .u32 r.p.a) := B1.cell 0
  have c1 : w1.cell? ⟨w.heap.size, 1, none⟩ = some (.int .i64 r.p.l) := B1.cell 1
  have c2 : w1.cell? ⟨w.heap.size, 2, none⟩ = some (.int .i64 3) := by have := B1.cell 2; rw [Hs.out] at this; exact this
  have c3 : w1.cell? ⟨w.heap.size, 3, none⟩ = some (.int .i64 r.m) := B1.cell 3
  have c4 : w1.cell? ⟨w.heap.size, 4, none⟩ = some (.int .i64 r.l) := B1.cell 4
  have c5 : w1.cell? ⟨w.heap.size, 5, none⟩ = some (.int .i64 r.f) := B1.cell 5
  have c6 : w1.cell? ⟨w.heap.size, 6, none⟩ = some (.int .u32 r.x) := B1.cell 6
  have c7 : w1.cell? ⟨w.heap.size, 7, none⟩ = some (.int .i64 r.d) := B1.cell 7
  have c8 : w1.cell? ⟨w.heap.size, 8, none⟩ = some (.bool r.c) := B1.cell 8
  have HS : Hid (R = ((mayB r.f r.x && withB 0 4611686018427387904 r.d) && ((r.m == 16) && decide (2 ≤ r.l) && decide (r.l ≤ 15)))) := by
    rw [← HR2.out]
    simp only [stateB, Hs.out, hasB, someB, withB]
    refine Lib.hid ?_
    simp only [show ¬ ((3 : Int) = 0) by omega, show ¬ ((3 : Int) = 1) by omega, show ¬ ((3 : Int) = 2) by omega, if_true, if_false]
    cases mayB r.f r.x
    · simp
    · rw [Bool.eq_iff_iff]
      simp only [Bool.and_eq_true, Bool.not_eq_true', decide_eq_false_iff_not, decide_eq_true_eq, beq_iff_eq, true_and, and_true]
      omega
  obtain ⟨sb, hsb⟩ : ∃ sb, mayB r.f r.x = sb := ⟨_, rfl⟩
  have Hsd := Lib.hid (fun w => rside_any r.f r.x w hx)
  rw [hsb] at HS Hsd
  clear hsb
  obtain ⟨tb, htb⟩ : ∃ tb, withB 0 4611686018427387904 r.d = tb := ⟨_, rfl⟩
  have Htd := Lib.hid (fun w => rtime_any r.d w)
  rw [htb] at HS Htd
  clear htb
  obtain ⟨b0, h0⟩ : ∃ b0, (r.m == 16) = b0 := ⟨_, rfl⟩
  obtain ⟨b1, h1⟩ : ∃ b1, decide (2 ≤ r.l) = b1 := ⟨_, rfl⟩
  obtain ⟨b2, h2⟩ : ∃ b2, decide (r.l ≤ 15) = b2 := ⟨_, rfl⟩
  rw [h0, h1, h2] at HS
  go_wp2_with fail
  refine (Hsd.out _).mono ?_
  rintro e w2 ⟨rfl, hK2⟩
  have k2 := k1.trans hK2
  have B2 := B1.keep hK2
  clear c0 c1 c2 c3 c4 c5 c6 c7 c8
  have d3 : w2.cell? ⟨w.heap.size, 3, none⟩ = some (.int .i64 r.m) := B2.cell 3
  have d4 : w2.cell? ⟨w.heap.size, 4, none⟩ = some (.int .i64 r.l) := B2.cell 4
  have d7 : w2.cell? ⟨w.heap.size, 7, none⟩ = some (.int .i64 r.d) := B2.cell 7
  cases sb with
  | false =>
    obtain rfl : R = false := by rw [HS.out]; rfl
    clear h0 h1 h2
    go_wp2_with fail
    go_ret
    exact ⟨rfl, k2⟩
  | true =>
  go_wp2_with fail
  refine (Htd.out _).mono ?_
  rintro e w' ⟨rfl, rfl⟩
  cases tb with
  | false =>
    obtain rfl : R = false := by rw [HS.out]; rfl
    clear h0 h1 h2
    go_wp2_with fail
    go_ret
    exact ⟨rfl, k2⟩
  | true =>
  cases b0 with
  | false =>
    obtain rfl : R = false := by rw [HS.out]; simp
    clear HS h1 h2
    go_wp2_with fail
    go_ret
    exact ⟨rfl, k2⟩
  | true =>
  cases b1 with
  | false =>
    obtain rfl : R = false := by rw [HS.out]; simp
    clear HS h2
    go_wp2_with fail
    go_ret
    exact ⟨rfl, k2⟩
  | true =>
  cases b2 with
  | false =>
    obtain rfl : R = false := by rw [HS.out]; simp
    clear HS
    go_wp2_with fail
    go_ret
    exact ⟨rfl, k2⟩
  | true =>
  obtain rfl : R = true := by rw [HS.out]; rfl
  clear HS
  go_wp2_with fail
  go_ret
  exact ⟨rfl, k2⟩

set_option maxRecDepth 100000 in
set_option maxHeartbeats 4000000 in
theorem right_4 (r : Rt) (w : World) (ha : r.p.a < 4294967296) (hx : r.x < 4294967296) (ht : toldB r.p = true) (hs : r.s = 4) : Calls Tryz.prog 28 #[.agg #[.int .u32 r.p.a, .int .i64 r.p.l, .int .i64 r.s, .int .i64 r.m, .int .i64 r.l, .int .i64 r.f, .int .u32 r.x, .int .i64 r.d, .bool r.c]] w fun e w' => e = .returned (.bool (rightB r)) ∧ Kp w w' := by
  obtain ⟨W, hW, kW, B0⟩ : ∃ W, w.alloc (.cells #[.int .u32 r.p.a, .int .i64 r.p.l, .int .i64 r.s, .int .i64 r.m, .int .i64 r.l, .int .i64 r.f, .int .u32 r.x, .int .i64 r.d, .bool r.c] 29) = W ∧ Kp w W ∧ Blk W w.heap.size 29 #[.int .u32 r.p.a, .int .i64 r.p.l, .int .i64 r.s, .int .i64 r.m, .int .i64 r.l, .int .i64 r.f, .int .u32 r.x, .int .i64 r.d, .bool r.c] := ⟨_, rfl, (Kp.refl _).alloc _, Blk.new w _ _⟩
  obtain ⟨R, hR⟩ : ∃ R, rightB r = R := ⟨_, rfl⟩
  rw [hR]
  have HR := Lib.hid hR; clear hR
  have p0 : W.cell? ⟨w.heap.size, 0, none⟩ = some (.int .u32 r.p.a) := B0.cell 0
  have p1 : W.cell? ⟨w.heap.size, 1, none⟩ = some (.int .i64 r.p.l) := B0.cell 1
  have Hs := Lib.hid hs
  have Ht := Lib.hid ht
  have HR2 : Hid (stateB r = R) := by rw [← HR.out]; exact Lib.hid (by simp [rightB, ht])
  clear ht hs HR
  go_enter Tryz.func28, Tryz.ntmps28
  go_wp2_with fail
  refine (good_any r.p _ ha).mono ?_
  rintro e w1 ⟨rfl, hK⟩
  rw [Ht.out]
  have k1 := kW.trans hK
  have B1 := B0.keep hK
  clear p0 p1 hW
  have c0 : w1.cell? ⟨w.heap.size, 0, none⟩ = some (.int .u32 r.p.a) := B1.cell 0
  have c1 : w1.cell? ⟨w.heap.size, 1, none⟩ = some (.int .i64 r.p.l) := B1.cell 1
  have c2 : w1.cell? ⟨w.heap.size, 2, none⟩ = some (.int .i64 4) := by have := B1.cell 2; rw [Hs.out] at this; exact this
  have c3 : w1.cell? ⟨w.heap.size, 3, none⟩ = some (.int .i64 r.m) := B1.cell 3
  have c4 : w1.cell? ⟨w.heap.size, 4, none⟩ = some (.int .i64 r.l) := B1.cell 4
  have c5 : w1.cell? ⟨w.heap.size, 5, none⟩ = some (.int .i64 r.f) := B1.cell 5
  have c6 : w1.cell? ⟨w.heap.size, 6, none⟩ = some (.int .u32 r.x) := B1.cell 6
  have c7 : w1.cell? ⟨w.heap.size, 7, none⟩ = some (.int .i64 r.d) := B1.cell 7
  have c8 : w1.cell? ⟨w.heap.size, 8, none⟩ = some (.bool r.c) := B1.cell 8
  have HS : Hid (R = ((mayB r.f r.x && withB 0 4611686018427387904 r.d) && ((r.m == 16) && (r.l == 0)))) := by
    rw [← HR2.out]
    simp only [stateB, Hs.out, hasB, someB, withB]
    refine Lib.hid ?_
    simp only [show ¬ ((4 : Int) = 0) by omega, show ¬ ((4 : Int) = 1) by omega, show ¬ ((4 : Int) = 2) by omega, show ¬ ((4 : Int) = 3) by omega, if_true, if_false]
    cases mayB r.f r.x
    · simp
    · rw [Bool.eq_iff_iff]
      simp only [Bool.and_eq_true, Bool.not_eq_true', decide_eq_false_iff_not, decide_eq_true_eq, beq_iff_eq, true_and, and_true]
      omega
  obtain ⟨sb, hsb⟩ : ∃ sb, mayB r.f r.x = sb := ⟨_, rfl⟩
  have Hsd := Lib.hid (fun w => rside_any r.f r.x w hx)
  rw [hsb] at HS Hsd
  clear hsb
  obtain ⟨tb, htb⟩ : ∃ tb, withB 0 4611686018427387904 r.d = tb := ⟨_, rfl⟩
  have Htd := Lib.hid (fun w => rtime_any r.d w)
  rw [htb] at HS Htd
  clear htb
  obtain ⟨b0, h0⟩ : ∃ b0, (r.m == 16) = b0 := ⟨_, rfl⟩
  obtain ⟨b1, h1⟩ : ∃ b1, (r.l == 0) = b1 := ⟨_, rfl⟩
  rw [h0, h1] at HS
  go_wp2_with fail
  refine (Hsd.out _).mono ?_
  rintro e w2 ⟨rfl, hK2⟩
  have k2 := k1.trans hK2
  have B2 := B1.keep hK2
  clear c0 c1 c2 c3 c4 c5 c6 c7 c8
  have d3 : w2.cell? ⟨w.heap.size, 3, none⟩ = some (.int .i64 r.m) := B2.cell 3
  have d4 : w2.cell? ⟨w.heap.size, 4, none⟩ = some (.int .i64 r.l) := B2.cell 4
  have d7 : w2.cell? ⟨w.heap.size, 7, none⟩ = some (.int .i64 r.d) := B2.cell 7
  cases sb with
  | false =>
    obtain rfl : R = false := by rw [HS.out]; rfl
    clear h0 h1
    go_wp2_with fail
    go_ret
    exact ⟨rfl, k2⟩
  | true =>
  go_wp2_with fail
  refine (Htd.out _).mono ?_
  rintro e w' ⟨rfl, rfl⟩
  cases tb with
  | false =>
    obtain rfl : R = false := by rw [HS.out]; rfl
    clear h0 h1
    go_wp2_with fail
    go_ret
    exact ⟨rfl, k2⟩
  | true =>
  cases b0 with
  | false =>
    obtain rfl : R = false := by rw [HS.out]; simp
    clear HS h1
    go_wp2_with fail
    go_ret
    exact ⟨rfl, k2⟩
  | true =>
  cases b1 with
  | false =>
    obtain rfl : R = false := by rw [HS.out]; simp
    clear HS
    go_wp2_with fail
    go_ret
    exact ⟨rfl, k2⟩
  | true =>
  obtain rfl : R = true := by rw [HS.out]; rfl
  clear HS
  go_wp2_with fail
  go_ret
  exact ⟨rfl, k2⟩

theorem right_any (r : Rt) (w : World) (ha : r.p.a < 4294967296) (hx : r.x < 4294967296) : Calls Tryz.prog 28 #[.agg #[.int .u32 r.p.a, .int .i64 r.p.l, .int .i64 r.s, .int .i64 r.m, .int .i64 r.l, .int .i64 r.f, .int .u32 r.x, .int .i64 r.d, .bool r.c]] w fun e w' => e = .returned (.bool (rightB r)) ∧ Kp w w' := by
  cases ht : toldB r.p with
  | false => exact right_no r w ha hx ht
  | true =>
    by_cases h0 : r.s = 0
    · exact right_0 r w ha hx ht h0
    by_cases h1 : r.s = 1
    · exact right_1 r w ha hx ht h1
    by_cases h2 : r.s = 2
    · exact right_2 r w ha hx ht h2
    by_cases h3 : r.s = 3
    · exact right_3 r w ha hx ht h3
    by_cases h4 : r.s = 4
    · exact right_4 r w ha hx ht h4
    exact right_z r w ha hx ht ⟨h0, h1, h2, h3, h4⟩
end Go.Proofs.YtfaiponmjjbgoaaGreatDoor

/- The reference's Order of prefixes, the hop of a route, and Get. -/
namespace Go.Proofs.YtfaiponmjjbgoaaGreatDoor
open Go.RowKit

def ordP (p q : Pn) : Int := if p = q then 0 else if p.lt q then -1 else 1
theorem ord_le (p q : Pn) : decide (ordP p q ≤ 0) = !decide (q.lt p) := by
  unfold ordP
  by_cases h : p = q
  · subst h; simp [lt_irrefl]
  · by_cases h2 : p.lt q
    · have : ¬ q.lt p := fun h3 => lt_irrefl _ (lt_trans h2 h3)
      simp [h, h2, this]
    · have : q.lt p := by rcases lt_total p q with h3 | h3 | h3
                          · exact absurd h3 h2
                          · exact absurd h3 h
                          · exact h3
      simp [h, h2, this]

set_option maxRecDepth 100000 in
set_option maxHeartbeats 1000000 in
theorem rorder_any (p q : Pn) (w : World) : Calls Tryz.prog 30 #[.agg #[.int .u32 p.a, .int .i64 p.l], .agg #[.int .u32 q.a, .int .i64 q.l]] w fun e w' => e = .returned (.int .i64 (ordP p q)) ∧ Kp w w' := by
  have k2 : Kp w ((w.alloc (.cells #[.int .u32 p.a, .int .i64 p.l] 26)).alloc (.cells #[.int .u32 q.a, .int .i64 q.l] 26)) := ((Kp.refl _).alloc _).alloc _
  by_cases h : p = q
  · have e : ordP p q = 0 := by simp [ordP, h]
    rw [e]
    subst h
    clear e
    have ht := pfx_eq_t
    go_enter Tryz.func30, Tryz.ntmps30
    go_wp2_with fail
    go_ret
    exact ⟨rfl, k2⟩
  · have hf : ∀ w, (binOp .eql 26 (.agg #[.int .u32 p.a, .int .i64 p.l]) (.agg #[.int .u32 q.a, .int .i64 q.l])).run Tryz.prog w = .ok (.bool false) w := fun w => pfx_eq_f w h
    by_cases h1 : p.a < q.a
    · have e : ordP p q = -1 := by simp [ordP, h, Pn.lt, h1]
      rw [e]
      have d1 : decide ((p.a : Int) < q.a) = true := by simpa using h1
      have d1' : decide (p.a < q.a) = true := by simpa using h1
      clear e h
      go_enter Tryz.func30, Tryz.ntmps30
      go_wp2_with fail
      all_goals first
        | (go_ret; exact ⟨rfl, k2⟩)
        | omega
    · have d1 : decide ((p.a : Int) < q.a) = false := by simpa using h1
      have d1' : decide (p.a < q.a) = false := by simpa using h1
      by_cases h2 : p.a = q.a ∧ p.l < q.l
      · have e : ordP p q = -1 := by simp [ordP, h, Pn.lt, h2]
        rw [e]
        have d2 : ((p.a : Int) == q.a) = true := by rw [h2.1]; simp
        have d3 : decide ((p.l : Int) < q.l) = true := by simpa using h2.2
        have d3' : decide (p.l < q.l) = true := by simpa using h2.2
        clear e h h1 h2
        go_enter Tryz.func30, Tryz.ntmps30
        go_wp2_with fail
        all_goals first
          | (go_ret; exact ⟨rfl, k2⟩)
          | omega
      · have e : ordP p q = 1 := by
          have : ¬ p.lt q := by unfold Pn.lt; omega
          simp [ordP, h, this]
        rw [e]
        by_cases h3 : p.a = q.a
        · have d2 : ((p.a : Int) == q.a) = true := by rw [h3]; simp
          have d3 : decide ((p.l : Int) < q.l) = false := by simp; omega
          have d3' : decide (p.l < q.l) = false := by simp; omega
          clear e h h1 h2 h3
          go_enter Tryz.func30, Tryz.ntmps30
          go_wp2_with fail
          all_goals first
            | (go_ret; exact ⟨rfl, k2⟩)
            | omega
        · have d2 : ((p.a : Int) == q.a) = false := by simp; omega
          clear e h h1 h2 h3
          go_enter Tryz.func30, Tryz.ntmps30
          go_wp2_with fail
          all_goals first
            | (go_ret; exact ⟨rfl, k2⟩)
            | omega

/-- The hop of a route, as the reference tells it. -/
def rhop (q : Pn) (s m f : Int) (x : Nat) : Hp × Bool := if s = 1 then (⟨q, true, 0, 0, 1⟩, true) else if s = 2 then (⟨q, false, f, x, m⟩, true) else (hop0, false)
theorem rhop_right {r : Rt} (h : checkR r = 0) (hs : r.s = 1 ∨ r.s = 2) : rhop r.p.pn r.s r.m r.f r.x = (r.hop, true) := by
  unfold checkR at h
  split at h
  · rename_i h1
    rw [Bool.and_eq_true] at h1
    have h2 := h1.1
    obtain ⟨p, s, m, l, f, x, d, c⟩ := r
    simp only at hs h2 ⊢
    rcases hs with rfl | rfl
    · simp [stateB, hasB, nowB] at h2
      simp [rhop, Rt.hop, h2]
    · simp [rhop, Rt.hop]
  · omega
theorem rhop_gone {q : Pn} {s m f : Int} {x : Nat} (hs : ¬ (s = 1 ∨ s = 2)) : rhop q s m f x = (hop0, false) := by
  unfold rhop; rw [if_neg (fun h => hs (.inl h)), if_neg (fun h => hs (.inr h))]

set_option maxRecDepth 100000 in
set_option maxHeartbeats 1000000 in
theorem rhop_any (q : Pn) (s m l fc : Int) (x : Nat) (d : Int) (ch : Bool) (w : World) : Calls Tryz.prog 29 #[.agg (rtC q s m l fc x d ch)] w (FindP w (rhop q s m fc x)) := by
  obtain ⟨W, hW, kW, B0, B1⟩ : ∃ W, (w.alloc (.cells (rtC q s m l fc x d ch) 29)).alloc (.cells #[.int .u32 0, .int .i64 0, .bool false, .int .i64 0, .int .u32 0, .int .i64 0] 53) = W ∧ Kp w W ∧ Blk W w.heap.size 29 (rtC q s m l fc x d ch) ∧ Blk W (w.heap.size + 1) 53 #[.int .u32 0, .int .i64 0, .bool false, .int .i64 0, .int .u32 0, .int .i64 0] := ⟨_, rfl, ((Kp.refl _).alloc _).alloc _, (Blk.new w _ _).alloc _, Blk.new1 w _ _ _⟩
  obtain ⟨R, hR⟩ : ∃ R, rhop q s m fc x = R := ⟨_, rfl⟩
  rw [hR]
  have c0 : W.cell? ⟨w.heap.size, 0, none⟩ = some (.int .u32 q.a) := B0.cell 0
  have c1 : W.cell? ⟨w.heap.size, 1, none⟩ = some (.int .i64 q.l) := B0.cell 1
  have c2 : W.cell? ⟨w.heap.size, 2, none⟩ = some (.int .i64 s) := B0.cell 2
  have c3 : W.cell? ⟨w.heap.size, 3, none⟩ = some (.int .i64 m) := B0.cell 3
  have c5 : W.cell? ⟨w.heap.size, 5, none⟩ = some (.int .i64 fc) := B0.cell 5
  have c6 : W.cell? ⟨w.heap.size, 6, none⟩ = some (.int .u32 x) := B0.cell 6
  have r0 : W.cell? ⟨w.heap.size + 1, 0, none⟩ = some (.int .u32 0) := B1.cell 0
  have r1 : W.cell? ⟨w.heap.size + 1, 1, none⟩ = some (.int .i64 0) := B1.cell 1
  have r2 : W.cell? ⟨w.heap.size + 1, 2, none⟩ = some (.bool false) := B1.cell 2
  have r3 : W.cell? ⟨w.heap.size + 1, 3, none⟩ = some (.int .i64 0) := B1.cell 3
  have r4 : W.cell? ⟨w.heap.size + 1, 4, none⟩ = some (.int .u32 0) := B1.cell 4
  have r5 : W.cell? ⟨w.heap.size + 1, 5, none⟩ = some (.int .i64 0) := B1.cell 5
  have z0 := B1.frozen 0
  have z1 := B1.frozen 1
  have z2 := B1.frozen 2
  have z3 := B1.frozen 3
  have z4 := B1.frozen 4
  have z5 := B1.frozen 5
  have fin : Hid (∀ y : Hp, Blk (set6 W (w.heap.size + 1) 0 y) (w.heap.size + 1) 53 #[.int .u32 y.p.a, .int .i64 y.p.l, .bool y.d, .int .i64 y.f, .int .u32 y.x, .int .i64 y.m] ∧ Kp w (set6 W (w.heap.size + 1) 0 y)) := fun y =>
    ⟨B1.set6 0 y rfl, (((((kW.setCell (by simp) _).setCell (by simp) _).setCell (by simp) _).setCell (by simp) _).setCell (by simp) _).setCell (by simp) _⟩
  clear B0 B1
  unfold rtC at hW ⊢
  by_cases h1 : s = 1
  · subst h1
    obtain rfl : (⟨⟨q, true, 0, 0, 1⟩, true⟩ : Hp × Bool) = R := by rw [← hR]; simp [rhop]
    clear hR
    go_enter Tryz.func29, Tryz.ntmps29
    go_wp2_with fail
    change bodyPost _ _ _ _ _ (set6 W (w.heap.size + 1) 0 ⟨q, true, 0, 0, 1⟩)
    obtain ⟨R1, kz⟩ := fin.out ⟨q, true, 0, 0, 1⟩
    generalize set6 W (w.heap.size + 1) 0 ⟨q, true, 0, 0, 1⟩ = Z at R1 kz ⊢
    have d0 := R1.cell 0
    have d1 := R1.cell 1
    have d2 := R1.cell 2
    have d3 := R1.cell 3
    have d4 := R1.cell 4
    have d5 := R1.cell 5
    simp at d0 d1 d2 d3 d4 d5
    exact bodyPost_ret (v := .tuple #[hopV ⟨q, true, 0, 0, 1⟩, .bool true]) (by simp [results, Tryz.results29, go_sem, d0, d1, d2, d3, d4, d5, hopV]) rfl ⟨rfl, kz⟩
  by_cases h2 : s = 2
  · subst h2
    obtain rfl : (⟨⟨q, false, fc, x, m⟩, true⟩ : Hp × Bool) = R := by rw [← hR]; simp [rhop]
    clear hR
    go_enter Tryz.func29, Tryz.ntmps29
    go_wp2_with fail
    change bodyPost _ _ _ _ _ (set6 W (w.heap.size + 1) 0 ⟨q, false, fc, x, m⟩)
    obtain ⟨R1, kz⟩ := fin.out ⟨q, false, fc, x, m⟩
    generalize set6 W (w.heap.size + 1) 0 ⟨q, false, fc, x, m⟩ = Z at R1 kz ⊢
    have d0 := R1.cell 0
    have d1 := R1.cell 1
    have d2 := R1.cell 2
    have d3 := R1.cell 3
    have d4 := R1.cell 4
    have d5 := R1.cell 5
    simp at d0 d1 d2 d3 d4 d5
    exact bodyPost_ret (v := .tuple #[hopV ⟨q, false, fc, x, m⟩, .bool true]) (by simp [results, Tryz.results29, go_sem, d0, d1, d2, d3, d4, d5, hopV]) rfl ⟨rfl, kz⟩
  · obtain rfl : (hop0, false) = R := by rw [← hR]; exact (rhop_gone (by omega)).symm
    have q1 : (s == 1) = false := by simpa using h1
    have q2 : (s == 2) = false := by simpa using h2
    clear hR h1 h2
    go_enter Tryz.func29, Tryz.ntmps29
    go_wp2_with fail
    change bodyPost _ _ _ _ _ (set6 W (w.heap.size + 1) 0 hop0)
    obtain ⟨R1, kz⟩ := fin.out hop0
    generalize set6 W (w.heap.size + 1) 0 hop0 = Z at R1 kz ⊢
    have d0 := R1.cell 0
    have d1 := R1.cell 1
    have d2 := R1.cell 2
    have d3 := R1.cell 3
    have d4 := R1.cell 4
    have d5 := R1.cell 5
    simp at d0 d1 d2 d3 d4 d5
    exact bodyPost_ret (v := .tuple #[hopV hop0, .bool false]) (by simp [results, Tryz.results29, go_sem, d0, d1, d2, d3, d4, d5, hopV]) rfl ⟨rfl, kz⟩
end Go.Proofs.YtfaiponmjjbgoaaGreatDoor

/- The reference's Get of a prefix, whatever its length. -/
namespace Go.Proofs.YtfaiponmjjbgoaaGreatDoor
open Go.RowKit

def isP (p : PI) (e : Hp) : Bool := ((e.p.a : Int) == p.a) && ((e.p.l : Int) == p.l)
def getI (p : PI) (L : List Hp) : Hp × Bool := match L.find? (isP p) with
  | some h => (h, true)
  | none => (hop0, false)
theorem isP_pi {q : Pn} {e : Hp} : isP q.pi e = decide (e.p = q) := by unfold isP Pn.pi; exact pn_beq
theorem getI_has {q : Pn} {L : List Hp} : (getI q.pi L).2 = hasP q L := by
  have e : isP q.pi = fun e => decide (e.p = q) := funext fun e => isP_pi
  unfold getI hasP
  rw [e]
  cases h : L.find? (fun e => decide (e.p = q)) with
  | none =>
    have := List.find?_eq_none.1 h
    symm
    rw [List.any_eq_false]
    exact this
  | some x =>
    symm
    rw [List.any_eq_true]
    exact ⟨x, List.mem_of_find?_eq_some h, List.find?_some (p := fun e : Hp => decide (e.p = q)) h⟩
theorem getI_at {p : PI} {L : List Hp} {k : Nat} (hk : k < L.length) (h : ∀ j (hj : j < L.length), j < k → isP p L[j] = false) (hp : isP p L[k] = true) : getI p L = (L[k], true) := by
  unfold getI
  have : L.find? (isP p) = some L[k] := by
    rw [List.find?_eq_some_iff_getElem]
    exact ⟨hp, k, hk, rfl, fun j hj => by rw [h j (by omega) hj]; rfl⟩
  rw [this]
theorem getI_no {p : PI} {L : List Hp} (h : ∀ j (hj : j < L.length), isP p L[j] = false) : getI p L = (hop0, false) := by
  unfold getI
  have : L.find? (isP p) = none := List.find?_eq_none.2 (fun x hx => by
    obtain ⟨j, hj, rfl⟩ := List.getElem_of_mem hx
    rw [h j hj]; simp)
  rw [this]

set_option maxRecDepth 100000 in
set_option maxHeartbeats 2000000 in
theorem rget_any (A : Option Addr) (c : Nat) (L : List Hp) (p : PI) (w : World) (hR : Rd w 6 Hp.enc A L) (hn : L.length ≤ 1000000) :
    Calls Tryz.prog 18 #[.agg #[.slice A L.length c], .agg #[.int .u32 p.a, .int .i64 p.l]] w (FindP w (getI p L)) := by
  obtain ⟨W, hW, kW, B0, B1, B2⟩ : ∃ W, ((w.alloc (.cells #[.slice A L.length c] 35)).alloc (.cells #[.int .u32 p.a, .int .i64 p.l] 26)).alloc (.cells #[.int .u32 0, .int .i64 0, .bool false, .int .i64 0, .int .u32 0, .int .i64 0] 53) = W ∧ Kp w W ∧ Blk W w.heap.size 35 #[.slice A L.length c] ∧ Blk W (w.heap.size + 1) 26 #[.int .u32 p.a, .int .i64 p.l] ∧ Blk W (w.heap.size + 1 + 1) 53 #[.int .u32 0, .int .i64 0, .bool false, .int .i64 0, .int .u32 0, .int .i64 0] :=
    ⟨_, rfl, (((Kp.refl _).alloc _).alloc _).alloc _, ((Blk.new w _ _).alloc _).alloc _, (Blk.new1 w _ _ _).alloc _, Blk.new2 w _ _ _ _⟩
  have HR := Lib.hid (hR.keep kW); clear hR
  obtain ⟨R, hRR⟩ : ∃ R, getI p L = R := ⟨_, rfl⟩
  rw [hRR]
  have HRR := Lib.hid hRR; clear hRR
  have fin : Hid (∀ (V : World) (y : Hp), Kp W V → Blk (set6 V (w.heap.size + 1 + 1) 0 y) (w.heap.size + 1 + 1) 53 #[.int .u32 y.p.a, .int .i64 y.p.l, .bool y.d, .int .i64 y.f, .int .u32 y.x, .int .i64 y.m] ∧ Kp w (set6 V (w.heap.size + 1 + 1) 0 y)) := fun V y hK =>
    ⟨(B2.keep hK).set6 0 y rfl, ((((((kW.trans hK).setCell (by simp <;> omega) _).setCell (by simp <;> omega) _).setCell (by simp <;> omega) _).setCell (by simp <;> omega) _).setCell (by simp <;> omega) _).setCell (by simp <;> omega) _⟩
  go_enter Tryz.func18, Tryz.ntmps18
  go_wp2_with fail
  go_loopw [6] (fun i wr => ∃ k : Nat, k ≤ L.length ∧ i = .int .i64 k ∧ Hid (Kp W wr) ∧ Hid (∀ j (hj : j < L.length), j < k → isP p L[j] = false)) (fun i _ => L.length - (intOf i).toNat)
  case atStart => exact ⟨0, Nat.zero_le _, rfl, Kp.refl _, fun _ _ h => absurd h (by omega)⟩
  case round =>
    obtain ⟨k, hk, rfl, hK, hall⟩ := hrel
    have D2 := B2.keep hK.out
    have r0 : wr.cell? ⟨w.heap.size + 1 + 1, 0, none⟩ = some (.int .u32 0) := D2.cell 0
    have r1 : wr.cell? ⟨w.heap.size + 1 + 1, 1, none⟩ = some (.int .i64 0) := D2.cell 1
    have r2 : wr.cell? ⟨w.heap.size + 1 + 1, 2, none⟩ = some (.bool false) := D2.cell 2
    have r3 : wr.cell? ⟨w.heap.size + 1 + 1, 3, none⟩ = some (.int .i64 0) := D2.cell 3
    have r4 : wr.cell? ⟨w.heap.size + 1 + 1, 4, none⟩ = some (.int .u32 0) := D2.cell 4
    have r5 : wr.cell? ⟨w.heap.size + 1 + 1, 5, none⟩ = some (.int .i64 0) := D2.cell 5
    have z0 := D2.frozen 0
    have z1 := D2.frozen 1
    have z2 := D2.frozen 2
    have z3 := D2.frozen 3
    have z4 := D2.frozen 4
    have z5 := D2.frozen 5
    have f0 : wr.cell? ⟨w.heap.size, 0, none⟩ = some (.slice A L.length c) := (B0.keep hK.out).cell 0
    have p0 : wr.cell? ⟨w.heap.size + 1, 0, none⟩ = some (.int .u32 p.a) := (B1.keep hK.out).cell 0
    have p1 : wr.cell? ⟨w.heap.size + 1, 1, none⟩ = some (.int .i64 p.l) := (B1.keep hK.out).cell 1
    clear hW
    by_cases hlt : k < L.length
    · obtain ⟨b, off, hA, g0, g1, g2, g3, g4, g5⟩ := hop_at (HR.out.keep hK.out) hlt
      subst hA
      obtain ⟨y, hy⟩ : ∃ y, L[k] = y := ⟨_, rfl⟩
      have Hat := Lib.hid (getI_at hlt hall.out)
      have Hnx : Hid (isP p y = false → ∀ j (hj : j < L.length), j < k + 1 → isP p L[j] = false) := fun hf j hj hj2 => by
        rcases Nat.lt_or_ge j k with h3 | h3
        · exact hall.out j hj h3
        · obtain rfl : j = k := by omega
          rw [hy]; exact hf
      rw [hy] at g0 g1 g2 g3 g4 g5 Hat
      clear hy
      have hpe := pfx_eql
      cases hp : isP p y with
      | false =>
        have he : ∀ w, (binOp .eql 26 (.agg #[.int .u32 y.p.a, .int .i64 y.p.l]) (.agg #[.int .u32 p.a, .int .i64 p.l])).run Tryz.prog w = .ok (.bool false) w := fun w => by rw [pfx_eql]; exact congrArg (fun b => Result.ok (Value.bool b) w) hp
        have Hn2 := Lib.hid (Hnx.out hp)
        clear hp hpe r0 r1 r2 r3 r4 r5 z0 z1 z2 z3 z4 z5 g2 g3 g4 g5
        go_wp2_with fail
        go_quiet (fail)
        go_wp2_with fail
        go_roundw
        case rel => exact ⟨k + 1, by omega, by go_num, hK.out.drewN _, Hn2.out⟩
        case measure => simp [intOf]; omega
      | true =>
        have he : ∀ w, (binOp .eql 26 (.agg #[.int .u32 y.p.a, .int .i64 y.p.l]) (.agg #[.int .u32 p.a, .int .i64 p.l])).run Tryz.prog w = .ok (.bool true) w := fun w => by rw [pfx_eql]; exact congrArg (fun b => Result.ok (Value.bool b) w) hp
        obtain rfl : (y, true) = R := by rw [← HRR.out]; exact (Hat.out hp).symm
        clear hp hpe
        go_wp2_with fail
        go_quiet (fail)
        go_wp2_with fail
        change bodyPost _ _ _ _ _ (set6 (wr.drewN _) (w.heap.size + 1 + 1) 0 y)
        obtain ⟨R1, kz⟩ := fin.out (wr.drewN nq) y (hK.out.drewN _)
        generalize set6 (wr.drewN nq) (w.heap.size + 1 + 1) 0 y = Z at R1 kz ⊢
        have d0 := R1.cell 0
        have d1 := R1.cell 1
        have d2 := R1.cell 2
        have d3 := R1.cell 3
        have d4 := R1.cell 4
        have d5 := R1.cell 5
        simp at d0 d1 d2 d3 d4 d5
        exact bodyPost_ret (v := .tuple #[hopV y, .bool true]) (by simp [results, Tryz.results18, go_sem, d0, d1, d2, d3, d4, d5, hopV]) rfl ⟨rfl, kz⟩
    · obtain rfl : k = L.length := by omega
      obtain rfl : (hop0, false) = R := by rw [← HRR.out]; exact (getI_no (fun j hj => hall.out j hj hj)).symm
      go_wp2_with fail
      change bodyPost _ _ _ _ _ (set6 wr (w.heap.size + 1 + 1) 0 hop0)
      obtain ⟨R1, kz⟩ := fin.out wr hop0 hK.out
      generalize set6 wr (w.heap.size + 1 + 1) 0 hop0 = Z at R1 kz ⊢
      have d0 := R1.cell 0
      have d1 := R1.cell 1
      have d2 := R1.cell 2
      have d3 := R1.cell 3
      have d4 := R1.cell 4
      have d5 := R1.cell 5
      simp at d0 d1 d2 d3 d4 d5
      exact bodyPost_ret (v := .tuple #[hopV hop0, .bool false]) (by simp [results, Tryz.results18, go_sem, d0, d1, d2, d3, d4, d5, hopV]) rfl ⟨rfl, kz⟩
end Go.Proofs.YtfaiponmjjbgoaaGreatDoor
