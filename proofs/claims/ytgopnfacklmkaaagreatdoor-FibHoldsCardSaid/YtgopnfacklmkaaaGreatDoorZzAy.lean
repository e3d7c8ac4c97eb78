/- Lemmas and contracts for the theorem of this claim: TrK, TrL, Round2, Coll. -/
import Derived.Test.YtgopnfacklmkaaaGreatDoorZzAx
set_option linter.all false
set_option maxHeartbeats 16000000
namespace Go.Proofs.YtgopnfacklmkaaaGreatDoor
section
open Go.RowKit
attribute [local go_sem] Oper.semAt_some
theorem vdR {w : World} {q : Pn} : ∀ {t : Tr} {A : Nat × Nat}, TM w t → (∃ ty cs, Blk w A.1 ty cs ∧ cs[A.2]? = some t.ptr) → ∃ ty cs, Blk w (Tr.place q A t).1 ty cs ∧ cs[(Tr.place q A t).2]? = some (t.look q).ptr
 | .nil, A, _, h => h
 | .node b p v hh x y, A, ⟨h0, hx, hy⟩, h => by
  simp only [Tr.place, Tr.look]
  split
  ·split
   ·exact h
   ·split
    ·exact vdR hx ⟨_, _, h0, rfl⟩
    ·exact vdR hy ⟨_, _, h0, rfl⟩
  ·exact h
theorem vke {q : Pn} {t : Tr} {tr : Nat} (hn : t.bs.Nodup) (ho : tr ∉ t.bs) : (Tr.place q (tr, 0) t).1 ∉ (t.look q).bs := by
 rcases vdj q t (tr, 0) with e | e
 ·rw [e]; exact fun hc => ho (vaQ hc)
 ·exact (vcC hn).2.2 _ e
structure Turned (w w' : World) (tr : Nat) (t t' : Tr) (many' : Int) : Prop where
 trie : TrieM w' tr t' many'
 only : Only (tr :: t.bs) w w'
 sub : ∀ b ∈ t'.bs, b ∈ t.bs ∨ w.heap.size ≤ b
theorem vkf {q : Pn} {t : Tr} (hq : q.ok) (ht : t.Wf) (hno : ∀ u, (q, u) ∉ t.rows) {b : Nat} {p : Pn} {v : Int} {h : Bool} {x y : Tr} (e : t.look q = .node b p v h x y) : p = q → h = false := fun e1 => by
 subst e1
 cases h with
 | false => rfl
 | true => exact absurd ((vaV hq ht v).2 ⟨b, x, y, e⟩) (hno v)
set_option maxRecDepth 100000 in
theorem vmi (tr : Nat) (q : Pn) (v u many : Int) (t : Tr) (b : Nat) (x y : Tr) (w : World) (hG : RelsAt w) (hT : TrieM w tr t many) (hq : q.ok) (hl : t.look q = .node b q u true x y) :
  Calls Tryz.prog 200 #[.pointer (some ⟨tr, 0, none⟩), .agg #[.int .u32 q.a, .int .i64 q.l], .int .i64 v] w fun e w' => e = .returned (.tuple #[.int .i64 u, .bool true, .int .i64 0]) ∧ Turned w w' tr t (setT q v true t) many := by
 have Hq := Lib.hid hq
 have Hck := Lib.hid (show checkP q.pi = 0 by simp [checkP, pi_ok hq])
 have HT := Lib.hid hT
 have HG := Lib.hid hG
 have Hl := Lib.hid hl
 have HT1 := Lib.hid (hT.blk.alloc (.cells #[.int .u32 q.a, .int .i64 q.l] 39))
 have hpn := vaZ
 have ht1 := vbX
 clear hT hq hG hl
 go_enter Tryz.func200, Tryz.ntmps200
 go_wp2_with fail
 refine vac 0 rfl ?_
 go_wp2_with fail
 refine (vbz tr _ many _ HT1.out).mono ?_
 rintro e w' ⟨rfl, rfl⟩
 go_wp2_with fail
 refine (vax q.pi _ Hq.out.1).mono ?_
 rintro e w1 ⟨rfl, hK1⟩
 rw [Hck.out]
 have kw : Kp w w1 := ((Kp.refl _).alloc _).trans hK1
 have P1 : Blk w1 w.heap.size 39 #[.int .u32 q.a, .int .i64 q.l] := (Blk.new w _ _).keep hK1
 clear hK1
 have p0 : w1.cell? ⟨w.heap.size, 0, none⟩ = some (.int .u32 q.a) := P1.cell 0
 have p1 : w1.cell? ⟨w.heap.size, 1, none⟩ = some (.int .i64 q.l) := P1.cell 1
 go_wp2_with fail
 refine (vbM tr q many t _ (HG.out.keep kw) (HT.out.blk.keep kw) (HT.out.tm.keep kw) HT.out.wf Hq.out).mono ?_
 rintro e w2 ⟨rfl, hK2⟩
 have k2 : Kp w w2 := kw.trans hK2
 have P2 := P1.keep hK2
 clear p0 p1
 have p0 : w2.cell? ⟨w.heap.size, 0, none⟩ = some (.int .u32 q.a) := P2.cell 0
 have p1 : w2.cell? ⟨w.heap.size, 1, none⟩ = some (.int .i64 q.l) := P2.cell 1
 have T2 := HT.out.keep k2
 have hc := vaM (q := q) (A := (tr, 0)) T2.tm (T2.blk.cell 0)
 have hs := vby (q := q) T2.tm
 rw [Hl.out] at hc hs
 have hc' : w2.cell? ⟨(Tr.place q (tr, 0) t).1, (Tr.place q (tr, 0) t).2, none⟩ = some (.pointer (some ⟨b, 0, none⟩)) := hc
 obtain ⟨N, _, _⟩ := hs
 have n0 : w2.cell? ⟨b, 0, none⟩ = some (.int .u32 q.a) := N.cell 0
 have n1 : w2.cell? ⟨b, 1, none⟩ = some (.int .i64 q.l) := N.cell 1
 have n2 : w2.cell? ⟨b, 2, none⟩ = some (.int .i64 u) := N.cell 2
 have n3 : w2.cell? ⟨b, 3, none⟩ = some (.bool true) := N.cell 3
 have z2 := N.frozen 2
 clear hc hK2
 go_wp2_with fail
 go_quiet (fail)
 go_wp2_with fail
 refine vak ?_
 have hO : Only [b] w ((w2.drewN nq).setCell ⟨b, 2, none⟩ (.int .i64 v)) := (Only.of_kp (k2.drewN nq)).setCell (.inl (by simp)) _
 obtain ⟨r1, r2, r3, r4⟩ := vkd (v := v) (h := true) HT.out Hq.out Hl.out hO ((N.drewN nq).set_ 2 _)
 refine bodyPost_ret (v := .tuple #[.int .i64 u, .bool true, .int .i64 0]) (by simp [results, Tryz.results200, go_sem]) rfl ⟨rfl, r1, ?_, fun c hc => .inl (r3 c hc)⟩
 exact ⟨r2.os, r2.tape, r2.output, r2.size, fun k hk hn => r2.block k hk (fun h => hn (List.mem_cons.2 (.inr h)))⟩
def NewPost (w : World) (tr : Nat) (q : Pn) (v many : Int) (t : Tr) (w' : World) : Prop := ∃ t', Turned w w' tr t t' (many + 1) ∧ ∀ r : Pn × Int, r ∈ t'.rows ↔ r = (q, v) ∨ r ∈ t.rows
def FullOr (w : World) (tr : Nat) (q : Pn) (v many : Int) (t : Tr) (e : Ending) (w' : World) : Prop :=
 (512 ≤ many ∧ e = .returned (.tuple #[.int .i64 0, .bool false, .int .i64 3]) ∧ Kp w w') ∨ (many < 512 ∧ e = .returned (.tuple #[.int .i64 0, .bool false, .int .i64 0]) ∧ NewPost w tr q v many t w')
set_option maxRecDepth 100000 in
theorem vkg (tr : Nat) (q : Pn) (v many : Int) (t : Tr) (w : World) (hG : RelsAt w) (hT : TrieM w tr t many) (hq : q.ok) (hno : ∀ u, (q, u) ∉ t.rows) (hm0 : 0 ≤ many) (hm1 : many ≤ 1000000) :
  Calls Tryz.prog 200 #[.pointer (some ⟨tr, 0, none⟩), .agg #[.int .u32 q.a, .int .i64 q.l], .int .i64 v] w (FullOr w tr q v many t) := by
 have Hq := Lib.hid hq
 have Hck := Lib.hid (show checkP q.pi = 0 by simp [checkP, pi_ok hq])
 have HT := Lib.hid hT
 have HG := Lib.hid hG
 have Hno := Lib.hid hno
 have HT1 := Lib.hid (hT.blk.alloc (.cells #[.int .u32 q.a, .int .i64 q.l] 39))
 have hpn := vaZ
 have hpe := vbW
 have ht1 := vbX
 clear hT hq hG hno
 go_enter Tryz.func200, Tryz.ntmps200
 go_wp2_with fail
 refine vac 0 rfl ?_
 go_wp2_with fail
 refine (vbz tr _ many _ HT1.out).mono ?_
 rintro e w' ⟨rfl, rfl⟩
 go_wp2_with fail
 refine (vax q.pi _ Hq.out.1).mono ?_
 rintro e w1 ⟨rfl, hK1⟩
 rw [Hck.out]
 have kw : Kp w w1 := ((Kp.refl _).alloc _).trans hK1
 have P1 : Blk w1 w.heap.size 39 #[.int .u32 q.a, .int .i64 q.l] := (Blk.new w _ _).keep hK1
 clear hK1
 have p0 : w1.cell? ⟨w.heap.size, 0, none⟩ = some (.int .u32 q.a) := P1.cell 0
 have p1 : w1.cell? ⟨w.heap.size, 1, none⟩ = some (.int .i64 q.l) := P1.cell 1
 go_wp2_with fail
 refine (vbM tr q many t _ (HG.out.keep kw) (HT.out.blk.keep kw) (HT.out.tm.keep kw) HT.out.wf Hq.out).mono ?_
 rintro e w2 ⟨rfl, hK2⟩
 have k2 : Kp w w2 := kw.trans hK2
 have P2 := P1.keep hK2
 clear p0 p1
 have p0 : w2.cell? ⟨w.heap.size, 0, none⟩ = some (.int .u32 q.a) := P2.cell 0
 have p1 : w2.cell? ⟨w.heap.size, 1, none⟩ = some (.int .i64 q.l) := P2.cell 1
 have T2 := HT.out.keep k2
 have hc := vaM (q := q) (A := (tr, 0)) T2.tm (T2.blk.cell 0)
 have hs := vby (q := q) T2.tm
 have hx := fun b p v h x y => vkf (b := b) (p := p) (v := v) (h := h) (x := x) (y := y) Hq.out HT.out.wf Hno.out
 have Hx := Lib.hid hx; clear hx
 clear hK2
 obtain ⟨S, hS⟩ : ∃ S, t.look q = S := ⟨_, rfl⟩
 rw [hS] at hc hs
 have HS := Lib.hid hS; clear hS
 go_wp2_with fail
 go_upto_region 8 with (fail)
 go_cut [37] from 22 to 37 (fun s wx => s = .bool false ∧ Kp w2 wx)
 case first =>
  cases S with
  | nil =>
   simp only [Tr.ptr]
   go_quiet (fail)
   go_wp2_with fail
   go_meet
   case rel => exact ⟨rfl, (Kp.refl _).drewN _⟩
  | node b p u h x y =>
   obtain ⟨N, _, _⟩ := hs
   have n0 : w2.cell? ⟨b, 0, none⟩ = some (.int .u32 p.a) := N.cell 0
   have n1 : w2.cell? ⟨b, 1, none⟩ = some (.int .i64 p.l) := N.cell 1
   have n3 : w2.cell? ⟨b, 3, none⟩ = some (.bool h) := N.cell 3
   simp only [Tr.ptr]
   by_cases e : p = q
   ·have hf := Hx.out b p u h x y HS.out e
    subst e hf
    go_quiet (fail)
    go_wp2_with fail
    go_meet
    case rel => exact ⟨rfl, (Kp.refl _).drewN _⟩
   ·have hne := fun w => vdk w e
    have He := Lib.hid e; clear e
    go_quiet (fail)
    go_wp2_with fail
    go_meet
    case rel => exact ⟨rfl, (Kp.refl _).drewN _⟩
 case rest =>
  obtain ⟨rfl, hKc⟩ := hcut
  have k3 := k2.trans hKc
  have T3 := Lib.hid (HT.out.keep k3)
  have P3 := P2.keep hKc
  clear p0 p1 hc hs
  have p0 : wc.cell? ⟨w.heap.size, 0, none⟩ = some (.int .u32 q.a) := P3.cell 0
  have p1 : wc.cell? ⟨w.heap.size, 1, none⟩ = some (.int .i64 q.l) := P3.cell 1
  have m1 : wc.cell? ⟨tr, 1, none⟩ = some (.int .i64 many) := T3.out.blk.cell 1
  by_cases hf : 512 ≤ many
  ·have hd : decide (512 ≤ many) = true := by simpa using hf
   go_wp2_with fail
   go_step3
   refine ⟨rfl, ?_⟩
   go_wp2_with fail
   refine vbl ?_
   refine bodyPost_ret (v := .tuple #[.int .i64 0, .bool false, .int .i64 3]) (by simp [results, Tryz.results200, go_sem]) rfl (.inl ⟨hf, rfl, k3⟩)
  ·have hd : decide (512 ≤ many) = false := by simpa using hf
   obtain ⟨ty, cs, hPB, hPC⟩ := vdR (q := q) (A := (tr, 0)) T3.out.tm ⟨_, _, T3.out.blk, rfl⟩
   have Hcs := Lib.hid hPC; clear hPC
   clear hd
   have hd : decide (512 ≤ many) = false := by simpa using hf
   go_wp2_with fail
   refine (vmg _ _ ty cs q v (t.look q) _ hPB Hcs.out (vby T3.out.tm) (vke T3.out.nd T3.out.out) (vcC T3.out.nd).2.1 Hq.out (vdL T3.out.wf) (fun b p u h x y e => vcB Hq.out e)).mono ?_
   rintro e w4 ⟨rfl, hP⟩
   obtain ⟨t', hT', hO, hsub, hr⟩ := vmh T3.out Hq.out Hno.out hP
   have HT' := Lib.hid hT'; clear hT'
   have hr' := Lib.hid hr; clear hr
   have m1' : w4.cell? ⟨tr, 1, none⟩ = some (.int .i64 many) := HT'.out.blk.cell 1
   have zm := HT'.out.blk.frozen 1
   clear m1 p0 p1
   go_wp2_with fail
   refine vak ?_
   refine bodyPost_ret (v := .tuple #[.int .i64 0, .bool false, .int .i64 0]) (by simp [results, Tryz.results200, go_sem]) rfl (.inr ⟨by omega, rfl, t', ⟨?_, ?_, ?_⟩, hr'.out⟩)
   ·have hset := (Only.refl [tr] w4).setCell (p := ⟨tr, 1, none⟩) (.inl (by simp)) (.int .i64 (many + 1))
    exact ⟨HT'.out.blk.set_ 1 _, HT'.out.tm.only hset (fun c hc => by simp; intro e; subst e; exact HT'.out.out hc), HT'.out.wf, HT'.out.nd, HT'.out.out⟩
   ·exact ((Only.of_kp k3).trans ⟨hO.os, hO.tape, hO.output, hO.size, hO.block⟩).setCell (.inl (by simp)) _
   ·intro c hc
    rcases hsub c hc with e | e
    ·exact .inl e
    ·exact .inr (Nat.le_trans k3.size e)
theorem vkh (t : Tr) : (keptT t).bs.Sublist t.bs := by
 cases t with
 | nil => exact List.Sublist.refl _
 | node b p v h x y =>
  cases h
  ·cases x with
   | nil => simp only [keptT, Tr.bs, List.cons_append, List.nil_append]; exact List.sublist_cons_self _ _
   | node b1 p1 v1 h1 x1 y1 =>
    cases y with
    | nil => simp only [keptT]; simp only [Tr.bs, List.append_nil]; exact List.sublist_cons_self _ _
    | node b2 p2 v2 h2 x2 y2 => exact List.Sublist.refl _
  ·exact List.Sublist.refl _
theorem voi {w : World} {t : Tr} (h : TM w t) : TM w (keptT t) := by
 cases t with
 | nil => exact h
 | node b p v hh x y =>
  cases hh
  ·cases x with
   | nil => exact h.2.2
   | node b1 p1 v1 h1 x1 y1 =>
    cases y with
    | nil => exact h.2.1
    | node b2 p2 v2 h2 x2 y2 => exact h
  ·exact h
theorem vcj (q : Pn) : ∀ t : Tr, (tidyT q t).bs.Sublist t.bs
 | .nil => List.Sublist.refl _
 | .node b p v h x y => by
  unfold tidyT
  split
  ·refine (vkh _).trans ?_
   split
   ·exact List.Sublist.refl _
   ·split
    ·simp only [Tr.bs, List.cons_append]; exact ((vcj q x).append_right _).cons_cons _
    ·simp only [Tr.bs, List.cons_append]; exact ((List.Sublist.refl _).append (vcj q y)).cons_cons _
  ·exact List.Sublist.refl _
def tidyK (q : Pn) : Nat → Tr → Tr
 | 0, t => tidyT q t
 | _ + 1, .nil => .nil
 | k + 1, .node b p v h x y => if p.holds q then (if p.l = q.l then .node b p v h x y else if bitN q.a p.l = 0 then .node b p v h (tidyK q k x) y else .node b p v h x (tidyK q k y)) else .node b p v h x y
theorem vdl (q : Pn) : ∀ (k : Nat) (t : Tr), (tidyK q k t).bs.Sublist t.bs
 | 0, t => vcj q t
 | _ + 1, .nil => List.Sublist.refl _
 | k + 1, .node b p v h x y => by
  unfold tidyK
  split
  ·split
   ·exact List.Sublist.refl _
   ·split
    ·simp only [Tr.bs, List.cons_append]; exact ((vdl q k x).append_right _).cons_cons _
    ·simp only [Tr.bs, List.cons_append]; exact ((List.Sublist.refl _).append (vdl q k y)).cons_cons _
  ·exact List.Sublist.refl _
theorem vcD (q : Pn) : ∀ (k : Nat) (t : Tr) (A : Nat × Nat), (Tr.way q A t).length ≤ k → tidyK q k t = t
 | 0, .nil, A, h => rfl
 | 0, .node b p v hh x y, A, h => by
  by_cases h1 : p.holds q
  ·simp [Tr.way, h1] at h
  ·simp [tidyK, tidyT, h1]
 | k + 1, .nil, A, h => rfl
 | k + 1, .node b p v hh x y, A, h => by
  unfold tidyK
  by_cases h1 : p.holds q
  ·by_cases h2 : p.l = q.l
   ·simp [h1, h2]
   ·by_cases h3 : bitN q.a p.l = 0
    ·simp only [Tr.way, h1, h2, h3, if_true, if_false, List.length_cons] at h ⊢
     rw [vcD q k x (b, 4) (by omega)]
    ·simp only [Tr.way, h1, h2, h3, if_true, if_false, List.length_cons] at h ⊢
     rw [vcD q k y (b, 5) (by omega)]
  ·simp [h1]
structure Step (w : World) (q : Pn) (k : Nat) (t : Tr) (A B : Nat × Nat) (s : Tr) : Prop where
 node : ∃ b p v h x y, s = .node b p v h x y
 cell : ∃ ty cs, Blk w B.1 ty cs ∧ cs[B.2]? = some s.ptr
 tm : TM w s
 out : B.1 ∉ s.bs
 inn : B = A ∨ B.1 ∈ t.bs
 after : TM (w.setCell ⟨B.1, B.2, none⟩ (keptT s).ptr) (tidyK q k t)
 top : (B = A ∧ tidyK q k t = keptT s) ∨ (B.1 ∈ t.bs ∧ (tidyK q k t).ptr = (tidyK q (k + 1) t).ptr)
theorem vdS {w : World} {q : Pn} : ∀ {k : Nat} {t : Tr} {A B : Nat × Nat}, TM w (tidyK q (k + 1) t) → (∃ ty cs, Blk w A.1 ty cs ∧ cs[A.2]? = some (tidyK q (k + 1) t).ptr) → A.1 ∉ t.bs → t.bs.Nodup → (Tr.way q A t)[k]? = some B → ∃ s, Step w q k t A B s
 | k, .nil, A, B, _, _, _, _, hB => by simp [Tr.way] at hB
 | 0, .node b p v h x y, A, B, hM, hA, ho, hn, hB => by
  by_cases h1 : p.holds q
  ·simp only [Tr.way, h1, if_true, List.getElem?_cons_zero, Option.some.injEq] at hB
   subst hB
   have e : keptT (tidyK q 1 (.node b p v h x y)) = tidyK q 0 (.node b p v h x y) := by
    show _ = tidyT q (.node b p v h x y)
    conv => rhs; unfold tidyT
    conv => lhs; unfold tidyK
    simp only [h1, if_true]
    rfl
   have hsub := (vdl q 1 (.node b p v h x y)).subset
   refine ⟨tidyK q 1 (.node b p v h x y), ?_, hA, hM, fun hc => ho (hsub hc), .inl rfl, ?_, .inl ⟨rfl, e.symm⟩⟩
   ·unfold tidyK
    simp only [h1, if_true]
    split
    ·exact ⟨_, _, _, _, _, _, rfl⟩
    ·split
     ·exact ⟨_, _, _, _, _, _, rfl⟩
     ·exact ⟨_, _, _, _, _, _, rfl⟩
   ·rw [← e]
    exact (voi hM).only (bs := [A.1]) ((Only.refl _ _).setCell (.inl (by simp)) _) (fun c hc => by simp; intro e'; subst e'; exact ho (hsub ((vkh _).subset hc)))
  ·simp [Tr.way, h1] at hB
 | k + 1, .node b p v h x y, A, B, hM, hA, ho, hn, hB => by
  have hb : b ∉ x.bs ∧ b ∉ y.bs ∧ x.bs.Nodup ∧ y.bs.Nodup ∧ ∀ c ∈ x.bs, c ∉ y.bs := by
   simp only [Tr.bs, List.cons_append, List.nodup_cons, List.mem_append, not_or, List.nodup_append] at hn
   refine ⟨hn.1.1, hn.1.2, hn.2.1, hn.2.2.1, fun c hc hc' => hn.2.2.2 c hc c hc' rfl⟩
  by_cases h1 : p.holds q
  ·by_cases h2 : p.l = q.l
   ·simp [Tr.way, h1, h2] at hB
   ·by_cases h3 : bitN q.a p.l = 0
    ·simp only [Tr.way, h1, h2, h3, if_true, if_false, List.getElem?_cons_succ] at hB
     have e2 : tidyK q (k + 1 + 1) (.node b p v h x y) = .node b p v h (tidyK q (k + 1) x) y := by simp [tidyK, h1, h2, h3]
     have e1 : tidyK q (k + 1) (.node b p v h x y) = .node b p v h (tidyK q k x) y := by simp [tidyK, h1, h2, h3]
     rw [e2] at hM
     obtain ⟨h0, hx, hy⟩ := hM
     obtain ⟨s, S⟩ := vdS (A := (b, 4)) hx ⟨_, _, h0, rfl⟩ hb.1 hb.2.2.1 hB
     have hin : B.1 = b ∨ B.1 ∈ x.bs := by
      rcases S.inn with e | e
      ·left; rw [e]
      ·exact .inr e
     refine ⟨s, S.node, S.cell, S.tm, S.out, .inr ?_, ?_, .inr ⟨?_, by rw [e1, e2]; rfl⟩⟩
     ·rcases hin with e | e <;> simp [Tr.bs, e]
     ·rw [e1]
      refine ⟨?_, S.after, hy.only (bs := [B.1]) ((Only.refl _ _).setCell (.inl (by simp)) _) (fun c hc => ?_)⟩
      ·rcases S.top with ⟨ea, eb⟩ | ⟨ea, eb⟩
       ·rw [ea, eb]; exact h0.set_ 4 _
       ·rw [eb]; exact h0.far (by simp only; intro e'; rw [← e'] at ea; exact hb.1 ea) _
      ·simp only [List.mem_singleton]
       intro e'; subst e'
       rcases hin with e | e
       ·rw [e] at hc; exact hb.2.1 hc
       ·exact hb.2.2.2.2 _ e hc
     ·rcases hin with e | e <;> simp [Tr.bs, e]
    ·simp only [Tr.way, h1, h2, h3, if_true, if_false, List.getElem?_cons_succ] at hB
     have e2 : tidyK q (k + 1 + 1) (.node b p v h x y) = .node b p v h x (tidyK q (k + 1) y) := by simp [tidyK, h1, h2, h3]
     have e1 : tidyK q (k + 1) (.node b p v h x y) = .node b p v h x (tidyK q k y) := by simp [tidyK, h1, h2, h3]
     rw [e2] at hM
     obtain ⟨h0, hx, hy⟩ := hM
     obtain ⟨s, S⟩ := vdS (A := (b, 5)) hy ⟨_, _, h0, rfl⟩ hb.2.1 hb.2.2.2.1 hB
     have hin : B.1 = b ∨ B.1 ∈ y.bs := by
      rcases S.inn with e | e
      ·left; rw [e]
      ·exact .inr e
     refine ⟨s, S.node, S.cell, S.tm, S.out, .inr ?_, ?_, .inr ⟨?_, by rw [e1, e2]; rfl⟩⟩
     ·rcases hin with e | e <;> simp [Tr.bs, e]
     ·rw [e1]
      refine ⟨?_, hx.only (bs := [B.1]) ((Only.refl _ _).setCell (.inl (by simp)) _) (fun c hc => ?_), S.after⟩
      ·rcases S.top with ⟨ea, eb⟩ | ⟨ea, eb⟩
       ·rw [ea, eb]; exact h0.set_ 5 _
       ·rw [eb]; exact h0.far (by simp only; intro e'; rw [← e'] at ea; exact hb.2.1 ea) _
      ·simp only [List.mem_singleton]
       intro e'; subst e'
       rcases hin with e | e
       ·rw [e] at hc; exact hb.1 hc
       ·exact hb.2.2.2.2 _ hc e
     ·rcases hin with e | e <;> simp [Tr.bs, e]
  ·simp [Tr.way, h1] at hB
set_option maxRecDepth 100000 in
theorem vmj (b : Nat) (p : Pn) (v : Int) (h : Bool) (x y : Tr) (w : World) (hB : Blk w b 379 #[.int .u32 p.a, .int .i64 p.l, .int .i64 v, .bool h, x.ptr, y.ptr]) :
  Calls Tryz.prog 304 #[.pointer (some ⟨b, 0, none⟩)] w fun e w' => e = .returned (keptT (.node b p v h x y)).ptr ∧ w = w' := by
 have h1 := vcR
 have h2 := vci
 have n3 : w.cell? ⟨b, 3, none⟩ = some (.bool h) := hB.cell 3
 have n4 : w.cell? ⟨b, 4, none⟩ = some x.ptr := hB.cell 4
 have n5 : w.cell? ⟨b, 5, none⟩ = some y.ptr := hB.cell 5
 clear hB
 cases h
 ·cases x with
  | nil =>
   have n4' : w.cell? ⟨b, 4, none⟩ = some (.pointer none) := n4
   clear n4
   go_enter Tryz.func304, Tryz.ntmps304
   go_wp2_with fail
   go_ret
   exact ⟨rfl, rfl⟩
  | node b1 p1 v1 g1 x1 y1 =>
   have n4' : w.cell? ⟨b, 4, none⟩ = some (.pointer (some ⟨b1, 0, none⟩)) := n4
   clear n4
   cases y with
   | nil =>
    have n5' : w.cell? ⟨b, 5, none⟩ = some (.pointer none) := n5
    clear n5
    go_enter Tryz.func304, Tryz.ntmps304
    go_wp2_with fail
    go_ret
    exact ⟨rfl, rfl⟩
   | node b2 p2 v2 g2 x2 y2 =>
    have n5' : w.cell? ⟨b, 5, none⟩ = some (.pointer (some ⟨b2, 0, none⟩)) := n5
    clear n5
    go_enter Tryz.func304, Tryz.ntmps304
    go_wp2_with fail
    go_ret
    exact ⟨rfl, rfl⟩
 ·go_enter Tryz.func304, Tryz.ntmps304
  go_wp2_with fail
  go_ret
  exact ⟨rfl, rfl⟩
theorem vag {l : Nat} {P : Program} {ops : Array Oper} {Q : Exit → Act → World → Prop} (hQ : ¬ LetsOut Q) : ∀ (rest : List Oper) (a : Act) (w : World), rest.all (fun o => match o.op with | .defer _ => false | _ => true) = true →
  wpList P ops Q rest a w → wpListIn (Fence.wide.inRound l) 0 P ops Q rest a w
 | [], _, _, _, h => h
 | o :: rest, a, w, hnd, h => by
  have hnd' := List.all_eq_true.1 hnd
  have hr : rest.all (fun o => match o.op with | .defer _ => false | _ => true) = true := List.all_eq_true.2 (fun x hx => hnd' x (List.mem_cons_of_mem _ hx))
  have ho : ∀ c, o.op ≠ .defer c := fun c hc => by
   have := hnd' o (by simp)
   rw [hc] at this; cases this
  unfold wpList at h
  unfold wpListIn
  split
  ·rename_i hw
   rw [if_pos hw] at h
   rcases h with h | h
   ·refine ⟨fun _ _ => trivial, ?_⟩
    rw [Oper.semAt_eq _ _ _ ho]
    unfold Oper.wp at h
    generalize (execOp a.eval o).run P w = r at h
    unfold Oper.upon at h
    unfold Oper.uponIn
    split at h
    ·exact vag hQ rest _ _ hr h
    ·exact vag hQ rest _ _ hr h
    ·exact vag hQ rest _ _ hr h
    ·refine ⟨(fun h => by cases h), CallsIn.inRound l (callsIn_wide.2 (h.mono fun e w'' hh => ?_))⟩
     cases e with
     | returned v => exact vag hQ rest _ _ hr hh
     | panicked ch => exact hh
     | outgrown => exact hh
    ·refine ⟨(fun h => by cases h), fun c cs _ => ?_⟩
     obtain ⟨v, w', r, s⟩ := h c cs
     exact ⟨v, w', vag hQ rest _ _ hr r, stepsIn_wide.2 s⟩
    ·exact h
    ·exact h.elim
   ·exact absurd h.2 hQ
  ·rename_i hw
   rw [if_neg hw] at h
   exact ⟨fun _ _ => trivial, vag hQ rest _ _ hr h⟩
theorem vcS {r id : Nat} {P : Program} {Q : Exit → Act → World → Prop} {a : Act} {w : World} {l : List Oper} (hnd : l.all (fun o => match o.op with | .defer _ => false | _ => true) = true) (hQ : ¬ LetsOut Q)
  (h : wpList P l.toArray Q l a w) : (Code.region id l.toArray false).wpIn (Fence.wide.inRound r) 0 P Q a w :=
 wpIn_region_lit (vag hQ l a w hnd h)
attribute [local go_sem] Oper.semAt_some
def ptE (A : Nat × Nat) : List Value := [.pointer (some ⟨A.1, A.2, none⟩)]
theorem vki (A : Nat × Nat) : (ptE A).length = 1 := rfl
theorem EPt : ElemOf Tryz.prog 419 375 (.pointer none) 1 8 := ⟨Tryz.underlying419, by kernel_rfl, rfl, by decide⟩
theorem Own.newA {α : Type} {w : World} {base e sz n c : Nat} {enc : α → List Value} {A : Option Addr} {xs : List α} (h : Own w base e sz enc (.slice A n c) xs) : ∀ a, A = some a → base ≤ a.block := by
 rintro a rfl
 rcases h.2 with ⟨h2, _⟩ | ⟨g, cap, cur, hv, hg, _⟩
 ·cases h2
 ·injection hv with h1; injection h1 with h1; rw [h1]; exact hg
theorem Rd.only {α : Type} {w w' : World} {sz : Nat} {enc : α → List Value} {A : Option Addr} {xs : List α} {bs : List Nat} (h : Rd w sz enc A xs) (k : Only bs w w') (hA : ∀ a, A = some a → a.block ∉ bs) : Rd w' sz enc A xs := fun i hi => by
 obtain ⟨b, off, e, hc⟩ := h i hi
 exact ⟨b, off, e, fun j u hu => k.cell (hc j u hu) (show b ∉ bs from hA ⟨b, off, none⟩ e)⟩
def CollI (w : World) (ps : List (Nat × Nat)) (k : Nat) (W : World) : Prop :=
 ∃ v, Blk W w.heap.size 419 #[v] ∧ Own W (w.heap.size + 1 + 1 + 1) 375 1 ptE v (ps.take k) ∧ Kp w W
def CollPost (w : World) (ps : List (Nat × Nat)) (e : Ending) (w' : World) : Prop := ∃ A c, e = .returned (.slice A ps.length c) ∧ Rd w' 1 ptE A ps ∧ Kp w w' ∧ ∀ a, A = some a → w.heap.size ≤ a.block
set_option maxRecDepth 100000 in
theorem vfc {gf : FuncId} {caps : Array Value} {M : World → Prop} (ps : List (Nat × Nat)) (hn : ps.length ≤ 1000000) (eg : ∀ args w, (callFunc gf args).run Tryz.prog w = .ok (.enter gf args) w)
  (hit : Iter Tryz.prog gf caps ps.length (fun k => #[.pointer (some ⟨(ps.getD k (0, 0)).1, (ps.getD k (0, 0)).2, none⟩)]) M) (w : World) (hM : ∀ W, Kp w W → M W) :
  Calls Tryz.prog 326 #[.slice none 0 0, .func (.func gf) #[] caps] w (CollPost w ps) := by
 have HM := Lib.hid hM; clear hM
 have Hit := Lib.hid hit; clear hit
 have Heg := Lib.hid eg; clear eg
 refine calls_of_wp_marks Tryz.func326 rfl ?_; simp only [Tryz.ntmps326, List.size_toArray, List.length_cons, List.length_nil, Nat.reduceAdd, Nat.reduceSub, Array.replicate_succ, Array.replicate_zero, List.push_toArray, List.append_toArray, List.nil_append, List.cons_append]
 go_wp2_with fail
 refine vcq (N := ps.length) rfl Heg.out Hit.out (fun _ _ => rfl) (CollI w ps) (fun _ _ _ => False) ?_ (fun _ _ _ _ h => h.elim) (fun _ _ h => HM.out _ (by obtain ⟨v, _, _, k⟩ := h; exact k)) ?_ ?_ ?_ (fun _ _ _ _ _ h => h.elim)
 ·rintro k W W' ⟨v, h1, h2, h3⟩ hO
  simp only [World.size_alloc] at hO
  exact ⟨v, h1.only hO (by simp <;> omega), h2.only hO (by simp <;> omega), hO.kp h3 (by simp <;> omega)⟩
 ·exact ⟨_, Blk.new w _ _, by rw [List.take_zero]; exact Own.nil _ _ _ _ _, (Kp.refl _).alloc _⟩
 ·intro l k W hk _
  have hget0 : ps.getD k (0, 0) = ps[k] := by simp [List.getD, hk]
  rw [hget0]
  clear hget0
  gi_wp2_with fail
  refine ⟨trivial, ?_⟩
  rintro W2 ⟨v, h1, h2, h3⟩ hsz
  simp only [World.size_alloc] at hsz
  have x0 : W2.cell? ⟨w.heap.size, 0, none⟩ = some v := h1.cell 0
  have z0 := h1.frozen 0
  have hget : ps.getD k (0, 0) = ps[k] := by simp [List.getD, hk]
  have hlen : (ps.take k).length = k := by simp; omega
  have Htk := Lib.hid (show ps.take k ++ [ps[k]] = ps.take (k + 1) by simp)
  have Hlen := Lib.hid hlen; clear hlen
  clear hget
  refine wpIn_block ?_
  refine vcS (by kernel_rfl) (vaj van) ?_
  go_wp2_with (at_builtin; go_must (refine vaf EPt rfl _ _ rfl ps[k] rfl h2 h3 (by omega) (by omega) rfl rfl rfl rfl rfl (by rw [Hlen.out]; omega) ?_); intro v' w2 hown' hK' hg; obtain ⟨A2, c2, rfl⟩ := hown'.form1; have B2 := h1.grown hg (h2.ne (by omega)); have cc2 : w2.cell? ⟨w.heap.size, 0, none⟩ = some v := B2.cell 0; have zz := B2.frozen 0)
  have e1 : w2.heap[w.heap.size + 1]? = W2.heap[w.heap.size + 1]? := hg.block _ (by omega) (h2.ne (by omega))
  have e2 : w2.heap[w.heap.size + 1 + 1]? = W2.heap[w.heap.size + 1 + 1]? := hg.block _ (by omega) (h2.ne (by omega))
  refine ⟨⟨?_, ?_⟩, _, B2.set_ 0 _, ?_, hK'.setCell (by simp) _⟩
  ·simp only [World.size_alloc]; exact (Below.heap_setCell _ _ _ _ (by simp)).trans e1
  ·simp only [World.size_alloc]; exact (Below.heap_setCell _ _ _ _ (by simp <;> omega)).trans e2
  ·rw [← Htk.out]; rw [List.length_take] at hown'; exact Own.setBelow (p := ⟨w.heap.size, 0, none⟩) hown' (show w.heap.size < w.heap.size + 1 + 1 + 1 by omega) _
 ·rintro W ⟨v, h1, h2, h3⟩ hd
  rw [List.take_length] at h2
  simp only [World.size_alloc] at hd
  have x0 : W.cell? ⟨w.heap.size, 0, none⟩ = some v := h1.cell 0
  obtain ⟨A, c, rfl, hR⟩ := h2.rd (by decide) vki
  go_wp2_with fail
  simp only [World.size_alloc]
  refine vbp hd (fun W' hO => ?_)
  refine ⟨.slice A ps.length c, ?_, A, c, rfl, fun i hi => ?_, hO.kp h3 (by simp), fun a ha => by have := h2.newA a ha; omega⟩
  ·simp [results, Tryz.results326, go_sem]
  ·have hR' := (h2.only hO (by simp <;> omega)).rd (by decide) vki
   obtain ⟨A', c', e, hR'⟩ := hR'
   injection e with e1
   subst e1
   exact hR' i hi
theorem vgy {gf : FuncId} {caps : Array Value} {M : World → Prop} (ps : List (Nat × Nat)) (hn : ps.length ≤ 1000000) (eg : ∀ args w, (callFunc gf args).run Tryz.prog w = .ok (.enter gf args) w)
  (hit : Iter Tryz.prog gf caps ps.length (fun k => #[.pointer (some ⟨(ps.getD k (0, 0)).1, (ps.getD k (0, 0)).2, none⟩)]) M) (w : World) (hM : ∀ W, Kp w W → M W) :
  Calls Tryz.prog 302 #[.func (.func gf) #[] caps] w (CollPost w ps) := by
 have HM := Lib.hid hM; clear hM
 have Hit := Lib.hid hit; clear hit
 have Heg := Lib.hid eg; clear eg
 go_enter Tryz.func302, Tryz.ntmps302
 go_wp2_with fail
 refine (vfc ps hn Heg.out Hit.out w HM.out).mono ?_
 rintro e w' ⟨A, c, rfl, hR, hK, hA⟩
 have HA := Lib.hid hA; clear hA
 go_wp2_with fail
 go_ret
 exact ⟨A, c, rfl, hR, hK, HA.out⟩
theorem vfO (A : Option Addr) (n c : Nat) (w : World) :
  Calls Tryz.prog 303 #[.slice A n c] w fun e w' => e = .returned (.func (.func 327) #[] #[.pointer (some ⟨w.heap.size, 0, none⟩)]) ∧ Blk w' w.heap.size 419 #[.slice A n c] ∧ Kp w w' := by
 have hmf := vaE
 go_enter Tryz.func303, Tryz.ntmps303
 go_wp2_with fail
 go_ret
 exact ⟨rfl, Blk.new w _ _, (Kp.refl _).alloc _⟩
theorem vim (args : Array Value) (w : World) : (callFunc 327 args).run Tryz.prog w = .ok (.enter 327 args) w := by kernel_rfl
structure BackMem (bx : Nat) (A : Option Addr) (c : Nat) (ps : List (Nat × Nat)) (W : World) : Prop where
 bx : Blk W bx 419 #[.slice A ps.length c]
 rd : Rd W 1 ptE A ps
set_option maxRecDepth 100000 in
theorem vin (bx : Nat) (A : Option Addr) (c : Nat) (ps : List (Nat × Nat)) (hn : ps.length ≤ 1000000) :
  Iter Tryz.prog 327 #[.pointer (some ⟨bx, 0, none⟩)] ps.length
   (fun k => #[.int .i64 ((ps.length : Int) - 1 - k), .pointer (some ⟨(ps.getD (ps.length - 1 - k) (0, 0)).1, (ps.getD (ps.length - 1 - k) (0, 0)).2, none⟩)]) (BackMem bx A c ps) := by
 intro l I Z W hI hZ hM hy h0
 have HI := Lib.hid hI; clear hI
 have HZ := Lib.hid hZ; clear hZ
 have HM := Lib.hid hM; clear hM
 have HY := Lib.hid hy; clear hy
 obtain ⟨N, hN⟩ : ∃ N, ps.length = N := ⟨_, rfl⟩
 have HN := Lib.hid hN
 rw [hN] at HY hn ⊢
 clear hN
 have D0 := HM.out 0 W h0
 have c0 : W.cell? ⟨bx, 0, none⟩ = some (.slice A N c) := by have := D0.bx.cell 0; rw [HN.out] at this; exact this
 have H0 := Lib.hid h0; clear h0
 clear D0
 go_enter Tryz.func327, Tryz.ntmps327
 go_wp2_with fail
 go_loopg [3] N (fun g i wr => ∃ k : Nat, k ≤ N ∧ g = N - k ∧ i = .int .i64 ((N : Int) - 1 - k) ∧ Hid (I k wr))
 case atStart => exact ⟨0, Nat.zero_le _, rfl, by simp, H0⟩
 case round =>
  obtain ⟨k, hk, hg, rfl, hi⟩ := hrel
  have D := HM.out k wr hi.out
  have cb : wr.cell? ⟨bx, 0, none⟩ = some (.slice A N c) := by have := D.bx.cell 0; rw [HN.out] at this; exact this
  by_cases hlt : k < N
  ·obtain ⟨b, off, hA, hc⟩ := D.rd (N - 1 - k) (by rw [HN.out]; omega)
   subst hA
   have hc0 := hc 0 _ rfl
   have hget : ps.getD (N - 1 - k) (0, 0) = ps[N - 1 - k]'(by rw [HN.out]; omega) := by
    simp only [List.getD]; rw [List.getElem?_eq_getElem (by rw [HN.out]; omega)]; rfl
   rw [← hget] at hc0
   have hge : (0 : Int) ≤ (N : Int) - 1 - k := by omega
   have hl2 : (N : Int) - 1 - k < N := by omega
   have htn : ((N : Int) - 1 - k).toNat = N - 1 - k := by omega
   have cx : wr.cell? ⟨b, off + ((N : Int) - 1 - k).toNat, none⟩ = some (.pointer (some ⟨(ps.getD (N - 1 - k) (0, 0)).1, (ps.getD (N - 1 - k) (0, 0)).2, none⟩)) := by
    rw [htn]; simpa using hc0
   have cx2 : wr.cell? ⟨b, off + (N - 1 - k), none⟩ = some (.pointer (some ⟨(ps.getD (N - 1 - k) (0, 0)).1, (ps.getD (N - 1 - k) (0, 0)).2, none⟩)) := by
    simpa using hc0
   clear hc hc0 D
   have Hget := Lib.hid hget; clear hget
   have Htn := Lib.hid htn; clear htn
   obtain ⟨fn, tmps, asg, bd, hrun, hround⟩ := HY.out k wr hlt hi.out
   simp only [List.getD_eq_getElem?_getD] at hrun hround cx cx2
   have hd1 : decide ((k : Int) ≤ (N : Int) - 1) = true := by simp; omega
   go_upto_region 3 with (fail)
   refine (wpIn_wide (n := 0)).1 ?_
   gi_wp2_with fail
   refine ⟨rfl, hround.mono ?_⟩
   clear hrun hround
   rintro e W' (⟨rfl, hi2⟩ | ⟨rfl, hz⟩)
   ·have Hi2 := Lib.hid hi2; clear hi2
    gi_wp2_with fail
    go_wp2_with fail
    go_roundg (N - (k + 1))
    case rel => exact ⟨k + 1, by omega, rfl, by go_num, Hi2⟩
    case measure => omega
   ·have Hz := Lib.hid hz; clear hz
    gi_wp2_with fail
    go_wp2_with fail
    refine bodyPost_ret (v := .tuple #[]) (by simp [results, Tryz.results327, go_sem]) rfl ?_
    exact ⟨rfl, .inr ⟨k + 1, by omega, by omega, Hz.out⟩⟩
  ·obtain rfl : k = N := by omega
   have hd : decide ((0 : Int) ≤ (k : Int) - 1 - k) = false := by simp; omega
   have hd2 : decide ((k : Int) ≤ (k : Int) - 1) = false := by simp; omega
   go_wp2_with fail
   go_end0
   exact ⟨rfl, .inl hi.out⟩
end

end Go.Proofs.YtgopnfacklmkaaaGreatDoor
