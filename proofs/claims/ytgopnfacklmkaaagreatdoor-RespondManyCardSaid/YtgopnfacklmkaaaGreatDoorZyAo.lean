/- Lemmas and contracts for the theorem of this claim: TmI, TmJ, TmK, TmL, TmM, TmO, TmP. -/
import Derived.Test.YtgopnfacklmkaaaGreatDoorZyAn
import Derived.Deep.RegionLaw
import Derived.Carry
set_option linter.all false
set_option maxHeartbeats 16000000
namespace Go.Proofs.YtgopnfacklmkaaaGreatDoor
section
open Go.RowKit Go.Maps Go.WideShapes
theorem ERowT : ElemOf Tryz.prog 212 337 (.agg #[.int .i64 0, .int .u32 0, .int .i64 0, .int .i64 0]) 4 32 := ⟨Tryz.underlying212, by kernel_rfl, rfl, by decide⟩
theorem rowTa (v : Value) (w : World) : (Instr.typeAssert (.iface 337 v) 20 337 false).run Tryz.prog w = .ok v w := by kernel_rfl
theorem PlOf.push {f : Tk → Option Nat} {l : List Tw} (h : PlOf f l) {x : Tw} (hn : ∀ i (h : i < l.length), l[i].tk ≠ x.tk) : PlOf (updT f x.tk (some l.length)) (l ++ [x]) := by
 constructor
 ·intro i hi
  by_cases e : i < l.length
  ·rw [List.getElem_append_left e, vae _ _ (hn i e)]
   exact h.at_ i e
  ·have e2 : i = l.length := by simp at hi; omega
   subst e2
   rw [List.getElem_append_right (Nat.le_refl _)]
   simp only [Nat.sub_self, List.getElem_cons_zero]
   exact vap _ _ _
 ·intro t ht
  have h1 := ht l.length (by simp)
  rw [List.getElem_append_right (Nat.le_refl _)] at h1
  simp only [Nat.sub_self, List.getElem_cons_zero] at h1
  rw [vae _ _ (fun e => h1 e.symm)]
  refine h.no t (fun i hi => ?_)
  have h2 := ht i (by simp; omega)
  rw [List.getElem_append_left hi] at h2
  exact h2
theorem Own.farT {w : World} {B : Nat} {v : Value} {l : List Tw} (h : Own w B 337 4 Tw.enc v l) {g : Nat} {t : TypeId} {cs : Array Value} (hB : Blk w g t cs) (ht : t ≠ 337) : some g ≠ v.ownBlock := by
 rintro hv
 rcases h.2 with ⟨h2, _⟩ | ⟨q, cap, cur, hq, _, hh, _⟩
 ·rw [h2] at hv; cases hv
 ·rw [hq] at hv
  injection hv with hv
  subst hv
  have := hB.symm.trans hh
  injection this with this
  injection this with _ this
  exact ht this
theorem Own.farM {w : World} {B m n : Nat} {v : Value} {l : List Tw} {f : Tk → Option Nat} (h : Own w B 337 4 Tw.enc v l) (hm : MpT w m n f) : some m ≠ v.ownBlock := by
 rintro hv
 rcases h.2 with ⟨h2, _⟩ | ⟨q, cap, cur, hq, _, hh, _⟩
 ·rw [h2] at hv; cases hv
 ·rw [hq] at hv
  injection hv with hv
  subst hv
  exact hm.ne (show Blk w m 337 cur from hh) rfl
theorem Own.lieT {w w' : World} {B : Nat} {v : Value} {l : List Tw} (h : Own w B 337 4 Tw.enc v l) (e : ∀ g, v.ownBlock = some g → w'.heap[g]? = w.heap[g]?) : Own w' B 337 4 Tw.enc v l := by
 refine ⟨h.1, ?_⟩
 rcases h.2 with h2 | ⟨g, cap, cur, hv, hg, hh, r⟩
 ·exact .inl h2
 ·exact .inr ⟨g, cap, cur, hv, hg, (e g (by rw [hv]; rfl)).trans hh, r⟩
theorem MpT.lt {w : World} {m n : Nat} {f : Tk → Option Nat} (h : MpT w m n f) : m < w.heap.size := by
 obtain ⟨es, cl, h1⟩ := h.heap
 exact (Array.getElem?_eq_some_iff.1 h1).1
theorem MpT.lie {w w' : World} {m n : Nat} {f : Tk → Option Nat} (h : MpT w m n f) (e : w'.heap[m]? = w.heap[m]?) : MpT w' m n f := by
 obtain ⟨D, hD, r⟩ := h
 exact ⟨D, vag hD e, r⟩
theorem viB {B q m : Nat} {A : Option Addr} {c g cap : Nat} {l : List Tw} {x : Tw} {f' : Tk → Option Nat} {w W0 W1 w4 : World} {o : Obj} (Q : QuM w B q m (.slice A l.length c) l) (hx : x.tk.wf) (hd : wfI x.d) (K0 : Kp w W0) (P1 : Only [m] W0 W1) (M1 : MpT W1 m (l.length + 1) f') (Hp : PlOf f' (l ++ [x]))
  (hfm : some m ≠ (Value.slice A l.length c).ownBlock) (hmq : m ≠ q) (hown4 : Own w4 B 337 4 Tw.enc (.slice (some ⟨g, 0, none⟩) (l.length + 1) cap) (l ++ [x])) (hg : (W1.drew.alloc o).grownBy w4 (Value.slice A l.length c).ownBlock) (B4 : Blk w4 q 214 #[.slice A l.length c, .map (some m)]) :
  QuM (w4.setCell ⟨q, 0, none⟩ (.slice (some ⟨g, 0, none⟩) (l.length + 1) cap)) B q m (.slice (some ⟨g, 0, none⟩) (l.length + 1) cap) (l ++ [x]) ∧ ∀ bs : List Nat, q ∈ bs → m ∈ bs → (∀ g, (Value.slice A l.length c).ownBlock = some g → g ∈ bs) → Only bs w (w4.setCell ⟨q, 0, none⟩ (.slice (some ⟨g, 0, none⟩) (l.length + 1) cap)) := by
 have PG : ∀ bs : List Nat, (∀ g, (Value.slice A l.length c).ownBlock = some g → g ∈ bs) → Only bs W1 w4 := fun bs hb => by
  have h1 : Only bs W1 (W1.drew.alloc o) := ((Only.refl bs W1).drew).alloc o
  exact h1.trans ⟨hg.os, hg.tape, hg.output, hg.size, fun k hk hn => hg.block k hk (fun e => hn (hb k e.symm))⟩
 have PS : Only [q] w4 (w4.setCell ⟨q, 0, none⟩ (.slice (some ⟨g, 0, none⟩) (l.length + 1) cap)) := (Only.refl [q] w4).setCell (p := ⟨q, 0, none⟩) (.inl (by simp)) _
 have hm4 : w4.heap[m]? = W1.heap[m]? := by
  have := hg.block m (Nat.lt_of_lt_of_le M1.lt (((Only.refl [] W1).drew.alloc o).size)) hfm
  exact this.trans (((Only.refl [] W1).drew.alloc o).block m M1.lt (by simp))
 have M4 := M1.lie hm4
 have hfar := hown4.farT B4 (by decide)
 refine ⟨⟨?_, ?_, ⟨f', ?_, Hp⟩, ?_⟩, ?_⟩
 ·simpa using B4.set_ 0 (.slice (some ⟨g, 0, none⟩) (l.length + 1) cap)
 ·exact hown4.lieT (fun k hk => PS.block k (World.ownsRow.lt hown4 k hk).2 (by simpa using fun e => hfar (by rw [hk, e])))
 ·have h5 := M4.lie (PS.block m M4.lt (by simpa using hmq))
  simpa using h5
 ·intro t ht
  rcases List.mem_append.1 ht with h | h
  ·exact Q.wf t h
  ·rw [List.mem_singleton] at h
   subst h
   exact ⟨hx, hd⟩
 ·intro bs hq hm ho
  exact (((Only.of_kp K0).trans (P1.wide (by simpa using hm))).trans (PG bs ho)).trans (PS.wide (by simpa using hq))
set_option maxRecDepth 100000 in
theorem vdX (B q m : Nat) (A : Option Addr) (c : Nat) (l : List Tw) (x : Tw) (w : World) (Q : QuM w B q m (.slice A l.length c) l) (hB : B ≤ w.heap.size) (hx : x.tk.wf) (hd : wfI x.d) (hn : ∀ i (h : i < l.length), l[i].tk ≠ x.tk) (hl : l.length ≤ 1000000) :
  Calls Tryz.prog 354 #[.pointer (some ⟨q, 0, none⟩), .iface 337 (.agg #[.int .i64 x.k, .int .u32 x.p.a, .int .i64 x.p.l, .int .i64 x.d])] w fun e w' => e = .returned (.tuple #[]) ∧ ∃ g c', QuM w' B q m (.slice (some ⟨g, 0, none⟩) (l.length + 1) c') (l ++ [x]) ∧ ((Value.slice A l.length c).ownBlock = some g ∨ w.heap.size ≤ g) ∧ ∀ bs : List Nat, q ∈ bs → m ∈ bs → (∀ g, (Value.slice A l.length c).ownBlock = some g → g ∈ bs) → Only bs w w' := by
 obtain ⟨f, hm, hp⟩ := Q.mp
 obtain ⟨p, hp0⟩ : ∃ p, w.heap.size = p := ⟨_, rfl⟩
 obtain ⟨W0, hW0, K0, BP⟩ := Blk.al1 hp0 #[.int .i64 x.k, .int .u32 x.p.a, .int .i64 x.p.l, .int .i64 x.d] 337
 have Q0 := Q.keep K0
 have hm0 : MpT W0 m l.length f := hm.lie (K0.heap hm.lt)
 obtain ⟨c0, c1⟩ := Blk.v2 Q0.bk (.slice A l.length c) (.map (some m)) rfl
 obtain ⟨p0, p1, p2, p3⟩ := Blk.v4 BP (.int .i64 x.k) (.int .u32 x.p.a) (.int .i64 x.p.l) (.int .i64 x.d) rfl
 have hta := rowTa
 have hqp : q ≠ p := by have := Q.bk.lt; omega
 have hmp : m ≠ p := by have := hm.lt; omega
 have hmq : m ≠ q := hm.ne Q.bk
 have wfn : (Lit.int .i64 (l.length : Int)).wf = true := vcz ⟨by omega, by omega⟩
 have hlt : l.length < maxLen := by simp only [maxLen]; omega
 have hft : f x.tk = none := hp.no _ hn
 have Hp := Lib.hid (hp.push hn)
 go_enter Tryz.func354, Tryz.ntmps354
 go_wp2_with fail
 try rw [hp0]
 try rw [hW0]
 clear hW0
 obtain ⟨D, hD, hnD, hf⟩ := hm0
 go_still_tail 11, (by kernel_rfl)
 change wpList _ _ _ _ _ W0.drew
 refine wpList_mapUpdate_in W0.drew rfl _ _ _ 211 rfl 252 3 keyedTm Tryz.underlying211 (plainElem Tryz.prog 3) m l.length D rfl (vag hD rfl) hlt (tkV x.tk) (.int .i64 (l.length : Int)) (tkKey x.tk) rfl rfl (vaF hx) (.lit (.int .i64 (l.length : Int))) [] (plainElem_int Tryz.underlying3 wfn) ?_
 intro W1 hD1 hT1
 have M1 := MpT.put hx (vag (w' := W0.drew) hD rfl) hnD hf hD1
 rw [if_neg (by rw [hft]; decide)] at M1
 have P1 : Only [m] W0 W1 := ((Only.refl [m] W0).drew).trans (Only.turned hT1)
 have B1 := Q0.bk.only P1 (by simpa using fun e => hmq e.symm)
 have BP1 := BP.only P1 (by simpa using fun e => hmp e.symm)
 have hfm := Q0.own.farM (hm.lie (K0.heap hm.lt))
 have O1 : Own W1 B 337 4 Tw.enc (.slice A l.length c) l := Q0.own.lieT (fun g hg => P1.block g (World.ownsRow.lt Q0.own g hg).2 (by simpa using fun e => hfm (by rw [hg, e])))
 clear hD1 hT1 c0 c1 p0 p1 p2 p3 hta
 have c0 : W1.cell? ⟨q, 0, none⟩ = some (.slice A l.length c) := B1.cell 0
 have c0' : ∀ o, (W1.alloc o).cell? ⟨q, 0, none⟩ = some (.slice A l.length c) := fun o => (B1.alloc o).cell 0
 obtain ⟨p0, p1, p2, p3⟩ := Blk.v4 BP1 (.int .i64 x.k) (.int .u32 x.p.a) (.int .i64 x.p.l) (.int .i64 x.d) rfl
 have Hne := Lib.hid (O1.farT B1 (by decide))
 have Hfm := Lib.hid (show some m ≠ (Value.slice A l.length c).ownBlock from hfm)
 have hB1 : B ≤ W1.heap.size := Nat.le_trans hB (Nat.le_trans K0.size P1.size)
 go_wp2_with fail
 go_region_law ((refine vgh ERowT (by rfl) _ _ (by rfl) x (by rfl) (O1.drew.alloc _) (by simp; omega) (by rfl) (e' := 337) (heap_alloc_new _ _) (by rfl) (by rfl) (by rfl) (by omega) ?_; intro g cap w4 hown4 hg hat; have B4 := (B1.drew.alloc _).grown hg Hne.out; have z4 := B4.frozen 0; have y4 : w4.cell? ⟨q, 0, none⟩ = some (.slice A l.length c) := B4.cell 0))
 all_goals
  go_wp2_with fail
  go_end0
  have hE := viB Q hx hd K0 P1 M1 Hp.out Hfm.out hmq hown4 hg B4
  exact ⟨rfl, g, cap, hE.1, hat.imp id (fun e => by
   have h1 := K0.size
   have h2 := P1.size
   have h3 : W1.heap.size ≤ g := by rw [e]; simp
   omega), hE.2⟩
theorem PlOf.pop {f : Tk → Option Nat} {l : List Tw} {x : Tw} (h : PlOf f (l ++ [x])) : PlOf (updT f x.tk none) l := by
 have hx := h.at_ l.length (by simp)
 rw [List.getElem_append_right (Nat.le_refl _)] at hx
 simp only [Nat.sub_self, List.getElem_cons_zero] at hx
 constructor
 ·intro i hi
  have h1 := h.at_ i (by simp; omega)
  rw [List.getElem_append_left hi] at h1
  rw [vae _ _ (fun e => by rw [e, hx] at h1; injection h1 with h1; omega)]
  exact h1
 ·intro t ht
  by_cases e : t = x.tk
  ·rw [e, vap]
  ·rw [vae _ _ e]
   refine h.no t (fun i hi => ?_)
   by_cases h2 : i < l.length
   ·rw [List.getElem_append_left h2]; exact ht i h2
   ·have e2 : i = l.length := by simp at hi; omega
    subst e2
    rw [List.getElem_append_right (Nat.le_refl _)]
    simp only [Nat.sub_self, List.getElem_cons_zero]
    exact fun h3 => e h3.symm
theorem Own.popT {w : World} {B g n c : Nat} {l : List Tw} {x : Tw} (h : Own w B 337 4 Tw.enc (.slice (some ⟨g, 0, none⟩) (n + 1) c) (l ++ [x])) (hn : l.length = n) : Own w B 337 4 Tw.enc (.slice (some ⟨g, 0, none⟩) n c) l ∧ n + 1 ≤ c := by
 subst hn
 rcases h.2 with ⟨h2, _⟩ | ⟨g', cap, cur, hv, hg, hh, hn, hm, hs, ht⟩
 ·cases h2
 ·injection hv with e1 e2 e3
  injection e1 with e1
  injection e1 with e1
  subst e1
  subst e3
  have hl := vcB Tw.len l
  simp only [List.length_append, List.length_cons, List.length_nil, Nat.zero_add] at hn ht
  refine ⟨⟨hl, .inr ⟨g, c, cur, rfl, hg, hh, by omega, hm, hs, ?_⟩⟩, hn⟩
  have h3 := congrArg (List.take (l.length * 4)) ht
  rw [List.take_take, Nat.min_eq_left (by omega), List.flatMap_append, List.take_append_of_le_length (by rw [hl]; exact Nat.le_refl _)] at h3
  rw [h3]
  exact List.take_of_length_le (by rw [hl]; exact Nat.le_refl _)
abbrev twV (x : Tw) : Value := .agg #[.int .i64 x.k, .int .u32 (x.p.a : Int), .int .i64 x.p.l, .int .i64 x.d]
set_option maxRecDepth 100000 in
theorem vbl (B q m g c n : Nat) (l : List Tw) (x : Tw) (w : World) (Q : QuM w B q m (.slice (some ⟨g, 0, none⟩) (n + 1) c) (l ++ [x])) (hn : l.length = n) (hl : n ≤ 1000000) :
  Calls Tryz.prog 353 #[.pointer (some ⟨q, 0, none⟩)] w fun e w' => e = .returned (.iface 337 (twV x)) ∧ QuM w' B q m (.slice (some ⟨g, 0, none⟩) n c) l ∧ Only [q, m] w w' := by
 obtain ⟨f, hm, hp⟩ := Q.mp
 obtain ⟨hO, hnc⟩ := Q.own.popT hn
 have hfx : f x.tk = some n := by
  have hx := hp.at_ l.length (by simp)
  rw [List.getElem_append_right (Nat.le_refl _)] at hx
  simp only [Nat.sub_self, List.getElem_cons_zero] at hx
  rw [hx, hn]
 have hL : (l ++ [x]).length = n + 1 := by simp [hn]
 rw [hL] at hm
 obtain ⟨b, off, hA, x0, x1, x2, x3⟩ := tw_at (Q.own.rdAt (by decide) Tw.len) (k := n) (by omega)
 injection hA with hA
 injection hA with e1 e2
 subst e1
 subst e2
 rw [Nat.zero_add] at x0 x1 x2 x3
 have hxn : (l ++ [x])[n]'(by omega) = x := by
  subst hn
  rw [List.getElem_append_right (Nat.le_refl _)]
  simp
 rw [hxn] at x0 x1 x2 x3
 have wfx : x.tk.wf ∧ wfI x.d := Q.wf x (by simp)
 have hwl : ∀ t ∈ l, t.tk.wf ∧ wfI t.d := fun t ht => Q.wf t (by simp [ht])
 obtain ⟨cur, hcur⟩ := hO.blk4
 have hmg : m ≠ g := hm.ne hcur
 have hmq : m ≠ q := hm.ne Q.bk
 have hqg : q ≠ g := Q.bk.ne_tagT hcur (by decide)
 obtain ⟨p, hp0⟩ : ∃ p, w.heap.size = p := ⟨_, rfl⟩
 have hqp : ¬ q = p := by have := Q.bk.lt; omega
 have hmp : m ≠ p := by have := hm.lt; omega
 have hgp : g ≠ p := by have := hcur.lt; omega
 have hpq : ¬ p = q := fun e => hqp e.symm
 obtain ⟨W0, hW0, P0, BP, BQ⟩ : ∃ W0, (w.alloc (.cells #[.int .i64 x.k, .int .u32 (x.p.a : Int), .int .i64 x.p.l, .int .i64 x.d] 337)).setCell ⟨q, 0, none⟩ (.slice (some ⟨g, 0, none⟩) n c) = W0 ∧ Only [q] w W0 ∧ Blk W0 p 337 #[.int .i64 x.k, .int .u32 (x.p.a : Int), .int .i64 x.p.l, .int .i64 x.d] ∧ Blk W0 q 214 #[.slice (some ⟨g, 0, none⟩) n c, .map (some m)] :=
  ⟨_, rfl, ((Only.refl [q] w).alloc _).setCell (p := ⟨q, 0, none⟩) (.inl (by simp)) _, by rw [← hp0]; exact (Blk.new w 337 #[.int .i64 x.k, .int .u32 (x.p.a : Int), .int .i64 x.p.l, .int .i64 x.d]).far (p := ⟨q, 0, none⟩) (by rw [hp0]; exact hpq) _, by simpa using (Q.bk.alloc (.cells #[.int .i64 x.k, .int .u32 (x.p.a : Int), .int .i64 x.p.l, .int .i64 x.d] 337)).set_ 0 (.slice (some ⟨g, 0, none⟩) n c)⟩
 have c0 : w.cell? ⟨q, 0, none⟩ = some (.slice (some ⟨g, 0, none⟩) (n + 1) c) := Q.bk.cell 0
 have z0 := Blk.frozen Q.bk
 have c0' : ∀ o, (w.alloc o).cell? ⟨q, 0, none⟩ = some (.slice (some ⟨g, 0, none⟩) (n + 1) c) := fun o => (Q.bk.alloc o).cell 0
 have z0' : ∀ o, (w.alloc o).frozen? ⟨q, 0, none⟩ = false := fun o => (Q.bk.alloc o).frozen 0
 have n0 : (0 : Int) ≤ (n : Int) := by omega
 have n1 : (n : Int) < (n : Int) + 1 := by omega
 have n2 : (n : Int) ≤ (c : Int) := by omega
 have n3 : IntKind.i64.wrap ((n : Int) + 1 - 1) = (n : Int) := by rw [IntWalk.i64_in _ (by omega)]; omega
 have Hp := Lib.hid hp.pop
 have q1 : W0.cell? ⟨q, 1, none⟩ = some (.map (some m)) := BQ.cell 1
 obtain ⟨p0, p1, p2, p3⟩ := Blk.v4 BP (.int .i64 x.k) (.int .u32 x.p.a) (.int .i64 x.p.l) (.int .i64 x.d) rfl
 have Hn := Lib.hid hn
 have HL := Lib.hid hL
 have Hp0 := Lib.hid hp0
 clear hxn hn hL
 go_enter Tryz.func353, Tryz.ntmps353
 go_upto_region 4 with (fail)
 try rw [hW0]
 clear hW0 c0 c0' z0 z0' x0 x1 x2 x3
 have hm0 : MpT W0 m (n + 1) f := hm.lie (P0.block m hm.lt (by simpa using hmq))
 have hg0 : W0.heap[g]? = w.heap[g]? := P0.block g hcur.lt (by simpa using fun e => hqg e.symm)
 obtain ⟨D, hD, hnD, hf⟩ := hm0
 go_still_tail 6, (by kernel_rfl)
 change wpList _ _ _ _ _ W0.drew
 refine wpList_delete_own W0.drew rfl _ _ 211 252 rfl 3 keyedTm Tryz.underlying211 (plainElem Tryz.prog 3) m (n + 1) D rfl (vag hD rfl) (tkV x.tk) (tkKey x.tk) rfl (vaF wfx.1) ?_
 intro W1 hD1 hT1
 have M1 := MpT.del wfx.1 (vag (w' := W0.drew) hD rfl) hnD hf hD1
 rw [if_pos (by rw [hfx]; rfl), Nat.add_sub_cancel] at M1
 have P1 : Only [m] W0 W1 := ((Only.refl [m] W0).drew).trans (Only.turned hT1)
 have BQ1 := BQ.only P1 (by simpa using fun e => hmq e.symm)
 have BP1 := BP.only P1 (by simpa using fun e => hmp e.symm)
 have hg1 : W1.heap[g]? = w.heap[g]? := by
  have h5 : g < W0.heap.size := Nat.lt_of_lt_of_le hcur.lt P0.size
  exact (P1.block g h5 (by simpa using fun e => hmg e.symm)).trans hg0
 have O1 := hO.lie hg1
 clear hD1 hT1 q1 p0 p1 p2 p3
 obtain ⟨p0, p1, p2, p3⟩ := Blk.v4 BP1 (.int .i64 x.k) (.int .u32 x.p.a) (.int .i64 x.p.l) (.int .i64 x.d) rfl
 go_wp2_with fail
 go_ret
 refine ⟨rfl, ⟨BQ1, O1, ⟨_, by rw [Hn.out]; exact M1, Hp.out⟩, hwl⟩, (P0.wide (by simp)).trans (P1.wide (by simp))⟩
theorem Heap.congr {α : Type} {lt : α → α → Bool} {f g : Nat → α} {n : Nat} (h : Heap lt f n) (e : ∀ k, k < n → g k = f k) : Heap lt g n := fun k h0 hn => by
 rw [e k hn, e (parH k) (by have := vav h0; omega)]
 exact h k h0 hn
theorem veU (l : List Tw) (x : Tw) {k : Nat} (hk : k < l.length) : fT (l ++ [x]) k = fT l k := by
 rw [fT_at (by simp; omega), fT_at hk, List.getElem_append_left hk]
theorem vez (l : List Tw) (x : Tw) : fT (l ++ [x]) l.length = x := by
 rw [fT_at (by simp), List.getElem_append_right (Nat.le_refl _)]
 simp
theorem vbO {l : List Tw} {n : Nat} (h : l.length = n + 1) : ∃ l' x, l = l' ++ [x] ∧ l'.length = n := by
 have hne : l ≠ [] := fun e => by rw [e] at h; simp at h
 exact ⟨l.dropLast, l.getLast hne, (List.dropLast_concat_getLast hne).symm, by simp [h]⟩
set_option maxRecDepth 100000 in
theorem vdY (B q m : Nat) (A : Option Addr) (c n : Nat) (l : List Tw) (x : Tw) (w : World) (Q : QuM w B q m (.slice A l.length c) l) (hln : l.length = n) (hB : B ≤ w.heap.size) (hx : x.tk.wf) (hd : wfI x.d) (hn : ∀ i (h : i < l.length), l[i].tk ≠ x.tk) (hl : n ≤ 900000) (hH : Heap ltT (fT l) n) :
  Calls Tryz.prog 255 #[quI q, .iface 337 (twV x)] w fun e w' => e = .returned (.tuple #[]) ∧ ∃ g c' l', QuM w' B q m (.slice (some ⟨g, 0, none⟩) (n + 1) c') l' ∧ l'.Perm (l ++ [x]) ∧ l'.length = n + 1 ∧ Heap ltT (fT l') (n + 1) ∧ ((Value.slice A l.length c).ownBlock = some g ∨ w.heap.size ≤ g) ∧ ∀ bs : List Nat, q ∈ bs → m ∈ bs → (∀ g, (Value.slice A l.length c).ownBlock = some g → g ∈ bs) → Only bs w w' := by
 have hP := Lib.hid (vdX B q m A c l x w Q hB hx hd hn (by omega))
 have hU : UpH ltT (fT (l ++ [x])) (n + 1) n := Heap.push (hH.congr (fun k hk => veU l x (by omega)))
 have HU := Lib.hid hU
 have Hln := Lib.hid hln
 clear hn hH hU hln
 go_enter Tryz.func255, Tryz.ntmps255
 go_wp2_with fail
 refine hP.out.mono ?_
 rintro e w1 ⟨rfl, g, c', Q1, hg, hF⟩
 rw [Hln.out] at Q1
 have HF := Lib.hid hF
 have Hg := Lib.hid hg
 clear hF hg hP
 go_wp2_with fail
 refine (vaO q (.map (some m)) (some ⟨g, 0, none⟩) (n + 1) c' w1 Q1.bk).mono ?_
 rintro e w1 ⟨rfl, rfl⟩
 have hw : IntKind.i64.wrap (n : Int) = (n : Int) := IntWalk.i64_in _ (by omega)
 go_wp2_with fail
 refine (vbN B q m g c' (n + 1) (n + 1) (l ++ [x]) n w1 Q1 (by rw [List.length_append, Hln.out]; rfl) (Nat.le_refl _) (by omega) (by omega) HU.out).mono ?_
 rintro e w2 ⟨rfl, l2, hp2, hl2, hH2, _, Q2, O2⟩
 go_wp2_with fail
 go_end0
 refine ⟨rfl, g, c', l2, Q2, hp2, hl2, hH2, Hg.out, fun bs hq hm ho => ?_⟩
 have h1 := HF.out bs hq hm ho
 refine ⟨O2.os.trans h1.os, O2.tape.trans h1.tape, O2.output.trans h1.output, Nat.le_trans h1.size O2.size, fun k hk hb => ?_⟩
 refine (O2.block k (Nat.lt_of_lt_of_le hk h1.size) ?_).trans (h1.block k hk hb)
 intro hh
 rcases List.mem_cons.1 hh with e | hh
 ·subst e
  rcases Hg.out with h | h
  ·exact hb (ho _ h)
  ·omega
 ·rw [List.mem_singleton] at hh
  subst hh
  exact hb hm
set_option maxRecDepth 100000 in
theorem veA (B q m g c n : Nat) (l : List Tw) (i : Nat) (w : World) (Q : QuM w B q m (.slice (some ⟨g, 0, none⟩) n c) l) (hn : l.length = n) (hi : i < n) (hl : n ≤ 1000000) (hD : DownH ltT (fT l) n i i) :
  Calls Tryz.prog 254 #[quI q, .int .i64 (i : Int)] w fun e w' => e = .returned (.tuple #[]) ∧ ∃ l', QuM w' B q m (.slice (some ⟨g, 0, none⟩) n c) l' ∧ l'.Perm l ∧ l'.length = n ∧ Heap ltT (fT l') n ∧ Only [g, m] w w' := by
 have HQ := Lib.hid Q
 have Hn := Lib.hid hn
 have HD := Lib.hid hD
 clear Q hn hD
 go_enter Tryz.func254, Tryz.ntmps254
 go_wp2_with fail
 refine (vaO q (.map (some m)) (some ⟨g, 0, none⟩) n c w HQ.out.bk).mono ?_
 rintro e w ⟨rfl, rfl⟩
 go_wp2_with fail
 refine (vbZ B q m g c n n l i w HQ.out Hn.out (Nat.le_refl _) (by omega) hi hl HD.out).mono ?_
 rintro e w1 ⟨l1, b, rfl, hp1, hl1, Q1, _, hT, hF, O1⟩
 have HT := Lib.hid hT
 have HF := Lib.hid hF
 clear hT hF
 cases b with
 | true =>
  go_wp2_with fail
  go_end0
  exact ⟨rfl, l1, Q1, hp1, hl1, (by first | exact HT.out rfl | exact HT.out trivial), O1⟩
 | false =>
  obtain ⟨hU, e1⟩ : UpH ltT (fT l1) n i ∧ l1 = l := (by first | exact HF.out rfl | exact HF.out trivial)
  have HU := Lib.hid hU
  clear hU e1
  go_wp2_with fail
  refine (vbN B q m g c n n l1 i w1 Q1 hl1 (Nat.le_refl _) hi hl HU.out).mono ?_
  rintro e w2 ⟨rfl, l2, hp2, hl2, hH2, _, Q2, O2⟩
  go_wp2_with fail
  go_end0
  exact ⟨rfl, l2, Q2, hp2.trans hp1, hl2, hH2, O1.trans O2⟩
set_option maxRecDepth 100000 in
theorem vcL (B q m g c n : Nat) (l : List Tw) (i : Nat) (w : World) (Q : QuM w B q m (.slice (some ⟨g, 0, none⟩) (n + 1) c) l) (hn : l.length = n + 1) (hi : i ≤ n) (hl : n ≤ 900000) (hH : Heap ltT (fT l) (n + 1)) :
  Calls Tryz.prog 256 #[quI q, .int .i64 (i : Int)] w fun e w' => ∃ l', e = .returned (.iface 337 (twV (fT l i))) ∧ QuM w' B q m (.slice (some ⟨g, 0, none⟩) n c) l' ∧ (l' ++ [fT l i]).Perm l ∧ l'.length = n ∧ Heap ltT (fT l') n ∧ Only [q, g, m] w w' := by
 obtain ⟨y, hy⟩ : ∃ y, fT l i = y := ⟨_, rfl⟩
 rw [hy]
 have Hy := Lib.hid hy
 clear hy
 have HQ := Lib.hid Q
 have Hn := Lib.hid hn
 have HH := Lib.hid hH
 have hil : i < l.length := by omega
 have hnn : n < l.length := by omega
 have hS := vaA B q m g c l i n w (by rw [hn]; exact Q) hil hnn (by omega)
 rw [hn] at hS
 have HS := Lib.hid hS
 have hw : IntKind.i64.wrap (n : Int) = (n : Int) := IntWalk.i64_in _ (by omega)
 clear Q hn hS hH
 by_cases hni : n = i
 ·have b1 : ((n : Int) != (i : Int)) = false := by rw [bne_eq_false_iff_eq]; omega
  have b2 : ((n : Int) == (i : Int)) = true := by rw [beq_iff_eq]; omega
  obtain ⟨l3, x, e2, hl3⟩ := vbO Hn.out
  have hx : x = y := by
   have h6 : fT (l3 ++ [x]) n = x := by rw [← hl3]; exact vez l3 x
   rw [← Hy.out, e2, ← hni, h6]
  have Hni := Lib.hid hni
  subst e2
  subst hx
  have hH3 := Lib.hid ((HH.out.less (Nat.le_succ n)).congr (g := fT l3) (fun k hk => (veU l3 _ (by omega)).symm))
  clear hni HS
  go_enter Tryz.func256, Tryz.ntmps256
  go_wp2_with fail
  refine (vaO q (.map (some m)) (some ⟨g, 0, none⟩) (n + 1) c w HQ.out.bk).mono ?_
  rintro e w ⟨rfl, rfl⟩
  go_wp2_with fail
  refine (vbl B q m g c n l3 x w HQ.out hl3 (by omega)).mono ?_
  rintro e w3 ⟨rfl, Q3, O3⟩
  go_wp2_with fail
  go_ret
  exact ⟨l3, rfl, Q3, List.Perm.refl _, hl3, hH3.out, O3.wide (by simp)⟩
 ·have b1 : ((n : Int) != (i : Int)) = true := by rw [bne_iff_ne]; omega
  have b2 : ((n : Int) == (i : Int)) = false := by rw [beq_eq_false_iff_ne]; omega
  have Hin := Lib.hid (show i < n by omega)
  clear hni
  go_enter Tryz.func256, Tryz.ntmps256
  go_wp2_with fail
  refine (vaO q (.map (some m)) (some ⟨g, 0, none⟩) (n + 1) c w HQ.out.bk).mono ?_
  rintro e w ⟨rfl, rfl⟩
  go_wp2_with fail
  refine HS.out.mono ?_
  rintro e w1 ⟨rfl, Q1, O1⟩
  have hl1 : (swapL l i n hil hnn).length = n + 1 := by rw [vay]; exact Hn.out
  have hD : DownH ltT (fT (swapL l i n hil hnn)) n i i := by
   refine Heap.put vaW (HH.out.less (Nat.le_succ n)) (fun k hk hk0 => ?_) Hin.out
   rw [vbk, swH_o _ hk0 (by omega)]
  have HD := Lib.hid hD
  have Hl1 := Lib.hid hl1
  clear hD hl1 HS HH
  go_wp2_with fail
  refine (vbZ B q m g c n (n + 1) (swapL l i n hil hnn) i w1 Q1 Hl1.out (Nat.le_succ n) (by omega) (by omega) (by omega) HD.out).mono ?_
  rintro e w2 ⟨l2, b, rfl, hp2, hl2, Q2, ht2, hT, hF, O2⟩
  have HT := Lib.hid hT
  have HF := Lib.hid hF
  clear hT hF
  cases b with
  | true =>
   have hH2 : Heap ltT (fT l2) n := (by first | exact HT.out rfl | exact HT.out trivial)
   obtain ⟨l3, x, e2, hl3⟩ := vbO hl2
   have hx : x = y := by
    have h5 := (ht2) n (Nat.le_refl _)
    have h6 : fT (l3 ++ [x]) n = x := by rw [← hl3]; exact vez l3 x
    rw [e2, h6, vbk, swH_r, Hy.out] at h5
    exact h5
   subst e2
   subst hx
   have hH3 := Lib.hid ((hH2).congr (g := fT l3) (fun k hk => (veU l3 _ (by omega)).symm))
   have hp3 := Lib.hid ((hp2).trans (vaK l i n hil hnn))
   have hO := Lib.hid (O1.trans O2)
   go_wp2_with fail
   refine (vbl B q m g c n l3 x _ Q2 hl3 (by omega)).mono ?_
   rintro e w5 ⟨rfl, Q5, O5⟩
   go_wp2_with fail
   go_ret
   exact ⟨l3, rfl, Q5, hp3.out, hl3, hH3.out, (hO.out.wide (by simp)).trans (O5.wide (by simp))⟩
  | false =>
   obtain ⟨hU, _⟩ : UpH ltT (fT l2) n i ∧ l2 = swapL l i n hil hnn := (by first | exact HF.out rfl | exact HF.out trivial)
   have HU := Lib.hid hU
   clear hU
   go_wp2_with fail
   refine (vbN B q m g c n (n + 1) l2 i w2 Q2 hl2 (Nat.le_succ n) Hin.out (by omega) HU.out).mono ?_
   rintro e w4 ⟨rfl, l4, hp4, hl4, hH4, ht4, Q4, O4⟩
   obtain ⟨l3, x, e2, hl3⟩ := vbO hl4
   have hx : x = y := by
    have h5 := (fun y hy => (ht4 y hy).trans (ht2 y hy)) n (Nat.le_refl _)
    have h6 : fT (l3 ++ [x]) n = x := by rw [← hl3]; exact vez l3 x
    rw [e2, h6, vbk, swH_r, Hy.out] at h5
    exact h5
   subst e2
   subst hx
   have hH3 := Lib.hid ((hH4).congr (g := fT l3) (fun k hk => (veU l3 _ (by omega)).symm))
   have hp3 := Lib.hid ((hp4.trans hp2).trans (vaK l i n hil hnn))
   have hO := Lib.hid ((O1.trans O2).trans O4)
   go_wp2_with fail
   refine (vbl B q m g c n l3 x _ Q4 hl3 (by omega)).mono ?_
   rintro e w5 ⟨rfl, Q5, O5⟩
   go_wp2_with fail
   go_ret
   exact ⟨l3, rfl, Q5, hp3.out, hl3, hH3.out, (hO.out.wide (by simp)).trans (O5.wide (by simp))⟩
theorem vcj (a q : Nat) (w : World) (h : Blk w a 216 #[.pointer (some ⟨q, 0, none⟩)]) : Calls Tryz.prog 252 #[.pointer (some ⟨a, 0, none⟩)] w fun e w' => e = .returned (.bool false) ∧ w = w' := by
 have c0 : w.cell? ⟨a, 0, none⟩ = some (.pointer (some ⟨q, 0, none⟩)) := h.cell 0
 clear h
 go_enter Tryz.func252, Tryz.ntmps252
 go_wp2_with fail
 go_ret
 exact ⟨rfl, rfl⟩
theorem vkA (g : Nat) (w : World) (h : Blk w g 250 #[.int .i64 1, .int .i64 2]) : Calls Tryz.prog 297 #[.int .i64 3, .slice (some ⟨g, 0, none⟩) 2 2] w fun e w' => e = .returned (.bool false) ∧ w = w' := by
 obtain ⟨c0, c1⟩ := Blk.v2 h (.int .i64 1) (.int .i64 2) rfl
 clear h
 go_enter Tryz.func297, Tryz.ntmps297
 go_wp2_with fail
 refine wp_loop_rounds 3 ?_
 rw [rounds_succ]
 go_wp2_with fail
 rw [rounds_succ]
 go_wp2_with fail
 rw [rounds_succ]
 go_wp2_with fail
 go_ret
 exact ⟨rfl, rfl⟩
theorem viC (g : Nat) (w : World) (h : Blk w g 250 #[.int .i64 3]) : Calls Tryz.prog 297 #[.int .i64 3, .slice (some ⟨g, 0, none⟩) 1 1] w fun e w' => e = .returned (.bool true) ∧ w = w' := by
 have c0 : w.cell? ⟨g, 0, none⟩ = some (.int .i64 3) := h.cell 0
 clear h
 go_enter Tryz.func297, Tryz.ntmps297
 go_wp2_with fail
 refine wp_loop_rounds 2 ?_
 rw [rounds_succ]
 go_wp2_with fail
 go_ret
 exact ⟨rfl, rfl⟩
set_option maxRecDepth 100000 in
theorem viD (w : World) : Calls Tryz.prog 50 #[] w fun e w' => ∃ a q m, e = .returned (.pointer (some ⟨a, 0, none⟩)) ∧ Blk w' a 216 #[.pointer (some ⟨q, 0, none⟩)] ∧ QuM w' w.heap.size q m (.slice none 0 0) [] ∧ Kp w w' ∧ ∀ b ∈ [a, q, m], w.heap.size ≤ b ∧ b < w'.heap.size := by
 have hmk : ∀ w, (Instr.makeMap 211 none).run Tryz.prog w = .ok (.map (some w.heap.size)) (w.alloc (.map #[] 0)) := fun w => run_makeMap _ _
 go_enter Tryz.func50, Tryz.ntmps50
 go_wp2_with fail
 go_ret
 refine ⟨w.heap.size + 1 + 1, w.heap.size + 1, w.heap.size, rfl, ?_, ⟨?_, Own.nil _ _ _ _ _, ⟨fun _ => none, ?_, ?_⟩, fun t ht => absurd ht (by simp)⟩, (((Kp.refl w).alloc _).alloc _).alloc _, by simp; omega⟩
 ·have h := Blk.new1 (w.alloc (.map #[] 0)) (.cells #[.slice none 0 0, .map (some w.heap.size)] 214) 216 #[.pointer (some ⟨w.heap.size + 1, 0, none⟩)]
  simpa using h
 ·have h := (Blk.new (w.alloc (.map #[] 0)) 214 #[.slice none 0 0, .map (some w.heap.size)]).alloc (.cells #[.pointer (some ⟨w.heap.size + 1, 0, none⟩)] 216)
  simpa using h
 ·exact ⟨.map [], ((World.ownsMap_made w Tryz.prog 252 (plainElem Tryz.prog 3)).alloc _).alloc _, rfl, ⟨fun t _ => rfl, fun t _ i h => by cases h⟩⟩
 ·exact ⟨fun i h => absurd h (by simp), fun t _ => rfl⟩
set_option maxRecDepth 100000 in
theorem vaq (p : PI) (w : World) (ha : p.a < 4294967296) : Calls Tryz.prog 253 #[.agg #[.int .i64 3, .int .u32 p.a, .int .i64 p.l]] w fun e w' => e = .returned (.int .i64 (if checkP p = 0 then 0 else 2)) ∧ Kp w w' := by
 obtain ⟨V, hV⟩ : ∃ V : Int, (if checkP p = 0 then 0 else 2) = V := ⟨_, rfl⟩
 rw [hV]
 have HV := Lib.hid hV
 clear hV
 obtain ⟨W, hW, kW, BW⟩ := Blk.al1 (w := w) rfl #[.int .i64 3, .int .u32 p.a, .int .i64 p.l] 252
 have c0 : W.cell? ⟨w.heap.size, 0, none⟩ = some (.int .i64 3) := BW.cell 0
 have kW1 := kW.alloc (.cells #[.int .i64 1, .int .i64 2] 250)
 have BW1 := BW.alloc (.cells #[.int .i64 1, .int .i64 2] 250)
 have HB := Lib.hid BW1
 go_enter Tryz.func253, Tryz.ntmps253
 go_wp2_with fail
 refine vaa 0 rfl ?_
 go_wp2_with fail
 try rw [hW]
 clear hW
 refine (vkA W.heap.size _ (Blk.new W _ _)).mono ?_
 rintro e w' ⟨rfl, rfl⟩
 obtain ⟨W1, hW1, k1, B1⟩ : ∃ W1, W.alloc (.cells #[.int .i64 1, .int .i64 2] 250) = W1 ∧ Kp w W1 ∧ Blk W1 w.heap.size 252 #[.int .i64 3, .int .u32 p.a, .int .i64 p.l] := ⟨_, rfl, kW1, BW1⟩
 rw [hW1]
 clear hW1 c0
 have c0 : W1.cell? ⟨w.heap.size, 0, none⟩ = some (.int .i64 3) := B1.cell 0
 go_wp2_with fail
 refine (viC W1.heap.size _ (Blk.new W1 _ _)).mono ?_
 rintro e w' ⟨rfl, rfl⟩
 obtain ⟨W2, hW2, k2, B2⟩ : ∃ W2, W1.alloc (.cells #[.int .i64 3] 250) = W2 ∧ Kp w W2 ∧ Blk W2 w.heap.size 252 #[.int .i64 3, .int .u32 p.a, .int .i64 p.l] := ⟨_, rfl, k1.alloc _, B1.alloc _⟩
 rw [hW2]
 clear hW2 c0
 obtain ⟨-, c1, c2⟩ := Blk.v3 B2 _ (.int .u32 p.a) (.int .i64 p.l) rfl
 go_wp2_with fail
 refine (vaS p W2 ha).mono ?_
 rintro e w3 ⟨rfl, K3⟩
 obtain ⟨e, he⟩ : ∃ e, checkP p = e := ⟨_, rfl⟩
 rw [he]
 have HE := Lib.hid he
 clear he
 by_cases h0 : e = 0
 ·subst h0
  have HW := Lib.hid (show V = 0 by rw [← HV.out, if_pos HE.out])
  go_wp2_with fail
  refine vam ?_
  go_ret
  exact ⟨by rw [HW.out]; rfl, k2.trans K3⟩
 ·have hb : (e != 0) = true := by rw [bne_iff_ne]; exact h0
  have hb2 : (e == 0) = false := by rw [beq_eq_false_iff_ne]; exact h0
  have HW := Lib.hid (show V = 2 by rw [← HV.out, if_neg (by rw [HE.out]; exact h0)])
  clear h0
  go_wp2_with fail
  go_step3
  refine ⟨rfl, ?_⟩
  go_wp2_with fail
  refine vbJ ?_
  go_ret
  exact ⟨by rw [HW.out]; rfl, k2.trans K3⟩
theorem rowTb (v : Value) (w : World) : (Instr.typeAssert (.iface 337 v) 20 337 false).run Tryz.prog w = .ok v w := by kernel_rfl
theorem PI.ext' {p q : PI} (h1 : p.a = q.a) (h2 : p.l = q.l) : p = q := by cases p; cases q; simp only at h1 h2; subst h1; subst h2; rfl
instance : DecidableEq PI := fun p q => if h : p.a = q.a ∧ p.l = q.l then isTrue (PI.ext' h.1 h.2) else isFalse (fun e => h (by rw [e]; exact ⟨rfl, rfl⟩))
def offP (p : PI) (l : List Tw) : List Tw := l.filter (fun y => decide (y.p ≠ p))
theorem vaY {p : PI} {l : List Tw} (h : ∀ y ∈ l, y.p ≠ p) : offP p l = l := List.filter_eq_self.2 (fun y hy => by simpa using h y hy)
theorem tk_eq {x y : Tw} (hx : x.k = 3) (hy : y.k = 3) : x.tk = y.tk ↔ x.p = y.p := by
 constructor
 ·intro h; injection h
 ·intro h; unfold Tw.tk; rw [hx, hy, h]
theorem vgU {l l' : List Tw} {x : Tw} (hx : ∀ y ∈ l', y.p ≠ x.p) (h : (l' ++ [x]).Perm l) : l'.Perm (offP x.p l) := by
 have h2 := h.filter (fun y => decide (y.p ≠ x.p))
 rw [List.filter_append] at h2
 have e1 : l'.filter (fun y => decide (y.p ≠ x.p)) = l' := vaY hx
 rw [e1] at h2
 have e3 : [x].filter (fun y => decide (y.p ≠ x.p)) = [] := by simp
 rw [e3, List.append_nil] at h2
 exact h2
theorem viE {l : List Tw} {i : Nat} (hi : i < l.length) (x : Tw) (hp : x.p = l[i].p) (hd : ∀ j (h : j < l.length), l[j].p = l[i].p → j = i) : (l.set i x).Perm (x :: offP x.p l) := by
 have e : l = l.take i ++ l[i] :: l.drop (i + 1) := by rw [List.getElem_cons_drop, List.take_append_drop]
 have e1 : ∀ y ∈ l.take i, y.p ≠ x.p := fun y hy => by
  obtain ⟨j, hj, rfl⟩ := List.getElem_of_mem hy
  rw [List.length_take] at hj
  rw [List.getElem_take, hp]
  exact fun e => by have := hd j (by omega) e; omega
 have e2 : ∀ y ∈ l.drop (i + 1), y.p ≠ x.p := fun y hy => by
  obtain ⟨j, hj, rfl⟩ := List.getElem_of_mem hy
  rw [List.length_drop] at hj
  rw [List.getElem_drop, hp]
  exact fun e => by have := hd _ (by omega) e; omega
 have e3 : offP x.p l = l.take i ++ l.drop (i + 1) := by
  conv => lhs; rw [e]
  unfold offP
  rw [List.filter_append, List.filter_cons, if_neg (by simp [hp])]
  congr 1
  ·exact vaY e1
  ·exact vaY e2
 rw [e3, List.set_eq_take_append_cons_drop, if_pos hi]
 exact List.perm_middle
theorem vkB {l : List Tw} {i : Nat} (hi : i < l.length) (x : Tw) : fT (l.set i x) i = x ∧ ∀ k, k ≠ i → fT (l.set i x) k = fT l k := by
 refine ⟨by rw [fT_at (by rw [List.length_set]; exact hi), List.getElem_set_self], fun k hk => ?_⟩
 unfold fT
 rw [List.getD_eq_getElem?_getD, List.getD_eq_getElem?_getD, List.getElem?_set_ne (fun e => hk e.symm)]
theorem PlOf.set_ {f : Tk → Option Nat} {l : List Tw} (h : PlOf f l) {i : Nat} (hi : i < l.length) (x : Tw) (e : x.tk = l[i].tk) : PlOf f (l.set i x) := by
 have hg : ∀ k (hk : k < (l.set i x).length), (l.set i x)[k].tk = (l[k]'(by rw [List.length_set] at hk; exact hk)).tk := fun k hk => by
  rw [List.getElem_set]
  split
  ·next e2 => subst e2; exact e
  ·rfl
 constructor
 ·intro k hk
  rw [hg]
  exact h.at_ k _
 ·intro t ht
  refine h.no t (fun k hk => ?_)
  have := ht k (by rw [List.length_set]; exact hk)
  rw [hg] at this
  exact this
theorem Own.putDue {w : World} {B g n c : Nat} {l : List Tw} (h : Own w B 337 4 Tw.enc (.slice (some ⟨g, 0, none⟩) n c) l) {i : Nat} (hi : i < l.length) (x : Tw) (ht : x.tk = l[i].tk) : Own (w.setCell ⟨g, i * 4 + 3, none⟩ (.int .i64 x.d)) B 337 4 Tw.enc (.slice (some ⟨g, 0, none⟩) n c) (l.set i x) := by
 have h2 := h.putTw hi x
 have e : x.k = l[i].k ∧ x.p = l[i].p := by unfold Tw.tk at ht; injection ht with e1 e2; exact ⟨e1, e2⟩
 obtain ⟨b, off, hA, x0, x1, x2, x3⟩ := tw_at (h.rdAt (by decide) Tw.len) hi
 injection hA with hA
 injection hA with e1 e2
 subst e1
 subst e2
 rw [Nat.zero_add] at x0 x1 x2
 rw [← e.1] at x0
 rw [← e.2] at x1 x2
 obtain ⟨cur, hB⟩ := h.blk4
 rw [hB.cell] at x0 x1 x2
 have hid : ∀ (k : Nat) (u : Value), cur[k]? = some u → cur.setIfInBounds k u = cur := fun k u hu => by
  obtain ⟨hk, e⟩ := Array.getElem?_eq_some_iff.1 hu
  apply Array.ext_getElem?
  intro j
  rw [Array.getElem?_setIfInBounds]
  split
  ·next e2 => subst e2; exact hu.symm
  ·rfl
 have hB' := (((hB.set_ (i * 4) (.int .i64 x.k)).set_ (i * 4 + 1) (.int .u32 (x.p.a : Int))).set_ (i * 4 + 2) (.int .i64 x.p.l)).set_ (i * 4 + 3) (.int .i64 x.d)
 rw [hid _ _ x0, hid _ _ x1, hid _ _ x2] at hB'
 have hS := hB.set_ (i * 4 + 3) (.int .i64 x.d)
 exact h2.lie (Eq.trans hS hB'.symm)
end

end Go.Proofs.YtgopnfacklmkaaaGreatDoor
