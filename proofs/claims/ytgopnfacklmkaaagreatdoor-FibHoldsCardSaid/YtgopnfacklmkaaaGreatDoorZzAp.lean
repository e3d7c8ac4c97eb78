/- Lemmas and contracts for the theorem of this claim: TmR, TmS, RbN. -/
import Derived.Test.YtgopnfacklmkaaaGreatDoorZzAo
import Derived.Maps.Range
set_option linter.all false
set_option maxHeartbeats 16000000
namespace Go.Proofs.YtgopnfacklmkaaaGreatDoor
section
open Go.RowKit Go.Maps Go.WideShapes
set_option maxRecDepth 100000 in
theorem vhT (B a q m : Nat) (A : Option Addr) (c : Nat) (l : List Tw) (p : PI) (w : World) (hA : Blk w a 216 #[.pointer (some ⟨q, 0, none⟩)]) (Q : QuM w B q m (.slice A l.length c) l) (hx : (Tw.mk 3 p 0).tk.wf) (hc : checkP p = 0) (hn : ∀ i (h : i < l.length), l[i].tk ≠ (Tw.mk 3 p 0).tk) :
  Calls Tryz.prog 176 #[.pointer (some ⟨a, 0, none⟩), .agg #[.int .i64 3, .int .u32 (p.a : Int), .int .i64 p.l]] w fun e w' => (∃ v, e = .returned v) ∧ Kp w w' := by
 have haq : p.a < 4294967296 := hx.a
 obtain ⟨r, hr⟩ : ∃ r, w.heap.size = r := ⟨_, rfl⟩
 obtain ⟨W0, hW0, K0, BP⟩ := Blk.al1 hr #[.int .i64 3, .int .u32 (p.a : Int), .int .i64 p.l] 252
 have A0 := hA.keep K0
 have Q0 := Q.keep K0
 obtain ⟨p0, p1, p2⟩ := Blk.v3 BP (.int .i64 3) (.int .u32 p.a) (.int .i64 p.l) rfl
 have HC := Lib.hid (vaH p W0 haq)
 have HCc := Lib.hid hc
 have Hn := Lib.hid hn
 have Hx := Lib.hid hx
 clear hn hx hc
 go_enter Tryz.func176, Tryz.ntmps176
 go_wp2_with fail
 refine vac 0 rfl ?_
 go_wp2_with fail
 refine (vbR a q _ A0).mono ?_
 rintro e w1 ⟨rfl, rfl⟩
 go_wp2_with fail
 refine HC.out.mono ?_
 rintro e w1 ⟨rfl, K1⟩
 rw [if_pos HCc.out]
 have KW := K0.trans K1
 have A1 := A0.keep K1
 have Q1 := Q0.keep K1
 obtain ⟨f, hm, hpl⟩ := Q1.mp
 obtain ⟨v, hlook, hv⟩ := veW hm Hx.out
 have hf : f (Tw.mk 3 p 0).tk = none := hpl.no _ Hn.out
 rw [hf] at hlook
 have hlk : ∀ k, (Instr.lookup 211 (.map (some m)) (.agg #[.int .i64 3, .int .u32 (p.a : Int), .int .i64 p.l]) true).run Tryz.prog (w1.drewN k) = .ok (.tuple #[.int .i64 v, .bool false]) (w1.drewN k) := fun k => hlook _ rfl
 have B1 := BP.keep K1
 have q0 : w1.cell? ⟨a, 0, none⟩ = some (.pointer (some ⟨q, 0, none⟩)) := A1.cell 0
 have q1 : w1.cell? ⟨q, 1, none⟩ = some (.map (some m)) := Q1.bk.cell 1
 obtain ⟨u0, u1, u2⟩ := Blk.v3 B1 (.int .i64 3) (.int .u32 p.a) (.int .i64 p.l) rfl
 clear hlook hv
 go_wp2_with fail
 go_quiet (fail)
 obtain ⟨W2, hW2, K2⟩ : ∃ W2, w1.drewN nq = W2 ∧ Kp w1 W2 := ⟨_, rfl, (Kp.refl _).drewN _⟩
 rw [hW2]
 have A2 := A1.keep K2
 have Q2 := Q1.keep K2
 clear hW2 hlk q0 q1 u0 u1 u2 p0 p1 p2 hf hpl hm
 have q0 : W2.cell? ⟨a, 0, none⟩ = some (.pointer (some ⟨q, 0, none⟩)) := A2.cell 0
 go_wp2_with fail
 refine vak ?_
 exact bodyPost_ret (v := .tuple #[.int .i64 0, .bool false, .int .i64 0]) (by simp [results, Tryz.results176, go_sem]) rfl ⟨⟨_, rfl⟩, KW.trans K2⟩
set_option maxRecDepth 100000 in
theorem vgs (B a q m g c n : Nat) (l : List Tw) (p : PI) (i : Nat) (hi : i < l.length) (w : World) (hA : Blk w a 216 #[.pointer (some ⟨q, 0, none⟩)]) (Q : QuM w B q m (.slice (some ⟨g, 0, none⟩) (n + 1) c) l) (hln : l.length = n + 1) (hx : (Tw.mk 3 p 0).tk.wf) (hc : checkP p = 0) (hn : l[i].tk = (Tw.mk 3 p 0).tk) (hl : n ≤ 900000) (hH : Heap ltT (fT l) (n + 1)) :
  Calls Tryz.prog 176 #[.pointer (some ⟨a, 0, none⟩), .agg #[.int .i64 3, .int .u32 (p.a : Int), .int .i64 p.l]] w fun e w' => (∃ v, e = .returned v) ∧ ∃ l', QuM w' B q m (.slice (some ⟨g, 0, none⟩) n c) l' ∧ (l' ++ [fT l i]).Perm l ∧ l'.length = n ∧ Heap ltT (fT l') n ∧ Only [q, g, m] w w' := by
 have haq : p.a < 4294967296 := hx.a
 obtain ⟨r, hr⟩ : ∃ r, w.heap.size = r := ⟨_, rfl⟩
 obtain ⟨W0, hW0, K0, BP⟩ := Blk.al1 hr #[.int .i64 3, .int .u32 (p.a : Int), .int .i64 p.l] 252
 have A0 := hA.keep K0
 have Q0 := Q.keep K0
 obtain ⟨p0, p1, p2⟩ := Blk.v3 BP (.int .i64 3) (.int .u32 p.a) (.int .i64 p.l) rfl
 have HC := Lib.hid (vaH p W0 haq)
 have HCc := Lib.hid hc
 have Hn := Lib.hid hn
 have Hx := Lib.hid hx
 have Hln := Lib.hid hln
 have HH := Lib.hid hH
 have i0 : (0 : Int) ≤ (i : Int) := by omega
 have gi : IntKind.i64.wrap (i : Int) = (i : Int) := IntWalk.i64_in _ (by omega)
 have hin : i ≤ n := by omega
 obtain ⟨z, hz0⟩ : ∃ z, fT l i = z := ⟨_, rfl⟩
 rw [hz0]
 have Hz := Lib.hid hz0
 have hta := rowTb
 clear hz0 hn hx hc hln hH
 go_enter Tryz.func176, Tryz.ntmps176
 go_wp2_with fail
 refine vac 0 rfl ?_
 go_wp2_with fail
 refine (vbR a q _ A0).mono ?_
 rintro e w1 ⟨rfl, rfl⟩
 go_wp2_with fail
 refine HC.out.mono ?_
 rintro e w1 ⟨rfl, K1⟩
 rw [if_pos HCc.out]
 have KW := K0.trans K1
 have A1 := A0.keep K1
 have Q1 := Q0.keep K1
 obtain ⟨f, hm, hpl⟩ := Q1.mp
 obtain ⟨v, hlook, hv⟩ := veW hm Hx.out
 have hf : f (Tw.mk 3 p 0).tk = some i := by rw [← Hn.out]; exact hpl.at_ i hi
 obtain rfl := hv i hf
 rw [hf] at hlook
 have hlk : ∀ k, (Instr.lookup 211 (.map (some m)) (.agg #[.int .i64 3, .int .u32 (p.a : Int), .int .i64 p.l]) true).run Tryz.prog (w1.drewN k) = .ok (.tuple #[.int .i64 (i : Int), .bool true]) (w1.drewN k) := fun k => hlook _ rfl
 have B1 := BP.keep K1
 have q0 : w1.cell? ⟨a, 0, none⟩ = some (.pointer (some ⟨q, 0, none⟩)) := A1.cell 0
 have q1 : w1.cell? ⟨q, 1, none⟩ = some (.map (some m)) := Q1.bk.cell 1
 obtain ⟨u0, u1, u2⟩ := Blk.v3 B1 (.int .i64 3) (.int .u32 p.a) (.int .i64 p.l) rfl
 clear hlook hv
 go_wp2_with fail
 go_quiet (fail)
 obtain ⟨W2, hW2, K2⟩ : ∃ W2, w1.drewN nq = W2 ∧ Kp w1 W2 := ⟨_, rfl, (Kp.refl _).drewN _⟩
 rw [hW2]
 have A2 := A1.keep K2
 have Q2 := Q1.keep K2
 clear hW2 hlk q0 q1 u0 u1 u2 p0 p1 p2 hf hpl hm
 have q0 : W2.cell? ⟨a, 0, none⟩ = some (.pointer (some ⟨q, 0, none⟩)) := A2.cell 0
 have HRm := veg B q m g c n l i W2 Q2 Hln.out hin hl HH.out
 rw [Hz.out] at HRm
 have HR := Lib.hid HRm
 clear HRm
 go_wp2_with fail
 refine HR.out.mono ?_
 rintro e w2 ⟨l', rfl, Q3, hp3, hl3, hH3, O3⟩
 have HQ := Lib.hid Q3
 clear HR q0 Q2 Q3
 obtain ⟨r2, hr2⟩ : ∃ r2, w2.heap.size = r2 := ⟨_, rfl⟩
 obtain ⟨W3, hW3, K3, BR⟩ := Blk.al1 hr2 #[.int .i64 z.k, .int .u32 (z.p.a : Int), .int .i64 z.p.l, .int .i64 z.d] 337
 obtain ⟨r0, r1, r22, r3⟩ := Blk.v4 BR (.int .i64 z.k) (.int .u32 z.p.a) (.int .i64 z.p.l) (.int .i64 z.d) rfl
 go_wp2_with fail
 refine vak ?_
 exact bodyPost_ret (v := .tuple #[.int .i64 z.d, .bool true, .int .i64 0]) (by simp [results, Tryz.results176, go_sem]) rfl ⟨⟨_, rfl⟩, l', HQ.out.keep K3, hp3, hl3, hH3, ((Only.of_kp (KW.trans K2)).trans O3).trans (Only.of_kp K3)⟩
def QT (w w' : World) (B a : Nat) (bs : List Nat) (l : List Tw) : Prop := ∃ bs', QuS w' B a bs' l ∧ Only bs w w' ∧ ∀ b ∈ bs', b ∈ bs ∨ w.heap.size ≤ b
theorem QuM.only {bs : List Nat} {w w' : World} {B q m : Nat} {v : Value} {l : List Tw} (Q : QuM w B q m v l) (k : Only bs w w') (hq : q ∉ bs) (hm : m ∉ bs) (hg : ∀ g, v.ownBlock = some g → g ∉ bs) : QuM w' B q m v l := by
 obtain ⟨f, h1, h2⟩ := Q.mp
 exact ⟨Q.bk.only k hq, Q.own.lieT (fun g e => k.block g (World.ownsRow.lt Q.own g e).2 (hg g e)), ⟨f, h1.lie (k.block m h1.lt hm), h2⟩, Q.wf⟩
theorem QuS.only {bs F : List Nat} {w w' : World} {B a : Nat} {l : List Tw} (h : QuS w B a F l) (k : Only bs w w') (hb : ∀ b ∈ F, b ∉ bs) : QuS w' B a F l := by
 obtain ⟨q, m, v, hA, Q, ha, hq, hm, hg⟩ := h.q
 exact ⟨⟨q, m, v, hA.only k (hb _ ha), Q.only k (hb _ hq) (hb _ hm) (fun g e => hb _ (hg g e)), ha, hq, hm, hg⟩, fun b e => ⟨(h.lo b e).1, Nat.lt_of_lt_of_le (h.lo b e).2 k.size⟩, h.hp, h.k3⟩
theorem QuS.keep {F : List Nat} {w w' : World} {B a : Nat} {l : List Tw} (h : QuS w B a F l) (k : Kp w w') : QuS w' B a F l := h.only (bs := []) (Only.of_kp k) (fun _ _ => by simp)
theorem QuS.wf {F : List Nat} {w : World} {B a : Nat} {l : List Tw} (h : QuS w B a F l) : ∀ y ∈ l, y.tk.wf ∧ wfI y.d := by
 obtain ⟨q, m, v, _, Q, _⟩ := h.q
 exact Q.wf
theorem QuS.apart {F : List Nat} {w : World} {B a : Nat} {l : List Tw} (h : QuS w B a F l) {i j : Nat} (hi : i < l.length) (hj : j < l.length) (e : l[i].p = l[j].p) : i = j := by
 obtain ⟨q, m, v, _, Q, _⟩ := h.q
 obtain ⟨f, _, hp⟩ := Q.mp
 exact hp.apart hi hj ((tk_eq (h.k3 _ (List.getElem_mem hi)) (h.k3 _ (List.getElem_mem hj))).2 e)
theorem QT.of_kp {w w' : World} {B a : Nat} {F : List Nat} {l : List Tw} (h : QuS w B a F l) (k : Kp w w') : QT w w' B a F l := ⟨F, h.keep k, Only.of_kp k, fun _ e => .inl e⟩
theorem vbU {w : World} {B A' : Nat} {A : Option Addr} {n c : Nat} {l : List Tw} (h : Own w B A' 4 Tw.enc (.slice A n c) l) (hl : l ≠ []) : ∃ g, A = some ⟨g, 0, none⟩ ∧ n = l.length ∧ (Value.slice A n c).ownBlock = some g ∧ B ≤ g := by
 rcases h.2 with ⟨_, h2⟩ | ⟨g, cap, cur, hv, hg, _⟩
 ·exact absurd (List.length_eq_zero_iff.1 h2) hl
 ·injection hv with e1 e2 e3
  exact ⟨g, e1, e2, by rw [e1]; rfl, hg⟩
theorem vjy {l : List Tw} {i : Nat} (h : i < l.length) : fT l i ∈ l := by rw [fT_at h]; exact List.getElem_mem h
theorem voC (w : World) : Calls Tryz.prog 50 #[] w fun e w' => ∃ a bs, e = .returned (.pointer (some ⟨a, 0, none⟩)) ∧ QuS w' w.heap.size a bs [] ∧ Kp w w' := by
 refine (vlJ w).mono ?_
 rintro e w' ⟨a, q, m, rfl, hA, Q, K, hb⟩
 exact ⟨a, [a, q, m], rfl, ⟨⟨q, m, _, hA, Q, by simp, by simp, by simp, fun g h => by cases h⟩, hb, fun k _ hk => absurd hk (by simp), fun y hy => absurd hy (by simp)⟩, K⟩
theorem vjz (B a : Nat) (bs : List Nat) (l : List Tw) (p : PI) (d : Int) (w : World) (S : QuS w B a bs l) (ha : p.a < 4294967296) (hpl : wfI p.l) (hc : checkP p = 0) (hd0 : 0 ≤ d) (hd1 : d ≤ 4611686018427387904) (hl : l.length ≤ 900000) :
  Calls Tryz.prog 174 #[.pointer (some ⟨a, 0, none⟩), .agg #[.int .i64 3, .int .u32 (p.a : Int), .int .i64 p.l], .int .i64 d] w fun e w' => (∃ v, e = .returned v) ∧ ∃ l', l'.Perm (⟨3, p, d⟩ :: offP p l) ∧ QT w w' B a bs l' := by
 obtain ⟨q, m, v, hA, Q, ba, bq, bm, bg⟩ := S.q
 obtain ⟨A, c, rfl⟩ := Q.own.form
 have hx : (Tw.mk 3 p d).tk.wf := ⟨show wfI 3 from ⟨by omega, by omega⟩, ha, hpl⟩
 have hB : B ≤ w.heap.size := by have := S.lo a ba; omega
 by_cases hex : ∃ i, ∃ h : i < l.length, l[i].p = p
 ·obtain ⟨i, hi, he⟩ := hex
  obtain ⟨g, rfl, _, hg, _⟩ := vbU Q.own (fun e => by subst e; simp at hi)
  refine (vlZ B a q m g c l.length l p d i hi w hA Q rfl hx hc hd0 hd1 ((tk_eq (S.k3 _ (List.getElem_mem hi)) rfl).2 he) hl S.hp).mono ?_
  rintro e w' ⟨hv, l', Q', hp', hl', hH', O⟩
  have hgb := bg g hg
  have O' : Only bs w w' := O.wide (by simp; exact ⟨hgb, bm⟩)
  have hperm : (l.set i ⟨3, p, d⟩).Perm (⟨3, p, d⟩ :: offP p l) := vlM hi ⟨3, p, d⟩ he.symm (fun j hj e => S.apart hj hi e)
  refine ⟨hv, l', hp'.trans hperm, bs, ⟨⟨q, m, _, hA.only (O) ?_, Q', ba, bq, bm, bg⟩, fun b hb => ⟨(S.lo b hb).1, Nat.lt_of_lt_of_le (S.lo b hb).2 O.size⟩, by rw [hl']; exact hH', fun y hy => ?_⟩, O', fun b hb => .inl hb⟩
  ·obtain ⟨cur, hcur⟩ := Q.own.blk4
   obtain ⟨f, hm, _⟩ := Q.mp
   have h1 := hA.ne_tagT hcur (by decide)
   have h2 := hm.ne hA
   simp
   exact ⟨h1, fun e => h2 e.symm⟩
  ·rcases List.mem_or_eq_of_mem_set (hp'.mem_iff.1 hy) with h | h
   ·exact S.k3 y h
   ·rw [h]
 ·have hn : ∀ i (h : i < l.length), l[i].tk ≠ (Tw.mk 3 p d).tk := fun i h e => hex ⟨i, h, (tk_eq (S.k3 _ (List.getElem_mem h)) rfl).1 e⟩
  refine (vlY B a q m A c l.length l p d w hA Q rfl hB hx hc hd0 hd1 hn hl S.hp).mono ?_
  rintro e w' ⟨hv, g, c', l', Q', hp', hl', hH', hgg, hF⟩
  have O := hF bs bq bm bg
  have hoff : offP p l = l := vbH (fun y hy e => by
   obtain ⟨i, hi, rfl⟩ := List.getElem_of_mem hy
   exact hex ⟨i, hi, e⟩)
  obtain ⟨g2, hg2, _, hgo, hBg⟩ := vbU Q'.own (fun e => by subst e; simp at hl')
  have hglt := World.ownsRow.lt Q'.own g2 hgo
  injection hg2 with hg2
  injection hg2 with hg2
  subst hg2
  have O2 : Only (q :: m :: (Value.slice A l.length c).ownBlock.toList) w w' := hF _ (by simp) (by simp) (fun g h => by simp [h])
  have haq : a ≠ q := hA.ne_tagT Q.bk (by decide)
  have ham : a ≠ m := fun e => by obtain ⟨f, hm, _⟩ := Q.mp; exact hm.ne hA e.symm
  have hag : ∀ g, (Value.slice A l.length c).ownBlock = some g → a ≠ g := fun g h e => by
   subst e
   exact Q.own.farT hA (by decide) h.symm
  refine ⟨hv, l', by rw [hoff]; exact hp'.trans (List.perm_append_comm), g :: bs, ⟨⟨q, m, _, hA.only O2 ?_, Q', by simp [ba], by simp [bq], by simp [bm], fun g' h => ?_⟩, fun b hb => ?_, by rw [hl']; exact hH', fun y hy => ?_⟩, O, fun b hb => ?_⟩
  ·simp
   exact ⟨haq, ham, fun h => hag a h rfl⟩
  ·rw [hgo] at h
   injection h with h
   rw [← h]
   simp
  ·rcases List.mem_cons.1 hb with rfl | hb
   ·exact ⟨hBg, hglt.2⟩
   ·exact ⟨(S.lo b hb).1, Nat.lt_of_lt_of_le (S.lo b hb).2 O.size⟩
  ·rcases List.mem_append.1 (hp'.mem_iff.1 hy) with h | h
   ·exact S.k3 y h
   ·rw [List.mem_singleton] at h
    rw [h]
  ·rcases List.mem_cons.1 hb with rfl | hb
   ·exact hgg.imp (bg b) id
   ·exact .inl hb
theorem vjA (B a : Nat) (bs : List Nat) (l : List Tw) (p : PI) (w : World) (S : QuS w B a bs l) (ha : p.a < 4294967296) (hpl : wfI p.l) (hc : checkP p = 0) (hl : l.length ≤ 900000) :
  Calls Tryz.prog 176 #[.pointer (some ⟨a, 0, none⟩), .agg #[.int .i64 3, .int .u32 (p.a : Int), .int .i64 p.l]] w fun e w' => (∃ v, e = .returned v) ∧ ∃ l', l'.Perm (offP p l) ∧ QT w w' B a bs l' := by
 obtain ⟨q, m, v, hA, Q, ba, bq, bm, bg⟩ := S.q
 obtain ⟨A, c, rfl⟩ := Q.own.form
 have hx : (Tw.mk 3 p 0).tk.wf := ⟨show wfI 3 from ⟨by omega, by omega⟩, ha, hpl⟩
 by_cases hex : ∃ i, ∃ h : i < l.length, l[i].p = p
 ·obtain ⟨i, hi, he⟩ := hex
  obtain ⟨g, rfl, _, hg, _⟩ := vbU Q.own (fun e => by subst e; simp at hi)
  obtain ⟨n, hn⟩ : ∃ n, l.length = n + 1 := ⟨l.length - 1, by omega⟩
  refine (vgs B a q m g c n l p i hi w hA (by rw [← hn]; exact Q) hn hx hc ((tk_eq (S.k3 _ (List.getElem_mem hi)) rfl).2 he) (by omega) (by rw [← hn]; exact S.hp)).mono ?_
  rintro e w' ⟨hv, l', Q', hp', hl', hH', O⟩
  have hgb := bg g hg
  have O' : Only bs w w' := O.wide (by simp; exact ⟨bq, hgb, bm⟩)
  have hy : fT l i = l[i] := fT_at hi
  have hmem : ∀ y ∈ l', y ∈ l := fun y hy => hp'.mem_iff.1 (by simp [hy])
  have hne : ∀ y ∈ l', y.p ≠ (fT l i).p := by
   obtain ⟨f', _, hpl'⟩ := Q'.mp
   intro y hy2 e
   obtain ⟨f, _, hpl⟩ := Q.mp
   have nd : (l' ++ [fT l i]).Pairwise (fun x y => x.p ≠ y.p) := by
    refine (hp'.pairwise_iff (fun h e => h e.symm)).2 ?_
    rw [List.pairwise_iff_getElem]
    intro i1 j1 h1 h2 h3 e3
    have := S.apart h1 h2 e3
    omega
   rw [List.pairwise_append] at nd
   exact nd.2.2 y hy2 (fT l i) (by simp) e
  have hpe : (fT l i).p = p := by rw [hy]; exact he
  refine ⟨hv, l', by have h3 := vfB hne hp'; rw [hpe] at h3; exact h3, bs, ⟨⟨q, m, _, hA.only O ?_, Q', ba, bq, bm, bg⟩, fun b hb => ⟨(S.lo b hb).1, Nat.lt_of_lt_of_le (S.lo b hb).2 O.size⟩, by rw [hl']; exact hH', fun y hy => S.k3 y (hmem y hy)⟩, O', fun b hb => .inl hb⟩
  obtain ⟨cur, hcur⟩ := Q.own.blk4
  obtain ⟨f, hm, _⟩ := Q.mp
  have h1 := hA.ne_tagT hcur (by decide)
  have h2 := hm.ne hA
  have h3 := hA.ne_tagT Q.bk (by decide)
  simp
  exact ⟨h3, h1, fun e => h2 e.symm⟩
 ·have hn : ∀ i (h : i < l.length), l[i].tk ≠ (Tw.mk 3 p 0).tk := fun i h e => hex ⟨i, h, (tk_eq (S.k3 _ (List.getElem_mem h)) rfl).1 e⟩
  refine (vhT B a q m A c l p w hA Q hx hc hn).mono ?_
  rintro e w' ⟨hv, K⟩
  have hoff : offP p l = l := vbH (fun y hy e => by
   obtain ⟨i, hi, rfl⟩ := List.getElem_of_mem hy
   exact hex ⟨i, hi, e⟩)
  exact ⟨hv, l, by rw [hoff], QT.of_kp S K⟩
theorem dueLeast {l : List Tw} (h : Heap ltT (fT l) l.length) : ∀ y ∈ l, ltT y (fT l 0) = false := fun y hy => by
 obtain ⟨i, hi, rfl⟩ := List.getElem_of_mem hy
 rw [← fT_at hi]
 exact Heap.least vbj h i hi
theorem vnY {x y : Tw} (h : ltT y x = false) : x.d ≤ y.d := by
 rw [vdy] at h
 omega
theorem voT (B a : Nat) (bs : List Nat) (l : List Tw) (w : World) (S : QuS w B a bs l) (hl : l ≠ []) :
  Calls Tryz.prog 202 #[.pointer (some ⟨a, 0, none⟩)] w fun e w' => ∃ y ∈ l, (∀ z ∈ l, ltT z y = false) ∧ e = .returned (.tuple #[tmV y, .int .i64 y.d, .bool true]) ∧ Kp w w' := by
 obtain ⟨q, m, v, hA, Q, ba, bq, bm, bg⟩ := S.q
 obtain ⟨A, c, rfl⟩ := Q.own.form
 obtain ⟨g, rfl, _, hg, _⟩ := vbU Q.own hl
 have h0 : 0 < l.length := by cases l with | nil => exact absurd rfl hl | cons _ _ => simp
 obtain ⟨n, hn⟩ : ∃ n, l.length = n + 1 := ⟨l.length - 1, by omega⟩
 refine (vcM B a q m g c n l w hA (by rw [← hn]; exact Q) hn).mono ?_
 rintro e w' ⟨rfl, K⟩
 exact ⟨fT l 0, vjy h0, dueLeast S.hp, rfl, K⟩
theorem vnZ (B a : Nat) (bs : List Nat) (l : List Tw) (now : Int) (w : World) (S : QuS w B a bs l) (hd : ∀ y ∈ l, now < y.d) :
  Calls Tryz.prog 143 #[.pointer (some ⟨a, 0, none⟩), .int .i64 now] w fun e w' => e = .returned (.tuple #[.agg #[.int .i64 0, .int .u32 0, .int .i64 0], .int .i64 0, .bool false]) ∧ Kp w w' := by
 obtain ⟨q, m, v, hA, Q, ba, bq, bm, bg⟩ := S.q
 obtain ⟨A, c, rfl⟩ := Q.own.form
 cases hl : l with
 | nil => subst hl; exact vnL B a q m c A now w hA Q
 | cons x r =>
  have hne : l ≠ [] := by rw [hl]; simp
  obtain ⟨g, rfl, _, hg, _⟩ := vbU Q.own hne
  have h0 : 0 < l.length := by rw [hl]; simp
  obtain ⟨n, hn⟩ : ∃ n, l.length = n + 1 := ⟨l.length - 1, by omega⟩
  exact vjg B a q m g c n l now w hA (by rw [← hn]; exact Q) hn (hd _ (vjy h0))
theorem voD (B a : Nat) (bs : List Nat) (l : List Tw) (now : Int) (w : World) (S : QuS w B a bs l) (hd : ∃ y ∈ l, y.d ≤ now) (hlen : l.length ≤ 900000) :
  Calls Tryz.prog 143 #[.pointer (some ⟨a, 0, none⟩), .int .i64 now] w fun e w' => ∃ y ∈ l, (∀ z ∈ l, ltT z y = false) ∧ y.d ≤ now ∧ e = .returned (.tuple #[tmV y, .int .i64 y.d, .bool true]) ∧ ∃ l', l'.Perm (offP y.p l) ∧ QT w w' B a bs l' := by
 obtain ⟨q, m, v, hA, Q, ba, bq, bm, bg⟩ := S.q
 obtain ⟨A, c, rfl⟩ := Q.own.form
 obtain ⟨y, hy, hyd⟩ := hd
 obtain ⟨g, rfl, _, hg, _⟩ := vbU Q.own (fun e => by subst e; simp at hy)
 have h0 : 0 < l.length := List.length_pos_of_mem hy
 obtain ⟨n, hn⟩ : ∃ n, l.length = n + 1 := ⟨l.length - 1, by omega⟩
 have hle := vnY (dueLeast S.hp y hy)
 refine (vlL B a q m g c n l now w hA (by rw [← hn]; exact Q) hn (by omega) (by rw [← hn]; exact S.hp) (by omega)).mono ?_
 rintro e w' ⟨l', rfl, Q', hp', hl', hH', O⟩
 have hgb := bg g hg
 have O' : Only bs w w' := O.wide (by simp; exact ⟨bq, hgb, bm⟩)
 have hmem : ∀ y ∈ l', y ∈ l := fun y hy => hp'.mem_iff.1 (by simp [hy])
 have hne : ∀ y ∈ l', y.p ≠ (fT l 0).p := by
  intro y hy2 e
  have nd : (l' ++ [fT l 0]).Pairwise (fun x y => x.p ≠ y.p) := by
   refine (hp'.pairwise_iff (fun h e => h e.symm)).2 ?_
   rw [List.pairwise_iff_getElem]
   intro i1 j1 h1 h2 h3 e3
   have := S.apart h1 h2 e3
   omega
  rw [List.pairwise_append] at nd
  exact nd.2.2 y hy2 (fT l 0) (by simp) e
 refine ⟨fT l 0, vjy h0, dueLeast S.hp, by omega, rfl, l', vfB hne hp', bs, ⟨⟨q, m, _, hA.only O ?_, Q', ba, bq, bm, bg⟩, fun b hb => ⟨(S.lo b hb).1, Nat.lt_of_lt_of_le (S.lo b hb).2 O.size⟩, by rw [hl']; exact hH', fun y hy => S.k3 y (hmem y hy)⟩, O', fun b hb => .inl hb⟩
 obtain ⟨cur, hcur⟩ := Q.own.blk4
 obtain ⟨f, hm, _⟩ := Q.mp
 have h1 := hA.ne_tagT hcur (by decide)
 have h2 := hm.ne hA
 have h3 := hA.ne_tagT Q.bk (by decide)
 simp
 exact ⟨h3, h1, fun e => h2 e.symm⟩
end

section
open Go.RowKit Go.Maps Go.WideShapes Go.ChangeMaps
def wfP (p : PI) : Prop := p.a < 4294967296 ∧ wfI p.l
theorem vjB (p : PI) : WideAt.IsKeyLit (pfKey p) := trivial
theorem vbx {p : PI} (h : wfP p) : keyOf Tryz.prog 39 (pfV p) = some (pfKey p) := vlE p h.1 h.2
theorem vhU {p q : PI} (hp : wfP p) (hq : wfP q) (e : pfKey p = pfKey q) : p = q := by
 have h := keyedPf.inj (vbx hp) (by rw [e]; exact vbx hq)
 injection h with h
 have h0 := congrArg (fun a => a[0]?) h
 have h1 := congrArg (fun a => a[1]?) h
 simp only [List.getElem?_toArray, List.getElem?_cons_zero, List.getElem?_cons_succ] at h0 h1
 injection h0 with h0
 injection h1 with h1
 injection h0 with _ h0
 injection h1 with _ h1
 exact PI.ext' (by omega) h1
theorem vcO {p q : PI} (hp : wfP p) (hq : wfP q) : (pfKey p).sameKey (pfKey q) = decide (p = q) := by
 by_cases h : p = q
 ·subst h
  rw [WideAt.sameKey_self (vjB p), decide_eq_true rfl]
 ·rw [Maps.sameKey_ne (fun e => h (vhU hp hq e)), decide_eq_false h]
def rdAll (v : Value) : Option (DataW Value × List MemPlace) := some (.held v, [])
def entR (r : Rt) : Lit × DataW Value := (pfKey r.p, .held (roV r))
def MapR (w : World) (m : Nat) (L : List Rt) : Prop := ∃ es, w.ownsMap Tryz.prog 39 rdAll m L.length (.map es) ∧ es.Perm (L.map entR)
theorem MapR.perm {w : World} {m : Nat} {L M : List Rt} (h : MapR w m L) (p : L.Perm M) : MapR w m M := by
 obtain ⟨es, h1, h2⟩ := h
 exact ⟨es, p.length_eq ▸ h1, h2.trans (p.map _)⟩
theorem tightV {w : World} {k : TypeId} {R : Value → Option (DataW Value × List MemPlace)} {b n : Nat} {es : List (Lit × DataW Value)} (h : w.ownsMap Tryz.prog k R b n (.map es)) : w.ownsMap Tryz.prog k R b es.length (.map es) := by
 obtain ⟨es', clock, h1, h2, h3, h4⟩ := h
 refine ⟨es', clock, h1, h2, ?_, h4⟩
 injection h4 with h4
 rw [h4, length_sorted]
 simp
theorem MapR.lie {w w' : World} {m : Nat} {L : List Rt} (h : MapR w m L) (e : w'.heap[m]? = w.heap[m]?) : MapR w' m L := by
 obtain ⟨es, ⟨es', clock, h1, h2⟩, h3⟩ := h
 exact ⟨es, ⟨es', clock, e.trans h1, h2⟩, h3⟩
theorem MapR.lt {w : World} {m : Nat} {L : List Rt} (h : MapR w m L) : m < w.heap.size := by
 obtain ⟨es, h, _⟩ := h
 exact h.lt
theorem MapR.only {w w' : World} {m : Nat} {L : List Rt} {bs : List Nat} (h : MapR w m L) (k : Only bs w w') (hm : m ∉ bs) : MapR w' m L := h.lie (k.block m h.lt hm)
theorem MapR.keep {w w' : World} {m : Nat} {L : List Rt} (h : MapR w m L) (k : Kp w w') : MapR w' m L := h.lie (k.heap h.lt)
theorem MapR.new (w : World) : MapR (w.alloc (.map #[] 0)) w.heap.size [] := ⟨[], World.ownsMap_made w _ _ _, .nil⟩
set_option maxRecDepth 100000 in
theorem vfJ (w : World) : (zeroValue 132).run Tryz.prog w = .ok (roV zeroR) w := by kernel_rfl
theorem veX {es : List (Lit × DataW Value)} {L : List Rt} (hes : es.Perm (L.map entR)) (u : UpR L) (hw : ∀ r ∈ L, wfP r.p) {p : PI} (hp : wfP p) :
  (∀ z, DataW.atKey (.map es) (pfKey p) z = match getR p L with | some r => .held (roV r) | none => z) ∧ Maps.has (.map es) (pfKey p) = (getR p L).isSome := by
 have hmem : ∀ x ∈ es, ∃ r ∈ L, x = entR r := fun x hx => by
  obtain ⟨r, hr, e⟩ := List.mem_map.1 (hes.mem_iff.1 hx)
  exact ⟨r, hr, e.symm⟩
 cases e : getR p L with
 | none =>
  rw [vjm] at e
  have hno : ∀ x ∈ es, x.1.sameKey (pfKey p) = false := fun x hx => by
   obtain ⟨r, hr, rfl⟩ := hmem x hx
   show (pfKey r.p).sameKey (pfKey p) = false
   rw [vcO (hw r hr) hp, decide_eq_false (e r hr)]
  have hf : es.find? (fun p_1 => p_1.1.sameKey (pfKey p)) = none := List.find?_eq_none.2 (fun x hx => by rw [hno x hx]; exact Bool.false_ne_true)
  refine ⟨fun z => by simp only [DataW.atKey, hf], ?_⟩
  show es.any _ = false
  rw [List.any_eq_false]
  exact fun x hx => by rw [hno x hx]; exact Bool.false_ne_true
 | some r =>
  obtain ⟨h1, h2⟩ := vaP e
  have hin : entR r ∈ es := hes.mem_iff.2 (List.mem_map.2 ⟨r, h1, rfl⟩)
  have hk : (entR r).1.sameKey (pfKey p) = true := by
   show (pfKey r.p).sameKey (pfKey p) = true
   rw [vcO (hw r h1) hp, decide_eq_true h2]
  refine ⟨fun z => ?_, List.any_eq_true.2 ⟨_, hin, hk⟩⟩
  cases hf : es.find? (fun p_1 => p_1.1.sameKey (pfKey p)) with
  | none => exact absurd hk (List.find?_eq_none.1 hf _ hin)
  | some x =>
   obtain ⟨y, hy, rfl⟩ := hmem x (List.mem_of_find?_eq_some hf)
   have hs := List.find?_some hf
   have : y.p = p := by
    have h3 : (pfKey y.p).sameKey (pfKey p) = true := hs
    rw [vcO (hw y hy) hp] at h3
    exact of_decide_eq_true h3
   have : y = r := u.inj hy h1 (by rw [this, h2])
   subst this
   simp only [DataW.atKey, hf]
   rfl
set_option maxRecDepth 100000 in
theorem vdI {w : World} {m : Nat} {L : List Rt} (h : MapR w m L) (u : UpR L) (hw : ∀ r ∈ L, wfP r.p) {p : PI} (hp : wfP p) : ∀ w', w'.heap = w.heap → (Instr.lookup 123 (.map (some m)) (pfV p) true).run Tryz.prog w' = .ok (.tuple #[roV ((getR p L).getD zeroR), .bool (getR p L).isSome]) w' := by
 intro w' e
 obtain ⟨es, h1, h2⟩ := h
 obtain ⟨f1, f2⟩ := veX h2 u hw hp
 have h1' : w'.ownsMap Tryz.prog 39 rdAll m L.length (.map es) := by
  obtain ⟨es', clock, g1, g2⟩ := h1
  exact ⟨es', clock, by rw [e]; exact g1, g2⟩
 obtain ⟨v, ps, g1, g2⟩ := World.ownsMap.look_ok h1' keyedPf Tryz.underlying123 (vfJ w') (show rdAll (roV zeroR) = some (.held (roV zeroR), []) from rfl) (vbx hp)
 rw [g1, f2]
 rw [f1] at g2
 have : v = roV ((getR p L).getD zeroR) := by
  unfold rdAll at g2
  injection g2 with g2
  injection g2 with g2 _
  cases e : getR p L with
  | none => rw [e] at g2; injection g2
  | some r => rw [e] at g2; injection g2
 rw [this]
set_option maxRecDepth 100000 in
theorem vma {w : World} {m : Nat} {L : List Rt} (h : MapR w m L) (u : UpR L) (hw : ∀ r ∈ L, wfP r.p) {p : PI} (hp : wfP p) : ∀ w', w'.heap = w.heap → (Instr.lookup 123 (.map (some m)) (pfV p) false).run Tryz.prog w' = .ok (roV ((getR p L).getD zeroR)) w' := by
 intro w' e
 obtain ⟨es, h1, h2⟩ := h
 obtain ⟨f1, f2⟩ := veX h2 u hw hp
 have h1' : w'.ownsMap Tryz.prog 39 rdAll m L.length (.map es) := by
  obtain ⟨es', clock, g1, g2⟩ := h1
  exact ⟨es', clock, by rw [e]; exact g1, g2⟩
 obtain ⟨v, ps, g1, g2⟩ := World.ownsMap.lookup h1' keyedPf Tryz.underlying123 (vfJ w') (show rdAll (roV zeroR) = some (.held (roV zeroR), []) from rfl) (vbx hp)
 rw [g1]
 rw [f1] at g2
 have : v = roV ((getR p L).getD zeroR) := by
  unfold rdAll at g2
  injection g2 with g2
  injection g2 with g2 _
  cases e : getR p L with
  | none => rw [e] at g2; injection g2
  | some r => rw [e] at g2; injection g2
 rw [this]
theorem vhf {L : List Rt} (hw : ∀ r ∈ L, wfP r.p) {p : PI} (hp : wfP p) : (L.map entR).filter (notKey (pfKey p)) = (offR p L).map entR := by
 unfold offR
 rw [List.filter_map]
 congr 1
 refine List.filter_congr (fun x hx => ?_)
 show (!(pfKey x.p).sameKey (pfKey p)) = _
 rw [vcO (hw x hx) hp]
 by_cases h : x.p = p <;> simp [h]
theorem Only.of_turned {w w' : World} {m : Nat} (h : w.mapTurned w' m) : Only [m] w w' := by
 obtain ⟨es, clock, es', clock', hb, rfl⟩ := h
 refine ⟨rfl, rfl, rfl, by simp [setBlock], fun k hk hn => ?_⟩
 simp only [List.mem_cons, List.not_mem_nil, or_false] at hn
 exact heap_setBlock_other hb _ hn
theorem vhg {w : World} {m : Nat} {L : List Rt} (h : MapR w m L) (ty : TypeId) : ∀ w', w'.heap = w.heap → (Builtin.len_ #[123] ty #[.map (some m)]).run Tryz.prog w' = .ok (.int .i64 (L.length : Int)) w' := by
 intro w' e
 obtain ⟨es, ⟨es', clock, g1, g2⟩, h2⟩ := h
 have h1' : w'.ownsMap Tryz.prog 39 rdAll m L.length (.map es) := ⟨es', clock, by rw [e]; exact g1, g2⟩
 rw [World.ownsMap.len h1' Tryz.underlying123 ty, Maps.size_eq, h2.length_eq, List.length_map]
end

end Go.Proofs.YtgopnfacklmkaaaGreatDoor
