/- Lemmas and contracts for the theorem of this claim: TwA, LwB, LwC. -/
import Derived.Test.YtffckpkikdlbpaaGreatDoorZvBk
set_option linter.all false
set_option maxHeartbeats 16000000
namespace Go.Proofs.YtffckpkikdlbpaaGreatDoor
section
open Go.RowKit Go.Maps
def NoPre (W : World) (F : List Nat) : Prop := ∀ b ∈ F, ∃ o, W.heap[b]? = some o ∧ ∀ xs, o ≠ .cells xs 29
theorem NoPre.of_blk {W : World} {b : Nat} {t : TypeId} {cs : Array Value} (h : Blk W b t cs) (ht : t ≠ 29) : ∃ o, W.heap[b]? = some o ∧ ∀ xs, o ≠ .cells xs 29 :=
 ⟨_, h, fun xs e => by injection e with _ e; exact ht e⟩
theorem NoPre.only {W W' : World} {F bs : List Nat} (h : NoPre W F) (k : Only bs W W') (hd : ∀ b ∈ F, b ∉ bs) : NoPre W' F := fun b hb => by
 obtain ⟨o, h1, h2⟩ := h b hb
 exact ⟨o, (k.block b (Array.getElem?_eq_some_iff.1 h1).1 (hd b hb)).trans h1, h2⟩
theorem NoPre.keep {W W' : World} {F : List Nat} (h : NoPre W F) (k : Kp W W') : NoPre W' F := h.only (bs := []) (Only.of_kp k) (by simp)
theorem TabX.trim {w : World} {B t q mp m : Nat} {A : Option Addr} {QF : List Nat} {l : List Tw} {T : Tb} (X : TabX w B t q mp m A QF l T) : ∃ G, (∀ b ∈ G, b ∈ QF) ∧ TabX w B t q mp m A G l T ∧ NoPre w (t :: mp :: G) := by
 obtain ⟨qq, mm, v, hA, Q, ha, hq, hm, hg⟩ := X.qs.q
 have hs : ∀ b ∈ q :: qq :: mm :: v.ownBlock.toList, b ∈ QF := by
  intro b hb
  simp only [List.mem_cons, Option.mem_toList] at hb
  rcases hb with rfl | rfl | rfl | hb
  ·exact ha
  ·exact hq
  ·exact hm
  ·exact hg _ hb
 refine ⟨q :: qq :: mm :: v.ownBlock.toList, hs, ?_, ?_⟩
 ·exact { bk := X.bk, qs := ⟨⟨qq, mm, v, hA, Q, by simp, by simp, by simp, fun g e => by simp [e]⟩, fun b hb => X.qs.lo b (hs b hb), X.qs.hp, X.qs.k3⟩, pm := X.pm, mr := X.mr, ow := X.ow, tq := fun z => X.tq (hs _ z), mq := fun z => X.mq (hs _ z), mt := X.mt, an := fun a e => ⟨fun z => (X.an a e).1 (hs _ z), (X.an a e).2⟩, bt := X.bt, bm := X.bm, u := X.u, wf := X.wf, n := X.n }
 ·intro b hb
  simp only [List.mem_cons, Option.mem_toList] at hb
  rcases hb with rfl | rfl | rfl | rfl | rfl | hb
  ·exact NoPre.of_blk X.bk (by decide)
  ·obtain ⟨es, ⟨es', clock, h1, _⟩, _⟩ := X.mr
   exact ⟨_, h1, fun xs e => by cases e⟩
  ·exact NoPre.of_blk hA (by decide)
  ·exact NoPre.of_blk Q.bk (by decide)
  ·obtain ⟨f, h1, _⟩ := Q.mp
   obtain ⟨es, cl, h2⟩ := h1.heap
   exact ⟨_, h2, fun xs e => by cases e⟩
  ·rcases Q.own.2 with ⟨hv, _⟩ | ⟨g', cap, cur, hv, _, hc, _⟩
   ·rw [hv] at hb
    simp [Value.ownBlock] at hb
   ·rw [hv] at hb
    simp only [Value.ownBlock, Option.some.injEq] at hb
    subst hb
    exact ⟨_, hc, fun xs e => by injection e with _ e; exact absurd e (by decide)⟩
theorem TabM.trim {w : World} {B t : Nat} {F : List Nat} {T : Tb} (h : TabM w B t F T) : ∃ G, (∀ b ∈ G, b ∈ F) ∧ TabM w B t G T ∧ NoPre w G := by
 obtain ⟨q, mp, m, A, QF, l, rfl, X⟩ := h
 obtain ⟨G, h1, h2, h3⟩ := X.trim
 refine ⟨t :: mp :: G, fun b hb => ?_, ⟨q, mp, m, A, G, l, rfl, h2⟩, h3⟩
 simp only [List.mem_cons] at hb ⊢
 rcases hb with rfl | rfl | hb
 ·exact .inl rfl
 ·exact .inr (.inl rfl)
 ·exact .inr (.inr (h1 b hb))
theorem TabM.by_ {w w' : World} {B t : Nat} {F bs : List Nat} {T : Tb} (h : TabM w B t F T) (k : Only bs w w') (hd : ∀ b ∈ bs, b ∉ F) (hn : NoPre w bs) : TabM w' B t F T := by
 obtain ⟨q, mp, m, A, QF, l, rfl, X⟩ := h
 refine ⟨q, mp, m, A, QF, l, rfl, X.only k hd (fun a e z => ?_)⟩
 obtain ⟨o, h1, h2⟩ := hn _ z
 rcases X.ow.2 with ⟨hv, _⟩ | ⟨g', cap, cur, hv, _, hc, _⟩
 ·subst e; cases hv
 ·subst e
  injection hv with e1
  injection e1 with e1
  subst e1
  rw [hc] at h1
  exact h2 cur (Option.some.inj h1).symm
theorem Only.over {F F1 : List Nat} {w w1 w2 : World} (k : Only F w w1) (hF : ∀ b ∈ F1, b ∈ F ∨ w.heap.size ≤ b) (h : Only F1 w1 w2) : Only F w w2 :=
 ⟨h.os.trans k.os, h.tape.trans k.tape, h.output.trans k.output, Nat.le_trans k.size h.size, fun i hi hn => by
  rw [h.block i (Nat.lt_of_lt_of_le hi k.size) (fun e => (hF i e).elim hn (fun z => by omega)), k.block i hi hn]⟩
theorem Only.more {F F1 : List Nat} {w w1 : World} (k : Only F w w1) (hF : ∀ b ∈ F, b ∈ F1) : Only F1 w w1 :=
 ⟨k.os, k.tape, k.output, k.size, fun i hi hn => k.block i hi (fun z => hn (hF i z))⟩
structure TQ (w0 W : World) (B t : Nat) (T : Tb) (P : World → Prop) : Prop where
 kp : Kp w0 W
 lb : w0.heap.size ≤ B
 tm : ∃ F, TabM W B t F T ∧ NoPre W F ∧ ∀ W', Only F W W' → P W'
 gd : Good T
 ca : CapAt w0
 fa : FacAt w0
structure TT (w0 W : World) (B t : Nat) (T : Tb) (C u : Nat) (U : Tb) (P : World → Prop) : Prop where
 kp : Kp w0 W
 lb : w0.heap.size ≤ B
 lc : w0.heap.size ≤ C
 tm : ∃ F G, TabM W B t F T ∧ TabM W C u G U ∧ NoPre W F ∧ NoPre W G ∧ (∀ b ∈ F, b ∉ G) ∧ ∀ W', Only (F ++ G) W W' → P W'
 gt : Good T
 gu : Good U
 ca : CapAt w0
 fa : FacAt w0
theorem TQ.p {w0 W : World} {B t : Nat} {T : Tb} {P : World → Prop} (S : TQ w0 W B t T P) : P W := by
 obtain ⟨F, _, _, h⟩ := S.tm
 exact h W (Only.refl _ _)
theorem TT.p {w0 W : World} {B t C u : Nat} {T U : Tb} {P : World → Prop} (S : TT w0 W B t T C u U P) : P W := by
 obtain ⟨F, G, _, _, _, _, _, h⟩ := S.tm
 exact h W (Only.refl _ _)
theorem TT.swap {w0 W : World} {B t C u : Nat} {T U : Tb} {P : World → Prop} (S : TT w0 W B t T C u U P) : TT w0 W C u U B t T P := by
 obtain ⟨F, G, h1, h2, h3, h4, h5, h6⟩ := S.tm
 exact ⟨S.kp, S.lc, S.lb, ⟨G, F, h2, h1, h4, h3, fun b hb hf => h5 b hf hb, fun W' k => h6 W' (k.more (fun b hb => by simp only [List.mem_append] at hb ⊢; exact hb.symm))⟩, S.gu, S.gt, S.ca, S.fa⟩
theorem TQ.new {w0 W W' : World} {t : Nat} {F : List Nat} {T : Tb} {P : World → Prop} (k0 : Kp w0 W) (hM : TabM W' W.heap.size t F T) (k : Kp W W') (hP : ∀ V, Kp W V → P V) (g : Good T) (ca : CapAt w0) (fa : FacAt w0) : TQ w0 W' W.heap.size t T P := by
 obtain ⟨G, h1, h2, h3⟩ := hM.trim
 exact ⟨k0.trans k, k0.size, ⟨G, h2, h3, fun V hV => hP V (hV.kp k (fun b hb => (h2.lo b hb).1))⟩, g, ca, fa⟩
theorem TQ.keep {w0 W W' : World} {B t : Nat} {T : Tb} {P : World → Prop} (S : TQ w0 W B t T P) (k : Kp W W') : TQ w0 W' B t T P := by
 obtain ⟨F, h1, h2, h3⟩ := S.tm
 exact ⟨S.kp.trans k, S.lb, ⟨F, h1.keep k, h2.keep k, fun V hV => h3 V ((Only.of_kp k).over (fun b hb => .inl hb) hV)⟩, S.gd, S.ca, S.fa⟩
theorem TQ.imp {w0 W : World} {B t : Nat} {T : Tb} {P Q : World → Prop} (S : TQ w0 W B t T P) (h : ∀ V, P V → Q V) : TQ w0 W B t T Q := by
 obtain ⟨F, h1, h2, h3⟩ := S.tm
 exact ⟨S.kp, S.lb, ⟨F, h1, h2, fun V hV => h V (h3 V hV)⟩, S.gd, S.ca, S.fa⟩
theorem TT.imp {w0 W : World} {B t C u : Nat} {T U : Tb} {P Q : World → Prop} (S : TT w0 W B t T C u U P) (h : ∀ V, P V → Q V) : TT w0 W B t T C u U Q := by
 obtain ⟨F, G, h1, h2, h3, h4, h5, h6⟩ := S.tm
 exact ⟨S.kp, S.lb, S.lc, ⟨F, G, h1, h2, h3, h4, h5, fun V hV => h V (h6 V hV)⟩, S.gt, S.gu, S.ca, S.fa⟩
theorem TT.keep {w0 W W' : World} {B t C u : Nat} {T U : Tb} {P : World → Prop} (S : TT w0 W B t T C u U P) (k : Kp W W') : TT w0 W' B t T C u U P := by
 obtain ⟨F, G, h1, h2, h3, h4, h5, h6⟩ := S.tm
 exact ⟨S.kp.trans k, S.lb, S.lc, ⟨F, G, h1.keep k, h2.keep k, h3.keep k, h4.keep k, h5, fun V hV => h6 V ((Only.of_kp k).over (fun b hb => .inl hb) hV)⟩, S.gt, S.gu, S.ca, S.fa⟩
theorem TQ.pair {w0 W W' : World} {B t C u : Nat} {G : List Nat} {T U : Tb} {P : World → Prop} (S : TQ w0 W B t T P) (hM : TabM W' C u G U) (hC : W.heap.size ≤ C) (k : Kp W W') (g : Good U) : TT w0 W' B t T C u U P := by
 obtain ⟨F, h1, h2, h3⟩ := S.tm
 obtain ⟨G', g1, g2, g3⟩ := hM.trim
 have lo : ∀ b ∈ G', W.heap.size ≤ b := fun b hb => Nat.le_trans hC (g2.lo b hb).1
 refine ⟨S.kp.trans k, S.lb, Nat.le_trans S.kp.size hC, ⟨F, G', h1.keep k, g2, h2.keep k, g3, fun b hb hg => ?_, fun V hV => h3 V ((Only.of_kp k).over (F1 := F ++ G') (fun b hb => ?_) hV)⟩, S.gd, g, S.ca, S.fa⟩
 ·have := (h1.lo b hb).2
  have := lo b hg
  omega
 ·rcases List.mem_append.1 hb with hb | hb
  ·exact .inl hb
  ·exact .inr (lo b hb)
theorem TT.fst {w0 W : World} {B t C u : Nat} {T U : Tb} {P : World → Prop} (S : TT w0 W B t T C u U P) : TQ w0 W B t T P := by
 obtain ⟨F, G, h1, h2, h3, h4, h5, h6⟩ := S.tm
 exact ⟨S.kp, S.lb, ⟨F, h1, h3, fun V hV => h6 V (hV.more (fun b hb => List.mem_append.2 (.inl hb)))⟩, S.gt, S.ca, S.fa⟩
theorem TT.snd {w0 W : World} {B t C u : Nat} {T U : Tb} {P : World → Prop} (S : TT w0 W B t T C u U P) : TQ w0 W C u U P := S.swap.fst
theorem TQ.turn {w0 W W' : World} {B t : Nat} {F : List Nat} {T T' : Tb} {P : World → Prop} (S : TQ w0 W B t T P) (hM : TabM W B t F T) (h3 : ∀ W', Only F W W' → P W') (k : TabT W W' B t F T') (g : Good T') : TQ w0 W' B t T' P := by
 obtain ⟨F', k1, k2, k3⟩ := k
 obtain ⟨G, g1, g2, g3⟩ := k1.trim
 exact ⟨k2.kp S.kp (fun b hb => Nat.le_trans S.lb (hM.lo b hb).1), S.lb, ⟨G, g2, g3, fun V hV => h3 V (k2.over (fun b hb => k3 b (g1 b hb)) hV)⟩, g, S.ca, S.fa⟩
theorem TT.turn {w0 W W' : World} {B t C u : Nat} {F G : List Nat} {T T' U : Tb} {P : World → Prop} (S : TT w0 W B t T C u U P) (h1 : TabM W B t F T) (h2 : TabM W C u G U) (n1 : NoPre W F) (n2 : NoPre W G) (hd : ∀ b ∈ F, b ∉ G) (h3 : ∀ W', Only (F ++ G) W W' → P W') (k : TabT W W' B t F T') (g : Good T') : TT w0 W' B t T' C u U P := by
 obtain ⟨F', k1, k2, k3⟩ := k
 obtain ⟨F1, g1, g2, g3⟩ := k1.trim
 have hd2 : ∀ b ∈ G, b ∉ F := fun b hb hf => hd b hf hb
 refine ⟨k2.kp S.kp (fun b hb => Nat.le_trans S.lb (h1.lo b hb).1), S.lb, S.lc, ⟨F1, G, g2, h2.by_ k2 hd n1, g3, n2.only k2 hd2, fun b hb hg => ?_, fun V hV => h3 V ((k2.more (F1 := F ++ G) (fun b hb => List.mem_append.2 (.inl hb))).over (F1 := F1 ++ G) (fun b hb => ?_) hV)⟩, g, S.gu, S.ca, S.fa⟩
 ·rcases k3 b (g1 b hb) with e | e
  ·exact hd b e hg
  ·have := (h2.lo b hg).2
   omega
 ·rcases List.mem_append.1 hb with hb | hb
  ·rcases k3 b (g1 b hb) with e | e
   ·exact .inl (List.mem_append.2 (.inl e))
   ·exact .inr e
  ·exact .inl (List.mem_append.2 (.inr hb))
theorem TQ.gs {w0 W : World} {B t : Nat} {T : Tb} {P : World → Prop} (h : TQ w0 W B t T P) : 1 < B ∧ 0 < B ∧ CapAt W ∧ FacAt W := by
 have h1 := World.block_lt_of_cell? w0 _ h.ca.1
 have h2 := World.block_lt_of_cell? w0 _ h.fa.1
 have := h.lb
 exact ⟨Nat.lt_of_lt_of_le h1 this, Nat.lt_of_lt_of_le h2 this, h.ca.keep h.kp, h.fa.keep h.kp⟩
theorem TQ.len_own {w0 W : World} {B t : Nat} {T : Tb} {P : World → Prop} (S : TQ w0 W B t T P) : T.c.own.length ≤ 16 := by
 have := (vaw S.gd.ok.c).2.2.1
 omega
theorem TQ.tab {w0 W : World} {B t : Nat} {T : Tb} {P : World → Prop} (S : TQ w0 W B t T P) : ∃ F, TabM W B t F T := by
 obtain ⟨F, h, _⟩ := S.tm
 exact ⟨F, h⟩
theorem vng (w0 W : World) (B t : Nat) (T : Tb) (P : World → Prop) (S : TQ w0 W B t T P) (p : PI) (h : Hd) (now : Int) (hp : wfP p) (hh : h.a < 4294967296) :
  Calls Tryz.prog 23 #[.pointer (some ⟨t, 0, none⟩), pfV p, .agg #[.int .i64 h.f, .int .u32 (h.a : Int), .int .i64 h.m], .int .i64 now] W fun e W' => e = .returned (.tuple #[roV (heardT T p h now).2.1, .int .i64 (heardT T p h now).2.2]) ∧ TQ w0 W' B t (heardT T p h now).1 P := by
 obtain ⟨F, hT, _, h3⟩ := S.tm
 refine (vdp B t F T p h now W hT S.gd.ok S.gd.xs S.gd.own S.gs.2.2.1 hp hh).mono ?_
 rintro e W' ⟨rfl, k⟩
 exact ⟨rfl, S.turn hT h3 k (S.gd.heard p now hh)⟩
theorem vnh (w0 W : World) (B t : Nat) (T : Tb) (P : World → Prop) (S : TQ w0 W B t T P) (f now : Int) :
  Calls Tryz.prog 26 #[.pointer (some ⟨t, 0, none⟩), .int .i64 f, .int .i64 now] W fun e W' => e = .returned (.tuple #[.int .i64 (lostT T f now).2.1, .int .i64 (lostT T f now).2.2]) ∧ TQ w0 W' B t (lostT T f now).1 P := by
 obtain ⟨F, hT, _, h3⟩ := S.tm
 refine (veZ B t F T f now W hT S.gd.ok S.gd.xs S.gd.own S.gs.2.2.1 S.gs.1 S.gs.2.2.2).mono ?_
 rintro e W' ⟨rfl, k⟩
 exact ⟨rfl, S.turn hT h3 k (S.gd.lost f now)⟩
theorem vnH (w0 W : World) (B t : Nat) (T : Tb) (P : World → Prop) (S : TQ w0 W B t T P) (now : Int) :
  Calls Tryz.prog 27 #[.pointer (some ⟨t, 0, none⟩), .int .i64 now] W fun e W' => e = .returned (.tuple #[.int .i64 (expT T now).2.1, .int .i64 (expT T now).2.2]) ∧ TQ w0 W' B t (expT T now).1 P := by
 obtain ⟨F, hT, _, h3⟩ := S.tm
 refine (veo B t F T now W hT S.gd.ok S.gd.xs S.gd.own S.gs.2.2.1 S.gs.1).mono ?_
 rintro e W' ⟨rfl, k⟩
 exact ⟨rfl, S.turn hT h3 k (S.gd.exp now)⟩
theorem vni (w0 W : World) (B t : Nat) (T : Tb) (P : World → Prop) (S : TQ w0 W B t T P) :
  Calls Tryz.prog 29 #[.pointer (some ⟨t, 0, none⟩)] W fun e W' => e = .returned (.int .i64 (seenT T).2) ∧ TQ w0 W' B t (seenT T).1 P := by
 obtain ⟨F, hT, _, h3⟩ := S.tm
 refine (vfb B t F T W hT S.gd.ok).mono ?_
 rintro e W' ⟨rfl, k⟩
 exact ⟨rfl, S.turn hT h3 k S.gd.seen⟩
theorem vnj (w0 W : World) (B t C u : Nat) (T U : Tb) (P : World → Prop) (S : TT w0 W B t T C u U P) (p : PI) (h : Hd) (now : Int) (hp : wfP p) (hh : h.a < 4294967296) :
  Calls Tryz.prog 23 #[.pointer (some ⟨t, 0, none⟩), pfV p, .agg #[.int .i64 h.f, .int .u32 (h.a : Int), .int .i64 h.m], .int .i64 now] W fun e W' => e = .returned (.tuple #[roV (heardT T p h now).2.1, .int .i64 (heardT T p h now).2.2]) ∧ TT w0 W' B t (heardT T p h now).1 C u U P := by
 have gs := S.fst.gs
 obtain ⟨F, G, hT, hU, n1, n2, hd, h3⟩ := S.tm
 refine (vdp B t F T p h now W hT S.gt.ok S.gt.xs S.gt.own gs.2.2.1 hp hh).mono ?_
 rintro e W' ⟨rfl, k⟩
 exact ⟨rfl, S.turn hT hU n1 n2 hd h3 k (S.gt.heard p now hh)⟩
theorem vnk (w0 W : World) (B t C u : Nat) (T U : Tb) (P : World → Prop) (S : TT w0 W B t T C u U P) (f now : Int) :
  Calls Tryz.prog 26 #[.pointer (some ⟨t, 0, none⟩), .int .i64 f, .int .i64 now] W fun e W' => e = .returned (.tuple #[.int .i64 (lostT T f now).2.1, .int .i64 (lostT T f now).2.2]) ∧ TT w0 W' B t (lostT T f now).1 C u U P := by
 have gs := S.fst.gs
 obtain ⟨F, G, hT, hU, n1, n2, hd, h3⟩ := S.tm
 refine (veZ B t F T f now W hT S.gt.ok S.gt.xs S.gt.own gs.2.2.1 gs.1 gs.2.2.2).mono ?_
 rintro e W' ⟨rfl, k⟩
 exact ⟨rfl, S.turn hT hU n1 n2 hd h3 k (S.gt.lost f now)⟩
theorem vnI (w0 W : World) (B t C u : Nat) (T U : Tb) (P : World → Prop) (S : TT w0 W B t T C u U P) (now : Int) :
  Calls Tryz.prog 27 #[.pointer (some ⟨t, 0, none⟩), .int .i64 now] W fun e W' => e = .returned (.tuple #[.int .i64 (expT T now).2.1, .int .i64 (expT T now).2.2]) ∧ TT w0 W' B t (expT T now).1 C u U P := by
 have gs := S.fst.gs
 obtain ⟨F, G, hT, hU, n1, n2, hd, h3⟩ := S.tm
 refine (veo B t F T now W hT S.gt.ok S.gt.xs S.gt.own gs.2.2.1 gs.1).mono ?_
 rintro e W' ⟨rfl, k⟩
 exact ⟨rfl, S.turn hT hU n1 n2 hd h3 k (S.gt.exp now)⟩
theorem vnl (w0 W : World) (B t C u : Nat) (T U : Tb) (P : World → Prop) (S : TT w0 W B t T C u U P) :
  Calls Tryz.prog 29 #[.pointer (some ⟨t, 0, none⟩)] W fun e W' => e = .returned (.int .i64 (seenT T).2) ∧ TT w0 W' B t (seenT T).1 C u U P := by
 obtain ⟨F, G, hT, hU, n1, n2, hd, h3⟩ := S.tm
 refine (vfb B t F T W hT S.gt.ok).mono ?_
 rintro e W' ⟨rfl, k⟩
 exact ⟨rfl, S.turn hT hU n1 n2 hd h3 k S.gt.seen⟩
theorem vjp (w0 W : World) (B t : Nat) (T : Tb) (P : World → Prop) (S : TQ w0 W B t T P) :
  Calls Tryz.prog 19 #[.pointer (some ⟨t, 0, none⟩)] W fun e W' => ∃ u, e = .returned (.pointer (some ⟨u, 0, none⟩)) ∧ TT w0 W' B t T W.heap.size u T P ∧ Kp W W' := by
 obtain ⟨F, hT⟩ := S.tab
 have hl := S.len_own
 refine (vfc B t F T W hT (by omega)).mono ?_
 rintro e W' ⟨u, G, rfl, hM, k⟩
 exact ⟨u, rfl, S.pair hM (Nat.le_refl _) k S.gd, k⟩
def netP (n : Nat) : PI := ⟨167772160 + n * 65536, 16⟩
theorem vaP (n : Int) (w : World) : Calls Tryz.prog 18 #[.int .i64 n] w fun e w' => e = .returned (.int .i64 n) ∧ w = w' := by
 go_enter Tryz.func18, Tryz.ntmps18
 go_wp2_with fail
 go_ret
 exact ⟨rfl, rfl⟩
set_option maxRecDepth 100000 in
theorem net_1 (w : World) : Calls Tryz.prog 38 #[.int .u32 1] w fun e w' => e = .returned (.agg #[.int .u32 167837696, .int .i64 16]) ∧ Kp w w' := by
 have B := Blk.new w 29 #[.int .u32 167837696, .int .i64 16]
 obtain ⟨q0, q1⟩ := Blk.v2 B (.int .u32 167837696) (.int .i64 16) rfl
 go_enter Tryz.func38, Tryz.ntmps38
 go_wp2_with fail
 exact ⟨rfl, .agg #[.int .u32 167837696, .int .i64 16], by simp [results, Tryz.results38, go_sem, q0, q1], rfl, (Kp.refl w).alloc _⟩
set_option maxRecDepth 100000 in
theorem net_5 (w : World) : Calls Tryz.prog 38 #[.int .u32 5] w fun e w' => e = .returned (.agg #[.int .u32 168099840, .int .i64 16]) ∧ Kp w w' := by
 have B := Blk.new w 29 #[.int .u32 168099840, .int .i64 16]
 obtain ⟨q0, q1⟩ := Blk.v2 B (.int .u32 168099840) (.int .i64 16) rfl
 go_enter Tryz.func38, Tryz.ntmps38
 go_wp2_with fail
 exact ⟨rfl, .agg #[.int .u32 168099840, .int .i64 16], by simp [results, Tryz.results38, go_sem, q0, q1], rfl, (Kp.refl w).alloc _⟩
set_option maxRecDepth 100000 in
theorem net_6 (w : World) : Calls Tryz.prog 38 #[.int .u32 6] w fun e w' => e = .returned (.agg #[.int .u32 168165376, .int .i64 16]) ∧ Kp w w' := by
 have B := Blk.new w 29 #[.int .u32 168165376, .int .i64 16]
 obtain ⟨q0, q1⟩ := Blk.v2 B (.int .u32 168165376) (.int .i64 16) rfl
 go_enter Tryz.func38, Tryz.ntmps38
 go_wp2_with fail
 exact ⟨rfl, .agg #[.int .u32 168165376, .int .i64 16], by simp [results, Tryz.results38, go_sem, q0, q1], rfl, (Kp.refl w).alloc _⟩
def wkC : Cf := ⟨1, 0, 6, 4, 3, 0, 0, 2, [netP 1]⟩
def wkH : Hd := ⟨0, 167772418, 2⟩
def wk5 : Rt := ⟨netP 5, 2, 3, 0, 0, 167772418, 16, true⟩
def wk6 : Rt := ⟨netP 5, 3, 16, 3, 0, 167772418, 20, true⟩
def wk7 : Rt := ⟨netP 5, 4, 16, 0, 0, 167772418, 23, true⟩
def wkT (l : List Rt) (now rf : Int) : Tb := ⟨wkC, l, now, rf⟩
theorem wk_ok : okCf wkC = true := by decide +kernel
theorem vnJ : newT wkC = wkT [ownR (netP 1)] 0 0 := by kernel_rfl
theorem wk_1 : heardT (wkT [ownR (netP 1)] 0 0) (netP 5) wkH 10 = (wkT [ownR (netP 1), wk5] 10 0, wk5, 0) := by kernel_rfl
theorem wk_2 : heardT (wkT [ownR (netP 1), wk5] 10 0) (netP 6) wkH 11 = (wkT [ownR (netP 1), wk5] 11 1, zeroR, 200) := by kernel_rfl
theorem wk_n : nextV [ownR (netP 1), wk5] = .tuple #[.int .i64 16, .bool true] := by kernel_rfl
theorem wk_3 : expT (wkT [ownR (netP 1), wk5] 11 1) 16 = (wkT [ownR (netP 1), wk6] 16 1, 1, 0) := by kernel_rfl
theorem wk_g : getR (netP 5) [ownR (netP 1), wk6] = some wk6 := by kernel_rfl
theorem wk_4 : expT (wkT [ownR (netP 1), wk6] 16 1) 20 = (wkT [ownR (netP 1), wk7] 20 1, 1, 0) := by kernel_rfl
theorem wk_5 : expT (wkT [ownR (netP 1), wk7] 20 1) 23 = (wkT [ownR (netP 1)] 23 1, 1, 0) := by kernel_rfl
theorem wk_c : newsL [ownR (netP 1)] = [ownR (netP 1)] := by kernel_rfl
end

end Go.Proofs.YtffckpkikdlbpaaGreatDoor
