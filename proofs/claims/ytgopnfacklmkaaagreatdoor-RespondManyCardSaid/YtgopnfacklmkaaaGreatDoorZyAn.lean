/- Lemmas and contracts for the theorem of this claim: TmF, TmG, TmH. -/
import Derived.Test.YtgopnfacklmkaaaGreatDoorZyAm
set_option linter.all false
set_option maxHeartbeats 16000000
namespace Go.Proofs.YtgopnfacklmkaaaGreatDoor
section
open Go.RowKit Go.Maps Go.WideShapes
structure PlOf (f : Tk → Option Nat) (l : List Tw) : Prop where
 at_ : ∀ i (h : i < l.length), f (l[i]'h).tk = some i
 no : ∀ t, (∀ i (h : i < l.length), (l[i]'h).tk ≠ t) → f t = none
theorem PlOf.apart {f : Tk → Option Nat} {l : List Tw} (h : PlOf f l) {i j : Nat} (hi : i < l.length) (hj : j < l.length) (e : l[i].tk = l[j].tk) : i = j := by
 have h1 := h.at_ i hi
 rw [e, h.at_ j hj] at h1
 injection h1 with h1
 exact h1.symm
theorem vaX {α : Type} (l : List α) (i j : Nat) (hi : i < l.length) (hj : j < l.length) (k : Nat) (hk : k < (swapL l i j hi hj).length) : (swapL l i j hi hj)[k] = if k = j then l[i] else if k = i then l[j] else l[k]'(by rw [vay] at hk; exact hk) := by
 have hk' : k < l.length := by rw [vay] at hk; exact hk
 apply Option.some.inj
 rw [← List.getElem?_eq_getElem hk]
 have e : (swapL l i j hi hj)[k]? = ((l.set i l[j]).set j l[i])[k]? := rfl
 rw [e, List.getElem?_set, List.getElem?_set]
 by_cases h1 : j = k
 ·subst h1; simp [hj]
 ·rw [if_neg h1]
  by_cases h2 : i = k
  ·subst h2; rw [if_pos rfl, if_neg (fun (e2 : i = j) => h1 e2.symm), if_pos rfl]; simp [hi]
  ·rw [if_neg h2, if_neg (fun e => h1 e.symm), if_neg (fun e => h2 e.symm), List.getElem?_eq_getElem hk']
theorem PlOf.swap {f : Tk → Option Nat} {l : List Tw} (h : PlOf f l) (i j : Nat) (hi : i < l.length) (hj : j < l.length) : PlOf (updT (updT f (l[j].tk) (some i)) (l[i].tk) (some j)) (swapL l i j hi hj) := by
 constructor
 ·intro k hk
  have hk' : k < l.length := by rw [vay] at hk; exact hk
  rw [vaX]
  by_cases h1 : k = j
  ·rw [if_pos h1, vap, h1]
  ·rw [if_neg h1]
   by_cases h2 : k = i
   ·rw [if_pos h2]
    by_cases h3 : l[j].tk = l[i].tk
    ·have := h.apart hj hi h3
     omega
    ·rw [vae _ _ h3, vap, h2]
   ·rw [if_neg h2, vae _ _ (fun e => h2 (h.apart hk' hi e)), vae _ _ (fun e => h1 (h.apart hk' hj e))]
    exact h.at_ k hk'
 ·intro t ht
  have hlen := vay l i j hi hj
  have hi2 := ht i (by omega)
  have hj2 := ht j (by omega)
  rw [vaX] at hi2 hj2
  rw [if_pos rfl] at hj2
  have hne : l[j].tk ≠ t := by
   by_cases h1 : i = j
   ·subst h1; exact hj2
   ·rw [if_neg h1, if_pos rfl] at hi2; exact hi2
  rw [vae _ _ (fun e => hj2 e.symm), vae _ _ (fun e => hne e.symm)]
  refine h.no t (fun k hk => ?_)
  have h3 := ht k (by omega)
  rw [vaX] at h3
  by_cases h1 : k = j
  ·subst h1; exact hne
  ·rw [if_neg h1] at h3
   by_cases h2 : k = i
   ·subst h2; exact hj2
   ·rw [if_neg h2] at h3; exact h3
structure QuM (w : World) (B q m : Nat) (v : Value) (l : List Tw) : Prop where
 bk : Blk w q 214 #[v, .map (some m)]
 own : Own w B 337 4 Tw.enc v l
 mp : ∃ f, MpT w m l.length f ∧ PlOf f l
 wf : ∀ t ∈ l, t.tk.wf ∧ wfI t.d
theorem Own.ice {w : World} {B g n c : Nat} {l : List Tw} (h : Own w B 337 4 Tw.enc (.slice (some ⟨g, 0, none⟩) n c) l) (k : Nat) : w.frozen? ⟨g, k, none⟩ = false := by
 rcases h.2 with ⟨h2, _⟩ | ⟨g', cap, cur, hv, hg, hh, _⟩
 ·cases h2
 ·injection hv with e1 e2 e3
  injection e1 with e1
  injection e1 with e1
  subst e1
  have hB : Blk w g 337 cur := hh
  exact hB.frozen k
theorem Only.twSet (w : World) (g i : Nat) (x : Tw) : Only [g] w (twSet w g i x) :=
 ((((Only.refl [g] w).setCell (p := ⟨g, i * 4, none⟩) (.inl (by simp)) _).setCell (p := ⟨g, i * 4 + 1, none⟩) (.inl (by simp)) _).setCell (p := ⟨g, i * 4 + 2, none⟩) (.inl (by simp)) _).setCell (p := ⟨g, i * 4 + 3, none⟩) (.inl (by simp)) _
theorem Only.wide {bs cs : List Nat} {w w' : World} (h : Only bs w w') (hs : ∀ b ∈ bs, b ∈ cs) : Only cs w w' := ⟨h.os, h.tape, h.output, h.size, fun k hk hn => h.block k hk (fun hh => hn (hs k hh))⟩
theorem Only.turned {w w' : World} {b : Nat} (h : w.mapTurned w' b) : Only [b] w w' := by
 obtain ⟨h1, h2, h3, h4, h5⟩ := h.grown
 exact ⟨h1, h2, h3, h4, fun k hk hn => h5 k hk (fun e => hn (by injection e with e; simp [e]))⟩
theorem Own.lie {w w' : World} {B g n c : Nat} {l : List Tw} (h : Own w B 337 4 Tw.enc (.slice (some ⟨g, 0, none⟩) n c) l) (e : w'.heap[g]? = w.heap[g]?) : Own w' B 337 4 Tw.enc (.slice (some ⟨g, 0, none⟩) n c) l := by
 refine ⟨h.1, ?_⟩
 rcases h.2 with ⟨h2, _⟩ | ⟨g', cap, cur, hv, hg, hh, r⟩
 ·cases h2
 ·injection hv with e1 e2 e3
  injection e1 with e1
  injection e1 with e1
  subst e1
  exact .inr ⟨g, cap, cur, by rw [e2, e3], hg, e.trans hh, r⟩
theorem Own.blk4 {w : World} {B g n c : Nat} {l : List Tw} (h : Own w B 337 4 Tw.enc (.slice (some ⟨g, 0, none⟩) n c) l) : ∃ cur, Blk w g 337 cur := by
 rcases h.2 with ⟨h2, _⟩ | ⟨g', cap, cur, hv, hg, hh, _⟩
 ·cases h2
 ·injection hv with e1 e2 e3
  injection e1 with e1
  injection e1 with e1
  subst e1
  exact ⟨cur, hh⟩
theorem vag {w w' : World} {k : TypeId} {R : Value → Option (DataW Unit × List MemPlace)} {b n : Nat} {D : DataW Unit} (h : w.ownsMap Tryz.prog k R b n D) (e : w'.heap[b]? = w.heap[b]?) : w'.ownsMap Tryz.prog k R b n D := by
 obtain ⟨es, cl, h1, h2⟩ := h
 exact ⟨es, cl, e.trans h1, h2⟩
theorem Blk.ne_tagT {w : World} {p g : Nat} {t u : TypeId} {cs ds : Array Value} (h : Blk w p t cs) (k : Blk w g u ds) (n : t ≠ u) : p ≠ g := by
 rintro rfl
 have := h.symm.trans k
 injection this with this
 injection this with _ this
 exact n this
theorem MpT.heap {w : World} {m n : Nat} {f : Tk → Option Nat} (h : MpT w m n f) : ∃ es cl, w.heap[m]? = some (.map es cl) := by
 obtain ⟨D, ⟨es, cl, h1, _⟩, _⟩ := h
 exact ⟨es, cl, h1⟩
theorem MpT.ne {w : World} {m n g : Nat} {f : Tk → Option Nat} {t : TypeId} {cs : Array Value} (h : MpT w m n f) (hB : Blk w g t cs) : m ≠ g := by
 rintro rfl
 obtain ⟨es, cl, h1⟩ := h.heap
 have h2 : w.heap[m]? = some (.cells cs t) := hB
 rw [h1] at h2
 cases h2
set_option maxRecDepth 100000 in
theorem vaA (B q m g c : Nat) (l : List Tw) (i j : Nat) (w : World) (Q : QuM w B q m (.slice (some ⟨g, 0, none⟩) l.length c) l) (hi : i < l.length) (hj : j < l.length) (hlen : l.length ≤ 1000000) :
  Calls Tryz.prog 355 #[.pointer (some ⟨q, 0, none⟩), .int .i64 (i : Int), .int .i64 (j : Int)] w fun e w' => e = .returned (.tuple #[]) ∧ QuM w' B q m (.slice (some ⟨g, 0, none⟩) l.length c) (swapL l i j hi hj) ∧ Only [g, m] w w' := by
 obtain ⟨c0, c1⟩ := Blk.v2 Q.bk (.slice (some ⟨g, 0, none⟩) l.length c) (.map (some m)) rfl
 have hR := Q.own.rdAt (by decide) Tw.len
 obtain ⟨b, off, hA, x0, x1, x2, x3⟩ := tw_at hR hi
 obtain ⟨b', off', hA', y0, y1, y2, y3⟩ := tw_at hR hj
 injection hA with hA
 injection hA with e1 e2
 subst e1
 subst e2
 injection hA' with hA'
 injection hA' with e1 e2
 subst e1
 subst e2
 rw [Nat.zero_add] at x0 x1 x2 x3 y0 y1 y2 y3
 obtain ⟨r, hr⟩ : ∃ r, l[i] = r := ⟨_, rfl⟩
 obtain ⟨t, ht⟩ : ∃ t, l[j] = t := ⟨_, rfl⟩
 rw [hr] at x0 x1 x2 x3
 rw [ht] at y0 y1 y2 y3
 have i0 : (0 : Int) ≤ (i : Int) := by omega
 have i1 : (i : Int) < (l.length : Int) := by omega
 have j0 : (0 : Int) ≤ (j : Int) := by omega
 have j1 : (j : Int) < (l.length : Int) := by omega
 obtain ⟨W1, hW1, O1, P1⟩ : ∃ W1, twSet w g i t = W1 ∧ Own W1 B 337 4 Tw.enc (.slice (some ⟨g, 0, none⟩) l.length c) (l.set i t) ∧ Only [g] w W1 := ⟨_, rfl, Q.own.putTw hi t, Only.twSet _ _ _ _⟩
 have hj1 : j < (l.set i t).length := by rw [List.length_set]; exact hj
 obtain ⟨W2, hW2, O2, P2⟩ : ∃ W2, twSet W1 g j r = W2 ∧ Own W2 B 337 4 Tw.enc (.slice (some ⟨g, 0, none⟩) l.length c) ((l.set i t).set j r) ∧ Only [g] W1 W2 := ⟨_, rfl, O1.putTw hj1 r, Only.twSet _ _ _ _⟩
 obtain ⟨b, off, hA, u0, u1, u2, u3⟩ := tw_at (O1.rdAt (by decide) Tw.len) hj1
 injection hA with hA
 injection hA with e1 e2
 subst e1
 subst e2
 rw [Nat.zero_add] at u0 u1 u2 u3
 simp only [twSet] at hW1 hW2
 have z0 := Q.own.ice (i * 4)
 have z1 := Q.own.ice (i * 4 + 1)
 have z2 := Q.own.ice (i * 4 + 2)
 have z3 := Q.own.ice (i * 4 + 3)
 have v0 := O1.ice (j * 4)
 have v1 := O1.ice (j * 4 + 1)
 have v2 := O1.ice (j * 4 + 2)
 have v3 := O1.ice (j * 4 + 3)
 go_enter Tryz.func355, Tryz.ntmps355
 go_wp2_with fail
 go_region
 all_goals (try go_wp2_with fail)
 obtain ⟨W3, hW3, K3⟩ : ∃ W3, W2.drew = W3 ∧ Kp W2 W3 := ⟨_, rfl, (Kp.refl W2).drew⟩
 rw [hW3]
 clear hW3 hW1 hW2 x0 x1 x2 x3 y0 y1 y2 y3 u0 u1 u2 u3 z0 z1 z2 z3 v0 v1 v2 v3 c0 c1
 have PO : Only [g] w W3 := (P1.trans P2).trans (Only.of_kp K3)
 obtain ⟨f, hm0, hp⟩ := Q.mp
 have hmq : m ≠ q := hm0.ne Q.bk
 obtain ⟨cur, hcur⟩ := Q.own.blk4
 have hmg : m ≠ g := hm0.ne hcur
 have hqg : q ≠ g := Q.bk.ne_tagT hcur (by decide)
 have hs2 : (l.set i t).set j r = swapL l i j hi hj := by unfold swapL; rw [hr, ht]
 rw [hs2] at O2
 have hl2 := vay l i j hi hj
 have hgi : (swapL l i j hi hj)[i]'(by omega) = t := by
  rw [vaX]
  by_cases e : i = j
  ·subst e; rw [if_pos rfl, ht]
  ·rw [if_neg e, if_pos rfl, ht]
 have hgj : (swapL l i j hi hj)[j]'(by omega) = r := by rw [vaX, if_pos rfl, hr]
 have O3 := O2.keep K3
 have B3 := Q.bk.only PO (by simpa using hqg)
 have hmlt : m < w.heap.size := by
  obtain ⟨es, cl, h1⟩ := hm0.heap
  exact (Array.getElem?_eq_some_iff.1 h1).1
 have hm3 : W3.heap[m]? = w.heap[m]? := PO.block m hmlt (by simpa using hmg)
 have wft : t.tk.wf := by rw [← ht]; exact (Q.wf _ (List.getElem_mem hj)).1
 have wfr : r.tk.wf := by rw [← hr]; exact (Q.wf _ (List.getElem_mem hi)).1
 have wfi : (Lit.int .i64 (i : Int)).wf = true := vcz ⟨by omega, by omega⟩
 have wfj : (Lit.int .i64 (j : Int)).wf = true := vcz ⟨by omega, by omega⟩
 have hft : f t.tk = some j := by rw [← ht]; exact hp.at_ j hj
 have hfr : f r.tk = some i := by rw [← hr]; exact hp.at_ i hi
 have hpsw := hp.swap i j hi hj
 rw [hr, ht] at hpsw
 obtain ⟨D, hD, hn, hf⟩ := hm0
 have hD3 : W3.drew.ownsMap Tryz.prog 252 (plainElem Tryz.prog 3) m l.length D := vag hD hm3
 have hlt : l.length < maxLen := by simp only [maxLen]; omega
 obtain ⟨c0, c1⟩ := Blk.v2 B3 (.slice (some ⟨g, 0, none⟩) l.length c) (.map (some m)) rfl
 obtain ⟨b, off, hA, s0, s1, s2, s3⟩ := tw_at (O3.rdAt (by decide) Tw.len) (k := i) (by omega)
 injection hA with hA
 injection hA with e1 e2
 subst e1
 subst e2
 rw [Nat.zero_add] at s0 s1 s2 s3
 rw [hgi] at s0 s1 s2 s3
 have HG := Lib.hid hgj
 have HS := Lib.hid hs2
 clear hgi hgj hs2 hr ht hR hm3 hcur
 go_still_tail 13, (by kernel_rfl)
 change wpList _ _ _ _ _ W3.drew
 refine wpList_mapUpdate_in W3.drew rfl _ _ _ 211 rfl 252 3 keyedTm Tryz.underlying211 (plainElem Tryz.prog 3) m l.length D rfl hD3 hlt (tkV t.tk) (.int .i64 (i : Int)) (tkKey t.tk) rfl rfl (vaF wft) (.lit (.int .i64 (i : Int))) [] (plainElem_int Tryz.underlying3 wfi) ?_
 intro W4 hD4 hT4
 have M4 := MpT.put wft hD3 hn hf hD4
 rw [if_pos (by rw [hft]; rfl)] at M4
 have P4 : Only [m] W3 W4 := ((Only.refl [m] W3).drew).trans (Only.turned hT4)
 obtain ⟨D4, hE4, hn4, hf4⟩ := M4
 have B4 := B3.only P4 (by simpa using fun e => hmq e.symm)
 have hg4 : W4.heap[g]? = W3.heap[g]? := by
  obtain ⟨cur, hcur⟩ := O3.blk4
  exact P4.block g hcur.lt (by simpa using fun e => hmg e.symm)
 have O4 := O3.lie hg4
 clear hD4 hT4 c0 c1 s0 s1 s2 s3 hD3
 obtain ⟨c0, c1⟩ := Blk.v2 B4 (.slice (some ⟨g, 0, none⟩) l.length c) (.map (some m)) rfl
 obtain ⟨b, off, hA, s0, s1, s2, s3⟩ := tw_at (O4.rdAt (by decide) Tw.len) (k := j) (by omega)
 injection hA with hA
 injection hA with e1 e2
 subst e1
 subst e2
 rw [Nat.zero_add] at s0 s1 s2 s3
 rw [HG.out] at s0 s1 s2 s3
 go_wp2_with fail
 go_still_tail 13, (by kernel_rfl)
 change wpList _ _ _ _ _ W4.drew
 refine wpList_mapUpdate_in W4.drew rfl _ _ _ 211 rfl 252 3 keyedTm Tryz.underlying211 (plainElem Tryz.prog 3) m l.length D4 rfl (vag hE4 rfl) hlt (tkV r.tk) (.int .i64 (j : Int)) (tkKey r.tk) rfl rfl (vaF wfr) (.lit (.int .i64 (j : Int))) [] (plainElem_int Tryz.underlying3 wfj) ?_
 intro W5 hD5 hT5
 have M5 := MpT.put wfr (vag (w' := W4.drew) hE4 rfl) hn4 hf4 hD5
 rw [if_pos (by
  by_cases e : r.tk = t.tk
  ·rw [e, vap]; rfl
  ·rw [vae _ _ e, hfr]; rfl)] at M5
 have P5 : Only [m] W4 W5 := ((Only.refl [m] W4).drew).trans (Only.turned hT5)
 have B5 := B4.only P5 (by simpa using fun e => hmq e.symm)
 have hg5 : W5.heap[g]? = W4.heap[g]? := by
  obtain ⟨cur, hcur⟩ := O4.blk4
  exact P5.block g hcur.lt (by simpa using fun e => hmg e.symm)
 have O5 := O4.lie hg5
 have PP : Only [g, m] w W5 := ((PO.wide (by simp)).trans (P4.wide (by simp))).trans (P5.wide (by simp))
 have hwf : ∀ x ∈ swapL l i j hi hj, x.tk.wf ∧ wfI x.d := fun x hx => Q.wf x ((vaK l i j hi hj).mem_iff.1 hx)
 clear hD5 hT5 c0 c1 s0 s1 s2 s3
 go_wp2_with fail
 go_end0
 exact ⟨rfl, ⟨B5, O5, ⟨_, by rw [hl2]; exact M5, hpsw⟩, hwf⟩, PP⟩
theorem QuM.keep {w w' : World} {B q m : Nat} {v : Value} {l : List Tw} (h : QuM w B q m v l) (K : Kp w w') : QuM w' B q m v l := by
 refine ⟨h.bk.keep K, h.own.keep K, ?_, h.wf⟩
 obtain ⟨f, hm, hp⟩ := h.mp
 have hlt : m < w.heap.size := by
  obtain ⟨es, cl, h1⟩ := hm.heap
  exact (Array.getElem?_eq_some_iff.1 h1).1
 obtain ⟨D, hD, hn, hf⟩ := hm
 exact ⟨f, ⟨D, vag hD (K.heap hlt), hn, hf⟩, hp⟩
def tw0 : Tw := ⟨0, ⟨0, 0⟩, 0⟩
abbrev fT (l : List Tw) : Nat → Tw := fun k => l.getD k tw0
theorem fT_at {l : List Tw} {k : Nat} (h : k < l.length) : fT l k = l[k] := by
 show l.getD k tw0 = _
 rw [List.getD_eq_getElem?_getD, List.getElem?_eq_getElem h, Option.getD_some]
theorem vbk (l : List Tw) (i j : Nat) (hi : i < l.length) (hj : j < l.length) : fT (swapL l i j hi hj) = swH (fT l) i j := viv l tw0 i j hi hj
abbrev quI (q : Nat) : Value := .iface 210 (.pointer (some ⟨q, 0, none⟩))
structure UpW (w : World) (B q m g c n N : Nat) (l0 : List Tw) (k : Nat) (l : List Tw) (wr : World) : Prop where
 qu : QuM wr B q m (.slice (some ⟨g, 0, none⟩) N c) l
 pm : l.Perm l0
 ln : l.length = N
 tl : ∀ x, n ≤ x → fT l x = fT l0 x
 up : UpH ltT (fT l) n k
 lt : k < n
 on : Only [g, m] w wr
set_option maxRecDepth 100000 in
theorem vbN (B q m g c n N : Nat) (l : List Tw) (j : Nat) (w : World) (Q : QuM w B q m (.slice (some ⟨g, 0, none⟩) N c) l) (hn : l.length = N) (hnN : n ≤ N) (hj : j < n) (hlen : N ≤ 1000000) (hU : UpH ltT (fT l) n j) :
  Calls Tryz.prog 298 #[quI q, .int .i64 (j : Int)] w fun e w' => e = .returned (.tuple #[]) ∧ ∃ l', l'.Perm l ∧ l'.length = N ∧ Heap ltT (fT l') n ∧ (∀ x, n ≤ x → fT l' x = fT l x) ∧ QuM w' B q m (.slice (some ⟨g, 0, none⟩) N c) l' ∧ Only [g, m] w w' := by
 have R0 : Hid (UpW w B q m g c n N l j l w) := Lib.hid ⟨Q, List.Perm.refl _, hn, fun _ _ => rfl, hU, hj, Only.refl _ _⟩
 clear Q hn hj hU
 go_enter Tryz.func298, Tryz.ntmps298
 go_wp2_with fail
 go_loopw [1] (fun s wr => ∃ (k : Nat) (l2 : List Tw), s = .int .i64 k ∧ Hid (UpW w B q m g c n N l k l2 wr)) (fun s _ => (intOf s).toNat)
 case atStart => exact ⟨j, l, rfl, R0⟩
 case round =>
  obtain ⟨k, l2, rfl, R⟩ := hrel
  have hk := R.out.lt
  have hl2 := R.out.ln
  rcases Nat.eq_zero_or_pos k with h0 | h0
  ·subst h0
   have Hd := Lib.hid (UpH.done R.out.up (.inl rfl))
   clear hk hl2
   go_wp2_with fail
   go_end0
   exact ⟨rfl, l2, R.out.pm, R.out.ln, Hd.out, R.out.tl, R.out.qu, R.out.on⟩
  ·have hpl := vav h0
   obtain ⟨p, hpp⟩ : ∃ p, parH k = p := ⟨_, rfl⟩
   rw [hpp] at hpl
   have hpk : ((k : Int) - 1) / 2 = (p : Int) := by have := hpp; unfold parH at this; omega
   have hb : ((p : Int) == (k : Int)) = false := by rw [beq_eq_false_iff_ne]; omega
   have Hpp := Lib.hid hpp
   have HB : Hid (Blk wr q 214 #[.slice (some ⟨g, 0, none⟩) l2.length c, .map (some m)]) := Lib.hid (by rw [hl2]; exact R.out.qu.bk)
   have HR : Hid (Rd wr 4 Tw.enc (some ⟨g, 0, none⟩) l2) := Lib.hid (R.out.qu.own.rdAt (by decide) Tw.len)
   have hk2 : k < l2.length := by omega
   have hp2 : p < l2.length := by omega
   have Hl2 := Lib.hid hl2
   clear hpp hl2
   go_wp2_with fail
   refine (vaz q (.map (some m)) (some ⟨g, 0, none⟩) c l2 k p wr HB.out HR.out hk2 hp2).mono ?_
   rintro e w1 ⟨rfl, K1⟩
   have Q1 := Lib.hid (R.out.qu.keep K1)
   have P1 := Lib.hid (R.out.on.trans (Only.of_kp K1))
   clear K1 HB HR
   cases hl : ltT l2[k] l2[p] with
   | false =>
    have Hd := Lib.hid (UpH.done R.out.up (.inr (by rw [Hpp.out, fT_at hk2, fT_at hp2]; exact hl)))
    clear hl
    go_wp2_with fail
    go_end0
    exact ⟨rfl, l2, R.out.pm, R.out.ln, Hd.out, R.out.tl, Q1.out, P1.out⟩
   | true =>
    have HU := Lib.hid (UpH.step vaW R.out.up h0 hk (by rw [Hpp.out, fT_at hk2, fT_at hp2]; exact hl))
    clear hl
    go_wp2_with fail
    refine (vaA B q m g c l2 p k w1 (by rw [Hl2.out]; exact Q1.out) hp2 hk2 (by rw [Hl2.out]; exact hlen)).mono ?_
    rintro e w2 ⟨rfl, Q2, O2⟩
    rw [Hl2.out] at Q2
    have hU2 := HU.out
    rw [Hpp.out, ← vbk l2 p k hp2 hk2] at hU2
    have Hn : Hid (UpW w B q m g c n N l p (swapL l2 p k hp2 hk2) w2) := Lib.hid ⟨Q2, (vaK l2 p k hp2 hk2).trans R.out.pm, by rw [vay]; exact Hl2.out, fun y hy => by rw [vbk, swH_o _ (by omega) (by omega)]; exact R.out.tl y hy, hU2, by omega, P1.out.trans O2⟩
    clear Q2 O2 hU2
    go_wp2_with fail
    go_roundw
    case rel => exact ⟨p, _, rfl, Hn⟩
    case measure => simp [intOf]; omega
structure DownW (w : World) (B q m g c n N : Nat) (l0 : List Tw) (i0 k : Nat) (l : List Tw) (wr : World) : Prop where
 qu : QuM wr B q m (.slice (some ⟨g, 0, none⟩) N c) l
 pm : l.Perm l0
 ln : l.length = N
 dn : DownH ltT (fT l) n i0 k
 ge : i0 ≤ k
 lt : k ≤ 1000000
 tl : ∀ x, n ≤ x → fT l x = fT l0 x
 st : k = i0 → l = l0
 on : Only [g, m] w wr
def DownP (B q m g c n N : Nat) (l : List Tw) (i0 : Nat) (w : World) (e : Ending) (w' : World) : Prop :=
 ∃ l' b, e = .returned (.bool b) ∧ l'.Perm l ∧ l'.length = N ∧ QuM w' B q m (.slice (some ⟨g, 0, none⟩) N c) l' ∧ (∀ x, n ≤ x → fT l' x = fT l x) ∧ (b = true → Heap ltT (fT l') n) ∧ (b = false → UpH ltT (fT l') n i0 ∧ l' = l) ∧ Only [g, m] w w'
theorem DownW.fin {w wr : World} {B q m g c n N : Nat} {l0 : List Tw} {i0 k : Nat} {l : List Tw} (R : DownW w B q m g c n N l0 i0 k l wr) (hc : ∀ j, 0 < j → j < n → parH j = k → ltT (fT l j) (fT l k) = false) : DownP B q m g c n N l0 i0 w (.returned (.bool (decide (i0 < k)))) wr := by
 obtain ⟨h1, h2⟩ := R.dn.stay hc
 refine ⟨l, decide (i0 < k), rfl, R.pm, R.ln, R.qu, R.tl, fun hb => h2 ?_, fun hb => ?_, R.on⟩
 ·have := of_decide_eq_true hb; omega
 ·have h3 := of_decide_eq_false hb
  have h4 : k = i0 := by have := R.ge; omega
  rw [h4] at h1
  exact ⟨h1, R.st h4⟩
theorem DownW.go {w wr w1 w2 : World} {B q m g c n N : Nat} {l0 : List Tw} {i0 k : Nat} {l : List Tw} (R : DownW w B q m g c n N l0 i0 k l wr) {j : Nat} (hj : j = 2 * k + 1 ∨ j = 2 * k + 2) (hn : j < n) (hN : n ≤ N) (hN6 : N ≤ 1000000) (hk : k < l.length) (hj2 : j < l.length) (hl : ltT l[j] l[k] = true) (hs : ∀ x, 0 < x → x < n → parH x = k → x ≠ j → ltT (fT l x) (fT l j) = false)
  (O1 : Only [g, m] w w1) (Q2 : QuM w2 B q m (.slice (some ⟨g, 0, none⟩) N c) (swapL l k j hk hj2)) (O2 : Only [g, m] w1 w2) : DownW w B q m g c n N l0 i0 j (swapL l k j hk hj2) w2 := by
 obtain ⟨h1, h2⟩ := R.dn.step vaW hj hn (by rw [fT_at hj2, fT_at hk]; exact hl) hs R.ge
 rw [← vbk l k j hk hj2] at h1
 refine ⟨Q2, (vaK l k j hk hj2).trans R.pm, by rw [vay]; exact R.ln, h1, by omega, by omega, fun x hx => ?_, fun e => by omega, O1.trans O2⟩
 rw [vbk, swH_o _ (by omega) (by omega)]
 exact R.tl x hx
set_option maxRecDepth 100000 in
theorem vbZ (B q m g c n N : Nat) (l : List Tw) (i0 : Nat) (w : World) (Q : QuM w B q m (.slice (some ⟨g, 0, none⟩) N c) l) (hN : l.length = N) (hn : n ≤ N) (hi : i0 ≤ 1000000) (hiN : i0 < N) (hlen : N ≤ 1000000) (hD : DownH ltT (fT l) n i0 i0) :
  Calls Tryz.prog 264 #[quI q, .int .i64 (i0 : Int), .int .i64 (n : Int)] w (DownP B q m g c n N l i0 w) := by
 have R0 : Hid (DownW w B q m g c n N l i0 i0 l w) := Lib.hid ⟨Q, List.Perm.refl _, hN, hD, Nat.le_refl _, hi, fun _ _ => rfl, fun _ => rfl, Only.refl _ _⟩
 clear Q hN hD
 go_enter Tryz.func264, Tryz.ntmps264
 go_wp2_with fail
 go_loopw [7] (fun s wr => ∃ (k : Nat) (l2 : List Tw), s = .int .i64 k ∧ k < N ∧ Hid (DownW w B q m g c n N l i0 k l2 wr)) (fun s _ => N - (intOf s).toNat)
 case atStart => exact ⟨i0, l, rfl, hiN, R0⟩
 case round =>
  obtain ⟨k, l2, rfl, hkN, R⟩ := hrel
  have hl2 := R.out.ln
  have hk6 := R.out.lt
  have gneg : decide (2 * (k : Int) + 1 < 0) = false := decide_eq_false (by omega)
  by_cases hjn : n ≤ 2 * k + 1
  ·have gd : (n : Int) ≤ 2 * (k : Int) + 1 := by omega
   have gdb : decide ((n : Int) ≤ 2 * (k : Int) + 1) = true := decide_eq_true gd
   have Hf := Lib.hid (R.out.fin (fun j j0 jn jp => by have := vch j0 jp; omega))
   have hdd : decide ((i0 : Int) < (k : Int)) = decide (i0 < k) := by simp
   have Hdd := Lib.hid hdd
   clear hl2 hdd hjn
   go_wp2_with fail
   go_ret
   first | exact Hf.out | (rw [Hdd.out]; exact Hf.out) | (have := Hf.out; rw [← Hdd.out] at this; exact this)
  ·have gd : ¬ (n : Int) ≤ 2 * (k : Int) + 1 := by omega
   have gdb : decide ((n : Int) ≤ 2 * (k : Int) + 1) = false := decide_eq_false gd
   have hk2 : k < l2.length := by omega
   have ha2 : 2 * k + 1 < l2.length := by omega
   have HB : Hid (Blk wr q 214 #[.slice (some ⟨g, 0, none⟩) l2.length c, .map (some m)]) := Lib.hid (by rw [hl2]; exact R.out.qu.bk)
   have HR : Hid (Rd wr 4 Tw.enc (some ⟨g, 0, none⟩) l2) := Lib.hid (R.out.qu.own.rdAt (by decide) Tw.len)
   have Hl2 := Lib.hid hl2
   clear hl2
   have hc1 : ((2 * k + 1 : Nat) : Int) = 2 * (k : Int) + 1 := by omega
   have hc2 : ((2 * k + 2 : Nat) : Int) = 2 * (k : Int) + 1 + 1 := by omega
   by_cases h2 : 2 * k + 2 < n
   ·have g2 : 2 * (k : Int) + 1 + 1 < (n : Int) := by omega
    have hb2 : 2 * k + 2 < l2.length := by have := Hl2.out; omega
    have HL := Lib.hid (vaz q (.map (some m)) (some ⟨g, 0, none⟩) c l2 (2 * k + 2) (2 * k + 1) wr HB.out HR.out hb2 ha2)
    have hL := HL.out
    rw [hc1, hc2] at hL
    have HLL := Lib.hid hL
    clear hc1 hc2 HL hL hjn h2
    go_wp2_with fail
    refine HLL.out.mono ?_
    rintro e w1 ⟨rfl, K1⟩
    clear HLL
    cases hl : ltT (l2[2 * k + 2]'hb2) (l2[2 * k + 1]'ha2) with
    | true =>
     have Hl := Lib.hid hl
     have Qw := Lib.hid (R.out.qu.keep K1)
     have Pw := Lib.hid (R.out.on.trans (Only.of_kp K1))
     have Hs := Lib.hid (show ∀ x, 0 < x → x < n → parH x = k → x ≠ 2 * k + 2 → ltT (fT l2 x) (fT l2 (2 * k + 2)) = false from fun x x0 xn xp xe => by
      have h5 := vch x0 xp
      have h6 : x = 2 * k + 1 := by omega
      rw [h6, fT_at ha2, fT_at hb2]
      exact vaW.asym _ _ Hl.out)
     have hjl : 2 * k + 2 < l2.length := by have := Hl2.out; omega
     have hL2 := vaz q (.map (some m)) (some ⟨g, 0, none⟩) c l2 (2 * k + 2) k w1 (HB.out.keep K1) (HR.out.keep K1) hjl hk2
     rw [show ((2 * k + 2 : Nat) : Int) = 2 * (k : Int) + 1 + 1 by omega] at hL2
     have HL2 := Lib.hid hL2
     clear hL2 hl
     go_wp2_with fail
     refine HL2.out.mono ?_
     rintro e w3 ⟨rfl, K3⟩
     have Qw3 := Lib.hid (Qw.out.keep K3)
     have Pw3 := Lib.hid (Pw.out.trans (Only.of_kp K3))
     clear K3 HL2 Qw
     cases hl3 : ltT (l2[2 * k + 2]'hjl) (l2[k]'hk2) with
     | false =>
      have Hf := Lib.hid (DownW.fin (wr := w3) ⟨Qw3.out, R.out.pm, R.out.ln, R.out.dn, R.out.ge, R.out.lt, R.out.tl, R.out.st, Pw3.out⟩ (fun x x0 xn xp => by
       by_cases e : x = 2 * k + 2
       ·rw [e, fT_at hjl, fT_at hk2]; exact hl3
       ·have h5 := Hs.out x x0 xn xp e
        rw [fT_at hjl] at h5
        rw [fT_at hk2]
        exact vaW.trans _ _ _ hl3 h5))
      have Hdd := Lib.hid (show decide ((i0 : Int) < (k : Int)) = decide (i0 < k) by simp)
      clear hl3
      go_wp2_with fail
      go_ret
      first | exact Hf.out | (rw [Hdd.out]; exact Hf.out) | (have := Hf.out; rw [← Hdd.out] at this; exact this)
     | true =>
      have hS := vaA B q m g c l2 k (2 * k + 2) w3 (by rw [Hl2.out]; exact Qw3.out) hk2 hjl (by rw [Hl2.out]; exact hlen)
      rw [show ((2 * k + 2 : Nat) : Int) = 2 * (k : Int) + 1 + 1 by omega, Hl2.out] at hS
      have HSS := Lib.hid hS
      have Hl3 := Lib.hid hl3
      clear hS hl3
      go_wp2_with fail
      refine HSS.out.mono ?_
      rintro e w4 ⟨rfl, Q4, O4⟩
      have Hn : Hid (DownW w B q m g c n N l i0 (2 * k + 2) (swapL l2 k (2 * k + 2) hk2 hjl) w4) := Lib.hid (R.out.go (by omega) (by omega) hn hlen hk2 hjl Hl3.out Hs.out Pw3.out Q4 O4)
      clear Q4 O4 HSS
      go_wp2_with fail
      go_roundw
      case rel => exact ⟨2 * k + 2, _, by go_num, by have := Hl2.out; omega, Hn⟩
      case measure => simp [intOf]; omega
    | false =>
     have Hl := Lib.hid hl
     have Qw := Lib.hid (R.out.qu.keep K1)
     have Pw := Lib.hid (R.out.on.trans (Only.of_kp K1))
     have Hs := Lib.hid (show ∀ x, 0 < x → x < n → parH x = k → x ≠ 2 * k + 1 → ltT (fT l2 x) (fT l2 (2 * k + 1)) = false from fun x x0 xn xp xe => by
      have h5 := vch x0 xp
      have h6 : x = 2 * k + 2 := by omega
      rw [h6, fT_at ha2, fT_at hb2]
      exact Hl.out)
     have hjl : 2 * k + 1 < l2.length := by have := Hl2.out; omega
     have hL2 := vaz q (.map (some m)) (some ⟨g, 0, none⟩) c l2 (2 * k + 1) k w1 (HB.out.keep K1) (HR.out.keep K1) hjl hk2
     rw [show ((2 * k + 1 : Nat) : Int) = 2 * (k : Int) + 1 by omega] at hL2
     have HL2 := Lib.hid hL2
     clear hL2 hl
     go_wp2_with fail
     refine HL2.out.mono ?_
     rintro e w3 ⟨rfl, K3⟩
     have Qw3 := Lib.hid (Qw.out.keep K3)
     have Pw3 := Lib.hid (Pw.out.trans (Only.of_kp K3))
     clear K3 HL2 Qw
     cases hl3 : ltT (l2[2 * k + 1]'hjl) (l2[k]'hk2) with
     | false =>
      have Hf := Lib.hid (DownW.fin (wr := w3) ⟨Qw3.out, R.out.pm, R.out.ln, R.out.dn, R.out.ge, R.out.lt, R.out.tl, R.out.st, Pw3.out⟩ (fun x x0 xn xp => by
       by_cases e : x = 2 * k + 1
       ·rw [e, fT_at hjl, fT_at hk2]; exact hl3
       ·have h5 := Hs.out x x0 xn xp e
        rw [fT_at hjl] at h5
        rw [fT_at hk2]
        exact vaW.trans _ _ _ hl3 h5))
      have Hdd := Lib.hid (show decide ((i0 : Int) < (k : Int)) = decide (i0 < k) by simp)
      clear hl3
      go_wp2_with fail
      go_ret
      first | exact Hf.out | (rw [Hdd.out]; exact Hf.out) | (have := Hf.out; rw [← Hdd.out] at this; exact this)
     | true =>
      have hS := vaA B q m g c l2 k (2 * k + 1) w3 (by rw [Hl2.out]; exact Qw3.out) hk2 hjl (by rw [Hl2.out]; exact hlen)
      rw [show ((2 * k + 1 : Nat) : Int) = 2 * (k : Int) + 1 by omega, Hl2.out] at hS
      have HSS := Lib.hid hS
      have Hl3 := Lib.hid hl3
      clear hS hl3
      go_wp2_with fail
      refine HSS.out.mono ?_
      rintro e w4 ⟨rfl, Q4, O4⟩
      have Hn : Hid (DownW w B q m g c n N l i0 (2 * k + 1) (swapL l2 k (2 * k + 1) hk2 hjl) w4) := Lib.hid (R.out.go (by omega) (by omega) hn hlen hk2 hjl Hl3.out Hs.out Pw3.out Q4 O4)
      clear Q4 O4 HSS
      go_wp2_with fail
      go_roundw
      case rel => exact ⟨2 * k + 1, _, by go_num, by have := Hl2.out; omega, Hn⟩
      case measure => simp [intOf]; omega
   ·have g2 : ¬ 2 * (k : Int) + 1 + 1 < (n : Int) := by omega
    have g2b : decide (2 * (k : Int) + 1 + 1 < (n : Int)) = false := decide_eq_false g2
    have K1 : Kp wr wr := Kp.refl wr
    clear hc1 hc2
    have Qw := Lib.hid (R.out.qu.keep K1)
    have Pw := Lib.hid (R.out.on.trans (Only.of_kp K1))
    have Hs := Lib.hid (show ∀ x, 0 < x → x < n → parH x = k → x ≠ 2 * k + 1 → ltT (fT l2 x) (fT l2 (2 * k + 1)) = false from fun x x0 xn xp xe => by
     have h5 := vch x0 xp
     omega)
    have hjl : 2 * k + 1 < l2.length := by have := Hl2.out; omega
    have hL2 := vaz q (.map (some m)) (some ⟨g, 0, none⟩) c l2 (2 * k + 1) k wr (HB.out.keep K1) (HR.out.keep K1) hjl hk2
    rw [show ((2 * k + 1 : Nat) : Int) = 2 * (k : Int) + 1 by omega] at hL2
    have HL2 := Lib.hid hL2
    clear hL2
    go_wp2_with fail
    refine HL2.out.mono ?_
    rintro e w3 ⟨rfl, K3⟩
    have Qw3 := Lib.hid (Qw.out.keep K3)
    have Pw3 := Lib.hid (Pw.out.trans (Only.of_kp K3))
    clear K3 HL2 Qw
    cases hl3 : ltT (l2[2 * k + 1]'hjl) (l2[k]'hk2) with
    | false =>
     have Hf := Lib.hid (DownW.fin (wr := w3) ⟨Qw3.out, R.out.pm, R.out.ln, R.out.dn, R.out.ge, R.out.lt, R.out.tl, R.out.st, Pw3.out⟩ (fun x x0 xn xp => by
      by_cases e : x = 2 * k + 1
      ·rw [e, fT_at hjl, fT_at hk2]; exact hl3
      ·have h5 := Hs.out x x0 xn xp e
       rw [fT_at hjl] at h5
       rw [fT_at hk2]
       exact vaW.trans _ _ _ hl3 h5))
     have Hdd := Lib.hid (show decide ((i0 : Int) < (k : Int)) = decide (i0 < k) by simp)
     clear hl3
     go_wp2_with fail
     go_ret
     first | exact Hf.out | (rw [Hdd.out]; exact Hf.out) | (have := Hf.out; rw [← Hdd.out] at this; exact this)
    | true =>
     have hS := vaA B q m g c l2 k (2 * k + 1) w3 (by rw [Hl2.out]; exact Qw3.out) hk2 hjl (by rw [Hl2.out]; exact hlen)
     rw [show ((2 * k + 1 : Nat) : Int) = 2 * (k : Int) + 1 by omega, Hl2.out] at hS
     have HSS := Lib.hid hS
     have Hl3 := Lib.hid hl3
     clear hS hl3
     go_wp2_with fail
     refine HSS.out.mono ?_
     rintro e w4 ⟨rfl, Q4, O4⟩
     have Hn : Hid (DownW w B q m g c n N l i0 (2 * k + 1) (swapL l2 k (2 * k + 1) hk2 hjl) w4) := Lib.hid (R.out.go (by omega) (by omega) hn hlen hk2 hjl Hl3.out Hs.out Pw3.out Q4 O4)
     clear Q4 O4 HSS
     go_wp2_with fail
     go_roundw
     case rel => exact ⟨2 * k + 1, _, by go_num, by have := Hl2.out; omega, Hn⟩
     case measure => simp [intOf]; omega
end

end Go.Proofs.YtgopnfacklmkaaaGreatDoor
