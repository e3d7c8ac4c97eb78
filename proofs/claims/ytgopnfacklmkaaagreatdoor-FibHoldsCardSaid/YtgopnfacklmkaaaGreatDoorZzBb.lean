/- Lemmas and contracts for the theorem of this claim: FbA, FbB, FbC, FbD. -/
import Derived.Test.YtgopnfacklmkaaaGreatDoorZzAg
import Derived.Test.YtgopnfacklmkaaaGreatDoorZzBa
import Derived.Deep.RegionLaw
set_option linter.all false
set_option maxHeartbeats 16000000
namespace Go.Proofs.YtgopnfacklmkaaaGreatDoor
section
open Go.RowKit
attribute [local go_sem] Oper.semAt_some
def Hp.enc (h : Hp) : List Value := [.int .u32 h.p.a, .int .i64 h.p.l, .bool h.d, .int .i64 h.f, .int .u32 h.x, .int .i64 h.m]
theorem Hp.len (h : Hp) : h.enc.length = 6 := rfl
theorem Hp.one (h : Hp) : ∀ u ∈ h.enc, u.oneCell' = true := by
 intro u hu
 simp only [Hp.enc, List.mem_cons, List.not_mem_nil, or_false] at hu
 rcases hu with rfl | rfl | rfl | rfl | rfl | rfl <;> rfl
theorem EHop : ElemOf Tryz.prog 164 89 (.agg #[.int .u32 0, .int .i64 0, .bool false, .int .i64 0, .int .u32 0, .int .i64 0]) 6 48 := ⟨Tryz.underlying164, by kernel_rfl, rfl, by decide⟩
def rowB : Option Addr → List Nat
 | some a => [a.block]
 | none => []
def Fp (f tr : Nat) (t : Tr) (A : Option Addr) : List Nat := f :: tr :: (t.bs ++ rowB A)
structure FibM (w : World) (f tr : Nat) (t : Tr) (A : Option Addr) (c : Nat) (H : List Hp) : Prop where
 blk : Blk w f 166 #[.pointer (some ⟨tr, 0, none⟩), .slice A H.length c]
 trie : TrieM w tr t H.length
 own : Own w 0 89 6 Hp.enc (.slice A H.length c) H
 fi : FI t H
 ftr : f ≠ tr
 fbs : f ∉ t.bs
 row : ∀ a, A = some a → a.block ≠ f ∧ a.block ≠ tr ∧ a.block ∉ t.bs
 room : H.length ≤ 512
 oks : ∀ h ∈ H, h.p.ok
theorem Own.lt_ {α : Type} {w : World} {base e sz n c : Nat} {enc : α → List Value} {A : Option Addr} {xs : List α} (h : Own w base e sz enc (.slice A n c) xs) : ∀ a, A = some a → a.block < w.heap.size := by
 rintro a rfl
 rcases h.2 with ⟨h2, _⟩ | ⟨g, cap, cur, hv, hg, hh, _⟩
 ·cases h2
 ·injection hv with h1; injection h1 with h1; rw [h1]; exact (Array.getElem?_eq_some_iff.1 hh).1
theorem Own.only_ {α : Type} {bs : List Nat} {w w' : World} {base e sz n c : Nat} {enc : α → List Value} {A : Option Addr} {xs : List α} (h : Own w base e sz enc (.slice A n c) xs) (k : Only bs w w') (hb : ∀ a, A = some a → a.block ∉ bs) : Own w' base e sz enc (.slice A n c) xs := by
 refine ⟨h.1, ?_⟩
 rcases h.2 with h2 | ⟨g, cap, cur, hv, hg, hh, r⟩
 ·exact .inl h2
 ·refine .inr ⟨g, cap, cur, hv, hg, ?_, r⟩
  injection hv with h1
  exact (k.block g (Array.getElem?_eq_some_iff.1 hh).1 (hb ⟨g, 0, none⟩ h1)).trans hh
theorem FibM.lt {w : World} {f tr : Nat} {t : Tr} {A : Option Addr} {c : Nat} {H : List Hp} (h : FibM w f tr t A c H) : ∀ b ∈ Fp f tr t A, b < w.heap.size := by
 intro b hb
 simp only [Fp, List.mem_cons, List.mem_append] at hb
 rcases hb with rfl | rfl | hb | hb
 ·exact h.blk.lt
 ·exact h.trie.blk.lt
 ·exact h.trie.tm.lt b hb
 ·cases A with
  | none => cases hb
  | some a => simp only [rowB, List.mem_singleton] at hb; rw [hb]; exact h.own.lt_ a rfl
theorem FibM.only {bs : List Nat} {w w' : World} {f tr : Nat} {t : Tr} {A : Option Addr} {c : Nat} {H : List Hp} (h : FibM w f tr t A c H) (k : Only bs w w') (hb : ∀ b ∈ Fp f tr t A, b ∉ bs) : FibM w' f tr t A c H :=
 ⟨h.blk.only k (hb f (by simp [Fp])), h.trie.only k (hb tr (by simp [Fp])) (fun b hbb => hb b (by simp [Fp, hbb])), h.own.only_ k (fun a ha => hb a.block (by subst ha; simp [Fp, rowB])), h.fi, h.ftr, h.fbs, h.row, h.room, h.oks⟩
theorem FibM.keep {w w' : World} {f tr : Nat} {t : Tr} {A : Option Addr} {c : Nat} {H : List Hp} (h : FibM w f tr t A c H) (k : Kp w w') : FibM w' f tr t A c H := h.only (bs := []) (Only.of_kp k) (fun _ _ => by simp)
def FM (w : World) (f : Nat) (F : List Nat) (L : List Hp) : Prop := ∃ tr t A c H, F = Fp f tr t A ∧ FibM w f tr t A c H ∧ Up L ∧ H.Perm L
theorem FM.only {bs : List Nat} {w w' : World} {f : Nat} {F : List Nat} {L : List Hp} (h : FM w f F L) (k : Only bs w w') (hb : ∀ b ∈ F, b ∉ bs) : FM w' f F L := by
 obtain ⟨tr, t, A, c, H, rfl, m, u, p⟩ := h
 exact ⟨tr, t, A, c, H, rfl, m.only k hb, u, p⟩
theorem FM.keep {w w' : World} {f : Nat} {F : List Nat} {L : List Hp} (h : FM w f F L) (k : Kp w w') : FM w' f F L := h.only (bs := []) (Only.of_kp k) (fun _ _ => by simp)
theorem FM.lt {w : World} {f : Nat} {F : List Nat} {L : List Hp} (h : FM w f F L) : ∀ b ∈ F, b < w.heap.size := by
 obtain ⟨tr, t, A, c, H, rfl, m, _⟩ := h
 exact m.lt
def FT (w w' : World) (f : Nat) (F : List Nat) (L : List Hp) : Prop := ∃ F', FM w' f F' L ∧ Only F w w' ∧ ∀ b ∈ F', b ∈ F ∨ w.heap.size ≤ b
theorem vio (w : World) (b : Nat) : (binOp .eql 72 (.pointer (some ⟨b, 0, none⟩)) (.pointer none)).run Tryz.prog w = .ok (.bool false) w := by kernel_rfl
theorem vbq (f tr : Nat) (x : Value) (w : World) (hB : Blk w f 166 #[.pointer (some ⟨tr, 0, none⟩), x]) :
  Calls Tryz.prog 75 #[.pointer (some ⟨f, 0, none⟩)] w fun e w' => e = .returned (.bool false) ∧ w = w' := by
 have h1 := vio
 have h2 := vdP
 have c0 : w.cell? ⟨f, 0, none⟩ = some (.pointer (some ⟨tr, 0, none⟩)) := hB.cell 0
 go_enter Tryz.func75, Tryz.ntmps75
 go_wp2_with fail
 go_ret
 exact ⟨rfl, rfl⟩
theorem vmp (w : World) : Calls Tryz.prog 138 #[] w fun e w' => e = .returned (.pointer (some ⟨w.heap.size, 0, none⟩)) ∧ Blk w' w.heap.size 330 #[.pointer none, .int .i64 0, .bool true] ∧ Kp w w' := by
 go_enter Tryz.func138, Tryz.ntmps138
 go_wp2_with fail
 go_ret
 exact ⟨rfl, Blk.new w _ _, (Kp.refl _).alloc _⟩
def NewPost2 (w : World) (e : Ending) (w' : World) : Prop := ∃ f F, e = .returned (.pointer (some ⟨f, 0, none⟩)) ∧ FM w' f F [] ∧ Kp w w' ∧ ∀ b ∈ F, w.heap.size ≤ b
theorem vho (w : World) : Calls Tryz.prog 73 #[] w (NewPost2 w) := by
 go_enter Tryz.func73, Tryz.ntmps73
 go_wp2_with fail
 refine (vmp w).mono ?_
 rintro e w1 ⟨rfl, hB, hK⟩
 have hlt := hB.lt
 go_wp2_with fail
 go_ret
 refine ⟨w1.heap.size, Fp w1.heap.size w.heap.size .nil none, rfl, ⟨w.heap.size, .nil, none, 0, [], rfl, ⟨Blk.new w1 _ _, ⟨hB.alloc _, trivial, trivial, by simp [Tr.bs], by simp [Tr.bs]⟩, Own.nil _ _ _ _ _, FI.nil, by omega, by simp [Tr.bs], (fun a h => by cases h), by simp, by simp⟩, List.Pairwise.nil, List.Perm.refl _⟩, hK.alloc _, ?_⟩
 intro b hb
 simp [Fp, Tr.bs, rowB] at hb
 rcases hb with rfl | rfl
 ·exact hK.size
 ·exact Nat.le_refl _
theorem vhp (f : Nat) (F : List Nat) (L : List Hp) (w : World) (h : FM w f F L) :
  Calls Tryz.prog 24 #[.pointer (some ⟨f, 0, none⟩)] w fun e w' => e = .returned (.int .i64 L.length) ∧ w = w' := by
 obtain ⟨tr, t, A, c, H, rfl, m, u, p⟩ := h
 have hB := m.blk
 rw [p.length_eq] at hB
 have c1 : w.cell? ⟨f, 1, none⟩ = some (.slice A L.length c) := hB.cell 1
 clear m p u
 go_enter Tryz.func24, Tryz.ntmps24
 go_wp2_with fail
 refine (vbq f tr _ _ hB).mono ?_
 rintro e w' ⟨rfl, rfl⟩
 go_wp2_with fail
 go_ret
 exact ⟨rfl, rfl⟩
theorem vng {t : Tr} {H : List Hp} (h : FI t H) {q : Pn} (hq : q.ok) : (∃ (k : Nat) (hk : k < H.length), H[k].p = q ∧ ((t.look q).got q) = ((k : Int), true) ∧ ∃ b x y, t.look q = .node b q (k : Int) true x y) ∨ ((∀ e ∈ H, e.p ≠ q) ∧ ((t.look q).got q) = (0, false) ∧ ∀ u, (q, u) ∉ t.rows) := by
 by_cases hm : ∃ u, (q, u) ∈ t.rows
 ·obtain ⟨u, hu⟩ := hm
  obtain ⟨k, hk, rfl, hp⟩ := (h.rows q u).1 hu
  obtain ⟨b, x, y, hl⟩ := (vaV hq h.wf _).1 hu
  left
  exact ⟨k, hk, hp, by rw [hl]; simp [Tr.got], b, x, y, hl⟩
 ·right
  have hno : ∀ u, (q, u) ∉ t.rows := fun u hu => hm ⟨u, hu⟩
  refine ⟨fun e he hp => ?_, ?_, hno⟩
  ·obtain ⟨k, hk, rfl⟩ := List.getElem_of_mem he
   exact hno k ((h.rows q k).2 ⟨k, hk, rfl, hp⟩)
  ·rcases hl : t.look q with _ | ⟨b, p, v, hh, x, y⟩
   ·rfl
   ·show (if p = q ∧ hh = true then (v, true) else (0, false)) = _
    rw [if_neg]
    rintro ⟨rfl, rfl⟩
    exact hno v ((vaV hq h.wf v).2 ⟨b, x, y, hl⟩)
set_option maxRecDepth 100000 in
theorem vcT (tr : Nat) (q : Pn) (many : Int) (t : Tr) (w : World) (hG : RelsAt w) (hT : TrieM w tr t many) (hq : q.ok) :
  Calls Tryz.prog 199 #[.agg #[.pointer (some ⟨tr, 0, none⟩)], .agg #[.int .u32 q.a, .int .i64 q.l]] w fun e w' => e = .returned (.tuple #[.int .i64 ((t.look q).got q).1, .bool ((t.look q).got q).2]) ∧ Kp w w' := by
 have HT := Lib.hid hT
 have HG := Lib.hid hG
 have Hq := Lib.hid hq
 clear hT hG hq
 obtain ⟨g, hg⟩ : ∃ g, (t.look q).got q = g := ⟨_, rfl⟩
 rw [hg]
 have Hg := Lib.hid hg; clear hg
 go_enter Tryz.func199, Tryz.ntmps199
 go_wp2_with fail
 have k1 : Kp w ((w.alloc (.cells #[.pointer (some ⟨tr, 0, none⟩)] 163)).alloc (.cells #[.int .u32 q.a, .int .i64 q.l] 39)) := ((Kp.refl _).alloc _).alloc _
 refine (vog tr q many t _ (HG.out.keep k1) (HT.out.blk.keep k1) (HT.out.tm.keep k1) HT.out.wf Hq.out).mono ?_
 rintro e w1 ⟨rfl, hK⟩
 rw [Hg.out]
 go_wp2_with fail
 go_ret2
 exact ⟨rfl, k1.trans hK⟩
theorem vhq {α : Type} {sz : Nat} {enc : α → List Value} (henc : ∀ x, (enc x).length = sz) : ∀ (xs : List α) (k : Nat) (y : α), k < xs.length → ∃ P S, P.length = k * sz ∧ (∃ x, xs.flatMap enc = P ++ (enc x ++ S)) ∧ (xs.set k y).flatMap enc = P ++ (enc y ++ S)
 | [], k, y, h => by simp at h
 | x :: xs, 0, y, h => ⟨[], xs.flatMap enc, by simp, ⟨x, by simp⟩, by simp⟩
 | x :: xs, k + 1, y, h => by
  obtain ⟨P, S, h1, ⟨z, h2⟩, h3⟩ := vhq henc xs k y (by simpa using h)
  refine ⟨enc x ++ P, S, by simp [h1, henc, Nat.add_mul]; omega, ⟨z, by simp [h2]⟩, by simp [h3]⟩
theorem len6 {l : List Value} (h : l.length = 6) : ∃ a b c d e f, l = [a, b, c, d, e, f] := by
 match l, h with
 | [a, b, c, d, e, f], _ => exact ⟨a, b, c, d, e, f, rfl⟩
def set6 (w : World) (g o : Nat) (y : Hp) : World := (((((w.setCell ⟨g, o, none⟩ (.int .u32 y.p.a)).setCell ⟨g, o + 1, none⟩ (.int .i64 y.p.l)).setCell ⟨g, o + 2, none⟩ (.bool y.d)).setCell ⟨g, o + 3, none⟩ (.int .i64 y.f)).setCell ⟨g, o + 4, none⟩ (.int .u32 y.x)).setCell ⟨g, o + 5, none⟩ (.int .i64 y.m)
theorem Only.set6 {bs : List Nat} {a w : World} (h : Only bs a w) {g : Nat} (hg : g ∈ bs) (o : Nat) (y : Hp) : Only bs a (set6 w g o y) :=
 (((((h.setCell (p := ⟨g, _, none⟩) (.inl hg) _).setCell (p := ⟨g, _, none⟩) (.inl hg) _).setCell (p := ⟨g, _, none⟩) (.inl hg) _).setCell (p := ⟨g, _, none⟩) (.inl hg) _).setCell (p := ⟨g, _, none⟩) (.inl hg) _).setCell (p := ⟨g, _, none⟩) (.inl hg) _
theorem Own.set6 {w : World} {e g n c k : Nat} {H : List Hp} (h : Own w 0 e 6 Hp.enc (.slice (some ⟨g, 0, none⟩) n c) H) (hk : k < H.length) (y : Hp) : Own (set6 w g (k * 6) y) 0 e 6 Hp.enc (.slice (some ⟨g, 0, none⟩) n c) (H.set k y) := by
 obtain ⟨h1, h2⟩ := h
 unfold Own
 rw [List.length_set]
 rcases h2 with ⟨h2, _⟩ | ⟨g', cap, cur, hv, hg, hh, hn, hm, hs, ht⟩
 ·cases h2
 injection hv with e1 e2 e3
 injection e1 with e1
 injection e1 with e1
 subst e1 e2 e3
 obtain ⟨P, S, hP, ⟨x, hx⟩, hS⟩ := vhq Hp.len H k y hk
 have hB : Blk w g e cur := hh
 have hB' := (((((hB.set_ (k * 6) (.int .u32 y.p.a)).set_ (k * 6 + 1) (.int .i64 y.p.l)).set_ (k * 6 + 2) (.bool y.d)).set_ (k * 6 + 3) (.int .i64 y.f)).set_ (k * 6 + 4) (.int .u32 y.x)).set_ (k * 6 + 5) (.int .i64 y.m)
 refine ⟨by rw [vaN Hp.len]; simp, .inr ⟨g, c, _, rfl, Nat.zero_le _, hB', hn, hm, by simpa using hs, ?_⟩⟩
 obtain ⟨a0, a1, a2, a3, a4, a5, hl⟩ := len6 (Hp.len x)
 obtain ⟨D, hcur⟩ : ∃ D, cur.toList = P ++ ([a0, a1, a2, a3, a4, a5] ++ (S ++ D)) := by
  refine ⟨cur.toList.drop (H.length * 6), ?_⟩
  conv => lhs; rw [← List.take_append_drop (H.length * 6) cur.toList, ht, hx, hl]
  simp
 have hlen : (P ++ (Hp.enc y ++ S)).length = H.length * 6 := by rw [← hS, vaN Hp.len]; simp
 simp only [Array.toList_setIfInBounds, hcur]
 have e0 : k * 6 = P.length := hP.symm
 rw [hS]
 have : ((((((P ++ ([a0, a1, a2, a3, a4, a5] ++ (S ++ D))).set (k * 6) (.int .u32 y.p.a)).set (k * 6 + 1) (.int .i64 y.p.l)).set (k * 6 + 2) (.bool y.d)).set (k * 6 + 3) (.int .i64 y.f)).set (k * 6 + 4) (.int .u32 y.x)).set (k * 6 + 5) (.int .i64 y.m) = (P ++ (Hp.enc y ++ S)) ++ D := by
  rw [e0]
  simp [List.set_append, Hp.enc]
 rw [this, ← hlen, List.take_left']
 rfl
theorem Own.cut {w : World} {e n c : Nat} {A : Option Addr} {H : List Hp} (h : Own w 0 e 6 Hp.enc (.slice A n c) H) {m : Nat} (hm : m < H.length) : Own w 0 e 6 Hp.enc (.slice A m c) (H.take m) := by
 obtain ⟨h1, h2⟩ := h
 unfold Own
 have hl : (H.take m).length = m := by simp; omega
 rw [hl]
 rcases h2 with ⟨h2, h0⟩ | ⟨g', cap, cur, hv, hg, hh, hn, hm', hs, ht⟩
 ·omega
 injection hv with e1 e2 e3
 subst e1 e2 e3
 refine ⟨by rw [vaN Hp.len, hl], .inr ⟨g', c, cur, rfl, Nat.zero_le _, hh, by omega, hm', hs, ?_⟩⟩
 have e1 : cur.toList.take (m * 6) = (cur.toList.take (H.length * 6)).take (m * 6) := by rw [List.take_take]; congr 1; omega
 rw [e1, ht]
 conv => lhs; rw [← List.take_append_drop m H, List.flatMap_append]
 exact List.take_left' (by rw [vaN Hp.len, hl])
theorem vda {w : World} {A : Option Addr} {l : List Hp} (h : Rd w 6 Hp.enc A l) {k : Nat} (hk : k < l.length) :
  ∃ b off : Nat, A = some ⟨b, off, none⟩ ∧ w.cell? ⟨b, off + k * 6, none⟩ = some (.int .u32 l[k].p.a) ∧ w.cell? ⟨b, off + k * 6 + 1, none⟩ = some (.int .i64 l[k].p.l) ∧ w.cell? ⟨b, off + k * 6 + 2, none⟩ = some (.bool l[k].d) ∧ w.cell? ⟨b, off + k * 6 + 3, none⟩ = some (.int .i64 l[k].f) ∧ w.cell? ⟨b, off + k * 6 + 4, none⟩ = some (.int .u32 l[k].x) ∧ w.cell? ⟨b, off + k * 6 + 5, none⟩ = some (.int .i64 l[k].m) := by
 obtain ⟨b, off, e, hc⟩ := h k hk
 exact ⟨b, off, e, hc 0 _ rfl, hc 1 _ rfl, hc 2 _ rfl, hc 3 _ rfl, hc 4 _ rfl, hc 5 _ rfl⟩
theorem Own.some_ {w : World} {e n c : Nat} {A : Option Addr} {H : List Hp} (h : Own w 0 e 6 Hp.enc (.slice A n c) H) (hk : 0 < H.length) : ∃ g cur, A = some ⟨g, 0, none⟩ ∧ Blk w g e cur ∧ H.length ≤ c ∧ n = H.length := by
 rcases h.2 with ⟨_, h0⟩ | ⟨g, cap, cur, hv, hg, hh, hn, _⟩
 ·omega
 ·injection hv with e1 e2 e3
  subst e3
  exact ⟨g, cur, e1, hh, hn, e2⟩
attribute [local go_sem] Oper.semAt_some
def PutHad (w : World) (A : Option Addr) (k : Nat) (h : Hp) (e : Ending) (w' : World) : Prop := e = .returned (.int .i64 0) ∧ ∃ g, A = some ⟨g, 0, none⟩ ∧ ∃ W, Kp w W ∧ w' = set6 W g (k * 6) h
set_option maxRecDepth 100000 in
theorem vmq (f tr : Nat) (t : Tr) (A : Option Addr) (c : Nat) (H : List Hp) (h : Hp) (k : Nat) (w : World) (hG : RelsAt w) (m : FibM w f tr t A c H) (hk : k < H.length) (hgot : (t.look h.p).got h.p = ((k : Int), true)) (hq : h.p.ok) :
  Calls Tryz.prog 140 #[.pointer (some ⟨f, 0, none⟩), .agg #[.int .u32 h.p.a, .int .i64 h.p.l, .bool h.d, .int .i64 h.f, .int .u32 h.x, .int .i64 h.m]] w (PutHad w A k h) := by
 have HM := Lib.hid m
 have HG := Lib.hid hG
 have Hq := Lib.hid hq
 have Hg := Lib.hid hgot
 have hlen := m.room
 obtain ⟨W, hW, kW, B0⟩ : ∃ W, w.alloc (.cells #[.int .u32 h.p.a, .int .i64 h.p.l, .bool h.d, .int .i64 h.f, .int .u32 h.x, .int .i64 h.m] 89) = W ∧ Kp w W ∧ Blk W w.heap.size 89 #[.int .u32 h.p.a, .int .i64 h.p.l, .bool h.d, .int .i64 h.f, .int .u32 h.x, .int .i64 h.m] := ⟨_, rfl, (Kp.refl _).alloc _, Blk.new w _ _⟩
 clear m hG hq hgot
 go_enter Tryz.func140, Tryz.ntmps140
 go_wp2_with fail
 have HM1 := Lib.hid (HM.out.keep kW)
 have f0 : W.cell? ⟨f, 0, none⟩ = some (.pointer (some ⟨tr, 0, none⟩)) := HM1.out.blk.cell 0
 have b0 : W.cell? ⟨w.heap.size, 0, none⟩ = some (.int .u32 h.p.a) := B0.cell 0
 have b1 : W.cell? ⟨w.heap.size, 1, none⟩ = some (.int .i64 h.p.l) := B0.cell 1
 go_region_held3 (fun w' => w'.cell? ⟨f, 0, none⟩ = some (.pointer (some ⟨tr, 0, none⟩)) ∧ w'.cell? ⟨w.heap.size, 0, none⟩ = some (.int .u32 h.p.a) ∧ w'.cell? ⟨w.heap.size, 1, none⟩ = some (.int .i64 h.p.l))
  (first | exact ⟨Ka.cell f0, Ka.cell b0, Ka.cell b1⟩ | go_keep)
  (first | (go_at_call 199; refine (vcT tr h.p _ t _ (HG.out.keep kW.drew) (HM1.out.trie.keep (Kp.refl W).drew) Hq.out).mono ?_; rintro e wa ⟨rfl, hKa⟩; rw [Hg.out]; have Ka : Kp W wa := (Kp.refl W).drew.trans hKa))
 have k2 := kW.trans Ka
 have B2 := B0.keep Ka
 clear f0 b0 b1 HM1 B0 hKa
 go_wp2_with fail
 refine vau 7 (by kernel_rfl) (by kernel_rfl) (fun V2 hV2 => ?_)
 have k3 : Kp w V2 := by rw [hV2]; exact k2.drew
 have B3 := B2.drew; rw [← hV2] at B3
 have M3 := Lib.hid (HM.out.keep k3)
 clear hV2 k2 B2
 have hown := M3.out.own
 obtain ⟨g, cur, hA, hB, hc, _⟩ := hown.some_ (by omega)
 subst hA
 have f1 : V2.cell? ⟨f, 1, none⟩ = some (.slice (some ⟨g, 0, none⟩) H.length c) := M3.out.blk.cell 1
 have b0 : V2.cell? ⟨w.heap.size, 0, none⟩ = some (.int .u32 h.p.a) := B3.cell 0
 have b1 : V2.cell? ⟨w.heap.size, 1, none⟩ = some (.int .i64 h.p.l) := B3.cell 1
 have b2 : V2.cell? ⟨w.heap.size, 2, none⟩ = some (.bool h.d) := B3.cell 2
 have b3 : V2.cell? ⟨w.heap.size, 3, none⟩ = some (.int .i64 h.f) := B3.cell 3
 have b4 : V2.cell? ⟨w.heap.size, 4, none⟩ = some (.int .u32 h.x) := B3.cell 4
 have b5 : V2.cell? ⟨w.heap.size, 5, none⟩ = some (.int .i64 h.m) := B3.cell 5
 obtain ⟨_, _, he, g0, g1, g2, g3, g4, g5⟩ := vda (hown.rdAt (by decide) Hp.len) hk
 injection he with he; injection he with he1 he2
 subst he1 he2
 simp only [Nat.zero_add] at g0 g1 g2 g3 g4 g5
 have z0 := hB.frozen (k * 6)
 have z1 := hB.frozen (k * 6 + 1)
 have z2 := hB.frozen (k * 6 + 2)
 have z3 := hB.frozen (k * 6 + 3)
 have z4 := hB.frozen (k * 6 + 4)
 have z5 := hB.frozen (k * 6 + 5)
 clear hown hB
 simp only [List.take_succ_cons, List.take_zero, List.drop_succ_cons, List.drop_zero]
 repeat still_step
 refine wpStill_nil ?_
 go_wp2_with fail
 go_ret
 exact ⟨rfl, g, rfl, V2, k3, by simp [set6]⟩
attribute [local go_sem] Oper.semAt_some
theorem Only.of_grown {w w' : World} {A : Option Addr} {n c : Nat} (h : w.grownBy w' (Value.slice A n c).ownBlock) : Only (rowB A) w w' :=
 ⟨h.os, h.tape, h.output, h.size, fun k hk hn => h.block k hk (fun e => by
  cases A with
  | none => cases e
  | some a => injection e with e; exact hn (by simp [rowB, e]))⟩
theorem Only.wideF {bs cs : List Nat} {w w' : World} (h : Only bs w w') (hs : ∀ b ∈ bs, b ∈ cs) : Only cs w w' := ⟨h.os, h.tape, h.output, h.size, fun k hk hn => h.block k hk (fun hb => hn (hs k hb))⟩
theorem Only.join {bs cs ds : List Nat} {w w1 w2 : World} (h : Only bs w w1) (k : Only cs w1 w2) (h1 : ∀ b ∈ bs, b ∈ ds) (h2 : ∀ b ∈ cs, b ∈ ds ∨ w.heap.size ≤ b) : Only ds w w2 :=
 ⟨k.os.trans h.os, k.tape.trans h.tape, k.output.trans h.output, Nat.le_trans h.size k.size, fun i hi hn => (k.block i (Nat.lt_of_lt_of_le hi h.size) (fun hb => by
  rcases h2 i hb with e | e
  ·exact hn e
  ·omega)).trans (h.block i hi (fun hb => hn (h1 i hb)))⟩
def PutFull (w : World) (e : Ending) (w' : World) : Prop := e = .returned (.int .i64 3) ∧ Kp w w'
theorem vmr (tr : Nat) (q : Pn) (v many : Int) (t : Tr) (w : World) (hG : RelsAt w) (hT : TrieM w tr t many) (hq : q.ok) (hno : ∀ u, (q, u) ∉ t.rows) (hm0 : 512 ≤ many) (hm1 : many ≤ 1000000) :
  Calls Tryz.prog 200 #[.pointer (some ⟨tr, 0, none⟩), .agg #[.int .u32 q.a, .int .i64 q.l], .int .i64 v] w fun e w' => e = .returned (.tuple #[.int .i64 0, .bool false, .int .i64 3]) ∧ Kp w w' := by
 refine (vkg tr q v many t w hG hT hq hno (by omega) hm1).mono ?_
 rintro e w' (⟨_, h2, h3⟩ | ⟨h1, _⟩)
 ·exact ⟨h2, h3⟩
 ·omega
theorem voL (tr : Nat) (q : Pn) (v many : Int) (t : Tr) (w : World) (hG : RelsAt w) (hT : TrieM w tr t many) (hq : q.ok) (hno : ∀ u, (q, u) ∉ t.rows) (hm0 : 0 ≤ many) (hm1 : many < 512) :
  Calls Tryz.prog 200 #[.pointer (some ⟨tr, 0, none⟩), .agg #[.int .u32 q.a, .int .i64 q.l], .int .i64 v] w fun e w' => e = .returned (.tuple #[.int .i64 0, .bool false, .int .i64 0]) ∧ NewPost w tr q v many t w' := by
 refine (vkg tr q v many t w hG hT hq hno hm0 (by omega)).mono ?_
 rintro e w' (⟨h1, _⟩ | ⟨_, h2, h3⟩)
 ·omega
 ·exact ⟨h2, h3⟩
def PutNew (w : World) (f tr : Nat) (t : Tr) (A : Option Addr) (H : List Hp) (h : Hp) (e : Ending) (w' : World) : Prop :=
 e = .returned (.int .i64 0) ∧ ∃ t' A' c', FibM w' f tr t' A' c' (H ++ [h]) ∧ Only (Fp f tr t A) w w' ∧ ∀ b ∈ Fp f tr t' A', b ∈ Fp f tr t A ∨ w.heap.size ≤ b
set_option maxRecDepth 100000 in
theorem vkl (f tr : Nat) (t : Tr) (A : Option Addr) (c : Nat) (H : List Hp) (h : Hp) (w : World) (hG : RelsAt w) (m : FibM w f tr t A c H) (hfull : 512 ≤ H.length) (hgot : (t.look h.p).got h.p = (0, false)) (hno : ∀ u, (h.p, u) ∉ t.rows) (hq : h.p.ok) :
  Calls Tryz.prog 140 #[.pointer (some ⟨f, 0, none⟩), .agg #[.int .u32 h.p.a, .int .i64 h.p.l, .bool h.d, .int .i64 h.f, .int .u32 h.x, .int .i64 h.m]] w (PutFull w) := by
 have HM := Lib.hid m
 have HG := Lib.hid hG
 have Hq := Lib.hid hq
 have Hg := Lib.hid hgot
 have hlen := m.room
 obtain ⟨W, hW, kW, B0⟩ : ∃ W, w.alloc (.cells #[.int .u32 h.p.a, .int .i64 h.p.l, .bool h.d, .int .i64 h.f, .int .u32 h.x, .int .i64 h.m] 89) = W ∧ Kp w W ∧ Blk W w.heap.size 89 #[.int .u32 h.p.a, .int .i64 h.p.l, .bool h.d, .int .i64 h.f, .int .u32 h.x, .int .i64 h.m] := ⟨_, rfl, (Kp.refl _).alloc _, Blk.new w _ _⟩
 have Hno := Lib.hid hno
 clear m hG hq hgot hno
 go_enter Tryz.func140, Tryz.ntmps140
 go_wp2_with fail
 have HM1 := Lib.hid (HM.out.keep kW)
 have f0 : W.cell? ⟨f, 0, none⟩ = some (.pointer (some ⟨tr, 0, none⟩)) := HM1.out.blk.cell 0
 have b0 : W.cell? ⟨w.heap.size, 0, none⟩ = some (.int .u32 h.p.a) := B0.cell 0
 have b1 : W.cell? ⟨w.heap.size, 1, none⟩ = some (.int .i64 h.p.l) := B0.cell 1
 go_region_held3 (fun w' => w'.cell? ⟨f, 0, none⟩ = some (.pointer (some ⟨tr, 0, none⟩)) ∧ w'.cell? ⟨w.heap.size, 0, none⟩ = some (.int .u32 h.p.a) ∧ w'.cell? ⟨w.heap.size, 1, none⟩ = some (.int .i64 h.p.l))
  (first | exact ⟨Ka.cell f0, Ka.cell b0, Ka.cell b1⟩ | go_keep)
  (first | (go_at_call 199; refine (vcT tr h.p _ t _ (HG.out.keep kW.drew) (HM1.out.trie.keep (Kp.refl W).drew) Hq.out).mono ?_; rintro e wa ⟨rfl, hKa⟩; rw [Hg.out]; have Ka : Kp W wa := (Kp.refl W).drew.trans hKa))
 have k2 := kW.trans Ka
 have B2 := B0.keep Ka
 clear f0 b0 b1 HM1 B0 hKa
 have HM2 := Lib.hid (HM.out.keep k2)
 have f0 : wa.cell? ⟨f, 0, none⟩ = some (.pointer (some ⟨tr, 0, none⟩)) := HM2.out.blk.cell 0
 have f1 : wa.cell? ⟨f, 1, none⟩ = some (.slice A H.length c) := HM2.out.blk.cell 1
 have b0 : wa.cell? ⟨w.heap.size, 0, none⟩ = some (.int .u32 h.p.a) := B2.cell 0
 have b1 : wa.cell? ⟨w.heap.size, 1, none⟩ = some (.int .i64 h.p.l) := B2.cell 1
 go_wp2_with fail
 go_region_held3 (fun w' => w'.cell? ⟨f, 0, none⟩ = some (.pointer (some ⟨tr, 0, none⟩)) ∧ w'.cell? ⟨f, 1, none⟩ = some (.slice A H.length c) ∧ w'.cell? ⟨w.heap.size, 0, none⟩ = some (.int .u32 h.p.a) ∧ w'.cell? ⟨w.heap.size, 1, none⟩ = some (.int .i64 h.p.l))
  (first | exact ⟨Kb.cell f0, Kb.cell f1, Kb.cell b0, Kb.cell b1⟩ | go_keep)
  (first | (go_at_call 200; refine (vmr tr h.p _ (H.length : Int) t _ (HG.out.keep k2.drew) (HM2.out.trie.keep (Kp.refl wa).drew) Hq.out Hno.out (by omega) (by omega)).mono ?_; rintro e wb ⟨rfl, hKb⟩; have Kb : Kp wa wb := (Kp.refl wa).drew.trans hKb))
 go_wp2_with fail
 go_ret
 exact ⟨rfl, k2.trans Kb⟩
theorem voj {w wa wb w4 : World} {f tr : Nat} {t t' : Tr} {A : Option Addr} {c g cap : Nat} {H : List Hp} {h : Hp} {o : Obj} (HM : FibM w f tr t A c H) (k2 : Kp w wa) (hTu : Turned wa.drew wb tr t t' ((H.length : Int) + 1))
  (hrows : ∀ r : Pn × Int, r ∈ t'.rows ↔ r = (h.p, (H.length : Int)) ∨ r ∈ t.rows) (hno : ∀ u, (h.p, u) ∉ t.rows) (hfull : H.length < 512) (hq : h.p.ok) (BF : Blk wb f 166 #[.pointer (some ⟨tr, 0, none⟩), .slice A H.length c])
  (hown4 : Own w4 0 89 6 Hp.enc (.slice (some ⟨g, 0, none⟩) (H.length + 1) cap) (H ++ [h])) (hg : (wb.drew.alloc o).grownBy w4 (Value.slice A H.length c).ownBlock) (hat : (Value.slice A H.length c).ownBlock = some g ∨ g = (wb.drew.alloc o).heap.size)
  (B4 : Blk w4 f 166 #[.pointer (some ⟨tr, 0, none⟩), .slice A H.length c]) : PutNew w f tr t A H h (.returned (.int .i64 0)) (w4.setCell ⟨f, 1, none⟩ (.slice (some ⟨g, 0, none⟩) (H.length + 1) cap)) := by
 have O1 : Only (tr :: t.bs) w wb := (Only.of_kp k2.drew).trans hTu.only
 have O2 : Only (rowB A) wb w4 := ((Only.refl (rowB A) wb).drew.alloc o).trans (Only.of_grown hg)
 have O3 : Only (f :: rowB A) wb (w4.setCell ⟨f, 1, none⟩ (.slice (some ⟨g, 0, none⟩) (H.length + 1) cap)) := (O2.wideF (fun b hb => by simp [hb])).setCell (.inl (by simp)) _
 have hsz : (wb.drew.alloc o).heap.size = wb.heap.size + 1 := by simp
 have hkw : w.heap.size ≤ wb.heap.size := O1.size
 have hka : w.heap.size ≤ wa.heap.size := k2.size
 have hsub : ∀ b ∈ t'.bs, b ∈ t.bs ∨ w.heap.size ≤ b := fun b hb => (hTu.sub b hb).imp id (fun e => Nat.le_trans hka e)
 have hf : f < w.heap.size := HM.blk.lt
 have hfb : f ∉ t'.bs := fun hc => by
  rcases hsub f hc with e | e
  ·exact HM.fbs e
  ·omega
 have hgg : g ≠ f ∧ g ≠ tr ∧ g ∉ t'.bs ∧ (g ∈ rowB A ∨ w.heap.size ≤ g) := by
  rcases hat with e | e
  ·cases A with
   | none => cases e
   | some a =>
    injection e with e
    subst e
    obtain ⟨r1, r2, r3⟩ := HM.row a rfl
    have := HM.own.lt_ a rfl
    refine ⟨r1, r2, fun hc => ?_, .inl (by simp [rowB])⟩
    rcases hsub _ hc with e | e
    ·exact r3 e
    ·omega
  ·rw [hsz] at e
   have h1 := BF.lt
   have h2 := hTu.trie.blk.lt
   refine ⟨by omega, by omega, fun hc => ?_, .inr (by omega)⟩
   have := hTu.trie.tm.lt _ hc
   omega
 have hrA : ∀ b ∈ rowB A, b < w.heap.size ∧ b ≠ tr ∧ b ∉ t'.bs := by
  intro b hb
  cases A with
  | none => cases hb
  | some a =>
   simp only [rowB, List.mem_singleton] at hb
   subst hb
   obtain ⟨r1, r2, r3⟩ := HM.row a rfl
   have hl := HM.own.lt_ a rfl
   refine ⟨hl, r2, fun hc => ?_⟩
   rcases hsub _ hc with e | e
   ·exact r3 e
   ·omega
 refine ⟨rfl, t', some ⟨g, 0, none⟩, cap, ⟨?_, ?_, ?_, (FI.app HM.fi hno hTu.trie.wf hrows).1, HM.ftr, hfb, ?_, by simp; omega, ?_⟩, ?_, ?_⟩
 ·have := B4.set_ 1 (.slice (some ⟨g, 0, none⟩) (H.length + 1) cap)
  simpa using this
 ·have := hTu.trie.only O3 (fun hc => by
   rcases List.mem_cons.1 hc with e | e
   ·exact HM.ftr e.symm
   ·exact (hrA _ e).2.1 rfl) (fun b hb hc => by
   rcases List.mem_cons.1 hc with e | e
   ·subst e; exact hfb hb
   ·exact (hrA _ e).2.2 hb)
  simpa using this
 ·have := hown4.only_ ((Only.refl [f] w4).setCell (p := ⟨f, 1, none⟩) (.inl (by simp)) (.slice (some ⟨g, 0, none⟩) (H.length + 1) cap)) (fun a ha => by injection ha with ha; subst ha; simpa using hgg.1)
  simpa using this
 ·rintro a ha
  injection ha with ha
  subst ha
  exact ⟨hgg.1, hgg.2.1, hgg.2.2.1⟩
 ·intro e he
  rcases List.mem_append.1 he with e1 | e1
  ·exact HM.oks e e1
  ·simp only [List.mem_singleton] at e1; subst e1; exact hq
 ·exact O1.join O3 (fun b hb => by
   rcases List.mem_cons.1 hb with e | e
   ·simp [Fp, e]
   ·simp [Fp, e]) (fun b hb => by
   rcases List.mem_cons.1 hb with e | e
   ·left; simp [Fp, e]
   ·left; simp [Fp, e])
 ·intro b hb
  simp only [Fp, List.mem_cons, List.mem_append] at hb ⊢
  rcases hb with e | e | e | e
  ·exact .inl (.inl e)
  ·exact .inl (.inr (.inl e))
  ·rcases hsub b e with e | e
   ·exact .inl (.inr (.inr (.inl e)))
   ·exact .inr e
  ·simp only [rowB, List.mem_singleton] at e
   subst e
   rcases hgg.2.2.2 with e | e
   ·exact .inl (.inr (.inr (.inr e)))
   ·exact .inr e
set_option maxRecDepth 100000 in
theorem vms (f tr : Nat) (t : Tr) (A : Option Addr) (c : Nat) (H : List Hp) (h : Hp) (w : World) (hG : RelsAt w) (m : FibM w f tr t A c H) (hfull : H.length < 512) (hgot : (t.look h.p).got h.p = (0, false)) (hno : ∀ u, (h.p, u) ∉ t.rows) (hq : h.p.ok) :
  Calls Tryz.prog 140 #[.pointer (some ⟨f, 0, none⟩), .agg #[.int .u32 h.p.a, .int .i64 h.p.l, .bool h.d, .int .i64 h.f, .int .u32 h.x, .int .i64 h.m]] w (PutNew w f tr t A H h) := by
 have HM := Lib.hid m
 have HG := Lib.hid hG
 have Hq := Lib.hid hq
 have Hg := Lib.hid hgot
 have hlen := m.room
 obtain ⟨W, hW, kW, B0⟩ : ∃ W, w.alloc (.cells #[.int .u32 h.p.a, .int .i64 h.p.l, .bool h.d, .int .i64 h.f, .int .u32 h.x, .int .i64 h.m] 89) = W ∧ Kp w W ∧ Blk W w.heap.size 89 #[.int .u32 h.p.a, .int .i64 h.p.l, .bool h.d, .int .i64 h.f, .int .u32 h.x, .int .i64 h.m] := ⟨_, rfl, (Kp.refl _).alloc _, Blk.new w _ _⟩
 have Hno := Lib.hid hno
 clear m hG hq hgot hno
 go_enter Tryz.func140, Tryz.ntmps140
 go_wp2_with fail
 have HM1 := Lib.hid (HM.out.keep kW)
 have f0 : W.cell? ⟨f, 0, none⟩ = some (.pointer (some ⟨tr, 0, none⟩)) := HM1.out.blk.cell 0
 have b0 : W.cell? ⟨w.heap.size, 0, none⟩ = some (.int .u32 h.p.a) := B0.cell 0
 have b1 : W.cell? ⟨w.heap.size, 1, none⟩ = some (.int .i64 h.p.l) := B0.cell 1
 go_region_held3 (fun w' => w'.cell? ⟨f, 0, none⟩ = some (.pointer (some ⟨tr, 0, none⟩)) ∧ w'.cell? ⟨w.heap.size, 0, none⟩ = some (.int .u32 h.p.a) ∧ w'.cell? ⟨w.heap.size, 1, none⟩ = some (.int .i64 h.p.l))
  (first | exact ⟨Ka.cell f0, Ka.cell b0, Ka.cell b1⟩ | go_keep)
  (first | (go_at_call 199; refine (vcT tr h.p _ t _ (HG.out.keep kW.drew) (HM1.out.trie.keep (Kp.refl W).drew) Hq.out).mono ?_; rintro e wa ⟨rfl, hKa⟩; rw [Hg.out]; have Ka : Kp W wa := (Kp.refl W).drew.trans hKa))
 have k2 := kW.trans Ka
 have B2 := B0.keep Ka
 clear f0 b0 b1 HM1 B0 hKa
 have HM2 := Lib.hid (HM.out.keep k2)
 have f0 : wa.cell? ⟨f, 0, none⟩ = some (.pointer (some ⟨tr, 0, none⟩)) := HM2.out.blk.cell 0
 have f1 : wa.cell? ⟨f, 1, none⟩ = some (.slice A H.length c) := HM2.out.blk.cell 1
 have b0 : wa.cell? ⟨w.heap.size, 0, none⟩ = some (.int .u32 h.p.a) := B2.cell 0
 have b1 : wa.cell? ⟨w.heap.size, 1, none⟩ = some (.int .i64 h.p.l) := B2.cell 1
 have hftr : f ∉ tr :: t.bs := by simp; exact ⟨HM.out.ftr, HM.out.fbs⟩
 have hwtr : w.heap.size ∉ tr :: t.bs := fun hc => by
  rcases List.mem_cons.1 hc with e | e
  ·have := HM.out.trie.blk.lt; omega
  ·have := HM.out.trie.tm.lt _ e; omega
 have Hftr := Lib.hid hftr
 have Hwtr := Lib.hid hwtr
 clear hftr hwtr
 go_wp2_with fail
 go_region_held3 (fun w' => w'.cell? ⟨f, 0, none⟩ = some (.pointer (some ⟨tr, 0, none⟩)) ∧ w'.cell? ⟨f, 1, none⟩ = some (.slice A H.length c) ∧ w'.cell? ⟨w.heap.size, 0, none⟩ = some (.int .u32 h.p.a) ∧ w'.cell? ⟨w.heap.size, 1, none⟩ = some (.int .i64 h.p.l))
  (first | exact ⟨Ob.cell f0 Hftr.out, Ob.cell f1 Hftr.out, Ob.cell b0 Hwtr.out, Ob.cell b1 Hwtr.out⟩ | go_keep)
  (first | (go_at_call 200; refine (voL tr h.p _ (H.length : Int) t _ (HG.out.keep k2.drew) (HM2.out.trie.keep (Kp.refl wa).drew) Hq.out Hno.out (by omega) (by omega)).mono ?_; rintro e wb ⟨rfl, hNb⟩; obtain ⟨t', hTu, hrows⟩ := hNb; have Ob : Only (tr :: t.bs) wa wb := (Only.of_kp (Kp.refl wa).drew).trans hTu.only))
 have Hrows := Lib.hid hrows
 have HTu := Lib.hid hTu
 have hA : ∀ a, A = some a → a.block ∉ tr :: t.bs := fun a ha => by have := HM.out.row a ha; simp; exact ⟨this.2.1, this.2.2⟩
 have BF : Blk wb f 166 #[.pointer (some ⟨tr, 0, none⟩), .slice A H.length c] := HM2.out.blk.only Ob Hftr.out
 have BB := B2.only Ob Hwtr.out
 have hown := HM2.out.own.only_ Ob hA
 have HA := Lib.hid hA
 clear hrows hTu f0 f1 b0 b1 hA
 have f1 : wb.cell? ⟨f, 1, none⟩ = some (.slice A H.length c) := BF.cell 1
 have f1' : ∀ o, (wb.alloc o).cell? ⟨f, 1, none⟩ = some (.slice A H.length c) := fun o => (BF.alloc o).cell 1
 have b0 : wb.cell? ⟨w.heap.size, 0, none⟩ = some (.int .u32 h.p.a) := BB.cell 0
 have b1 : wb.cell? ⟨w.heap.size, 1, none⟩ = some (.int .i64 h.p.l) := BB.cell 1
 have b2 : wb.cell? ⟨w.heap.size, 2, none⟩ = some (.bool h.d) := BB.cell 2
 have b3 : wb.cell? ⟨w.heap.size, 3, none⟩ = some (.int .i64 h.f) := BB.cell 3
 have b4 : wb.cell? ⟨w.heap.size, 4, none⟩ = some (.int .u32 h.x) := BB.cell 4
 have b5 : wb.cell? ⟨w.heap.size, 5, none⟩ = some (.int .i64 h.m) := BB.cell 5
 have hne : some f ≠ (Value.slice A H.length c).ownBlock := fun e => by
  cases A with
  | none => cases e
  | some a => injection e with e; exact (HM.out.row a rfl).1 e.symm
 have Hne := Lib.hid hne; clear hne
 go_wp2_with fail
 go_region_law ((refine vfq EHop (by rfl) _ _ (by rfl) h (by rfl) (hown.drew.alloc _) (Nat.zero_le _) (by rfl) (e' := 89) (heap_alloc_new _ _) (by rfl) (by rfl) (by rfl) (by omega) ?_; intro g cap w4 hown4 hg hat; have B4 := (BF.drew.alloc _).grown hg Hne.out; have z4 := B4.frozen 1; have y4 : w4.cell? ⟨f, 1, none⟩ = some (.slice A H.length c) := B4.cell 1))
 all_goals
  go_wp2_with fail
  go_ret
  exact voj HM.out k2 HTu.out Hrows.out Hno.out hfull Hq.out BF hown4 hg hat B4
end

end Go.Proofs.YtgopnfacklmkaaaGreatDoor
