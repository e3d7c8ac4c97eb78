/- A table of hops in memory; fib's none, New, Len, place. -/
import Derived.Test.YtfaiponmjjbgoaaDoorTrA
import Derived.Test.YtfaiponmjjbgoaaDoorFibLaw
import Derived.Test.YtfaiponmjjbgoaaDoorAppl
namespace Go.Proofs.YtfaiponmjjbgoaaDoor
open Go.RowKit
attribute [local go_sem] Oper.semAt_some

def Hp.enc (h : Hp) : List Value := [.int .u32 h.p.a, .int .i64 h.p.l, .bool h.d, .int .i64 h.f, .int .u32 h.x, .int .i64 h.m]
theorem Hp.len (h : Hp) : h.enc.length = 6 := rfl
theorem Hp.one (h : Hp) : ∀ u ∈ h.enc, u.oneCell' = true := by
  intro u hu
  simp only [Hp.enc, List.mem_cons, List.not_mem_nil, or_false] at hu
  rcases hu with rfl | rfl | rfl | rfl | rfl | rfl <;> rfl
theorem EHop : ElemOf Tryd.prog 48 41 (.agg #[.int .u32 0, .int .i64 0, .bool false, .int .i64 0, .int .u32 0, .int .i64 0]) 6 48 := ⟨Tryd.underlying48, by kernel_rfl, rfl, by decide⟩

def rowB : Option Addr → List Nat
  | some a => [a.block]
  | none => []
/-- The blocks of a table of hops. -/
def Fp (f tr : Nat) (t : Tr) (A : Option Addr) : List Nat := f :: tr :: (t.bs ++ rowB A)

/-- A table of hops in memory, its hops in the order in which they lie. -/
structure FibM (w : World) (f tr : Nat) (t : Tr) (A : Option Addr) (c : Nat) (H : List Hp) : Prop where
  blk : Blk w f 50 #[.pointer (some ⟨tr, 0, none⟩), .slice A H.length c]
  trie : TrieM w tr t H.length
  own : Own w 0 41 6 Hp.enc (.slice A H.length c) H
  fi : FI t H
  ftr : f ≠ tr
  fbs : f ∉ t.bs
  row : ∀ a, A = some a → a.block ≠ f ∧ a.block ≠ tr ∧ a.block ∉ t.bs
  room : H.length ≤ 512
  oks : ∀ h ∈ H, h.p.ok

theorem Own.lt_ {α : Type} {w : World} {base e sz n c : Nat} {enc : α → List Value} {A : Option Addr} {xs : List α} (h : Own w base e sz enc (.slice A n c) xs) : ∀ a, A = some a → a.block < w.heap.size := by
  rintro a rfl
  rcases h.2 with ⟨h2, _⟩ | ⟨g, cap, cur, hv, hg, hh, _⟩
  · cases h2
  · injection hv with h1; injection h1 with h1; rw [h1]; exact (Array.getElem?_eq_some_iff.1 hh).1
theorem Own.only_ {α : Type} {bs : List Nat} {w w' : World} {base e sz n c : Nat} {enc : α → List Value} {A : Option Addr} {xs : List α} (h : Own w base e sz enc (.slice A n c) xs) (k : Only bs w w') (hb : ∀ a, A = some a → a.block ∉ bs) : Own w' base e sz enc (.slice A n c) xs := by
  refine ⟨h.1, ?_⟩
  rcases h.2 with h2 | ⟨g, cap, cur, hv, hg, hh, r⟩
  · exact .inl h2
  · refine .inr ⟨g, cap, cur, hv, hg, ?_, r⟩
    injection hv with h1
    exact (k.block g (Array.getElem?_eq_some_iff.1 hh).1 (hb ⟨g, 0, none⟩ h1)).trans hh

theorem FibM.lt {w : World} {f tr : Nat} {t : Tr} {A : Option Addr} {c : Nat} {H : List Hp} (h : FibM w f tr t A c H) : ∀ b ∈ Fp f tr t A, b < w.heap.size := by
  intro b hb
  simp only [Fp, List.mem_cons, List.mem_append] at hb
  rcases hb with rfl | rfl | hb | hb
  · exact h.blk.lt
  · exact h.trie.blk.lt
  · exact h.trie.tm.lt b hb
  · cases A with
    | none => cases hb
    | some a => simp only [rowB, List.mem_singleton] at hb; rw [hb]; exact h.own.lt_ a rfl
theorem FibM.only {bs : List Nat} {w w' : World} {f tr : Nat} {t : Tr} {A : Option Addr} {c : Nat} {H : List Hp} (h : FibM w f tr t A c H) (k : Only bs w w') (hb : ∀ b ∈ Fp f tr t A, b ∉ bs) : FibM w' f tr t A c H :=
  ⟨h.blk.only k (hb f (by simp [Fp])), h.trie.only k (hb tr (by simp [Fp])) (fun b hbb => hb b (by simp [Fp, hbb])), h.own.only_ k (fun a ha => hb a.block (by subst ha; simp [Fp, rowB])), h.fi, h.ftr, h.fbs, h.row, h.room, h.oks⟩
theorem FibM.keep {w w' : World} {f tr : Nat} {t : Tr} {A : Option Addr} {c : Nat} {H : List Hp} (h : FibM w f tr t A c H) (k : Kp w w') : FibM w' f tr t A c H := h.only (bs := []) (Only.of_kp k) (fun _ _ => by simp)

/-- A table of hops: its blocks, and its hops in the order of their prefixes. -/
def FM (w : World) (f : Nat) (F : List Nat) (L : List Hp) : Prop := ∃ tr t A c H, F = Fp f tr t A ∧ FibM w f tr t A c H ∧ Up L ∧ H.Perm L
theorem FM.only {bs : List Nat} {w w' : World} {f : Nat} {F : List Nat} {L : List Hp} (h : FM w f F L) (k : Only bs w w') (hb : ∀ b ∈ F, b ∉ bs) : FM w' f F L := by
  obtain ⟨tr, t, A, c, H, rfl, m, u, p⟩ := h
  exact ⟨tr, t, A, c, H, rfl, m.only k hb, u, p⟩
theorem FM.keep {w w' : World} {f : Nat} {F : List Nat} {L : List Hp} (h : FM w f F L) (k : Kp w w') : FM w' f F L := h.only (bs := []) (Only.of_kp k) (fun _ _ => by simp)
theorem FM.lt {w : World} {f : Nat} {F : List Nat} {L : List Hp} (h : FM w f F L) : ∀ b ∈ F, b < w.heap.size := by
  obtain ⟨tr, t, A, c, H, rfl, m, _⟩ := h
  exact m.lt
/-- The table has turned: only its own blocks, and new ones. -/
def FT (w w' : World) (f : Nat) (F : List Nat) (L : List Hp) : Prop := ∃ F', FM w' f F' L ∧ Only F w w' ∧ ∀ b ∈ F', b ∈ F ∨ w.heap.size ≤ b

theorem fib_eq_nil (w : World) (b : Nat) : (binOp .eql 23 (.pointer (some ⟨b, 0, none⟩)) (.pointer none)).run Tryd.prog w = .ok (.bool false) w := by kernel_rfl
set_option maxHeartbeats 400000 in
theorem fnone_any (f tr : Nat) (x : Value) (w : World) (hB : Blk w f 50 #[.pointer (some ⟨tr, 0, none⟩), x]) :
    Calls Tryd.prog 12 #[.pointer (some ⟨f, 0, none⟩)] w fun e w' => e = .returned (.bool false) ∧ w = w' := by
  have h1 := fib_eq_nil
  have h2 := trie_eq_nil
  have c0 : w.cell? ⟨f, 0, none⟩ = some (.pointer (some ⟨tr, 0, none⟩)) := hB.cell 0
  go_enter Tryd.func12, Tryd.ntmps12
  go_wp2_with fail
  go_ret
  exact ⟨rfl, rfl⟩

theorem tnew_any (w : World) : Calls Tryd.prog 11 #[] w fun e w' => e = .returned (.pointer (some ⟨w.heap.size, 0, none⟩)) ∧ Blk w' w.heap.size 57 #[.pointer none, .int .i64 0, .bool true] ∧ Kp w w' := by
  go_enter Tryd.func11, Tryd.ntmps11
  go_wp2_with fail
  go_ret
  exact ⟨rfl, Blk.new w _ _, (Kp.refl _).alloc _⟩
def NewPost2 (w : World) (e : Ending) (w' : World) : Prop := ∃ f F, e = .returned (.pointer (some ⟨f, 0, none⟩)) ∧ FM w' f F [] ∧ Kp w w' ∧ ∀ b ∈ F, w.heap.size ≤ b
set_option maxHeartbeats 400000 in
theorem fnew_any (w : World) : Calls Tryd.prog 5 #[] w (NewPost2 w) := by
  go_enter Tryd.func5, Tryd.ntmps5
  go_wp2_with fail
  refine (tnew_any w).mono ?_
  rintro e w1 ⟨rfl, hB, hK⟩
  have hlt := hB.lt
  go_wp2_with fail
  go_ret
  refine ⟨w1.heap.size, Fp w1.heap.size w.heap.size .nil none, rfl, ⟨w.heap.size, .nil, none, 0, [], rfl, ⟨Blk.new w1 _ _, ⟨hB.alloc _, trivial, trivial, by simp [Tr.bs], by simp [Tr.bs]⟩, Own.nil _ _ _ _ _, FI.nil, by omega, by simp [Tr.bs], (fun a h => by cases h), by simp, by simp⟩, List.Pairwise.nil, List.Perm.refl _⟩, hK.alloc _, ?_⟩
  intro b hb
  simp [Fp, Tr.bs, rowB] at hb
  rcases hb with rfl | rfl
  · exact hK.size
  · exact Nat.le_refl _

set_option maxHeartbeats 400000 in
theorem flen_any (f : Nat) (F : List Nat) (L : List Hp) (w : World) (h : FM w f F L) :
    Calls Tryd.prog 8 #[.pointer (some ⟨f, 0, none⟩)] w fun e w' => e = .returned (.int .i64 L.length) ∧ w = w' := by
  obtain ⟨tr, t, A, c, H, rfl, m, u, p⟩ := h
  have hB := m.blk
  rw [p.length_eq] at hB
  have c1 : w.cell? ⟨f, 1, none⟩ = some (.slice A L.length c) := hB.cell 1
  clear m p u
  go_enter Tryd.func8, Tryd.ntmps8
  go_wp2_with fail
  refine (fnone_any f tr _ _ hB).mono ?_
  rintro e w' ⟨rfl, rfl⟩
  go_wp2_with fail
  go_ret
  exact ⟨rfl, rfl⟩

/-- Where a prefix's hop lies. -/
theorem got_at {t : Tr} {H : List Hp} (h : FI t H) {q : Pn} (hq : q.ok) : (∃ (k : Nat) (hk : k < H.length), H[k].p = q ∧ ((t.look q).got q) = ((k : Int), true) ∧ ∃ b x y, t.look q = .node b q (k : Int) true x y) ∨ ((∀ e ∈ H, e.p ≠ q) ∧ ((t.look q).got q) = (0, false) ∧ ∀ u, (q, u) ∉ t.rows) := by
  by_cases hm : ∃ u, (q, u) ∈ t.rows
  · obtain ⟨u, hu⟩ := hm
    obtain ⟨k, hk, rfl, hp⟩ := (h.rows q u).1 hu
    obtain ⟨b, x, y, hl⟩ := (look_mem hq h.wf _).1 hu
    left
    exact ⟨k, hk, hp, by rw [hl]; simp [Tr.got], b, x, y, hl⟩
  · right
    have hno : ∀ u, (q, u) ∉ t.rows := fun u hu => hm ⟨u, hu⟩
    refine ⟨fun e he hp => ?_, ?_, hno⟩
    · obtain ⟨k, hk, rfl⟩ := List.getElem_of_mem he
      exact hno k ((h.rows q k).2 ⟨k, hk, rfl, hp⟩)
    · rcases hl : t.look q with _ | ⟨b, p, v, hh, x, y⟩
      · rfl
      · show (if p = q ∧ hh = true then (v, true) else (0, false)) = _
        rw [if_neg]
        rintro ⟨rfl, rfl⟩
        exact hno v ((look_mem hq h.wf v).2 ⟨b, x, y, hl⟩)

set_option maxRecDepth 100000 in
set_option maxHeartbeats 1000000 in
theorem kplace_any (tr : Nat) (q : Pn) (many : Int) (t : Tr) (w : World) (hG : RelsAt w) (hT : TrieM w tr t many) (hq : q.ok) :
    Calls Tryd.prog 23 #[.agg #[.pointer (some ⟨tr, 0, none⟩)], .agg #[.int .u32 q.a, .int .i64 q.l]] w fun e w' => e = .returned (.tuple #[.int .i64 ((t.look q).got q).1, .bool ((t.look q).got q).2]) ∧ Kp w w' := by
  have HT := Lib.hid hT
  have HG := Lib.hid hG
  have Hq := Lib.hid hq
  clear hT hG hq
  obtain ⟨g, hg⟩ : ∃ g, (t.look q).got q = g := ⟨_, rfl⟩
  rw [hg]
  have Hg := Lib.hid hg; clear hg
  go_enter Tryd.func23, Tryd.ntmps23
  go_wp2_with fail
  have k1 : Kp w ((w.alloc (.cells #[.pointer (some ⟨tr, 0, none⟩)] 47)).alloc (.cells #[.int .u32 q.a, .int .i64 q.l] 29)) := ((Kp.refl _).alloc _).alloc _
  refine (get_any tr q many t _ (HG.out.keep k1) (HT.out.blk.keep k1) (HT.out.tm.keep k1) HT.out.wf Hq.out).mono ?_
  rintro e w1 ⟨rfl, hK⟩
  rw [Hg.out]
  go_wp2_with fail
  go_ret2
  exact ⟨rfl, k1.trans hK⟩
end Go.Proofs.YtfaiponmjjbgoaaDoor
