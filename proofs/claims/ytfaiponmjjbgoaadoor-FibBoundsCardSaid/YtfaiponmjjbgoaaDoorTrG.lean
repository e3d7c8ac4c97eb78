/- The trie's none and Get. -/
import Derived.Test.YtfaiponmjjbgoaaDoorTrP
import Derived.BigQuiet
import Derived.Laws.StructEq
namespace Go.Proofs.YtfaiponmjjbgoaaDoor
open Go.RowKit
attribute [local go_sem] Oper.semAt_some

theorem trie_eq_nil (w : World) (b : Nat) : (binOp .eql 44 (.pointer (some ⟨b, 0, none⟩)) (.pointer none)).run Tryd.prog w = .ok (.bool false) w := by kernel_rfl

set_option maxHeartbeats 400000 in
theorem none_any (tr : Nat) (x : Value) (many : Int) (w : World) (hT : Blk w tr 57 #[x, .int .i64 many, .bool true]) :
    Calls Tryd.prog 26 #[.pointer (some ⟨tr, 0, none⟩)] w fun e w' => e = .returned (.bool false) ∧ w = w' := by
  have h1 := trie_eq_nil
  have c2 : w.cell? ⟨tr, 2, none⟩ = some (.bool true) := hT.cell 2
  go_enter Tryd.func26, Tryd.ntmps26
  go_wp2_with fail
  go_ret
  exact ⟨rfl, rfl⟩

set_option maxRecDepth 100000 in
theorem pfx_eql (w : World) (a l b k : Int) : (binOp .eql 29 (.agg #[.int .u32 a, .int .i64 l]) (.agg #[.int .u32 b, .int .i64 k])).run Tryd.prog w = .ok (.bool (a == b && l == k)) w := by
  rw [run_eql_struct, run_equalIn_agg w 9999 _ _ _ Tryd.underlying29 (by kernel_rfl)]
  simp [Op.eqFields, part, go_sem, Tryd.underlying3, Tryd.underlying27]
  by_cases h1 : a = b <;> by_cases h2 : l = k <;> simp [h1, h2]
theorem pfx_eq_t (w : World) (q : Pn) : (binOp .eql 29 (.agg #[.int .u32 q.a, .int .i64 q.l]) (.agg #[.int .u32 q.a, .int .i64 q.l])).run Tryd.prog w = .ok (.bool true) w := by
  rw [pfx_eql]; simp
theorem pfx_eq_f (w : World) {p q : Pn} (h : ¬ p = q) : (binOp .eql 29 (.agg #[.int .u32 p.a, .int .i64 p.l]) (.agg #[.int .u32 q.a, .int .i64 q.l])).run Tryd.prog w = .ok (.bool false) w := by
  rw [pfx_eql]
  have : ((p.a : Int) == (q.a : Int) && (p.l : Int) == (q.l : Int)) = false := by
    cases hh : ((p.a : Int) == (q.a : Int) && (p.l : Int) == (q.l : Int)) with
    | false => rfl
    | true =>
      simp at hh
      obtain ⟨h1, h2⟩ := hh
      exact absurd (by cases p; cases q; simp at h1 h2 ⊢; omega) h
  rw [this]

/-- What Get answers of the tree at the place. -/
def Tr.got (q : Pn) : Tr → Int × Bool
  | .nil => (0, false)
  | .node _ p v h _ _ => if p = q ∧ h = true then (v, true) else (0, false)

set_option maxRecDepth 100000 in
set_option maxHeartbeats 2000000 in
theorem get_any (tr : Nat) (q : Pn) (many : Int) (t : Tr) (w : World) (hG : RelsAt w) (hT : Blk w tr 57 #[t.ptr, .int .i64 many, .bool true]) (hM : TM w t) (ht : t.Wf) (hq : q.ok) :
    Calls Tryd.prog 38 #[.pointer (some ⟨tr, 0, none⟩), .agg #[.int .u32 q.a, .int .i64 q.l]] w fun e w' => e = .returned (.tuple #[.int .i64 ((t.look q).got q).1, .bool ((t.look q).got q).2]) ∧ Kp w w' := by
  have Hq := Lib.hid hq
  have Ht := Lib.hid ht
  have Hck := Lib.hid (show checkP q.pi = 0 by simp [checkP, pi_ok hq])
  have HT := Lib.hid (hT.alloc (.cells #[.int .u32 q.a, .int .i64 q.l] 29))
  have HM := Lib.hid hM
  have HB := Lib.hid hT
  have HG := Lib.hid hG
  have hpn := ptr_ne_nil
  have hpe := ptr_eq_nil
  have ht1 := pfx_eq_t
  clear hT hM ht hq hG
  go_enter Tryd.func38, Tryd.ntmps38
  go_wp2_with fail
  refine (none_any tr _ many _ HT.out).mono ?_
  rintro e w' ⟨rfl, rfl⟩
  go_wp2_with fail
  refine (check_any q.pi _ Hq.out.1).mono ?_
  rintro e w1 ⟨rfl, hK1⟩
  rw [Hck.out]
  have kw : Kp w w1 := ((Kp.refl _).alloc _).trans hK1
  have P1 : Blk w1 w.heap.size 29 #[.int .u32 q.a, .int .i64 q.l] := (Blk.new w _ _).keep hK1
  clear hK1
  have p0 : w1.cell? ⟨w.heap.size, 0, none⟩ = some (.int .u32 q.a) := P1.cell 0
  have p1 : w1.cell? ⟨w.heap.size, 1, none⟩ = some (.int .i64 q.l) := P1.cell 1
  go_wp2_with fail
  refine (place_any tr q many t _ (HG.out.keep kw) (HB.out.keep kw) (HM.out.keep kw) Ht.out Hq.out).mono ?_
  rintro e w2 ⟨rfl, hK2⟩
  have k2 : Kp w w2 := kw.trans hK2
  have P2 := P1.keep hK2
  clear p0 p1
  have p0 : w2.cell? ⟨w.heap.size, 0, none⟩ = some (.int .u32 q.a) := P2.cell 0
  have p1 : w2.cell? ⟨w.heap.size, 1, none⟩ = some (.int .i64 q.l) := P2.cell 1
  have hc := place_cell (q := q) (A := (tr, 0)) (HM.out.keep k2) ((HB.out.keep k2).cell 0)
  have hs := look_TM (q := q) (HM.out.keep k2)
  clear hK2
  generalize hl : t.look q = s at hc hs
  have Hl := Lib.hid hl; clear hl
  cases s with
  | nil =>
    have hc' : w2.cell? ⟨(Tr.place q (tr, 0) t).1, (Tr.place q (tr, 0) t).2, none⟩ = some (.pointer none) := hc
    clear hc hs
    go_wp2_with fail
    go_quiet (fail)
    go_wp2_with fail
    go_ret2
    exact ⟨by rw [Hl.out]; rfl, k2.drewN _⟩
  | node b p v hh x y =>
    have hc' : w2.cell? ⟨(Tr.place q (tr, 0) t).1, (Tr.place q (tr, 0) t).2, none⟩ = some (.pointer (some ⟨b, 0, none⟩)) := hc
    obtain ⟨N, _, _⟩ := hs
    have n0 : w2.cell? ⟨b, 0, none⟩ = some (.int .u32 p.a) := N.cell 0
    have n1 : w2.cell? ⟨b, 1, none⟩ = some (.int .i64 p.l) := N.cell 1
    have n2 : w2.cell? ⟨b, 2, none⟩ = some (.int .i64 v) := N.cell 2
    have n3 : w2.cell? ⟨b, 3, none⟩ = some (.bool hh) := N.cell 3
    clear hc N
    by_cases h : p = q
    · subst h
      cases hh with
      | true =>
        go_wp2_with fail
        go_quiet (fail)
        go_wp2_with fail
        go_ret2
        exact ⟨by rw [Hl.out]; simp [Tr.got], k2.drewN _⟩
      | false =>
        go_wp2_with fail
        go_quiet (fail)
        go_wp2_with fail
        go_ret2
        exact ⟨by rw [Hl.out]; simp [Tr.got], k2.drewN _⟩
    · have hne := fun w => pfx_eq_f w h
      have H := Lib.hid h; clear h
      go_wp2_with fail
      go_quiet (fail)
      go_wp2_with fail
      go_ret2
      exact ⟨by rw [Hl.out]; simp [Tr.got, H.out], k2.drewN _⟩
end Go.Proofs.YtfaiponmjjbgoaaDoor
