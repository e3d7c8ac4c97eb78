/- Layer 18's Near: the rows that it hands over. No condition but at most 30 links. -/
import Derived.Test.YtgnhhhcelfaliaaGraphJ
import Derived.Test.YtgnhhhcelfaliaaRange
namespace Go.Proofs.Ytgnhhhcelfaliaa
open Go.RowKit

def rowE (x : Int × Int) : List Value := [.int .i64 x.1, .int .i64 x.2]
theorem rowE_len (x : Int × Int) : (rowE x).length = 2 := rfl
theorem row_at {w : World} {A : Option Addr} {xs : List (Int × Int)} (h : Rd w 2 rowE A xs) {k : Nat} (hk : k < xs.length) :
    ∃ b off : Nat, A = some ⟨b, off, none⟩ ∧ w.cell? ⟨b, off + k * 2, none⟩ = some (.int .i64 xs[k].1) ∧ w.cell? ⟨b, off + k * 2 + 1, none⟩ = some (.int .i64 xs[k].2) := by
  obtain ⟨b, off, e, hc⟩ := h k hk
  exact ⟨b, off, e, hc 0 _ rfl, hc 1 _ rfl⟩
theorem ERow : ElemOf Try.prog 83 85 (.agg #[.int .i64 0, .int .i64 0]) 2 16 := ⟨Try.underlying83, by kernel_rfl, rfl, by decide⟩

/-- The link of a number, if it is up, and its other end. -/
def rowOf (ls : List Lk) (r : Int) (i : Int) : Option (Int × Int) := match ls[i.toNat]? with
  | some l => if l.Up then some (i, l.A + l.B - r) else none
  | none => none
def rowsOf (ls : List Lk) (r : Int) (fs : List Int) : List (Int × Int) := fs.filterMap (rowOf ls r)
def near (R : Int) (ls : List Lk) (r : Int) : List (Int × Int) := if routerErr R ls r = 0 then rowsOf ls r (faces ls r) else []

theorem rowsOf_le (ls : List Lk) (r : Int) (fs : List Int) : (rowsOf ls r fs).length ≤ fs.length := List.length_filterMap_le _ _
theorem take_snoc {α : Type} (l : List α) (k : Nat) (h : k < l.length) : l.take (k + 1) = l.take k ++ [l[k]] := by rw [List.take_succ_eq_append_getElem h]
theorem rows_up {ls : List Lk} {r : Int} {fs : List Int} {k j : Nat} (hk : k < fs.length) (hj : j < ls.length) (he : fs[k] = (j : Int)) (hu : ls[j].Up = true) :
    rowsOf ls r (fs.take (k + 1)) = rowsOf ls r (fs.take k) ++ [((j : Int), ls[j].A + ls[j].B - r)] := by
  rw [take_snoc _ _ hk, rowsOf, List.filterMap_append, he]
  simp [rowsOf, rowOf, List.getElem?_eq_getElem hj, hu]
theorem rows_down {ls : List Lk} {r : Int} {fs : List Int} {k j : Nat} (hk : k < fs.length) (hj : j < ls.length) (he : fs[k] = (j : Int)) (hu : ls[j].Up = false) :
    rowsOf ls r (fs.take (k + 1)) = rowsOf ls r (fs.take k) := by
  rw [take_snoc _ _ hk, rowsOf, List.filterMap_append, he]
  simp [rowsOf, rowOf, List.getElem?_eq_getElem hj, hu]
theorem faces_nat {ls : List Lk} {r : Int} {k : Nat} (hk : k < (faces ls r).length) : ∃ j : Nat, (faces ls r)[k] = (j : Int) ∧ j < ls.length := by
  have := facesTo_mem (ls := ls) (r := r) (k := ls.length) (List.getElem_mem hk)
  obtain ⟨j, hj⟩ := Int.eq_ofNat_of_zero_le this.1
  have hj' : (faces ls r)[k] = (j : Int) := hj
  have h2 : (faces ls r)[k] < (ls.length : Int) := this.2
  exact ⟨j, hj', by omega⟩

/-- What the iterator reads: its variable, and the rows. -/
def NearMem (p : Nat) (A : Option Addr) (c : Nat) (rows : List (Int × Int)) (w : World) : Prop := Blk w p 83 #[.slice A rows.length c] ∧ Rd w 2 rowE A rows
theorem NearMem.keep {p c : Nat} {A : Option Addr} {rows : List (Int × Int)} {w w' : World} (h : NearMem p A c rows w) (k : Kp w w') : NearMem p A c rows w' := ⟨h.1.keep k, h.2.keep k⟩

def NearPost (R : Int) (ls : List Lk) (r : Int) (w : World) (e : Ending) (w' : World) : Prop :=
  ∃ p A c, e = .returned (.func (.func 51) #[] #[.pointer (some ⟨p, 0, none⟩)]) ∧ NearMem p A c (near R ls r) w' ∧ Kp w w'

set_option maxRecDepth 100000 in
set_option maxHeartbeats 1000000 in
theorem gnear_any (R r : Int) (A : Option Addr) (c : Nat) (ls : List Lk) (w : World) (hR : Rd w 3 Lk.enc A ls) (hn : ls.length ≤ 30) :
    Calls Try.prog 27 #[.agg #[.int .i64 R, .slice A ls.length c], .int .i64 r] w (NearPost R ls r w) := by
  have hmf := makeFunc_run
  go_enter Try.func27, Try.ntmps27
  go_wp2_with fail
  have hK0 : Kp w ((w.alloc (.cells #[.int .i64 R, .slice A ls.length c] 24)).alloc (.cells #[.slice none 0 0] 83)) := ((Kp.refl _).alloc _).alloc _
  refine (gfaces_any R r A c ls _ (hR.keep hK0) hn).mono ?_
  rintro e w1 ⟨v, rfl, hown, hK1⟩
  have hKw : Kp w w1 := hK0.trans hK1
  have B0 : Blk w1 w.heap.size 24 #[.int .i64 R, .slice A ls.length c] := ((Blk.new w _ _).alloc _).keep hK1
  have B1 : Blk w1 (w.heap.size + 1) 83 #[.slice none 0 0] := (Blk.new1 w _ _ _).keep hK1
  by_cases he : routerErr R ls r = 0
  · rw [facesE, if_pos he] at hown
    rw [he]
    have hr : right R ls = true ∧ 0 ≤ r ∧ r < R := by
      unfold routerErr at he
      split at he
      · split at he
        · rename_i h1 h2; exact ⟨h1, h2⟩
        · cases he
      · cases he
    have H := Lib.hid (show near R ls r = rowsOf ls r (faces ls r) by simp [near, he]); clear he
    have Hr := Lib.hid hr.1
    have h0 := hr.2.1
    have h1 := hr.2.2
    have h20 := right_20 hr.1
    clear hr
    obtain ⟨A1, c1, rfl, hrd⟩ := hown.rd (by omega) intE_len
    have hlen : (faces ls r).length ≤ 30 := by have := facesTo_len ls r ls.length; unfold faces; omega
    have b1 := B1.lt
    go_wp2_with fail
    go_loopw [21] (fun i wr => ∃ k : Nat, k ≤ (faces ls r).length ∧ i = .int .i64 k ∧ (∃ v, Blk wr (w.heap.size + 1) 83 #[v] ∧ Own wr w1.heap.size 85 2 rowE v (rowsOf ls r ((faces ls r).take k))) ∧ Only [w.heap.size + 1] w1 wr) (fun i _ => (faces ls r).length - (intOf i).toNat)
    case atStart => exact ⟨0, Nat.zero_le _, rfl, ⟨_, B1, Own.nil _ _ _ _ _⟩, Only.refl _ _⟩
    case round =>
      obtain ⟨k, hk, rfl, ⟨v, B, hw⟩, hO⟩ := hrel
      have hKr : Kp w wr := hO.kp hKw (by simp)
      have C0 := B0.only hO (by simp)
      have g1 : wr.cell? ⟨w.heap.size, 1, none⟩ = some (.slice A ls.length c) := C0.cell 1
      have hsz := hO.size
      by_cases hlt : k < (faces ls r).length
      · obtain ⟨j, hj, hjl⟩ := faces_nat hlt
        have hjb := right_link Hr.out hjl
        have hfr : Rd wr 1 intE A1 (faces ls r) := Rd.of_own (by omega) intE_len (hown.only hO (by simp))
        obtain ⟨b1', off1, rfl, x0⟩ := int_at hfr hlt
        rw [hj] at x0
        obtain ⟨b, off, rfl, c0, c1, c2⟩ := lk_at (hR.keep hKr) hjl
        have v0 : wr.cell? ⟨w.heap.size + 1, 0, none⟩ = some v := B.cell 0
        have v0' : ∀ o, (wr.alloc o).cell? ⟨w.heap.size + 1, 0, none⟩ = some v := fun o => (B.alloc o).cell 0
        have Hj := Lib.hid hj; clear hj
        have hlr := rowsOf_le ls r ((faces ls r).take k)
        have hlk := List.length_take_le k (faces ls r)
        cases hu : ls[j].Up with
        | true =>
          rw [hu] at c2
          have Hu := Lib.hid hu; clear hu
          go_wp2_with (at_builtin; go_must (refine wpList_appx ERow rfl _ _ rfl ((j : Int), ls[j].A + ls[j].B - r) rfl (hw.alloc _) (hKr.alloc _) (by omega) (by simp; omega) rfl (by simp) rfl rfl rfl (by omega) ?_); intro v' w2 hown' hK' hg; have B2 := (B.alloc _).grown hg (hw.ne (by omega)); have v2 : w2.cell? ⟨w.heap.size + 1, 0, none⟩ = some v := B2.cell 0; have z2 := B2.frozen 0; obtain ⟨A2, c2', rfl⟩ := hown'.form1)
          go_roundw
          case rel => exact ⟨k + 1, by omega, by go_num, ⟨_, B2.set_ 0 _, by rw [rows_up hlt hjl Hj.out Hu.out]; exact hown'.setBelow (p := ⟨w.heap.size + 1, 0, none⟩) (by show w.heap.size + 1 < _; omega) _⟩, ((hO.alloc _).grown hg (fun q hq => (World.ownsRow.lt hw q hq).1)).setCell (.inl (by simp)) _⟩
          case measure => simp [intOf]; omega
        | false =>
          rw [hu] at c2
          have Hu := Lib.hid hu; clear hu
          go_wp2_with fail
          go_roundw
          case rel => exact ⟨k + 1, by omega, by go_num, ⟨v, B.alloc _, by rw [rows_down hlt hjl Hj.out Hu.out]; exact hw.alloc _⟩, hO.alloc _⟩
          case measure => simp [intOf]; omega
      · obtain rfl : k = (faces ls r).length := by omega
        go_wp2_with fail
        go_ret
        rw [List.take_length] at hw
        obtain ⟨A2, c2, rfl, hrd2⟩ := hw.rd (by omega) rowE_len
        exact ⟨w.heap.size + 1, A2, c2, rfl, by rw [H.out]; exact ⟨B, hrd2⟩, hKr⟩
  · have H := Lib.hid (show near R ls r = [] by simp [near, he])
    have he' : (routerErr R ls r == 0) = false := by simpa using he
    clear he
    go_wp2_with fail
    go_ret
    exact ⟨w.heap.size + 1, none, 0, rfl, by rw [H.out]; exact ⟨B1, Rd.nil _ _ _ _⟩, hKw⟩

theorem call_near1 (args : Array Value) (w : World) : (callFunc 51 args).run Try.prog w = .ok (.enter 51 args) w := by kernel_rfl

end Go.Proofs.Ytgnhhhcelfaliaa
