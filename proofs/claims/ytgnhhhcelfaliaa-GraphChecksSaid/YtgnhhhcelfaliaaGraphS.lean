/- Layer 18: equality of links: slices.Equal, Same and the reference's Same; slices.Clone. No condition but the stated bounds. -/
import Derived.Test.YtgnhhhcelfaliaaGraphR
import Derived.Laws.StructEq
namespace Go.Proofs.Ytgnhhhcelfaliaa
open Go.RowKit

instance : DecidableEq Lk := fun a b => if h : a.A = b.A ∧ a.B = b.B ∧ a.Up = b.Up then isTrue (by cases a; cases b; simp at h; simp [h]) else isFalse (by rintro rfl; exact h ⟨rfl, rfl, rfl⟩)
abbrev lkV (l : Lk) : Value := .agg #[.int .i64 l.A, .int .i64 l.B, .bool l.Up]

theorem lk_neq (a b a' b' : Int) (u u' : Bool) (w : World) : (binOp .neq 54 (.agg #[.int .i64 a, .int .i64 b, .bool u]) (.agg #[.int .i64 a', .int .i64 b', .bool u'])).run Try.prog w = .ok (.bool (!(a == a' && (b == b' && u == u')))) w := by
  rw [run_neq_struct, run_equalIn_agg w 9999 _ _ _ Try.underlying54 (by kernel_rfl)]
  simp [Op.eqFields, part, go_sem, Try.underlying3, Try.underlying4]
  by_cases h1 : a = a' <;> by_cases h2 : b = b' <;> by_cases h3 : u = u' <;> simp [h1, h2, h3]
theorem lk_ne_f (l : Lk) (w : World) : (binOp .neq 54 (.agg #[.int .i64 l.A, .int .i64 l.B, .bool l.Up]) (.agg #[.int .i64 l.A, .int .i64 l.B, .bool l.Up])).run Try.prog w = .ok (.bool false) w := by
  rw [lk_neq]; simp
theorem lk_ne_t {l l' : Lk} (h : ¬ l = l') (w : World) : (binOp .neq 54 (.agg #[.int .i64 l.A, .int .i64 l.B, .bool l.Up]) (.agg #[.int .i64 l'.A, .int .i64 l'.B, .bool l'.Up])).run Try.prog w = .ok (.bool true) w := by
  rw [lk_neq]
  have : (l.A == l'.A && (l.B == l'.B && l.Up == l'.Up)) = false := by
    cases hh : (l.A == l'.A && (l.B == l'.B && l.Up == l'.Up)) with
    | false => rfl
    | true =>
      simp at hh
      exact absurd (by cases l; cases l'; simp at hh; simp [hh]) h
  rw [this]; rfl

theorem lks_ne_len {xs ys : List Lk} (h : ¬ xs.length = ys.length) : decide (xs = ys) = false := by
  simp only [decide_eq_false_iff_not]; rintro rfl; exact h rfl
theorem lks_ne_at {xs ys : List Lk} {k : Nat} (hx : k < xs.length) (hy : k < ys.length) (h : ¬ xs[k] = ys[k]) : decide (xs = ys) = false := by
  simp only [decide_eq_false_iff_not]; rintro rfl; exact h rfl
theorem lks_eq {xs ys : List Lk} (hl : xs.length = ys.length) (h : ∀ j (h1 : j < xs.length) (h2 : j < ys.length), xs[j] = ys[j]) : decide (xs = ys) = true := by
  simp only [decide_eq_true_eq]; exact List.ext_getElem hl h

set_option maxRecDepth 100000 in
set_option maxHeartbeats 1000000 in
theorem equal_any (A B : Option Addr) (c d : Nat) (xs ys : List Lk) (w : World) (hA : Rd w 3 Lk.enc A xs) (hB : Rd w 3 Lk.enc B ys) (hn : xs.length ≤ 1000000) :
    Calls Try.prog 53 #[.slice A xs.length c, .slice B ys.length d] w fun e w' => e = .returned (.bool (decide (xs = ys))) ∧ Kp w w' := by
  by_cases hl : xs.length = ys.length
  · have hb : ((xs.length : Int) != (ys.length : Int)) = false := by simp [hl]
    have Hl := Lib.hid hl; clear hl
    go_enter Try.func53, Try.ntmps53
    go_wp2
    go_loopw [13] (fun i wr => ∃ k : Nat, k ≤ xs.length ∧ i = .int .i64 k ∧ Hid (∀ j (h1 : j < xs.length) (h2 : j < ys.length), j < k → xs[j] = ys[j]) ∧ Kp w wr) (fun i _ => xs.length - (intOf i).toNat)
    case atStart => exact ⟨0, Nat.zero_le _, rfl, fun _ _ _ h => absurd h (by omega), Kp.refl _⟩
    case round =>
      obtain ⟨k, hk, rfl, hall, hK⟩ := hrel
      by_cases hlt : k < xs.length
      · have hlt2 : k < ys.length := by have := Hl.out; omega
        obtain ⟨b, off, rfl, c0, c1, c2⟩ := lk_at (hA.keep hK) hlt
        obtain ⟨b2, off2, rfl, d0, d1, d2⟩ := lk_at (hB.keep hK) hlt2
        by_cases he : xs[k] = ys[k]
        · have H := Lib.hid he
          rw [← he] at d0 d1 d2
          clear he
          have hne := lk_ne_f xs[k]
          go_wp2_with fail
          go_quiet (fail)
          go_wp2_with fail
          go_roundw
          case rel =>
            refine ⟨k + 1, by omega, by go_num, fun j h1 h2 hj => ?_, hK.drewN _⟩
            by_cases hj' : j < k
            · exact hall.out j h1 h2 hj'
            · obtain rfl : j = k := by omega
              exact H.out
          case measure => simp [intOf]; omega
        · have hne := lk_ne_t he
          have H := Lib.hid (lks_ne_at hlt hlt2 he); clear he
          go_wp2_with fail
          go_quiet (fail)
          go_wp2_with fail
          go_ret
          exact ⟨by rw [H.out]; rfl, hK.drewN _⟩
      · obtain rfl : k = xs.length := by omega
        go_wp2
        go_ret
        exact ⟨by rw [lks_eq Hl.out (fun j h1 h2 => hall.out j h1 h2 h1)]; rfl, hK⟩
  · have hb : ((xs.length : Int) != (ys.length : Int)) = true := by simp; omega
    have H := Lib.hid (lks_ne_len hl); clear hl
    go_enter Try.func53, Try.ntmps53
    go_wp2
    go_ret
    exact ⟨by rw [H.out]; rfl, Kp.refl _⟩

def sameG (R S : Int) (xs ys : List Lk) : Bool := R == S && decide (xs = ys)

set_option maxRecDepth 100000 in
set_option maxHeartbeats 1000000 in
theorem gsame_any (R S : Int) (A B : Option Addr) (c d : Nat) (xs ys : List Lk) (w : World) (hA : Rd w 3 Lk.enc A xs) (hB : Rd w 3 Lk.enc B ys) (hn : xs.length ≤ 1000000) :
    Calls Try.prog 33 #[.agg #[.int .i64 R, .slice A xs.length c], .agg #[.int .i64 S, .slice B ys.length d]] w fun e w' => e = .returned (.bool (sameG R S xs ys)) ∧ Kp w w' := by
  have H := Lib.hid (show sameG R S xs ys = (R == S && decide (xs = ys)) from rfl)
  by_cases h : (R == S) = true
  · go_enter Try.func33, Try.ntmps33
    go_wp2_with fail
    refine (equal_any A B c d xs ys _ (hA.keep (((Kp.refl _).alloc _).alloc _)) (hB.keep (((Kp.refl _).alloc _).alloc _)) hn).mono ?_
    rintro e w1 ⟨rfl, hK1⟩
    go_wp2_with fail
    go_ret
    exact ⟨by rw [H.out, h]; rfl, (((Kp.refl _).alloc _).alloc _).trans hK1⟩
  · have h' : (R == S) = false := by simpa using h
    go_enter Try.func33, Try.ntmps33
    go_wp2_with fail
    go_ret
    exact ⟨by rw [H.out, h']; rfl, ((Kp.refl _).alloc _).alloc _⟩

set_option maxRecDepth 100000 in
set_option maxHeartbeats 1000000 in
theorem rsame_any (R S : Int) (A B : Option Addr) (c d : Nat) (xs ys : List Lk) (w : World) (hA : Rd w 3 Lk.enc A xs) (hB : Rd w 3 Lk.enc B ys) (hn : xs.length ≤ 1000000) :
    Calls Try.prog 31 #[.agg #[.int .i64 R, .slice A xs.length c], .agg #[.int .i64 S, .slice B ys.length d]] w fun e w' => e = .returned (.bool (sameG R S xs ys)) ∧ Kp w w' := by
  have H := Lib.hid (show sameG R S xs ys = (R == S && decide (xs = ys)) from rfl)
  by_cases h : R = S
  · subst h
    by_cases hl : xs.length = ys.length
    · have hb : ((xs.length : Int) != (ys.length : Int)) = false := by simp [hl]
      have Hl := Lib.hid hl; clear hl
      have hrr : (R != R) = false := by simp
      go_enter Try.func31, Try.ntmps31
      go_wp2
      obtain ⟨w0, hw0, k0, B0, B1⟩ : ∃ w0, (w.alloc (.cells #[.int .i64 R, .slice A xs.length c] 24)).alloc (.cells #[.int .i64 R, .slice B ys.length d] 24) = w0 ∧ Kp w w0 ∧ Blk w0 w.heap.size 24 #[.int .i64 R, .slice A xs.length c] ∧ Blk w0 (w.heap.size + 1) 24 #[.int .i64 R, .slice B ys.length d] :=
        ⟨_, rfl, ((Kp.refl _).alloc _).alloc _, (Blk.new w _ _).alloc _, Blk.new1 w _ _ _⟩
      rw [hw0]
      clear hw0
      go_loopw [5] (fun i wr => ∃ k : Nat, k ≤ xs.length ∧ i = .int .i64 k ∧ Hid (∀ j (h1 : j < xs.length) (h2 : j < ys.length), j < k → xs[j] = ys[j]) ∧ Kp w0 wr) (fun i _ => xs.length - (intOf i).toNat)
      case atStart => exact ⟨0, Nat.zero_le _, rfl, fun _ _ _ h => absurd h (by omega), Kp.refl _⟩
      case round =>
        obtain ⟨k, hk, rfl, hall, hK⟩ := hrel
        have g1 : wr.cell? ⟨w.heap.size, 1, none⟩ = some (.slice A xs.length c) := (B0.keep hK).cell 1
        have g3 : wr.cell? ⟨w.heap.size + 1, 1, none⟩ = some (.slice B ys.length d) := (B1.keep hK).cell 1
        by_cases hlt : k < xs.length
        · have hlt2 : k < ys.length := by have := Hl.out; omega
          obtain ⟨b, off, rfl, c0, c1, c2⟩ := lk_at (hA.keep (k0.trans hK)) hlt
          obtain ⟨b2, off2, rfl, d0, d1, d2⟩ := lk_at (hB.keep (k0.trans hK)) hlt2
          by_cases he : xs[k] = ys[k]
          · have He := Lib.hid he
            rw [← he] at d0 d1 d2
            clear he
            have hne := lk_ne_f xs[k]
            go_wp2_with fail
            go_quiet (fail)
            go_wp2_with fail
            go_roundw
            case rel =>
              refine ⟨k + 1, by omega, by go_num, fun j h1 h2 hj => ?_, hK.drewN _⟩
              by_cases hj' : j < k
              · exact hall.out j h1 h2 hj'
              · obtain rfl : j = k := by omega
                exact He.out
            case measure => simp [intOf]; omega
          · have hne := lk_ne_t he
            have He := Lib.hid (lks_ne_at hlt hlt2 he); clear he
            go_wp2_with fail
            go_quiet (fail)
            go_wp2_with fail
            go_ret
            exact ⟨by rw [H.out, He.out]; simp, k0.trans (hK.drewN _)⟩
        · obtain rfl : k = xs.length := by omega
          go_wp2
          go_ret
          exact ⟨by rw [H.out, lks_eq Hl.out (fun j h1 h2 => hall.out j h1 h2 h1)]; simp, k0.trans hK⟩
    · have hb : ((xs.length : Int) != (ys.length : Int)) = true := by simp; omega
      have Hl := Lib.hid (lks_ne_len hl); clear hl
      have hrr : (R != R) = false := by simp
      go_enter Try.func31, Try.ntmps31
      go_wp2
      go_ret
      exact ⟨by rw [H.out, Hl.out]; simp, ((Kp.refl _).alloc _).alloc _⟩
  · have h' : (R != S) = true := by simpa using h
    have h2 : (R == S) = false := by simpa using h
    clear h
    go_enter Try.func31, Try.ntmps31
    go_wp2
    go_ret
    exact ⟨by rw [H.out, h2]; simp, ((Kp.refl _).alloc _).alloc _⟩

set_option maxRecDepth 100000 in
set_option maxHeartbeats 1000000 in
theorem clone_any (b off c : Nat) (ls : List Lk) (w : World) (hR : Rd w 3 Lk.enc (some ⟨b, off, none⟩) ls) (hn : ls.length ≤ 30) :
    Calls Try.prog 55 #[.slice (some ⟨b, off, none⟩) ls.length c] w fun e w' => ∃ v, e = .returned v ∧ Own w' w.heap.size 54 3 Lk.enc v ls ∧ Kp w w' := by
  have hE : Own (w.alloc (.cells #[] 54)) w.heap.size 54 3 Lk.enc (.slice (some ⟨w.heap.size, 0, none⟩) 0 0) [] := Own.empty (Nat.le_refl _) (Blk.new w _ _)
  have hnil : ∀ w : World, (binOp .eql 22 (.slice (some ⟨b, off, none⟩) ls.length c) (.slice none 0 0)).run Try.prog w = .ok (.bool false) w := fun _ => by kernel_rfl
  go_enter Try.func55, Try.ntmps55
  go_wp2_with (at_builtin; go_loud (refine wpList_appl ELk Lk.len Lk.one rfl _ _ rfl rfl rfl hE (hR.keep ((Kp.refl _).alloc _)) (by simp; omega) (by simp) ?_; intro v' w1 hown hg hat; rw [List.nil_append] at hown; have hK1 : Kp w w1 := ((Kp.refl w).alloc _).grown hg (fun q hq => (World.ownsRow.lt hE q hq).1); clear hg hat hE; obtain ⟨A', c', rfl⟩ := hown.form))
  go_ret
  exact ⟨_, rfl, hown, hK1⟩
end Go.Proofs.Ytgnhhhcelfaliaa
