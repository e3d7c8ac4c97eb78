/- Layer 18's distances: one link's step, and a fold over all links. -/
import Derived.Test.YtgnhhhcelfaliaaGraphK
namespace Go.Proofs.Ytgnhhhcelfaliaa
open Go.RowKit

/-- A row of ints at the head of a block of its own. -/
def Row (w : World) (g cap : Nat) (d : List Int) : Prop := ∃ cur, Blk w g 3 cur ∧ cur.size = cap ∧ d.length ≤ cap ∧ cap ≤ maxLen ∧ cur.toList.take d.length = d.map (Value.int .i64)

theorem flatI (d : List Int) : d.flatMap intE = d.map (Value.int .i64) := by induction d <;> simp_all [intE]
theorem Only.set1 {bs : List Nat} {a w : World} (h : Only bs a w) {g : Nat} (hg : g ∈ bs) (i : Nat) (u : Value) : Only bs a (w.setCell ⟨g, i, none⟩ u) := h.setCell (p := ⟨g, i, none⟩) (.inl hg) u

section
variable {w w' : World} {g cap : Nat} {d : List Int}
theorem Row.lt (h : Row w g cap d) : g < w.heap.size := by obtain ⟨_, hb, _⟩ := h; exact hb.lt
theorem Row.frozen (h : Row w g cap d) (i : Nat) : w.frozen? ⟨g, i, none⟩ = false := by obtain ⟨_, hb, _⟩ := h; exact hb.frozen i
theorem Row.cell (h : Row w g cap d) {i : Nat} (hi : i < d.length) : w.cell? ⟨g, i, none⟩ = some (.int .i64 d[i]) := by
  obtain ⟨cur, hb, hs, hl, _, ht⟩ := h
  rw [hb.cell i]
  have h1 : (cur.toList.take d.length)[i]? = some (.int .i64 d[i]) := by rw [ht]; simp [hi]
  rw [List.getElem?_take_of_lt hi] at h1
  simpa using h1
theorem Row.keep (h : Row w g cap d) (k : Kp w w') : Row w' g cap d := by obtain ⟨cur, hb, r⟩ := h; exact ⟨cur, hb.keep k, r⟩
theorem Row.alloc (h : Row w g cap d) (o : Obj) : Row (w.alloc o) g cap d := h.keep ((Kp.refl w).alloc o)
theorem Row.drew (h : Row w g cap d) : Row w.drew g cap d := h
theorem Row.drewN (h : Row w g cap d) (n : Nat) : Row (w.drewN n) g cap d := h
theorem Row.only {bs : List Nat} (h : Row w g cap d) (k : Only bs w w') (hn : g ∉ bs) : Row w' g cap d := by obtain ⟨cur, hb, r⟩ := h; exact ⟨cur, hb.only k hn, r⟩
theorem Row.far (h : Row w g cap d) {p : Addr} (hp : g ≠ p.block) (u : Value) : Row (w.setCell p u) g cap d := by obtain ⟨cur, hb, r⟩ := h; exact ⟨cur, hb.far hp u, r⟩
theorem Row.set (h : Row w g cap d) {i : Nat} (hi : i < d.length) (x : Int) : Row (w.setCell ⟨g, i, none⟩ (.int .i64 x)) g cap (d.set i x) := by
  obtain ⟨cur, hb, hs, hl, hm, ht⟩ := h
  refine ⟨_, hb.set_ i _, by simpa using hs, by simpa using hl, hm, ?_⟩
  rw [List.length_set, Array.toList_setIfInBounds, List.take_set, ht, List.map_set]
theorem Row.own (h : Row w g cap d) {base : Nat} (hb : base ≤ g) : Own w base 3 1 intE (.slice (some ⟨g, 0, none⟩) d.length cap) d := by
  obtain ⟨cur, hk, hs, hl, hm, ht⟩ := h
  have hf := flatI d
  refine ⟨by rw [hf]; simp, .inr ⟨g, cap, cur, rfl, hb, hk, hl, hm, by omega, ?_⟩⟩
  rw [hf, Nat.mul_one, ht]
end

theorem Own.row {w : World} {base : Nat} {v : Value} {d : List Int} (h : Own w base 3 1 intE v d) (hd : 0 < d.length) : ∃ g cap, v = .slice (some ⟨g, 0, none⟩) d.length cap ∧ base ≤ g ∧ Row w g cap d := by
  have hf := flatI d
  rcases h.2 with ⟨_, h0⟩ | ⟨g, cap, cur, hv, hb, hg, hn, hm, hs, ht⟩
  · omega
  · exact ⟨g, cap, hv, hb, cur, hg, by omega, hn, hm, by rw [Nat.mul_one] at ht; rw [ht, hf]⟩

def relax (d : List Int) (l : Lk) : List Int :=
  if l.Up then
    let d1 := d.set l.A.toNat (min (d.getD l.A.toNat 0) (d.getD l.B.toNat 0 + 1))
    d1.set l.B.toNat (min (d1.getD l.B.toNat 0) (d1.getD l.A.toNat 0 + 1))
  else d
theorem relax_len (d : List Int) (l : Lk) : (relax d l).length = d.length := by unfold relax; split <;> simp
def Fine (d : List Int) : Prop := ∀ i (h : i < d.length), 1 ≤ d[i] ∧ d[i] ≤ 16
theorem fine_set {d : List Int} (h : Fine d) {k : Nat} {x : Int} (hx : 1 ≤ x ∧ x ≤ 16) : Fine (d.set k x) := by
  intro i hi
  rw [List.getElem_set]
  split
  · exact hx
  · exact h i (by simpa using hi)
theorem fine_relax {d : List Int} (h : Fine d) {l : Lk} (hA : l.A.toNat < d.length) (hB : l.B.toNat < d.length) : Fine (relax d l) := by
  unfold relax
  split
  · have hx := h _ hA
    have hy := h _ hB
    have e1 : d.getD l.A.toNat 0 = d[l.A.toNat] := by simp [List.getD, hA]
    have e2 : d.getD l.B.toNat 0 = d[l.B.toNat] := by simp [List.getD, hB]
    have h1 : Fine (d.set l.A.toNat (min (d.getD l.A.toNat 0) (d.getD l.B.toNat 0 + 1))) := fine_set h (by rw [e1, e2]; omega)
    simp only
    generalize d.set l.A.toNat (min (d.getD l.A.toNat 0) (d.getD l.B.toNat 0 + 1)) = d1 at h1
    by_cases hb1 : l.B.toNat < d1.length
    · by_cases ha1 : l.A.toNat < d1.length
      · have k1 := h1 _ hb1
        have k2 := h1 _ ha1
        have e3 : d1.getD l.B.toNat 0 = d1[l.B.toNat] := by simp [List.getD, hb1]
        have e4 : d1.getD l.A.toNat 0 = d1[l.A.toNat] := by simp [List.getD, ha1]
        exact fine_set h1 (by rw [e3, e4]; omega)
      · have k1 := h1 _ hb1
        have e3 : d1.getD l.B.toNat 0 = d1[l.B.toNat] := by simp [List.getD, hb1]
        have e4 : d1.getD l.A.toNat 0 = 0 := by simp [List.getD, List.getElem?_eq_none (Nat.not_lt.1 ha1)]
        exact fine_set h1 (by rw [e3, e4]; omega)
    · rw [List.set_eq_of_length_le (Nat.not_lt.1 hb1)]; exact h1
  · exact h

theorem relax_up {d : List Int} {l : Lk} {a b : Nat} (hA : l.A = (a : Int)) (hB : l.B = (b : Int)) (hu : l.Up = true) (ha : a < d.length) (hb : b < d.length) (hab : ¬ a = b) :
    relax d l = (d.set a (min d[a] (d[b] + 1))).set b (min d[b] (min d[a] (d[b] + 1) + 1)) := by
  unfold relax
  rw [if_pos hu, hA, hB]
  simp only [Int.toNat_natCast, List.getD]
  rw [List.getElem?_eq_getElem ha, List.getElem?_eq_getElem hb]
  simp only [Option.getD_some]
  rw [List.getElem?_set_ne hab, List.getElem?_eq_getElem hb, List.getElem?_set_self ha]
  simp

set_option maxRecDepth 100000 in
set_option maxHeartbeats 2000000 in
theorem nearer_any (g cap : Nat) (d : List Int) (l : Lk) (w : World) (hrow : Row w g cap d) (hf : Fine d) (hn : d.length ≤ 30) (hA : 0 ≤ l.A ∧ l.A < d.length) (hB : 0 ≤ l.B ∧ l.B < d.length) (hab : l.A ≠ l.B) :
    Calls Try.prog 49 #[.slice (some ⟨g, 0, none⟩) d.length cap, .agg #[.int .i64 l.A, .int .i64 l.B, .bool l.Up]] w fun e w' => e = .returned (.slice (some ⟨g, 0, none⟩) d.length cap) ∧ Row w' g cap (relax d l) ∧ Only [g] w w' := by
  cases hu : l.Up with
  | false =>
    have H := Lib.hid (show relax d l = d by simp [relax, hu]); clear hu
    go_enter Try.func49, Try.ntmps49
    go_wp2_with fail
    go_ret
    exact ⟨rfl, by rw [H.out]; exact hrow.alloc _, (Only.refl _ _).alloc _⟩
  | true =>
    obtain ⟨a, ha⟩ := Int.eq_ofNat_of_zero_le hA.1
    obtain ⟨b, hb⟩ := Int.eq_ofNat_of_zero_le hB.1
    have ha' : a < d.length := by omega
    have hb' : b < d.length := by omega
    have hne : ¬ a = b := by omega
    have H := Lib.hid (relax_up ha hb hu ha' hb' hne)
    have h0 := hrow.cell ha'
    have h1 := hrow.cell hb'
    have z0 := hrow.frozen a
    have z1 := hrow.frozen b
    have hx := hf a ha'
    have hy := hf b hb'
    have hlt := hrow.lt
    rw [ha, hb]
    clear hA hB hab hu ha hb
    generalize hdx : d[a] = x at *
    generalize hdy : d[b] = y at *
    clear hdx hdy
    generalize hdn : d.length = n at *
    have Hn := Lib.hid hdn; clear hdn
    have hg : ¬ g = w.heap.size := by omega
    have hgs : ¬ w.heap.size = g := by omega
    have hba : ¬ b = a := fun h => hne h.symm
    have k0 : ∀ o, (w.alloc o).cell? ⟨g, a, none⟩ = some (.int .i64 x) := fun o => ((Kp.refl w).alloc o).cell h0
    have k1 : ∀ o, (w.alloc o).cell? ⟨g, b, none⟩ = some (.int .i64 y) := fun o => ((Kp.refl w).alloc o).cell h1
    have q0 : ∀ o, (w.alloc o).frozen? ⟨g, a, none⟩ = false := fun o => (((Kp.refl w).alloc o).frozen h0).trans z0
    have q1 : ∀ o, (w.alloc o).frozen? ⟨g, b, none⟩ = false := fun o => (((Kp.refl w).alloc o).frozen h1).trans z1
    go_enter Try.func49, Try.ntmps49
    go_wp2_with fail
    go_region
    have Hm := Lib.hid (show (if y + 1 < x then y + 1 else x) = min x (y + 1) by omega)
    have hm0 : 0 ≤ (if y + 1 < x then y + 1 else x) ∧ (if y + 1 < x then y + 1 else x) ≤ 1000 := by omega
    generalize (if y + 1 < x then y + 1 else x) = m at *
    go_wp2_with fail
    go_region
    have Hk := Lib.hid (show (if m + 1 < y then m + 1 else y) = min y (m + 1) by omega)
    generalize (if m + 1 < y then m + 1 else y) = m' at *
    go_wp2_with fail
    go_ret
    refine ⟨rfl, ?_, ((((Only.refl [g] _).set1 (List.mem_singleton_self g) _ _).set1 (List.mem_singleton_self g) _ _).alloc _).drew.drew⟩
    have e1 := Hn.out
    have r1 := hrow.set (i := a) (by omega) m
    have r2 := r1.set (i := b) (by simp; omega) m'
    rw [H.out, ← Hm.out, ← Hk.out]
    exact (r2.alloc _).drew.drew

def relaxAll (ls : List Lk) (d : List Int) : List Int := ls.foldl relax d
theorem relaxTo_succ (ls : List Lk) (d : List Int) (k : Nat) (hk : k < ls.length) : relaxAll (ls.take (k + 1)) d = relax (relaxAll (ls.take k) d) ls[k] := by
  rw [take_snoc _ _ hk, relaxAll, List.foldl_append]; rfl
theorem relaxAll_len (ls : List Lk) : ∀ d, (relaxAll ls d).length = d.length := by
  induction ls with
  | nil => intro d; rfl
  | cons l ls ih => intro d; show (relaxAll ls (relax d l)).length = _; rw [ih, relax_len]
theorem fine_all {ls : List Lk} : ∀ {d : List Int}, Fine d → (∀ l ∈ ls, l.A.toNat < d.length ∧ l.B.toNat < d.length) → Fine (relaxAll ls d) := by
  induction ls with
  | nil => intro d h _; exact h
  | cons l ls ih =>
    intro d h hl
    have h1 := hl l (by simp)
    show Fine (relaxAll ls (relax d l))
    exact ih (fine_relax h h1.1 h1.2) (fun m hm => by rw [relax_len]; exact hl m (by simp [hm]))

set_option maxRecDepth 100000 in
set_option maxHeartbeats 1000000 in
theorem fold_any (g cap : Nat) (d : List Int) (A : Option Addr) (c : Nat) (ls : List Lk) (w : World) (hR : Rd w 3 Lk.enc A ls) (hAg : ∀ a, A = some a → 0 < ls.length → a.block ≠ g) (hrow : Row w g cap d) (hf : Fine d) (hn : d.length ≤ 30) (hl : ls.length ≤ 30)
    (hok : ∀ k (hk : k < ls.length), 0 ≤ ls[k].A ∧ ls[k].A < d.length ∧ 0 ≤ ls[k].B ∧ ls[k].B < d.length ∧ ls[k].A ≠ ls[k].B) :
    Calls Try.prog 50 #[.slice (some ⟨g, 0, none⟩) d.length cap, .func (.func 49) #[] #[], .slice A ls.length c] w fun e w' => e = .returned (.slice (some ⟨g, 0, none⟩) d.length cap) ∧ Row w' g cap (relaxAll ls d) ∧ Only [g] w w' := by
  have Hok := Lib.hid hok; clear hok
  have HAg := Lib.hid hAg; clear hAg
  go_enter Try.func50, Try.ntmps50
  go_wp2_with fail
  go_loopw [0, 11] (fun v i wr => ∃ k : Nat, k ≤ ls.length ∧ i = .int .i64 k ∧ v = .slice (some ⟨g, 0, none⟩) d.length cap ∧ Row wr g cap (relaxAll (ls.take k) d) ∧ Only [g] w wr) (fun _ i _ => ls.length - (intOf i).toNat)
  case atStart => exact ⟨0, Nat.zero_le _, rfl, rfl, hrow, Only.refl _ _⟩
  case round =>
    obtain ⟨k, hk, rfl, rfl, hr, hO⟩ := hrel
    by_cases hlt : k < ls.length
    · obtain ⟨b, off, rfl, c0, c1, c2⟩ := lk_at hR hlt
      have hbg : b ≠ g := HAg.out _ rfl (by omega)
      have hbn : b ∉ [g] := by simpa using hbg
      have d0 := hO.cell c0 hbn
      have d1 := hO.cell c1 hbn
      have d2 := hO.cell c2 hbn
      clear c0 c1 c2
      have hlen := relaxAll_len (ls.take k) d
      have hfk : Fine (relaxAll (ls.take k) d) := fine_all hf (fun l hl' => by
        obtain ⟨j, hj, rfl⟩ := List.getElem_of_mem (List.mem_of_mem_take hl')
        have := Hok.out j hj
        omega)
      have hokk := Hok.out k hlt
      have Hlen := Lib.hid hlen
      go_wp2_with fail
      rw [← hlen]
      refine (nearer_any g cap (relaxAll (ls.take k) d) ls[k] _ (hr.alloc _) hfk (by omega) (by omega) (by omega) (by omega)).mono ?_
      rintro e w1 ⟨rfl, hr1, hO1⟩
      rw [hlen]
      clear hlen
      rw [← relaxTo_succ ls d k hlt] at hr1
      go_wp2_with fail
      go_roundw
      case rel => exact ⟨k + 1, by omega, by go_num, rfl, hr1, (hO.alloc _).trans hO1⟩
      case measure => simp [intOf]; omega
    · obtain rfl : k = ls.length := by omega
      rw [List.take_length] at hr
      go_wp2_with fail
      go_ret
      exact ⟨rfl, hr, hO⟩
end Go.Proofs.Ytgnhhhcelfaliaa
