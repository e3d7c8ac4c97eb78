/- Layer 18's Dist: what a call returns. No condition but at most 30 links and 20 owners. -/
import Derived.Test.YtgnhhhcelfaliaaGraphN
namespace Go.Proofs.Ytgnhhhcelfaliaa
open Go.RowKit

def inR (R : Int) (o : Int) : Bool := decide (0 ≤ o ∧ o < R)
def ownersErr (R : Int) (ls : List Lk) (os : List Int) : Int := if right R ls then (if os.all (inR R) then 0 else 4) else 2
def put1 (d : List Int) (o : Int) : List Int := d.set o.toNat 1
def dStart (R : Int) (os : List Int) : List Int := os.foldl put1 (List.replicate R.toNat 16)
def distN (ls : List Lk) (d : List Int) : Nat → List Int
  | 0 => d
  | n + 1 => relaxAll ls (distN ls d n)
def dist (R : Int) (ls : List Lk) (os : List Int) : List Int := distN ls (dStart R os) R.toNat

theorem dStart_succ (R : Int) (os : List Int) (k : Nat) (hk : k < os.length) : dStart R (os.take (k + 1)) = put1 (dStart R (os.take k)) os[k] := by
  rw [take_snoc _ _ hk, dStart, List.foldl_append]; rfl
theorem put1_len (d : List Int) (o : Int) : (put1 d o).length = d.length := by simp [put1]
theorem dStart_len (R : Int) (os : List Int) : (dStart R os).length = R.toNat := by
  unfold dStart
  have : ∀ (os : List Int) (d : List Int), (os.foldl put1 d).length = d.length := by
    intro os
    induction os with
    | nil => intro d; rfl
    | cons o os ih => intro d; rw [List.foldl_cons, ih, put1_len]
  rw [this]; simp
theorem distN_len (ls : List Lk) (d : List Int) : ∀ n, (distN ls d n).length = d.length
  | 0 => rfl
  | n + 1 => by rw [distN, relaxAll_len, distN_len]
theorem dStart_fine (R : Int) (os : List Int) : Fine (dStart R os) := by
  unfold dStart
  have : ∀ (os : List Int) (d : List Int), Fine d → Fine (os.foldl put1 d) := by
    intro os
    induction os with
    | nil => intro d h; exact h
    | cons o os ih => intro d h; exact ih _ (fine_set h (by omega))
  refine this _ _ (fun i hi => ?_)
  simp
theorem distN_fine {ls : List Lk} {d : List Int} (hd : Fine d) (hl : ∀ l ∈ ls, l.A.toNat < d.length ∧ l.B.toNat < d.length) : ∀ n, Fine (distN ls d n)
  | 0 => hd
  | n + 1 => fine_all (distN_fine hd hl n) (fun l h => by rw [distN_len]; exact hl l h)
theorem dist_len (R : Int) (ls : List Lk) (os : List Int) : (dist R ls os).length = R.toNat := by rw [dist, distN_len, dStart_len]

theorem right_mem {R : Int} {ls : List Lk} (h : right R ls = true) : ∀ l ∈ ls, l.A.toNat < R.toNat ∧ l.B.toNat < R.toNat := by
  intro l hl
  obtain ⟨j, hj, rfl⟩ := List.getElem_of_mem hl
  have := right_link h hj
  omega

def DistPost (R : Int) (ls : List Lk) (os : List Int) (w : World) (e : Ending) (w' : World) : Prop :=
  ∃ v, e = .returned (.tuple #[v, .int .i64 (ownersErr R ls os)]) ∧ OwnI w' w.heap.size v (if ownersErr R ls os = 0 then dist R ls os else []) ∧ Kp w w'

theorem distPost_err {R : Int} {ls : List Lk} {os : List Int} {w w' : World} {e : Int} (h : ownersErr R ls os = e) (he : e ≠ 0) (hk : Kp w w') :
    DistPost R ls os w (.returned (.tuple #[.slice none 0 0, .int .i64 e])) w' :=
  ⟨.slice none 0 0, by rw [h], by rw [if_neg (by omega)]; exact Own.nil _ _ _ _ _, hk⟩

theorem own_fst {R : Int} {ls : List Lk} {os : List Int} (hr : right R ls = true) (h : ∀ j (hj : j < os.length), 0 ≤ os[j] ∧ os[j] < R) : ownersErr R ls os = 0 := by
  have : os.all (inR R) = true := by
    rw [List.all_eq_true]; intro x hx
    obtain ⟨j, hj, rfl⟩ := List.getElem_of_mem hx
    simpa [inR] using h j hj
  simp [ownersErr, hr, this]
theorem own_bad {R : Int} {ls : List Lk} {os : List Int} (hr : right R ls = true) {k : Nat} (hk : k < os.length) (h : ¬ (0 ≤ os[k] ∧ os[k] < R)) : ownersErr R ls os = 4 := by
  have : os.all (inR R) = false := by
    rw [List.all_eq_false]; exact ⟨os[k], List.getElem_mem hk, by simpa [inR] using h⟩
  simp [ownersErr, hr, this]

set_option maxRecDepth 100000 in
set_option maxHeartbeats 2000000 in
theorem gdist_no (R : Int) (A A2 : Option Addr) (c c2 : Nat) (ls : List Lk) (os : List Int) (w : World) (hR : Rd w 3 Lk.enc A ls) (hn : ls.length ≤ 30) (hr : right R ls = false) :
    Calls Try.prog 24 #[.agg #[.int .i64 R, .slice A ls.length c], .slice A2 os.length c2] w (DistPost R ls os w) := by
  have hmf := makeFunc_run
  have hK0 : Kp w (((w.alloc (.cells #[.int .i64 R, .slice A ls.length c] 24)).alloc (.cells #[.slice none 0 0] 27)).alloc (.cells #[.int .i64 0] 28)) := (((Kp.refl _).alloc _).alloc _).alloc _
  have H := Lib.hid hr; clear hr
  go_enter_defers Try.func24, Try.ntmps24
  go_wp2_with fail
  refine (may_any R A c ls _ (hR.keep hK0) hn).mono ?_
  rintro e w1 ⟨hy, hno, hK1⟩
  have hKw : Kp w w1 := hK0.trans hK1
  have B1 : Blk w1 (w.heap.size + 1) 27 #[.slice none 0 0] := ((Blk.new1 w _ _ _).alloc _).keep hK1
  have B2 : Blk w1 (w.heap.size + 1 + 1) 28 #[.int .i64 0] := (Blk.new2 w _ _ _ _).keep hK1
  obtain rfl := hno H.out
  refine leaves_cons (f := 47) (args := #[.pointer (some ⟨w.heap.size + 1, 0, none⟩), .pointer (some ⟨w.heap.size + 1 + 1, 0, none⟩)]) (by simp) (by simp [go_sem]) ?_
  refine (catch_dist _ _ _ _ 2 w1 (B1.cell 0) (B2.cell 0) (B1.frozen 0) (B2.frozen 0) (by omega)).mono ?_
  rintro e u' w2 ⟨rfl, rfl, c0, c1, hO⟩
  show Leaves _ _ _ _ [] .returning _
  exact ⟨.tuple #[.slice none 0 0, .int .i64 2], by simp [results, Try.results24, go_sem, c0, c1], distPost_err (by simp [ownersErr, H.out]) (by omega) (hO.kp hKw (by simp <;> omega))⟩

set_option maxRecDepth 100000 in
set_option maxHeartbeats 4000000 in
theorem gdist_yes (n : Nat) (A A2 : Option Addr) (c c2 : Nat) (ls : List Lk) (os : List Int) (w : World) (hR : Rd w 3 Lk.enc A ls) (hn : ls.length ≤ 30) (hO : Rd w 1 intE A2 os) (ho : os.length ≤ 20) (hr : right n ls = true) :
    Calls Try.prog 24 #[.agg #[.int .i64 n, .slice A ls.length c], .slice A2 os.length c2] w (DistPost n ls os w) := by
  have hmf := makeFunc_run
  have hK0 : Kp w (((w.alloc (.cells #[.int .i64 n, .slice A ls.length c] 24)).alloc (.cells #[.slice none 0 0] 27)).alloc (.cells #[.int .i64 0] 28)) := (((Kp.refl _).alloc _).alloc _).alloc _
  have h20 := right_20 hr
  have H := Lib.hid hr; clear hr
  go_enter_defers Try.func24, Try.ntmps24
  go_wp2_with fail
  refine (may_any n A c ls _ (hR.keep hK0) hn).mono ?_
  rintro e w1 ⟨hy, hno, hK1⟩
  have hKw : Kp w w1 := hK0.trans hK1
  have B0 : Blk w1 w.heap.size 24 #[.int .i64 n, .slice A ls.length c] := (((Blk.new w _ _).alloc _).alloc _).keep hK1
  have B1 : Blk w1 (w.heap.size + 1) 27 #[.slice none 0 0] := ((Blk.new1 w _ _ _).alloc _).keep hK1
  have B2 : Blk w1 (w.heap.size + 1 + 1) 28 #[.int .i64 0] := (Blk.new2 w _ _ _ _).keep hK1
  clear hK1 hK0
  obtain rfl := hy H.out
  clear hy hno
  have g0 : w1.cell? ⟨w.heap.size, 0, none⟩ = some (.int .i64 n) := B0.cell 0
  have g0' : ∀ o, (w1.alloc o).cell? ⟨w.heap.size, 0, none⟩ = some (.int .i64 n) := fun o => (B0.alloc o).cell 0
  go_wp2_with fail
  refine (repeat_n 16 n (by omega) (by omega) _ _ _ _ (by simp [go_sem])).mono ?_
  rintro e w2 ⟨g, cap, rfl, hg, hrow, hK2⟩
  simp at hg
  have hK12 : Kp w1 w2 := ((Kp.refl _).alloc _).trans hK2
  have hKz : Kp w w2 := hKw.trans hK12
  have C0 := B0.keep hK12
  have C1 := B1.keep hK12
  have C2 := B2.keep hK12
  have b2 := B2.lt
  have r1 : w2.cell? ⟨w.heap.size + 1, 0, none⟩ = some (.slice none 0 0) := C1.cell 0
  have z1 := C1.frozen 0
  clear g0 g0' B0 B1 B2 hK2 hK12
  go_wp2_with fail
  have start : ∃ w3, w2.setCell ⟨w.heap.size + 1, 0, none⟩ (.slice (some ⟨g, 0, none⟩) n cap) = w3 ∧ Blk w3 w.heap.size 24 #[.int .i64 n, .slice A ls.length c] ∧ Blk w3 (w.heap.size + 1) 27 #[.slice (some ⟨g, 0, none⟩) n cap] ∧ Blk w3 (w.heap.size + 1 + 1) 28 #[.int .i64 0] ∧ Row w3 g cap (List.replicate n 16) ∧ Kp w w3 :=
    ⟨_, rfl, C0.far (by simp) _, C1.set_ 0 _, C2.far (by simp) _, hrow.far (by simp; omega) _, hKz.setCell (by simp) _⟩
  obtain ⟨w3, hw3, D0, D1, D2, hrow3, hK3⟩ := start
  rw [hw3]
  clear hw3 C0 C1 C2 hrow hKz r1 z1 hKw
  go_loopw [19] (fun i wr => ∃ k : Nat, k ≤ os.length ∧ i = .int .i64 k ∧ Hid (∀ j (hj : j < os.length), j < k → 0 ≤ os[j] ∧ os[j] < (n : Int)) ∧ Row wr g cap (dStart n (os.take k)) ∧ Only [g] w3 wr) (fun i _ => os.length - (intOf i).toNat)
  case atStart => exact ⟨0, Nat.zero_le _, rfl, fun _ _ h => absurd h (by omega), by simpa [dStart] using hrow3, Only.refl _ _⟩
  case round =>
    obtain ⟨k, hk, rfl, hall, hr, hOn⟩ := hrel
    have hKr : Kp w wr := hOn.kp hK3 (by simp; omega)
    have E0 := D0.only hOn (by simp; omega)
    have E1 := D1.only hOn (by simp; omega)
    have E2 := D2.only hOn (by simp; omega)
    have g0 : wr.cell? ⟨w.heap.size, 0, none⟩ = some (.int .i64 n) := E0.cell 0
    have v1 : wr.cell? ⟨w.heap.size + 1, 0, none⟩ = some (.slice (some ⟨g, 0, none⟩) n cap) := E1.cell 0
    have hdl := dStart_len n (os.take k)
    by_cases hlt : k < os.length
    · obtain ⟨b, off, rfl, x0⟩ := int_at (hO.keep hKr) hlt
      by_cases hin : 0 ≤ os[k] ∧ os[k] < (n : Int)
      · obtain ⟨j, hj⟩ := Int.eq_ofNat_of_zero_le hin.1
        rw [hj] at x0
        have hjn : j < n := by omega
        have hjl : j < (dStart n (os.take k)).length := by rw [hdl]; simpa using hjn
        have y0 := hr.cell hjl
        have q0 := hr.frozen j
        have Hj := Lib.hid hj; clear hj
        have Hin := Lib.hid hin; clear hin
        have Hdl := Lib.hid hdl; clear hdl
        go_wp2_with fail
        refine (at_ok j n _ (by omega) (by omega)).mono ?_
        rintro e w4 ⟨rfl, rfl⟩
        go_wp2_with fail
        go_roundw
        case rel =>
          refine ⟨k + 1, by omega, by go_num, fun i hi hik => ?_, ?_, hOn.set1 (List.mem_singleton_self g) _ _⟩
          · by_cases hj' : i < k
            · exact hall.out i hi hj'
            · obtain rfl : i = k := by omega
              exact Hin.out
          · rw [dStart_succ n os k hlt, put1, Hj.out, Int.toNat_natCast]
            exact hr.set hjl 1
        case measure => simp [intOf]; omega
      · go_wp2_with fail
        refine (at_no _ n _ (by omega)).mono ?_
        rintro e w4 ⟨rfl, rfl⟩
        refine leaves_cons (f := 47) (args := #[.pointer (some ⟨w.heap.size + 1, 0, none⟩), .pointer (some ⟨w.heap.size + 1 + 1, 0, none⟩)]) (by simp) (by simp [go_sem]) ?_
        refine (catch_dist _ _ _ _ 4 wr (E1.cell 0) (E2.cell 0) (E1.frozen 0) (E2.frozen 0) (by omega)).mono ?_
        rintro e u' w5 ⟨rfl, rfl, c0, c1, hO5⟩
        show Leaves _ _ _ _ [] .returning _
        exact ⟨.tuple #[.slice none 0 0, .int .i64 4], by simp [results, Try.results24, go_sem, c0, c1], distPost_err (own_bad H.out hlt hin) (by omega) (hO5.kp hKr (by simp <;> omega))⟩
    · obtain rfl : k = os.length := by omega
      rw [List.take_length] at hr hdl
      have He := Lib.hid (own_fst H.out (fun j hj => hall.out j hj hj))
      clear hall
      go_wp2_with fail
      have hmem := right_mem H.out
      have Hmem := Lib.hid hmem; clear hmem
      obtain ⟨wo, hwo⟩ : ∃ wo : World, wo = wr := ⟨_, rfl⟩
      rw [← hwo]
      rw [← hwo] at hr E1 E0 E2 hKr
      clear hwo g0 v1 hOn
      go_loopw [33] (fun i wr => ∃ k : Nat, k ≤ n ∧ i = .int .i64 k ∧ Row wr g cap (distN ls (dStart n os) k) ∧ Blk wr (w.heap.size + 1) 27 #[.slice (some ⟨g, 0, none⟩) n cap] ∧ Only [g, w.heap.size + 1] wo wr) (fun i _ => n - (intOf i).toNat)
      case atStart => exact ⟨0, Nat.zero_le _, rfl, hr, E1, Only.refl _ _⟩
      case round =>
        obtain ⟨k, hk, rfl, hrk, F1, hO2⟩ := hrel
        have hK4 : Kp w wr := hO2.kp hKr (by simp; omega)
        have F0 := E0.only hO2 (by simp; omega)
        have F2 := E2.only hO2 (by simp; omega)
        have g1 : wr.cell? ⟨w.heap.size, 1, none⟩ = some (.slice A ls.length c) := F0.cell 1
        have v1 : wr.cell? ⟨w.heap.size + 1, 0, none⟩ = some (.slice (some ⟨g, 0, none⟩) n cap) := F1.cell 0
        have v2 : wr.cell? ⟨w.heap.size + 1 + 1, 0, none⟩ = some (.int .i64 0) := F2.cell 0
        have z1 := F1.frozen 0
        have z2 := F2.frozen 0
        have hlk : (distN ls (dStart n os) k).length = n := by rw [distN_len, hdl, Int.toNat_natCast]
        by_cases hlt2 : k < n
        · have hfin : Fine (distN ls (dStart n os) k) := distN_fine (dStart_fine _ _) (fun l hl => by rw [hdl]; exact Hmem.out l hl) k
          have hlinks : ∀ q (hq : q < ls.length), 0 ≤ ls[q].A ∧ ls[q].A < (distN ls (dStart n os) k).length ∧ 0 ≤ ls[q].B ∧ ls[q].B < (distN ls (dStart n os) k).length ∧ ls[q].A ≠ ls[q].B := fun q hq => by
            have := right_link H.out hq
            rw [hlk]; exact this
          have Hlk := Lib.hid hlk
          have Hlinks := Lib.hid hlinks; clear hlinks
          have hAg : ∀ a, A = some a → 0 < ls.length → a.block ≠ g := fun a ha h0 => by
            obtain ⟨b, off, e, _⟩ := hR 0 h0
            obtain ⟨b', off', e', x0, _⟩ := lk_at hR h0
            rw [e'] at ha
            injection ha with ha
            subst ha
            have hb := World.block_lt_of_cell? w _ x0
            have h3 := hK3.size
            have h4 := E2.lt
            simp at hb ⊢
            omega
          have HAg := Lib.hid hAg; clear hAg
          clear hlk
          go_wp2_with fail
          rw [← Hlk.out]
          refine (fold_any g cap _ A c ls _ (hR.keep hK4) HAg.out hrk hfin (by have := Hlk.out; omega) hn Hlinks.out).mono ?_
          rintro e w5 ⟨rfl, hr5, hO5⟩
          rw [Hlk.out]
          have G1 := F1.only hO5 (by simp; omega)
          have y1 : w5.cell? ⟨w.heap.size + 1, 0, none⟩ = some (.slice (some ⟨g, 0, none⟩) n cap) := G1.cell 0
          have y2 := G1.frozen 0
          go_wp2_with fail
          go_roundw
          case rel =>
            refine ⟨k + 1, by omega, by go_num, hr5.far (p := ⟨w.heap.size + 1, 0, none⟩) (by simp; omega) _, G1.set_ 0 _, ?_⟩
            have : Only [g, w.heap.size + 1] wr w5 := ⟨hO5.os, hO5.tape, hO5.output, hO5.size, fun q hq hn => hO5.block q hq (fun h => hn (by simp at h ⊢; exact .inl h))⟩
            exact (hO2.trans this).set1 (by simp) _ _
          case measure => simp [intOf]; omega
        · obtain rfl : k = n := by omega
          go_wp2_with fail
          refine leaves_cons (f := 47) (args := #[.pointer (some ⟨w.heap.size + 1, 0, none⟩), .pointer (some ⟨w.heap.size + 1 + 1, 0, none⟩)]) (by simp) (by simp [go_sem]) ?_
          refine (idle_dist _ _ _).mono ?_
          rintro e u' w6 ⟨rfl, rfl, hK6⟩
          have K1 := ((F1.set_ 0 (.slice (some ⟨g, 0, none⟩) k cap)).far (p := ⟨w.heap.size + 1 + 1, 0, none⟩) (by simp) (.int .i64 0)).keep hK6
          have K2 := ((F2.far (p := ⟨w.heap.size + 1, 0, none⟩) (by simp) (.slice (some ⟨g, 0, none⟩) k cap)).set_ 0 (.int .i64 0)).keep hK6
          have K3 := ((hrk.far (p := ⟨w.heap.size + 1, 0, none⟩) (by simp; omega) (.slice (some ⟨g, 0, none⟩) k cap)).far (p := ⟨w.heap.size + 1 + 1, 0, none⟩) (by simp; omega) (.int .i64 0)).keep hK6
          have y1 : w6.cell? ⟨w.heap.size + 1, 0, none⟩ = some (.slice (some ⟨g, 0, none⟩) k cap) := K1.cell 0
          have y2 : w6.cell? ⟨w.heap.size + 1 + 1, 0, none⟩ = some (.int .i64 0) := K2.cell 0
          show Leaves _ _ _ _ [] .returning _
          refine ⟨.tuple #[.slice (some ⟨g, 0, none⟩) k cap, .int .i64 0], by simp [results, Try.results24, go_sem, y1, y2], .slice (some ⟨g, 0, none⟩) k cap, by rw [He.out], ?_, ((hK4.setCell (by simp) _).setCell (by simp <;> omega) _).trans hK6⟩
          rw [if_pos He.out]
          have := K3.own (base := w.heap.size) (by omega)
          rw [hlk] at this
          exact this

theorem gdist_any (R : Int) (A A2 : Option Addr) (c c2 : Nat) (ls : List Lk) (os : List Int) (w : World) (hR : Rd w 3 Lk.enc A ls) (hn : ls.length ≤ 30) (hO : Rd w 1 intE A2 os) (ho : os.length ≤ 20) :
    Calls Try.prog 24 #[.agg #[.int .i64 R, .slice A ls.length c], .slice A2 os.length c2] w (DistPost R ls os w) := by
  cases hr : right R ls with
  | false => exact gdist_no R A A2 c c2 ls os w hR hn hr
  | true =>
    have h20 := right_20 hr
    obtain ⟨n, rfl⟩ := Int.eq_ofNat_of_zero_le (show 0 ≤ R by omega)
    exact gdist_yes n A A2 c c2 ls os w hR hn hO ho hr
end Go.Proofs.Ytgnhhhcelfaliaa
