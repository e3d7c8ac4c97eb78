/- GraphHolds: whatever graph, owners, one more and link: the law returns true, and what was there stands. -/
import Derived.Test.YtgnhhhcelfaliaaGraph2
import Derived.Test.YtgnhhhcelfaliaaGraphR
import Derived.Test.YtgnhhhcelfaliaaDistLaw
import Derived.Deep.RegionLaw
import Derived.Deep.CutBlock
namespace Go.Proofs.Ytgnhhhcelfaliaa
open Go.RowKit

theorem intE_one (x : Int) : ∀ u ∈ intE x, u.oneCell' = true := by
  intro u hu
  simp only [intE, List.mem_cons, List.not_mem_nil, or_false] at hu
  subst hu; rfl

theorem gdist_q (R : Int) (A A2 : Option Addr) (c c2 : Nat) (ls : List Lk) (os : List Int) (w : World) (q : Nat) (hq : q = os.length) (hR : Rd w 3 Lk.enc A ls) (hn : ls.length ≤ 30) (hO : Rd w 1 intE A2 os) (ho : os.length ≤ 20) :
    Calls Try.prog 24 #[.agg #[.int .i64 R, .slice A ls.length c], .slice A2 q c2] w (DistPost R ls os w) := by
  subst hq; exact gdist_any R A A2 c c2 ls os w hR hn hO ho
abbrev holdsArgs (R m k : Int) (A A2 : Option Addr) (c c2 : Nat) (ls : List Lk) (os : List Int) : Array Value := #[.agg #[.int .i64 R, .slice A ls.length c], .slice A2 os.length c2, .int .i64 m, .int .i64 k]

theorem own_app {n : Nat} {ls : List Lk} {os : List Int} {m : Int} (hr : right n ls = true) (h : ∀ j (hj : j < os.length), 0 ≤ os[j] ∧ os[j] < (n : Int)) (h0 : 0 ≤ m) (h1 : m < n) : ownersErr n ls (os ++ [m]) = 0 := by
  refine own_fst hr (fun j hj => ?_)
  by_cases hjl : j < os.length
  · rw [List.getElem_append_left hjl]; exact h j hjl
  · rw [List.getElem_append_right (by omega)]; simp; omega

/-- Which of twenty routers own. -/
def oneA (os : List Int) : Array Value := ((List.range 20).map (fun v : Nat => Value.bool (os.contains (v : Int)))).toArray
theorem oneA_at (os : List Int) {v : Nat} (h : v < 20) : (oneA os)[v]? = some (.bool (os.contains (v : Int))) := by
  unfold oneA
  simp [h]
theorem oneA_set (os : List Int) (j : Nat) : (oneA os).setIfInBounds j (.bool true) = oneA (os ++ [(j : Int)]) := by
  apply Array.ext
  · simp [oneA]
  · intro i h1 h2
    have hi : i < 20 := by simpa [oneA] using h1
    have e1 := oneA_at os hi
    have e2 := oneA_at (os ++ [(j : Int)]) hi
    rw [Array.getElem?_eq_getElem (by simpa [oneA] using hi)] at e1 e2
    injection e1 with e1
    injection e2 with e2
    rw [e2, Array.getElem_setIfInBounds (by simpa [oneA] using hi)]
    by_cases hij : j = i
    · subst hij; simp
    · rw [if_neg hij, e1]
      congr 1
      simp
      omega
theorem oneA_nil : oneA [] = #[.bool false, .bool false, .bool false, .bool false, .bool false, .bool false, .bool false, .bool false, .bool false, .bool false, .bool false, .bool false, .bool false, .bool false, .bool false, .bool false, .bool false, .bool false, .bool false, .bool false] := by rfl

/-- The least distance of neighbours over the first links. -/
def leastTo (ls : List Lk) (d : List Int) (r : Int) : Nat → Int
  | 0 => 15
  | k + 1 => match ls[k]? with
    | some l => if l.Up && l.has r then min (leastTo ls d r k) (at16 d (l.A + l.B - r).toNat) else leastTo ls d r k
    | none => leastTo ls d r k
theorem leastTo_yes {ls : List Lk} {d : List Int} {r : Int} {k : Nat} (hk : k < ls.length) (hu : ls[k].Up = true) (hh : ls[k].has r = true) : leastTo ls d r (k + 1) = min (leastTo ls d r k) (at16 d (ls[k].A + ls[k].B - r).toNat) := by
  simp [leastTo, List.getElem?_eq_getElem hk, hu, hh]
theorem leastTo_no {ls : List Lk} {d : List Int} {r : Int} {k : Nat} (hk : k < ls.length) (h : (ls[k].Up && ls[k].has r) = false) : leastTo ls d r (k + 1) = leastTo ls d r k := by
  simp [leastTo, List.getElem?_eq_getElem hk, h]
theorem leastTo_le {ls : List Lk} {d : List Int} {r : Int} : ∀ k, leastTo ls d r k ≤ 15
  | 0 => by simp [leastTo]
  | k + 1 => by
    have := leastTo_le (ls := ls) (d := d) (r := r) k
    unfold leastTo
    split
    · split <;> omega
    · exact this
theorem leastTo_ge {ls : List Lk} {d : List Int} {r : Int} (hd : ∀ v, 1 ≤ at16 d v) : ∀ k, 1 ≤ leastTo ls d r k
  | 0 => by simp [leastTo]
  | k + 1 => by
    have := leastTo_ge (ls := ls) (r := r) hd k
    unfold leastTo
    split
    · rename_i l _
      have h2 := hd (l.A + l.B - r).toNat
      split <;> omega
    · exact this
theorem other_of {l : Lk} {n r : Nat} (hl : LkOk n l) (hh : l.has r = true) : ∃ u : Nat, l.A + l.B - (r : Int) = (u : Int) ∧ u < n ∧ ((l.A = (u : Int) ∧ l.B = (r : Int)) ∨ (l.A = (r : Int) ∧ l.B = (u : Int))) := by
  have h1 := hl.a0
  have h2 := hl.a1
  have h3 := hl.b0
  have h4 := hl.b1
  have h5 : l.A = (r : Int) ∨ l.B = (r : Int) := by simpa [Lk.has] using hh
  rcases h5 with h | h
  · exact ⟨l.B.toNat, by omega, by omega, .inr ⟨h, by omega⟩⟩
  · exact ⟨l.A.toNat, by omega, by omega, .inl ⟨by omega, h⟩⟩
theorem leastTo_mem {ls : List Lk} {d : List Int} {n r : Nat} (hl : ∀ l ∈ ls, LkOk n l) : ∀ k, k ≤ ls.length → leastTo ls d r k = 15 ∨ ∃ u, Edge ls u r ∧ leastTo ls d r k = at16 d u
  | 0, _ => .inl rfl
  | k + 1, hk => by
    have ih := leastTo_mem (d := d) (r := r) hl k (by omega)
    by_cases h : (ls[k].Up && ls[k].has r) = true
    · simp only [Bool.and_eq_true] at h
      rw [leastTo_yes (by omega) h.1 h.2]
      obtain ⟨u, hu, hun, hor⟩ := other_of (hl ls[k] (List.getElem_mem _)) h.2
      rw [hu, Int.toNat_natCast]
      by_cases hc : leastTo ls d r k ≤ at16 d u
      · rw [show min (leastTo ls d r k) (at16 d u) = leastTo ls d r k by omega]; exact ih
      · exact .inr ⟨u, ⟨ls[k], List.getElem_mem _, h.1, hor⟩, by omega⟩
    · rw [leastTo_no (by omega) (by simpa using h)]; exact ih
theorem leastTo_all {ls : List Lk} {d : List Int} {n r : Nat} (hl : ∀ l ∈ ls, LkOk n l) : ∀ k, k ≤ ls.length → ∀ j (hj : j < k) (hjl : j < ls.length), ls[j].Up = true → ls[j].has r = true → leastTo ls d r k ≤ at16 d (ls[j].A + ls[j].B - r).toNat
  | 0, _, j, hj, _, _, _ => by omega
  | k + 1, hk, j, hj, hjl, hu, hh => by
    by_cases h : (ls[k].Up && ls[k].has r) = true
    · simp only [Bool.and_eq_true] at h
      rw [leastTo_yes (by omega) h.1 h.2]
      by_cases e : j = k
      · subst e; omega
      · have := leastTo_all hl k (by omega) j (by omega) hjl hu hh (d := d); omega
    · rw [leastTo_no (by omega) (by simpa using h)]
      by_cases e : j = k
      · subst e; simp [hu, hh] at h
      · exact leastTo_all hl k (by omega) j (by omega) hjl hu hh
theorem right_ok {n : Nat} {ls : List Lk} (hr : right n ls = true) : ∀ l ∈ ls, LkOk n l := by
  intro l hl
  obtain ⟨j, hj, rfl⟩ := List.getElem_of_mem hl
  have := right_link hr hj
  exact ⟨by omega, by omega, by omega, by omega, by omega⟩
theorem os_ok {n : Nat} {os : List Int} (h : ∀ j (hj : j < os.length), 0 ≤ os[j] ∧ os[j] < (n : Int)) : ∀ o ∈ os, 0 ≤ o ∧ o < (n : Int) := by
  intro o ho
  obtain ⟨j, hj, rfl⟩ := List.getElem_of_mem ho
  exact h j hj
/-- The stage's theorem, of the plain distances: 1 just of owners, else one more than the least of neighbours. -/
theorem dist_law {n : Nat} {ls : List Lk} {os : List Int} (hl : ∀ l ∈ ls, LkOk n l) (ho : ∀ o ∈ os, 0 ≤ o ∧ o < (n : Int)) (r : Nat) (h : (r : Int) ∉ os) : at16 (dist n ls os) r = leastTo ls (dist n ls os) r ls.length + 1 := by
  have hg := dist_good hl ho r
  have h1 : at16 (dist n ls os) r ≤ leastTo ls (dist n ls os) r ls.length + 1 := by
    rcases leastTo_mem (d := dist n ls os) (r := r) hl ls.length (Nat.le_refl _) with h15 | ⟨u, e, hu⟩
    · omega
    · have := dist_edge hl ho e; omega
  have h2 : leastTo ls (dist n ls os) r ls.length + 1 ≤ at16 (dist n ls os) r := by
    by_cases h16 : at16 (dist n ls os) r < 16
    · obtain ⟨u, ⟨l, hm, hu, hor⟩, hle⟩ := dist_from hl ho h h16
      obtain ⟨j, hj, rfl⟩ := List.getElem_of_mem hm
      have hh : ls[j].has r = true := by
        rcases hor with ⟨_, hb⟩ | ⟨ha, _⟩
        · simp [Lk.has, hb]
        · simp [Lk.has, ha]
      have := leastTo_all (d := dist n ls os) (r := r) hl ls.length (Nat.le_refl _) j hj hj hu hh
      have e : (ls[j].A + ls[j].B - (r : Int)).toNat = u := by rcases hor with ⟨ha, hb⟩ | ⟨ha, hb⟩ <;> omega
      rw [e] at this
      omega
    · have := leastTo_le (ls := ls) (d := dist n ls os) (r := r) ls.length; omega
  omega

theorem setUp_at (ls : List Lk) (j : Nat) (up : Bool) (i : Nat) (hi : i < (setUp ls j up).length) (hi' : i < ls.length) : (setUp ls j up)[i].A = ls[i].A ∧ (setUp ls j up)[i].B = ls[i].B ∧ (setUp ls j up)[i].Up = if i = j then up else ls[i].Up := by
  have key : (setUp ls j up)[i] = if j = i then { ls.getD j ⟨0, 0, false⟩ with Up := up } else ls[i] := by unfold setUp; exact List.getElem_set ..
  rw [key]
  by_cases h : j = i
  · subst h; simp [List.getD, hi']
  · rw [if_neg h]; simp [show ¬ i = j from fun e => h e.symm]
def ab (l : Lk) : Int × Int := (l.A, l.B)
theorem setUp_ab (ls : List Lk) (j : Nat) (up : Bool) : (setUp ls j up).map ab = ls.map ab := by
  apply List.ext_getElem
  · simp [setUp_len]
  · intro i h1 h2
    have hi : i < (setUp ls j up).length := by simpa using h1
    have hi' : i < ls.length := by simpa using h2
    obtain ⟨ha, hb, _⟩ := setUp_at ls j up i hi hi'
    simp [ab, ha, hb]
theorem links_congr (R : Int) : ∀ (ls ls' : List Lk), ls.map ab = ls'.map ab → ls.all (Lk.ok R) = ls'.all (Lk.ok R)
  | [], [], _ => rfl
  | [], _ :: _, h => by simp at h
  | _ :: _, [], h => by simp at h
  | l :: ls, l' :: ls', h => by
    simp only [List.map_cons, List.cons.injEq] at h
    have e : l.A = l'.A ∧ l.B = l'.B := by simpa [ab] using h.1
    rw [List.all_cons, List.all_cons, links_congr R ls ls' h.2]
    simp [Lk.ok, e.1, e.2]
theorem faces_congr {ls ls' : List Lk} (h : ls.map ab = ls'.map ab) (r : Int) : ∀ k, facesTo ls r k = facesTo ls' r k
  | 0 => rfl
  | k + 1 => by
    have e : ∀ l : List Lk, (l[k]?).map (·.has r) = ((l.map ab)[k]?).map (fun p => p.1 == r || p.2 == r) := fun l => by
      rw [List.getElem?_map, Option.map_map]; rfl
    unfold facesTo
    rw [faces_congr h r k, e ls, e ls', h]
theorem right_congr {R : Int} {ls ls' : List Lk} (h : ls.map ab = ls'.map ab) : right R ls = right R ls' := by
  have hl : ls.length = ls'.length := by have := congrArg List.length h; simpa using this
  have hf : facesOk R ls = facesOk R ls' := by
    unfold facesOk faces
    congr 1
    funext r
    rw [faces_congr h, hl]
  unfold right linksOk
  rw [hf, hl, links_congr R ls ls' h]
theorem setUp_ok {n : Nat} {ls : List Lk} (hl : ∀ l ∈ ls, LkOk n l) (j : Nat) : ∀ l ∈ setUp ls j false, LkOk n l := by
  intro l hm
  obtain ⟨i, hi, rfl⟩ := List.getElem_of_mem hm
  have hi' : i < ls.length := by rw [setUp_len] at hi; exact hi
  obtain ⟨ha, hb, _⟩ := setUp_at ls j false i hi hi'
  have := hl _ (List.getElem_mem hi')
  exact ⟨by rw [ha]; exact this.a0, by rw [ha]; exact this.a1, by rw [hb]; exact this.b0, by rw [hb]; exact this.b1, by rw [ha, hb]; exact this.ne⟩
theorem setUp_edge (ls : List Lk) (j : Nat) (u v : Nat) (e : Edge (setUp ls j false) u v) : Edge ls u v := by
  obtain ⟨l, hm, hu, ho⟩ := e
  obtain ⟨i, hi, rfl⟩ := List.getElem_of_mem hm
  have hi' : i < ls.length := by rw [setUp_len] at hi; exact hi
  obtain ⟨ha, hb, hup⟩ := setUp_at ls j false i hi hi'
  rw [hup] at hu
  split at hu
  · cases hu
  · exact ⟨ls[i], List.getElem_mem _, hu, by rw [ha, hb] at ho; exact ho⟩
theorem own_set {n : Nat} {ls : List Lk} {os : List Int} (hr : right n ls = true) (h : ∀ j (hj : j < os.length), 0 ≤ os[j] ∧ os[j] < (n : Int)) (j : Nat) : ownersErr n (setUp ls j false) os = 0 := by
  refine own_fst ?_ h
  rw [right_congr (setUp_ab ls j false)]
  exact hr

set_option maxRecDepth 100000 in
set_option maxHeartbeats 4000000 in
theorem holds_main (n : Nat) (m k : Int) (A A2 : Option Addr) (c c2 : Nat) (ls : List Lk) (os : List Int) (w : World) (hR : Rd w 3 Lk.enc A ls) (hn : ls.length ≤ 30) (hO : Rd w 1 intE A2 os) (ho : os.length ≤ 12)
    (he : ownersErr n ls os = 0) (hm0 : 0 ≤ m) (hm1 : m < n) :
    Calls Try.prog 6 (holdsArgs n m k A A2 c c2 ls os) w fun e w' => e = .returned (.bool true) ∧ Kp w w' := by
  have H := Lib.hid (few_yes hn)
  obtain ⟨hr, hos⟩ := ownersErr_zero he
  have h20 := right_20 hr
  have He := Lib.hid he; clear he
  have Hr := Lib.hid hr; clear hr
  have Hos := Lib.hid hos; clear hos
  have hdl := dist_len n ls os
  have hd30 : (dist n ls os).length ≤ 30 := by rw [hdl]; omega
  have Hdl := Lib.hid (show (dist n ls os).length = n by rw [hdl]; simp); clear hdl
  have Hxl := Lib.hid (show (dist n ls (os ++ [m])).length = n by rw [dist_len]; simp)
  have He2 := Lib.hid (own_app Hr.out Hos.out hm0 hm1)
  go_enter Try.func6, Try.ntmps6
  go_wp2_with fail
  refine (few_any n A ls.length c _).mono ?_
  rintro e w1 ⟨rfl, hK1⟩
  rw [H.out]
  have k1 : Kp w w1 := ((Kp.refl _).alloc _).trans hK1
  have G1 : Blk w1 w.heap.size 24 #[.int .i64 n, .slice A ls.length c] := (Blk.new w _ _).keep hK1
  have net : Hid (∀ W, Kp w1 W → Kp w W ∧ Blk W w.heap.size 24 #[.int .i64 n, .slice A ls.length c]) := fun W h => ⟨k1.trans h, G1.keep h⟩
  clear hK1
  have g0 : w1.cell? ⟨w.heap.size, 0, none⟩ = some (.int .i64 n) := G1.cell 0
  have g1 : w1.cell? ⟨w.heap.size, 1, none⟩ = some (.slice A ls.length c) := G1.cell 1
  go_wp2_with fail
  refine (rowners_any n A A2 c c2 ls os _ (hR.keep k1) hn (hO.keep k1) (by omega)).mono ?_
  rintro e w2 ⟨rfl, hK2⟩
  rw [He.out]
  obtain ⟨k2, G2⟩ := net.out w2 hK2
  clear g0 g1 G1 k1
  have g0 : w2.cell? ⟨w.heap.size, 0, none⟩ = some (.int .i64 n) := G2.cell 0
  have g1 : w2.cell? ⟨w.heap.size, 1, none⟩ = some (.slice A ls.length c) := G2.cell 1
  go_wp2_with fail
  refine (gdist_any n A A2 c c2 ls os _ (hR.keep k2) hn (hO.keep k2) (by omega)).mono ?_
  rintro e w3 ⟨v3, rfl, hown3, hK3⟩
  rw [He.out]
  rw [if_pos He.out] at hown3
  obtain ⟨A3, c3, rfl, hr3⟩ := hown3.rd (by omega) intE_len
  rw [Hdl.out]
  obtain ⟨k3, G3⟩ := net.out w3 (hK2.trans hK3)
  clear g0 g1 G2 k2 hown3
  have net3 : Hid (∀ W, Kp w3 W → Kp w W ∧ Blk W w.heap.size 24 #[.int .i64 n, .slice A ls.length c] ∧ Rd W 1 intE A3 (dist n ls os) ∧ Rd W 3 Lk.enc A ls ∧ Rd W 1 intE A2 os) := fun W h => ⟨k3.trans h, G3.keep h, hr3.keep h, hR.keep (k3.trans h), hO.keep (k3.trans h)⟩
  clear hK2 hK3 net
  have g0 : w3.cell? ⟨w.heap.size, 0, none⟩ = some (.int .i64 n) := G3.cell 0
  have g1 : w3.cell? ⟨w.heap.size, 1, none⟩ = some (.slice A ls.length c) := G3.cell 1
  have hN := G3.lt
  go_upto_region 4 with (fail)
  go_cut [11, 12] from 53 to 63 (fun s11 s12 wx => ∃ A4 c4, s11 = .slice A4 n c4 ∧ s12 = .int .i64 0 ∧ Rd wx 1 intE A4 (dist n ls (os ++ [m])) ∧ Kp w3 wx)
  case first =>
    obtain ⟨_, _, _, hR3, hO3⟩ := net3.out w3 (Kp.refl _)
    have r1 : Kp w3 (w3.alloc (.cells #[] 3)).drew := ((Kp.refl w3).alloc _).drew
    go_region_held3 (fun w' => w'.cell? ⟨w.heap.size, 0, none⟩ = some (.int .i64 n) ∧ w'.cell? ⟨w.heap.size, 1, none⟩ = some (.slice A ls.length c))
      (first | go_keep | exact ⟨K4.cell g0, K4.cell g1⟩ | exact ⟨K5.cell g0, K5.cell g1⟩ | exact ⟨K6.cell g0, K6.cell g1⟩)
      (first
        | (refine step_clone EInt intE_len intE_one (by rfl) (.tmp 55) (.tmp 56) (by rfl) (by rfl) (by rfl) (((Kp.refl w3).alloc _).drew) ((Blk.new w3 _ _).drew) (Nat.le_refl _) hO3 (by omega) ?_; intro v4 W4 hown4 K4 tk4 sz4)
        | (refine step_clone EInt intE_len intE_one (by rfl) (.tmp 55) (.tmp 56) (by rfl) (by rfl) (by rfl) ((((Kp.refl w3).alloc _).alloc _).drew) (((Blk.new w3 _ _).alloc _).drew) (Nat.le_refl _) hO3 (by omega) ?_; intro v4 W4 hown4 K4 tk4 sz4; have B4 := tk4 _ _ _ (Blk.new1 w3 _ _ _).drew (by omega))
        | (refine step_clone EInt intE_len intE_one (by rfl) (.tmp 55) (.tmp 56) (by rfl) (by rfl) (by rfl) ((((Kp.refl w3).alloc _).alloc _).drew) ((Blk.new1 w3 _ _ _).drew) (Nat.le_succ _) hO3 (by omega) ?_; intro v4 W4 hown4 K4 tk4 sz4; have B4 := tk4 _ _ _ ((Blk.new w3 _ _).alloc _).drew (by omega))
        | (refine step_appx EInt (by rfl) (.tmp 57) (.tmp 59) (by rfl) m (by rfl) (hown4.alloc _) (by simp; omega) (by rfl) (Blk.new W4 _ _) (by rfl) (by rfl) (by rfl) (by omega) ?_; intro g5 c5 W5 hown5 hg5 hat5; have K5 : Kp w3 W5 := (K4.alloc _).grown hg5 (fun q hq => (World.ownsRow.lt hown4 q hq).1))
        | (refine step_appx EInt (by rfl) (.tmp 57) (.tmp 59) (by rfl) m (by rfl) hown4 sz4 (by rfl) B4 (by rfl) (by rfl) (by rfl) (by omega) ?_; intro g5 c5 W5 hown5 hg5 hat5; have K5 : Kp w3 W5 := K4.grown hg5 (fun q hq => (World.ownsRow.lt hown4 q hq).1))
        | (go_at_call 24; refine (gdist_q n A _ c _ ls (os ++ [m]) _ _ (by simp) (hR3.keep K5) hn (hown5.rdAt (by omega) intE_len) (by simp; omega)).mono ?_; rintro e W6 ⟨v6, rfl, hown6, hK6⟩; have K6 := K5.trans hK6))
    all_goals
      go_wp2_with fail
      go_meet
      case rel =>
      rw [if_pos He2.out] at hown6
      obtain ⟨A6, c6, rfl, hr6⟩ := hown6.rd (by omega) intE_len
      exact ⟨A6, c6, by rw [Hxl.out], by rw [He2.out], hr6, K6⟩
  case rest =>
    obtain ⟨A4, c4, rfl, rfl, hr4, K4⟩ := hcut
    obtain ⟨k4, G4, hd4, hR4, hO4⟩ := net3.out wc K4
    clear g0 g1 G3 hr3 k3
    have g0 : wc.cell? ⟨w.heap.size, 0, none⟩ = some (.int .i64 n) := G4.cell 0
    have hN4 := G4.lt
    go_upto_block 0 with (go_at_call 15; refine (num_any _ _).mono ?_; rintro e w' ⟨rfl, rfl⟩)
    clear g0
    rw [← oneA_nil]
    obtain ⟨w5, hw5, K5, O5⟩ : ∃ w5, wc.alloc (.cells (oneA []) 58) = w5 ∧ Kp wc w5 ∧ Blk w5 wc.heap.size 58 (oneA []) := ⟨_, rfl, (Kp.refl _).alloc _, Blk.new wc _ _⟩
    rw [hw5]
    have hob := O5.lt
    clear hw5
    obtain ⟨ob, hobe⟩ : ∃ ob, wc.heap.size = ob := ⟨_, rfl⟩
    rw [hobe] at O5 hob hN4 ⊢
    have Hob := Lib.hid hobe; clear hobe
    go_cut [] from 84 to 94 (fun wx => Blk wx ob 58 (oneA os) ∧ Kp wc wx)
    case first =>
      go_wp2_with fail
      go_loopw [14] (fun i wr => ∃ k : Nat, k ≤ os.length ∧ i = .int .i64 k ∧ Blk wr ob 58 (oneA (os.take k)) ∧ Kp wc wr) (fun i _ => os.length - (intOf i).toNat)
      case atStart => exact ⟨0, Nat.zero_le _, rfl, O5, K5⟩
      case round =>
        obtain ⟨q, hq, rfl, O6, K6⟩ := hrel
        by_cases hlt : q < os.length
        · obtain ⟨b, off, rfl, x0⟩ := int_at (hO4.keep K6) hlt
          have hin := Hos.out q hlt
          obtain ⟨j, hj⟩ := Int.eq_ofNat_of_zero_le hin.1
          rw [hj] at x0
          have hjn : j < 20 := by omega
          have y0 := (O6.cell j).trans (oneA_at _ hjn)
          have z0 := O6.frozen j
          have Hj := Lib.hid hj; clear hj hin
          go_wp2_with fail
          go_roundw
          case rel => exact ⟨q + 1, by omega, by go_num, by rw [take_snoc _ _ hlt, Hj.out, ← oneA_set]; exact O6.set_ j _, K6.setCell (by show _ ≤ ob; rw [Hob.out]; exact Nat.le_refl _) _⟩
          case measure => simp [intOf]; omega
        · obtain rfl : q = os.length := by omega
          rw [List.take_length] at O6
          go_wp2_with fail
          go_meet
          case rel => exact ⟨O6, K6⟩
    case rest =>
      obtain ⟨O6, K6⟩ := hcut
      have net6 : Hid (∀ W, Kp wc W → Kp w W ∧ Blk W w.heap.size 24 #[.int .i64 n, .slice A ls.length c] ∧ Rd W 1 intE A3 (dist n ls os) ∧ Rd W 1 intE A4 (dist n ls (os ++ [m])) ∧ Rd W 3 Lk.enc A ls ∧ Rd W 1 intE A2 os ∧ Blk W ob 58 (oneA os)) :=
        fun W h => ⟨k4.trans (K6.trans h), G4.keep (K6.trans h), hd4.keep (K6.trans h), hr4.keep (K6.trans h), hR4.keep (K6.trans h), hO4.keep (K6.trans h), O6.keep h⟩
      have Hlk := Lib.hid (right_ok Hr.out)
      have Hoo := Lib.hid (os_ok Hos.out)
      have Hg := Lib.hid (dist_good Hlk.out Hoo.out)
      clear k4 G4 hd4 hr4 hR4 hO4 O6 K6 Hob O5 K5 hob K4 net3 hN hN4
      have hob : ob < wc.heap.size := (net6.out wc (Kp.refl _)).2.2.2.2.2.2.lt
      go_upto_block 2 with (fail)
      go_cut [] from 95 to 153 (fun wx => Kp wc wx)
      case first =>
        go_wp2_with fail
        go_loopw [15] (fun i wr => ∃ q : Nat, q ≤ n ∧ i = .int .i64 q ∧ Kp wc wr) (fun i _ => n - (intOf i).toNat)
        case atStart => exact ⟨0, Nat.zero_le _, rfl, Kp.refl _⟩
        case round =>
          obtain ⟨q, hq, rfl, K7⟩ := hrel
          obtain ⟨k7, G7, hd7, hx7, hR7, hO7, O7⟩ := net6.out wr K7
          have g0 : wr.cell? ⟨w.heap.size, 0, none⟩ = some (.int .i64 n) := G7.cell 0
          by_cases hlt : q < n
          · go_upto_block 4 with (fail)
            clear g0
            obtain ⟨w7, hw7⟩ : ∃ w7, wr = w7 := ⟨_, rfl⟩
            rw [hw7] at K7 k7 G7 hd7 hx7 hR7 hO7 O7 ⊢
            clear hw7
            go_cut [16] from 101 to 131 (fun s16 wx => s16 = .int .i64 (leastTo ls (dist n ls os) q ls.length) ∧ Kp wc wx)
            case first =>
              go_wp2_with fail
              go_loopw [16, 17] (fun s i wr => ∃ j : Nat, j ≤ ls.length ∧ i = .int .i64 j ∧ s = .int .i64 (leastTo ls (dist n ls os) q j) ∧ Kp wc wr) (fun _ i _ => ls.length - (intOf i).toNat)
              case atStart => exact ⟨0, Nat.zero_le _, rfl, rfl, K7⟩
              case round =>
                obtain ⟨j, hj, rfl, rfl, K8⟩ := hrel
                obtain ⟨k8, G8, hd8, hx8, hR8, hO8, O8⟩ := net6.out wr K8
                have g1 : wr.cell? ⟨w.heap.size, 1, none⟩ = some (.slice A ls.length c) := G8.cell 1
                have g0 : wr.cell? ⟨w.heap.size, 0, none⟩ = some (.int .i64 n) := G8.cell 0
                by_cases hjl : j < ls.length
                · obtain ⟨b, off, rfl, c0, c1, c2'⟩ := lk_at hR8 hjl
                  have hlk := right_link Hr.out hjl
                  cases hu : ls[j].Up with
                  | false =>
                    rw [hu] at c2'
                    have Hl := Lib.hid (leastTo_no (d := dist n ls os) (r := q) hjl (by simp [hu])); clear hu
                    go_wp2_with fail
                    go_roundw
                    case rel => exact ⟨j + 1, by omega, by go_num, by rw [Hl.out], K8⟩
                    case measure => simp [intOf]; omega
                  | true =>
                    have Hu := Lib.hid hu
                    rw [hu] at c2'
                    go_wp2_with fail
                    have hfit := has_any ls[j] q wr
                    rw [hu] at hfit
                    clear hu
                    refine hfit.mono ?_
                    clear hfit
                    rintro e w9 ⟨rfl, hK9⟩
                    have K9 := K8.trans hK9
                    obtain ⟨k9, G9, hd9, hx9, hR9, hO9, O9⟩ := net6.out w9 K9
                    clear g0 g1 c0 c1 c2' G8 hd8 hx8 hR8 hO8 O8 k8
                    have g1 : w9.cell? ⟨w.heap.size, 1, none⟩ = some (.slice (some ⟨b, off, none⟩) ls.length c) := G9.cell 1
                    have g0 : w9.cell? ⟨w.heap.size, 0, none⟩ = some (.int .i64 n) := G9.cell 0
                    cases hh : ls[j].has q with
                    | false =>
                      have Hl := Lib.hid (leastTo_no (d := dist n ls os) (r := q) hjl (by simp [hh])); clear hh
                      go_wp2_with fail
                      go_roundw
                      case rel => exact ⟨j + 1, by omega, by go_num, by rw [Hl.out], K9⟩
                      case measure => simp [intOf]; omega
                    | true =>
                      have Hl := Lib.hid (leastTo_yes (d := dist n ls os) hjl Hu.out hh)
                      obtain ⟨u, hu, hun, _⟩ := other_of (Hlk.out _ (List.getElem_mem hjl)) hh
                      clear hh
                      go_wp2_with fail
                      refine (rother_any n q j _ c ls _ hR9 hjl (by omega) (by omega) (by omega)).mono ?_
                      rintro e w10 ⟨rfl, hK10⟩
                      have K10 := K9.trans hK10
                      obtain ⟨k10, G10, hd10, hx10, hR10, hO10, O10⟩ := net6.out w10 K10
                      clear g0 g1 G9 hd9 hx9 hR9 hO9 O9 k9
                      have hud : u < (dist n ls os).length := by rw [Hdl.out]; exact hun
                      obtain ⟨b3, off3, rfl, y0⟩ := int_at hd10 hud
                      have Hu2 := Lib.hid (at16_lt hud)
                      rw [← Hu2.out] at y0
                      rw [hu]
                      have Hu3 := Lib.hid hu; clear hu
                      rw [Hu3.out, Int.toNat_natCast] at Hl
                      have hb1 := (Hg.out u).1
                      have hb2 := (Hg.out u).2.1
                      have Hmi := Lib.hid (show (if at16 (dist n ls os) u < leastTo ls (dist n ls os) q j then at16 (dist n ls os) u else leastTo ls (dist n ls os) q j) = min (leastTo ls (dist n ls os) q j) (at16 (dist n ls os) u) by omega)
                      generalize at16 (dist n ls os) u = z at *
                      have hz2 : z ≤ leastTo ls (dist n ls os) q j ∨ leastTo ls (dist n ls os) q j < z := by omega
                      generalize leastTo ls (dist n ls os) q j = y at *
                      have Hl2 := Lib.hid (show leastTo ls (dist n ls os) q (j + 1) = min y z from Hl.out)
                      by_cases hzy : z < y
                      · go_wp2_with fail
                        go_roundw
                        case rel => exact ⟨j + 1, by omega, by go_num, by rw [Hl2.out, show min y z = z by omega], K10⟩
                        case measure => simp [intOf]; omega
                      · go_wp2_with fail
                        go_roundw
                        case rel => exact ⟨j + 1, by omega, by go_num, by rw [Hl2.out, show min y z = y by omega], K10⟩
                        case measure => simp [intOf]; omega
                · obtain rfl : j = ls.length := by omega
                  go_wp2_with fail
                  go_meet
                  case rel => exact ⟨rfl, K8⟩
            case rest =>
              obtain ⟨rfl, K11⟩ := hcut
              obtain ⟨k11, G11, hd11, hx11, hR11, hO11, O11⟩ := net6.out _ K11
              have hdq : q < (dist n ls os).length := by rw [Hdl.out]; exact hlt
              have hxq : q < (dist n ls (os ++ [m])).length := by rw [Hxl.out]; exact hlt
              obtain ⟨b3, off3, rfl, y0⟩ := int_at hd11 hdq
              obtain ⟨b4, off4, rfl, y1⟩ := int_at hx11 hxq
              rw [← at16_lt hdq] at y0
              rw [← at16_lt hxq] at y1
              have hle := dist_wide Hlk.out Hoo.out (os_ok (ownersErr_zero He2.out).2) (fun x hx => List.mem_append_left _ hx) q
              have hwant := dist_law Hlk.out Hoo.out q
              have hown := dist_own Hlk.out Hoo.out q
              have o0 := (O11.cell q).trans (oneA_at os (by omega))
              have hl1 := leastTo_le (ls := ls) (d := dist n ls os) (r := q) ls.length
              have hl2 := leastTo_ge (ls := ls) (d := dist n ls os) (r := q) (fun v => (Hg.out v).1) ls.length
              generalize leastTo ls (dist n ls os) q ls.length = y at *
              generalize at16 (dist n ls os) q = z at *
              generalize at16 (dist n ls (os ++ [m])) q = x at *
              cases hc : os.contains (q : Int) with
              | true =>
                rw [hc] at o0
                have hz := hown (by simpa using hc)
                rw [hz] at y0 hle
                clear hown hwant hc hz
                have d1 : decide ((1 : Int) < x) = false := by simpa using hle
                go_wp2_with fail
                go_quiet (fail)
                go_wp2_with fail
                go_roundw
                case rel => exact ⟨q + 1, by omega, by go_num, K11.drewN _⟩
                case measure => simp [intOf]; omega
              | false =>
                rw [hc] at o0
                have hz := hwant (by simpa using hc)
                rw [hz] at y0 hle
                clear hown hwant hc hz
                have d1 : decide (y + 1 < x) = false := by simpa using hle
                have d2 : (y + 1 != y + 1) = false := by simp
                go_wp2_with fail
                go_quiet (fail)
                go_wp2_with fail
                go_roundw
                case rel => exact ⟨q + 1, by omega, by go_num, K11.drewN _⟩
                case measure => simp [intOf]; omega
          · obtain rfl : q = n := by omega
            go_wp2_with fail
            go_meet
            case rel => exact K7
      case rest =>
        obtain ⟨k12, G12, hd12, hx12, hR12, hO12, O12⟩ := net6.out _ hcut
        have hK12 := hcut
        clear hcut
        have g1 : wc.cell? ⟨w.heap.size, 1, none⟩ = some (.slice A ls.length c) := G12.cell 1
        have g0 : wc.cell? ⟨w.heap.size, 0, none⟩ = some (.int .i64 n) := G12.cell 0
        by_cases hk0 : k < 0
        · go_wp2_with fail
          refine (works_any _).mono ?_
          rintro e w13 ⟨rfl, hK13⟩
          go_wp2_with fail
          go_ret
          exact ⟨rfl, k12.trans hK13⟩
        · by_cases hk1 : (ls.length : Int) ≤ k
          · go_wp2_with fail
            refine (works_any _).mono ?_
            rintro e w13 ⟨rfl, hK13⟩
            go_wp2_with fail
            go_ret
            exact ⟨rfl, k12.trans hK13⟩
          · obtain ⟨j, rfl⟩ := Int.eq_ofNat_of_zero_le (show 0 ≤ k by omega)
            have hjl : j < ls.length := by omega
            go_wp2_with fail
            refine (rset_any n j false A c ls _ hR12 hn hjl).mono ?_
            rintro e w13 ⟨g, cap, rfl, hg, hr13, hK13⟩
            obtain ⟨k13, G13, hd13, hx13, hR13, hO13, O13⟩ := net6.out _ (hK12.trans hK13)
            clear g0 g1 G12 hd12 hx12 hR12 hO12 O12
            have g0 : w13.cell? ⟨w.heap.size, 0, none⟩ = some (.int .i64 n) := G13.cell 0
            go_wp2_with fail
            have hfit := gdist_any n (some ⟨g, 0, none⟩) A2 cap c2 (setUp ls j false) os w13 hr13 (by rw [setUp_len]; exact hn) hO13 (by omega)
            rw [setUp_len] at hfit
            refine hfit.mono ?_
            clear hfit
            rintro e w14 ⟨v14, rfl, hown14, hK14⟩
            obtain ⟨k14, G14, hd14, hx14, hR14, hO14, O14⟩ := net6.out _ ((hK12.trans hK13).trans hK14)
            clear g0 G13 hd13 hx13 hR13 hO13 O13 hr13
            have g0 : w14.cell? ⟨w.heap.size, 0, none⟩ = some (.int .i64 n) := G14.cell 0
            have he3 := own_set Hr.out Hos.out j
            rw [he3] at hown14 ⊢
            rw [if_pos rfl] at hown14
            obtain ⟨A14, c14, rfl, hr14⟩ := hown14.rd (by omega) intE_len
            have Hyl := Lib.hid (show (dist n (setUp ls j false) os).length = n by rw [dist_len]; simp)
            rw [Hyl.out]
            clear hown14 he3
            go_upto_block 6 with (go_at_call 15; refine (num_any _ _).mono ?_; rintro e w' ⟨rfl, rfl⟩)
            clear g0
            go_cut [] from 182 to 196 (fun wx => Kp w14 wx)
            case first =>
              go_wp2_with fail
              go_loopw [21] (fun i wr => ∃ q : Nat, q ≤ n ∧ i = .int .i64 q ∧ Kp w14 wr) (fun i _ => n - (intOf i).toNat)
              case atStart => exact ⟨0, Nat.zero_le _, rfl, Kp.refl _⟩
              case round =>
                obtain ⟨q, hq, rfl, K7⟩ := hrel
                have g0 : wr.cell? ⟨w.heap.size, 0, none⟩ = some (.int .i64 n) := (G14.keep K7).cell 0
                by_cases hlt : q < n
                · have hdq : q < (dist n ls os).length := by rw [Hdl.out]; exact hlt
                  have hyq : q < (dist n (setUp ls j false) os).length := by rw [Hyl.out]; exact hlt
                  obtain ⟨b3, off3, rfl, y0⟩ := int_at (hd14.keep K7) hdq
                  obtain ⟨b4, off4, rfl, y1⟩ := int_at (hr14.keep K7) hyq
                  rw [← at16_lt hdq] at y0
                  rw [← at16_lt hyq] at y1
                  have hle := dist_fewer (ls := setUp ls j false) (ls' := ls) (setUp_ok Hlk.out j) Hlk.out Hoo.out (setUp_edge ls j) q
                  generalize at16 (dist n ls os) q = z at *
                  generalize at16 (dist n (setUp ls j false) os) q = x at *
                  have d1 : decide (x < z) = false := by simpa using hle
                  go_wp2_with fail
                  go_quiet (fail)
                  go_wp2_with fail
                  go_roundw
                  case rel => exact ⟨q + 1, by omega, by go_num, K7.drewN _⟩
                  case measure => simp [intOf]; omega
                · obtain rfl : q = n := by omega
                  go_wp2_with fail
                  go_meet
                  case rel => exact K7
            case rest =>
              go_wp2_with fail
              refine (works_any _).mono ?_
              rintro e w15 ⟨rfl, hK15⟩
              go_wp2_with fail
              go_ret
              exact ⟨rfl, k14.trans (hcut.trans hK15)⟩
end Go.Proofs.Ytgnhhhcelfaliaa
