/- Layer 18's Face, Other, Net, Addr: what each call returns. No condition but at most 30 links. -/
import Derived.Test.YtgnhhhcelfaliaaGraphH
namespace Go.Proofs.Ytgnhhhcelfaliaa
open Go.RowKit

theorem onErr_zero {R : Int} {ls : List Lk} {r l : Int} (h : onErr R ls r l = 0) : ∃ (k : Nat) (hk : k < ls.length), l = (k : Int) ∧ right R ls = true ∧ 0 ≤ r ∧ r < R ∧ ls[k].has r = true := by
  unfold onErr at h
  split at h
  · rename_i hr
    have hR : right R ls = true ∧ 0 ≤ r ∧ r < R := by
      unfold routerErr at hr
      split at hr
      · split at hr
        · rename_i h1 h2; exact ⟨h1, h2⟩
        · cases hr
      · cases hr
    split at h
    · rename_i hl
      obtain ⟨h0, h1, h2⟩ := hl
      obtain ⟨k, rfl⟩ := Int.eq_ofNat_of_zero_le h0
      have hk : k < ls.length := by omega
      refine ⟨k, hk, rfl, hR.1, hR.2.1, hR.2.2, ?_⟩
      rw [Int.toNat_natCast, List.getElem?_eq_getElem hk] at h2
      simpa using h2
    · cases h
  · rename_i hr; exact absurd h hr

theorem facesTo_mem {ls : List Lk} {r : Int} : ∀ {k : Nat} {x : Int}, x ∈ facesTo ls r k → 0 ≤ x ∧ x < k
  | 0, x, h => by simp [facesTo] at h
  | k + 1, x, h => by
    simp only [facesTo, List.mem_append] at h
    rcases h with h | h
    · have := facesTo_mem h; omega
    · split at h <;> simp at h
      omega
theorem facesTo_pre (ls : List Lk) (r : Int) (k : Nat) : ∀ n, ∃ t, facesTo ls r (k + n) = facesTo ls r k ++ t
  | 0 => ⟨[], by simp⟩
  | n + 1 => by
    obtain ⟨t, ht⟩ := facesTo_pre ls r k n
    refine ⟨t ++ (if ((ls[k + n]?).map (·.has r)).getD false then [((k + n : Nat) : Int)] else []), ?_⟩
    rw [← List.append_assoc, ← ht]
    rfl
theorem face_idx {ls : List Lk} {r : Int} {k : Nat} (hk : k < ls.length) (h : ls[k].has r = true) : idxI (faces ls r) k = (facesTo ls r k).length := by
  obtain ⟨t, ht⟩ := facesTo_pre ls r (k + 1) (ls.length - (k + 1))
  have e : k + 1 + (ls.length - (k + 1)) = ls.length := by omega
  rw [e, facesTo_hit ls r k hk h, List.append_assoc] at ht
  have hf : faces ls r = facesTo ls r k ++ ((k : Int) :: t) := ht
  rw [hf]
  refine idxI_at (by simp) (by simp) (fun j hj hjk => ?_)
  rw [List.getElem_append_left hjk]
  intro hx
  have := facesTo_mem (List.getElem_mem hjk)
  omega

def faceN (R : Int) (ls : List Lk) (r l : Int) : Int := if onErr R ls r l = 0 then ((facesTo ls r l.toNat).length : Int) else 0
def otherN (R : Int) (ls : List Lk) (r l : Int) : Int := if onErr R ls r l = 0 then ((ls[l.toNat]?).map (fun k => k.A + k.B - r)).getD 0 else 0

set_option maxHeartbeats 1000000 in
theorem gface_any (R r l : Int) (A : Option Addr) (c : Nat) (ls : List Lk) (w : World) (hR : Rd w 3 Lk.enc A ls) (hn : ls.length ≤ 30) :
    Calls Try.prog 11 #[.agg #[.int .i64 R, .slice A ls.length c], .int .i64 r, .int .i64 l] w fun e w' =>
      e = .returned (.tuple #[.int .i64 (faceN R ls r l), .int .i64 (onErr R ls r l)]) ∧ Kp w w' := by
  have hmf := makeFunc_run
  have hK0 : Kp w ((((w.alloc (.cells #[.int .i64 R, .slice A ls.length c] 24)).alloc (.cells #[.int .i64 0] 3)).alloc (.cells #[.int .i64 0] 28)).alloc (.cells #[.int .i64 R, .slice A ls.length c] 73)) := ((((Kp.refl _).alloc _).alloc _).alloc _).alloc _
  by_cases hon : onErr R ls r l = 0
  · obtain ⟨k, hk, rfl, hr, h0, h1, hh⟩ := onErr_zero hon
    have Hon := Lib.hid hon; clear hon
    have H := Lib.hid hr; clear hr
    have HH := Lib.hid hh; clear hh
    go_enter_defers Try.func11, Try.ntmps11
    go_wp2_with fail
    refine (linkOf_ok R r k A c ls _ (hR.keep hK0) hn H.out h0 h1 hk HH.out).mono ?_
    rintro e w1 ⟨rfl, hK1⟩
    have hKw : Kp w w1 := hK0.trans hK1
    have B1 : Blk w1 (w.heap.size + 1) 3 #[.int .i64 0] := (((Blk.new1 w _ _ _).alloc _).alloc _).keep hK1
    have B2 : Blk w1 (w.heap.size + 1 + 1) 28 #[.int .i64 0] := ((Blk.new2 w _ _ _ _).alloc _).keep hK1
    have B3 : Blk w1 (w.heap.size + 1 + 1 + 1) 73 #[.int .i64 R, .slice A ls.length c] := (Blk.new3 w _ _ _ _ _).keep hK1
    have k0 : w1.cell? ⟨w.heap.size + 1 + 1 + 1, 0, none⟩ = some (.int .i64 R) := B3.cell 0
    have k1 : w1.cell? ⟨w.heap.size + 1 + 1 + 1, 1, none⟩ = some (.slice A ls.length c) := B3.cell 1
    go_wp2_with fail
    refine (faces_any R r A c ls _ (hR.keep hKw) (by omega)).mono ?_
    rintro e w2 ⟨v, rfl, hown, hK2⟩
    obtain ⟨A1, cc, rfl, hrd⟩ := hown.rd (by omega) intE_len
    have hlen : (faces ls r).length ≤ 30 := by have := facesTo_len ls r ls.length; unfold faces; omega
    go_wp2_with fail
    refine (index_any A1 cc _ k w2 hrd (by omega)).mono ?_
    rintro e w3 ⟨rfl, rfl⟩
    rw [face_idx hk HH.out]
    have hKz := hKw.trans hK2
    have C1 := B1.keep hK2
    have C2 := B2.keep hK2
    have c1 : w2.cell? ⟨w.heap.size + 1, 0, none⟩ = some (.int .i64 0) := C1.cell 0
    have c2 : w2.cell? ⟨w.heap.size + 1 + 1, 0, none⟩ = some (.int .i64 0) := C2.cell 0
    have z1 := C1.frozen 0
    have z2 := C2.frozen 0
    generalize hm : ((facesTo ls r k).length : Int) = m at *
    have Hm := Lib.hid hm; clear hm
    go_wp2_with fail
    refine leaves_cons (f := 40) (args := #[.pointer (some ⟨w.heap.size + 1, 0, none⟩), .pointer (some ⟨w.heap.size + 1 + 1, 0, none⟩)]) (by simp) (by simp [go_sem]) ?_
    refine (idle_face _ _ _).mono ?_
    rintro e u' w3 ⟨rfl, rfl, hK3⟩
    have D1 := ((C1.set_ 0 (.int .i64 m)).far (p := ⟨w.heap.size + 1 + 1, 0, none⟩) (by simp) (.int .i64 0)).keep hK3
    have D2 := ((C2.far (p := ⟨w.heap.size + 1, 0, none⟩) (by simp) (.int .i64 m)).set_ 0 (.int .i64 0)).keep hK3
    have d1 : w3.cell? ⟨w.heap.size + 1, 0, none⟩ = some (.int .i64 m) := D1.cell 0
    have d2 : w3.cell? ⟨w.heap.size + 1 + 1, 0, none⟩ = some (.int .i64 0) := D2.cell 0
    show Leaves _ _ _ _ [] .returning _
    exact ⟨.tuple #[.int .i64 m, .int .i64 0], by simp [results, Try.results11, go_sem, d1, d2], by rw [faceN, if_pos Hon.out, Hon.out, Int.toNat_natCast, Hm.out], ((hKz.setCell (by simp) _).setCell (by simp <;> omega) _).trans hK3⟩
  · have Hon := Lib.hid hon; clear hon
    go_enter_defers Try.func11, Try.ntmps11
    go_wp2_with fail
    refine (linkOf_no R r l A c ls _ (hR.keep hK0) hn Hon.out).mono ?_
    rintro e w1 ⟨rfl, hK1⟩
    have hKw : Kp w w1 := hK0.trans hK1
    have hon := Hon.out
    have B1 : Blk w1 (w.heap.size + 1) 3 #[.int .i64 0] := (((Blk.new1 w _ _ _).alloc _).alloc _).keep hK1
    have B2 : Blk w1 (w.heap.size + 1 + 1) 28 #[.int .i64 0] := ((Blk.new2 w _ _ _ _).alloc _).keep hK1
    refine leaves_cons (f := 40) (args := #[.pointer (some ⟨w.heap.size + 1, 0, none⟩), .pointer (some ⟨w.heap.size + 1 + 1, 0, none⟩)]) (by simp) (by simp [go_sem]) ?_
    refine (catch_face _ _ _ _ (onErr R ls r l) w1 (B1.cell 0) (B2.cell 0) (B1.frozen 0) (B2.frozen 0) (by omega)).mono ?_
    rintro e u' w2 ⟨rfl, rfl, c0, c1, ho⟩
    show Leaves _ _ _ _ [] .returning _
    exact ⟨.tuple #[.int .i64 0, .int .i64 (onErr R ls r l)], by simp [results, Try.results11, go_sem, c0, c1], by rw [faceN, if_neg hon], ho.kp hKw (by simp <;> omega)⟩

set_option maxHeartbeats 1000000 in
theorem gother_any (R r l : Int) (A : Option Addr) (c : Nat) (ls : List Lk) (w : World) (hR : Rd w 3 Lk.enc A ls) (hn : ls.length ≤ 30) :
    Calls Try.prog 12 #[.agg #[.int .i64 R, .slice A ls.length c], .int .i64 r, .int .i64 l] w fun e w' =>
      e = .returned (.tuple #[.int .i64 (otherN R ls r l), .int .i64 (onErr R ls r l)]) ∧ Kp w w' := by
  have hmf := makeFunc_run
  have hK0 : Kp w (((w.alloc (.cells #[.int .i64 R, .slice A ls.length c] 24)).alloc (.cells #[.int .i64 0] 3)).alloc (.cells #[.int .i64 0] 28)) := (((Kp.refl _).alloc _).alloc _).alloc _
  by_cases hon : onErr R ls r l = 0
  · obtain ⟨k, hk, rfl, hr, h0, h1, hh⟩ := onErr_zero hon
    have hl := right_link hr hk
    have h20 := right_20 hr
    have Hon := Lib.hid hon; clear hon
    have H := Lib.hid hr; clear hr
    have HH := Lib.hid hh; clear hh
    go_enter_defers Try.func12, Try.ntmps12
    go_wp2_with fail
    refine (linkOf_ok R r k A c ls _ (hR.keep hK0) hn H.out h0 h1 hk HH.out).mono ?_
    rintro e w1 ⟨rfl, hK1⟩
    have hKw : Kp w w1 := hK0.trans hK1
    have B1 : Blk w1 (w.heap.size + 1) 3 #[.int .i64 0] := ((Blk.new1 w _ _ _).alloc _).keep hK1
    have B2 : Blk w1 (w.heap.size + 1 + 1) 28 #[.int .i64 0] := (Blk.new2 w _ _ _ _).keep hK1
    have c1 : ∀ o, (w1.alloc o).cell? ⟨w.heap.size + 1, 0, none⟩ = some (.int .i64 0) := fun o => (B1.alloc o).cell 0
    have c2 : ∀ o, (w1.alloc o).cell? ⟨w.heap.size + 1 + 1, 0, none⟩ = some (.int .i64 0) := fun o => (B2.alloc o).cell 0
    have z1 : ∀ o, (w1.alloc o).frozen? ⟨w.heap.size + 1, 0, none⟩ = false := fun o => (B1.alloc o).frozen 0
    have z2 : ∀ o, (w1.alloc o).frozen? ⟨w.heap.size + 1 + 1, 0, none⟩ = false := fun o => (B2.alloc o).frozen 0
    have c1' : w1.cell? ⟨w.heap.size + 1, 0, none⟩ = some (.int .i64 0) := B1.cell 0
    have c2' : w1.cell? ⟨w.heap.size + 1 + 1, 0, none⟩ = some (.int .i64 0) := B2.cell 0
    have z1' := B1.frozen 0
    have z2' := B2.frozen 0
    have b1 := B1.lt
    have b2 := B2.lt
    have n1 : ¬ w.heap.size + 1 = w1.heap.size := by omega
    have n2 : ¬ w.heap.size + 1 + 1 = w1.heap.size := by omega
    have ho : Kp w1 (w1.alloc (.cells #[.int .i64 ls[k].A, .int .i64 ls[k].B, .bool ls[k].Up] 54)) := (Kp.refl _).alloc _
    go_wp2_with fail
    refine leaves_cons (f := 43) (args := #[.pointer (some ⟨w.heap.size + 1, 0, none⟩), .pointer (some ⟨w.heap.size + 1 + 1, 0, none⟩)]) (by simp) (by simp [go_sem]) ?_
    refine (idle_other _ _ _).mono ?_
    rintro e u' w3 ⟨rfl, rfl, hK3⟩
    have D1 := (((B1.set_ 0 (.int .i64 (ls[k].A + ls[k].B - r))).far (p := ⟨w.heap.size + 1 + 1, 0, none⟩) (by simp) (.int .i64 0)).alloc _).keep hK3
    have D2 := (((B2.far (p := ⟨w.heap.size + 1, 0, none⟩) (by simp) (.int .i64 (ls[k].A + ls[k].B - r))).set_ 0 (.int .i64 0)).alloc _).keep hK3
    have d1 : w3.cell? ⟨w.heap.size + 1, 0, none⟩ = some (.int .i64 (ls[k].A + ls[k].B - r)) := D1.cell 0
    have d2 : w3.cell? ⟨w.heap.size + 1 + 1, 0, none⟩ = some (.int .i64 0) := D2.cell 0
    show Leaves _ _ _ _ [] .returning _
    exact ⟨.tuple #[.int .i64 (ls[k].A + ls[k].B - r), .int .i64 0], by simp [results, Try.results12, go_sem, d1, d2], by rw [otherN, if_pos Hon.out, Hon.out, Int.toNat_natCast, List.getElem?_eq_getElem hk]; rfl, (((hKw.setCell (by simp) _).setCell (by simp <;> omega) _).alloc _).trans hK3⟩
  · have Hon := Lib.hid hon; clear hon
    go_enter_defers Try.func12, Try.ntmps12
    go_wp2_with fail
    refine (linkOf_no R r l A c ls _ (hR.keep hK0) hn Hon.out).mono ?_
    rintro e w1 ⟨rfl, hK1⟩
    have hKw : Kp w w1 := hK0.trans hK1
    have hon := Hon.out
    have B1 : Blk w1 (w.heap.size + 1) 3 #[.int .i64 0] := ((Blk.new1 w _ _ _).alloc _).keep hK1
    have B2 : Blk w1 (w.heap.size + 1 + 1) 28 #[.int .i64 0] := (Blk.new2 w _ _ _ _).keep hK1
    refine leaves_cons (f := 43) (args := #[.pointer (some ⟨w.heap.size + 1, 0, none⟩), .pointer (some ⟨w.heap.size + 1 + 1, 0, none⟩)]) (by simp) (by simp [go_sem]) ?_
    refine (catch_other _ _ _ _ (onErr R ls r l) w1 (B1.cell 0) (B2.cell 0) (B1.frozen 0) (B2.frozen 0) (by omega)).mono ?_
    rintro e u' w2 ⟨rfl, rfl, c0, c1, ho⟩
    show Leaves _ _ _ _ [] .returning _
    exact ⟨.tuple #[.int .i64 0, .int .i64 (onErr R ls r l)], by simp [results, Try.results12, go_sem, c0, c1], by rw [otherN, if_neg hon], ho.kp hKw (by simp <;> omega)⟩

theorem cut_net_all : ∀ l : Fin 24, cutI (180879360 + ((l : Nat) : Int) * 256) 30 = netI ((l : Nat) : Int) := by decide +kernel
theorem cut_net {l : Int} (h0 : 0 ≤ l) (h1 : l ≤ 23) : cutI (180879360 + l * 256) 30 = netI l := by
  obtain ⟨k, rfl⟩ := Int.eq_ofNat_of_zero_le h0
  exact cut_net_all ⟨k, by omega⟩

set_option maxRecDepth 100000 in
set_option maxHeartbeats 400000 in
theorem gnet_ok (l : Int) (w : World) (h0 : 0 ≤ l) (h1 : l ≤ 23) :
    Calls Try.prog 14 #[.int .i64 l] w fun e w' => e = .returned (.tuple #[.agg #[.int .u32 (netI l), .int .i64 30], .int .i64 0]) ∧ Kp w w' := by
  have hd : decide (l < 0) = false := by simp; omega
  go_enter Try.func14, Try.ntmps14
  go_wp2_with fail
  refine (of_ok _ 30 _ (by omega) (by omega)).mono ?_
  rintro e w1 ⟨rfl, hK1⟩
  rw [cut_net h0 h1]
  generalize hq : netI l = q at *
  have Hq := Lib.hid hq; clear hq
  have B : Blk w1 w.heap.size 38 #[.int .u32 0, .int .i64 0] := (Blk.new w _ _).keep hK1
  have c0 : w1.cell? ⟨w.heap.size, 0, none⟩ = some (.int .u32 0) := B.cell 0
  have c1 : w1.cell? ⟨w.heap.size, 1, none⟩ = some (.int .i64 0) := B.cell 1
  have z0 := B.frozen 0
  have z1 := B.frozen 1
  go_wp2_with fail
  refine bodyPost_ret (v := .tuple #[.agg #[.int .u32 q, .int .i64 30], .int .i64 0]) (by simp [results, Try.results14, go_sem, c0, c1]) rfl ⟨by rw [Hq.out], ((((Kp.refl _).alloc _).trans hK1).setCell (by simp) _).setCell (by simp) _⟩

set_option maxRecDepth 100000 in
set_option maxHeartbeats 400000 in
theorem gnet_no (l : Int) (w : World) (h : l < 0 ∨ 23 < l) :
    Calls Try.prog 14 #[.int .i64 l] w fun e w' => e = .returned (.tuple #[.agg #[.int .u32 0, .int .i64 0], .int .i64 4]) ∧ Kp w w' := by
  by_cases h0 : l < 0
  · go_enter Try.func14, Try.ntmps14
    go_wp2_with fail
    refine bodyPost_ret (v := .tuple #[.agg #[.int .u32 0, .int .i64 0], .int .i64 4]) (by simp [results, Try.results14, go_sem]) rfl ⟨rfl, by unfold Kp; go_grown⟩
  · have hd : decide (l < 0) = false := by simp; omega
    go_enter Try.func14, Try.ntmps14
    go_wp2_with fail
    refine bodyPost_ret (v := .tuple #[.agg #[.int .u32 0, .int .i64 0], .int .i64 4]) (by simp [results, Try.results14, go_sem]) rfl ⟨rfl, by unfold Kp; go_grown⟩
end Go.Proofs.Ytgnhhhcelfaliaa
