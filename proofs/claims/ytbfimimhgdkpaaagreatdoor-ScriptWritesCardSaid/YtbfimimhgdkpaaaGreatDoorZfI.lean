/- Proved here: THE TIED CARD of ScriptReads of the package waywardenlaw26: for every input the law returns true, and each argument reads behind the call as it read before (Rows.ScriptReadsCardSaid). Conditions: the listed variables of the library start as the program's text lays them, which the card ties. -/
import Derived.Test.YtbfimimhgdkpaaaGreatDoorZfH
import Derived.Carry
import Derived.ChangeMaps5
import Derived.Test.YtbfimimhgdkpaaaGreatDoorTie
import Derived.Test.YtbfimimhgdkpaaaGreatDoorCards
import Derived.SevenTiedAt
set_option linter.unusedSimpArgs false
set_option linter.unusedVariables false
/- The reference of package script: Each, Read. No condition but the stated bounds. -/
namespace Go.Proofs.YtbfimimhgdkpaaaGreatDoor
open Go.RowKit

theorem rparted_nl (s : ByteArray) (hs : s.size ≤ 1000000) (w : World) : Calls Tryz.prog 53 #[.string s, .int .u8 10] w fun e w' => ∃ v, e = .returned v ∧ Own w' w.heap.size 9 1 strE v (parted 10 s.data.toList) ∧ Kp w w' := rparted_any s hs 10 w
/-- An event with its line's number, its bytes a slice. -/
def oneE (x : (Nat × Ev) × (Option Addr × Nat)) : List Value := .int .i64 (x.1.1 : Nat) :: (evC x.1.2 (.slice x.2.1 x.1.2.bytes.length x.2.2)).toList
theorem oneE_len (x : (Nat × Ev) × (Option Addr × Nat)) : (oneE x).length = 8 := rfl
theorem oneE_one (x : (Nat × Ev) × (Option Addr × Nat)) : ∀ u ∈ oneE x, u.oneCell' = true := by
  intro u hu
  simp only [oneE, evC, List.mem_cons, List.not_mem_nil, or_false] at hu
  rcases hu with rfl | rfl | rfl | rfl | rfl | rfl | rfl | rfl <;> rfl
theorem EOne : ElemOf Tryz.prog 59 66 (.agg #[.int .i64 0, .int .i64 0, .int .i64 0, .int .i64 0, .int .i64 0, .int .i64 0, .int .u32 0, .slice none 0 0]) 8 80 := ⟨Tryz.underlying59, by kernel_rfl, rfl, by decide⟩
def OneB (base : Nat) (ob : Option Nat) (V : World) (x : (Nat × Ev) × (Option Addr × Nat)) : Prop := EvB base ob V (x.1.2, x.2)
def OnesAt (w : World) (A : Option Addr) (l : List (Nat × Ev)) : Prop := ∃ bs : List ((Nat × Ev) × (Option Addr × Nat)), bs.map (·.1) = l ∧ Rd w 8 oneE A bs ∧ ∀ x ∈ bs, Rd w 1 byteE x.2.1 x.1.2.bytes
theorem OnesAt.keep {w w' : World} {A : Option Addr} {l : List (Nat × Ev)} (h : OnesAt w A l) (k : Kp w w') : OnesAt w' A l := by
  obtain ⟨bs, e, hR, hb⟩ := h
  exact ⟨bs, e, hR.keep k, fun x hx => (hb x hx).keep k⟩
def REachP (s : ByteArray) (w : World) (e : Ending) (w' : World) : Prop :=
  Kp w w' ∧ ∃ A c, e = .returned (.tuple #[.slice A (eachG (parted 10 s.data.toList) 0 []).1.length c, .int .i64 ((eachG (parted 10 s.data.toList) 0 []).2.1 : Nat), .bool (eachG (parted 10 s.data.toList) 0 []).2.2]) ∧ OnesAt w' A (eachG (parted 10 s.data.toList) 0 []).1
theorem eachG_len : ∀ (ps : List (List UInt8)) (n : Nat) (acc : List (Nat × Ev)), (eachG ps n acc).1.length ≤ acc.length + ps.length
  | [], n, acc => by simp [eachG]
  | [x], n, acc => by simp [eachG]
  | x :: y :: r, n, acc => by
    rw [eachG]
    split
    · have := eachG_len (y :: r) (n + 1) acc
      simp at this ⊢; omega
    · split
      · simp
      · have := eachG_len (y :: r) (n + 1) (acc ++ [(n, ‹Ev›)])
        simp at this ⊢; omega
structure REI (w : World) (ps : List (List UInt8)) (b o : Nat) (q : List (Nat × Ev) × Nat × Bool) (base i : Nat) (v : Value) (V : World) : Prop where
  kp : Kp w V
  wd : Rd V 1 strE (some ⟨b, o, none⟩) ps
  nb : b < base
  bs : ∃ bs : List ((Nat × Ev) × (Option Addr × Nat)), Own V base 66 8 oneE v bs ∧ (∀ x ∈ bs, OneB base v.ownBlock V x) ∧ eachG (ps.drop i) i (bs.map (·.1)) = q ∧ bs.length ≤ i
set_option maxRecDepth 100000 in
set_option maxHeartbeats 4000000 in
theorem reach_any (s : ByteArray) (hs : s.size ≤ 1000000) (w : World) : Calls Tryz.prog 29 #[.string s] w (REachP s w) := by
  have hlen : s.data.toList.length = s.size := by rw [Array.length_toList]; rfl
  have hsub : ∀ u ∈ parted 10 s.data.toList, u.length ≤ 1000000 := fun u hu => by have := parted_sub 10 _ u hu; omega
  have hpl := parted_len 10 s.data.toList
  have hne := parted_ne 10 s.data.toList
  obtain ⟨q, hq⟩ : ∃ q, eachG (parted 10 s.data.toList) 0 [] = q := ⟨_, rfl⟩
  unfold REachP
  rw [hq]
  have hown0 := rparted_nl s hs
  obtain ⟨ps, hps⟩ : ∃ ps, parted 10 s.data.toList = ps := ⟨_, rfl⟩
  rw [hps] at hown0 hq hsub hpl hne
  have Hq := Lib.hid hq
  have Hsub := Lib.hid hsub
  have Hown := Lib.hid hown0
  have hp1 : 0 < ps.length := List.length_pos_iff.2 hne
  have hpm : ps.length ≤ 1000001 := by omega
  clear hq hsub hown0 hps hpl hne hlen
  obtain ⟨N, hN⟩ : ∃ N, ps.length = N := ⟨_, rfl⟩
  go_enter Tryz.func29, Tryz.ntmps29
  go_wp2_with fail
  refine (Hown.out w).mono ?_
  rintro e w1 ⟨v, rfl, hown, hK1⟩
  obtain ⟨A, c, rfl⟩ := hown.form
  rw [hN] at hp1 hpm ⊢
  have HN := Lib.hid hN
  clear hN
  have hRw := hown.rdAt (by decide) strE_len
  obtain ⟨b, o, rfl, hcw⟩ := str_at hRw (k := 0) (by rw [HN.out]; exact hp1)
  have hbl := World.block_lt_of_cell? w1 _ hcw
  simp only at hbl
  have HR0 : Hid (REI w1 ps b o q w1.heap.size 0 (.slice none 0 0) w1) := Lib.hid ⟨Kp.refl _, hRw, hbl, [], Own.nil _ _ _ _ _, by simp, by rw [List.drop_zero]; exact Hq.out, by simp⟩
  clear hRw hown hcw Hown Hq
  have hln1 : (0 : Int) < (N : Int) := by omega
  go_wp2_with fail
  go_loopw [5, 7] (fun v i wr => ∃ n : Nat, n + 1 ≤ N ∧ i = .int .i64 n ∧ Hid (REI w1 ps b o q w1.heap.size n v wr)) (fun _ i _ => N - (intOf i).toNat)
  case atStart => exact ⟨0, by omega, rfl, HR0⟩
  case round =>
    obtain ⟨n, hn, rfl, R⟩ := hrel
    obtain ⟨bs, C2, C3, C4, C5⟩ := R.out.bs
    obtain ⟨Av, cv, rfl⟩ := C2.form
    obtain ⟨b', o', hbo, hcn⟩ := str_at R.out.wd (k := n) (by rw [HN.out]; omega)
    obtain ⟨rfl, rfl⟩ : b = b' ∧ o = o' := by injection hbo with hbo; injection hbo with h1 h2; exact ⟨h1, h2⟩
    have hll := Hsub.out (ps[n]'(by rw [HN.out]; omega)) (List.getElem_mem _)
    obtain ⟨l, hl⟩ : ∃ l, ps[n]'(by rw [HN.out]; omega) = l := ⟨_, rfl⟩
    rw [hl] at hcn hll
    have hkp := R.out.kp
    have hnb := R.out.nb
    have n0 : (0 : Int) ≤ (n : Int) := by omega
    have n1 : (n : Int) < (N : Int) := by omega
    have hwN : IntKind.i64.wrap ((N : Int) - 1) = (N : Int) - 1 := by simp [IntKind.wrap, IntKind.bits, IntKind.signed]; omega
    clear hbo
    by_cases hlt : n + 1 < N
    · have g1 : (n : Int) < (N : Int) - 1 := by omega
      have hdr : ps.drop n = l :: ps.drop (n + 1) := by rw [List.drop_eq_getElem_cons (by rw [HN.out]; omega), hl]
      obtain ⟨y, r, hyr⟩ : ∃ y r, ps.drop (n + 1) = y :: r := ⟨_, _, List.drop_eq_getElem_cons (by rw [HN.out]; exact hlt)⟩
      rw [hdr, hyr, eachG, ← hyr] at C4
      clear hdr hyr hl
      by_cases hle : l = []
      · rw [if_pos hle] at C4
        have hb : (strB l).toList.isEmpty = true := by rw [Lib.toList_data, hle]; rfl
        have hb2 : l.isEmpty = true := by rw [hle]; rfl
        have hn9 : (n : Int) + 1 ≤ 9223372036854775807 := by omega
        have Hn : Hid (REI w1 ps b o q w1.heap.size (n + 1) (.slice Av bs.length cv) wr) := Lib.hid ⟨hkp, R.out.wd, hnb, bs, C2, C3, C4, by omega⟩
        clear C4 hle C2 C3 R
        go_wp2_with fail
        go_roundw
        case rel => exact ⟨n + 1, by omega, by go_num, Hn⟩
        case measure => simp [intOf]; omega
      · rw [if_neg hle] at C4
        have hb : (strB l).toList.isEmpty = false := by rw [Lib.toList_data]; simpa using hle
        have hb2 : l.isEmpty = false := by simpa using hle
        clear hle
        go_wp2_with fail
        refine (rparse_fresh (strB l) (by show l.toArray.size ≤ _; simpa using hll) wr).mono ?_
        rintro e w3 ⟨K3, hY, hN⟩
        rw [strB_list] at hY hN
        cases hpe : parseE l with
        | none =>
          rw [hpe] at C4
          obtain rfl := hN hpe
          simp only at C4
          have Hq := Lib.hid C4
          clear C4 hY hN hpe
          go_wp2_with fail
          refine bodyPost_ret (v := .tuple #[.slice Av bs.length cv, .int .i64 (n : Nat), .bool true]) (by simp [results, Tryz.results29, go_sem]) rfl ⟨(hK1.trans hkp).trans (K3.alloc _), Av, cv, ?_, bs, ?_, (C2.rdAt (by decide) oneE_len).keep (K3.alloc _), fun x hx => (C3 x hx).rd.keep (K3.alloc _)⟩
          · rw [← Hq.out, List.length_map]
          · rw [← Hq.out]
        | some t =>
          rw [hpe] at C4
          simp only at C4
          obtain ⟨A3, c3, rfl, hR3, hA3⟩ := hY t hpe
          have Hq := Lib.hid C4
          clear C4 hY hN hpe
          have OW : ∀ x, Own (w3.alloc x) w1.heap.size 66 8 oneE (.slice Av bs.length cv) bs := fun x => (C2.keep K3).alloc x
          have s3 := K3.size
          have s1 := hkp.size
          have HOW := Lib.hid OW
          clear OW
          have bl5 : bs.length + 1 ≤ 1000001 := by omega
          have s1 := hkp.size
          go_wp2_with (at_builtin; go_must (refine wpList_appb EOne oneE_len oneE_one rfl _ _ rfl ((n, t), (A3, c3)) rfl (HOW.out _) (by simp; omega) rfl (by simp) rfl (by omega) ?_); intro v5 w5 hown5 hg5 hob5; obtain ⟨A5, c5, rfl⟩ := hown5.form1)
          have hn9 : (n : Int) + 1 ≤ 9223372036854775807 := by omega
          have K5 : Kp w1 w5 := ((hkp.trans K3).alloc _).grown hg5 (fun q hq => by have := (World.ownsRow.lt C2 q hq).1; omega)
          have hbl5 := hnb
          have hob6 : (Value.slice A5 (bs.length + 1) c5).ownBlock = (Value.slice Av bs.length cv).ownBlock ∨ ∃ n, (Value.slice A5 (bs.length + 1) c5).ownBlock = some n ∧ w3.heap.size + 1 ≤ n := hob5.imp id (fun h => ⟨_, h, by simp⟩)
          have wd5 : Rd w5 1 strE (some ⟨b, o, none⟩) ps := fun i hi => by
            obtain ⟨b2, o2, e2, hc2⟩ := ((R.out.wd.keep K3).keep ((Kp.refl _).alloc _)) i hi
            refine ⟨b2, o2, e2, fun j u hu => ?_⟩
            have h1 := hc2 j u hu
            injection e2 with e2
            injection e2 with e2
            exact (World.cell?_of_block (hg5.block b2 (World.block_lt_of_cell? _ _ h1) (Own.ne C2 (by omega)))).trans h1
          have hev : ∀ z ∈ bs ++ [((n, t), (A3, c3))], OneB w1.heap.size (Value.slice A5 (bs.length + 1) c5).ownBlock w5 z := by
            intro z hz
            rcases List.mem_append.1 hz with hz | hz
            · exact EvB.grown ((EvB.keep (C3 z hz) K3).keep ((Kp.refl _).alloc _)) hg5 (by simpa using hob6)
            · rw [List.mem_singleton] at hz
              subst hz
              have hn3 : EvB w1.heap.size (Value.slice Av bs.length cv).ownBlock w3 (t, A3, c3) := ⟨hR3, fun hl b o e => by
                have h1 := hA3 b o e
                have h2 := hkp.size
                refine ⟨by omega, fun e2 => ?_⟩
                have := (World.ownsRow.lt C2 b e2.symm).2
                omega⟩
              exact EvB.grown (hn3.keep ((Kp.refl _).alloc _)) hg5 (by simpa using hob6)
          have Hn : Hid (REI w1 ps b o q w1.heap.size (n + 1) (.slice A5 (bs.length + 1) c5) w5) := Lib.hid ⟨K5, wd5, hnb, bs ++ [((n, t), (A3, c3))], hown5, hev, by rw [List.map_append]; exact Hq.out, by simp; omega⟩
          clear hev wd5 hob5 hob6 hg5 hown5 C2 C3 R
          go_wp2_with fail
          go_roundw
          case rel => exact ⟨n + 1, by omega, by go_num, Hn⟩
          case measure => simp [intOf]; omega
    · obtain rfl : N = n + 1 := by omega
      have hdr : ps.drop n = [l] := by
        rw [List.drop_eq_getElem_cons (by rw [HN.out]; omega), hl, List.drop_eq_nil_of_le (by rw [HN.out]; omega)]
      rw [hdr, eachG] at C4
      have Hq := Lib.hid C4
      have hwn : IntKind.i64.wrap (n : Int) = (n : Int) := by simp [IntKind.wrap, IntKind.bits, IntKind.signed]; omega
      clear C4 hdr hl hlt
      go_wp2_with fail
      go_quiet (fail)
      go_wp2_with fail
      have hbl : (!l.isEmpty) = decide (l ≠ []) := by cases l <;> simp
      refine bodyPost_ret (v := .tuple #[.slice Av bs.length cv, .int .i64 (n : Nat), .bool (!l.isEmpty)]) (by simp [results, Tryz.results29, go_sem]) rfl ⟨(hK1.trans hkp).drewN _, Av, cv, ?_, bs, ?_, (C2.rdAt (by decide) oneE_len).keep ((Kp.refl _).drewN _), fun x hx => (C3 x hx).rd.keep ((Kp.refl _).drewN _)⟩
      · rw [← Hq.out, List.length_map, hbl]
      · rw [← Hq.out]
def RReadP (s : ByteArray) (w : World) (e : Ending) (w' : World) : Prop :=
  Kp w w' ∧ ∃ A c, e = .returned (.tuple #[.slice A (refReadE s.data.toList).1.length c, .int .i64 ((refReadE s.data.toList).2.1 : Nat), .int .i64 (refReadE s.data.toList).2.2]) ∧ EvsAt w' A (refReadE s.data.toList).1
theorem one_at {w : World} {A : Option Addr} {bs : List ((Nat × Ev) × (Option Addr × Nat))} (h : Rd w 8 oneE A bs) {k : Nat} (hk : k < bs.length) :
    ∃ b off : Nat, A = some ⟨b, off, none⟩ ∧ w.cell? ⟨b, off + k * 8, none⟩ = some (.int .i64 (bs[k].1.1 : Nat)) ∧ w.cell? ⟨b, off + k * 8 + 1, none⟩ = some (.int .i64 bs[k].1.2.kind) ∧ w.cell? ⟨b, off + k * 8 + 2, none⟩ = some (.int .i64 bs[k].1.2.a) ∧ w.cell? ⟨b, off + k * 8 + 3, none⟩ = some (.int .i64 bs[k].1.2.b) ∧ w.cell? ⟨b, off + k * 8 + 4, none⟩ = some (.int .i64 bs[k].1.2.c) ∧ w.cell? ⟨b, off + k * 8 + 5, none⟩ = some (.int .i64 bs[k].1.2.draw) ∧ w.cell? ⟨b, off + k * 8 + 6, none⟩ = some (.int .u32 (bs[k].1.2.src : Int)) ∧ w.cell? ⟨b, off + k * 8 + 7, none⟩ = some (.slice bs[k].2.1 bs[k].1.2.bytes.length bs[k].2.2) := by
  obtain ⟨b, off, e, hc⟩ := h k hk
  exact ⟨b, off, e, by simpa using hc 0 _ rfl, by simpa using hc 1 _ rfl, by simpa using hc 2 _ rfl, by simpa using hc 3 _ rfl, by simpa using hc 4 _ rfl, by simpa using hc 5 _ rfl, by simpa using hc 6 _ rfl, by simpa using hc 7 _ rfl⟩
structure RRI (w : World) (A : Option Addr) (bs : List ((Nat × Ev) × (Option Addr × Nat))) (k : Nat) (v : Value) (V : World) : Prop where
  kp : Kp w V
  own : Own V w.heap.size 27 7 esE v ((bs.take k).map (fun x => (x.1.2, x.2)))
set_option maxRecDepth 100000 in
set_option maxHeartbeats 4000000 in
theorem rread_any (s : ByteArray) (hs : s.size ≤ 1000000) (w : World) : Calls Tryz.prog 27 #[.string s] w (RReadP s w) := by
  have hql := eachG_len (parted 10 s.data.toList) 0 []
  have hpl := parted_len 10 s.data.toList
  have hlen : s.data.toList.length = s.size := by rw [Array.length_toList]; rfl
  have hea := reach_any s hs
  unfold REachP at hea
  unfold RReadP refReadE
  obtain ⟨q, hq⟩ : ∃ q, eachG (parted 10 s.data.toList) 0 [] = q := ⟨_, rfl⟩
  rw [hq] at hea hql ⊢
  have Hea := Lib.hid hea
  have hl1 : q.1.length ≤ 1000001 := by simp at hql; omega
  clear hea hq hql hpl hlen
  obtain ⟨l, nl, bl⟩ := q
  simp only at hl1
  go_enter Tryz.func27, Tryz.ntmps27
  go_wp2_with fail
  refine (Hea.out w).mono ?_
  rintro e w1 ⟨hK1, A, c, rfl, bs, hbs, hR, hB⟩
  have hbl : l.length = bs.length := by rw [← hbs, List.length_map]
  rw [hbl] at hl1 ⊢
  have HB := Lib.hid hB
  have HR := Lib.hid hR
  have Hbs := Lib.hid hbs
  have Hbl := Lib.hid hbl
  clear hB hR hbs hbl Hea
  by_cases h5 : 500 < bs.length
  · have hi : (500 : Int) < (bs.length : Int) := by omega
    obtain ⟨b, off, rfl, x0, x1⟩ := one_at HR.out h5
    have Hg := Lib.hid (show readR (l, nl, bl) = ([], bs[500].1.1, 3) by
      unfold readR
      rw [if_pos (by simp only; rw [Hbl.out]; exact h5)]
      have : l.getD 500 (0, ev0 0) = bs[500].1 := by
        rw [List.getD_eq_getElem?_getD, ← Hbs.out, List.getElem?_map, List.getElem?_eq_getElem h5]; rfl
      simp only [this])
    clear x1
    go_wp2_with fail
    go_quiet (fail)
    go_wp2_with fail
    refine bodyPost_ret (v := .tuple #[.slice none 0 0, .int .i64 (bs[500].1.1 : Nat), .int .i64 3]) (by simp [results, Tryz.results27, go_sem]) rfl ⟨hK1.drewN _, none, 0, ?_, ?_⟩
    · rw [Hg.out]; rfl
    · rw [Hg.out]; exact ⟨[], rfl, Rd.nil _ _ _ _, by simp⟩
  · have hi : (bs.length : Int) ≤ 500 := by omega
    have Hg := Lib.hid (readR_mk (l := l) (by rw [Hbl.out]; omega) nl bl)
    cases bl with
    | true =>
      go_wp2_with fail
      refine bodyPost_ret (v := .tuple #[.slice none 0 0, .int .i64 (nl : Nat), .int .i64 260]) (by simp [results, Tryz.results27, go_sem]) rfl ⟨hK1, none, 0, ?_, ?_⟩
      · rw [Hg.out]; rfl
      · rw [Hg.out]; exact ⟨[], rfl, Rd.nil _ _ _ _, by simp⟩
    | false =>
      go_wp2_with fail
      have HR0 : Hid (RRI w1 A bs 0 (.slice none 0 0) w1) := Lib.hid ⟨Kp.refl _, Own.nil _ _ _ _ _⟩
      go_loopw [8, 9] (fun v i wr => ∃ k : Nat, k ≤ bs.length ∧ i = .int .i64 k ∧ Hid (RRI w1 A bs k v wr)) (fun _ i _ => bs.length - (intOf i).toNat)
      case atStart => exact ⟨0, Nat.zero_le _, rfl, HR0⟩
      case round =>
        obtain ⟨k, hk, rfl, R⟩ := hrel
        have C2 := R.out.own
        have hkl : ((bs.take k).map (fun x => (x.1.2, x.2))).length = k := by simp; omega
        obtain ⟨Av, cv, hv⟩ := C2.form
        rw [hkl] at hv
        subst hv
        have hkp := R.out.kp
        have s1 := hkp.size
        by_cases hlt : k < bs.length
        · obtain ⟨b, off, rfl, x0, x1, x2, x3, x4, x5, x6, x7⟩ := one_at (HR.out.keep hkp) hlt
          obtain ⟨z, hz⟩ : ∃ z, bs[k] = z := ⟨_, rfl⟩
          rw [hz] at x0 x1 x2 x3 x4 x5 x6 x7
          have Htk := Lib.hid (show (bs.take k).map (fun x => (x.1.2, x.2)) ++ [(z.1.2, z.2)] = (bs.take (k + 1)).map (fun x => (x.1.2, x.2)) by rw [List.take_add_one, List.getElem?_eq_getElem hlt, hz]; simp)
          have HC2 := Lib.hid C2
          have Hkl := Lib.hid hkl
          clear hz hkl C2
          go_wp2_with (at_builtin; go_must (refine wpList_appb EEv esE_len esE_one rfl _ _ rfl (z.1.2, z.2) rfl HC2.out (by omega) rfl (by simp) rfl (by rw [Hkl.out]; omega) ?_); intro v5 w5 hown5 hg5 hob5)
          have K5 : Kp w1 w5 := hkp.grown hg5 (fun q hq => (World.ownsRow.lt HC2.out q hq).1)
          rw [Htk.out] at hown5
          have Hn : Hid (RRI w1 (some ⟨b, off, none⟩) bs (k + 1) v5 w5) := Lib.hid ⟨K5, hown5⟩
          clear hown5 hg5 hob5 HC2 R
          go_roundw
          case rel => exact ⟨k + 1, by omega, by go_num, Hn⟩
          case measure => simp [intOf]; omega
        · obtain rfl : k = bs.length := by omega
          rw [List.take_length] at C2
          go_wp2_with fail
          refine bodyPost_ret (v := .tuple #[.slice Av bs.length cv, .int .i64 (nl : Nat), .int .i64 0]) (by simp [results, Tryz.results27, go_sem]) rfl ⟨hK1.trans hkp, Av, cv, ?_, bs.map (fun x => (x.1.2, x.2)), ?_, C2.rdAt (by decide) esE_len, ?_⟩
          · rw [Hg.out, ← Hbs.out]; simp
          · rw [Hg.out, ← Hbs.out]; simp
          · intro y hy
            obtain ⟨x, hx, rfl⟩ := List.mem_map.1 hy
            exact (HB.out x hx).keep hkp
end Go.Proofs.YtbfimimhgdkpaaaGreatDoor

/- Layer 26: events; ScriptReads, walked. No condition but the library's variables and the stated bounds. -/
namespace Go.Proofs.YtbfimimhgdkpaaaGreatDoor
open Go.RowKit
attribute [local go_sem] Oper.semAt_some

theorem es_at {w : World} {A : Option Addr} {bs : List (Ev × (Option Addr × Nat))} (h : Rd w 7 esE A bs) {k : Nat} (hk : k < bs.length) {x : Ev × (Option Addr × Nat)} (hx : bs[k] = x) :
    ∃ b off : Nat, A = some ⟨b, off, none⟩ ∧ w.cell? ⟨b, off + k * 7, none⟩ = some (.int .i64 x.1.kind) ∧ w.cell? ⟨b, off + k * 7 + 1, none⟩ = some (.int .i64 x.1.a) ∧ w.cell? ⟨b, off + k * 7 + 2, none⟩ = some (.int .i64 x.1.b) ∧ w.cell? ⟨b, off + k * 7 + 3, none⟩ = some (.int .i64 x.1.c) ∧ w.cell? ⟨b, off + k * 7 + 4, none⟩ = some (.int .i64 x.1.draw) ∧ w.cell? ⟨b, off + k * 7 + 5, none⟩ = some (.int .u32 (x.1.src : Int)) ∧ w.cell? ⟨b, off + k * 7 + 6, none⟩ = some (.slice x.2.1 x.1.bytes.length x.2.2) := by
  subst hx
  obtain ⟨b, off, e, hc⟩ := h k hk
  exact ⟨b, off, e, by simpa using hc 0 _ rfl, by simpa using hc 1 _ rfl, by simpa using hc 2 _ rfl, by simpa using hc 3 _ rfl, by simpa using hc 4 _ rfl, by simpa using hc 5 _ rfl, by simpa using hc 6 _ rfl⟩
set_option maxRecDepth 100000 in
set_option maxHeartbeats 4000000 in
theorem events_any (A B : Option Addr) (c d : Nat) (l m : List Ev) (w : World) (hl : l.length ≤ 1000000) (hA : EvsAt w A l) (hB : EvsAt w B m) :
    Calls Tryz.prog 28 #[.slice A l.length c, .slice B m.length d] w fun e w' => e = .returned (.bool (decide (l = m))) ∧ Kp w w' := by
  by_cases hlm : l.length = m.length
  case neg =>
    have hne : ((l.length : Int) != (m.length : Int)) = true := by rw [bne_iff_ne]; omega
    have hd : decide (l = m) = false := by rw [decide_eq_false_iff_not]; intro h; exact hlm (by rw [h])
    rw [hd]
    clear hlm hd hA hB
    go_enter Tryz.func28, Tryz.ntmps28
    go_wp2_with fail
    go_ret
    exact ⟨rfl, Kp.refl _⟩
  case pos =>
    obtain ⟨bs, hbs, hRA, hbA⟩ := hA
    obtain ⟨ds, hds, hRB, hbB⟩ := hB
    have hb1 : l.length = bs.length := by rw [← hbs, List.length_map]
    have hd1 : m.length = ds.length := by rw [← hds, List.length_map]
    obtain ⟨N, hN⟩ : ∃ N, bs.length = N := ⟨_, rfl⟩
    rw [hd1, hb1, hN] at hlm
    rw [hb1, hN] at hl
    rw [hb1, hd1, hN, ← hlm]
    have HN := Lib.hid hN
    have HM := Lib.hid hlm
    have Hbs := Lib.hid hbs
    have Hds := Lib.hid hds
    have HRA := Lib.hid hRA
    have HRB := Lib.hid hRB
    have HbA := Lib.hid hbA
    have HbB := Lib.hid hbB
    have hne : ((N : Int) != (N : Int)) = false := by simp
    clear hbs hds hRA hRB hbA hbB hb1 hd1 hN hlm
    go_enter Tryz.func28, Tryz.ntmps28
    go_wp2_with fail
    go_loopw [5] (fun i wr => ∃ n : Nat, n ≤ N ∧ i = .int .i64 n ∧ Hid (l.take n = m.take n) ∧ Hid (Kp w wr)) (fun i _ => N - (intOf i).toNat)
    case atStart => exact ⟨0, Nat.zero_le _, rfl, Lib.hid (by simp), Lib.hid (Kp.refl _)⟩
    case round =>
      obtain ⟨n, hn, rfl, hH, hK⟩ := hrel
      by_cases hlt : n < N
      · have hnb : n < bs.length := by rw [HN.out]; exact hlt
        have hnd : n < ds.length := by rw [← HM.out]; exact hlt
        obtain ⟨x, hx⟩ : ∃ x, bs[n] = x := ⟨_, rfl⟩
        obtain ⟨y, hy⟩ : ∃ y, ds[n] = y := ⟨_, rfl⟩
        obtain ⟨b, o, rfl, x0, x1, x2, x3, x4, x5, x6⟩ := es_at (HRA.out.keep hK.out) hnb hx
        obtain ⟨b2, o2, rfl, y0, y1, y2, y3, y4, y5, y6⟩ := es_at (HRB.out.keep hK.out) hnd hy
        have hRx : Rd wr 1 byteE x.2.1 x.1.bytes := (HbA.out x (by rw [← hx]; exact List.getElem_mem _)).keep hK.out
        have hRy : Rd wr 1 byteE y.2.1 y.1.bytes := (HbB.out y (by rw [← hy]; exact List.getElem_mem _)).keep hK.out
        have hlx : l[n]? = some x.1 := by rw [← Hbs.out, List.getElem?_map, List.getElem?_eq_getElem hnb, hx]; rfl
        have hmy : m[n]? = some y.1 := by rw [← Hds.out, List.getElem?_map, List.getElem?_eq_getElem hnd, hy]; rfl
        have kd : Kp wr wr.drew := (Kp.refl _).drew
        have n0 : (0 : Int) ≤ (n : Int) := by omega
        have n1 : (n : Int) < (N : Int) := by omega
        by_cases he : x.1 = y.1
        · have hde : decide (x.1 = y.1) = true := by simpa using he
          have Hn := Lib.hid (show l.take (n + 1) = m.take (n + 1) by rw [List.take_add_one, List.take_add_one, hH.out, hlx, hmy, he])
          clear hlx hmy he hx hy hnb hnd hH
          go_wp2_with fail
          go_region_held3 (fun W' => W'.cell? ⟨b, o + n * 7, none⟩ = some (.int .i64 x.1.kind) ∧ W'.cell? ⟨b, o + n * 7 + 1, none⟩ = some (.int .i64 x.1.a) ∧ W'.cell? ⟨b, o + n * 7 + 2, none⟩ = some (.int .i64 x.1.b) ∧ W'.cell? ⟨b, o + n * 7 + 3, none⟩ = some (.int .i64 x.1.c) ∧ W'.cell? ⟨b, o + n * 7 + 4, none⟩ = some (.int .i64 x.1.draw) ∧ W'.cell? ⟨b, o + n * 7 + 5, none⟩ = some (.int .u32 (x.1.src : Int)) ∧ W'.cell? ⟨b, o + n * 7 + 6, none⟩ = some (.slice x.2.1 x.1.bytes.length x.2.2) ∧ W'.cell? ⟨b2, o2 + n * 7, none⟩ = some (.int .i64 y.1.kind) ∧ W'.cell? ⟨b2, o2 + n * 7 + 1, none⟩ = some (.int .i64 y.1.a) ∧ W'.cell? ⟨b2, o2 + n * 7 + 2, none⟩ = some (.int .i64 y.1.b) ∧ W'.cell? ⟨b2, o2 + n * 7 + 3, none⟩ = some (.int .i64 y.1.c) ∧ W'.cell? ⟨b2, o2 + n * 7 + 4, none⟩ = some (.int .i64 y.1.draw) ∧ W'.cell? ⟨b2, o2 + n * 7 + 5, none⟩ = some (.int .u32 (y.1.src : Int)) ∧ W'.cell? ⟨b2, o2 + n * 7 + 6, none⟩ = some (.slice y.2.1 y.1.bytes.length y.2.2) ∧ Kp wr W') (first | (with_reducible exact ⟨Kp.cell kd x0, Kp.cell kd x1, Kp.cell kd x2, Kp.cell kd x3, Kp.cell kd x4, Kp.cell kd x5, Kp.cell kd x6, Kp.cell kd y0, Kp.cell kd y1, Kp.cell kd y2, Kp.cell kd y3, Kp.cell kd y4, Kp.cell kd y5, Kp.cell kd y6, kd⟩) | (with_reducible exact ⟨Kp.cell K2 x0, Kp.cell K2 x1, Kp.cell K2 x2, Kp.cell K2 x3, Kp.cell K2 x4, Kp.cell K2 x5, Kp.cell K2 x6, Kp.cell K2 y0, Kp.cell K2 y1, Kp.cell K2 y2, Kp.cell K2 y3, Kp.cell K2 y4, Kp.cell K2 y5, Kp.cell K2 y6, K2⟩) | fail) (first | (go_at_call 16; refine (rsame_any x.1 y.1 x.2.1 y.2.1 x.2.2 y.2.2 _ (hRx.keep kd) (hRy.keep kd)).mono ?_; rintro e w2 ⟨rfl, K2⟩; rw [hde]; replace K2 := kd.trans K2))
          go_wp2_with fail
          go_roundw
          case rel => exact ⟨n + 1, by omega, by go_num, Hn, Lib.hid (hK.out.trans K2)⟩
          case measure => simp [intOf]; omega
        · have hde : decide (x.1 = y.1) = false := by simpa using he
          have Hf := Lib.hid (show decide (l = m) = false by
            rw [decide_eq_false_iff_not]
            intro h
            rw [h, hmy] at hlx
            injection hlx with hlx
            exact he hlx.symm)
          clear hlx hmy he hx hy hnb hnd hH
          go_wp2_with fail
          go_region_held3 (fun W' => W'.cell? ⟨b, o + n * 7, none⟩ = some (.int .i64 x.1.kind) ∧ W'.cell? ⟨b, o + n * 7 + 1, none⟩ = some (.int .i64 x.1.a) ∧ W'.cell? ⟨b, o + n * 7 + 2, none⟩ = some (.int .i64 x.1.b) ∧ W'.cell? ⟨b, o + n * 7 + 3, none⟩ = some (.int .i64 x.1.c) ∧ W'.cell? ⟨b, o + n * 7 + 4, none⟩ = some (.int .i64 x.1.draw) ∧ W'.cell? ⟨b, o + n * 7 + 5, none⟩ = some (.int .u32 (x.1.src : Int)) ∧ W'.cell? ⟨b, o + n * 7 + 6, none⟩ = some (.slice x.2.1 x.1.bytes.length x.2.2) ∧ W'.cell? ⟨b2, o2 + n * 7, none⟩ = some (.int .i64 y.1.kind) ∧ W'.cell? ⟨b2, o2 + n * 7 + 1, none⟩ = some (.int .i64 y.1.a) ∧ W'.cell? ⟨b2, o2 + n * 7 + 2, none⟩ = some (.int .i64 y.1.b) ∧ W'.cell? ⟨b2, o2 + n * 7 + 3, none⟩ = some (.int .i64 y.1.c) ∧ W'.cell? ⟨b2, o2 + n * 7 + 4, none⟩ = some (.int .i64 y.1.draw) ∧ W'.cell? ⟨b2, o2 + n * 7 + 5, none⟩ = some (.int .u32 (y.1.src : Int)) ∧ W'.cell? ⟨b2, o2 + n * 7 + 6, none⟩ = some (.slice y.2.1 y.1.bytes.length y.2.2) ∧ Kp wr W') (first | (with_reducible exact ⟨Kp.cell kd x0, Kp.cell kd x1, Kp.cell kd x2, Kp.cell kd x3, Kp.cell kd x4, Kp.cell kd x5, Kp.cell kd x6, Kp.cell kd y0, Kp.cell kd y1, Kp.cell kd y2, Kp.cell kd y3, Kp.cell kd y4, Kp.cell kd y5, Kp.cell kd y6, kd⟩) | (with_reducible exact ⟨Kp.cell K2 x0, Kp.cell K2 x1, Kp.cell K2 x2, Kp.cell K2 x3, Kp.cell K2 x4, Kp.cell K2 x5, Kp.cell K2 x6, Kp.cell K2 y0, Kp.cell K2 y1, Kp.cell K2 y2, Kp.cell K2 y3, Kp.cell K2 y4, Kp.cell K2 y5, Kp.cell K2 y6, K2⟩) | fail) (first | (go_at_call 16; refine (rsame_any x.1 y.1 x.2.1 y.2.1 x.2.2 y.2.2 _ (hRx.keep kd) (hRy.keep kd)).mono ?_; rintro e w2 ⟨rfl, K2⟩; rw [hde]; replace K2 := kd.trans K2))
          go_wp2_with fail
          go_ret
          exact ⟨by rw [Hf.out]; rfl, hK.out.trans K2⟩
      · obtain rfl : n = N := by omega
        have Hf := Lib.hid (show decide (l = m) = true by
          rw [decide_eq_true_iff]
          have h := hH.out
          rw [List.take_of_length_le (by rw [← Hbs.out, List.length_map, HN.out]; exact Nat.le_refl _), List.take_of_length_le (by rw [← Hds.out, List.length_map, ← HM.out]; exact Nat.le_refl _)] at h
          exact h)
        go_wp2_with fail
        go_ret
        exact ⟨by rw [Hf.out]; rfl, hK.out⟩
end Go.Proofs.YtbfimimhgdkpaaaGreatDoor

/- Layer 26: ScriptReads, walked. No condition but the library's variables and what the types hold. -/
namespace Go.Proofs.YtbfimimhgdkpaaaGreatDoor
open Go.RowKit
attribute [local go_sem] Oper.semAt_some

theorem func_nil26 (w : World) (f : Fn) (x y : Array Value) : (binOp .eql 63 (.func f x y) .nilFunc).run Tryz.prog w = .ok (.bool false) w := by kernel_rfl
theorem readE_len (s : List UInt8) : (refReadE s).1.length ≤ 500 := by
  unfold refReadE readR
  split
  · simp
  · split
    · simp
    · simp only [List.length_map]; omega
theorem all_eq (s : List UInt8) : (eachG (parted 10 s) 0 []).1 = allL (linesS s) 0 := by rw [eachG_all]; rfl
theorem allL_len : ∀ (L : List (List UInt8 × Bool)) (n : Nat), (allL L n).length ≤ L.length
  | [], _ => by simp [allL]
  | (x, e) :: r, n => by
    rw [allL]
    split
    · simp
    · split
      · have := allL_len r (n + 1); simp; omega
      · split
        · simp
        · have := allL_len r (n + 1); simp; omega
/-- What ScriptReads has laid when it begins to go over the events. -/
structure RsM (w : World) (m : Int) (bx na : Nat) (s : ByteArray) (A : Option Addr) (c : Nat) (bs : List ((Nat × Ev) × (Option Addr × Nat))) (V : World) : Prop where
  kp : Kp w V
  bm : Blk V w.heap.size 3 #[.int .i64 m]
  br : Blk V (w.heap.size + 1) 4 #[.bool false]
  ba : Blk V na 59 #[.slice A bs.length c]
  bx : Blk V bx 9 #[.string s]
  rd : Rd V 8 oneE A bs
  by_ : ∀ x ∈ bs, Rd V 1 byteE x.2.1 x.1.2.bytes
theorem RsM.keep {w : World} {m : Int} {bx na : Nat} {s : ByteArray} {A : Option Addr} {c : Nat} {bs : List ((Nat × Ev) × (Option Addr × Nat))} {V V' : World} (h : RsM w m bx na s A c bs V) (k : Kp V V') : RsM w m bx na s A c bs V' :=
  ⟨h.kp.trans k, h.bm.keep k, h.br.keep k, h.ba.keep k, h.bx.keep k, h.rd.keep k, fun x hx => (h.by_ x hx).keep k⟩
theorem Rd.turn {A : Option Addr} {l : List UInt8} {b B : Nat} {V V' : World} (h : Rd V 1 byteE A l) (hT : Turn b B V V') (hb : ∀ x o, A = some ⟨x, o, none⟩ → B ≤ x) : Rd V' 1 byteE A l := fun i hi => by
  obtain ⟨x, off, e, hc⟩ := h i hi
  exact ⟨x, off, e, fun j u hu => hT.cell (hc j u hu) (.inr (hb x off e))⟩
theorem no_out_round26 {w : World} {I : Nat → World → Prop} {Ix : Code → Nat → World → Prop} {B k : Nat} {W : World} : ¬ LetsOut (rndPostT w I Ix B k W) := fun ⟨_, _, hh⟩ => hh
/-- The count of what was gone over, in its box, and what holds of it. -/
structure RsI (wk : World) (k : Int) (p : Prop) (V : World) : Prop where
  kp : Kp wk V
  nk : Blk V wk.heap.size 3 #[.int .i64 k]
  p : p
/-- What holds between a round's assignment and its body. -/
structure RsJ (wk : World) (k : Int) (p : Prop) (h : Nat) (t : Ev) (A0 : Option Addr) (c0 : Nat) (V : World) : Prop where
  i : RsI wk k p V
  ev : Blk V h 27 (evC t (.slice A0 t.bytes.length c0))
  rd : Rd V 1 byteE A0 t.bytes
theorem RsI.turn {wk : World} {k : Int} {p : Prop} {B : Nat} {V V' : World} (h : RsI wk k p V) (hT : Turn (wk.heap.size + 1) B V V') : RsI wk k p V' :=
  ⟨hT.kp h.kp (by omega), h.nk.turn hT (.inl (by omega)), h.p⟩
theorem heap_alloc_26 {W : World} (r : Nat) (o : Obj) {x : Obj} (h : W.heap[r]? = some x) : (W.alloc o).heap[r]? = some x := by
  rw [Below.heap_alloc W o r (Array.getElem?_eq_some_iff.mp h).1, h]
theorem takes2_26 {W : World} {r s : Nat} (hd : W.heap[r]? = some (.deferred (some []))) (he : W.heap[s]? = some (.deferred (some []))) (hne : s ≠ r) {K : World → Prop} (h : ∀ W', Only [r, s] W W' → K W') :
    Takes [{ target := .collected r, args := #[] }, { target := .collected s, args := #[] }] W K :=
  ⟨r, rfl, hd, s, rfl, (World.putObj_heap_other hne).trans he, h _ (((Only.refl [r, s] W).putObj (by simp) _).putObj (by simp) _)⟩
theorem mark_ne {W : World} {r b : Nat} {t : TypeId} {cs : Array Value} (hd : W.heap[r]? = some (.deferred (some []))) (h : Blk W b t cs) : r ≠ b := fun e => by
  have h2 : W.heap[b]? = some (.cells cs t) := h
  rw [e, h2] at hd
  cases hd
set_option maxRecDepth 100000 in
set_option maxHeartbeats 8000000 in
theorem reads_walk (s : ByteArray) (m : Int) (w : World) (L : LibOk w) : Calls Tryz.prog 7 #[.string s, .int .i64 m] w fun en w' => en = .returned (.bool true) ∧ Kp w w' := by
  have HL := Lib.hid L
  have kw := ((Kp.refl w).alloc (.cells #[.int .i64 m] 3)).alloc (.cells #[.bool false] 4)
  have b1 := (Blk.new w 3 #[.int .i64 m]).alloc (.cells #[.bool false] 4)
  have b2 := Blk.new1 w (.cells #[.int .i64 m] 3) 4 #[.bool false]
  clear L
  by_cases hlong : 3000 < s.size
  · have hi : (3000 : Int) < (s.size : Int) := by omega
    refine calls_of_wp_marks Tryz.func7 rfl ?_; simp only [Tryz.ntmps7, List.size_toArray, List.length_cons, List.length_nil, Nat.reduceAdd, Nat.reduceSub, Array.replicate_succ, Array.replicate_zero, List.push_toArray, List.append_toArray, List.nil_append, List.cons_append]
    go_wp2_with fail
    obtain ⟨W0, hW0, kW, Br⟩ : ∃ W0, (w.alloc (.cells #[.int .i64 m] 3)).alloc (.cells #[.bool false] 4) = W0 ∧ Kp w W0 ∧ Blk W0 (w.heap.size + 1) 4 #[.bool false] := ⟨_, rfl, kw, b2⟩
    rw [hW0]
    clear hW0 kw b1 b2
    refine (works26_any W0 (HL.out.keep kW)).mono ?_
    rintro en w1 ⟨rfl, K1⟩
    have Br := Br.keep K1
    have c0 : w1.cell? ⟨w.heap.size + 1, 0, none⟩ = some (.bool false) := Br.cell 0
    have z0 := Br.frozen 0
    go_wp2_with fail
    have E := Br.set_ 0 (.bool true)
    have f0 : (w1.setCell ⟨w.heap.size + 1, 0, none⟩ (.bool true)).cell? ⟨w.heap.size + 1, 0, none⟩ = some (.bool true) := by simpa using E.cell 0
    refine ⟨.bool true, ?_, rfl, (kW.trans K1).setCell (by simp) _⟩
    simp [results, Tryz.results7, go_sem, f0]
  · have hi : (s.size : Int) ≤ 3000 := by omega
    have hs2 : s.size ≤ 1000000 := by omega
    have hrd := read_any s hs2
    have hrr := rread_any s hs2
    have hre := reach_any s hs2
    unfold ReadP at hrd
    unfold RReadP at hrr
    unfold REachP at hre
    rw [all_eq] at hre
    have hl5 := readE_len s.data.toList
    obtain ⟨q, hq⟩ : ∃ q, refReadE s.data.toList = q := ⟨_, rfl⟩
    obtain ⟨all, hall⟩ : ∃ all, allL (linesS s.data.toList) 0 = all := ⟨_, rfl⟩
    rw [hq] at hrd hrr hl5
    rw [hall] at hre
    have hit := fun bx => eachE1_iter bx s hs2
    have hal : all.length ≤ 1000001 := by
      have h1 := allL_len (linesS s.data.toList) 0
      have h2 := linesS_len s.data.toList
      have h3 : s.data.toList.length = s.size := by rw [Array.length_toList]; rfl
      rw [hall] at h1
      omega
    rw [hall] at hit
    have Hrd := Lib.hid hrd
    have Hrr := Lib.hid hrr
    have Hre := Lib.hid hre
    have Hit := Lib.hid hit
    clear hrd hrr hre hit hq
    obtain ⟨l, n, er⟩ := q
    simp only at hl5
    have Hdl := Lib.hid (fun h : l = l => trivial)
    refine calls_of_wp_marks Tryz.func7 rfl ?_; simp only [Tryz.ntmps7, List.size_toArray, List.length_cons, List.length_nil, Nat.reduceAdd, Nat.reduceSub, Array.replicate_succ, Array.replicate_zero, List.push_toArray, List.append_toArray, List.nil_append, List.cons_append]
    go_wp2_with fail
    obtain ⟨W0, hW0, kW, Bm, Br⟩ : ∃ W0, (w.alloc (.cells #[.int .i64 m] 3)).alloc (.cells #[.bool false] 4) = W0 ∧ Kp w W0 ∧ Blk W0 w.heap.size 3 #[.int .i64 m] ∧ Blk W0 (w.heap.size + 1) 4 #[.bool false] := ⟨_, rfl, kw, b1, b2⟩
    rw [hW0]
    clear hW0 kw b1 b2
    refine (Hrd.out W0 (HL.out.keep kW)).mono ?_
    rintro en w1 ⟨K1, A1, c1, rfl, hE1⟩
    go_wp2_with fail
    refine (Hrr.out w1).mono ?_
    rintro en w2 ⟨K2, A2, c2, rfl, hE2⟩
    go_wp2_with fail
    refine (events_any A1 A2 c1 c2 l l w2 (by omega) (hE1.keep K2) hE2).mono ?_
    rintro en w3 ⟨rfl, K3⟩
    rw [show decide (l = l) = true by simp]
    clear hE1 hE2
    go_wp2_with (first | (go_at_call 13; refine (num26_any _ _).mono ?_; rintro en w' ⟨rfl, rfl⟩))
    refine (Hre.out w3).mono ?_
    rintro en w4 ⟨K4, A3, c3, rfl, bs, hbs, hRo, hBo⟩
    have hbl : all.length = bs.length := by rw [← hbs, List.length_map]
    have Hbl := Lib.hid hbl
    have Hbs := Lib.hid hbs
    have k4 := (((kW.trans K1).trans K2).trans K3).trans K4
    rw [hbl]
    have Bm := (((Bm.keep K1).keep K2).keep K3).keep K4
    have Br := (((Br.keep K1).keep K2).keep K3).keep K4
    have HBo := Lib.hid hBo
    have HRo := Lib.hid hRo
    clear hbl hbs hRo hBo K1 K2 K3 K4 kW hall
    go_wp2_with fail
    obtain ⟨w5, hw5, k5, Ba⟩ : ∃ w5, w4.alloc (.cells #[.slice A3 bs.length c3] 59) = w5 ∧ Kp w4 w5 ∧ Blk w5 w4.heap.size 59 #[.slice A3 bs.length c3] := ⟨_, rfl, (Kp.refl _).alloc _, Blk.new _ _ _⟩
    rw [hw5]
    clear hw5
    refine (eachE_any s w5).mono ?_
    rintro en w6 ⟨rfl, hBx, K6⟩
    have M6 : RsM w m w5.heap.size w4.heap.size s A3 c3 bs w6 := ⟨(k4.trans k5).trans K6, (Bm.keep k5).keep K6, (Br.keep k5).keep K6, Ba.keep K6, hBx, (HRo.out.keep k5).keep K6, fun x hx => ((HBo.out x hx).keep k5).keep K6⟩
    have HM6 := Lib.hid M6
    clear Bm Br Ba HBo HRo hBx k4 k5 K6 M6
    generalize w5.heap.size = bx at HM6
    generalize w4.heap.size = na at HM6
    unfold eachEV
    have hfn := func_nil26
    go_wp2_with fail
    clear hfn
    refine wp_loop_rounds 3 ?_
    rw [rounds_succ]
    obtain ⟨wt, hwt, kt, Nt⟩ : ∃ wt, w6.alloc (.cells #[.int .i64 0] 3) = wt ∧ Kp w6 wt ∧ Blk wt w6.heap.size 3 #[.int .i64 0] := ⟨_, rfl, (Kp.refl _).alloc _, Blk.new _ _ _⟩
    rw [hwt]
    clear hwt
    have c0 : wt.cell? ⟨w6.heap.size, 0, none⟩ = some (.int .i64 0) := Nt.cell 0
    go_wp2_with fail
    obtain ⟨wl, hwl, hKl, Nl, hsl⟩ : ∃ wl, wt.alloc (.cells #[.int .i64 0] 3) = wl ∧ Kp wt wl ∧ Blk wl wt.heap.size 3 #[.int .i64 0] ∧ wl.heap.size = wt.heap.size + 1 := ⟨_, rfl, (Kp.refl _).alloc _, Blk.new _ _ _, by simp⟩
    rw [hwl]
    clear hwl
    have Hsl := Lib.hid hsl
    have Mk := Lib.hid (HM6.out.keep kt)
    have HNt := Lib.hid Nt
    clear hsl c0 Nt
    refine wp_range_joinT (N := all.length) rfl call_eachE1 (Hit.out bx) (fun _ _ _ _ _ h => by obtain ⟨_, _, _, _, _, rfl, _⟩ := h; rfl) (fun _ k V => RsI wt (k : Nat) (0 < k → (k : Int) < m) V) (fun _ k V => RsI wt (k : Nat) ((k : Int) = max 1 m) V) (fun V => RsI wt (min (all.length : Nat) (max 1 m)) True V) ?_ ?_ ?_ ?_ ?_ ?_ ?_ ?_
    · intro B k V V' hB h hT
      rw [Hsl.out] at hT
      exact h.turn hT
    · intro B k V V' hB h hT
      rw [Hsl.out] at hT
      exact h.turn hT
    · intro B k V hB h
      exact ⟨Mk.out.bx.keep h.kp, HL.out.keep (Mk.out.kp.trans h.kp)⟩
    · intro B V hV hB hVB
      exact ⟨hKl.trans hV, Nl.keep hV, fun h => absurd h (by omega)⟩
    · intro B V hB h
      have hp := h.p
      refine ⟨h.kp, ?_, trivial⟩
      rw [show min ((all.length : Nat) : Int) (max 1 m) = ((all.length : Nat) : Int) by rcases Nat.eq_zero_or_pos all.length with h0 | h0 <;> omega]
      exact h.nk
    · intro B k V hB hk0 hkN h
      have hp := h.p
      refine ⟨h.kp, ?_, trivial⟩
      rw [show min ((all.length : Nat) : Int) (max 1 m) = (k : Int) by omega]
      exact h.nk
    · intro l2 B k V vs hk hB hBV h hx
      obtain ⟨nn, tt, A0, c0, hget, rfl, hR0, hF0⟩ := hx
      have hkb : k < bs.length := by rw [← Hbl.out]; exact hk
      obtain ⟨z, hz⟩ : ∃ z, bs[k] = z := ⟨_, rfl⟩
      have hz1 : z.1 = (nn, tt) := by
        have := hget
        rw [← Hbs.out, List.getElem?_map, List.getElem?_eq_getElem hkb, hz] at this
        injection this
      have HJ := Lib.hid (show RsJ wt (k : Nat) (0 < k → (k : Int) < m) V.heap.size tt A0 c0 (V.alloc (.cells (evC tt (.slice A0 tt.bytes.length c0)) 27)) from ⟨h.turn (Turn.of_kp (B := B) ((Kp.refl _).alloc _)), Blk.new _ _ _, hR0.keep ((Kp.refl _).alloc _)⟩)
      have Hsl1 := Hsl.out
      have HF0 := Lib.hid hF0
      have Hz := Lib.hid hz
      have Hz1 := Lib.hid hz1
      have Hp := Lib.hid h.p
      clear hR0 hget h hF0 hz hz1
      gi_wp2_with fail
      refine ⟨Ring.of_kp ((Kp.refl _).alloc _) hBV, RsJ wt (k : Nat) (0 < k → (k : Int) < m) V.heap.size tt A0 c0, HJ.out, ?_, ?_⟩
      · intro U U' j hT
        rw [Hsl.out] at hT
        exact ⟨j.i.turn hT, j.ev.turn hT (.inr hBV), j.rd.turn hT HF0.out⟩
      · intro U j hBU
        clear HJ
        have M := Mk.out.keep j.i.kp
        obtain ⟨b, off, hA, o0, o1, o2, o3, o4, o5, o6, o7⟩ := one_at M.rd hkb
        rw [Hz.out, Hz1.out] at o0 o1 o2 o3 o4 o5 o6 o7
        simp only at o0 o1 o2 o3 o4 o5 o6 o7
        subst hA
        have hRz : Rd U 1 byteE z.2.1 tt.bytes := by
          have := M.by_ z (by rw [← Hz.out]; exact List.getElem_mem _)
          rw [Hz1.out] at this
          exact this
        have n0 : U.cell? ⟨wt.heap.size, 0, none⟩ = some (.int .i64 (k : Nat)) := j.i.nk.cell 0
        have a0 : U.cell? ⟨na, 0, none⟩ = some (.slice (some ⟨b, off, none⟩) bs.length c3) := M.ba.cell 0
        have m0 : U.cell? ⟨w.heap.size, 0, none⟩ = some (.int .i64 m) := M.bm.cell 0
        have t0 : U.cell? ⟨w6.heap.size, 0, none⟩ = some (.int .i64 0) := (HNt.out.keep j.i.kp).cell 0
        have x0 : U.cell? ⟨V.heap.size, 0, none⟩ = some (.int .i64 tt.kind) := j.ev.cell 0
        have x1 : U.cell? ⟨V.heap.size, 1, none⟩ = some (.int .i64 tt.a) := j.ev.cell 1
        have x2 : U.cell? ⟨V.heap.size, 2, none⟩ = some (.int .i64 tt.b) := j.ev.cell 2
        have x3 : U.cell? ⟨V.heap.size, 3, none⟩ = some (.int .i64 tt.c) := j.ev.cell 3
        have x4 : U.cell? ⟨V.heap.size, 4, none⟩ = some (.int .i64 tt.draw) := j.ev.cell 4
        have x5 : U.cell? ⟨V.heap.size, 5, none⟩ = some (.int .u32 (tt.src : Int)) := j.ev.cell 5
        have x6 : U.cell? ⟨V.heap.size, 6, none⟩ = some (.slice A0 tt.bytes.length c0) := j.ev.cell 6
        have hnl : decide ((bs.length : Int) ≤ (k : Int)) = false := by rw [decide_eq_false_iff_not]; omega
        have hi1 : (k : Int) < (bs.length : Int) := by omega
        have hnl2 : decide (bs.length ≤ k) = false := by rw [decide_eq_false_iff_not]; omega
        have HM := Lib.hid M
        have HJ := Lib.hid j
        clear M j
        refine wpIn_block ?_
        gi_wp2_with fail
        refine round_tail 20 (by kernel_rfl) (by kernel_rfl) (by kernel_rfl) (by repeat (first | exact no_out_round26 | refine no_out ?_ | refine no_out_block ?_)) (fun X hX => ?_)
        have KX : Kp U X := by rw [hX]; exact (Kp.refl _).drew
        clear hX
        replace n0 := KX.cell n0
        replace a0 := KX.cell a0
        replace m0 := KX.cell m0
        replace t0 := KX.cell t0
        replace x0 := KX.cell x0
        replace x1 := KX.cell x1
        replace x2 := KX.cell x2
        replace x3 := KX.cell x3
        replace x4 := KX.cell x4
        replace x5 := KX.cell x5
        replace x6 := KX.cell x6
        replace o0 := KX.cell o0
        replace o1 := KX.cell o1
        replace o2 := KX.cell o2
        replace o3 := KX.cell o3
        replace o4 := KX.cell o4
        replace o5 := KX.cell o5
        replace o6 := KX.cell o6
        replace o7 := KX.cell o7
        simp only [List.take_succ_cons, List.take_zero, List.drop_succ_cons, List.drop_zero]
        repeat still_step
        refine wpStill_nil ?_
        clear o0 o1 o2 o3 o4 o5 o6 o7 x0 x1 x2 x3 x4 x5 x6 a0 hnl hi1
        have hkt := kt.size
        go_wp2_with (first | (go_at_call 16; refine (rsame_any tt tt A0 z.2.1 c0 z.2.2 _ (HJ.out.rd.keep KX) (hRz.keep KX)).mono ?_; rintro e X2 ⟨rfl, KS⟩; rw [show decide (tt = tt) = true by simp]))
        have K2 : Kp U X2 := KX.trans KS
        replace n0 := KS.cell n0
        replace m0 := KS.cell m0
        replace t0 := KS.cell t0
        have J2 := HJ.out.i.nk.keep K2
        have z2 := J2.frozen 0
        have hnt : ¬ wt.heap.size = w6.heap.size := by have := HNt.out.lt; omega
        have hnt2 : ¬ w6.heap.size = wt.heap.size := by have := HNt.out.lt; omega
        have hnw : ¬ wt.heap.size = w.heap.size := by have := HM6.out.bm.lt; omega
        have hnw2 : ¬ w.heap.size = wt.heap.size := by have := HM6.out.bm.lt; omega
        have hk9 : (k : Int) + 1 ≤ 9223372036854775807 := by omega
        have Hn1 := Lib.hid (show Blk (X2.setCell ⟨wt.heap.size, 0, none⟩ (.int .i64 ((k : Int) + 1))) wt.heap.size 3 #[.int .i64 ((k : Int) + 1)] by simpa using J2.set_ 0 (.int .i64 ((k : Int) + 1)))
        have Hk1 := Lib.hid (show Kp wt (X2.setCell ⟨wt.heap.size, 0, none⟩ (.int .i64 ((k : Int) + 1))) from (HJ.out.i.kp.trans K2).setCell (by simp) _)
        have HR1 := Lib.hid (show Ring wl.heap.size B U (X2.setCell ⟨wt.heap.size, 0, none⟩ (.int .i64 ((k : Int) + 1))) from (Ring.of_kp K2 hBU).setCell (.inl (by show wt.heap.size < wl.heap.size; omega)) _)
        have HkB := Lib.hid (show (k : Int) + 1 = ((k + 1 : Nat) : Int) by omega)
        clear J2
        by_cases hm : m ≤ (k : Int) + 1
        · have hd : decide (m ≤ (k : Int) + 1) = true := by simpa using hm
          gi_wp2_with fail
          refine ⟨HR1.out, rfl, Hk1.out, ?_, ?_⟩
          · rw [← HkB.out]; exact Hn1.out
          · have := Hp.out; omega
        · have hd : decide (m ≤ (k : Int) + 1) = false := by simpa using hm
          gi_wp2_with fail
          refine ⟨HR1.out, Hk1.out, ?_, ?_⟩
          · rw [← HkB.out]; exact Hn1.out
          · intro _; omega
    · intro W hS hd
      obtain ⟨j, hj⟩ : ∃ j, min ((all.length : Nat) : Int) (max 1 m) = j := ⟨_, rfl⟩
      rw [hj] at hS
      have Hj := Lib.hid hj; clear hj
      have HS := Lib.hid hS
      have M := Mk.out.keep hS.kp
      have T0 := HNt.out.keep hS.kp
      have n0 : W.cell? ⟨wt.heap.size, 0, none⟩ = some (.int .i64 j) := hS.nk.cell 0
      have t0 : W.cell? ⟨w6.heap.size, 0, none⟩ = some (.int .i64 0) := T0.cell 0
      have m0 : W.cell? ⟨w.heap.size, 0, none⟩ = some (.int .i64 m) := M.bm.cell 0
      have a0 : W.cell? ⟨na, 0, none⟩ = some (.slice A3 bs.length c3) := M.ba.cell 0
      have z0 := T0.frozen 0
      have HM := Lib.hid M
      have HT0 := Lib.hid T0
      have Hd := Lib.hid hd
      have hjm := Hj.out
      rw [Hbl.out] at hjm
      clear hS hd M T0 Nl hKl
      go_wp2_with fail
      all_goals
       clear hjm
       have HK1 := Lib.hid ((Kp.refl W).alloc (.cells #[.int .i64 1] 3))
       have HT1 := Lib.hid (Blk.new W 3 #[.int .i64 1])
       have HD1 := Lib.hid (show (W.alloc (.cells #[.int .i64 1] 3)).heap[wl.heap.size]? = some (.deferred (some [])) from heap_alloc_26 _ _ Hd.out)
       have HsW := Lib.hid (show (W.alloc (.cells #[.int .i64 1] 3)).heap.size = W.heap.size + 1 by simp)
       have t1 : (W.alloc (.cells #[.int .i64 1] 3)).cell? ⟨W.heap.size, 0, none⟩ = some (.int .i64 1) := HT1.out.cell 0
       clear n0 t0 m0 a0 z0 HT0
       generalize W.alloc (.cells #[.int .i64 1] 3) = W1 at HK1 HT1 HD1 HsW t1 ⊢
       generalize hr : W.heap.size = r at *
       rw [rounds_succ]
       go_wp2_with fail
       have Mk2 := Lib.hid (HM.out.keep HK1.out)
       obtain ⟨wm, hwm, hKm, Nm, hsm⟩ : ∃ wm, W1.alloc (.cells #[.int .i64 0] 3) = wm ∧ Kp W1 wm ∧ Blk wm W1.heap.size 3 #[.int .i64 0] ∧ wm.heap.size = W1.heap.size + 1 := ⟨_, rfl, (Kp.refl _).alloc _, Blk.new _ _ _, by simp⟩
       rw [hwm]
       clear hwm
       have Hsm := Lib.hid hsm
       clear hsm t1
       refine wp_range_joinT (N := all.length) rfl call_eachE1 (Hit.out bx) (fun _ _ _ _ _ h => by obtain ⟨_, _, _, _, _, rfl, _⟩ := h; rfl) (fun _ k V => RsI W1 (k : Nat) True V) (fun _ k V => RsI W1 (k : Nat) False V) (fun V => RsI W1 (all.length : Nat) True V) ?_ ?_ ?_ ?_ ?_ ?_ ?_ ?_
       · intro B k V V' hB h hT
         rw [Hsm.out] at hT
         exact h.turn hT
       · intro B k V V' hB h hT
         rw [Hsm.out] at hT
         exact h.turn hT
       · intro B k V hB h
         exact ⟨Mk2.out.bx.keep h.kp, HL.out.keep (Mk2.out.kp.trans h.kp)⟩
       · intro B V hV hB hVB
         exact ⟨hKm.trans hV, Nm.keep hV, trivial⟩
       · intro B V hB h
         exact ⟨h.kp, h.nk, trivial⟩
       · intro B k V hB hk0 hkN h
         exact h.p.elim
       · intro l2 B k V vs hk hB hBV h hx
         obtain ⟨nn, tt, A0, c0, hget, rfl, hR0, hF0⟩ := hx
         have hkb : k < bs.length := by rw [← Hbl.out]; exact hk
         obtain ⟨z, hz⟩ : ∃ z, bs[k] = z := ⟨_, rfl⟩
         have hz1 : z.1 = (nn, tt) := by
           have := hget
           rw [← Hbs.out, List.getElem?_map, List.getElem?_eq_getElem hkb, hz] at this
           injection this
         have HJ := Lib.hid (show RsJ W1 (k : Nat) True V.heap.size tt A0 c0 (V.alloc (.cells (evC tt (.slice A0 tt.bytes.length c0)) 27)) from ⟨h.turn (Turn.of_kp (B := B) ((Kp.refl _).alloc _)), Blk.new _ _ _, hR0.keep ((Kp.refl _).alloc _)⟩)
         have Hsm1 := Hsm.out
         have HF0 := Lib.hid hF0
         have Hz := Lib.hid hz
         have Hz1 := Lib.hid hz1
         have Hp := Lib.hid h.p
         clear hR0 hget h hF0 hz hz1
         gi_wp2_with fail
         refine ⟨Ring.of_kp ((Kp.refl _).alloc _) hBV, RsJ W1 (k : Nat) True V.heap.size tt A0 c0, HJ.out, ?_, ?_⟩
         · intro U U' j hT
           rw [Hsm.out] at hT
           exact ⟨j.i.turn hT, j.ev.turn hT (.inr hBV), j.rd.turn hT HF0.out⟩
         · intro U j hBU
           clear HJ
           have M := Mk2.out.keep j.i.kp
           obtain ⟨b, off, hA, o0, o1, o2, o3, o4, o5, o6, o7⟩ := one_at M.rd hkb
           rw [Hz.out, Hz1.out] at o0 o1 o2 o3 o4 o5 o6 o7
           simp only at o0 o1 o2 o3 o4 o5 o6 o7
           subst hA
           have hRz : Rd U 1 byteE z.2.1 tt.bytes := by
             have := M.by_ z (by rw [← Hz.out]; exact List.getElem_mem _)
             rw [Hz1.out] at this
             exact this
           have n0 : U.cell? ⟨W1.heap.size, 0, none⟩ = some (.int .i64 (k : Nat)) := j.i.nk.cell 0
           have a0 : U.cell? ⟨na, 0, none⟩ = some (.slice (some ⟨b, off, none⟩) bs.length c3) := M.ba.cell 0
           have m0 : U.cell? ⟨w.heap.size, 0, none⟩ = some (.int .i64 m) := M.bm.cell 0
           have t0 : U.cell? ⟨r, 0, none⟩ = some (.int .i64 1) := (HT1.out.keep j.i.kp).cell 0
           have x0 : U.cell? ⟨V.heap.size, 0, none⟩ = some (.int .i64 tt.kind) := j.ev.cell 0
           have x1 : U.cell? ⟨V.heap.size, 1, none⟩ = some (.int .i64 tt.a) := j.ev.cell 1
           have x2 : U.cell? ⟨V.heap.size, 2, none⟩ = some (.int .i64 tt.b) := j.ev.cell 2
           have x3 : U.cell? ⟨V.heap.size, 3, none⟩ = some (.int .i64 tt.c) := j.ev.cell 3
           have x4 : U.cell? ⟨V.heap.size, 4, none⟩ = some (.int .i64 tt.draw) := j.ev.cell 4
           have x5 : U.cell? ⟨V.heap.size, 5, none⟩ = some (.int .u32 (tt.src : Int)) := j.ev.cell 5
           have x6 : U.cell? ⟨V.heap.size, 6, none⟩ = some (.slice A0 tt.bytes.length c0) := j.ev.cell 6
           have hnl : decide ((bs.length : Int) ≤ (k : Int)) = false := by rw [decide_eq_false_iff_not]; omega
           have hi1 : (k : Int) < (bs.length : Int) := by omega
           have hnl2 : decide (bs.length ≤ k) = false := by rw [decide_eq_false_iff_not]; omega
           have HM := Lib.hid M
           have HJ := Lib.hid j
           clear M j
           refine wpIn_block ?_
           gi_wp2_with fail
           refine round_tail 20 (by kernel_rfl) (by kernel_rfl) (by kernel_rfl) (by repeat (first | exact no_out_round26 | refine no_out ?_ | refine no_out_block ?_)) (fun X hX => ?_)
           have KX : Kp U X := by rw [hX]; exact (Kp.refl _).drew
           clear hX
           replace n0 := KX.cell n0
           replace a0 := KX.cell a0
           replace m0 := KX.cell m0
           replace t0 := KX.cell t0
           replace x0 := KX.cell x0
           replace x1 := KX.cell x1
           replace x2 := KX.cell x2
           replace x3 := KX.cell x3
           replace x4 := KX.cell x4
           replace x5 := KX.cell x5
           replace x6 := KX.cell x6
           replace o0 := KX.cell o0
           replace o1 := KX.cell o1
           replace o2 := KX.cell o2
           replace o3 := KX.cell o3
           replace o4 := KX.cell o4
           replace o5 := KX.cell o5
           replace o6 := KX.cell o6
           replace o7 := KX.cell o7
           simp only [List.take_succ_cons, List.take_zero, List.drop_succ_cons, List.drop_zero]
           repeat still_step
           refine wpStill_nil ?_
           clear o0 o1 o2 o3 o4 o5 o6 o7 x0 x1 x2 x3 x4 x5 x6 a0 hnl hi1
           go_wp2_with (first | (go_at_call 16; refine (rsame_any tt tt A0 z.2.1 c0 z.2.2 _ (HJ.out.rd.keep KX) (hRz.keep KX)).mono ?_; rintro e X2 ⟨rfl, KS⟩; rw [show decide (tt = tt) = true by simp]))
           have K2 : Kp U X2 := KX.trans KS
           replace n0 := KS.cell n0
           replace m0 := KS.cell m0
           replace t0 := KS.cell t0
           have J2 := HJ.out.i.nk.keep K2
           have z2 := J2.frozen 0
           have hnt : ¬ W1.heap.size = r := by have := HT1.out.lt; omega
           have hnt2 : ¬ r = W1.heap.size := by have := HT1.out.lt; omega
           have hnw : ¬ W1.heap.size = w.heap.size := by have := Mk2.out.bm.lt; omega
           have hnw2 : ¬ w.heap.size = W1.heap.size := by have := Mk2.out.bm.lt; omega
           have hk9 : (k : Int) + 1 ≤ 9223372036854775807 := by omega
           have Hn1 := Lib.hid (show Blk (X2.setCell ⟨W1.heap.size, 0, none⟩ (.int .i64 ((k : Int) + 1))) W1.heap.size 3 #[.int .i64 ((k : Int) + 1)] by simpa using J2.set_ 0 (.int .i64 ((k : Int) + 1)))
           have Hk1 := Lib.hid (show Kp W1 (X2.setCell ⟨W1.heap.size, 0, none⟩ (.int .i64 ((k : Int) + 1))) from (HJ.out.i.kp.trans K2).setCell (by simp) _)
           have HR1 := Lib.hid (show Ring wm.heap.size B U (X2.setCell ⟨W1.heap.size, 0, none⟩ (.int .i64 ((k : Int) + 1))) from (Ring.of_kp K2 hBU).setCell (.inl (by show W1.heap.size < wm.heap.size; omega)) _)
           have HkB := Lib.hid (show (k : Int) + 1 = ((k + 1 : Nat) : Int) by omega)
           clear J2
           gi_wp2_with fail
           refine ⟨HR1.out, Hk1.out, ?_, trivial⟩
           rw [← HkB.out]; exact Hn1.out
       · intro W2 hS hd2
         have M2 := Mk2.out.keep hS.kp
         have T2 := HT1.out.keep hS.kp
         have n0 : W2.cell? ⟨W1.heap.size, 0, none⟩ = some (.int .i64 (all.length : Nat)) := hS.nk.cell 0
         have t0 : W2.cell? ⟨r, 0, none⟩ = some (.int .i64 1) := T2.cell 0
         have a0 : W2.cell? ⟨na, 0, none⟩ = some (.slice A3 bs.length c3) := M2.ba.cell 0
         have z0 := T2.frozen 0
         have hjm := Hbl.out
         have hnj : (all.length : Int) = (bs.length : Int) := by rw [Hbl.out]
         have HM2 := Lib.hid M2
         have hdl : W2.heap[wl.heap.size]? = some (.deferred (some [])) := (Below.block hS.kp _ (Array.getElem?_eq_some_iff.1 HD1.out).1).trans HD1.out
         have Hdl2 := Lib.hid hdl
         have Hd2 := Lib.hid hd2
         rw [hjm] at n0
         clear hS hd2 M2 T2 Nm hKm hdl hjm hnj
         go_wp2_with fail
         have K3 := (Kp.refl W2).alloc (.cells #[.int .i64 2] 3)
         have B3 := Blk.new W2 3 #[.int .i64 2]
         have hs3 : (W2.alloc (.cells #[.int .i64 2] 3)).heap.size = W2.heap.size + 1 := by simp
         clear n0 t0 a0 z0
         generalize W2.alloc (.cells #[.int .i64 2] 3) = W3 at K3 B3 hs3 ⊢
         have t2 : W3.cell? ⟨W2.heap.size, 0, none⟩ = some (.int .i64 2) := B3.cell 0
         have HK3 := Lib.hid K3
         clear K3 B3 hs3
         rw [rounds_succ]
         go_wp2_with fail
         refine (works26_any W3 (HL.out.keep (HM2.out.kp.trans HK3.out))).mono ?_
         rintro en W4 ⟨rfl, K4⟩
         have BR := (HM2.out.br.keep HK3.out).keep K4
         have c0 : W4.cell? ⟨w.heap.size + 1, 0, none⟩ = some (.bool false) := BR.cell 0
         have z0 := BR.frozen 0
         have HBR := Lib.hid BR
         have HK4 := Lib.hid K4
         clear BR K4 t2
         go_wp2_with fail
         have k24 := HK3.out.trans HK4.out
         have e1 : W4.heap[wl.heap.size]? = some (.deferred (some [])) := (Below.block k24 _ (Array.getElem?_eq_some_iff.1 Hdl2.out).1).trans Hdl2.out
         have e2 : W4.heap[wm.heap.size]? = some (.deferred (some [])) := (Below.block k24 _ (Array.getElem?_eq_some_iff.1 Hd2.out).1).trans Hd2.out
         have m1 := mark_ne e1 HBR.out
         have m2 := mark_ne e2 HBR.out
         have s1 := (Array.getElem?_eq_some_iff.1 HD1.out).1
         have s2 := Mk.out.kp.size
         have s3 := Mk2.out.kp.size
         have s4 := Hsl.out
         have s5 := Hsm.out
         have B5 : Blk (W4.setCell ⟨w.heap.size + 1, 0, none⟩ (.bool true)) (w.heap.size + 1) 4 #[.bool true] := by simpa using HBR.out.set_ 0 (.bool true)
         have K5 : Kp w (W4.setCell ⟨w.heap.size + 1, 0, none⟩ (.bool true)) := (HM2.out.kp.trans k24).setCell (by simp) _
         have g1 : (W4.setCell ⟨w.heap.size + 1, 0, none⟩ (.bool true)).heap[wl.heap.size]? = some (.deferred (some [])) := (Below.heap_setCell _ _ _ _ m1).trans e1
         have g2 : (W4.setCell ⟨w.heap.size + 1, 0, none⟩ (.bool true)).heap[wm.heap.size]? = some (.deferred (some [])) := (Below.heap_setCell _ _ _ _ m2).trans e2
         show Takes [{ target := Target.collected wm.heap.size, args := #[] }, { target := Target.collected wl.heap.size, args := #[] }] _ _
         refine takes2_26 g2 g1 (by omega) (fun W' hO => ?_)
         have E0 := B5.only hO (by simp only [List.mem_cons, List.not_mem_nil, or_false]; omega)
         have f0 : W'.cell? ⟨w.heap.size + 1, 0, none⟩ = some (.bool true) := E0.cell 0
         refine ⟨.bool true, ?_, rfl, hO.kp K5 (by simp only [List.mem_cons, List.not_mem_nil, or_false]; rintro b (rfl | rfl) <;> omega)⟩
         simp [results, Tryz.results7, go_sem, f0]
end Go.Proofs.YtbfimimhgdkpaaaGreatDoor

namespace Go.Proofs.YtbfimimhgdkpaaaGreatDoor
open Go Go.ChangeMaps Go.ChangeShapes Go.WideShapes Go.ChangeAt Go.RowKit Go.Joins Go.Deep

set_option maxRecDepth 100000 in
theorem scriptReads_lifted (os : Os) (started : os.Started) (H : Type) (enc : TypeId × Value → H) :
    ReturnsInHanded {} Tryz.checked os 7 .any (fun w args => (Rows.scriptReadsSpec.pre enc Tryz.prog Tryz.f7 [] false w args ∧ laidMetH Tryz.prog libLaid w) ∧ sizedMet enc Tryz.prog Tryz.f7 (OpenSpec.ofChange Rows.scriptReadsSpec) false w args)
      (Rows.scriptReadsSpec.post enc Tryz.prog Tryz.f7 false true false false) := by
  refine returnsInHanded_of_change_and (C := Tryz.checked) (X := fun w _ => laidMetH Tryz.prog libLaid w) (fun _ _ _ hh h => h.of_heap hh) Tryz.own started (by kernel_rfl) Tryz.func7
    (ChangeSpec.witness_shaped (enc := enc) (C := Tryz.checked) (os := os) (X := fun w _ => laidMetH Tryz.prog libLaid w) false (World.doorLaid Tryz.prog 400 os) #[.string ⟨#[]⟩, .int .i64 0] 8 rfl (World.shaped_of_RefB (by kernel_rfl) (by kernel_rfl)) (by kernel_rfl) (by kernel_rfl) (by kernel_rfl) (door_met os _)) ?_
  intro W base args ds gs before hval0 hW _ _ hL _
  have hval : ∀ (j : Nat) t v, Tryz.f7.params[j]? = some t → args[j]? = some v → Value.okWide Tryz.prog W .any base t v := hval0
  have hW' := hW
  obtain ⟨p, q, hA0, hV, rfl, hfz, hnd⟩ := hW
  have hA : DataW.TrodAll enc Tryz.prog W 0 (fun _ => true) true Tryz.f7.params.toList args.toList ds p := hA0
  rw [Tryz.params7] at hA hval
  obtain ⟨v0, v1, d0, d1, p0, p1, rfl, rfl, rfl, h0, h1⟩ := trodAll_two hA
  obtain ⟨rfl, rfl⟩ := trodVars_none hV
  obtain ⟨s0, rfl, rfl, rfl, hs0⟩ := open_string Tryz.underlying9 (hval 0 _ v0 rfl rfl) h0
  obtain ⟨a1, rfl, rfl, rfl, wf1⟩ := open_int Tryz.underlying3 (hval 1 _ v1 rfl rfl) h1
  clear hA0 hval0
  refine (reads_walk s0 a1 W (lib_of_laid hL)).mono fun e W' ⟨he, hK⟩ => ?_
  subst he
  refine ⟨_, rfl, law_post hW' rfl rfl rfl rfl rfl ?_ hK⟩
  intro t ht
  rw [Tryz.params7] at ht
  simp only [List.mem_cons, List.not_mem_nil, or_false] at ht
  rcases ht with rfl | rfl <;> exact ⟨by kernel_rfl, of_decide_eq_true (by kernel_rfl)⟩

theorem scriptReads_holds : Rows.ScriptReadsSaid :=
  OpenClaim.holds_of_wide 7 Tryz.f7 rfl rfl rfl rfl rfl rfl rfl ⟨rfl, rfl, rfl, rfl, rfl⟩ rfl rfl rfl rfl rfl (by kernel_rfl) Tryz.func7 (by kernel_rfl)
    (of_decide_eq_true (by kernel_rfl)) (by unfold Func.isWrapper; first | (rw [if_pos (by decide +kernel)]; kernel_rfl) | (rw [if_neg (by decide +kernel)]; exact ⟨rfl, rfl⟩))
    (fun os started H enc _ => scriptReads_lifted os started H enc)

theorem scriptReads_card_holds : Rows.ScriptReadsCardSaid :=
  Claim7.holds_tied_plain_at .later [] [.data, .data, .data, .sentinel, .sentinel] true (true, "1aea2c8cef665afaa4649297a74689a0df77dd72ec979528462e8733c892845e") true
    scriptReads_holds (fun _ h => by cases h) (by kernel_rfl) (fun _ h => by cases h) scriptReads_row_tie rfl ⟨rfl, rfl⟩ (by kernel_rfl) rfl
    (fun f fn hf hfn => by
      obtain rfl : f = 7 := Option.some.inj ((show Tryz.prog.funcNamed "waywarden/waywardenlaw26.ScriptReads" = some 7 by kernel_rfl).symm.trans hf) |>.symm
      obtain rfl : fn = Tryz.f7 := (Option.some.inj (Tryz.func7.symm.trans hfn)).symm
      exact ⟨by kernel_rfl, fun j t ht => by
        rw [Tryz.params7] at ht
        have hm : t ∈ [9, 3] := by simpa using Array.mem_of_getElem? ht
        have hall : ([9, 3].all fun u => !Tryz.prog.wantsStandIn u) = true := by kernel_rfl
        exact (show Tryz.prog.wantsStandIn t = false by simpa using List.all_eq_true.1 hall t hm)⟩)
    (by kernel_rfl)
end Go.Proofs.YtbfimimhgdkpaaaGreatDoor
