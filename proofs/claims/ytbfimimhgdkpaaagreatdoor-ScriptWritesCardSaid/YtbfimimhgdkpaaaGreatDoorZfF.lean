/- Lemmas and contracts for the theorem of this claim: ScZ, RdL, Range, Range2, Range3, Range4, SdA, Yield, Round, Round2. -/
import Derived.Test.YtbfimimhgdkpaaaGreatDoorZfE
import Derived.RangeFuncOwn
import Derived.RangeFuncLeaves
import Derived.LoopN
import Derived.RangeFuncCalls
import Derived.BigFrameIn
import Derived.TacticsIn
import Derived.TacticsInMore
import Derived.Deep.Cut
import Derived.OwnWalkIn
import Derived.Sort.QuietTacIn
set_option linter.unusedSimpArgs false
set_option linter.unusedVariables false
/- The reference of package script: a part of any kind; Parse. No condition but the stated bounds. -/
namespace Go.Proofs.YtbfimimhgdkpaaaGreatDoor
open Go.RowKit

theorem part_any (p : Pt) (t : Ev) (A : Option Addr) (c : Nat) (s : ByteArray) (hs : s.size ≤ 1000000) (w : World) (hA : Rd w 1 byteE A t.bytes) :
    Calls Tryz.prog 54 #[evV t (.slice A t.bytes.length c), .int .u8 ((ptC p).toNat : Int), .string s] w (PartP p t A s.data.toList w) := by
  cases p with
  | a => cases hn : refInt s.data.toList with
    | some n => exact part_a_yes t A c s w hA n hn
    | none => exact part_a_no t A c s w hA hn
  | b => cases hn : refInt s.data.toList with
    | some n => exact part_b_yes t A c s w hA n hn
    | none => exact part_b_no t A c s w hA hn
  | d => cases hn : refInt s.data.toList with
    | some n => exact part_d_yes t A c s w hA n hn
    | none => exact part_d_no t A c s w hA hn
  | s => cases hn : adr s.data.toList with
    | some n => exact part_s_yes t A c s hs w hA n hn
    | none => exact part_s_no t A c s hs w hA hn
  | c =>
    by_cases hu : s.data.toList = upS
    · exact part_c_up t A c s w hA hu
    · by_cases hd : s.data.toList = downS
      · exact part_c_down t A c s w hA hd
      · exact part_c_none t A c s w hA hu hd
  | x => cases hn : bytesR s.data.toList with
    | some l =>
      by_cases hl : l.length ≤ 600
      · exact part_x_yes t A c s hs w hA l hn hl
      · exact part_x_long t A c s hs w hA l hn hl
    | none => exact part_x_none t A c s hs w hA hn
theorem part_yes {p : Pt} {t t' : Ev} {l : List UInt8} (hr : readE p l t = some t') (hx : p = .x → t.bytes = []) (A : Option Addr) (c : Nat) (hl : l.length ≤ 1000000) (w : World) (hA : Rd w 1 byteE A t.bytes) :
    Calls Tryz.prog 54 #[evV t (.slice A t.bytes.length c), .int .u8 ((ptC p).toNat : Int), .string (strB l)] w fun en w' => ∃ A' c', en = .returned (.tuple #[evV t' (.slice A' t'.bytes.length c'), .bool true]) ∧ Rd w' 1 byteE A' t'.bytes ∧ (A' = A ∨ ∀ b o, A' = some ⟨b, o, none⟩ → w.heap.size ≤ b) ∧ Kp w w' := by
  refine (part_any p t A c (strB l) (by show l.toArray.size ≤ _; simpa using hl) w hA).mono ?_
  rintro en w' ⟨hY, _, hK⟩
  rw [strB_list] at hY
  obtain ⟨A', c', e, hR, hF⟩ := hY t' hr hx
  exact ⟨A', c', e, hR, hF, hK⟩
theorem part_nay {p : Pt} {t : Ev} {l : List UInt8} (hr : readE p l t = none) (A : Option Addr) (c : Nat) (hl : l.length ≤ 1000000) (w : World) (hA : Rd w 1 byteE A t.bytes) :
    Calls Tryz.prog 54 #[evV t (.slice A t.bytes.length c), .int .u8 ((ptC p).toNat : Int), .string (strB l)] w fun en w' => ∃ t0 A0 n0 c0, en = .returned (.tuple #[evV t0 (.slice A0 n0 c0), .bool false]) ∧ Kp w w' := by
  refine (part_any p t A c (strB l) (by show l.toArray.size ≤ _; simpa using hl) w hA).mono ?_
  rintro en w' ⟨_, hN, hK⟩
  rw [strB_list] at hN
  obtain ⟨t0, A0, n0, c0, e⟩ := hN hr
  exact ⟨t0, A0, n0, c0, e, hK⟩
/-- Bytes do not lie in an event's block. -/
theorem byte_ne_ev {w : World} {A : Option Addr} {l : List UInt8} (h : Rd w 1 byteE A l) {g : Nat} {T : TypeId} {t : Ev} {A0 : Option Addr} {n0 c0 : Nat} (B : Blk w g T (evC t (.slice A0 n0 c0))) {w' : World} (hO : Only [g] w w') : Rd w' 1 byteE A l := by
  intro i hi
  obtain ⟨b, off, e, hc⟩ := h i hi
  refine ⟨b, off, e, fun j u hu => hO.cell (hc j u hu) ?_⟩
  simp only [List.mem_singleton]
  rintro rfl
  have h1 := hc j u hu
  rw [B.cell] at h1
  have hj : j = 0 := by
    have := (List.getElem?_eq_some_iff.1 hu).1
    simp [byteE] at this
    exact this
  subst hj
  simp only [byteE, List.getElem?_cons_zero, Option.some.injEq] at hu
  subst hu
  generalize off + i * 1 + 0 = m at h1
  unfold evC at h1
  match m, h1 with
  | 0, h1 => simp at h1
  | 1, h1 => simp at h1
  | 2, h1 => simp at h1
  | 3, h1 => simp at h1
  | 4, h1 => simp at h1
  | 5, h1 => simp at h1
  | 6, h1 => simp at h1
  | n + 7, h1 => simp at h1
theorem part_byte {k j : Nat} (hj : j < (partsOf k).length) {p : Pt} (hp : (partsOf k)[j] = p) (w : World) : (Instr.index 9 (.string (strB (partsW k))) (.int .i64 (j : Int))).run Tryz.prog w = .ok (.int .u8 ((ptC p).toNat : Int)) w := by
  have hs : j < (strB (partsW k)).size := by rw [partsW_len]; exact hj
  have hl : j < (strB (partsW k)).data.toList.length := by rw [strB_list]; unfold partsW; simpa using hj
  rw [str_idx hs w, ← byte_idx hl]
  have e : (strB (partsW k)).data.toList[j] = ptC p := by simp [partsW, hp]
  rw [e]
theorem next_x {p : Pt} {l : List UInt8} {t t' : Ev} (h : readE p l t = some t') (hp : p ≠ .x) (hb : t.bytes = []) : t'.bytes = [] := by
  cases p with
  | a => simp only [readE, Option.map_eq_some_iff] at h; obtain ⟨n, _, rfl⟩ := h; exact hb
  | b => simp only [readE, Option.map_eq_some_iff] at h; obtain ⟨n, _, rfl⟩ := h; exact hb
  | d => simp only [readE, Option.map_eq_some_iff] at h; obtain ⟨n, _, rfl⟩ := h; exact hb
  | s => simp only [readE, Option.map_eq_some_iff] at h; obtain ⟨n, _, rfl⟩ := h; exact hb
  | c =>
    simp only [readE] at h
    split at h
    · injection h with h; subst h; exact hb
    · split at h
      · injection h with h; subst h; exact hb
      · cases h
  | x => exact absurd rfl hp
theorem rparted_sp (s : ByteArray) (hs : s.size ≤ 1000000) (w : World) : Calls Tryz.prog 53 #[.string s, .int .u8 32] w fun e w' => ∃ v, e = .returned v ∧ Own w' w.heap.size 9 1 strE v (parted 32 s.data.toList) ∧ Kp w w' := rparted_any s hs 32 w

structure RPar (s : List UInt8) (w : World) (g b o c k : Nat) (hd : List UInt8) (ws : List (List UInt8)) (j : Nat) (t : Ev) (wr : World) : Prop where
  kp : Kp w wr
  p0 : Blk wr w.heap.size 27 (evC (ev0 0) (.slice none 0 0))
  wd : Rd wr 1 strE (some ⟨b, o, none⟩) (hd :: ws)
  ge : w.heap.size < g
  nb : b ≠ g
  ev : ∃ A c', Blk wr g 27 (evC t (.slice A t.bytes.length c')) ∧ Rd wr 1 byteE A t.bytes ∧ ∀ b o, A = some ⟨b, o, none⟩ → w.heap.size < b
  hx : Pt.x ∈ (partsOf k).drop j → t.bytes = []
  more : parseE s = readAll ((partsOf k).drop j) (ws.drop j) t

set_option maxRecDepth 100000 in
set_option maxHeartbeats 8000000 in
theorem rparse_fresh (s : ByteArray) (hs : s.size ≤ 1000000) (w : World) : Calls Tryz.prog 18 #[.string s] w (ParseF s w) := by
  have hlen : s.data.toList.length = s.size := by rw [Array.length_toList]; rfl
  have b0 := Blk.new w 27 (evC (ev0 0) (.slice none 0 0))
  have k1 : Kp w (w.alloc (.cells (evC (ev0 0) (.slice none 0 0)) 27)) := (Kp.refl w).alloc _
  go_enter Tryz.func18, Tryz.ntmps18
  go_wp2_with fail
  obtain ⟨W, hW, kW, B0⟩ : ∃ W, w.alloc (.cells (evC (ev0 0) (.slice none 0 0)) 27) = W ∧ Kp w W ∧ Blk W w.heap.size 27 (evC (ev0 0) (.slice none 0 0)) := ⟨_, rfl, k1, b0⟩
  simp only [evC, ev0] at hW
  rw [show ((0 : Nat) : Int) = 0 from rfl] at hW
  rw [hW]
  clear hW b0 k1
  refine (rparted_sp s hs W).mono ?_
  rintro e w1 ⟨v, rfl, hown, hK1⟩
  have B0 := B0.keep hK1
  have kw1 := kW.trans hK1
  have hlt0 := B0.lt
  obtain ⟨hd, ws, hp⟩ : ∃ hd ws, parted 32 s.data.toList = hd :: ws := by
    cases hp : parted 32 s.data.toList with
    | nil => exact absurd hp (parted_ne _ _)
    | cons a b => exact ⟨a, b, rfl⟩
  have hle : ∀ u ∈ hd :: ws, u.length ≤ 1000000 := by
    intro u hu
    rw [← hp] at hu
    have := parted_le 32 _ u hu
    omega
  have hwl : ws.length ≤ 1000000 := by
    have := parted_len 32 s.data.toList
    rw [hp] at this
    simp at this
    omega
  have Hpe := Lib.hid (parse_eq hp)
  have Hle := Lib.hid hle
  rw [hp] at hown
  clear hp hle
  obtain ⟨A, c, hv⟩ := hown.form
  subst hv
  have hRw := hown.rdAt (by decide) strE_len
  obtain ⟨b, o, rfl, hcw⟩ := str_at hRw (k := 0) (by simp)
  rw [Nat.add_zero, List.getElem_cons_zero] at hcw
  have hbl := World.block_lt_of_cell? w1 _ hcw
  simp only at hbl
  have hl1 : (hd :: ws).length = ws.length + 1 := rfl
  rw [hl1]
  have HRw := Lib.hid hRw
  clear hRw hown hl1
  have hl0 : (0 : Int) < (ws.length : Int) + 1 := by omega
  have hl2 : (0 : Int) ≤ (ws.length : Int) := by omega
  have Hcw := Lib.hid hcw
  clear hcw
  have H0 := Lib.hid (Kp.refl w1)
  go_wp2_with fail
  go_loopw [5, 6] (fun kk i wr => ∃ n : Nat, 1 ≤ n ∧ n ≤ 9 ∧ i = .int .i64 n ∧ kk = .int .i64 (kindUp n hd : Nat) ∧ Hid (Kp w1 wr)) (fun _ i _ => 9 - (intOf i).toNat)
  case atStart => exact ⟨1, by omega, by omega, rfl, rfl, H0⟩
  case round =>
    obtain ⟨n, hn1, hn9, rfl, rfl, HK⟩ := hrel
    by_cases hlt : n < 9
    · have hx := name_idx n (by omega)
      have hcr := HK.out.cell Hcw.out
      have n0 : (0 : Int) ≤ (n : Int) := by omega
      by_cases he : hd = nameOf n
      · have hb : (hd == nameOf n) = true := by rw [beq_iff_eq]; exact he
        have Hn := Lib.hid (show kindUp (n + 1) hd = n by rw [kindUp, if_pos ⟨by omega, he.symm⟩])
        clear he
        have kd : Kp wr wr.drew := (Kp.refl _).drew
        go_wp2_with fail
        go_region_held3 (fun W' => W'.cell? ⟨b, o, none⟩ = some (.string (strB hd)) ∧ Kp wr W') (first | exact ⟨(kd.trans hK2).cell hcr, kd.trans hK2⟩ | exact ⟨kd.cell hcr, kd⟩ | go_keep) (first | (go_at_call 46; refine (rheads_any _).mono ?_; rintro e w2 ⟨rfl, hK2⟩))
        go_wp2_with fail
        go_roundw
        case rel => exact ⟨n + 1, by omega, by omega, by go_num, by rw [Hn.out], Lib.hid (HK.out.trans (kd.trans hK2))⟩
        case measure => simp [intOf]; omega
      · have hb : (hd == nameOf n) = false := by rw [beq_eq_false_iff_ne]; exact he
        have Hn := Lib.hid (show kindUp (n + 1) hd = kindUp n hd by rw [kindUp, if_neg (fun hh => he hh.2.symm)])
        clear he
        have kd : Kp wr wr.drew := (Kp.refl _).drew
        go_wp2_with fail
        go_region_held3 (fun W' => W'.cell? ⟨b, o, none⟩ = some (.string (strB hd)) ∧ Kp wr W') (first | exact ⟨(kd.trans hK2).cell hcr, kd.trans hK2⟩ | exact ⟨kd.cell hcr, kd⟩ | go_keep) (first | (go_at_call 46; refine (rheads_any _).mono ?_; rintro e w2 ⟨rfl, hK2⟩))
        go_wp2_with fail
        go_roundw
        case rel => exact ⟨n + 1, by omega, by omega, by go_num, by rw [Hn.out], Lib.hid (HK.out.trans (kd.trans hK2))⟩
        case measure => simp [intOf]; omega
    · obtain rfl : n = 9 := by omega
      have BR := B0.keep HK.out
      have hKq := kw1.trans HK.out
      have hKb := HK.out
      have HWd := Lib.hid (HRw.out.keep HK.out)
      have hek : kindB hd = kindUp 9 hd := rfl
      rw [hek] at Hpe
      clear hek
      obtain ⟨k, hk⟩ : ∃ k, kindUp 9 hd = k := ⟨_, rfl⟩
      have h8 : k ≤ 8 := by have := kindB_lt hd; unfold kindB at this; omega
      rw [hk] at Hpe ⊢
      clear hk HRw HK B0 Hcw H0 hK1 kW hn1 hn9 hlt
      have q0 : wr.cell? ⟨w.heap.size, 0, none⟩ = some (.int .i64 0) := BR.cell 0
      have q1 : wr.cell? ⟨w.heap.size, 1, none⟩ = some (.int .i64 0) := BR.cell 1
      have q2 : wr.cell? ⟨w.heap.size, 2, none⟩ = some (.int .i64 0) := BR.cell 2
      have q3 : wr.cell? ⟨w.heap.size, 3, none⟩ = some (.int .i64 0) := BR.cell 3
      have q4 : wr.cell? ⟨w.heap.size, 4, none⟩ = some (.int .i64 0) := BR.cell 4
      have q5 : wr.cell? ⟨w.heap.size, 5, none⟩ = some (.int .u32 0) := BR.cell 5
      have q6 : wr.cell? ⟨w.heap.size, 6, none⟩ = some (.slice none 0 0) := BR.cell 6
      have y0 := BR.frozen 0
      have y1 := BR.frozen 1
      have y2 := BR.frozen 2
      have y3 := BR.frozen 3
      have y4 := BR.frozen 4
      have y5 := BR.frozen 5
      have y6 := BR.frozen 6
      by_cases hk0 : k = 0
      · have Hn := Lib.hid (show parseE s.data.toList = none by rw [Hpe.out, hk0]; rfl)
        subst hk0
        have hz : (((0 : Nat) : Int) == 0) = true := rfl
        go_wp2_with fail
        have hBz := (BR).putEv (ev0 0) (.slice none 0 0)
        have hKz := ((Only.refl [w.heap.size] wr).putEv (g := w.heap.size) (.inl (by simp)) (ev0 0) (.slice none 0 0)).kp (hKq) (by simp)
        have f0 := hBz.cell 0
        have f1 := hBz.cell 1
        have f2 := hBz.cell 2
        have f3 := hBz.cell 3
        have f4 := hBz.cell 4
        have f5 := hBz.cell 5
        have f6 := hBz.cell 6
        refine bodyPost_ret (v := .tuple #[evV (ev0 0) (.slice none 0 0), .int .i64 260]) (w := evSet wr w.heap.size (ev0 0) (.slice none 0 0)) ?_ rfl ?_
        · show (results _ _).run _ (evSet wr w.heap.size (ev0 0) (.slice none 0 0)) = _
          generalize evSet wr w.heap.size (ev0 0) (.slice none 0 0) = WZ at f0 f1 f2 f3 f4 f5 f6 ⊢
          simp [results, Tryz.results18, go_sem, f0, f1, f2, f3, f4, f5, f6, evC, ev0]
        · exact ⟨hKz, fun t ht => (by rw [Hn.out] at ht; cases ht), fun _ => rfl⟩
      · have h1 : 1 ≤ k := by omega
        have hz : ((k : Int) == 0) = false := by rw [beq_eq_false_iff_ne]; omega
        have hy := part_idx k h8
        have hpl := partsW_len k
        have h5 := parts_len h8
        by_cases hlen : ws.length = (partsOf k).length
        · have hz2 : ((ws.length : Int) + 1 != 1 + ((partsOf k).length : Int)) = false := by rw [bne_eq_false_iff_eq]; omega
          have Hm := Lib.hid (show parseE s.data.toList = readAll ((partsOf k).drop 0) (ws.drop 0) (ev0 k) by rw [Hpe.out, parseK, if_neg hk0, if_pos hlen]; simp)
          have hwr := BR.lt
          have hbr := HWd.out
          have Hlen2 := Lib.hid hlen
          clear hlen
          clear q0 q1 q2 q3 q4 q5 q6 y0 y1 y2 y3 y4 y5 y6
          go_wp2_with (first | (go_at_call 47; refine (rparts_any _).mono ?_; rintro e w2 ⟨rfl, hK2⟩))
          have hbl2 : b < w2.heap.size := by have := hK2.size; have := hKb.size; omega
          obtain ⟨W3, hW3, R0⟩ : ∃ W3, w2.alloc (.cells (evC (ev0 k) (.slice none 0 0)) 27) = W3 ∧ RPar s.data.toList w w2.heap.size b o c k hd ws 0 (ev0 k) W3 :=
            ⟨_, rfl, (hKq.trans hK2).alloc _, (BR.keep hK2).alloc _, hbr.keep (hK2.alloc _), by have := hK2.size; omega, by omega, ⟨none, 0, Blk.new _ _ _, Rd.nil _ _ _ _, fun _ _ e => by cases e⟩, fun _ => rfl, Hm.out⟩
          have HR0 := Lib.hid R0
          simp only [evC, ev0] at hW3
          rw [show ((0 : Nat) : Int) = 0 from rfl] at hW3
          rw [hW3]
          clear hW3 R0 hbr BR hKq hz hz2 Hm HWd hwr
          go_wp2_with fail
          go_loopw [8] (fun i wr => ∃ (j : Nat) (t : Ev), j ≤ ws.length ∧ i = .int .i64 (j + 1 : Nat) ∧ Hid (RPar s.data.toList w w2.heap.size b o c k hd ws j t wr)) (fun i _ => ws.length + 1 - (intOf i).toNat)
          case atStart => exact ⟨0, _, by omega, rfl, HR0⟩
          case round =>
            obtain ⟨j, t, hj, rfl, R⟩ := hrel
            obtain ⟨A, c1, BE, hA, hFr⟩ := R.out.ev
            have e0 : wr.cell? ⟨w2.heap.size, 0, none⟩ = some (.int .i64 t.kind) := BE.cell 0
            have e1 : wr.cell? ⟨w2.heap.size, 1, none⟩ = some (.int .i64 t.a) := BE.cell 1
            have e2 : wr.cell? ⟨w2.heap.size, 2, none⟩ = some (.int .i64 t.b) := BE.cell 2
            have e3 : wr.cell? ⟨w2.heap.size, 3, none⟩ = some (.int .i64 t.c) := BE.cell 3
            have e4 : wr.cell? ⟨w2.heap.size, 4, none⟩ = some (.int .i64 t.draw) := BE.cell 4
            have e5 : wr.cell? ⟨w2.heap.size, 5, none⟩ = some (.int .u32 (t.src : Int)) := BE.cell 5
            have e6 : wr.cell? ⟨w2.heap.size, 6, none⟩ = some (.slice A t.bytes.length c1) := BE.cell 6
            by_cases hlt : j < ws.length
            · have hjk : j < (partsOf k).length := by have := Hlen2.out; omega
              obtain ⟨p, hp⟩ : ∃ p, (partsOf k)[j] = p := ⟨_, rfl⟩
              obtain ⟨b', o', hbo, hcj⟩ := str_at R.out.wd (k := j + 1) (by simp; omega)
              obtain ⟨rfl, rfl⟩ : b = b' ∧ o = o' := by injection hbo with hbo; injection hbo with h1 h2; exact ⟨h1, h2⟩
              rw [List.getElem_cons_succ] at hcj
              have hlj := Hle.out ws[j] (by simp)
              have hmore := R.out.more
              rw [readAll_drop hjk hlt, hp] at hmore
              obtain ⟨l, hl⟩ : ∃ l, ws[j] = l := ⟨_, rfl⟩
              rw [hl] at hcj hlj hmore
              have hxx : p = .x → t.bytes = [] := fun e => R.out.hx (by rw [List.drop_eq_getElem_cons hjk, hp, e]; simp)
              have hyj := part_byte hjk hp
              have hwj : IntKind.i64.wrap (j : Int) = (j : Int) := by simp [IntKind.wrap, IntKind.bits, IntKind.signed]; omega
              have i0 : (0 : Int) ≤ (j : Int) := by omega
              have i1 : (j : Int) < ((strB (partsW k)).size : Int) := by omega
              have i2 : (j : Int) < (ws.length : Int) := by omega
              have i5 : (j : Int) < ((partsOf k).length : Int) := by omega
              have i3 : (0 : Int) ≤ (j : Int) + 1 := by omega
              clear hKb
              cases hr : readE p l t with
              | some t' =>
                have Hno := Lib.hid (show Pt.x ∈ (partsOf k).drop (j + 1) → t'.bytes = [] from fun hm => next_x hr (fun e => once_x h8 hjk (hp.trans e) hm) (R.out.hx (by rw [List.drop_eq_getElem_cons hjk]; exact List.mem_cons_of_mem _ hm)))
                have Hr := Lib.hid hr
                have HA := Lib.hid hA
                have Hxx := Lib.hid hxx
                rw [hr, Option.bind_some] at hmore
                have Hmo := Lib.hid hmore
                clear hr hmore hxx hbo hp hl hA
                have kd : Kp wr wr.drew := (Kp.refl _).drew
                go_upto_region 14 with (fail)
                go_cut [9, 10] from 46 to 64 (fun s9 s10 wx => ∃ g2 A2 c2, s9 = .pointer (some ⟨g2, 0, none⟩) ∧ s10 = .bool true ∧ wr.heap.size ≤ g2 ∧ Blk wx g2 27 #[.int .i64 t'.kind, .int .i64 t'.a, .int .i64 t'.b, .int .i64 t'.c, .int .i64 t'.draw, .int .u32 (t'.src : Int), .slice A2 t'.bytes.length c2] ∧ Rd wx 1 byteE A2 t'.bytes ∧ (A2 = A ∨ ∀ b o, A2 = some ⟨b, o, none⟩ → wr.heap.size ≤ b) ∧ Kp wr wx)
                case first =>
                  have kal : Kp wr (wr.alloc (.cells #[.int .i64 0, .int .i64 0, .int .i64 0, .int .i64 0, .int .i64 0, .int .u32 0, .slice none 0 0] 27)).drew := ((Kp.refl wr).alloc _).drew
                  go_region_held3 (fun W' => W'.cell? ⟨w2.heap.size, 0, none⟩ = some (.int .i64 t.kind) ∧ W'.cell? ⟨w2.heap.size, 1, none⟩ = some (.int .i64 t.a) ∧ W'.cell? ⟨w2.heap.size, 2, none⟩ = some (.int .i64 t.b) ∧ W'.cell? ⟨w2.heap.size, 3, none⟩ = some (.int .i64 t.c) ∧ W'.cell? ⟨w2.heap.size, 4, none⟩ = some (.int .i64 t.draw) ∧ W'.cell? ⟨w2.heap.size, 5, none⟩ = some (.int .u32 (t.src : Int)) ∧ W'.cell? ⟨w2.heap.size, 6, none⟩ = some (.slice A t.bytes.length c1) ∧ W'.cell? ⟨b, o + (j + 1), none⟩ = some (.string (strB l)) ∧ Kp wr W')
                    (first | (with_reducible exact ⟨Kp.cell kd e0, Kp.cell kd e1, Kp.cell kd e2, Kp.cell kd e3, Kp.cell kd e4, Kp.cell kd e5, Kp.cell kd e6, Kp.cell kd hcj, kd⟩) | (with_reducible exact ⟨Kp.cell kal e0, Kp.cell kal e1, Kp.cell kal e2, Kp.cell kal e3, Kp.cell kal e4, Kp.cell kal e5, Kp.cell kal e6, Kp.cell kal hcj, kal⟩) | (with_reducible exact ⟨Kp.cell hKa e0, Kp.cell hKa e1, Kp.cell hKa e2, Kp.cell hKa e3, Kp.cell hKa e4, Kp.cell hKa e5, Kp.cell hKa e6, Kp.cell hKa hcj, hKa⟩) | (with_reducible exact ⟨Kp.cell (hKa.alloc _) e0, Kp.cell (hKa.alloc _) e1, Kp.cell (hKa.alloc _) e2, Kp.cell (hKa.alloc _) e3, Kp.cell (hKa.alloc _) e4, Kp.cell (hKa.alloc _) e5, Kp.cell (hKa.alloc _) e6, Kp.cell (hKa.alloc _) hcj, (hKa.alloc _)⟩) | (with_reducible exact ⟨Kp.cell hKb e0, Kp.cell hKb e1, Kp.cell hKb e2, Kp.cell hKb e3, Kp.cell hKb e4, Kp.cell hKb e5, Kp.cell hKb e6, Kp.cell hKb hcj, hKb⟩) | (with_reducible exact ⟨Kp.cell (hKb.alloc _) e0, Kp.cell (hKb.alloc _) e1, Kp.cell (hKb.alloc _) e2, Kp.cell (hKb.alloc _) e3, Kp.cell (hKb.alloc _) e4, Kp.cell (hKb.alloc _) e5, Kp.cell (hKb.alloc _) e6, Kp.cell (hKb.alloc _) hcj, (hKb.alloc _)⟩) | (have KZ := ((Only.refl [wa.heap.size] wb).putEv (g := wa.heap.size) (.inl (by simp)) t' (.slice A2 t'.bytes.length c2)).kp (a := wr) hKb (by have := hKa.size; simpa using this); simp only [evSet] at KZ; with_reducible exact ⟨Kp.cell KZ e0, Kp.cell KZ e1, Kp.cell KZ e2, Kp.cell KZ e3, Kp.cell KZ e4, Kp.cell KZ e5, Kp.cell KZ e6, Kp.cell KZ hcj, KZ⟩) | (have KZ := ((Only.refl [wr.heap.size] wb).putEv (g := wr.heap.size) (.inl (by simp)) t' (.slice A2 t'.bytes.length c2)).kp (a := wr) hKb (by simp); simp only [evSet] at KZ; with_reducible exact ⟨Kp.cell KZ e0, Kp.cell KZ e1, Kp.cell KZ e2, Kp.cell KZ e3, Kp.cell KZ e4, Kp.cell KZ e5, Kp.cell KZ e6, Kp.cell KZ hcj, KZ⟩) | (have KZ := ((Only.refl [wb.heap.size] (wb.alloc (.cells #[.int .i64 0, .int .i64 0, .int .i64 0, .int .i64 0, .int .i64 0, .int .u32 0, .slice none 0 0] 27))).putEv (g := wb.heap.size) (.inl (by simp)) t' (.slice A2 t'.bytes.length c2)).kp (a := wr) (hKb.alloc _) (by have := hKb.size; simpa using this); simp only [evSet] at KZ; with_reducible exact ⟨Kp.cell KZ e0, Kp.cell KZ e1, Kp.cell KZ e2, Kp.cell KZ e3, Kp.cell KZ e4, Kp.cell KZ e5, Kp.cell KZ e6, Kp.cell KZ hcj, KZ⟩) | fail)
                    (first | (go_at_call 47; (first | (with_reducible refine (rparts_any wr.drew).mono ?_; rintro e wa ⟨rfl, hKa⟩; replace hKa := kd.trans hKa) | (with_reducible refine (rparts_any (wr.alloc (.cells #[.int .i64 0, .int .i64 0, .int .i64 0, .int .i64 0, .int .i64 0, .int .u32 0, .slice none 0 0] 27)).drew).mono ?_; rintro e wa ⟨rfl, hKa⟩; have Bg := (Blk.new wr 27 #[.int .i64 0, .int .i64 0, .int .i64 0, .int .i64 0, .int .i64 0, .int .u32 0, .slice none 0 0]).drew.keep hKa; replace hKa := kal.trans hKa))) | (go_at_call 54; (first | (with_reducible refine (part_yes Hr.out Hxx.out A c1 hlj wa (HA.out.keep hKa)).mono ?_; rintro e wb ⟨A2, c2, rfl, hRb, hFb, hKb⟩; replace hFb := hFb.imp id (fun h b o e => Nat.le_trans hKa.size (h b o e)); (try replace Bg := Bg.keep hKb); (try (have m0 : wb.cell? ⟨_, 0, none⟩ = some (.int .i64 0) := Bg.cell 0; have m1 : wb.cell? ⟨_, 1, none⟩ = some (.int .i64 0) := Bg.cell 1; have m2 : wb.cell? ⟨_, 2, none⟩ = some (.int .i64 0) := Bg.cell 2; have m3 : wb.cell? ⟨_, 3, none⟩ = some (.int .i64 0) := Bg.cell 3; have m4 : wb.cell? ⟨_, 4, none⟩ = some (.int .i64 0) := Bg.cell 4; have m5 : wb.cell? ⟨_, 5, none⟩ = some (.int .u32 0) := Bg.cell 5; have m6 : wb.cell? ⟨_, 6, none⟩ = some (.slice none 0 0) := Bg.cell 6; have fz0 := Bg.frozen 0; have fz1 := Bg.frozen 1; have fz2 := Bg.frozen 2; have fz3 := Bg.frozen 3; have fz4 := Bg.frozen 4; have fz5 := Bg.frozen 5; have fz6 := Bg.frozen 6)); replace hKb := hKa.trans hKb) | (with_reducible refine (part_yes Hr.out Hxx.out A c1 hlj (wa.alloc (.cells #[.int .i64 0, .int .i64 0, .int .i64 0, .int .i64 0, .int .i64 0, .int .u32 0, .slice none 0 0] 27)) (HA.out.keep (hKa.alloc _))).mono ?_; rintro e wb ⟨A2, c2, rfl, hRb, hFb, hKb⟩; replace hFb := hFb.imp id (fun h b o e => Nat.le_trans (hKa.alloc _).size (h b o e)); have Bg := (Blk.new wa 27 #[.int .i64 0, .int .i64 0, .int .i64 0, .int .i64 0, .int .i64 0, .int .u32 0, .slice none 0 0]).keep hKb; have m0 : wb.cell? ⟨_, 0, none⟩ = some (.int .i64 0) := Bg.cell 0; have m1 : wb.cell? ⟨_, 1, none⟩ = some (.int .i64 0) := Bg.cell 1; have m2 : wb.cell? ⟨_, 2, none⟩ = some (.int .i64 0) := Bg.cell 2; have m3 : wb.cell? ⟨_, 3, none⟩ = some (.int .i64 0) := Bg.cell 3; have m4 : wb.cell? ⟨_, 4, none⟩ = some (.int .i64 0) := Bg.cell 4; have m5 : wb.cell? ⟨_, 5, none⟩ = some (.int .u32 0) := Bg.cell 5; have m6 : wb.cell? ⟨_, 6, none⟩ = some (.slice none 0 0) := Bg.cell 6; have fz0 := Bg.frozen 0; have fz1 := Bg.frozen 1; have fz2 := Bg.frozen 2; have fz3 := Bg.frozen 3; have fz4 := Bg.frozen 4; have fz5 := Bg.frozen 5; have fz6 := Bg.frozen 6; replace hKb := (hKa.alloc _).trans hKb))))
                  all_goals
                    go_wp2_with fail
                    go_meet
                    case rel => first | (with_reducible exact ⟨wb.heap.size, A2, c2, rfl, rfl, hKb.size, Blk.new _ _ _, hRb.keep ((Kp.refl _).alloc _), hFb, hKb.alloc _⟩) | (have B1 := Blk.putEv (t0 := ev0 0) (b0 := .slice none 0 0) Bg t' (.slice A2 t'.bytes.length c2); have R1 := byte_ne_ev (t := ev0 0) (A0 := none) (n0 := 0) (c0 := 0) hRb Bg ((Only.refl [wa.heap.size] wb).putEv (g := wa.heap.size) (.inl (by simp)) t' (.slice A2 t'.bytes.length c2)); have K1 := ((Only.refl [wa.heap.size] wb).putEv (g := wa.heap.size) (.inl (by simp)) t' (.slice A2 t'.bytes.length c2)).kp hKb (fun b hb => by rw [List.mem_singleton] at hb; subst hb; exact hKa.size); simp only [evSet, evC] at B1 R1 K1; with_reducible exact ⟨wa.heap.size, A2, c2, rfl, rfl, hKa.size, B1, R1, hFb, K1⟩) | (have B1 := Blk.putEv (t0 := ev0 0) (b0 := .slice none 0 0) Bg t' (.slice A2 t'.bytes.length c2); have R1 := byte_ne_ev (t := ev0 0) (A0 := none) (n0 := 0) (c0 := 0) hRb Bg ((Only.refl [wr.heap.size] wb).putEv (g := wr.heap.size) (.inl (by simp)) t' (.slice A2 t'.bytes.length c2)); have K1 := ((Only.refl [wr.heap.size] wb).putEv (g := wr.heap.size) (.inl (by simp)) t' (.slice A2 t'.bytes.length c2)).kp hKb (fun b hb => by rw [List.mem_singleton] at hb; subst hb; exact Nat.le_refl _); simp only [evSet, evC] at B1 R1 K1; with_reducible exact ⟨wr.heap.size, A2, c2, rfl, rfl, Nat.le_refl _, B1, R1, hFb, K1⟩)
                case rest =>
                  obtain ⟨g2, A2, c2, rfl, rfl, hg2, hB2, hR2, hF2, hKc⟩ := hcut
                  have hB2 : Blk wc g2 27 (evC t' (.slice A2 t'.bytes.length c2)) := hB2
                  have BE2 := BE.keep hKc
                  have r0 : wc.cell? ⟨g2, 0, none⟩ = some (.int .i64 t'.kind) := hB2.cell 0
                  have r1 : wc.cell? ⟨g2, 1, none⟩ = some (.int .i64 t'.a) := hB2.cell 1
                  have r2 : wc.cell? ⟨g2, 2, none⟩ = some (.int .i64 t'.b) := hB2.cell 2
                  have r3 : wc.cell? ⟨g2, 3, none⟩ = some (.int .i64 t'.c) := hB2.cell 3
                  have r4 : wc.cell? ⟨g2, 4, none⟩ = some (.int .i64 t'.draw) := hB2.cell 4
                  have r5 : wc.cell? ⟨g2, 5, none⟩ = some (.int .u32 (t'.src : Int)) := hB2.cell 5
                  have r6 : wc.cell? ⟨g2, 6, none⟩ = some (.slice A2 t'.bytes.length c2) := hB2.cell 6
                  have d0 : wc.cell? ⟨w2.heap.size, 0, none⟩ = some (.int .i64 t.kind) := BE2.cell 0
                  have d1 : wc.cell? ⟨w2.heap.size, 1, none⟩ = some (.int .i64 t.a) := BE2.cell 1
                  have d2 : wc.cell? ⟨w2.heap.size, 2, none⟩ = some (.int .i64 t.b) := BE2.cell 2
                  have d3 : wc.cell? ⟨w2.heap.size, 3, none⟩ = some (.int .i64 t.c) := BE2.cell 3
                  have d4 : wc.cell? ⟨w2.heap.size, 4, none⟩ = some (.int .i64 t.draw) := BE2.cell 4
                  have d5 : wc.cell? ⟨w2.heap.size, 5, none⟩ = some (.int .u32 (t.src : Int)) := BE2.cell 5
                  have d6 : wc.cell? ⟨w2.heap.size, 6, none⟩ = some (.slice A t.bytes.length c1) := BE2.cell 6
                  have z0 := BE2.frozen 0
                  have z1 := BE2.frozen 1
                  have z2 := BE2.frozen 2
                  have z3 := BE2.frozen 3
                  have z4 := BE2.frozen 4
                  have z5 := BE2.frozen 5
                  have z6 := BE2.frozen 6
                  have hOz := (Only.refl [w2.heap.size] wc).putEv (g := w2.heap.size) (.inl (by simp)) t' (.slice A2 t'.bytes.length c2)
                  have Hn : Hid (RPar s.data.toList w w2.heap.size b o c k hd ws (j + 1) t' (evSet wc w2.heap.size t' (.slice A2 t'.bytes.length c2))) := Lib.hid
                    ⟨hOz.kp (R.out.kp.trans hKc) (by have := R.out.ge; simpa using Nat.le_of_lt this), (R.out.p0.keep hKc).only hOz (by have := R.out.ge; simp; omega), (R.out.wd.keep hKc).only hOz (fun b' o' e => by injection e with e; injection e with e; subst e; exact R.out.nb), R.out.ge, R.out.nb,
                      ⟨A2, c2, BE2.putEv t' _, byte_ne_ev hR2 BE2 hOz, fun b o e => by
                        rcases hF2 with h | h
                        · exact hFr b o (by rw [← h]; exact e)
                        · have := h b o e; have := R.out.p0.lt; omega⟩, fun hm => Hno.out hm, Hmo.out⟩
                  simp only [evSet] at Hn
                  clear hB2 hR2 hKc BE2 hOz BE R HR0
                  go_wp2_with fail
                  go_roundw
                  case rel => exact ⟨j + 1, t', by omega, by go_num, Hn⟩
                  case measure => simp [intOf]; omega
              | none =>
                have Hr := Lib.hid hr
                have HA := Lib.hid hA
                rw [hr, Option.bind_none] at hmore
                have Hno := Lib.hid hmore
                clear hr hmore hxx hbo hp hl hA
                have kd : Kp wr wr.drew := (Kp.refl _).drew
                go_upto_region 14 with (fail)
                go_cut [9, 10] from 46 to 64 (fun s9 s10 wx => s10 = .bool false ∧ Kp wr wx)
                case first =>
                  have kal : Kp wr (wr.alloc (.cells #[.int .i64 0, .int .i64 0, .int .i64 0, .int .i64 0, .int .i64 0, .int .u32 0, .slice none 0 0] 27)).drew := ((Kp.refl wr).alloc _).drew
                  go_region_held3 (fun W' => W'.cell? ⟨w2.heap.size, 0, none⟩ = some (.int .i64 t.kind) ∧ W'.cell? ⟨w2.heap.size, 1, none⟩ = some (.int .i64 t.a) ∧ W'.cell? ⟨w2.heap.size, 2, none⟩ = some (.int .i64 t.b) ∧ W'.cell? ⟨w2.heap.size, 3, none⟩ = some (.int .i64 t.c) ∧ W'.cell? ⟨w2.heap.size, 4, none⟩ = some (.int .i64 t.draw) ∧ W'.cell? ⟨w2.heap.size, 5, none⟩ = some (.int .u32 (t.src : Int)) ∧ W'.cell? ⟨w2.heap.size, 6, none⟩ = some (.slice A t.bytes.length c1) ∧ W'.cell? ⟨b, o + (j + 1), none⟩ = some (.string (strB l)) ∧ Kp wr W')
                    (first | (with_reducible exact ⟨Kp.cell kd e0, Kp.cell kd e1, Kp.cell kd e2, Kp.cell kd e3, Kp.cell kd e4, Kp.cell kd e5, Kp.cell kd e6, Kp.cell kd hcj, kd⟩) | (with_reducible exact ⟨Kp.cell kal e0, Kp.cell kal e1, Kp.cell kal e2, Kp.cell kal e3, Kp.cell kal e4, Kp.cell kal e5, Kp.cell kal e6, Kp.cell kal hcj, kal⟩) | (with_reducible exact ⟨Kp.cell hKa e0, Kp.cell hKa e1, Kp.cell hKa e2, Kp.cell hKa e3, Kp.cell hKa e4, Kp.cell hKa e5, Kp.cell hKa e6, Kp.cell hKa hcj, hKa⟩) | (with_reducible exact ⟨Kp.cell (hKa.alloc _) e0, Kp.cell (hKa.alloc _) e1, Kp.cell (hKa.alloc _) e2, Kp.cell (hKa.alloc _) e3, Kp.cell (hKa.alloc _) e4, Kp.cell (hKa.alloc _) e5, Kp.cell (hKa.alloc _) e6, Kp.cell (hKa.alloc _) hcj, (hKa.alloc _)⟩) | (with_reducible exact ⟨Kp.cell hKb e0, Kp.cell hKb e1, Kp.cell hKb e2, Kp.cell hKb e3, Kp.cell hKb e4, Kp.cell hKb e5, Kp.cell hKb e6, Kp.cell hKb hcj, hKb⟩) | (with_reducible exact ⟨Kp.cell (hKb.alloc _) e0, Kp.cell (hKb.alloc _) e1, Kp.cell (hKb.alloc _) e2, Kp.cell (hKb.alloc _) e3, Kp.cell (hKb.alloc _) e4, Kp.cell (hKb.alloc _) e5, Kp.cell (hKb.alloc _) e6, Kp.cell (hKb.alloc _) hcj, (hKb.alloc _)⟩) | (have KZ := ((Only.refl [wa.heap.size] wb).putEv (g := wa.heap.size) (.inl (by simp)) t0 (.slice A0 n0 c0)).kp (a := wr) hKb (by have := hKa.size; simpa using this); simp only [evSet] at KZ; with_reducible exact ⟨Kp.cell KZ e0, Kp.cell KZ e1, Kp.cell KZ e2, Kp.cell KZ e3, Kp.cell KZ e4, Kp.cell KZ e5, Kp.cell KZ e6, Kp.cell KZ hcj, KZ⟩) | (have KZ := ((Only.refl [wr.heap.size] wb).putEv (g := wr.heap.size) (.inl (by simp)) t0 (.slice A0 n0 c0)).kp (a := wr) hKb (by simp); simp only [evSet] at KZ; with_reducible exact ⟨Kp.cell KZ e0, Kp.cell KZ e1, Kp.cell KZ e2, Kp.cell KZ e3, Kp.cell KZ e4, Kp.cell KZ e5, Kp.cell KZ e6, Kp.cell KZ hcj, KZ⟩) | (have KZ := ((Only.refl [wb.heap.size] (wb.alloc (.cells #[.int .i64 0, .int .i64 0, .int .i64 0, .int .i64 0, .int .i64 0, .int .u32 0, .slice none 0 0] 27))).putEv (g := wb.heap.size) (.inl (by simp)) t0 (.slice A0 n0 c0)).kp (a := wr) (hKb.alloc _) (by have := hKb.size; simpa using this); simp only [evSet] at KZ; with_reducible exact ⟨Kp.cell KZ e0, Kp.cell KZ e1, Kp.cell KZ e2, Kp.cell KZ e3, Kp.cell KZ e4, Kp.cell KZ e5, Kp.cell KZ e6, Kp.cell KZ hcj, KZ⟩) | fail)
                    (first | (go_at_call 47; (first | (with_reducible refine (rparts_any wr.drew).mono ?_; rintro e wa ⟨rfl, hKa⟩; replace hKa := kd.trans hKa) | (with_reducible refine (rparts_any (wr.alloc (.cells #[.int .i64 0, .int .i64 0, .int .i64 0, .int .i64 0, .int .i64 0, .int .u32 0, .slice none 0 0] 27)).drew).mono ?_; rintro e wa ⟨rfl, hKa⟩; have Bg := (Blk.new wr 27 #[.int .i64 0, .int .i64 0, .int .i64 0, .int .i64 0, .int .i64 0, .int .u32 0, .slice none 0 0]).drew.keep hKa; replace hKa := kal.trans hKa))) | (go_at_call 54; (first | (with_reducible refine (part_nay Hr.out A c1 hlj wa (HA.out.keep hKa)).mono ?_; rintro e wb ⟨t0, A0, n0, c0, rfl, hKb⟩; (try replace Bg := Bg.keep hKb); (try (have m0 : wb.cell? ⟨_, 0, none⟩ = some (.int .i64 0) := Bg.cell 0; have m1 : wb.cell? ⟨_, 1, none⟩ = some (.int .i64 0) := Bg.cell 1; have m2 : wb.cell? ⟨_, 2, none⟩ = some (.int .i64 0) := Bg.cell 2; have m3 : wb.cell? ⟨_, 3, none⟩ = some (.int .i64 0) := Bg.cell 3; have m4 : wb.cell? ⟨_, 4, none⟩ = some (.int .i64 0) := Bg.cell 4; have m5 : wb.cell? ⟨_, 5, none⟩ = some (.int .u32 0) := Bg.cell 5; have m6 : wb.cell? ⟨_, 6, none⟩ = some (.slice none 0 0) := Bg.cell 6; have fz0 := Bg.frozen 0; have fz1 := Bg.frozen 1; have fz2 := Bg.frozen 2; have fz3 := Bg.frozen 3; have fz4 := Bg.frozen 4; have fz5 := Bg.frozen 5; have fz6 := Bg.frozen 6)); replace hKb := hKa.trans hKb) | (with_reducible refine (part_nay Hr.out A c1 hlj (wa.alloc (.cells #[.int .i64 0, .int .i64 0, .int .i64 0, .int .i64 0, .int .i64 0, .int .u32 0, .slice none 0 0] 27)) (HA.out.keep (hKa.alloc _))).mono ?_; rintro e wb ⟨t0, A0, n0, c0, rfl, hKb⟩; have Bg := (Blk.new wa 27 #[.int .i64 0, .int .i64 0, .int .i64 0, .int .i64 0, .int .i64 0, .int .u32 0, .slice none 0 0]).keep hKb; have m0 : wb.cell? ⟨_, 0, none⟩ = some (.int .i64 0) := Bg.cell 0; have m1 : wb.cell? ⟨_, 1, none⟩ = some (.int .i64 0) := Bg.cell 1; have m2 : wb.cell? ⟨_, 2, none⟩ = some (.int .i64 0) := Bg.cell 2; have m3 : wb.cell? ⟨_, 3, none⟩ = some (.int .i64 0) := Bg.cell 3; have m4 : wb.cell? ⟨_, 4, none⟩ = some (.int .i64 0) := Bg.cell 4; have m5 : wb.cell? ⟨_, 5, none⟩ = some (.int .u32 0) := Bg.cell 5; have m6 : wb.cell? ⟨_, 6, none⟩ = some (.slice none 0 0) := Bg.cell 6; have fz0 := Bg.frozen 0; have fz1 := Bg.frozen 1; have fz2 := Bg.frozen 2; have fz3 := Bg.frozen 3; have fz4 := Bg.frozen 4; have fz5 := Bg.frozen 5; have fz6 := Bg.frozen 6; replace hKb := (hKa.alloc _).trans hKb))))
                  all_goals
                    go_wp2_with fail
                    go_meet
                    case rel => first | (with_reducible exact ⟨rfl, hKb.alloc _⟩) | (have K1 := ((Only.refl [wa.heap.size] wb).putEv (g := wa.heap.size) (.inl (by simp)) t0 (.slice A0 n0 c0)).kp hKb (fun b hb => by rw [List.mem_singleton] at hb; subst hb; exact hKa.size); simp only [evSet] at K1; with_reducible exact ⟨rfl, K1⟩) | (have K1 := ((Only.refl [wr.heap.size] wb).putEv (g := wr.heap.size) (.inl (by simp)) t0 (.slice A0 n0 c0)).kp hKb (fun b hb => by rw [List.mem_singleton] at hb; subst hb; exact Nat.le_refl _); simp only [evSet] at K1; with_reducible exact ⟨rfl, K1⟩)
                case rest =>
                  obtain ⟨rfl, hKc⟩ := hcut
                  have BR2 := R.out.p0.keep hKc
                  have d0 : wc.cell? ⟨w.heap.size, 0, none⟩ = some (.int .i64 0) := BR2.cell 0
                  have d1 : wc.cell? ⟨w.heap.size, 1, none⟩ = some (.int .i64 0) := BR2.cell 1
                  have d2 : wc.cell? ⟨w.heap.size, 2, none⟩ = some (.int .i64 0) := BR2.cell 2
                  have d3 : wc.cell? ⟨w.heap.size, 3, none⟩ = some (.int .i64 0) := BR2.cell 3
                  have d4 : wc.cell? ⟨w.heap.size, 4, none⟩ = some (.int .i64 0) := BR2.cell 4
                  have d5 : wc.cell? ⟨w.heap.size, 5, none⟩ = some (.int .u32 0) := BR2.cell 5
                  have d6 : wc.cell? ⟨w.heap.size, 6, none⟩ = some (.slice none 0 0) := BR2.cell 6
                  have z0 := BR2.frozen 0
                  have z1 := BR2.frozen 1
                  have z2 := BR2.frozen 2
                  have z3 := BR2.frozen 3
                  have z4 := BR2.frozen 4
                  have z5 := BR2.frozen 5
                  have z6 := BR2.frozen 6
                  go_wp2_with fail
                  have hBz := BR2.putEv (ev0 0) (.slice none 0 0)
                  have hKz := ((Only.refl [w.heap.size] wc).putEv (g := w.heap.size) (.inl (by simp)) (ev0 0) (.slice none 0 0)).kp (R.out.kp.trans hKc) (by simp)
                  have f0 := hBz.cell 0
                  have f1 := hBz.cell 1
                  have f2 := hBz.cell 2
                  have f3 := hBz.cell 3
                  have f4 := hBz.cell 4
                  have f5 := hBz.cell 5
                  have f6 := hBz.cell 6
                  refine bodyPost_ret (v := .tuple #[evV (ev0 0) (.slice none 0 0), .int .i64 260]) (w := evSet wc w.heap.size (ev0 0) (.slice none 0 0)) ?_ rfl ?_
                  · show (results _ _).run _ (evSet wc w.heap.size (ev0 0) (.slice none 0 0)) = _
                    generalize evSet wc w.heap.size (ev0 0) (.slice none 0 0) = WZ at f0 f1 f2 f3 f4 f5 f6 ⊢
                    simp [results, Tryz.results18, go_sem, f0, f1, f2, f3, f4, f5, f6, evC, ev0]
                  · exact ⟨hKz, fun t ht => (by rw [Hno.out] at ht; cases ht), fun _ => rfl⟩
            · have hje : j = ws.length := by omega
              have Hp := Lib.hid (show parseE s.data.toList = some t by
                rw [R.out.more, List.drop_eq_nil_of_le (by have := Hlen2.out; omega)]; rfl)
              subst hje
              have BR2 := R.out.p0
              have d0 : wr.cell? ⟨w.heap.size, 0, none⟩ = some (.int .i64 0) := BR2.cell 0
              have d1 : wr.cell? ⟨w.heap.size, 1, none⟩ = some (.int .i64 0) := BR2.cell 1
              have d2 : wr.cell? ⟨w.heap.size, 2, none⟩ = some (.int .i64 0) := BR2.cell 2
              have d3 : wr.cell? ⟨w.heap.size, 3, none⟩ = some (.int .i64 0) := BR2.cell 3
              have d4 : wr.cell? ⟨w.heap.size, 4, none⟩ = some (.int .i64 0) := BR2.cell 4
              have d5 : wr.cell? ⟨w.heap.size, 5, none⟩ = some (.int .u32 0) := BR2.cell 5
              have d6 : wr.cell? ⟨w.heap.size, 6, none⟩ = some (.slice none 0 0) := BR2.cell 6
              have z0 := BR2.frozen 0
              have z1 := BR2.frozen 1
              have z2 := BR2.frozen 2
              have z3 := BR2.frozen 3
              have z4 := BR2.frozen 4
              have z5 := BR2.frozen 5
              have z6 := BR2.frozen 6
              have hOz := (Only.refl [w.heap.size] wr).putEv (g := w.heap.size) (.inl (by simp)) t (.slice A t.bytes.length c1)
              have hBz := BR2.putEv t (.slice A t.bytes.length c1)
              have hKz := hOz.kp R.out.kp (by simp)
              have hRz := byte_ne_ev hA BR2 hOz
              clear hOz BR2
              go_wp2_with fail
              have f0 := hBz.cell 0
              have f1 := hBz.cell 1
              have f2 := hBz.cell 2
              have f3 := hBz.cell 3
              have f4 := hBz.cell 4
              have f5 := hBz.cell 5
              have f6 := hBz.cell 6
              refine bodyPost_ret (v := .tuple #[evV t (.slice A t.bytes.length c1), .int .i64 0]) (w := evSet wr w.heap.size t (.slice A t.bytes.length c1)) ?_ rfl ?_
              · show (results _ _).run _ (evSet wr w.heap.size t (.slice A t.bytes.length c1)) = _
                generalize evSet wr w.heap.size t (.slice A t.bytes.length c1) = WZ at f0 f1 f2 f3 f4 f5 f6 ⊢
                simp [results, Tryz.results18, go_sem, f0, f1, f2, f3, f4, f5, f6, evC]
              · exact ⟨hKz, fun t' ht => (by rw [Hp.out] at ht; injection ht with ht; subst ht; exact ⟨A, c1, rfl, hRz, hFr⟩), fun h => (by rw [Hp.out] at h; cases h)⟩
        · have Hn := Lib.hid (show parseE s.data.toList = none by rw [Hpe.out, parseK, if_neg hk0, if_neg hlen])
          have hz2 : ((ws.length : Int) + 1 != 1 + ((partsOf k).length : Int)) = true := by rw [bne_iff_ne]; omega
          clear q0 q1 q2 q3 q4 q5 q6 y0 y1 y2 y3 y4 y5 y6
          go_wp2_with (first | (go_at_call 47; refine (rparts_any _).mono ?_; rintro e w2 ⟨rfl, hK2⟩; replace BR := BR.keep hK2; replace hKq := hKq.trans hK2; have q0 : w2.cell? ⟨w.heap.size, 0, none⟩ = some (.int .i64 0) := BR.cell 0; have q1 : w2.cell? ⟨w.heap.size, 1, none⟩ = some (.int .i64 0) := BR.cell 1; have q2 : w2.cell? ⟨w.heap.size, 2, none⟩ = some (.int .i64 0) := BR.cell 2; have q3 : w2.cell? ⟨w.heap.size, 3, none⟩ = some (.int .i64 0) := BR.cell 3; have q4 : w2.cell? ⟨w.heap.size, 4, none⟩ = some (.int .i64 0) := BR.cell 4; have q5 : w2.cell? ⟨w.heap.size, 5, none⟩ = some (.int .u32 0) := BR.cell 5; have q6 : w2.cell? ⟨w.heap.size, 6, none⟩ = some (.slice none 0 0) := BR.cell 6; have y0 := BR.frozen 0; have y1 := BR.frozen 1; have y2 := BR.frozen 2; have y3 := BR.frozen 3; have y4 := BR.frozen 4; have y5 := BR.frozen 5; have y6 := BR.frozen 6))
          have hBz := (BR).putEv (ev0 0) (.slice none 0 0)
          have hKz := ((Only.refl [w.heap.size] w2).putEv (g := w.heap.size) (.inl (by simp)) (ev0 0) (.slice none 0 0)).kp (hKq) (by simp)
          have f0 := hBz.cell 0
          have f1 := hBz.cell 1
          have f2 := hBz.cell 2
          have f3 := hBz.cell 3
          have f4 := hBz.cell 4
          have f5 := hBz.cell 5
          have f6 := hBz.cell 6
          refine bodyPost_ret (v := .tuple #[evV (ev0 0) (.slice none 0 0), .int .i64 260]) (w := evSet w2 w.heap.size (ev0 0) (.slice none 0 0)) ?_ rfl ?_
          · show (results _ _).run _ (evSet w2 w.heap.size (ev0 0) (.slice none 0 0)) = _
            generalize evSet w2 w.heap.size (ev0 0) (.slice none 0 0) = WZ at f0 f1 f2 f3 f4 f5 f6 ⊢
            simp [results, Tryz.results18, go_sem, f0, f1, f2, f3, f4, f5, f6, evC, ev0]
          · exact ⟨hKz, fun t ht => (by rw [Hn.out] at ht; cases ht), fun _ => rfl⟩
theorem rparse_any (s : ByteArray) (hs : s.size ≤ 1000000) (w : World) : Calls Tryz.prog 18 #[.string s] w (ParseP s w) := by
  refine (rparse_fresh s hs w).mono ?_
  rintro e w' ⟨hK, hY, hN⟩
  refine ⟨hK, fun t ht => ?_, hN⟩
  obtain ⟨A, c, e, hR, _⟩ := hY t ht
  exact ⟨A, c, e, hR⟩
end Go.Proofs.YtbfimimhgdkpaaaGreatDoor

/- A script's lines, its events, read by the program and by the reference: no program in sight. -/
namespace Go.Proofs.YtbfimimhgdkpaaaGreatDoor
open Go.Lib

/-- What stands ahead of the first byte 10, behind it, and whether there is one. -/
def cutL : List UInt8 → List UInt8 × List UInt8 × Bool
  | [] => ([], [], false)
  | c :: l => if c = 10 then ([], l, true) else (c :: (cutL l).1, (cutL l).2.1, (cutL l).2.2)
theorem cutL_yes : ∀ s : List UInt8, (cutL s).2.2 = true → s = (cutL s).1 ++ 10 :: (cutL s).2.1 ∧ (∀ c ∈ (cutL s).1, c ≠ 10)
  | [], h => by simp [cutL] at h
  | c :: l, h => by
    unfold cutL at h ⊢
    by_cases hc : c = 10
    · rw [if_pos hc] at h ⊢
      exact ⟨by simp [hc], by simp⟩
    · rw [if_neg hc] at h ⊢
      obtain ⟨a, b⟩ := cutL_yes l h
      refine ⟨by simp only [List.cons_append]; rw [← a], fun d hd => ?_⟩
      rcases List.mem_cons.1 hd with e | e
      · rw [e]; exact hc
      · exact b d e
theorem cutL_no : ∀ s : List UInt8, (cutL s).2.2 = false → (cutL s).1 = s ∧ (cutL s).2.1 = [] ∧ (∀ c ∈ s, c ≠ 10)
  | [], _ => ⟨rfl, rfl, by simp⟩
  | c :: l, h => by
    unfold cutL at h ⊢
    by_cases hc : c = 10
    · rw [if_pos hc] at h; cases h
    · rw [if_neg hc] at h ⊢
      obtain ⟨a, b, d⟩ := cutL_no l h
      refine ⟨by simp only; rw [a], b, fun x hx => ?_⟩
      rcases List.mem_cons.1 hx with e | e
      · rw [e]; exact hc
      · exact d x e
theorem cutL_rest : ∀ s : List UInt8, s ≠ [] → (cutL s).2.1.length < s.length
  | [], h => absurd rfl h
  | c :: l, _ => by
    unfold cutL
    by_cases hc : c = 10
    · rw [if_pos hc]; simp
    · rw [if_neg hc]
      simp only [List.length_cons]
      cases l with
      | nil => simp [cutL]
      | cons d l => have := cutL_rest (d :: l) (by simp); simp only [List.length_cons] at this ⊢; omega
/-- The lines of pieces between bytes 10, each with whether one stands behind it. -/
def linesP : List (List UInt8) → List (List UInt8 × Bool)
  | [] => []
  | [x] => if x = [] then [] else [(x, false)]
  | x :: y :: r => (x, true) :: linesP (y :: r)
def linesS (s : List UInt8) : List (List UInt8 × Bool) := linesP (parted 10 s)
theorem linesS_nil : linesS [] = [] := rfl
theorem linesS_step {s : List UInt8} (h : s ≠ []) : linesS s = ((cutL s).1, (cutL s).2.2) :: linesS (cutL s).2.1 := by
  unfold linesS
  cases he : (cutL s).2.2 with
  | true =>
    obtain ⟨a, b⟩ := cutL_yes s he
    have e : parted 10 s = (cutL s).1 :: parted 10 (cutL s).2.1 := by
      have := parted_at (v := (cutL s).2.1) b
      rw [← a] at this
      exact this
    rw [e]
    cases hp : parted 10 (cutL s).2.1 with
    | nil => exact absurd hp (parted_ne _ _)
    | cons y r => rfl
  | false =>
    obtain ⟨a, b, d⟩ := cutL_no s he
    rw [a, b, parted_one d]
    simp [linesP, h, parted]
theorem linesP_len : ∀ ps : List (List UInt8), (linesP ps).length ≤ ps.length
  | [] => by simp [linesP]
  | [x] => by unfold linesP; split <;> simp
  | x :: y :: r => by have := linesP_len (y :: r); unfold linesP; simp at this ⊢; omega
theorem linesS_len (s : List UInt8) : (linesS s).length ≤ s.length + 1 := Nat.le_trans (linesP_len _) (parted_len 10 s)
theorem linesP_sub : ∀ (ps : List (List UInt8)) (n : Nat), (∀ x ∈ ps, x.length ≤ n) → ∀ y ∈ linesP ps, y.1.length ≤ n
  | [], n, _, y, hy => by simp [linesP] at hy
  | [x], n, h, y, hy => by
    unfold linesP at hy
    split at hy
    · simp at hy
    · simp at hy; subst hy; exact h x (by simp)
  | x :: z :: r, n, h, y, hy => by
    unfold linesP at hy
    rcases List.mem_cons.1 hy with e | e
    · subst e; exact h x (by simp)
    · exact linesP_sub (z :: r) n (fun u hu => h u (by simp only [List.mem_cons] at hu ⊢; exact .inr hu)) y e
theorem linesS_sub (s : List UInt8) : ∀ y ∈ linesS s, y.1.length ≤ s.length := linesP_sub _ _ (fun x hx => parted_sub 10 s x hx)
/-- What Read takes: events, the line, the error. -/
def readL : List (List UInt8 × Bool) → Nat → List Ev → List Ev × Nat × Int
  | [], n, acc => (acc, n, 0)
  | (x, e) :: r, n, acc => if e = false then ([], n, 260) else if x = [] then readL r (n + 1) acc else match parseE x with
    | none => ([], n, 260)
    | some t => if acc.length = 500 then ([], n, 3) else readL r (n + 1) (acc ++ [t])
/-- What Each hands over. -/
def allL : List (List UInt8 × Bool) → Nat → List (Nat × Ev)
  | [], _ => []
  | (x, e) :: r, n => if e = false then [] else if x = [] then allL r (n + 1) else match parseE x with
    | none => []
    | some t => (n, t) :: allL r (n + 1)
/-- What the reference's Each tells. -/
def eachG : List (List UInt8) → Nat → List (Nat × Ev) → List (Nat × Ev) × Nat × Bool
  | [], n, acc => (acc, n, false)
  | [x], n, acc => (acc, n, decide (x ≠ []))
  | x :: y :: r, n, acc => if x = [] then eachG (y :: r) (n + 1) acc else match parseE x with
    | none => (acc, n, true)
    | some t => eachG (y :: r) (n + 1) (acc ++ [(n, t)])
def readR (q : List (Nat × Ev) × Nat × Bool) : List Ev × Nat × Int :=
  if 500 < q.1.length then ([], (q.1.getD 500 (0, ev0 0)).1, 3) else if q.2.2 = true then ([], q.2.1, 260) else (q.1.map (·.2), q.2.1, 0)
theorem eachG_all : ∀ (ps : List (List UInt8)) (n : Nat) (acc : List (Nat × Ev)), (eachG ps n acc).1 = acc ++ allL (linesP ps) n
  | [], n, acc => by simp [eachG, linesP, allL]
  | [x], n, acc => by
    unfold eachG linesP
    split
    · simp [allL]
    · simp [allL]
  | x :: y :: r, n, acc => by
    rw [eachG, linesP, allL, if_neg (show ¬ (true = false) by simp)]
    by_cases hx : x = []
    · rw [if_pos hx, if_pos hx]
      exact eachG_all (y :: r) (n + 1) acc
    · rw [if_neg hx, if_neg hx]
      cases hp : parseE x with
      | none => simp
      | some t =>
        simp only
        rw [eachG_all (y :: r) (n + 1) (acc ++ [(n, t)]), List.append_assoc]
        rfl
theorem readR_mk {l : List (Nat × Ev)} (h : l.length ≤ 500) (n : Nat) (b : Bool) : readR (l, n, b) = if b = true then ([], n, 260) else (l.map (·.2), n, 0) := by
  unfold readR
  rw [if_neg (by simp only; omega)]
theorem readL_eq : ∀ (ps : List (List UInt8)) (n : Nat) (acc : List (Nat × Ev)), acc.length ≤ 500 → readL (linesP ps) n (acc.map (·.2)) = readR (eachG ps n acc)
  | [], n, acc, h => by
    rw [eachG, readR_mk h]
    rfl
  | [x], n, acc, h => by
    rw [eachG, readR_mk h]
    by_cases hx : x = []
    · subst hx
      rfl
    · have e : linesP [x] = [(x, false)] := by rw [linesP, if_neg hx]
      rw [e, readL, if_pos rfl, if_pos (by simpa using hx)]
  | x :: y :: r, n, acc, h => by
    rw [eachG, linesP, readL, if_neg (show ¬ (true = false) by simp)]
    by_cases hx : x = []
    · rw [if_pos hx, if_pos hx]
      exact readL_eq (y :: r) (n + 1) acc h
    · rw [if_neg hx, if_neg hx]
      cases hp : parseE x with
      | none =>
        simp only
        rw [readR_mk h, if_pos rfl]
      | some t =>
        simp only [List.length_map]
        by_cases h5 : acc.length = 500
        · rw [if_pos h5]
          have ha := eachG_all (y :: r) (n + 1) (acc ++ [(n, t)])
          unfold readR
          rw [ha]
          have hl : 500 < (acc ++ [(n, t)] ++ allL (linesP (y :: r)) (n + 1)).length := by simp; omega
          rw [if_pos hl]
          have hg : (acc ++ [(n, t)] ++ allL (linesP (y :: r)) (n + 1)).getD 500 (0, ev0 0) = (n, t) := by
            rw [List.getD_eq_getElem?_getD, List.append_assoc, List.getElem?_append_right (by omega)]
            simp [h5]
          rw [hg]
        · rw [if_neg h5]
          have := readL_eq (y :: r) (n + 1) (acc ++ [(n, t)]) (by simp; omega)
          rw [List.map_append] at this
          exact this
def refReadE (s : List UInt8) : List Ev × Nat × Int := readR (eachG (parted 10 s) 0 [])
theorem read_same (s : List UInt8) : readL (linesS s) 0 [] = refReadE s := readL_eq _ 0 [] (by simp)
end Go.Proofs.YtbfimimhgdkpaaaGreatDoor

/- Ranges over functions, in plain walks: an iterator's contract, the statement, a function's end behind it. No condition. -/
namespace Go.Proofs.YtbfimimhgdkpaaaGreatDoor
open Go.RowKit

/-- An iterator that hands over the rows xs 0 .. xs (N - 1), till its yield says no. M: what it reads. -/
def Iter (P : Program) (gf : FuncId) (caps : Array Value) (N : Nat) (xs : Nat → Array Value) (M : World → Prop) : Prop :=
  ∀ (l : Nat) (I Z : Nat → World → Prop) (W : World),
    (∀ k W W', I k W → Kp W W' → I k W') → (∀ k W W', Z k W → Kp W W' → Z k W') → (∀ k W, I k W → M W) →
    (∀ k W, k < N → I k W → ∃ fn tmps assign body, (Instr.yield l (xs k)).run P W = .ok (.round l fn tmps assign body) W ∧
      RoundIn Fence.wide 0 P l fn tmps assign body W (fun e W' => (e = .returned (.bool true) ∧ I (k + 1) W') ∨ (e = .returned (.bool false) ∧ Z (k + 1) W'))) →
    I 0 W → Calls P gf (#[.func (.yield l) #[] #[]] ++ caps) W (fun e W' => e = .returned (.tuple #[]) ∧ (I N W' ∨ ∃ k, 0 < k ∧ k ≤ N ∧ Z k W'))

def Kept2 (w W W' : World) : Prop := W'.heap[w.heap.size]? = W.heap[w.heap.size]? ∧ W'.heap[w.heap.size + 1]? = W.heap[w.heap.size + 1]?

/-- How a round's body may be left. -/
def rndPost (w : World) (I : Nat → World → Prop) (Ix : Code → Nat → World → Prop) (k : Nat) (W : World) : Exit → Act → World → Prop
  | .normal, _, W' => Kept2 w W W' ∧ I k W'
  | .ret, _, W' => Kept2 w W W' ∧ Ix .ret k W'
  | .exit id, _, W' => Kept2 w W W' ∧ Ix (.exit id) k W'
  | .goto t, _, W' => Kept2 w W W' ∧ Ix (.goto t) k W'
  | .panic _, _, _ => False
  | .outgrown, _, _ => False

theorem Only.putObj {bs : List Nat} {a w : World} (h : Only bs a w) {r : Nat} (hr : r ∈ bs) (o : Obj) : Only bs a (w.putObj r o) :=
  ⟨h.os, h.tape, h.output, by simpa using h.size, fun k hk hn => (World.putObj_heap_other (fun e => hn (by rw [e]; exact hr))).trans (h.block k hk hn)⟩

theorem wp_range {P : Program} {g : Operand} {ps : Array Tmp} {assign body : Code} {Q : Exit → Act → World → Prop} {a : Act} {w : World} {gf : FuncId} {caps : Array Value} {N : Nat} {xs : Nat → Array Value} {M : World → Prop}
    (hg : a.eval g = .func (.func gf) #[] caps) (eg : ∀ args w, (callFunc gf args).run P w = .ok (.enter gf args) w) (hit : Iter P gf caps N xs M) (hps : ∀ k, k < N → (xs k).size = ps.size)
    (I : Nat → World → Prop) (Ix : Code → Nat → World → Prop)
    (hI : ∀ k W W', I k W → Only [w.heap.size, w.heap.size + 1] W W' → I k W') (hIx : ∀ c k W W', Ix c k W → Only [w.heap.size, w.heap.size + 1] W W' → Ix c k W')
    (hM : ∀ k W, I k W → M W) (h0 : I 0 w)
    (hround : ∀ l k W, k < N → I k W → assign.wpIn (Fence.wide.inRound l) 0 P (Exit.then (fun a' W' => W = W' ∧ ∀ W2, I k W2 → w.heap.size + 1 < W2.heap.size → body.wpIn (Fence.wide.inRound l) 0 P (rndPost w I Ix (k + 1) W2) a' W2) (fun _ _ _ => False))
      { tmps := (ps.zip (xs k)).foldl (fun t (p, v) => t.setIfInBounds p v) a.tmps, defers := [] } W)
    (hdone : ∀ W, I N W → W.heap[w.heap.size]? = some (.deferred (some [])) → Q .normal { a with defers := { target := .collected w.heap.size, args := #[] } :: a.defers } W)
    (hstop : ∀ c k W, 0 < k → k ≤ N → Ix c k W → W.heap[w.heap.size]? = some (.deferred (some [])) → c.wp P Q { a with defers := { target := .collected w.heap.size, args := #[] } :: a.defers } W) :
    (Code.rangeFunc g ps assign body).wp P Q a w := by
  refine (wpIn_wide (n := 0)).1 (wpIn_rangeFunc ?_)
  intro fn hfn
  obtain ⟨rec, hrec⟩ : ∃ rec : LoopState → Option Code → Loop, rec = fun st pe => { state := st, pending := pe, fn, tmps := a.tmps, params := ps, assign, body, defers := w.heap.size } := ⟨_, rfl⟩
  obtain ⟨W1, hW1⟩ : ∃ W1, (w.alloc (.deferred (some []))).alloc (.loop (rec .ready none)) = W1 := ⟨_, rfl⟩
  have hL1 : W1.heap[w.heap.size + 1]? = some (.loop (rec .ready none)) := by
    rw [← hW1]; have := World.alloc_heap_new (w.alloc (.deferred (some []))) (.loop (rec .ready none)); rwa [World.size_alloc] at this
  have hK1 : W1.heap[w.heap.size]? = some (.deferred (some [])) := by
    rw [← hW1]; exact (Below.heap_alloc _ _ _ (by simp)).trans (World.alloc_heap_new w _)
  have hI1 : I 0 W1 := by rw [← hW1]; exact hI 0 _ _ h0 (((Only.refl _ _).alloc _).alloc _)
  refine ⟨w.heap.size + 1, [{ target := .collected w.heap.size, args := #[] }], W1, { target := .fn (.func gf) caps, args := #[.func (.yield (w.heap.size + 1)) #[] #[]] }, W1, gf,
    #[.func (.yield (w.heap.size + 1)) #[] #[]] ++ caps, W1, ?_, ?_, fun _ _ => trivial, ?_, (fun h => by cases h), callsIn_wide.2 ?_⟩
  · rw [← hW1, hrec]; exact run_enterLoop_outer _ _ _ _ _
  · simp only [resolve, hg]
    simp [go_sem]
  · simp [invoke, go_sem, eg]
  · refine (hit (w.heap.size + 1)
      (fun k W => I k W ∧ W.heap[w.heap.size + 1]? = some (.loop (rec .ready none)) ∧ W.heap[w.heap.size]? = some (.deferred (some [])))
      (fun k W => ∃ c, Ix c k W ∧ W.heap[w.heap.size + 1]? = some (.loop (rec .done (some c))) ∧ W.heap[w.heap.size]? = some (.deferred (some [])))
      W1 ?_ ?_ (fun k W h => hM k W h.1) ?_ ⟨hI1, hL1, hK1⟩).mono ?_
    · rintro k W W' ⟨h1, h2, h3⟩ hk
      exact ⟨hI k W W' h1 (Only.of_kp hk), (hk.heap (Array.getElem?_eq_some_iff.1 h2).1).trans h2, (hk.heap (Array.getElem?_eq_some_iff.1 h3).1).trans h3⟩
    · rintro k W W' ⟨c, h1, h2, h3⟩ hk
      exact ⟨c, hIx c k W W' h1 (Only.of_kp hk), (hk.heap (Array.getElem?_eq_some_iff.1 h2).1).trans h2, (hk.heap (Array.getElem?_eq_some_iff.1 h3).1).trans h3⟩
    · rintro k W hk ⟨hi, hl, hd⟩
      have hlt : w.heap.size + 1 < W.heap.size := (Array.getElem?_eq_some_iff.1 hl).1
      have hy := run_yield (P := P) (args := xs k) hl (by rw [hrec]; exact hps k hk)
      rw [hrec] at hy
      refine ⟨fn, _, assign, body, hy, roundIn_of_wpIn trivial (wpIn_mono (hround _ k W hk hi) ?_)⟩
      rintro e₀ a' W' hq
      rcases e₀ with _ | id | t | _ | ch | _
      rotate_left
      · exact hq.elim
      · exact hq.elim
      · exact hq.elim
      · exact hq.elim
      · exact hq.elim
      obtain ⟨rfl, hbody⟩ := hq
      refine ⟨_, run_beginRound hl (by rw [hrec]), ?_⟩
      have hl2 : (W.putObj (w.heap.size + 1) (.loop { rec .ready none with state := .busy })).heap[w.heap.size + 1]? = some (.loop { rec .ready none with state := .busy }) := World.putObj_heap_same hlt
      have hd2 : (W.putObj (w.heap.size + 1) (.loop { rec .ready none with state := .busy })).heap[w.heap.size]? = some (.deferred (some [])) := (World.putObj_heap_other (by omega)).trans hd
      have hi2 : I k (W.putObj (w.heap.size + 1) (.loop { rec .ready none with state := .busy })) := hI k _ _ hi ((Only.refl _ _).putObj (by simp) _)
      refine wpIn_mono (hbody _ hi2 (by simpa using hlt)) ?_
      have fin : ∀ (jump : Option Code) (W3 : World), Kept2 w (W.putObj (w.heap.size + 1) (.loop { rec .ready none with state := .busy })) W3 →
          (Instr.endRound (w.heap.size + 1) jump).run P W3 = .ok (.bool jump.isNone) (W3.putObj (w.heap.size + 1) (.loop (rec (if jump.isNone then .ready else .done) jump))) ∧
          (W3.putObj (w.heap.size + 1) (.loop (rec (if jump.isNone then .ready else .done) jump))).heap[w.heap.size + 1]? = some (.loop (rec (if jump.isNone then .ready else .done) jump)) ∧
          (W3.putObj (w.heap.size + 1) (.loop (rec (if jump.isNone then .ready else .done) jump))).heap[w.heap.size]? = some (.deferred (some [])) := fun jump W3 hk3 => by
        have hl3 := hk3.2.trans hl2
        have hd3 := hk3.1.trans hd2
        have := run_endRound (P := P) jump hl3
        rw [hrec] at this ⊢
        exact ⟨this, World.putObj_heap_same (Array.getElem?_eq_some_iff.1 hl3).1, (World.putObj_heap_other (by omega)).trans hd3⟩
      rintro e a3 W3 hp
      cases e with
      | normal =>
        obtain ⟨hr, hl4, hd4⟩ := fin none W3 hp.1
        exact ⟨_, _, hr, .inl ⟨rfl, hI _ _ _ hp.2 ((Only.refl _ _).putObj (by simp) _), hl4, hd4⟩⟩
      | ret =>
        obtain ⟨hr, hl4, hd4⟩ := fin (some .ret) W3 hp.1
        exact ⟨_, _, hr, .inr ⟨rfl, .ret, hIx _ _ _ _ hp.2 ((Only.refl _ _).putObj (by simp) _), hl4, hd4⟩⟩
      | exit id =>
        obtain ⟨hr, hl4, hd4⟩ := fin (some (.exit id)) W3 hp.1
        exact ⟨_, _, hr, .inr ⟨rfl, .exit id, hIx _ _ _ _ hp.2 ((Only.refl _ _).putObj (by simp) _), hl4, hd4⟩⟩
      | goto t =>
        obtain ⟨hr, hl4, hd4⟩ := fin (some (.goto t)) W3 hp.1
        exact ⟨_, _, hr, .inr ⟨rfl, .goto t, hIx _ _ _ _ hp.2 ((Only.refl _ _).putObj (by simp) _), hl4, hd4⟩⟩
      | panic ch => exact hp.elim
      | outgrown => exact hp.elim
    · rintro e W3 ⟨rfl, h | ⟨k, hk0, hkN, c, hix, hl, hd⟩⟩
      · obtain ⟨hi, hl, hd⟩ := h
        have hend := run_endLoop (P := P) hl (by rw [hrec]; simp)
        have hpn : (rec .ready none).pending = none := by rw [hrec]
        rw [hpn] at hend
        refine ⟨none, _, hend, ?_⟩
        exact hdone _ (hI _ _ _ hi ((Only.refl _ _).putObj (by simp) _)) ((World.putObj_heap_other (by omega)).trans hd)
      · have hend := run_endLoop (P := P) hl (by rw [hrec]; simp)
        have hpn : (rec .done (some c)).pending = some c := by rw [hrec]
        rw [hpn] at hend
        refine ⟨some c, _, hend, ?_⟩
        refine (wpIn_wide (n := 0)).2 (hstop c k _ hk0 hkN (hIx _ _ _ _ hix ((Only.refl _ _).putObj (by simp) _)) ((World.putObj_heap_other (by omega)).trans hd))

/-- The marks of loops over functions are taken off, one by one. -/
def Takes : List Deferred → World → (World → Prop) → Prop
  | [], w, K => K w
  | d :: ds, w, K => ∃ r, d.target = .collected r ∧ w.heap[r]? = some (.deferred (some [])) ∧ Takes ds (w.putObj r (.deferred none)) K

theorem takes_steps {P : Program} {K : World → Prop} : ∀ (ds : List Deferred) (fr : Frame) (cs : List Frame) (w : World), fr.mode = .returning → fr.defers = ds → Takes ds w K →
    ∃ w', K w' ∧ Steps P (lone fr cs w) (lone { fr with defers := [] } cs w')
  | [], fr, cs, w, _, hd, h => ⟨w, h, by
      have : ({ fr with defers := [] } : Frame) = fr := by cases fr; simp_all
      rw [this]; exact Steps.refl P _⟩
  | d :: ds, fr, cs, w, hm, hd, ⟨r, ht, hr, h⟩ => by
    obtain ⟨w', hK, hs⟩ := takes_steps ds { fr with defers := [] ++ ds } cs _ hm rfl h
    exact ⟨w', hK, Steps.head (step_collected (by rw [hm]; simp) hd ht (run_takeDeferred hr)) hs⟩

/-- A body's end, with marks among what is deferred. -/
def bodyPostM (P : Program) (fn : Func) (R : Ending → World → Prop) : Exit → Act → World → Prop
  | .normal, a, w | .ret, a, w => Takes a.defers w (fun w' => ∃ v, (results fn a.tmps).run P w' = .ok v w' ∧ R (.returned v) w')
  | .outgrown, _, w => R .outgrown w
  | _, _, _ => False

theorem calls_of_wp_marks {P : Program} {f : FuncId} {fn : Func} {c : Code} {args : Array Value} {w : World} {R : Ending → World → Prop}
    (hf : P.funcs[f]? = some fn) (hb : fn.body = some c)
    (h : c.wp P (bodyPostM P fn R) { tmps := args ++ Array.replicate (fn.ntmps - args.size) undef, defers := [] } w) : Calls P f args w R := by
  intro cs
  let b : Frame := { (default : Frame) with fn := f, kind := .normal }
  have henter : Frame.enter P f args .normal = b.at { tmps := args ++ Array.replicate (fn.ntmps - args.size) undef, defers := [] } [.code c] := by
    simp [Frame.enter, Frame.at, hf, hb, b]
  obtain ⟨e, a', w', hq, harr⟩ := h b [] cs
  rw [← henter] at harr
  cases e with
  | normal =>
    obtain ⟨w2, ⟨v, hr, hR⟩, hs⟩ := takes_steps (P := P) a'.defers { b.at a' [] with mode := .returning } cs w' rfl rfl hq
    exact ⟨.returned v, w2, _, hR, Steps.trans harr (.head step_end hs), rfl, rfl, rfl, rfl, fn, hf, hr⟩
  | ret =>
    obtain ⟨todo, hs0⟩ := harr
    obtain ⟨w2, ⟨v, hr, hR⟩, hs⟩ := takes_steps (P := P) a'.defers { b.at a' todo with mode := .returning } cs w' rfl rfl hq
    exact ⟨.returned v, w2, _, hR, Steps.trans hs0 hs, rfl, rfl, rfl, rfl, fn, hf, hr⟩
  | panic chain => exact hq.elim
  | exit id => exact hq.elim
  | goto l => exact hq.elim
  | outgrown => exact ⟨.outgrown, w', b, hq, harr.resolve_left (by simp [b]), rfl, trivial⟩
theorem noGoto_normal {Q : Exit → Act → World → Prop} {a : Act} {w : World} (h : Q .normal a w) : Exit.noGoto Q .normal a w := h
end Go.Proofs.YtbfimimhgdkpaaaGreatDoor

/- A range over a function whose body may leave it: both ends meet. No condition. -/
namespace Go.Proofs.YtbfimimhgdkpaaaGreatDoor
open Go.RowKit

theorem wp_range_join {P : Program} {g : Operand} {ps : Array Tmp} {assign body : Code} {id : Nat} {Q : Exit → Act → World → Prop} {a : Act} {w : World} {gf : FuncId} {caps : Array Value} {N : Nat} {xs : Nat → Array Value} {M : World → Prop}
    (hg : a.eval g = .func (.func gf) #[] caps) (eg : ∀ args w, (callFunc gf args).run P w = .ok (.enter gf args) w) (hit : Iter P gf caps N xs M) (hps : ∀ k, k < N → (xs k).size = ps.size)
    (I Z : Nat → World → Prop) (S : World → Prop)
    (hI : ∀ k W W', I k W → Only [w.heap.size, w.heap.size + 1] W W' → I k W') (hZ : ∀ k W W', Z k W → Only [w.heap.size, w.heap.size + 1] W W' → Z k W')
    (hM : ∀ k W, I k W → M W) (h0 : I 0 w)
    (hIS : ∀ W, I N W → S W) (hZS : ∀ k W, 0 < k → k ≤ N → Z k W → S W)
    (hround : ∀ l k W, k < N → I k W → assign.wpIn (Fence.wide.inRound l) 0 P (Exit.then (fun a' W' => W = W' ∧ ∀ W2, I k W2 → w.heap.size + 1 < W2.heap.size → body.wpIn (Fence.wide.inRound l) 0 P (rndPost w I (fun c k W => c = .exit id ∧ Z k W) (k + 1) W2) a' W2) (fun _ _ _ => False))
      { tmps := (ps.zip (xs k)).foldl (fun t (p, v) => t.setIfInBounds p v) a.tmps, defers := [] } W)
    (rest : ∀ W, S W → W.heap[w.heap.size]? = some (.deferred (some [])) → Q .normal { a with defers := { target := .collected w.heap.size, args := #[] } :: a.defers } W) :
    (Code.rangeFunc g ps assign body).wp P (Exit.inBlock id Q) a w := by
  refine wp_range hg eg hit hps I (fun c k W => c = .exit id ∧ Z k W) hI (fun c k W W' h hO => ⟨h.1, hZ k W W' h.2 hO⟩) hM h0 hround (fun W h hd => rest W (hIS W h) hd) ?_
  rintro c k W h1 h2 ⟨rfl, hz⟩ hd
  refine wp_exit ?_
  show (if id = id then Q .normal _ _ else Q (.exit id) _ _)
  rw [if_pos rfl]
  exact rest W (hZS k W h1 h2 hz) hd

theorem calls_round {P : Program} {f : FuncId} {args : Array Value} {w : World} {R : Ending → World → Prop} (l : Nat) (h : Calls P f args w R) : CallsIn (Fence.wide.inRound l) 0 P f args w R := CallsIn.inRound l (callsIn_wide.2 h)
end Go.Proofs.YtbfimimhgdkpaaaGreatDoor

/- A range over a function whose variables are boxed anew each round (the assignment allocates). -/
namespace Go.Proofs.YtbfimimhgdkpaaaGreatDoor
open Go.RowKit

theorem wp_range_a {P : Program} {g : Operand} {ps : Array Tmp} {assign body : Code} {Q : Exit → Act → World → Prop} {a : Act} {w : World} {gf : FuncId} {caps : Array Value} {N : Nat} {xs : Nat → Array Value} {M : World → Prop}
    (hg : a.eval g = .func (.func gf) #[] caps) (eg : ∀ args w, (callFunc gf args).run P w = .ok (.enter gf args) w) (hit : Iter P gf caps N xs M) (hps : ∀ k, k < N → (xs k).size = ps.size)
    (I : Nat → World → Prop) (Ix : Code → Nat → World → Prop)
    (hI : ∀ k W W', I k W → Only [w.heap.size, w.heap.size + 1] W W' → I k W') (hIx : ∀ c k W W', Ix c k W → Only [w.heap.size, w.heap.size + 1] W W' → Ix c k W')
    (hM : ∀ k W, I k W → M W) (h0 : I 0 w)
    (hround : ∀ l k W, k < N → I k W → w.heap.size + 1 < W.heap.size → assign.wpIn (Fence.wide.inRound l) 0 P (Exit.then (fun a' W' => Kept2 w W W' ∧ ∃ J : World → Prop, J W' ∧ (∀ V V', J V → Only [w.heap.size, w.heap.size + 1] V V' → J V') ∧ ∀ W2, J W2 → w.heap.size + 1 < W2.heap.size → body.wpIn (Fence.wide.inRound l) 0 P (rndPost w I Ix (k + 1) W2) a' W2) (fun _ _ _ => False))
      { tmps := (ps.zip (xs k)).foldl (fun t (p, v) => t.setIfInBounds p v) a.tmps, defers := [] } W)
    (hdone : ∀ W, I N W → W.heap[w.heap.size]? = some (.deferred (some [])) → Q .normal { a with defers := { target := .collected w.heap.size, args := #[] } :: a.defers } W)
    (hstop : ∀ c k W, 0 < k → k ≤ N → Ix c k W → W.heap[w.heap.size]? = some (.deferred (some [])) → c.wp P Q { a with defers := { target := .collected w.heap.size, args := #[] } :: a.defers } W) :
    (Code.rangeFunc g ps assign body).wp P Q a w := by
  refine (wpIn_wide (n := 0)).1 (wpIn_rangeFunc ?_)
  intro fn hfn
  obtain ⟨rec, hrec⟩ : ∃ rec : LoopState → Option Code → Loop, rec = fun st pe => { state := st, pending := pe, fn, tmps := a.tmps, params := ps, assign, body, defers := w.heap.size } := ⟨_, rfl⟩
  obtain ⟨W1, hW1⟩ : ∃ W1, (w.alloc (.deferred (some []))).alloc (.loop (rec .ready none)) = W1 := ⟨_, rfl⟩
  have hL1 : W1.heap[w.heap.size + 1]? = some (.loop (rec .ready none)) := by
    rw [← hW1]; have := World.alloc_heap_new (w.alloc (.deferred (some []))) (.loop (rec .ready none)); rwa [World.size_alloc] at this
  have hK1 : W1.heap[w.heap.size]? = some (.deferred (some [])) := by
    rw [← hW1]; exact (Below.heap_alloc _ _ _ (by simp)).trans (World.alloc_heap_new w _)
  have hI1 : I 0 W1 := by rw [← hW1]; exact hI 0 _ _ h0 (((Only.refl _ _).alloc _).alloc _)
  refine ⟨w.heap.size + 1, [{ target := .collected w.heap.size, args := #[] }], W1, { target := .fn (.func gf) caps, args := #[.func (.yield (w.heap.size + 1)) #[] #[]] }, W1, gf,
    #[.func (.yield (w.heap.size + 1)) #[] #[]] ++ caps, W1, ?_, ?_, fun _ _ => trivial, ?_, (fun h => by cases h), callsIn_wide.2 ?_⟩
  · rw [← hW1, hrec]; exact run_enterLoop_outer _ _ _ _ _
  · simp only [resolve, hg]
    simp [go_sem]
  · simp [invoke, go_sem, eg]
  · refine (hit (w.heap.size + 1)
      (fun k W => I k W ∧ W.heap[w.heap.size + 1]? = some (.loop (rec .ready none)) ∧ W.heap[w.heap.size]? = some (.deferred (some [])))
      (fun k W => ∃ c, Ix c k W ∧ W.heap[w.heap.size + 1]? = some (.loop (rec .done (some c))) ∧ W.heap[w.heap.size]? = some (.deferred (some [])))
      W1 ?_ ?_ (fun k W h => hM k W h.1) ?_ ⟨hI1, hL1, hK1⟩).mono ?_
    · rintro k W W' ⟨h1, h2, h3⟩ hk
      exact ⟨hI k W W' h1 (Only.of_kp hk), (hk.heap (Array.getElem?_eq_some_iff.1 h2).1).trans h2, (hk.heap (Array.getElem?_eq_some_iff.1 h3).1).trans h3⟩
    · rintro k W W' ⟨c, h1, h2, h3⟩ hk
      exact ⟨c, hIx c k W W' h1 (Only.of_kp hk), (hk.heap (Array.getElem?_eq_some_iff.1 h2).1).trans h2, (hk.heap (Array.getElem?_eq_some_iff.1 h3).1).trans h3⟩
    · rintro k W hk ⟨hi, hl, hd⟩
      have hlt : w.heap.size + 1 < W.heap.size := (Array.getElem?_eq_some_iff.1 hl).1
      have hy := run_yield (P := P) (args := xs k) hl (by rw [hrec]; exact hps k hk)
      rw [hrec] at hy
      refine ⟨fn, _, assign, body, hy, roundIn_of_wpIn trivial (wpIn_mono (hround _ k W hk hi hlt) ?_)⟩
      rintro e₀ a' W' hq
      rcases e₀ with _ | id | t | _ | ch | _
      rotate_left
      · exact hq.elim
      · exact hq.elim
      · exact hq.elim
      · exact hq.elim
      · exact hq.elim
      obtain ⟨hkp, J, hj, hJ, hbody⟩ := hq
      replace hl := hkp.2.trans hl
      replace hd := hkp.1.trans hd
      replace hlt : w.heap.size + 1 < W'.heap.size := (Array.getElem?_eq_some_iff.1 hl).1
      refine ⟨_, run_beginRound hl (by rw [hrec]), ?_⟩
      have hl2 : (W'.putObj (w.heap.size + 1) (.loop { rec .ready none with state := .busy })).heap[w.heap.size + 1]? = some (.loop { rec .ready none with state := .busy }) := World.putObj_heap_same hlt
      have hd2 : (W'.putObj (w.heap.size + 1) (.loop { rec .ready none with state := .busy })).heap[w.heap.size]? = some (.deferred (some [])) := (World.putObj_heap_other (by omega)).trans hd
      have hi2 : J (W'.putObj (w.heap.size + 1) (.loop { rec .ready none with state := .busy })) := hJ _ _ hj ((Only.refl _ _).putObj (by simp) _)
      refine wpIn_mono (hbody _ hi2 (by simpa using hlt)) ?_
      have fin : ∀ (jump : Option Code) (W3 : World), Kept2 w (W'.putObj (w.heap.size + 1) (.loop { rec .ready none with state := .busy })) W3 →
          (Instr.endRound (w.heap.size + 1) jump).run P W3 = .ok (.bool jump.isNone) (W3.putObj (w.heap.size + 1) (.loop (rec (if jump.isNone then .ready else .done) jump))) ∧
          (W3.putObj (w.heap.size + 1) (.loop (rec (if jump.isNone then .ready else .done) jump))).heap[w.heap.size + 1]? = some (.loop (rec (if jump.isNone then .ready else .done) jump)) ∧
          (W3.putObj (w.heap.size + 1) (.loop (rec (if jump.isNone then .ready else .done) jump))).heap[w.heap.size]? = some (.deferred (some [])) := fun jump W3 hk3 => by
        have hl3 := hk3.2.trans hl2
        have hd3 := hk3.1.trans hd2
        have := run_endRound (P := P) jump hl3
        rw [hrec] at this ⊢
        exact ⟨this, World.putObj_heap_same (Array.getElem?_eq_some_iff.1 hl3).1, (World.putObj_heap_other (by omega)).trans hd3⟩
      rintro e a3 W3 hp
      cases e with
      | normal =>
        obtain ⟨hr, hl4, hd4⟩ := fin none W3 hp.1
        exact ⟨_, _, hr, .inl ⟨rfl, hI _ _ _ hp.2 ((Only.refl _ _).putObj (by simp) _), hl4, hd4⟩⟩
      | ret =>
        obtain ⟨hr, hl4, hd4⟩ := fin (some .ret) W3 hp.1
        exact ⟨_, _, hr, .inr ⟨rfl, .ret, hIx _ _ _ _ hp.2 ((Only.refl _ _).putObj (by simp) _), hl4, hd4⟩⟩
      | exit id =>
        obtain ⟨hr, hl4, hd4⟩ := fin (some (.exit id)) W3 hp.1
        exact ⟨_, _, hr, .inr ⟨rfl, .exit id, hIx _ _ _ _ hp.2 ((Only.refl _ _).putObj (by simp) _), hl4, hd4⟩⟩
      | goto t =>
        obtain ⟨hr, hl4, hd4⟩ := fin (some (.goto t)) W3 hp.1
        exact ⟨_, _, hr, .inr ⟨rfl, .goto t, hIx _ _ _ _ hp.2 ((Only.refl _ _).putObj (by simp) _), hl4, hd4⟩⟩
      | panic ch => exact hp.elim
      | outgrown => exact hp.elim
    · rintro e W3 ⟨rfl, h | ⟨k, hk0, hkN, c, hix, hl, hd⟩⟩
      · obtain ⟨hi, hl, hd⟩ := h
        have hend := run_endLoop (P := P) hl (by rw [hrec]; simp)
        have hpn : (rec .ready none).pending = none := by rw [hrec]
        rw [hpn] at hend
        refine ⟨none, _, hend, ?_⟩
        exact hdone _ (hI _ _ _ hi ((Only.refl _ _).putObj (by simp) _)) ((World.putObj_heap_other (by omega)).trans hd)
      · have hend := run_endLoop (P := P) hl (by rw [hrec]; simp)
        have hpn : (rec .done (some c)).pending = some c := by rw [hrec]
        rw [hpn] at hend
        refine ⟨some c, _, hend, ?_⟩
        refine (wpIn_wide (n := 0)).2 (hstop c k _ hk0 hkN (hIx _ _ _ _ hix ((Only.refl _ _).putObj (by simp) _)) ((World.putObj_heap_other (by omega)).trans hd))


theorem wp_range_join_a {P : Program} {g : Operand} {ps : Array Tmp} {assign body : Code} {id : Nat} {Q : Exit → Act → World → Prop} {a : Act} {w : World} {gf : FuncId} {caps : Array Value} {N : Nat} {xs : Nat → Array Value} {M : World → Prop}
    (hg : a.eval g = .func (.func gf) #[] caps) (eg : ∀ args w, (callFunc gf args).run P w = .ok (.enter gf args) w) (hit : Iter P gf caps N xs M) (hps : ∀ k, k < N → (xs k).size = ps.size)
    (I Z : Nat → World → Prop) (S : World → Prop)
    (hI : ∀ k W W', I k W → Only [w.heap.size, w.heap.size + 1] W W' → I k W') (hZ : ∀ k W W', Z k W → Only [w.heap.size, w.heap.size + 1] W W' → Z k W')
    (hM : ∀ k W, I k W → M W) (h0 : I 0 w)
    (hIS : ∀ W, I N W → S W) (hZS : ∀ k W, 0 < k → k ≤ N → Z k W → S W)
    (hround : ∀ l k W, k < N → I k W → w.heap.size + 1 < W.heap.size → assign.wpIn (Fence.wide.inRound l) 0 P (Exit.then (fun a' W' => Kept2 w W W' ∧ ∃ J : World → Prop, J W' ∧ (∀ V V', J V → Only [w.heap.size, w.heap.size + 1] V V' → J V') ∧ ∀ W2, J W2 → w.heap.size + 1 < W2.heap.size → body.wpIn (Fence.wide.inRound l) 0 P (rndPost w I (fun c k W => c = .exit id ∧ Z k W) (k + 1) W2) a' W2) (fun _ _ _ => False))
      { tmps := (ps.zip (xs k)).foldl (fun t (p, v) => t.setIfInBounds p v) a.tmps, defers := [] } W)
    (rest : ∀ W, S W → W.heap[w.heap.size]? = some (.deferred (some [])) → Q .normal { a with defers := { target := .collected w.heap.size, args := #[] } :: a.defers } W) :
    (Code.rangeFunc g ps assign body).wp P (Exit.inBlock id Q) a w := by
  refine wp_range_a hg eg hit hps I (fun c k W => c = .exit id ∧ Z k W) hI (fun c k W W' h hO => ⟨h.1, hZ k W W' h.2 hO⟩) hM h0 hround (fun W h hd => rest W (hIS W h) hd) ?_
  rintro c k W h1 h2 ⟨rfl, hz⟩ hd
  refine wp_exit ?_
  show (if id = id then Q .normal _ _ else Q (.exit id) _ _)
  rw [if_pos rfl]
  exact rest W (hZS k W h1 h2 hz) hd


end Go.Proofs.YtbfimimhgdkpaaaGreatDoor

/- Ranges over functions whose rounds' values hang on memory, and over iterators that keep state in memory of their own. No condition. -/
namespace Go.Proofs.YtbfimimhgdkpaaaGreatDoor
open Go.RowKit

/-- Only the blocks from b up to B may have turned, and new ones have come. -/
structure Turn (b B : Nat) (V V' : World) : Prop where
  os : V'.os = V.os
  tape : V'.tape = V.tape
  output : V'.output = V.output
  size : V.heap.size ≤ V'.heap.size
  block : ∀ j, j < V.heap.size → (j < b ∨ B ≤ j) → V'.heap[j]? = V.heap[j]?
/-- The blocks from b up to B stand. -/
structure Ring (b B : Nat) (V V' : World) : Prop where
  size : V.heap.size ≤ V'.heap.size
  block : ∀ j, b ≤ j → j < B → V'.heap[j]? = V.heap[j]?
section
variable {b B : Nat} {U V W : World}
theorem Turn.refl (b B : Nat) (V : World) : Turn b B V V := ⟨rfl, rfl, rfl, Nat.le_refl _, fun _ _ _ => rfl⟩
theorem Turn.trans (h : Turn b B U V) (k : Turn b B V W) : Turn b B U W :=
  ⟨k.os.trans h.os, k.tape.trans h.tape, k.output.trans h.output, Nat.le_trans h.size k.size, fun j hj hn => (k.block j (Nat.lt_of_lt_of_le hj h.size) hn).trans (h.block j hj hn)⟩
theorem Turn.of_kp (h : Kp V W) : Turn b B V W := ⟨Below.os h, Below.tape h, Below.output h, Below.size h, fun j hj _ => Below.block h j hj⟩
theorem Turn.of_only {bs : List Nat} (h : Only bs V W) (hb : ∀ x ∈ bs, b ≤ x ∧ x < B) : Turn b B V W :=
  ⟨h.os, h.tape, h.output, h.size, fun j hj hn => h.block j hj (fun hm => by have := hb j hm; omega)⟩
theorem Turn.wide {b' B' : Nat} (h : Turn b B V W) (hb : b' ≤ b) (hB : B ≤ B') : Turn b' B' V W :=
  ⟨h.os, h.tape, h.output, h.size, fun j hj hn => h.block j hj (by omega)⟩
theorem Turn.setCell (h : Turn b B U V) {p : Addr} (h1 : b ≤ p.block) (h2 : p.block < B) (u : Value) : Turn b B U (V.setCell p u) :=
  h.trans (Turn.of_only ((Only.refl [p.block] V).setCell (.inl (by simp)) u) (by simpa using ⟨h1, h2⟩))
theorem Turn.heap (h : Turn b B V W) {j : Nat} (hj : j < V.heap.size) (hn : j < b ∨ B ≤ j) : W.heap[j]? = V.heap[j]? := h.block j hj hn
theorem Blk.turn {g : Nat} {t : TypeId} {cs : Array Value} (h : Blk V g t cs) (k : Turn b B V W) (hn : g < b ∨ B ≤ g) : Blk W g t cs := (k.block g h.lt hn).trans h
theorem Turn.cell (h : Turn b B V W) {p : Addr} {v : Value} (hc : V.cell? p = some v) (hp : p.block < b ∨ B ≤ p.block) : W.cell? p = some v :=
  (World.cell?_of_block (w := V) (h.block p.block (World.block_lt_of_cell? V p hc) hp)).trans hc
/-- What lay there ahead of b stands: seen from a world that ends there. -/
theorem Turn.kp (h : Turn b B V W) (k : Kp U V) (hU : U.heap.size ≤ b) : Kp U W :=
  Below.trans k ⟨h.os, h.tape, h.output, h.size, fun j hj => h.block j (Nat.lt_of_lt_of_le hj k.size) (.inl (Nat.lt_of_lt_of_le hj hU))⟩
theorem Turn.own {α : Type} {base e sz : Nat} {enc : α → List Value} {v : Value} {xs : List α} (h : Own V base e sz enc v xs) (k : Turn b B V W) (hb : B ≤ base) : Own W base e sz enc v xs := by
  refine ⟨h.1, ?_⟩
  rcases h.2 with h2 | ⟨g, cap, cur, hv, hg, hh, r⟩
  · exact .inl h2
  · exact .inr ⟨g, cap, cur, hv, hg, (k.block g (Array.getElem?_eq_some_iff.1 hh).1 (.inr (by omega))).trans hh, r⟩
theorem Ring.refl (b B : Nat) (V : World) : Ring b B V V := ⟨Nat.le_refl _, fun _ _ _ => rfl⟩
theorem Ring.trans (h : Ring b B U V) (k : Ring b B V W) : Ring b B U W := ⟨Nat.le_trans h.size k.size, fun j h1 h2 => (k.block j h1 h2).trans (h.block j h1 h2)⟩
theorem Ring.of_kp (h : Kp V W) (hB : B ≤ V.heap.size) : Ring b B V W := ⟨Below.size h, fun j _ h2 => Below.block h j (by omega)⟩
theorem Ring.of_only {bs : List Nat} (h : Only bs V W) (hB : B ≤ V.heap.size) (hb : ∀ x ∈ bs, x < b ∨ B ≤ x) : Ring b B V W :=
  ⟨h.size, fun j h1 h2 => h.block j (by omega) (fun hm => by have := hb j hm; omega)⟩
theorem Ring.setCell (h : Ring b B U V) {p : Addr} (hp : p.block < b ∨ B ≤ p.block) (u : Value) : Ring b B U (V.setCell p u) :=
  h.trans ⟨by simp [World.setCell], fun j h1 h2 => Below.heap_setCell V p u j (by rintro rfl; omega)⟩
theorem Ring.alloc (h : Ring b B U V) (hB : B ≤ V.heap.size) (o : Obj) : Ring b B U (V.alloc o) := h.trans (Ring.of_kp ((Kp.refl V).alloc o) hB)
theorem Ring.grown {row : Option Nat} (h : Ring b B U V) (hB : B ≤ V.heap.size) (hg : V.grownBy W row) (hr : ∀ k, row = some k → k < b ∨ B ≤ k) : Ring b B U W :=
  h.trans ⟨hg.size, fun j h1 h2 => hg.block j (by omega) (fun e => by have := hr j e.symm; omega)⟩
theorem Ring.drew (h : Ring b B U V) : Ring b B U V.drew := h.trans ⟨Nat.le_refl _, fun _ _ _ => rfl⟩
theorem Ring.drewN (h : Ring b B U V) (n : Nat) : Ring b B U (V.drewN n) := h.trans ⟨Nat.le_refl _, fun _ _ _ => rfl⟩
theorem Blk.ring {g : Nat} {t : TypeId} {cs : Array Value} (h : Blk V g t cs) (k : Ring b B V W) (h1 : b ≤ g) (h2 : g < B) : Blk W g t cs := (k.block g h1 h2).trans h
theorem Ring.narrow {b' B' : Nat} (h : Ring b B V W) (hb : b ≤ b') (hB : B' ≤ B) : Ring b' B' V W := ⟨h.size, fun j h1 h2 => h.block j (by omega) (by omega)⟩
end

/-- An iterator that hands over N rows, of which X tells what holds of the values at the time, till its yield says no. It may turn blocks of its own, which lie from W's end up to B. -/
def IterT (P : Program) (gf : FuncId) (caps : Array Value) (N : Nat) (X : Nat → Nat → Array Value → World → Prop) (M : World → Prop) : Prop :=
  ∀ (l : Nat) (W : World) (I Z : Nat → Nat → World → Prop),
    (∀ B k V V', W.heap.size ≤ B → I B k V → Turn W.heap.size B V V' → I B k V') → (∀ B k V V', W.heap.size ≤ B → Z B k V → Turn W.heap.size B V V' → Z B k V') →
    (∀ B k V, W.heap.size ≤ B → I B k V → M V) → M W →
    (∀ B V, Kp W V → W.heap.size ≤ B → V.heap.size ≤ B → I B 0 V) →
    (∀ B k V vs, k < N → W.heap.size ≤ B → B ≤ V.heap.size → I B k V → X B k vs V → ∃ fn tmps assign body, (Instr.yield l vs).run P V = .ok (.round l fn tmps assign body) V ∧
      RoundIn Fence.wide 0 P l fn tmps assign body V (fun e V' => Ring W.heap.size B V V' ∧ ((e = .returned (.bool true) ∧ I B (k + 1) V') ∨ (e = .returned (.bool false) ∧ Z B (k + 1) V')))) →
    Calls P gf (#[.func (.yield l) #[] #[]] ++ caps) W (fun e W' => e = .returned (.tuple #[]) ∧ ∃ B, W.heap.size ≤ B ∧ (I B N W' ∨ ∃ k, 0 < k ∧ k ≤ N ∧ Z B k W'))

/-- How a round's body may be left. -/
def rndPostT (w : World) (I : Nat → World → Prop) (Ix : Code → Nat → World → Prop) (B k : Nat) (W : World) : Exit → Act → World → Prop
  | .normal, _, W' => Ring w.heap.size B W W' ∧ I k W'
  | .ret, _, W' => Ring w.heap.size B W W' ∧ Ix .ret k W'
  | .exit id, _, W' => Ring w.heap.size B W W' ∧ Ix (.exit id) k W'
  | .goto t, _, W' => Ring w.heap.size B W W' ∧ Ix (.goto t) k W'
  | .panic _, _, _ => False
  | .outgrown, _, _ => False

theorem Turn.putObj {b B r : Nat} (V : World) (h1 : b ≤ r) (h2 : r < B) (o : Obj) : Turn b B V (V.putObj r o) :=
  Turn.of_only ((Only.refl [r] V).putObj (by simp) o) (by simpa using ⟨h1, h2⟩)

theorem wp_rangeT {P : Program} {g : Operand} {ps : Array Tmp} {assign body : Code} {Q : Exit → Act → World → Prop} {a : Act} {w : World} {gf : FuncId} {caps : Array Value} {N : Nat} {X : Nat → Nat → Array Value → World → Prop} {M : World → Prop}
    (hg : a.eval g = .func (.func gf) #[] caps) (eg : ∀ args w, (callFunc gf args).run P w = .ok (.enter gf args) w) (hit : IterT P gf caps N X M) (hps : ∀ B k vs V, k < N → X B k vs V → vs.size = ps.size)
    (I : Nat → Nat → World → Prop) (Ix : Nat → Code → Nat → World → Prop)
    (hI : ∀ B k V V', w.heap.size + 2 ≤ B → I B k V → Turn w.heap.size B V V' → I B k V') (hIx : ∀ B c k V V', w.heap.size + 2 ≤ B → Ix B c k V → Turn w.heap.size B V V' → Ix B c k V')
    (hM : ∀ B k V, w.heap.size + 2 ≤ B → I B k V → M V) (h0 : ∀ B V, Kp w V → w.heap.size + 2 ≤ B → V.heap.size ≤ B → I B 0 V)
    (hround : ∀ l B k V vs, k < N → w.heap.size + 2 ≤ B → B ≤ V.heap.size → I B k V → X B k vs V → assign.wpIn (Fence.wide.inRound l) 0 P (Exit.then (fun a' V' => Ring w.heap.size B V V' ∧ ∃ J : World → Prop, J V' ∧ (∀ U U', J U → Turn w.heap.size B U U' → J U') ∧ ∀ W2, J W2 → B ≤ W2.heap.size → body.wpIn (Fence.wide.inRound l) 0 P (rndPostT w (I B) (Ix B) B (k + 1) W2) a' W2) (fun _ _ _ => False))
      { tmps := (ps.zip vs).foldl (fun t (p, v) => t.setIfInBounds p v) a.tmps, defers := [] } V)
    (hdone : ∀ B W, w.heap.size + 2 ≤ B → I B N W → W.heap[w.heap.size]? = some (.deferred (some [])) → Q .normal { a with defers := { target := .collected w.heap.size, args := #[] } :: a.defers } W)
    (hstop : ∀ B c k W, w.heap.size + 2 ≤ B → 0 < k → k ≤ N → Ix B c k W → W.heap[w.heap.size]? = some (.deferred (some [])) → c.wp P Q { a with defers := { target := .collected w.heap.size, args := #[] } :: a.defers } W) :
    (Code.rangeFunc g ps assign body).wp P Q a w := by
  refine (wpIn_wide (n := 0)).1 (wpIn_rangeFunc ?_)
  intro fn hfn
  obtain ⟨rec, hrec⟩ : ∃ rec : LoopState → Option Code → Loop, rec = fun st pe => { state := st, pending := pe, fn, tmps := a.tmps, params := ps, assign, body, defers := w.heap.size } := ⟨_, rfl⟩
  obtain ⟨W1, hW1⟩ : ∃ W1, (w.alloc (.deferred (some []))).alloc (.loop (rec .ready none)) = W1 := ⟨_, rfl⟩
  have hL1 : W1.heap[w.heap.size + 1]? = some (.loop (rec .ready none)) := by
    rw [← hW1]; have := World.alloc_heap_new (w.alloc (.deferred (some []))) (.loop (rec .ready none)); rwa [World.size_alloc] at this
  have hK1 : W1.heap[w.heap.size]? = some (.deferred (some [])) := by
    rw [← hW1]; exact (Below.heap_alloc _ _ _ (by simp)).trans (World.alloc_heap_new w _)
  have hKW : Kp w W1 := by rw [← hW1]; exact ((Kp.refl _).alloc _).alloc _
  have hsz : W1.heap.size = w.heap.size + 2 := by rw [← hW1]; simp
  have tw : ∀ {B V V'}, Turn W1.heap.size B V V' → Turn w.heap.size B V V' := fun h => h.wide (by omega) (Nat.le_refl _)
  refine ⟨w.heap.size + 1, [{ target := .collected w.heap.size, args := #[] }], W1, { target := .fn (.func gf) caps, args := #[.func (.yield (w.heap.size + 1)) #[] #[]] }, W1, gf,
    #[.func (.yield (w.heap.size + 1)) #[] #[]] ++ caps, W1, ?_, ?_, fun _ _ => trivial, ?_, (fun h => by cases h), callsIn_wide.2 ?_⟩
  · rw [← hW1, hrec]; exact run_enterLoop_outer _ _ _ _ _
  · simp only [resolve, hg]
    simp [go_sem]
  · simp [invoke, go_sem, eg]
  · refine (hit (w.heap.size + 1) W1
      (fun B k W => I B k W ∧ W.heap[w.heap.size + 1]? = some (.loop (rec .ready none)) ∧ W.heap[w.heap.size]? = some (.deferred (some [])))
      (fun B k W => ∃ c, Ix B c k W ∧ W.heap[w.heap.size + 1]? = some (.loop (rec .done (some c))) ∧ W.heap[w.heap.size]? = some (.deferred (some [])))
      ?_ ?_ (fun B k W hB h => hM B k W (by omega) h.1) (hM W1.heap.size 0 W1 (by omega) (h0 _ _ hKW (by omega) (Nat.le_refl _))) ?_ ?_).mono ?_
    · rintro B k W W' hB ⟨h1, h2, h3⟩ hk
      exact ⟨hI B k W W' (by omega) h1 (tw hk), (hk.heap (Array.getElem?_eq_some_iff.1 h2).1 (.inl (by omega))).trans h2, (hk.heap (Array.getElem?_eq_some_iff.1 h3).1 (.inl (by omega))).trans h3⟩
    · rintro B k W W' hB ⟨c, h1, h2, h3⟩ hk
      exact ⟨c, hIx B c k W W' (by omega) h1 (tw hk), (hk.heap (Array.getElem?_eq_some_iff.1 h2).1 (.inl (by omega))).trans h2, (hk.heap (Array.getElem?_eq_some_iff.1 h3).1 (.inl (by omega))).trans h3⟩
    · rintro B V hV hB hVB
      exact ⟨h0 B V (hKW.trans hV) (by omega) hVB, (hV.heap (by omega)).trans hL1, (hV.heap (by omega)).trans hK1⟩
    · rintro B k W vs hk hB hBW ⟨hi, hl, hd⟩ hx
      have hlt : w.heap.size + 1 < W.heap.size := (Array.getElem?_eq_some_iff.1 hl).1
      have hy := run_yield (P := P) (args := vs) hl (by rw [hrec]; exact hps B k vs W hk hx)
      rw [hrec] at hy
      refine ⟨fn, _, assign, body, hy, roundIn_of_wpIn trivial (wpIn_mono (hround _ B k W vs hk (by omega) hBW hi hx) ?_)⟩
      rintro e₀ a' W' hq
      rcases e₀ with _ | id | t | _ | ch | _
      rotate_left
      · exact hq.elim
      · exact hq.elim
      · exact hq.elim
      · exact hq.elim
      · exact hq.elim
      obtain ⟨hkp, J, hj, hJ, hbody⟩ := hq
      replace hl := (hkp.block (w.heap.size + 1) (by omega) (by omega)).trans hl
      replace hd := (hkp.block w.heap.size (by omega) (by omega)).trans hd
      replace hlt : w.heap.size + 1 < W'.heap.size := (Array.getElem?_eq_some_iff.1 hl).1
      refine ⟨_, run_beginRound hl (by rw [hrec]), ?_⟩
      have hl2 : (W'.putObj (w.heap.size + 1) (.loop { rec .ready none with state := .busy })).heap[w.heap.size + 1]? = some (.loop { rec .ready none with state := .busy }) := World.putObj_heap_same hlt
      have hd2 : (W'.putObj (w.heap.size + 1) (.loop { rec .ready none with state := .busy })).heap[w.heap.size]? = some (.deferred (some [])) := (World.putObj_heap_other (by omega)).trans hd
      have hi2 : J (W'.putObj (w.heap.size + 1) (.loop { rec .ready none with state := .busy })) := hJ _ _ hj (Turn.putObj _ (by omega) (by omega) _)
      have hs2 : B ≤ (W'.putObj (w.heap.size + 1) (.loop { rec .ready none with state := .busy })).heap.size := by
        have := hkp.size
        simp; omega
      have hr0 : Ring W1.heap.size B W (W'.putObj (w.heap.size + 1) (.loop { rec .ready none with state := .busy })) :=
        ⟨by have := hkp.size; simpa using this, fun j h1 h2 => (World.putObj_heap_other (by omega)).trans (hkp.block j (by omega) h2)⟩
      refine wpIn_mono (hbody _ hi2 hs2) ?_
      have fin : ∀ (jump : Option Code) (W3 : World), Ring w.heap.size B (W'.putObj (w.heap.size + 1) (.loop { rec .ready none with state := .busy })) W3 →
          (Instr.endRound (w.heap.size + 1) jump).run P W3 = .ok (.bool jump.isNone) (W3.putObj (w.heap.size + 1) (.loop (rec (if jump.isNone then .ready else .done) jump))) ∧
          (W3.putObj (w.heap.size + 1) (.loop (rec (if jump.isNone then .ready else .done) jump))).heap[w.heap.size + 1]? = some (.loop (rec (if jump.isNone then .ready else .done) jump)) ∧
          (W3.putObj (w.heap.size + 1) (.loop (rec (if jump.isNone then .ready else .done) jump))).heap[w.heap.size]? = some (.deferred (some [])) ∧
          Ring W1.heap.size B W (W3.putObj (w.heap.size + 1) (.loop (rec (if jump.isNone then .ready else .done) jump))) := fun jump W3 hk3 => by
        have hl3 := (hk3.block (w.heap.size + 1) (by omega) (by omega)).trans hl2
        have hd3 := (hk3.block w.heap.size (by omega) (by omega)).trans hd2
        have := run_endRound (P := P) jump hl3
        rw [hrec] at this ⊢
        refine ⟨this, World.putObj_heap_same (Array.getElem?_eq_some_iff.1 hl3).1, (World.putObj_heap_other (by omega)).trans hd3, ?_⟩
        refine ⟨by have h1 := hr0.size; have h2 := hk3.size; simp at h1 h2 ⊢; omega, fun j h1 h2 => (World.putObj_heap_other (show j ≠ w.heap.size + 1 by omega)).trans ((hk3.block j (by omega) h2).trans (hr0.block j h1 h2))⟩
      rintro e a3 W3 hp
      cases e with
      | normal =>
        obtain ⟨hr, hl4, hd4, hri⟩ := fin none W3 hp.1
        exact ⟨_, _, hr, hri, .inl ⟨rfl, hI B _ _ _ (by omega) hp.2 (Turn.putObj _ (by omega) (by omega) _), hl4, hd4⟩⟩
      | ret =>
        obtain ⟨hr, hl4, hd4, hri⟩ := fin (some .ret) W3 hp.1
        exact ⟨_, _, hr, hri, .inr ⟨rfl, .ret, hIx B _ _ _ _ (by omega) hp.2 (Turn.putObj _ (by omega) (by omega) _), hl4, hd4⟩⟩
      | exit id =>
        obtain ⟨hr, hl4, hd4, hri⟩ := fin (some (.exit id)) W3 hp.1
        exact ⟨_, _, hr, hri, .inr ⟨rfl, .exit id, hIx B _ _ _ _ (by omega) hp.2 (Turn.putObj _ (by omega) (by omega) _), hl4, hd4⟩⟩
      | goto t =>
        obtain ⟨hr, hl4, hd4, hri⟩ := fin (some (.goto t)) W3 hp.1
        exact ⟨_, _, hr, hri, .inr ⟨rfl, .goto t, hIx B _ _ _ _ (by omega) hp.2 (Turn.putObj _ (by omega) (by omega) _), hl4, hd4⟩⟩
      | panic ch => exact hp.elim
      | outgrown => exact hp.elim
    · rintro e W3 ⟨rfl, B, hB, h | ⟨k, hk0, hkN, c, hix, hl, hd⟩⟩
      · obtain ⟨hi, hl, hd⟩ := h
        have hend := run_endLoop (P := P) hl (by rw [hrec]; simp)
        have hpn : (rec .ready none).pending = none := by rw [hrec]
        rw [hpn] at hend
        refine ⟨none, _, hend, ?_⟩
        exact hdone B _ (by omega) (hI B _ _ _ (by omega) hi (Turn.putObj _ (by omega) (by omega) _)) ((World.putObj_heap_other (by omega)).trans hd)
      · have hend := run_endLoop (P := P) hl (by rw [hrec]; simp)
        have hpn : (rec .done (some c)).pending = some c := by rw [hrec]
        rw [hpn] at hend
        refine ⟨some c, _, hend, ?_⟩
        refine (wpIn_wide (n := 0)).2 (hstop B c k _ (by omega) hk0 hkN (hIx B _ _ _ _ (by omega) hix (Turn.putObj _ (by omega) (by omega) _)) ((World.putObj_heap_other (by omega)).trans hd))

theorem wp_range_joinT {P : Program} {g : Operand} {ps : Array Tmp} {assign body : Code} {id : Nat} {Q : Exit → Act → World → Prop} {a : Act} {w : World} {gf : FuncId} {caps : Array Value} {N : Nat} {X : Nat → Nat → Array Value → World → Prop} {M : World → Prop}
    (hg : a.eval g = .func (.func gf) #[] caps) (eg : ∀ args w, (callFunc gf args).run P w = .ok (.enter gf args) w) (hit : IterT P gf caps N X M) (hps : ∀ B k vs V, k < N → X B k vs V → vs.size = ps.size)
    (I Z : Nat → Nat → World → Prop) (S : World → Prop)
    (hI : ∀ B k V V', w.heap.size + 2 ≤ B → I B k V → Turn w.heap.size B V V' → I B k V') (hZ : ∀ B k V V', w.heap.size + 2 ≤ B → Z B k V → Turn w.heap.size B V V' → Z B k V')
    (hM : ∀ B k V, w.heap.size + 2 ≤ B → I B k V → M V) (h0 : ∀ B V, Kp w V → w.heap.size + 2 ≤ B → V.heap.size ≤ B → I B 0 V)
    (hIS : ∀ B W, w.heap.size + 2 ≤ B → I B N W → S W) (hZS : ∀ B k W, w.heap.size + 2 ≤ B → 0 < k → k ≤ N → Z B k W → S W)
    (hround : ∀ l B k V vs, k < N → w.heap.size + 2 ≤ B → B ≤ V.heap.size → I B k V → X B k vs V → assign.wpIn (Fence.wide.inRound l) 0 P (Exit.then (fun a' V' => Ring w.heap.size B V V' ∧ ∃ J : World → Prop, J V' ∧ (∀ U U', J U → Turn w.heap.size B U U' → J U') ∧ ∀ W2, J W2 → B ≤ W2.heap.size → body.wpIn (Fence.wide.inRound l) 0 P (rndPostT w (I B) (fun c k W => c = .exit id ∧ Z B k W) B (k + 1) W2) a' W2) (fun _ _ _ => False))
      { tmps := (ps.zip vs).foldl (fun t (p, v) => t.setIfInBounds p v) a.tmps, defers := [] } V)
    (rest : ∀ W, S W → W.heap[w.heap.size]? = some (.deferred (some [])) → Q .normal { a with defers := { target := .collected w.heap.size, args := #[] } :: a.defers } W) :
    (Code.rangeFunc g ps assign body).wp P (Exit.inBlock id Q) a w := by
  refine wp_rangeT hg eg hit hps I (fun B c k W => c = .exit id ∧ Z B k W) hI (fun B c k W W' hB h hO => ⟨h.1, hZ B k W W' hB h.2 hO⟩) hM h0 hround (fun B W hB h hd => rest W (hIS B W hB h) hd) ?_
  rintro B c k W hB h1 h2 ⟨rfl, hz⟩ hd
  refine wp_exit ?_
  show (if id = id then Q .normal _ _ else Q (.exit id) _ _)
  rw [if_pos rfl]
  exact rest W (hZS B k W hB h1 h2 hz) hd
end Go.Proofs.YtbfimimhgdkpaaaGreatDoor

/- Package script: strings.Cut at a byte 10; the iterator over a text's lines. No condition but the stated bounds. -/
namespace Go.Proofs.YtbfimimhgdkpaaaGreatDoor
open Go.RowKit

theorem slidx_any (s : ByteArray) (c : Int) (w : World) : Calls Tryz.prog 176 #[.string s, .int .u8 c] w fun e w' => e = .returned (.int .i64 (Lib.indexByte s.data.toList c.toNat.toUInt8)) ∧ w = w' :=
  (Any.stringslite_IndexByte { Tryz.lays137 with } s c w).mono (fun _ _ h => ⟨h.1, h.2.symm⟩)
theorem idx_cut : ∀ s : List UInt8, Lib.indexByte s 10 = if (cutL s).2.2 = true then ((cutL s).1.length : Int) else -1
  | [] => rfl
  | c :: l => by
    have ih := idx_cut l
    have hge := Lib.indexByte_ge l 10
    unfold Lib.indexByte cutL
    by_cases hc : c = 10
    · rw [if_pos (by simp [hc]), if_pos hc]; rfl
    · rw [if_neg (by simpa using hc), if_neg hc, ih]
      simp only
      by_cases hd : (cutL l).2.2 = true
      · rw [if_pos hd, if_pos hd, if_neg (by simp only [beq_iff_eq]; omega)]
        simp
      · rw [if_neg hd, if_neg hd]
        rfl
theorem slidx_yes {s : ByteArray} (h : (cutL s.data.toList).2.2 = true) (w : World) : Calls Tryz.prog 176 #[.string s, .int .u8 10] w fun e w' => e = .returned (.int .i64 ((cutL s.data.toList).1.length : Int)) ∧ w = w' := by
  refine (slidx_any s 10 w).mono ?_
  rintro e w' ⟨rfl, rfl⟩
  have e1 : ((10 : Int)).toNat.toUInt8 = 10 := rfl
  rw [e1, idx_cut, if_pos h]
  exact ⟨rfl, rfl⟩
theorem slidx_no {s : ByteArray} (h : (cutL s.data.toList).2.2 = false) (w : World) : Calls Tryz.prog 176 #[.string s, .int .u8 10] w fun e w' => e = .returned (.int .i64 (-1)) ∧ w = w' := by
  refine (slidx_any s 10 w).mono ?_
  rintro e w' ⟨rfl, rfl⟩
  have e1 : ((10 : Int)).toNat.toUInt8 = 10 := rfl
  rw [e1, idx_cut, if_neg (by rw [h]; simp)]
  exact ⟨rfl, rfl⟩
def idxV (s : List UInt8) : Int := if (cutL s).2.2 = true then ((cutL s).1.length : Int) else -1
set_option maxRecDepth 100000 in
set_option maxHeartbeats 1000000 in
theorem slindex_any (s : ByteArray) (w : World) : Calls Tryz.prog 189 #[.string s, .string ⟨#[10]⟩] w fun e w' => e = .returned (.int .i64 (idxV s.data.toList)) ∧ w = w' := by
  have hx : ∀ w, (Instr.index 9 (.string ⟨#[10]⟩) (.int .i64 0)).run Tryz.prog w = .ok (.int .u8 10) w := fun w => str_idx (s := ⟨#[10]⟩) (i := 0) (by decide) w
  by_cases h1 : s.data.toList = [10]
  · have hv : idxV s.data.toList = 0 := by rw [h1]; rfl
    have hb : ([10] == s.toList) = true := by rw [Lib.toList_data, h1]; rfl
    rw [hv]
    clear hv h1
    go_enter Tryz.func189, Tryz.ntmps189
    go_wp2_with fail
    go_ret
    exact ⟨rfl, rfl⟩
  have hb : ([10] == s.toList) = false := by rw [Lib.toList_data, beq_eq_false_iff_ne]; exact fun e => h1 e.symm
  cases h : (cutL s.data.toList).2.2 with
  | true =>
    have hv : idxV s.data.toList = ((cutL s.data.toList).1.length : Int) := by rw [idxV, if_pos h]
    rw [hv]
    have H := Lib.hid h
    clear h hv h1
    go_enter Tryz.func189, Tryz.ntmps189
    go_wp2_with (first | (go_at_call 176; refine (slidx_yes H.out _).mono ?_; rintro e w' ⟨rfl, rfl⟩))
    go_ret
    exact ⟨rfl, rfl⟩
  | false =>
    have hv : idxV s.data.toList = -1 := by rw [idxV, if_neg (by rw [h]; simp)]
    rw [hv]
    have H := Lib.hid h
    clear h hv h1
    go_enter Tryz.func189, Tryz.ntmps189
    go_wp2_with (first | (go_at_call 176; refine (slidx_no H.out _).mono ?_; rintro e w' ⟨rfl, rfl⟩))
    go_ret
    exact ⟨rfl, rfl⟩
/-- The parts of a string that is cut, as they are sliced. -/
theorem cut_parts {s : ByteArray} (h : (cutL s.data.toList).2.2 = true) : ∃ n : Nat, idxV s.data.toList = (n : Int) ∧ n < s.size ∧ s.extract 0 n = strB (cutL s.data.toList).1 ∧ s.extract (n + 1) s.size = strB (cutL s.data.toList).2.1 := by
  have hlen : s.data.toList.length = s.size := by rw [Array.length_toList]; rfl
  obtain ⟨a, b⟩ := cutL_yes _ h
  have hi : idxV s.data.toList = ((cutL s.data.toList).1.length : Int) := by rw [idxV, if_pos h]
  obtain ⟨x, hx⟩ : ∃ x, (cutL s.data.toList).1 = x := ⟨_, rfl⟩
  obtain ⟨y, hy⟩ : ∃ y, (cutL s.data.toList).2.1 = y := ⟨_, rfl⟩
  rw [hx, hy] at a
  rw [hx] at hi
  rw [hx, hy]
  have hl : s.size = x.length + (y.length + 1) := by rw [← hlen, a]; simp
  refine ⟨x.length, hi, by omega, ?_, ?_⟩
  · rw [extract_eq, List.drop_zero, Nat.sub_zero, a, List.take_append_of_le_length (Nat.le_refl _), List.take_of_length_le (Nat.le_refl _)]
  · rw [extract_eq, List.take_of_length_le (by rw [List.length_drop, hlen]; omega), a]
    have : x ++ 10 :: y = (x ++ [10]) ++ y := by simp
    rw [this, List.drop_append_of_le_length (by simp), List.drop_of_length_le (by simp)]
    rfl
def CutP (s : ByteArray) (w : World) (e : Ending) (w' : World) : Prop :=
  e = .returned (.tuple #[.string (strB (cutL s.data.toList).1), .string (strB (cutL s.data.toList).2.1), .bool (cutL s.data.toList).2.2]) ∧ Kp w w'
set_option maxRecDepth 100000 in
set_option maxHeartbeats 1000000 in
theorem slcut_any (s : ByteArray) (hs : s.size ≤ 1000000000) (w : World) : Calls Tryz.prog 169 #[.string s, .string ⟨#[10]⟩] w (CutP s w) := by
  unfold CutP
  cases h : (cutL s.data.toList).2.2 with
  | true =>
    obtain ⟨n, hi, hn, e1, e2⟩ := cut_parts h
    rw [← e1, ← e2]
    have n0 : (0 : Int) ≤ (n : Int) := by omega
    have n1 : (n : Int) ≤ (s.size : Int) := by omega
    have n2 : (n : Int) + 1 ≤ (s.size : Int) := by omega
    have n3 : (0 : Int) ≤ (n : Int) + 1 := by omega
    have n4 : ¬ (9223372036854775807 : Int) < (n : Int) + 1 := by omega
    have Hi := Lib.hid hi
    clear h e1 e2 hi
    go_enter Tryz.func169, Tryz.ntmps169
    go_wp2_with (first | (go_at_call 189; refine (slindex_any s _).mono ?_; rintro e w' ⟨rfl, rfl⟩; rw [Hi.out]))
    go_quiet (fail)
    go_wp2_with fail
    exact bodyPost_ret (v := .tuple #[.string (s.extract 0 n), .string (s.extract (n + 1) s.size), .bool true]) (by simp [results, Tryz.results169, go_sem]) rfl ⟨rfl, (Kp.refl _).drewN _⟩
  | false =>
    obtain ⟨e1, e2, _⟩ := cutL_no _ h
    rw [e1, e2]
    have hi : idxV s.data.toList = -1 := by rw [idxV, if_neg (by rw [h]; simp)]
    have e3 : strB s.data.toList = s := strB_of s
    rw [e3]
    have Hi := Lib.hid hi
    clear h e1 e2 hi e3
    go_enter Tryz.func169, Tryz.ntmps169
    go_wp2_with (first | (go_at_call 189; refine (slindex_any s _).mono ?_; rintro e w' ⟨rfl, rfl⟩; rw [Hi.out]))
    exact bodyPost_ret (v := .tuple #[.string s, .string (strB []), .bool false]) (by simp [results, Tryz.results169, go_sem, strB]) rfl ⟨rfl, Kp.refl _⟩
set_option maxRecDepth 100000 in
set_option maxHeartbeats 1000000 in
theorem cut_any (s : ByteArray) (hs : s.size ≤ 1000000000) (w : World) : Calls Tryz.prog 115 #[.string s, .string ⟨#[10]⟩] w (CutP s w) := by
  go_enter Tryz.func115, Tryz.ntmps115
  go_wp2_with (first | (go_at_call 169; refine (slcut_any s hs _).mono ?_; rintro e w' ⟨rfl, hK⟩))
  exact bodyPost_ret (v := .tuple #[.string (strB (cutL s.data.toList).1), .string (strB (cutL s.data.toList).2.1), .bool (cutL s.data.toList).2.2]) (by simp [results, Tryz.results115, go_sem]) rfl ⟨rfl, hK⟩

/-! ### the iterator over lines -/
def eachV (bx : Nat) : Value := .func (.func 114) #[] #[.pointer (some ⟨bx, 0, none⟩)]
set_option maxHeartbeats 400000 in
theorem each_any (s : ByteArray) (w : World) :
    Calls Tryz.prog 75 #[.string s] w fun e w' => e = .returned (eachV w.heap.size) ∧ Blk w' w.heap.size 9 #[.string s] ∧ Kp w w' := by
  have hmf := makeFunc_run
  unfold eachV
  go_enter Tryz.func75, Tryz.ntmps75
  go_wp2_with fail
  go_ret
  exact ⟨rfl, Blk.new w _ _, (Kp.refl _).alloc _⟩
def lineAt (l : List (List UInt8 × Bool)) (k : Nat) : List UInt8 × Bool := l.getD k ([], false)
theorem lineAt_eq {l : List (List UInt8 × Bool)} {k : Nat} (h : k < l.length) : lineAt l k = l[k] := by simp [lineAt, List.getD, h]
theorem call_each1 (args : Array Value) (w : World) : (callFunc 114 args).run Tryz.prog w = .ok (.enter 114 args) w := by kernel_rfl
theorem drop_lines {l r : List (List UInt8 × Bool)} {x : List UInt8 × Bool} {k : Nat} (h : l.drop k = x :: r) : k < l.length ∧ lineAt l k = x ∧ l.drop (k + 1) = r := by
  have hk : k < l.length := by
    rcases Nat.lt_or_ge k l.length with h1 | h1
    · exact h1
    · rw [List.drop_eq_nil_of_le h1] at h; cases h
  rw [List.drop_eq_getElem_cons hk] at h
  injection h with h1 h2
  exact ⟨hk, by rw [lineAt_eq hk]; exact h1, h2⟩

set_option maxRecDepth 100000 in
set_option maxHeartbeats 2000000 in
theorem each1_iter (bx : Nat) (s : ByteArray) (hs : s.size ≤ 1000000) :
    Iter Tryz.prog 114 #[.pointer (some ⟨bx, 0, none⟩)] (linesS s.data.toList).length
      (fun k => #[.string (strB (lineAt (linesS s.data.toList) k).1), .bool (lineAt (linesS s.data.toList) k).2]) (fun W => Blk W bx 9 #[.string s]) := by
  intro l I Z W hI hZ hM hy h0
  have hlen : s.data.toList.length = s.size := by rw [Array.length_toList]; rfl
  have HI := Lib.hid hI; clear hI
  have HZ := Lib.hid hZ; clear hZ
  have HY := Lib.hid hy; clear hy
  have c0 : W.cell? ⟨bx, 0, none⟩ = some (.string s) := (hM 0 W h0).cell 0
  clear hM
  have H0 := Lib.hid h0; clear h0
  obtain ⟨L, hL⟩ : ∃ L, linesS s.data.toList = L := ⟨_, rfl⟩
  rw [hL] at HY ⊢
  have HL := Lib.hid hL; clear hL
  have Hlen := Lib.hid hlen; clear hlen
  go_enter Tryz.func114, Tryz.ntmps114
  go_wp2_with fail
  clear c0
  go_loopw [3] (fun i wr => ∃ (k : Nat) (S : ByteArray), k ≤ L.length ∧ i = .string S ∧ S.size ≤ 1000000 ∧ Hid (linesS S.data.toList = L.drop k) ∧ Hid (I k wr)) (fun i _ => (match i with | .string S => S.size | _ => 0))
  case atStart => exact ⟨0, s, Nat.zero_le _, rfl, hs, Lib.hid (by rw [HL.out]; rfl), H0⟩
  case round =>
    obtain ⟨k, S, hk, rfl, hS, hd, hi⟩ := hrel
    by_cases hne : S.data.toList = []
    · have hb : S.toList.isEmpty = true := by rw [Lib.toList_data, hne]; rfl
      have hkl : k = L.length := by
        have h1 := hd.out
        rw [hne, linesS_nil] at h1
        have h2 := congrArg List.length h1
        simp at h2
        omega
      subst hkl
      clear hne
      go_wp2_with fail
      go_end0
      exact ⟨rfl, .inl hi.out⟩
    · have hb : S.toList.isEmpty = false := by rw [Lib.toList_data]; simpa using hne
      obtain ⟨hk2, hl2, hd2⟩ := drop_lines (hd.out.symm.trans (linesS_step hne))
      have Hd2 := Lib.hid hd2; clear hd2
      have hlt := cutL_rest _ hne
      have Hlt := Lib.hid (show (strB (cutL S.data.toList).2.1).size < S.size by
        have : S.data.toList.length = S.size := by rw [Array.length_toList]; rfl
        show ((cutL S.data.toList).2.1).toArray.size < _
        simp only [List.size_toArray]
        omega)
      clear hne hlt
      go_upto_region 3 with (first | (go_at_call 115; refine (cut_any S (by omega) _).mono ?_; rintro e w1 ⟨rfl, hK1⟩))
      refine (wpIn_wide (n := 0)).1 ?_
      gi_wp2_with fail
      obtain ⟨fn, tmps, asg, bd, hrun, hround⟩ := HY.out k _ hk2 (HI.out k _ _ hi.out hK1)
      rw [hl2] at hrun
      simp only at hrun
      rw [hrun, Oper.uponIn_round]
      refine ⟨(fun h => by cases h), hround.mono ?_⟩
      clear hrun hround hK1
      rintro e W' (⟨rfl, hi2⟩ | ⟨rfl, hz⟩)
      · have Hi2 := Lib.hid hi2; clear hi2
        gi_wp2_with fail
        go_wp2_with fail
        go_roundw
        case rel => exact ⟨k + 1, _, by omega, rfl, by have := Hlt.out; omega, Lib.hid (by rw [strB_list]; exact Hd2.out.symm), Hi2⟩
        case measure => exact Hlt.out
      · have Hz := Lib.hid hz; clear hz
        gi_wp2_with fail
        go_wp2_with fail
        exact bodyPost_ret (v := .tuple #[]) (by simp [results, Tryz.results114, go_sem]) rfl ⟨rfl, .inr ⟨k + 1, by omega, by omega, Hz.out⟩⟩
end Go.Proofs.YtbfimimhgdkpaaaGreatDoor

/- A region that draws its order inside a fence, behind an operation that was met by hand: the rest only reads. No condition. -/
namespace Go.Proofs.YtbfimimhgdkpaaaGreatDoor
open Go.RowKit

theorem wpAnyIn_rest {F : Fence} {n : Nat} {P : Program} {Q : Exit → Act → World → Prop} {a : Act} {w : World} {fuel : Nat} {L : List Oper} {listed : Array Bool} (k : Nat) (hro : F.round = none) (hf : fuel = (L.drop k).length)
    (hs : Region.noSelect L.toArray = true) (hB : Region.lexFrom .any L.toArray (L.drop k).length k listed = true)
    (h : wpQuietIn F n P L.toArray (fun w' => ∃ n, w' = w.drewN n) (fun a' => ∀ w', (∃ n, w' = w.drewN n) → Q .normal a' w') (L.drop k) a) : wpAnyIn F n P .any L.toArray Q fuel listed a w := by
  subst hf
  refine wpAnyIn_of_quiet (C := fun w' => ∃ n, w' = w.drewN n) (Q := fun a' => ∀ w', (∃ n, w' = w.drewN n) → Q .normal a' w') hro (fun _ w' hw' h => h w' hw') _ _ _ _ ⟨0, rfl⟩ ?_
  exact wpAnyQIn_lex hs (L.drop k) k listed a (fun j => by simp) hB h
end Go.Proofs.YtbfimimhgdkpaaaGreatDoor

/- Regions that draw their order, inside a round of a range over a function: walked as plain ones. No condition. -/
namespace Go.Proofs.YtbfimimhgdkpaaaGreatDoor
open Go.RowKit

/-- No operation defers. -/
def noDefer (ops : Array Oper) : Bool := ops.toList.all (fun o => match o.op with | .defer _ => false | _ => true)
theorem noDefer_spec {ops : Array Oper} (h : noDefer ops = true) {i : Nat} {o : Oper} (hi : ops[i]? = some o) : ∀ c, o.op ≠ .defer c := by
  intro c hc
  have hm : o ∈ ops.toList := by
    rw [Array.mem_toList_iff]
    exact Array.mem_of_getElem? hi
  have := List.all_eq_true.1 h o hm
  rw [hc] at this
  cases this

theorem wpOpIn_of_wpOp {l : Nat} {P : Program} {ops : Array Oper} {Q : Exit → Act → World → Prop} (hQ : ¬ LetsOut Q) (hnd : noDefer ops = true) {i : Nat} {K : Act → World → Prop} {a : Act} {w : World}
    (h : wpOp P ops Q i K a w) : wpOpIn (Fence.wide.inRound l) 0 P ops Q i K a w := by
  unfold wpOp at h
  unfold wpOpIn
  cases ho : ops[i]? with
  | none => rw [ho] at h; exact h
  | some o =>
    rw [ho] at h
    simp only at h ⊢
    split
    · rename_i hw
      rw [if_pos hw] at h
      rcases h with h | h
      · refine ⟨fun _ _ => trivial, ?_⟩
        rw [Oper.semAt_eq _ _ _ (noDefer_spec hnd ho)]
        unfold Oper.wp at h
        generalize (execOp a.eval o).run P w = r at h
        unfold Oper.upon at h
        unfold Oper.uponIn
        split at h
        · exact h
        · exact h
        · exact h
        · exact ⟨(fun h => by cases h), CallsIn.inRound l (callsIn_wide.2 (h.mono fun e w'' hh => by cases e <;> exact hh))⟩
        · exact ⟨(fun h => by cases h), fun c cs _ => let ⟨v, w', r, s⟩ := h c cs; ⟨v, w', r, stepsIn_wide.2 s⟩⟩
        · exact h
        · exact h.elim
      · exact absurd h.2 hQ
    · rename_i hw
      rw [if_neg hw] at h
      exact ⟨fun _ _ => trivial, h⟩

theorem wpAnyIn_of_wpAny {l : Nat} {P : Program} {ops : Array Oper} {Q : Exit → Act → World → Prop} (hQ : ¬ LetsOut Q) (hnd : noDefer ops = true) {md : Region.Mode} : ∀ (fuel : Nat) (listed : Array Bool) (a : Act) (w : World),
    wpAny P md ops Q fuel listed a w → wpAnyIn (Fence.wide.inRound l) 0 P md ops Q fuel listed a w
  | 0, _, _, _, h => h
  | fuel + 1, listed, a, w, h => ⟨h.1, fun i hi => wpOpIn_mono (fun a w hh => wpAnyIn_of_wpAny hQ hnd fuel _ a w hh) (wpOpIn_of_wpOp hQ hnd (h.2 i hi))⟩

theorem wpAny_tail {P : Program} {Q : Exit → Act → World → Prop} {a : Act} {W : World} {l : List Oper} (n : Nat) (hB : Region.lexTailB .any l.toArray n = true)
    (h : wpStill P l.toArray W (fun a' => wpList P l.toArray Q (l.drop n) a' W) (l.take n) a) : wpAny P .any l.toArray Q l.toArray.size (Array.replicate l.toArray.size false) a W := by
  simp only [Region.lexTailB, Bool.and_eq_true, decide_eq_true_eq] at hB
  obtain ⟨⟨⟨⟨h1, h2⟩, h3⟩, h4⟩, h5⟩ := hB
  have e0 : n < l.length := by simpa using h2
  have e1 : (l.take n).length = n := by rw [List.length_take]; omega
  have e2 : (l.drop n).length = l.toArray.size - n := by rw [List.length_drop, List.size_toArray]
  have start : HeadInv .any l.toArray n (Array.replicate l.toArray.size false) := ⟨by simp, fun j _ _ hl => (by rw [getD_replicate_false] at hl; cases hl), fun t _ ht => getD_in (by simpa using ht) (getD_replicate_false _ _)⟩
  have hl : ∀ j, j < (l.take n).length → (l.take n)[j]? = l.toArray[0 + j]? := fun j hj => by
    rw [e1] at hj; simp [hj]
  have head := wpAnyL_lex (md := .any) (g := l.toArray.size - n) h1 h3 h4 h2 (l.take n) 0 _ a hl (by omega) start (by rw [e1]; exact h5) h
  have all := wpAny_of_head (Q' := Q) (g := l.toArray.size - n) (fun listed a' hL => by
    have t := wpAny_of_seq (md := .any) (Q' := Q) (l.drop n) n listed a' W (fun j => by simp [List.getElem?_drop]) (by rw [e2]; exact hL.1) hL.2
    rw [e2] at t; exact t) _ _ _ head
  rw [e1, show n + (l.toArray.size - n) = l.toArray.size by omega] at all
  exact all

/-- A drawn region in a round, of which all but the last operations only read: walked in the order of the text, in a world that is a letter. -/
theorem round_tail {r id : Nat} {P : Program} {Q : Exit → Act → World → Prop} {a : Act} {w : World} {l : List Oper} (n : Nat) (hm : P.follows .mixedOrders = true) (hB : Region.lexTailB .any l.toArray n = true) (hnd : noDefer l.toArray = true) (hQ : ¬ LetsOut Q)
    (h : ∀ W, W = w.drew → wpStill P l.toArray W (fun a' => wpList P l.toArray Q (l.drop n) a' W) (l.take n) a) : (Code.region id l.toArray true).wpIn (Fence.wide.inRound r) 0 P Q a w :=
  wpIn_region_any hm (wpAnyIn_of_wpAny hQ hnd _ _ _ _ (wpAny_tail n hB (h _ rfl)))
theorem no_out {Q : Exit → Act → World → Prop} {K : Act → World → Prop} (h : ¬ LetsOut Q) : ¬ LetsOut (Exit.then K Q) := fun ⟨a, w, hh⟩ => h ⟨a, w, hh⟩
theorem no_out_block {Q : Exit → Act → World → Prop} {id : Nat} (h : ¬ LetsOut Q) : ¬ LetsOut (Exit.inBlock id Q) := fun ⟨a, w, hh⟩ => h ⟨a, w, hh⟩
theorem no_out_round {w : World} {I : Nat → World → Prop} {Ix : Code → Nat → World → Prop} {k : Nat} {W : World} : ¬ LetsOut (rndPost w I Ix k W) := fun ⟨_, _, hh⟩ => hh
end Go.Proofs.YtbfimimhgdkpaaaGreatDoor

/- Plain regions inside a round of a range over a function: walked as plain ones. No condition. -/
namespace Go.Proofs.YtbfimimhgdkpaaaGreatDoor
open Go.RowKit

theorem wpListIn_of_wpList {l : Nat} {P : Program} {ops : Array Oper} {Q : Exit → Act → World → Prop} (hQ : ¬ LetsOut Q) : ∀ (rest : List Oper) (a : Act) (w : World), rest.all (fun o => match o.op with | .defer _ => false | _ => true) = true →
    wpList P ops Q rest a w → wpListIn (Fence.wide.inRound l) 0 P ops Q rest a w
  | [], _, _, _, h => h
  | o :: rest, a, w, hnd, h => by
    have hnd' := List.all_eq_true.1 hnd
    have hr : rest.all (fun o => match o.op with | .defer _ => false | _ => true) = true := List.all_eq_true.2 (fun x hx => hnd' x (List.mem_cons_of_mem _ hx))
    have ho : ∀ c, o.op ≠ .defer c := fun c hc => by
      have := hnd' o (by simp)
      rw [hc] at this; cases this
    unfold wpList at h
    unfold wpListIn
    split
    · rename_i hw
      rw [if_pos hw] at h
      rcases h with h | h
      · refine ⟨fun _ _ => trivial, ?_⟩
        rw [Oper.semAt_eq _ _ _ ho]
        unfold Oper.wp at h
        generalize (execOp a.eval o).run P w = r at h
        unfold Oper.upon at h
        unfold Oper.uponIn
        split at h
        · exact wpListIn_of_wpList hQ rest _ _ hr h
        · exact wpListIn_of_wpList hQ rest _ _ hr h
        · exact wpListIn_of_wpList hQ rest _ _ hr h
        · refine ⟨(fun h => by cases h), CallsIn.inRound l (callsIn_wide.2 (h.mono fun e w'' hh => ?_))⟩
          cases e with
          | returned v => exact wpListIn_of_wpList hQ rest _ _ hr hh
          | panicked ch => exact hh
          | outgrown => exact hh
        · refine ⟨(fun h => by cases h), fun c cs _ => ?_⟩
          obtain ⟨v, w', r, s⟩ := h c cs
          exact ⟨v, w', wpListIn_of_wpList hQ rest _ _ hr r, stepsIn_wide.2 s⟩
        · exact h
        · exact h.elim
      · exact absurd h.2 hQ
    · rename_i hw
      rw [if_neg hw] at h
      exact ⟨fun _ _ => trivial, wpListIn_of_wpList hQ rest _ _ hr h⟩

/-- A region in a round, walked as a plain one. -/
theorem round_list {r id : Nat} {P : Program} {Q : Exit → Act → World → Prop} {a : Act} {w : World} {l : List Oper} (hnd : l.all (fun o => match o.op with | .defer _ => false | _ => true) = true) (hQ : ¬ LetsOut Q)
    (h : wpList P l.toArray Q l a w) : (Code.region id l.toArray false).wpIn (Fence.wide.inRound r) 0 P Q a w :=
  wpIn_region_lit (wpListIn_of_wpList hQ l a w hnd h)
end Go.Proofs.YtbfimimhgdkpaaaGreatDoor
