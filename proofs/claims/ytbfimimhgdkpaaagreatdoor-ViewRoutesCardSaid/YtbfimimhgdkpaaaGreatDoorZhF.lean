/- Lemmas and contracts for the theorem of this claim: ScN, ScO, ScP, ScQ, VwA, VwB, VwC, VwD, VwE. -/
import Derived.Test.YtbfimimhgdkpaaaGreatDoorZhE
import Derived.Lib.ItoaLen
import Derived.StillTailTactics
set_option linter.unusedSimpArgs false
set_option linter.unusedVariables false
/- Package script: names, a line's words. No condition but the stated bounds. -/
namespace Go.Proofs.YtbfimimhgdkpaaaGreatDoor
open Go.RowKit

def strE (l : List UInt8) : List Value := [.string (strB l)]
theorem strE_len (l : List UInt8) : (strE l).length = 1 := rfl
theorem EStr : ElemOf Tryz.prog 68 9 (.string ⟨#[]⟩) 1 16 := ⟨Tryz.underlying68, by kernel_rfl, rfl, by decide⟩
theorem extract_eq (s : ByteArray) (a b : Nat) : s.extract a b = strB ((s.data.toList.drop a).take (b - a)) := by
  have h := Lib.extract_data s a b
  apply ByteArray.ext
  apply Array.toList_inj.1
  rw [h]
theorem byte_idx {s : ByteArray} {i : Nat} (h : i < s.data.toList.length) : (s.data.toList[i]).toNat = byteAt s i := by
  unfold byteAt
  rw [List.getD_eq_getElem?_getD, List.getElem?_eq_getElem h, Option.getD_some]
theorem seg_ne {s : ByteArray} {a b : Nat} {x : UInt8} (h : ∀ i, a ≤ i → i < b → byteAt s i ≠ x.toNat) : ∀ c ∈ (s.data.toList.drop a).take (b - a), c ≠ x := by
  intro c hc e
  subst e
  obtain ⟨i, hi, he⟩ := List.getElem_of_mem hc
  rw [List.length_take, List.length_drop] at hi
  have hl : a + i < s.data.toList.length := by omega
  have e2 : s.data.toList[a + i] = c := by
    rw [List.getElem_take, List.getElem_drop] at he
    exact he
  exact h (a + i) (by omega) (by omega) (by rw [← byte_idx hl, e2])
theorem parted_seg {s : ByteArray} {a b : Nat} {x : UInt8} (hab : a ≤ b) (hb : b < s.size) (h : ∀ i, a ≤ i → i < b → byteAt s i ≠ x.toNat) (hx : byteAt s b = x.toNat) :
    parted x (s.data.toList.drop a) = ((s.data.toList.drop a).take (b - a)) :: parted x (s.data.toList.drop (b + 1)) := by
  obtain ⟨c, hc, hd⟩ := drop_byte hb
  have hcx : c = x := UInt8.toNat.inj (by rw [hc, hx])
  have e : s.data.toList.drop a = (s.data.toList.drop a).take (b - a) ++ x :: s.data.toList.drop (b + 1) := by
    rw [← hcx, ← hd]
    have : s.data.toList.drop b = (s.data.toList.drop a).drop (b - a) := by rw [List.drop_drop]; congr 1; omega
    rw [this, List.take_append_drop]
  have e2 := parted_at (v := s.data.toList.drop (b + 1)) (seg_ne h)
  rw [← e] at e2
  exact e2
theorem parted_last {s : ByteArray} {a : Nat} {x : UInt8} (h : ∀ i, a ≤ i → i < s.size → byteAt s i ≠ x.toNat) : parted x (s.data.toList.drop a) = [s.data.toList.drop a] := by
  refine parted_one ?_
  have := seg_ne h
  rw [List.take_of_length_le (by rw [List.length_drop, Array.length_toList]; exact Nat.le_refl _)] at this
  exact this
theorem rune_is (s : ByteArray) (i : Nat) (hi : i < s.size) (x : UInt8) (hx : x.toNat < 128) :
    1 ≤ (Utf8.decode s i).2 ∧ i + (Utf8.decode s i).2 ≤ s.size ∧ ((Utf8.decode s i = (x.toNat, 1) ∧ byteAt s i = x.toNat) ∨ ((Utf8.decode s i).1 ≠ x.toNat ∧ ∀ k, k < (Utf8.decode s i).2 → byteAt s (i + k) ≠ x.toNat)) := by
  obtain ⟨a, b, h | h⟩ := rune_any s i hi
  · refine ⟨a, b, ?_⟩
    by_cases he : byteAt s i = x.toNat
    · exact .inl ⟨by rw [h.2, he], he⟩
    · refine .inr ⟨by rw [h.2]; exact he, fun k hk => ?_⟩
      rw [h.2] at hk
      obtain rfl : k = 0 := by simp at hk; exact hk
      exact he
  · exact ⟨a, b, .inr ⟨by omega, fun k hk => by have := h.2 k hk; omega⟩⟩

abbrev namesV : Value := .agg #[.string ⟨#[]⟩, .string ⟨#[116, 105, 99, 107]⟩, .string ⟨#[109, 97, 105, 108]⟩, .string ⟨#[116, 119, 105, 99, 101]⟩, .string ⟨#[108, 111, 115, 101]⟩, .string ⟨#[99, 117, 116]⟩, .string ⟨#[102, 97, 99, 101]⟩, .string ⟨#[115, 116, 97, 114, 116]⟩, .string ⟨#[98, 121, 116, 101, 115]⟩]
set_option maxRecDepth 100000 in
set_option maxHeartbeats 400000 in
theorem names_any (w : World) : Calls Tryz.prog 38 #[] w fun e w' => e = .returned namesV ∧ Kp w w' := by
  go_enter Tryz.func38, Tryz.ntmps38
  go_wp2_with fail
  exact bodyPost_ret (v := namesV) (by simp [results, Tryz.results38, go_sem]) rfl ⟨rfl, (Kp.refl _).alloc _⟩
theorem name_idx (k : Nat) (hk : k ≤ 8) (w : World) : (Instr.index 81 namesV (.int .i64 (k : Int))).run Tryz.prog w = .ok (.string (strB (nameOf k))) w := by
  have : k = 0 ∨ k = 1 ∨ k = 2 ∨ k = 3 ∨ k = 4 ∨ k = 5 ∨ k = 6 ∨ k = 7 ∨ k = 8 := by omega
  rcases this with rfl | rfl | rfl | rfl | rfl | rfl | rfl | rfl | rfl
  · have : (Instr.index 81 namesV (.int .i64 0)).run Tryz.prog w = .ok (.string ⟨#[]⟩) w := by kernel_rfl
    exact this
  · have : (Instr.index 81 namesV (.int .i64 1)).run Tryz.prog w = .ok (.string ⟨#[116, 105, 99, 107]⟩) w := by kernel_rfl
    exact this
  · have : (Instr.index 81 namesV (.int .i64 2)).run Tryz.prog w = .ok (.string ⟨#[109, 97, 105, 108]⟩) w := by kernel_rfl
    exact this
  · have : (Instr.index 81 namesV (.int .i64 3)).run Tryz.prog w = .ok (.string ⟨#[116, 119, 105, 99, 101]⟩) w := by kernel_rfl
    exact this
  · have : (Instr.index 81 namesV (.int .i64 4)).run Tryz.prog w = .ok (.string ⟨#[108, 111, 115, 101]⟩) w := by kernel_rfl
    exact this
  · have : (Instr.index 81 namesV (.int .i64 5)).run Tryz.prog w = .ok (.string ⟨#[99, 117, 116]⟩) w := by kernel_rfl
    exact this
  · have : (Instr.index 81 namesV (.int .i64 6)).run Tryz.prog w = .ok (.string ⟨#[102, 97, 99, 101]⟩) w := by kernel_rfl
    exact this
  · have : (Instr.index 81 namesV (.int .i64 7)).run Tryz.prog w = .ok (.string ⟨#[115, 116, 97, 114, 116]⟩) w := by kernel_rfl
    exact this
  · have : (Instr.index 81 namesV (.int .i64 8)).run Tryz.prog w = .ok (.string ⟨#[98, 121, 116, 101, 115]⟩) w := by kernel_rfl
    exact this

theorem Own.iterAt {α : Type} {w : World} {B e sz : Nat} {enc : α → List Value} {v : Value} {xs : List α} (h : Own w B e sz enc v xs) {k : Nat} {s : ByteArray} {pos : Nat} (hk : w.heap[k]? = some (.stringIter s pos)) (p : Nat) : Own (w.iterAt k s p) B e sz enc v xs := by
  refine ⟨h.1, ?_⟩
  rcases h.2 with h2 | ⟨g, cap, cur, hv, hg, hh, r⟩
  · exact .inl h2
  · refine .inr ⟨g, cap, cur, hv, hg, (Lib.iterAt_other w k g s p ?_).trans hh, r⟩
    rintro rfl
    rw [hk] at hh
    cases hh
def WordsP (s : ByteArray) (w : World) (e : Ending) (w' : World) : Prop :=
  ((parted 32 s.data.toList).length ≤ 6 → ∃ v, e = .returned v ∧ Own w' w.heap.size 9 1 strE v (parted 32 s.data.toList)) ∧ (¬ (parted 32 s.data.toList).length ≤ 6 → e = gaveS 260) ∧ Kp w w'
structure WRel (w : World) (s : ByteArray) (pos a : Nat) (v : Value) (ws : List (List UInt8)) (wr : World) : Prop where
  le : pos ≤ s.size
  fr : a ≤ pos
  it : wr.heap[w.heap.size]? = some (.stringIter s pos)
  own : Own wr (w.heap.size + 1) 9 1 strE v ws
  no : ∀ i, a ≤ i → i < pos → byteAt s i ≠ (32 : UInt8).toNat
  wq : parted 32 s.data.toList = ws ++ parted 32 (s.data.toList.drop a)
  n5 : ws.length ≤ 5
  kp : Kp w wr

set_option maxRecDepth 100000 in
set_option maxHeartbeats 2000000 in
theorem words_any (s : ByteArray) (hs : s.size ≤ 1000000) (w : World) : Calls Tryz.prog 43 #[.string s] w (WordsP s w) := by
  have HR : Hid (WRel w s 0 0 (.slice none 0 0) [] (w.iter s 0)) := Lib.hid ⟨by omega, by omega, World.iter_heap w s 0, Own.nil _ _ _ _ _, fun i _ h => absurd h (by omega), by simp, by decide, (Kp.refl w).alloc _⟩
  have hlen : s.data.toList.length = s.size := by rw [Array.length_toList]; rfl
  have Hlen := Lib.hid hlen; clear hlen
  go_enter Tryz.func43, Tryz.ntmps43
  go_wp2_with fail
  go_loopw [3, 4] (fun v f wr => ∃ pos a ws, f = .int .i64 (a : Nat) ∧ Hid (WRel w s pos a v ws wr)) (fun _ _ wr => s.size - wr.iterPos w.heap.size)
  case atStart => exact ⟨0, 0, [], rfl, HR⟩
  case round =>
    obtain ⟨pos, a, ws, rfl, R⟩ := hrel
    have hk := R.out.it
    have hfr := R.out.fr
    have hle := R.out.le
    have hn5 := R.out.n5
    have hsz := R.out.kp.size
    have hmu : wr.iterPos w.heap.size = pos := by simp [World.iterPos, hk]
    by_cases hp : pos < s.size
    · have hnext : ∀ ty, (Instr.next (.pointer (some ⟨w.heap.size, 0, none⟩)) true ty).run Tryz.prog wr = _ := fun ty => Lib.run_next_any_at wr w.heap.size s pos ty hk hp
      have hr := Lib.hid (rune_is s pos hp 32 (by decide))
      obtain ⟨c, m, hcm⟩ : ∃ c m, Utf8.decode s pos = (c, m) := ⟨_, _, rfl⟩
      rw [hcm] at hnext hr
      simp only at hnext hr
      clear hcm
      have hlt := (Array.getElem?_eq_some_iff.1 hk).1
      have hK1 : Kp w (wr.iterAt w.heap.size s (pos + m)) := Lib.below_iterAt R.out.kp (Nat.le_refl _) s (pos + m)
      have hk1 := Lib.iterAt_heap wr w.heap.size s pos (pos + m) hk
      have hO1 : Own (wr.iterAt w.heap.size s (pos + m)) (w.heap.size + 1) 9 1 strE u3 ws := R.out.own.iterAt hk _
      have R' := R
      generalize wr.iterAt w.heap.size s (pos + m) = W1 at hnext hK1 hk1 hO1
      clear hk
      have hk1s : W1.heap[w.heap.size]? = some (.stringIter s (pos + m)) := hk1
      have hsz1 : w.heap.size + 1 ≤ W1.heap.size := (Array.getElem?_eq_some_iff.1 hk1).1
      obtain ⟨hm1, hm2, hcase⟩ := hr.out
      rcases hcase with ⟨hc, hb⟩ | ⟨hc, hb⟩
      · obtain ⟨rfl, rfl⟩ : c = 32 ∧ m = 1 := by injection hc with h1 h2; exact ⟨h1, h2⟩
        have hseg := Lib.hid (parted_seg (x := 32) hfr hp R.out.no hb)
        have ha0 : (0 : Int) ≤ (a : Int) := by omega
        have ha1 : (a : Int) ≤ (pos : Int) := by omega
        have ha2 : (pos : Int) ≤ (s.size : Int) := by omega
        have Hext := Lib.hid (extract_eq s a pos)
        have hnews : ([.string (s.extract a pos)] : List Value) = strE ((s.data.toList.drop a).take (pos - a)) := by rw [Hext.out]; rfl
        have Hnews := Lib.hid hnews; clear hnews
        clear hc hb
        have hnel := Own.ne hO1 (g := w.heap.size) (by omega)
        go_wp2_with (at_builtin; go_must (refine wpList_appx EStr (w0 := bare W1) rfl _ _ rfl ((s.data.toList.drop a).take (pos - a)) rfl hO1 (bare_kp _) (Nat.zero_le _) hsz1 rfl rfl Hnews.out rfl rfl (by omega) ?_); intro v2 w2 hown2 hK2 hg2; obtain ⟨A2, c2, rfl⟩ := hown2.form1)
        have hK2w : Kp w w2 := hK1.grown hg2 (fun q hq => by have := (World.ownsRow.lt hO1 q hq).1; omega)
        by_cases h6 : ws.length + 1 < 6
        · have Hn : Hid (WRel w s (pos + 1) (pos + 1) (.slice A2 (ws.length + 1) c2) (ws ++ [(s.data.toList.drop a).take (pos - a)]) w2) := Lib.hid
            ⟨hm2, Nat.le_refl _, (hg2.block _ (by omega) hnel).trans hk1s, hown2, fun i h1 h2 => absurd h1 (by omega), by rw [R.out.wq, hseg.out]; simp, by simp; omega, hK2w⟩
          have hmu2 : w2.iterPos w.heap.size = pos + 1 := by simp [World.iterPos, Hn.out.it]
          have hd6 : decide ((ws.length : Int) + 1 < 6) = true := by rw [decide_eq_true_iff]; omega
          rw [hd6]
          refine (need_yes _ _).mono ?_
          rintro e w3 ⟨rfl, rfl⟩
          go_wp2_with fail
          go_roundw
          case rel => exact ⟨pos + 1, pos + 1, _, by go_num, Hn⟩
          case measure => rw [hmu, hmu2]; omega
        · have hd6 : decide ((ws.length : Int) + 1 < 6) = false := by rw [decide_eq_false_iff_not]; omega
          rw [hd6]
          have Hbig := Lib.hid (show ¬ (parted 32 s.data.toList).length ≤ 6 by
            rw [R.out.wq, hseg.out]
            have := List.length_pos_iff.2 (parted_ne 32 (s.data.toList.drop (pos + 1)))
            simp
            omega)
          refine (need_nay _ _).mono ?_
          rintro e w3 ⟨rfl, rfl⟩
          exact ⟨rfl, fun h => absurd h Hbig.out, fun _ => rfl, hK2w⟩
      · have Hn : Hid (WRel w s (pos + m) a u3 ws W1) := Lib.hid
          ⟨hm2, by omega, hk1s, hO1, fun i h1 h2 => by
            rcases Nat.lt_or_ge i pos with h3 | h3
            · exact R.out.no i h1 h3
            · have := hb (i - pos) (by omega)
              rwa [show pos + (i - pos) = i by omega] at this, R.out.wq, hn5, hK1⟩
        have hb32 : ((c : Int) == 32) = false := by rw [beq_eq_false_iff_ne]; have h32 : (32 : UInt8).toNat = 32 := rfl; omega
        have hb33 : ¬ (c : Int) = 32 := by have h32 : (32 : UInt8).toNat = 32 := rfl; omega
        have hmu2 : W1.iterPos w.heap.size = pos + m := by simp [World.iterPos, hk1s]
        clear hc hb
        go_wp2_with fail
        go_roundw
        case rel => exact ⟨pos + m, a, ws, rfl, Hn⟩
        case measure => rw [hmu, hmu2]; omega
    · have hnext : ∀ ty, (Instr.next (.pointer (some ⟨w.heap.size, 0, none⟩)) true ty).run Tryz.prog wr = _ := fun ty => Lib.run_next_end_at wr w.heap.size s pos ty hk hp
      have hps : pos = s.size := by omega
      have hO := R.out.own
      have hKw := R.out.kp
      have hlast := Lib.hid (parted_last (x := 32) (s := s) (a := a) (fun i h1 h2 => R.out.no i h1 (by omega)))
      have Hw := Lib.hid (show parted 32 s.data.toList = ws ++ [s.data.toList.drop a] by rw [R.out.wq, hlast.out])
      have hszr : w.heap.size + 1 ≤ wr.heap.size := (Array.getElem?_eq_some_iff.1 hk).1
      have Hext := Lib.hid (extract_eq s a s.size)
      have hnews : ([.string (s.extract a s.size)] : List Value) = strE (s.data.toList.drop a) := by
        rw [Hext.out, List.take_of_length_le (by rw [List.length_drop, Hlen.out]; exact Nat.le_refl _)]; rfl
      have Hnews := Lib.hid hnews; clear hnews hk
      have ha0 : (0 : Int) ≤ (a : Int) := by omega
      have ha2 : (a : Int) ≤ (s.size : Int) := by omega
      subst hps
      go_wp2_with (at_builtin; go_must (refine wpList_appx EStr (w0 := bare wr) rfl _ _ rfl (s.data.toList.drop a) rfl hO (bare_kp _) (Nat.zero_le _) hszr rfl rfl Hnews.out rfl rfl (by omega) ?_); intro v2 w2 hown2 hK2 hg2; obtain ⟨A2, c2, rfl⟩ := hown2.form1)
      go_ret
      refine ⟨fun _ => ⟨_, rfl, ?_⟩, fun h => absurd (by rw [Hw.out]; simp; omega) h, hKw.grown hg2 (fun q hq => by have := (World.ownsRow.lt hO q hq).1; omega)⟩
      rw [Hw.out]
      exact hown2.mono (by omega)
end Go.Proofs.YtbfimimhgdkpaaaGreatDoor

/- Package script: a line's kind. No condition. -/
namespace Go.Proofs.YtbfimimhgdkpaaaGreatDoor
open Go.RowKit

theorem str_at {w : World} {A : Option Addr} {l : List (List UInt8)} (h : Rd w 1 strE A l) {k : Nat} (hk : k < l.length) :
    ∃ b off : Nat, A = some ⟨b, off, none⟩ ∧ w.cell? ⟨b, off + k, none⟩ = some (.string (strB l[k])) := by
  obtain ⟨b, off, e, hc⟩ := h k hk
  exact ⟨b, off, e, by simpa using hc 0 _ rfl⟩
def KindP (g : Nat) (c1 c2 c3 c4 c5 c6 wv : Value) (h : List UInt8) (w : World) (e : Ending) (w' : World) : Prop :=
  (kindB h ≠ 0 → e = .returned (.tuple #[]) ∧ Blk w' g 98 #[.int .i64 (kindB h : Nat), c1, c2, c3, c4, c5, c6, wv]) ∧ (kindB h = 0 → e = gaveS 260) ∧ Only [g] w w'
set_option maxRecDepth 100000 in
set_option maxHeartbeats 2000000 in
theorem kind_any (g : Nat) (c1 c2 c3 c4 c5 c6 : Value) (b o c : Nat) (h : List UInt8) (ws : List (List UInt8)) (hbg : ¬ b = g) (w : World) (B : Blk w g 98 #[.int .i64 0, c1, c2, c3, c4, c5, c6, .slice (some ⟨b, o, none⟩) (ws.length + 1) c]) (hw : w.cell? ⟨b, o, none⟩ = some (.string (strB h))) :
    Calls Tryz.prog 44 #[.pointer (some ⟨g, 0, none⟩)] w (KindP g c1 c2 c3 c4 c5 c6 (.slice (some ⟨b, o, none⟩) (ws.length + 1) c) h w) := by
  have hg := B.lt
  go_enter Tryz.func44, Tryz.ntmps44
  go_wp2_with (first | (go_at_call 38; refine (names_any _).mono ?_; rintro e w1 ⟨rfl, hK1⟩))
  have B1 := B.keep hK1
  have hw1 := hK1.cell hw
  have hO1 : Only [g] w w1 := Only.of_kp hK1
  clear hw
  go_loopw [5] (fun i wr => ∃ k : Nat, k ≤ 9 ∧ i = .int .i64 k ∧ Hid (Blk wr g 98 #[.int .i64 (kindUp k h : Nat), c1, c2, c3, c4, c5, c6, .slice (some ⟨b, o, none⟩) (ws.length + 1) c]) ∧ wr.cell? ⟨b, o, none⟩ = some (.string (strB h)) ∧ Only [g] w wr) (fun i _ => 9 - (intOf i).toNat)
  case atStart => exact ⟨0, by omega, rfl, B1, hw1, hO1⟩
  case round =>
    obtain ⟨k, hk, rfl, hB, hwr, hO⟩ := hrel
    have q7 : wr.cell? ⟨g, 7, none⟩ = some (.slice (some ⟨b, o, none⟩) (ws.length + 1) c) := hB.out.cell 7
    have q0 : wr.cell? ⟨g, 0, none⟩ = some (.int .i64 (kindUp k h : Nat)) := hB.out.cell 0
    have z0 := hB.out.frozen 0
    by_cases hlt : k < 9
    · have hx := name_idx k (by omega)
      rcases Nat.eq_zero_or_pos k with h0 | h0
      · subst h0
        have hx0 : ∀ w, (Instr.index 81 namesV (.int .i64 0)).run Tryz.prog w = .ok (.string ⟨#[]⟩) w := fun w => hx w
        have Hn := Lib.hid (show kindUp 1 h = kindUp 0 h from rfl)
        go_wp2_with fail
        go_roundw
        case rel => exact ⟨1, by omega, rfl, by rw [Hn.out]; exact hB, hwr, hO⟩
        case measure => simp [intOf]
      · have hgt : (0 : Int) < (k : Int) := by omega
        have hl0 : (0 : Int) < (ws.length : Int) + 1 := by omega
        by_cases he : nameOf k = h
        · have hb : (nameOf k == h) = true := by rw [beq_iff_eq]; exact he
          have Hn := Lib.hid (show kindUp (k + 1) h = k by rw [kindUp, if_pos ⟨h0, he⟩])
          have hl1 : (0 : Int) ≤ (ws.length : Int) := by omega
          clear he
          go_wp2_with fail
          go_roundw
          case rel =>
            refine ⟨k + 1, by omega, by go_num, ?_, ?_, hO.setCell (.inl (by simp)) _⟩
            · rw [Hn.out]
              exact hB.out.set_ 0 _
            · exact (World.cell?_setCell_other _ _ _ _ (by simp [hbg])).trans hwr
          case measure => simp [intOf]; omega
        · have hb : (nameOf k == h) = false := by rw [beq_eq_false_iff_ne]; exact he
          have Hn := Lib.hid (show kindUp (k + 1) h = kindUp k h by rw [kindUp, if_neg (fun hh => he hh.2)])
          have hl1 : (0 : Int) ≤ (ws.length : Int) := by omega
          clear he
          go_wp2_with fail
          go_roundw
          case rel => exact ⟨k + 1, by omega, by go_num, by rw [Hn.out]; exact hB, hwr, hO⟩
          case measure => simp [intOf]; omega
    · obtain rfl : k = 9 := by omega
      by_cases hz : kindUp 9 h = 0
      · have hb : (((kindUp 9 h : Nat) : Int) != 0) = false := by rw [hz]; rfl
        have Hz := Lib.hid hz; clear hz
        go_wp2_with (first | (go_at_call 45; refine (need_nay _ _).mono ?_; rintro e w' ⟨rfl, rfl⟩))
        exact ⟨rfl, fun hh => absurd Hz.out hh, fun _ => rfl, hO⟩
      · have hb : (((kindUp 9 h : Nat) : Int) != 0) = true := by rw [bne_iff_ne]; omega
        have Hz := Lib.hid hz; clear hz
        go_wp2_with (first | (go_at_call 45; refine (need_yes _ _).mono ?_; rintro e w' ⟨rfl, rfl⟩))
        go_end0
        exact ⟨fun _ => ⟨rfl, hB⟩, fun hh => absurd hh Hz.out, hO⟩
end Go.Proofs.YtbfimimhgdkpaaaGreatDoor

/- Package script: Text. No condition but the stated bounds. -/
namespace Go.Proofs.YtbfimimhgdkpaaaGreatDoor
open Go.RowKit Go.Maps

/-- A row of one's own lies apart from blocks of other types. -/
theorem Own.far {α : Type} {w : World} {B e sz : Nat} {enc : α → List Value} {v : Value} {xs : List α} (h : Own w B e sz enc v xs) {g : Nat} {t : TypeId} {cs : Array Value} (hB : Blk w g t cs) (ht : t ≠ e) : some g ≠ v.ownBlock := by
  rintro hv
  rcases h.2 with ⟨h2, _⟩ | ⟨q, cap, cur, hq, _, hh, _⟩
  · rw [h2] at hv; cases hv
  · rw [hq] at hv
    injection hv with hv
    subst hv
    have := hB.symm.trans hh
    injection this with this
    injection this with _ this
    exact ht this
theorem Own.one {w : World} {B g : Nat} {l : List UInt8} {s : ByteArray} (hb : B ≤ g) (hB : Blk w g 9 #[.string s]) (hs : s = strB l) : Own w B 9 1 strE (.slice (some ⟨g, 0, none⟩) 1 1) [l] := by
  subst hs
  exact ⟨by simp [strE], .inr ⟨g, 1, #[.string (strB l)], rfl, hb, hB, Nat.le_refl _, by decide, by simp [strE], by simp [strE]⟩⟩
theorem digits_short {n : Nat} (h : n < 4294967296) : (Lib.decDigits n).length ≤ 21 := by
  have := Lib.itoa_length_le (n : Int) (by omega) (by omega)
  rwa [Lib.itoa_nonneg] at this
theorem tellE_short {e : Ev} (ok : EvOk e) (hl : e.bytes.length ≤ 600) (p : Pt) : (tellE p e).length ≤ 1300 := by
  cases p with
  | a => have := Lib.itoa_length_le e.a ok.a0 ok.a1; simp only [tellE]; omega
  | b => have := Lib.itoa_length_le e.b ok.b0 ok.b1; simp only [tellE]; omega
  | d => have := Lib.itoa_length_le e.draw ok.d0 ok.d1; simp only [tellE]; omega
  | c => simp only [tellE]; split <;> decide
  | s =>
    have h := ok.s1
    have h1 := digits_short (n := e.src / 16777216) (by omega)
    have h2 := digits_short (n := e.src / 65536 % 256) (by omega)
    have h3 := digits_short (n := e.src / 256 % 256) (by omega)
    have h4 := digits_short (n := e.src % 256) (by omega)
    simp only [tellE, textA, List.length_append, List.length_cons]
    omega
  | x =>
    simp only [tellE, hexW]
    split
    · decide
    · rw [hexT_len]; omega
/-- The words of an event's line that stand after so many parts. -/
@[irreducible] def textsE (e : Ev) (k j : Nat) : List (List UInt8) := nameOf k :: ((partsOf k).take j).map (fun p => tellE p e)
theorem textsE_zero (e : Ev) (k : Nat) : textsE e k 0 = [nameOf k] := by unfold textsE; rfl
theorem textsE_next {e : Ev} {k j : Nat} (hj : j < (partsOf k).length) {p : Pt} (hp : (partsOf k)[j] = p) : textsE e k (j + 1) = textsE e k j ++ [tellE p e] := by
  unfold textsE
  rw [List.take_add_one, List.getElem?_eq_getElem hj, hp]
  simp
theorem textsE_len {e : Ev} {k j : Nat} (hk : k ≤ 8) : (textsE e k j).length ≤ 6 := by
  have := parts_len hk
  unfold textsE
  simp
  omega
theorem textsE_all {e : Ev} {k : Nat} (hk : e.kind = (k : Int)) : Lib.join (textsE e k (partsOf k).length) [32] = textE e := by
  unfold textsE
  have : e.kind.toNat = k := by omega
  rw [Lib.join_cons, List.take_length, textE, this, Lib.joinTail, List.map_map, List.flatMap_def]
  rfl
theorem textE_short {e : Ev} (ok : EvOk e) (hl : e.bytes.length ≤ 600) {k : Nat} (hk : e.kind = (k : Int)) (h8 : k ≤ 8) : (textE e).length ≤ 10000 := by
  have h5 := parts_len h8
  have hk2 : e.kind.toNat = k := by omega
  have hn : (nameOf k).length ≤ 5 := by
    have : k = 0 ∨ k = 1 ∨ k = 2 ∨ k = 3 ∨ k = 4 ∨ k = 5 ∨ k = 6 ∨ k = 7 ∨ k = 8 := by omega
    rcases this with rfl | rfl | rfl | rfl | rfl | rfl | rfl | rfl | rfl <;> decide
  have hf : ∀ ps : List Pt, (ps.flatMap (fun p => (32 : UInt8) :: tellE p e)).length ≤ 1301 * ps.length := by
    intro ps
    induction ps with
    | nil => simp
    | cons p ps ih => have := tellE_short ok hl p; simp only [List.flatMap_cons, List.length_append, List.length_cons] at ih ⊢; omega
  have := hf (partsOf k)
  rw [textE, hk2, List.length_append]
  omega
theorem plainP_parts {e : Ev} (h : plainP e = true) : 1 ≤ e.kind ∧ e.kind ≤ 8 ∧ e.bytes.length ≤ 600 := by
  simp only [plainP, Bool.and_eq_true, decide_eq_true_eq] at h
  exact ⟨h.1.1, h.1.2, h.2.2.2⟩

/-- What stands as words are told. -/
structure TextR (w : World) (x y z g : Nat) (e : Ev) (fv : Value) (k j : Nat) (v : Value) (wr : World) : Prop where
  kp : Kp w wr
  ev : Blk wr w.heap.size 27 (evC e fv)
  row : Blk wr g 89 (rowC x y z k).toArray
  box : Boxes wr x y z
  own : Own wr (w.heap.size + 1) 9 1 strE v (textsE e k j)
theorem TextR.next {w wr w2 w3 : World} {x y z g : Nat} {e : Ev} {fv : Value} {k j : Nat} {v v3 : Value} (R : TextR w x y z g e fv k j v wr) {o : Obj} (hK : Kp (wr.alloc o) w2) {t : List UInt8} (hown : Own w3 (w.heap.size + 1) 9 1 strE v3 (textsE e k j ++ [t])) (hg : w2.grownBy w3 v.ownBlock) (ht : textsE e k (j + 1) = textsE e k j ++ [t]) :
    TextR w x y z g e fv k (j + 1) v3 w3 := by
  have K1 : Kp wr w2 := ((Kp.refl wr).alloc o).trans hK
  have O := R.own.keep K1
  exact ⟨(R.kp.trans K1).grown hg (fun q hq => by have := (World.ownsRow.lt O q hq).1; omega),
    (R.ev.keep K1).grown hg (O.far (R.ev.keep K1) (by decide)), (R.row.keep K1).grown hg (O.far (R.row.keep K1) (by decide)),
    ⟨(R.box.x.keep K1).grown hg (O.far (R.box.x.keep K1) (by decide)), (R.box.y.keep K1).grown hg (O.far (R.box.y.keep K1) (by decide)), (R.box.z.keep K1).grown hg (O.far (R.box.z.keep K1) (by decide))⟩, by rw [ht]; exact hown⟩
theorem join_any {w : World} {B : Nat} {A : Option Addr} {c : Nat} {ws : List (List UInt8)} (h : Own w B 9 1 strE (.slice A ws.length c) ws) (hp : ws ≠ []) (hl : (Lib.join ws [32]).length ≤ 1000000) (h6 : ws.length ≤ 6) :
    Calls Tryz.prog 40 #[.slice A ws.length c, .string ⟨#[32]⟩] w fun e w' => e = .returned (.string (strB (Lib.join ws [32]))) ∧ Kp w w' := by
  have hR := h.rdAt (by decide) strE_len
  have hpos : 0 < ws.length := List.length_pos_iff.2 hp
  obtain ⟨b, off, rfl, hc⟩ := hR 0 hpos
  have hlt : b < w.heap.size := World.block_lt_of_cell? w _ (hc 0 _ rfl)
  have hm : (ws.map strB).map (·.data.toList) = ws := by
    rw [List.map_map]
    have : ((fun x : ByteArray => x.data.toList) ∘ strB) = id := by funext l; exact strB_list l
    rw [this, List.map_id]
  have hcap : ws.length ≤ c := by
    rcases h.2 with ⟨h2, _⟩ | ⟨q, cap, cur, hq, _, hh, hcp, _⟩
    · cases h2
    · injection hq with _ _ hq; subst hq; first | exact hcp | omega
  have key := Tryz.strings_Join b off c (ws.map strB) ⟨#[32]⟩ w (by
    intro j s hs
    rw [List.getElem?_map] at hs
    cases hj : ws[j]? with
    | none => rw [hj] at hs; cases hs
    | some l =>
      rw [hj] at hs
      injection hs with hs
      subst hs
      obtain ⟨hj1, hj2⟩ := List.getElem?_eq_some_iff.1 hj
      obtain ⟨b', off', e', hcc⟩ := hR j hj1
      injection e' with e'
      injection e' with e1 e2
      subst e1; subst e2
      have := hcc 0 _ rfl
      rw [hj2] at this
      simpa using this) hlt (by simp; omega) (by simpa using hcap) (by rw [hm]; show (Lib.join ws [32]).length ≤ _; omega)
  rw [hm, List.length_map] at key
  refine key.mono ?_
  rintro e w' ⟨rfl, hb⟩
  exact ⟨rfl, hb⟩

set_option maxRecDepth 100000 in
set_option maxHeartbeats 2000000 in
theorem text_no (e : Ev) (A : Option Addr) (c : Nat) (w : World) (h0 : -9223372036854775808 ≤ e.kind) (h1 : e.kind ≤ 9223372036854775807) (hA : Rd w 1 byteE A e.bytes) (hl : e.bytes.length ≤ 1000000) (hp : plainP e = false) :
    Calls Tryz.prog 11 #[evV e (.slice A e.bytes.length c)] w fun en w' => en = .returned (.tuple #[.string ⟨#[]⟩, .int .i64 2]) ∧ Kp w w' := by
  have KB : Kp w (w.alloc (.cells (evC e (.slice A e.bytes.length c)) 27)) := (Kp.refl w).alloc _
  go_enter Tryz.func11, Tryz.ntmps11
  go_wp2_with (first | (go_at_call 37; refine (plain_any e A c _ h0 h1 (hA.keep KB) hl).mono ?_; rintro en w1 ⟨rfl, hK1⟩; rw [hp]))
  exact bodyPost_ret (v := .tuple #[.string ⟨#[]⟩, .int .i64 2]) (by simp [results, Tryz.results11, go_sem]) rfl ⟨rfl, KB.trans hK1⟩
set_option maxRecDepth 100000 in
set_option maxHeartbeats 4000000 in
theorem text_yes (e : Ev) (A : Option Addr) (c k : Nat) (hk : e.kind = (k : Int)) (h1 : 1 ≤ k) (h8 : k ≤ 8) (w : World) (L : LibOk w) (ok : EvOk e) (hA : Rd w 1 byteE A e.bytes) (hl : e.bytes.length ≤ 600) (hp : plainP e = true) :
    Calls Tryz.prog 11 #[evV e (.slice A e.bytes.length c)] w fun en w' => en = .returned (.tuple #[.string (strB (textE e)), .int .i64 0]) ∧ Kp w w' := by
  have hkk : kWf e.kind := by rw [hk]; exact kWf_of (by omega) (by omega)
  have hk0 : -9223372036854775808 ≤ e.kind := by omega
  have hk1 : e.kind ≤ 9223372036854775807 := by omega
  have KB : Kp w (w.alloc (.cells (evC e (.slice A e.bytes.length c)) 27)) := (Kp.refl w).alloc _
  have BE := Blk.new w 27 (evC e (.slice A e.bytes.length c))
  have Hp := Lib.hid hp
  have Hsh := Lib.hid (textE_short ok hl hk h8)
  have Hall := Lib.hid (textsE_all hk)
  have HK := Lib.hid hk
  clear hk
  go_enter Tryz.func11, Tryz.ntmps11
  go_wp2_with (first | (go_at_call 37; refine (plain_any e A c _ hk0 hk1 (hA.keep KB) (by omega)).mono ?_; rintro en w1 ⟨rfl, hK1⟩; rw [Hp.out]))
  have B1 := BE.keep hK1
  have K1 : Kp w w1 := KB.trans hK1
  clear KB BE hK1
  have q0 : w1.cell? ⟨w.heap.size, 0, none⟩ = some (.int .i64 e.kind) := B1.cell 0
  go_region_held3 (fun w' => w'.cell? ⟨w.heap.size, 0, none⟩ = some (.int .i64 e.kind)) (first | exact Kn.cell q0 | go_keep) (first | (go_at_call 38; refine (names_any _).mono ?_; rintro en wn ⟨rfl, Kn0⟩; have Kn : Kp w1 wn := (Kp.refl w1).drew.trans Kn0; have hx : ∀ w, (Instr.index 81 namesV (.int .i64 e.kind)).run Tryz.prog w = .ok (.string (strB (nameOf k))) w := (by intro w; rw [HK.out]; exact name_idx k h8 w)))
  obtain ⟨W, hW, KW, BW, OW⟩ : ∃ W, wn.alloc (.cells #[.string (strB (nameOf k))] 9) = W ∧ Kp w W ∧ Blk W w.heap.size 27 (evC e (.slice A e.bytes.length c)) ∧ Own W (w.heap.size + 1) 9 1 strE (.slice (some ⟨wn.heap.size, 0, none⟩) 1 1) [nameOf k] := ⟨_, rfl, (K1.trans Kn).alloc _, (B1.keep Kn).alloc _, Own.one (by have := (B1.keep Kn).lt; omega) (Blk.new wn _ _) rfl⟩
  rw [hW]
  clear hW q0 hx
  go_wp2_with fail
  have p0 : W.cell? ⟨w.heap.size, 0, none⟩ = some (.int .i64 e.kind) := BW.cell 0
  go_region_held3 (fun w' => w'.cell? ⟨w.heap.size, 0, none⟩ = some (.int .i64 e.kind)) (first | exact Kd.cell p0 | go_keep) (first | (go_at_call 39; refine (lines_any _).mono ?_; rintro en wa ⟨x, y, z, b, f, rfl, HL, hx, hy, hz, Ka⟩; have Kd : Kp W wa := (Kp.refl W).drew.trans Ka; obtain ⟨u, hu, g, rfl, hB⟩ := HL.row k h1 h8; have hlk : (Instr.lookup 84 (.map (some b)) (.int .i64 e.kind) false).run Tryz.prog wa = .ok (.slice (some ⟨g, 0, none⟩) (partsOf k).length (partsOf k).length) wa := (by have := HL.map.look1 hkk; rw [HK.out, hu] at this; rw [HK.out]; exact this)))
  have hn5 := parts_len h8
  have R0 : Hid (TextR w x y z g e (.slice A e.bytes.length c) k 0 (.slice (some ⟨wn.heap.size, 0, none⟩) 1 1) wa) := Lib.hid ⟨KW.trans Kd, BW.keep Kd, hB, HL.box, by rw [textsE_zero]; exact OW.keep Kd⟩
  clear hlk hu HL p0
  go_wp2_with fail
  go_loopw [4, 20] (fun v i wr => ∃ j : Nat, j ≤ (partsOf k).length ∧ i = .int .i64 j ∧ Hid (TextR w x y z g e (.slice A e.bytes.length c) k j v wr)) (fun _ i _ => (partsOf k).length - (intOf i).toNat)
  case atStart => exact ⟨0, by omega, rfl, R0⟩
  case round =>
    obtain ⟨j, hj, rfl, R⟩ := hrel
    have BR := R.out.ev
    have hsz := R.out.kp.size
    have r0 : wr.cell? ⟨w.heap.size, 0, none⟩ = some (.int .i64 e.kind) := BR.cell 0
    have r1 : wr.cell? ⟨w.heap.size, 1, none⟩ = some (.int .i64 e.a) := BR.cell 1
    have r2 : wr.cell? ⟨w.heap.size, 2, none⟩ = some (.int .i64 e.b) := BR.cell 2
    have r3 : wr.cell? ⟨w.heap.size, 3, none⟩ = some (.int .i64 e.c) := BR.cell 3
    have r4 : wr.cell? ⟨w.heap.size, 4, none⟩ = some (.int .i64 e.draw) := BR.cell 4
    have r5 : wr.cell? ⟨w.heap.size, 5, none⟩ = some (.int .u32 (e.src : Int)) := BR.cell 5
    have r6 : wr.cell? ⟨w.heap.size, 6, none⟩ = some (.slice A e.bytes.length c) := BR.cell 6
    have hlt0 : w.heap.size < wr.heap.size := BR.lt
    have hne0 : ¬ w.heap.size = wr.heap.size := by omega
    by_cases hlt : j < (partsOf k).length
    · obtain ⟨p, hp'⟩ : ∃ p, (partsOf k)[j] = p := ⟨_, rfl⟩
      have Hnx := Lib.hid (textsE_next (e := e) hlt hp')
      have hcell := part_at (row_rd R.out.row h8) hlt hp'
      have hl6 := textsE_len (e := e) (j := j) h8
      clear hp'
      cases p with
      | a =>
        have d0 : wr.cell? ⟨g, j * 3, none⟩ = some (.func (.func 124) #[] #[.pointer (some ⟨x, 0, none⟩)]) := hcell 0 _ rfl
        have d1 : wr.cell? ⟨g, j * 3 + 1, none⟩ = some (.func (.func 125) #[] #[.pointer (some ⟨x, 0, none⟩)]) := hcell 1 _ rfl
        have d2 : wr.cell? ⟨g, j * 3 + 2, none⟩ = some (.func (.func 127) #[] #[.pointer (some ⟨x, 0, none⟩)]) := hcell 2 _ rfl
        clear hcell
        have K2 : Kp w (wr.alloc (.cells #[.func (.func 124) #[] #[.pointer (some ⟨x, 0, none⟩)], .func (.func 125) #[] #[.pointer (some ⟨x, 0, none⟩)], .func (.func 127) #[] #[.pointer (some ⟨x, 0, none⟩)]] 89)) := R.out.kp.alloc _
        have L2 := L.keep K2
        have hB2 := R.out.box.keep ((Kp.refl wr).alloc (.cells #[.func (.func 124) #[] #[.pointer (some ⟨x, 0, none⟩)], .func (.func 125) #[] #[.pointer (some ⟨x, 0, none⟩)], .func (.func 127) #[] #[.pointer (some ⟨x, 0, none⟩)]] 89))
        go_wp2_with fail
        refine (tell_a x e _ ok _ L2 (hB2.x.cell 0)).mono ?_
        rintro en w2 ⟨rfl, hK2⟩
        have hO2 := (R.out.own.alloc _).keep hK2
        have hs2 := hK2.size
        have hs3 : wr.heap.size ≤ w2.heap.size := Nat.le_trans (Kp.size ((Kp.refl wr).alloc _)) hs2
        go_wp2_with (at_builtin; go_must (refine wpList_appx EStr (w0 := bare w2) rfl _ _ rfl (tellE .a e) rfl hO2 (bare_kp _) (Nat.zero_le _) (by omega) rfl rfl rfl rfl rfl (by omega) ?_); intro v3 w3 hown3 hK3 hg3; obtain ⟨A3, c3, rfl⟩ := hown3.form1)
        have Hn := Lib.hid (R.out.next hK2 hown3 hg3 Hnx.out)
        clear hown3 hK3 hg3 hO2
        go_wp2_with fail
        go_roundw
        case rel => exact ⟨j + 1, by omega, by go_num, Hn⟩
        case measure => simp [intOf]; omega
      | b =>
        have d0 : wr.cell? ⟨g, j * 3, none⟩ = some (.func (.func 124) #[] #[.pointer (some ⟨y, 0, none⟩)]) := hcell 0 _ rfl
        have d1 : wr.cell? ⟨g, j * 3 + 1, none⟩ = some (.func (.func 125) #[] #[.pointer (some ⟨y, 0, none⟩)]) := hcell 1 _ rfl
        have d2 : wr.cell? ⟨g, j * 3 + 2, none⟩ = some (.func (.func 127) #[] #[.pointer (some ⟨y, 0, none⟩)]) := hcell 2 _ rfl
        clear hcell
        have K2 : Kp w (wr.alloc (.cells #[.func (.func 124) #[] #[.pointer (some ⟨y, 0, none⟩)], .func (.func 125) #[] #[.pointer (some ⟨y, 0, none⟩)], .func (.func 127) #[] #[.pointer (some ⟨y, 0, none⟩)]] 89)) := R.out.kp.alloc _
        have L2 := L.keep K2
        have hB2 := R.out.box.keep ((Kp.refl wr).alloc (.cells #[.func (.func 124) #[] #[.pointer (some ⟨y, 0, none⟩)], .func (.func 125) #[] #[.pointer (some ⟨y, 0, none⟩)], .func (.func 127) #[] #[.pointer (some ⟨y, 0, none⟩)]] 89))
        go_wp2_with fail
        refine (tell_b y e _ ok _ L2 (hB2.y.cell 0)).mono ?_
        rintro en w2 ⟨rfl, hK2⟩
        have hO2 := (R.out.own.alloc _).keep hK2
        have hs2 := hK2.size
        have hs3 : wr.heap.size ≤ w2.heap.size := Nat.le_trans (Kp.size ((Kp.refl wr).alloc _)) hs2
        go_wp2_with (at_builtin; go_must (refine wpList_appx EStr (w0 := bare w2) rfl _ _ rfl (tellE .b e) rfl hO2 (bare_kp _) (Nat.zero_le _) (by omega) rfl rfl rfl rfl rfl (by omega) ?_); intro v3 w3 hown3 hK3 hg3; obtain ⟨A3, c3, rfl⟩ := hown3.form1)
        have Hn := Lib.hid (R.out.next hK2 hown3 hg3 Hnx.out)
        clear hown3 hK3 hg3 hO2
        go_wp2_with fail
        go_roundw
        case rel => exact ⟨j + 1, by omega, by go_num, Hn⟩
        case measure => simp [intOf]; omega
      | c =>
        have d0 : wr.cell? ⟨g, j * 3, none⟩ = some (.func (.func 133) #[] #[]) := hcell 0 _ rfl
        have d1 : wr.cell? ⟨g, j * 3 + 1, none⟩ = some (.func (.func 134) #[] #[]) := hcell 1 _ rfl
        have d2 : wr.cell? ⟨g, j * 3 + 2, none⟩ = some (.func (.func 135) #[] #[]) := hcell 2 _ rfl
        clear hcell
        have K2 : Kp w (wr.alloc (.cells #[.func (.func 133) #[] #[], .func (.func 134) #[] #[], .func (.func 135) #[] #[]] 89)) := R.out.kp.alloc _
        have L2 := L.keep K2
        have hB2 := R.out.box.keep ((Kp.refl wr).alloc (.cells #[.func (.func 133) #[] #[], .func (.func 134) #[] #[], .func (.func 135) #[] #[]] 89))
        go_wp2_with fail
        refine (tell_turn e _ _).mono ?_
        rintro en w2 ⟨rfl, hK2⟩
        have hO2 := (R.out.own.alloc _).keep hK2
        have hs2 := hK2.size
        have hs3 : wr.heap.size ≤ w2.heap.size := Nat.le_trans (Kp.size ((Kp.refl wr).alloc _)) hs2
        go_wp2_with (at_builtin; go_must (refine wpList_appx EStr (w0 := bare w2) rfl _ _ rfl (tellE .c e) rfl hO2 (bare_kp _) (Nat.zero_le _) (by omega) rfl rfl rfl rfl rfl (by omega) ?_); intro v3 w3 hown3 hK3 hg3; obtain ⟨A3, c3, rfl⟩ := hown3.form1)
        have Hn := Lib.hid (R.out.next hK2 hown3 hg3 Hnx.out)
        clear hown3 hK3 hg3 hO2
        go_wp2_with fail
        go_roundw
        case rel => exact ⟨j + 1, by omega, by go_num, Hn⟩
        case measure => simp [intOf]; omega
      | d =>
        have d0 : wr.cell? ⟨g, j * 3, none⟩ = some (.func (.func 130) #[] #[.pointer (some ⟨z, 0, none⟩)]) := hcell 0 _ rfl
        have d1 : wr.cell? ⟨g, j * 3 + 1, none⟩ = some (.func (.func 131) #[] #[.pointer (some ⟨z, 0, none⟩)]) := hcell 1 _ rfl
        have d2 : wr.cell? ⟨g, j * 3 + 2, none⟩ = some (.func (.func 132) #[] #[.pointer (some ⟨z, 0, none⟩)]) := hcell 2 _ rfl
        clear hcell
        have K2 : Kp w (wr.alloc (.cells #[.func (.func 130) #[] #[.pointer (some ⟨z, 0, none⟩)], .func (.func 131) #[] #[.pointer (some ⟨z, 0, none⟩)], .func (.func 132) #[] #[.pointer (some ⟨z, 0, none⟩)]] 89)) := R.out.kp.alloc _
        have L2 := L.keep K2
        have hB2 := R.out.box.keep ((Kp.refl wr).alloc (.cells #[.func (.func 130) #[] #[.pointer (some ⟨z, 0, none⟩)], .func (.func 131) #[] #[.pointer (some ⟨z, 0, none⟩)], .func (.func 132) #[] #[.pointer (some ⟨z, 0, none⟩)]] 89))
        go_wp2_with fail
        refine (tell_d z e _ ok _ L2 (hB2.z.cell 0)).mono ?_
        rintro en w2 ⟨rfl, hK2⟩
        have hO2 := (R.out.own.alloc _).keep hK2
        have hs2 := hK2.size
        have hs3 : wr.heap.size ≤ w2.heap.size := Nat.le_trans (Kp.size ((Kp.refl wr).alloc _)) hs2
        go_wp2_with (at_builtin; go_must (refine wpList_appx EStr (w0 := bare w2) rfl _ _ rfl (tellE .d e) rfl hO2 (bare_kp _) (Nat.zero_le _) (by omega) rfl rfl rfl rfl rfl (by omega) ?_); intro v3 w3 hown3 hK3 hg3; obtain ⟨A3, c3, rfl⟩ := hown3.form1)
        have Hn := Lib.hid (R.out.next hK2 hown3 hg3 Hnx.out)
        clear hown3 hK3 hg3 hO2
        go_wp2_with fail
        go_roundw
        case rel => exact ⟨j + 1, by omega, by go_num, Hn⟩
        case measure => simp [intOf]; omega
      | s =>
        have d0 : wr.cell? ⟨g, j * 3, none⟩ = some (.func (.func 136) #[] #[]) := hcell 0 _ rfl
        have d1 : wr.cell? ⟨g, j * 3 + 1, none⟩ = some (.func (.func 137) #[] #[]) := hcell 1 _ rfl
        have d2 : wr.cell? ⟨g, j * 3 + 2, none⟩ = some (.func (.func 138) #[] #[]) := hcell 2 _ rfl
        clear hcell
        have K2 : Kp w (wr.alloc (.cells #[.func (.func 136) #[] #[], .func (.func 137) #[] #[], .func (.func 138) #[] #[]] 89)) := R.out.kp.alloc _
        have L2 := L.keep K2
        have hB2 := R.out.box.keep ((Kp.refl wr).alloc (.cells #[.func (.func 136) #[] #[], .func (.func 137) #[] #[], .func (.func 138) #[] #[]] 89))
        go_wp2_with fail
        refine (tell_src e _ ok _ L2).mono ?_
        rintro en w2 ⟨rfl, hK2⟩
        have hO2 := (R.out.own.alloc _).keep hK2
        have hs2 := hK2.size
        have hs3 : wr.heap.size ≤ w2.heap.size := Nat.le_trans (Kp.size ((Kp.refl wr).alloc _)) hs2
        go_wp2_with (at_builtin; go_must (refine wpList_appx EStr (w0 := bare w2) rfl _ _ rfl (tellE .s e) rfl hO2 (bare_kp _) (Nat.zero_le _) (by omega) rfl rfl rfl rfl rfl (by omega) ?_); intro v3 w3 hown3 hK3 hg3; obtain ⟨A3, c3, rfl⟩ := hown3.form1)
        have Hn := Lib.hid (R.out.next hK2 hown3 hg3 Hnx.out)
        clear hown3 hK3 hg3 hO2
        go_wp2_with fail
        go_roundw
        case rel => exact ⟨j + 1, by omega, by go_num, Hn⟩
        case measure => simp [intOf]; omega
      | x =>
        have d0 : wr.cell? ⟨g, j * 3, none⟩ = some (.func (.func 139) #[] #[]) := hcell 0 _ rfl
        have d1 : wr.cell? ⟨g, j * 3 + 1, none⟩ = some (.func (.func 140) #[] #[]) := hcell 1 _ rfl
        have d2 : wr.cell? ⟨g, j * 3 + 2, none⟩ = some (.func (.func 141) #[] #[]) := hcell 2 _ rfl
        clear hcell
        have K2 : Kp w (wr.alloc (.cells #[.func (.func 139) #[] #[], .func (.func 140) #[] #[], .func (.func 141) #[] #[]] 89)) := R.out.kp.alloc _
        have L2 := L.keep K2
        have hB2 := R.out.box.keep ((Kp.refl wr).alloc (.cells #[.func (.func 139) #[] #[], .func (.func 140) #[] #[], .func (.func 141) #[] #[]] 89))
        go_wp2_with fail
        refine (tell_data e A c _ (hA.keep K2) (by omega)).mono ?_
        rintro en w2 ⟨rfl, hK2⟩
        have hO2 := (R.out.own.alloc _).keep hK2
        have hs2 := hK2.size
        have hs3 : wr.heap.size ≤ w2.heap.size := Nat.le_trans (Kp.size ((Kp.refl wr).alloc _)) hs2
        go_wp2_with (at_builtin; go_must (refine wpList_appx EStr (w0 := bare w2) rfl _ _ rfl (tellE .x e) rfl hO2 (bare_kp _) (Nat.zero_le _) (by omega) rfl rfl rfl rfl rfl (by omega) ?_); intro v3 w3 hown3 hK3 hg3; obtain ⟨A3, c3, rfl⟩ := hown3.form1)
        have Hn := Lib.hid (R.out.next hK2 hown3 hg3 Hnx.out)
        clear hown3 hK3 hg3 hO2
        go_wp2_with fail
        go_roundw
        case rel => exact ⟨j + 1, by omega, by go_num, Hn⟩
        case measure => simp [intOf]; omega
    · obtain rfl : j = (partsOf k).length := by omega
      have hO := R.out.own
      obtain ⟨A3, c3, rfl⟩ := hO.form
      have hl6 := textsE_len (e := e) (j := (partsOf k).length) h8
      have hjl : (Lib.join (textsE e k (partsOf k).length) [32]).length ≤ 1000000 := by rw [Hall.out]; have := Hsh.out; omega
      have Hne := Lib.hid (show textsE e k (partsOf k).length ≠ [] by unfold textsE; simp)
      have HKp := Lib.hid R.out.kp
      clear BR r0 r1 r2 r3 r4 r5 r6
      go_wp2_with (first | (go_at_call 40; refine (join_any hO Hne.out hjl hl6).mono ?_; rintro en w2 ⟨rfl, hK2⟩; rw [Hall.out]))
      exact bodyPost_ret (v := .tuple #[.string (strB (textE e)), .int .i64 0]) (by simp [results, Tryz.results11, go_sem]) rfl ⟨rfl, HKp.out.trans hK2⟩
theorem text_any (e : Ev) (A : Option Addr) (c : Nat) (w : World) (L : LibOk w) (ok : EvOk e) (h0 : -9223372036854775808 ≤ e.kind) (h1 : e.kind ≤ 9223372036854775807) (hA : Rd w 1 byteE A e.bytes) (hl : e.bytes.length ≤ 1000000) :
    Calls Tryz.prog 11 #[evV e (.slice A e.bytes.length c)] w fun en w' => en = .returned (if plainP e = true then .tuple #[.string (strB (textE e)), .int .i64 0] else .tuple #[.string ⟨#[]⟩, .int .i64 2]) ∧ Kp w w' := by
  cases hp : plainP e with
  | false => simpa using text_no e A c w h0 h1 hA hl hp
  | true =>
    obtain ⟨a, b, d⟩ := plainP_parts hp
    simpa using text_yes e A c e.kind.toNat (by omega) (by omega) (by omega) w L ok hA d hp
end Go.Proofs.YtbfimimhgdkpaaaGreatDoor

/- Package script: what Parse does at a fault; words within their line. No condition. -/
namespace Go.Proofs.YtbfimimhgdkpaaaGreatDoor
open Go.RowKit

/-- An event is stored, cell by cell. -/
def evSet (w : World) (g : Nat) (t : Ev) (bv : Value) : World := ((((((w.setCell ⟨g, 0, none⟩ (.int .i64 t.kind)).setCell ⟨g, 1, none⟩ (.int .i64 t.a)).setCell ⟨g, 2, none⟩ (.int .i64 t.b)).setCell ⟨g, 3, none⟩ (.int .i64 t.c)).setCell ⟨g, 4, none⟩ (.int .i64 t.draw)).setCell ⟨g, 5, none⟩ (.int .u32 (t.src : Int))).setCell ⟨g, 6, none⟩ bv
theorem Blk.putEv {w : World} {g : Nat} {T : TypeId} {t0 : Ev} {b0 : Value} (h : Blk w g T (evC t0 b0)) (t : Ev) (bv : Value) : Blk (evSet w g t bv) g T (evC t bv) := by
  have H := ((((((h.set_ 0 (.int .i64 t.kind)).set_ 1 (.int .i64 t.a)).set_ 2 (.int .i64 t.b)).set_ 3 (.int .i64 t.c)).set_ 4 (.int .i64 t.draw)).set_ 5 (.int .u32 (t.src : Int))).set_ 6 bv
  simp only [evC, List.setIfInBounds_toArray, List.set_cons_zero, List.set_cons_succ] at H
  exact H
theorem Blk.putEv_far {w : World} {g p : Nat} {T : TypeId} {cs : Array Value} (h : Blk w g T cs) (hg : g ≠ p) (t : Ev) (bv : Value) : Blk (evSet w p t bv) g T cs :=
  ((((((h.far (p := ⟨p, 0, none⟩) hg (.int .i64 t.kind)).far (p := ⟨p, 1, none⟩) hg (.int .i64 t.a)).far (p := ⟨p, 2, none⟩) hg (.int .i64 t.b)).far (p := ⟨p, 3, none⟩) hg (.int .i64 t.c)).far (p := ⟨p, 4, none⟩) hg (.int .i64 t.draw)).far (p := ⟨p, 5, none⟩) hg (.int .u32 (t.src : Int))).far (p := ⟨p, 6, none⟩) hg bv
theorem Only.putEv {bs : List Nat} {a w : World} (h : Only bs a w) {g : Nat} (hg : g ∈ bs ∨ a.heap.size ≤ g) (t : Ev) (bv : Value) : Only bs a (evSet w g t bv) :=
  ((((((h.setCell (p := ⟨g, 0, none⟩) hg (.int .i64 t.kind)).setCell (p := ⟨g, 1, none⟩) hg (.int .i64 t.a)).setCell (p := ⟨g, 2, none⟩) hg (.int .i64 t.b)).setCell (p := ⟨g, 3, none⟩) hg (.int .i64 t.c)).setCell (p := ⟨g, 4, none⟩) hg (.int .i64 t.draw)).setCell (p := ⟨g, 5, none⟩) hg (.int .u32 (t.src : Int))).setCell (p := ⟨g, 6, none⟩) hg bv

theorem sta_yes (e : Int) (w : World) : (Instr.typeAssert (faultV e) 20 93 true).run Tryz.prog w = .ok (.tuple #[.agg #[.int .i64 e], .bool true]) w := by kernel_rfl
theorem sta_nil (w : World) : (Instr.typeAssert .nilIface 20 93 true).run Tryz.prog w = .ok (.tuple #[.agg #[.int .i64 0], .bool false]) w := by kernel_rfl
def upF (e : Int) : FrameMode := .panicking [{ v := faultV e, recovered := false }]
def caughtF (e : Int) : FrameMode := .panicking [{ v := faultV e, recovered := true }]
theorem recM_upF (e : Int) : recM (upF e) = (faultV e, caughtF e) := rfl
set_option maxRecDepth 100000 in
set_option maxHeartbeats 1000000 in
theorem catch_parse (p0 p1 : Nat) (y : Value) (t0 : Ev) (b0 : Value) (e : Int) (w : World) (h0 : Blk w p0 27 (evC t0 b0)) (h1 : Blk w p1 29 #[y]) (n01 : ¬ p0 = p1) :
    CallsD Tryz.prog 42 #[.pointer (some ⟨p0, 0, none⟩), .pointer (some ⟨p1, 0, none⟩)] (upF e) w fun en u' w' =>
      en = .returned (.tuple #[]) ∧ u' = caughtF e ∧ Blk w' p0 27 (evC (ev0 0) (.slice none 0 0)) ∧ Blk w' p1 29 #[.int .i64 e] ∧ Only [p0, p1] w w' := by
  have c0 : w.cell? ⟨p0, 0, none⟩ = some (.int .i64 t0.kind) := h0.cell 0
  have c1 : w.cell? ⟨p0, 1, none⟩ = some (.int .i64 t0.a) := h0.cell 1
  have c2 : w.cell? ⟨p0, 2, none⟩ = some (.int .i64 t0.b) := h0.cell 2
  have c3 : w.cell? ⟨p0, 3, none⟩ = some (.int .i64 t0.c) := h0.cell 3
  have c4 : w.cell? ⟨p0, 4, none⟩ = some (.int .i64 t0.draw) := h0.cell 4
  have c5 : w.cell? ⟨p0, 5, none⟩ = some (.int .u32 (t0.src : Int)) := h0.cell 5
  have c6 : w.cell? ⟨p0, 6, none⟩ = some b0 := h0.cell 6
  have d0 : w.cell? ⟨p1, 0, none⟩ = some y := h1.cell 0
  have z0 := h0.frozen 0
  have z1 := h0.frozen 1
  have z2 := h0.frozen 2
  have z3 := h0.frozen 3
  have z4 := h0.frozen 4
  have z5 := h0.frozen 5
  have z6 := h0.frozen 6
  have z7 := h1.frozen 0
  have n10 : ¬ p1 = p0 := fun h => n01 h.symm
  have hlt0 := h0.lt
  have hlt1 := h1.lt
  have m0 : ¬ p0 = w.heap.size := by omega
  have m1 : ¬ p1 = w.heap.size := by omega
  have hty := sta_yes
  refine callsD_rec _ _ (recM_upF e) Tryz.func42 rfl rfl rfl ?_
  simp only [Tryz.ntmps42, Act.put, List.size_toArray, List.length_cons, List.length_nil, Nat.reduceAdd, Nat.reduceSub, Array.replicate_succ, Array.replicate_zero, List.push_toArray, List.append_toArray, List.nil_append, List.cons_append]
  go_wp2_with fail
  go_region
  all_goals (try go_wp2_with fail)
  all_goals go_end0
  all_goals refine ⟨rfl, trivial, ?_⟩
  · have hW := ((h0.putEv (ev0 0) (.slice none 0 0)).far (p := ⟨p1, 0, none⟩) n01 (.int .i64 e))
    have hV := ((h1.putEv_far n10 (ev0 0) (.slice none 0 0)).set_ 0 (.int .i64 e))
    have hO := ((Only.refl [p0, p1] w).putEv (.inl (by simp)) (ev0 0) (.slice none 0 0) (g := p0)).setCell (p := ⟨p1, 0, none⟩) (.inl (by simp)) (.int .i64 e)
    exact ⟨(hW.alloc _).drew, (hV.alloc _).drew, (hO.alloc _).drew⟩
set_option maxRecDepth 100000 in
set_option maxHeartbeats 400000 in
theorem idle_parse (p0 p1 : Value) (w : World) :
    CallsD Tryz.prog 42 #[p0, p1] .returning w fun en u' w' => en = .returned (.tuple #[]) ∧ u' = .returning ∧ Kp w w' := by
  have hty := sta_nil
  refine callsD_rec _ _ recM_ret Tryz.func42 rfl rfl rfl ?_
  simp only [Tryz.ntmps42, Act.put, List.size_toArray, List.length_cons, List.length_nil, Nat.reduceAdd, Nat.reduceSub, Array.replicate_succ, Array.replicate_zero, List.push_toArray, List.append_toArray, List.nil_append, List.cons_append]
  go_wp2_with fail
  go_end0
  exact ⟨rfl, trivial, (Kp.refl w).alloc _⟩
theorem parted_le (b : UInt8) : ∀ (l : List UInt8), ∀ w ∈ parted b l, w.length ≤ l.length
  | [], w, h => by simp [parted] at h; subst h; simp
  | c :: l, w, h => by
    have ih := parted_le b l
    unfold parted at h
    split at h
    · rw [List.mem_cons] at h
      rcases h with rfl | h
      · simp
      · have := ih w h; simp; omega
    · cases hp : parted b l with
      | nil => exact absurd hp (parted_ne _ _)
      | cons x r =>
        rw [hp] at h ih
        simp only [List.headD_cons, List.tail_cons, List.mem_cons] at h
        rcases h with rfl | h
        · have := ih x (by simp); simp; omega
        · have := ih w (by simp [h]); simp; omega
end Go.Proofs.YtbfimimhgdkpaaaGreatDoor

/- Package view: need, numbers, the reader's next word. No condition but the stated bounds. -/
namespace Go.Proofs.YtbfimimhgdkpaaaGreatDoor
open Go.RowKit

abbrev faultVw (e : Int) : Value := .iface 115 (.agg #[.int .i64 e])
abbrev gaveV (e : Int) : Ending := .panicked [{ v := faultVw e, recovered := false }]
theorem vneed_ok (n : Int) (w : World) : Calls Tryz.prog 65 #[.bool true, .int .i64 n] w fun e w' => e = .returned (.tuple #[]) ∧ w' = w := by
  go_enter Tryz.func65, Tryz.ntmps65
  go_wp2
  go_end0
  exact ⟨rfl, rfl⟩
theorem vneed_no (n : Int) (w : World) : Calls Tryz.prog 65 #[.bool false, .int .i64 n] w fun e w' => e = gaveV n ∧ w' = w := by
  go_enter Tryz.func65, Tryz.ntmps65
  go_wp2
  exact ⟨rfl, rfl, rfl⟩
/-- What a number's reader tells. -/
def NumVw (s : ByteArray) (w : World) (e : Ending) (w' : World) : Prop := (∀ n, numP s.data.toList = some n → e = .returned (.int .i64 n)) ∧ (numP s.data.toList = none → e = gaveV 250) ∧ Kp w w'
theorem numP_yes {s : List UInt8} {n : Int} (hp : Lib.parseIntB 64 s = .ok n) (he : Lib.itoa n = s) : numP s = some n := by unfold numP; rw [hp]; simp [he]
theorem numP_no {s : List UInt8} {n : Int} (hp : Lib.parseIntB 64 s = .ok n) (he : ¬ Lib.itoa n = s) : numP s = none := by unfold numP; rw [hp]; simp [he]
theorem numP_bad {s : List UInt8} (hp : ∀ n, Lib.parseIntB 64 s ≠ .ok n) : numP s = none := by
  unfold numP
  cases h : Lib.parseIntB 64 s with
  | ok n => exact absurd h (hp n)
  | range => rfl
  | _ => rfl
set_option maxRecDepth 100000 in
set_option maxHeartbeats 1000000 in
theorem vnum_int (s : ByteArray) (hs : s.size ≤ 281474976710656) (w : World) (L : LibOk w) : Calls Tryz.prog 108 #[.string s] w (NumVw s w) := by
  by_cases hp : ∃ n, Lib.parseIntB 64 s.data.toList = .ok n
  · obtain ⟨n, hp⟩ := hp
    obtain ⟨b0, b1⟩ := Lib.parseIntB_bounds hp
    have n0 : -9223372036854775808 ≤ n := by simpa using b0
    have n1 : n ≤ 9223372036854775807 := by have h2 := b1; rw [show ((2 ^ (64 - 1) : Nat) : Int) = 9223372036854775808 from rfl] at h2; omega
    clear b0 b1
    have hnn : (n == n) = true := by simp
    by_cases he : Lib.itoa n = s.data.toList
    · have Hv := Lib.hid (numP_yes hp he)
      have hes : strB (Lib.itoa n) = s := (congrArg strB he).trans (strB_of s)
      clear he
      go_enter Tryz.func108, Tryz.ntmps108
      go_wp2_with fail
      refine (parse_ok s hs n hp _).mono ?_
      rintro e w1 ⟨rfl, hK1⟩
      have L1 := L.keep hK1
      go_wp2_with (first | (go_at_call 65; refine (vneed_ok _ _).mono ?_; rintro e w' ⟨rfl, rfl⟩))
      refine (format_any n n0 n1 _ L1).mono ?_
      rintro e w2 ⟨rfl, hK2⟩
      rw [hes]
      go_wp2_with (first | (go_at_call 65; refine (vneed_ok _ _).mono ?_; rintro e w' ⟨rfl, rfl⟩))
      go_ret
      exact ⟨fun m hm => (by rw [Hv.out, Option.some.injEq] at hm; subst hm; rfl), fun hm => (by rw [Hv.out] at hm; cases hm), hK1.trans hK2⟩
    · have Hv := Lib.hid (numP_no hp he)
      have hes : (Lib.itoa n == s.toList) = false := by rw [Lib.toList_data]; simpa using he
      go_enter Tryz.func108, Tryz.ntmps108
      go_wp2_with fail
      refine (parse_ok s hs n hp _).mono ?_
      rintro e w1 ⟨rfl, hK1⟩
      have L1 := L.keep hK1
      go_wp2_with (first | (go_at_call 65; refine (vneed_ok _ _).mono ?_; rintro e w' ⟨rfl, rfl⟩))
      refine (format_any n n0 n1 _ L1).mono ?_
      rintro e w2 ⟨rfl, hK2⟩
      go_wp2_with (first | (go_at_call 65; refine (vneed_no _ _).mono ?_; rintro e w' ⟨rfl, rfl⟩))
      exact ⟨rfl, fun m hm => (by rw [Hv.out] at hm; cases hm), fun _ => rfl, hK1.trans hK2⟩
  · have hp' : ∀ n, Lib.parseIntB 64 s.data.toList ≠ .ok n := fun n h => hp ⟨n, h⟩
    have Hv := Lib.hid (numP_bad hp')
    clear hp
    go_enter Tryz.func108, Tryz.ntmps108
    go_wp2_with fail
    refine (parse_no s hs hp' _ L).mono ?_
    rintro e w1 ⟨⟨n, tp, p, rfl⟩, hK1⟩
    go_wp2_with (first | (go_at_call 65; refine (vneed_no _ _).mono ?_; rintro e w' ⟨rfl, rfl⟩))
    exact ⟨rfl, fun m hm => (by rw [Hv.out] at hm; cases hm), fun _ => rfl, hK1⟩
set_option maxRecDepth 100000 in
set_option maxHeartbeats 1000000 in
theorem vnum_int64 (s : ByteArray) (hs : s.size ≤ 281474976710656) (w : World) (L : LibOk w) : Calls Tryz.prog 111 #[.string s] w (NumVw s w) := by
  by_cases hp : ∃ n, Lib.parseIntB 64 s.data.toList = .ok n
  · obtain ⟨n, hp⟩ := hp
    obtain ⟨b0, b1⟩ := Lib.parseIntB_bounds hp
    have n0 : -9223372036854775808 ≤ n := by simpa using b0
    have n1 : n ≤ 9223372036854775807 := by have h2 := b1; rw [show ((2 ^ (64 - 1) : Nat) : Int) = 9223372036854775808 from rfl] at h2; omega
    clear b0 b1
    have hnn : (n == n) = true := by simp
    by_cases he : Lib.itoa n = s.data.toList
    · have Hv := Lib.hid (numP_yes hp he)
      have hes : strB (Lib.itoa n) = s := (congrArg strB he).trans (strB_of s)
      clear he
      go_enter Tryz.func111, Tryz.ntmps111
      go_wp2_with fail
      refine (parse_ok s hs n hp _).mono ?_
      rintro e w1 ⟨rfl, hK1⟩
      have L1 := L.keep hK1
      go_wp2_with (first | (go_at_call 65; refine (vneed_ok _ _).mono ?_; rintro e w' ⟨rfl, rfl⟩))
      refine (format_any n n0 n1 _ L1).mono ?_
      rintro e w2 ⟨rfl, hK2⟩
      rw [hes]
      go_wp2_with (first | (go_at_call 65; refine (vneed_ok _ _).mono ?_; rintro e w' ⟨rfl, rfl⟩))
      go_ret
      exact ⟨fun m hm => (by rw [Hv.out, Option.some.injEq] at hm; subst hm; rfl), fun hm => (by rw [Hv.out] at hm; cases hm), hK1.trans hK2⟩
    · have Hv := Lib.hid (numP_no hp he)
      have hes : (Lib.itoa n == s.toList) = false := by rw [Lib.toList_data]; simpa using he
      go_enter Tryz.func111, Tryz.ntmps111
      go_wp2_with fail
      refine (parse_ok s hs n hp _).mono ?_
      rintro e w1 ⟨rfl, hK1⟩
      have L1 := L.keep hK1
      go_wp2_with (first | (go_at_call 65; refine (vneed_ok _ _).mono ?_; rintro e w' ⟨rfl, rfl⟩))
      refine (format_any n n0 n1 _ L1).mono ?_
      rintro e w2 ⟨rfl, hK2⟩
      go_wp2_with (first | (go_at_call 65; refine (vneed_no _ _).mono ?_; rintro e w' ⟨rfl, rfl⟩))
      exact ⟨rfl, fun m hm => (by rw [Hv.out] at hm; cases hm), fun _ => rfl, hK1.trans hK2⟩
  · have hp' : ∀ n, Lib.parseIntB 64 s.data.toList ≠ .ok n := fun n h => hp ⟨n, h⟩
    have Hv := Lib.hid (numP_bad hp')
    clear hp
    go_enter Tryz.func111, Tryz.ntmps111
    go_wp2_with fail
    refine (parse_no s hs hp' _ L).mono ?_
    rintro e w1 ⟨⟨n, tp, p, rfl⟩, hK1⟩
    go_wp2_with (first | (go_at_call 65; refine (vneed_no _ _).mono ?_; rintro e w' ⟨rfl, rfl⟩))
    exact ⟨rfl, fun m hm => (by rw [Hv.out] at hm; cases hm), fun _ => rfl, hK1⟩
/-- The reader's cells. -/
def rdC (r : Rt) (wv : Value) (k : Int) : Array Value := #[.int .u32 r.p.a, .int .i64 r.p.l, .int .i64 r.s, .int .i64 r.m, .int .i64 r.l, .int .i64 r.f, .int .u32 r.x, .int .i64 r.d, .bool r.c, wv, .int .i64 k]
/-- A reader in memory: the route as far as it was read, the words, how many were read. -/
structure RdV (w : World) (g : Nat) (A : Option Addr) (c : Nat) (ws : List (List UInt8)) (r : Rt) (k : Nat) : Prop where
  bk : Blk w g 119 (rdC r (.slice A ws.length c) k)
  rd : Rd w 1 strE A ws
  ne : ∀ b o, A = some ⟨b, o, none⟩ → b ≠ g
  le : k ≤ ws.length
  sh : ws.length ≤ 11
theorem RdV.only {w w' : World} {g : Nat} {A : Option Addr} {c : Nat} {ws : List (List UInt8)} {r r' : Rt} {k k' : Nat} (h : RdV w g A c ws r k) (hO : Only [g] w w') (hb : Blk w' g 119 (rdC r' (.slice A ws.length c) k')) (hk : k' ≤ ws.length) : RdV w' g A c ws r' k' :=
  ⟨hb, h.rd.only hO h.ne, h.ne, hk, h.sh⟩
theorem RdV.keep {w w' : World} {g : Nat} {A : Option Addr} {c : Nat} {ws : List (List UInt8)} {r : Rt} {k : Nat} (h : RdV w g A c ws r k) (K : Kp w w') : RdV w' g A c ws r k := ⟨h.bk.keep K, h.rd.keep K, h.ne, h.le, h.sh⟩
set_option maxRecDepth 100000 in
set_option maxHeartbeats 1000000 in
theorem next_yes {g : Nat} {A : Option Addr} {c : Nat} {ws : List (List UInt8)} {r : Rt} {k : Nat} {u : List UInt8} {rest : List (List UInt8)} (w : World) (h : RdV w g A c ws r k) (hd : ws.drop k = u :: rest) :
    Calls Tryz.prog 64 #[.pointer (some ⟨g, 0, none⟩)] w fun e w' => e = .returned (.string (strB u)) ∧ RdV w' g A c ws r (k + 1) ∧ Only [g] w w' := by
  have hk : k < ws.length := by
    rcases Nat.lt_or_ge k ws.length with h1 | h1
    · exact h1
    · rw [List.drop_eq_nil_of_le h1] at hd; cases hd
  have hu : ws[k] = u := by
    rw [List.drop_eq_getElem_cons hk] at hd
    injection hd
  obtain ⟨b, o, hA, hc⟩ := h.rd k hk
  have c0 : w.cell? ⟨b, o + k, none⟩ = some (.string (strB u)) := by
    have := hc 0 _ rfl
    rw [hu] at this
    simpa using this
  subst hA
  have hbg := h.ne b o rfl
  have c9 : w.cell? ⟨g, 9, none⟩ = some (.slice (some ⟨b, o, none⟩) ws.length c) := h.bk.cell 9
  have c10 : w.cell? ⟨g, 10, none⟩ = some (.int .i64 (k : Nat)) := h.bk.cell 10
  have z10 := h.bk.frozen 10
  have k0 : (0 : Int) ≤ (k : Int) := by omega
  have k1 : (k : Int) < (ws.length : Int) := by omega
  have H := Lib.hid h
  have hsh := h.sh
  clear hc hu hd h
  go_enter Tryz.func64, Tryz.ntmps64
  go_wp2_with fail
  go_still_tail 10, (by kernel_rfl)
  change wpList _ _ _ _ _ w.drew
  go_wp2_with (first | (go_at_call 65; refine (vneed_ok _ _).mono ?_; rintro e w' ⟨rfl, rfl⟩))
  obtain ⟨W3, hW3, B3, O3⟩ : ∃ W3, (w.setCell ⟨g, 10, none⟩ (.int .i64 ((k : Int) + 1))).drew = W3 ∧ Blk W3 g 119 (rdC r (.slice (some ⟨b, o, none⟩) ws.length c) ((k + 1 : Nat) : Int)) ∧ Only [g] w W3 :=
    ⟨_, rfl, by simpa [rdC] using (H.out.bk.set_ 10 (.int .i64 ((k : Int) + 1))).drew, ((Only.refl [g] w).setCell (p := ⟨g, 10, none⟩) (.inl (by simp)) _).drew⟩
  rw [hW3]
  have d9 : W3.cell? ⟨g, 9, none⟩ = some (.slice (some ⟨b, o, none⟩) ws.length c) := B3.cell 9
  have d10 : W3.cell? ⟨g, 10, none⟩ = some (.int .i64 ((k : Int) + 1)) := B3.cell 10
  have d0 : W3.cell? ⟨b, o + k, none⟩ = some (.string (strB u)) := O3.cell c0 (by simpa using hbg)
  have HO := Lib.hid O3
  have HB := Lib.hid B3
  have hk1 : (k : Int) + 1 - 1 = (k : Int) := by omega
  have hkw : IntKind.i64.wrap (k : Int) = (k : Int) := IntWalk.i64_in _ (by omega)
  have hkn : (k : Int).toNat = k := by omega
  clear hW3 c0 c9 c10 z10 B3 O3
  go_still_tail 11, (by kernel_rfl)
  change wpList _ _ _ _ _ W3.drew
  go_wp2_with fail
  go_ret
  exact ⟨rfl, (H.out.only HO.out HB.out (by omega)).keep ((Kp.refl W3).drew), HO.out.drew⟩
end Go.Proofs.YtbfimimhgdkpaaaGreatDoor

/- Package view: the reader's steps. No condition but the library's variables and the stated bounds. -/
namespace Go.Proofs.YtbfimimhgdkpaaaGreatDoor
open Go.RowKit

abbrev vnamesV : Value := .agg #[.string ⟨#[]⟩, .string ⟨#[100, 105, 114, 101, 99, 116]⟩, .string ⟨#[118, 97, 108, 105, 100]⟩, .string ⟨#[104, 111, 108, 100]⟩, .string ⟨#[103, 97, 114, 98, 97, 103, 101]⟩]
set_option maxRecDepth 100000 in
set_option maxHeartbeats 400000 in
theorem vnames_any (w : World) : Calls Tryz.prog 57 #[] w fun e w' => e = .returned vnamesV ∧ Kp w w' := by
  go_enter Tryz.func57, Tryz.ntmps57
  go_wp2_with fail
  exact bodyPost_ret (v := vnamesV) (by simp [results, Tryz.results57, go_sem]) rfl ⟨rfl, (Kp.refl _).alloc _⟩
theorem vname_idx (k : Nat) (hk : k ≤ 4) (w : World) : (Instr.index 111 vnamesV (.int .i64 (k : Int))).run Tryz.prog w = .ok (.string (strB (namV k))) w := by
  have : k = 0 ∨ k = 1 ∨ k = 2 ∨ k = 3 ∨ k = 4 := by omega
  rcases this with rfl | rfl | rfl | rfl | rfl
  · have : (Instr.index 111 vnamesV (.int .i64 0)).run Tryz.prog w = .ok (.string ⟨#[]⟩) w := by kernel_rfl
    exact this
  · have : (Instr.index 111 vnamesV (.int .i64 1)).run Tryz.prog w = .ok (.string ⟨#[100, 105, 114, 101, 99, 116]⟩) w := by kernel_rfl
    exact this
  · have : (Instr.index 111 vnamesV (.int .i64 2)).run Tryz.prog w = .ok (.string ⟨#[118, 97, 108, 105, 100]⟩) w := by kernel_rfl
    exact this
  · have : (Instr.index 111 vnamesV (.int .i64 3)).run Tryz.prog w = .ok (.string ⟨#[104, 111, 108, 100]⟩) w := by kernel_rfl
    exact this
  · have : (Instr.index 111 vnamesV (.int .i64 4)).run Tryz.prog w = .ok (.string ⟨#[103, 97, 114, 98, 97, 103, 101]⟩) w := by kernel_rfl
    exact this
/-- The state of a name, among the first ones. -/
def stUp : Nat → List UInt8 → Nat
  | 0, _ => 0
  | n + 1, w => if 0 < n ∧ namV n = w then n else stUp n w
theorem stUp_all (w : List UInt8) : stUp 5 w = sttV w := by
  unfold sttV
  by_cases h4 : namV 4 = w
  · subst h4; decide
  by_cases h3 : namV 3 = w
  · subst h3; decide
  by_cases h2 : namV 2 = w
  · subst h2; decide
  by_cases h1 : namV 1 = w
  · subst h1; decide
  rw [if_neg (fun h => h1 h.symm), if_neg (fun h => h2 h.symm), if_neg (fun h => h3 h.symm), if_neg (fun h => h4 h.symm)]
  rw [stUp, if_neg (fun h => h4 h.2), stUp, if_neg (fun h => h3 h.2), stUp, if_neg (fun h => h2 h.2), stUp, if_neg (fun h => h1 h.2), stUp, if_neg (fun h => absurd h.1 (by omega))]
  rfl

set_option maxRecDepth 100000 in
set_option maxHeartbeats 1000000 in
theorem next_no {g : Nat} {A : Option Addr} {c : Nat} {ws : List (List UInt8)} {r : Rt} {k : Nat} (w : World) (h : RdV w g A c ws r k) (hd : ws.drop k = []) :
    Calls Tryz.prog 64 #[.pointer (some ⟨g, 0, none⟩)] w fun e w' => e = gaveV 250 ∧ Only [g] w w' := by
  have hk : ¬ k < ws.length := by
    intro h1
    have := List.drop_eq_nil_iff.1 hd
    omega
  have c9 : w.cell? ⟨g, 9, none⟩ = some (.slice A ws.length c) := h.bk.cell 9
  have c10 : w.cell? ⟨g, 10, none⟩ = some (.int .i64 (k : Nat)) := h.bk.cell 10
  have k1 : ¬ (k : Int) < (ws.length : Int) := by omega
  clear hd h
  go_enter Tryz.func64, Tryz.ntmps64
  go_wp2_with fail
  go_still_tail 10, (by kernel_rfl)
  change wpList _ _ _ _ _ w.drew
  go_wp2_with (first | (go_at_call 65; refine (vneed_no _ _).mono ?_; rintro e w' ⟨rfl, rfl⟩))
  exact ⟨rfl, rfl, (Only.refl [g] w).drew⟩
theorem word_yes {g : Nat} {A : Option Addr} {c : Nat} {ws : List (List UInt8)} {r : Rt} {k : Nat} {u : List UInt8} {rest : List (List UInt8)} (w : World) (h : RdV w g A c ws r k) (hd : ws.drop k = u :: rest) :
    Calls Tryz.prog 109 #[.pointer (some ⟨g, 0, none⟩), .string (strB u)] w fun e w' => e = .returned (.tuple #[]) ∧ RdV w' g A c ws r (k + 1) ∧ Only [g] w w' := by
  go_enter Tryz.func109, Tryz.ntmps109
  go_wp2_with fail
  refine (next_yes w h hd).mono ?_
  rintro e w1 ⟨rfl, R1, O1⟩
  go_wp2_with (first | (go_at_call 65; refine (vneed_ok _ _).mono ?_; rintro e w' ⟨rfl, rfl⟩))
  go_end0
  exact ⟨rfl, R1, O1⟩
theorem word_no {g : Nat} {A : Option Addr} {c : Nat} {ws : List (List UInt8)} {r : Rt} {k : Nat} {u x : List UInt8} {rest : List (List UInt8)} (w : World) (h : RdV w g A c ws r k) (hd : ws.drop k = u :: rest) (hx : ¬ u = x) :
    Calls Tryz.prog 109 #[.pointer (some ⟨g, 0, none⟩), .string (strB x)] w fun e w' => e = gaveV 250 ∧ Only [g] w w' := by
  have hb : (u == x) = false := by rw [beq_eq_false_iff_ne]; exact hx
  clear hx
  go_enter Tryz.func109, Tryz.ntmps109
  go_wp2_with fail
  refine (next_yes w h hd).mono ?_
  rintro e w1 ⟨rfl, R1, O1⟩
  go_wp2_with (first | (go_at_call 65; refine (vneed_no _ _).mono ?_; rintro e w' ⟨rfl, rfl⟩))
  exact ⟨rfl, rfl, O1⟩
theorem word_end {g : Nat} {A : Option Addr} {c : Nat} {ws : List (List UInt8)} {r : Rt} {k : Nat} (x : List UInt8) (w : World) (h : RdV w g A c ws r k) (hd : ws.drop k = []) :
    Calls Tryz.prog 109 #[.pointer (some ⟨g, 0, none⟩), .string (strB x)] w fun e w' => e = gaveV 250 ∧ Only [g] w w' := by
  go_enter Tryz.func109, Tryz.ntmps109
  go_wp2_with fail
  refine (next_no w h hd).mono ?_
  rintro e w1 ⟨rfl, O1⟩
  go_wp2_with fail
  exact ⟨rfl, rfl, O1⟩
end Go.Proofs.YtbfimimhgdkpaaaGreatDoor

/- Package view: what the reader takes behind a state: lost, by, end. No condition but the library's variables and the stated bounds. -/
namespace Go.Proofs.YtbfimimhgdkpaaaGreatDoor
open Go.RowKit

/-- A step of the reader: what it takes, or it gives up. -/
def StepV (g : Nat) (A : Option Addr) (c : Nat) (ws : List (List UInt8)) (q : Option (Rt × List (List UInt8))) (w : World) (e : Ending) (w' : World) : Prop :=
  (∀ r rest, q = some (r, rest) → e = .returned (.tuple #[]) ∧ Only [g] w w' ∧ ∃ k, ws.drop k = rest ∧ RdV w' g A c ws r k) ∧ (q = none → e = gaveV 250 ∧ Only [g] w w')
theorem StepV.none {g : Nat} {A : Option Addr} {c : Nat} {ws : List (List UInt8)} {q : Option (Rt × List (List UInt8))} {w w' : World} {e : Ending} (hq : q = .none) (he : e = gaveV 250) (hO : Only [g] w w') : StepV g A c ws q w e w' :=
  ⟨fun r rest h => (by rw [hq] at h; cases h), fun _ => ⟨he, hO⟩⟩
theorem StepV.some {g : Nat} {A : Option Addr} {c k : Nat} {ws rest : List (List UInt8)} {q : Option (Rt × List (List UInt8))} {r : Rt} {w w' : World} {e : Ending} (hq : q = .some (r, rest)) (he : e = .returned (.tuple #[])) (hO : Only [g] w w') (hd : ws.drop k = rest) (hR : RdV w' g A c ws r k) : StepV g A c ws q w e w' :=
  ⟨fun r' rest' h => (by rw [hq] at h; injection h with h; injection h with h1 h2; subst h1; subst h2; exact ⟨he, hO, k, hd, hR⟩), fun h => (by rw [hq] at h; cases h)⟩
theorem drop_more {α : Type} {ws t : List α} {k : Nat} {a : α} (h : ws.drop k = a :: t) : ws.drop (k + 1) = t ∧ k < ws.length := by
  have hk : k < ws.length := by
    rcases Nat.lt_or_ge k ws.length with h1 | h1
    · exact h1
    · rw [List.drop_eq_nil_of_le h1] at h; cases h
  rw [List.drop_eq_getElem_cons hk] at h
  injection h with h1 h2
  exact ⟨h2, hk⟩
theorem drop_in {ws t : List (List UInt8)} {k : Nat} {a : List UInt8} (h : ws.drop k = a :: t) (hb : ∀ u ∈ ws, u.length ≤ 1000000) : (strB a).size ≤ 1000000 := by
  have : a ∈ ws := List.mem_of_mem_drop (i := k) (by rw [h]; simp)
  show a.toArray.size ≤ _
  simpa using hb a this
/-- A number's reader at a word. -/
theorem num_word {u : List UInt8} {w w' : World} {e : Ending} (h : NumVw (strB u) w e w') : (∀ n, numP u = some n → e = .returned (.int .i64 n)) ∧ (numP u = none → e = gaveV 250) ∧ Kp w w' := by
  unfold NumVw at h
  rw [strB_list] at h
  exact h
theorem adr_word {u : List UInt8} {w w' : World} {e : Ending} (h : AdrP (strB u) w e w') : Kp w w' ∧ (∀ a, adr u = some a → ∃ p : Int, e = .returned (.tuple #[.int .u32 a, .int .i64 p, .int .i64 0])) ∧ (adr u = none → ∃ p : Int, e = .returned (.tuple #[.int .u32 0, .int .i64 p, .int .i64 110])) := by
  unfold AdrP at h
  rw [strB_list] at h
  exact h

set_option maxRecDepth 100000 in
set_option maxHeartbeats 2000000 in
theorem lost_any {g : Nat} {A : Option Addr} {c : Nat} {ws : List (List UInt8)} {r : Rt} {k : Nat} {w0 : World} (w : World) (L : LibOk w0) (K0 : Kp w0 w) (hg : w0.heap.size ≤ g) (h : RdV w g A c ws r k) (hb : ∀ u ∈ ws, u.length ≤ 1000000) :
    Calls Tryz.prog 67 #[.pointer (some ⟨g, 0, none⟩)] w (StepV g A c ws (readLo (r, ws.drop k)) w) := by
  have H := Lib.hid h
  have Hb := Lib.hid hb
  have c2 : w.cell? ⟨g, 2, none⟩ = some (.int .i64 r.s) := h.bk.cell 2
  by_cases hs : r.s = 3
  case neg =>
    have hq : readLo (r, ws.drop k) = some (r, ws.drop k) := by unfold readLo; simp only; rw [if_neg hs]
    have Hq := Lib.hid hq
    clear hq hb h
    go_enter Tryz.func67, Tryz.ntmps67
    go_wp2_with fail
    go_end0
    exact .some Hq.out rfl (Only.refl _ _) rfl H.out
  case pos =>
    have Hs := Lib.hid hs
    have c2' : w.cell? ⟨g, 2, none⟩ = some (.int .i64 3) := by rw [← hs]; exact c2
    clear c2 hs hb h
    cases hd0 : ws.drop k with
    | nil =>
      have d0 := hd0
      have hq : readLo (r, []) = none := by
        unfold readLo
        simp only
        rw [if_pos Hs.out]
        all_goals (try simp)
      have Hq := Lib.hid hq
      have D0 := Lib.hid d0
      clear hq hd0 d0 
      go_enter Tryz.func67, Tryz.ntmps67
      go_wp2_with fail
      refine (word_end ofS _ H.out D0.out).mono ?_
      rintro e wz ⟨rfl, OZ⟩
      go_wp2_with fail
      exact ⟨rfl, .none Hq.out rfl OZ⟩
    | cons a0 t0 =>
      by_cases he0 : a0 = ofS
      case neg =>
        have d0 := hd0
        have hq : readLo (r, a0 :: t0) = none := by
          unfold readLo
          simp only
          rw [if_pos Hs.out]
          rcases t0 with _ | ⟨_, _⟩
          all_goals (try simp [he0])
        have Hq := Lib.hid hq
        have E0 := Lib.hid he0
        have D0 := Lib.hid d0
        clear hq hd0 d0 he0
        go_enter Tryz.func67, Tryz.ntmps67
        go_wp2_with fail
        refine (word_no _ H.out D0.out E0.out).mono ?_
        rintro e wz ⟨rfl, OZ⟩
        go_wp2_with fail
        exact ⟨rfl, .none Hq.out rfl OZ⟩
      case pos =>
        cases hd1 : t0 with
        | nil =>
          have d0 := hd0
          have d1 := (drop_more d0).1
          rw [hd1] at d1
          have hq : readLo (r, a0 :: []) = none := by
            unfold readLo
            simp only
            rw [if_pos Hs.out]
            all_goals (try simp [he0])
          have Hq := Lib.hid hq
          have E0 := Lib.hid he0
          have D0 := Lib.hid d0
          have D1 := Lib.hid d1
          clear hq hd1 hd0 d1 d0 he0
          go_enter Tryz.func67, Tryz.ntmps67
          go_wp2_with fail
          refine (word_yes (u := ofS) _ H.out (by rw [D0.out, E0.out])).mono ?_
          rintro e w1 ⟨rfl, R1, O1⟩
          have P1 := Lib.hid O1
          have Q1 := Lib.hid R1
          clear R1 O1
          go_wp2_with fail
          refine (next_no _ Q1.out D1.out).mono ?_
          rintro e wz ⟨rfl, OZ⟩
          go_wp2_with fail
          exact ⟨rfl, .none Hq.out rfl (P1.out.trans OZ)⟩
        | cons a1 t1 =>
          cases hn1 : numP a1 with
          | none =>
            have d0 := hd0
            have d1 := (drop_more d0).1
            rw [hd1] at d1
            have hq : readLo (r, a0 :: a1 :: t1) = none := by
              unfold readLo
              simp only
              rw [if_pos Hs.out]
              all_goals (try simp [he0, hn1])
            have Hq := Lib.hid hq
            have E0 := Lib.hid he0
            have M1 := Lib.hid hn1
            have D0 := Lib.hid d0
            have D1 := Lib.hid d1
            clear hq hd1 hd0 d1 d0 he0 hn1
            go_enter Tryz.func67, Tryz.ntmps67
            go_wp2_with fail
            refine (word_yes (u := ofS) _ H.out (by rw [D0.out, E0.out])).mono ?_
            rintro e w1 ⟨rfl, R1, O1⟩
            have P1 := Lib.hid O1
            have Q1 := Lib.hid R1
            clear R1 O1
            go_wp2_with fail
            refine (next_yes _ Q1.out D1.out).mono ?_
            rintro e w2 ⟨rfl, R2, O2⟩
            have P2 := Lib.hid (P1.out.trans O2)
            have Q2 := Lib.hid R2
            clear R2 O2
            go_wp2_with fail
            refine (vnum_int (strB a1) (by have := drop_in D1.out Hb.out; omega) _ (L.keep (P2.out.kp K0 (by simpa using hg)))).mono ?_
            rintro e w3 hv
            obtain ⟨v1, v2, K3⟩ := num_word hv
            obtain rfl := v2 M1.out
            go_wp2_with fail
            exact ⟨rfl, .none Hq.out rfl (P2.out.trans (Only.of_kp K3))⟩
          | some n1 =>
            have d0 := hd0
            have d1 := (drop_more d0).1
            rw [hd1] at d1
            have hq : readLo (r, a0 :: a1 :: t1) = some ({ r with l := n1 }, t1) := by
              unfold readLo
              simp only
              rw [if_pos Hs.out]
              all_goals (try simp [he0, hn1])
            have Hq := Lib.hid hq
            have E0 := Lib.hid he0
            have M1 := Lib.hid hn1
            have D0 := Lib.hid d0
            have D1 := Lib.hid d1
            clear hq hd1 hd0 d1 d0 he0 hn1
            go_enter Tryz.func67, Tryz.ntmps67
            go_wp2_with fail
            refine (word_yes (u := ofS) _ H.out (by rw [D0.out, E0.out])).mono ?_
            rintro e w1 ⟨rfl, R1, O1⟩
            have P1 := Lib.hid O1
            have Q1 := Lib.hid R1
            clear R1 O1
            go_wp2_with fail
            refine (next_yes _ Q1.out D1.out).mono ?_
            rintro e w2 ⟨rfl, R2, O2⟩
            have P2 := Lib.hid (P1.out.trans O2)
            have Q2 := Lib.hid R2
            clear R2 O2
            go_wp2_with fail
            refine (vnum_int (strB a1) (by have := drop_in D1.out Hb.out; omega) _ (L.keep (P2.out.kp K0 (by simpa using hg)))).mono ?_
            rintro e w3 hv
            obtain ⟨v1, v2, K3⟩ := num_word hv
            obtain rfl := v1 _ M1.out
            clear hv v1 v2
            have BK3 := Q2.out.bk.keep K3
            have q3 : w3.cell? ⟨g, 4, none⟩ = some (.int .i64 r.l) := BK3.cell 4
            have z3 := BK3.frozen 4
            have BS3 := BK3.set_ 4 (.int .i64 n1)
            have P3 := Lib.hid ((P2.out.trans (Only.of_kp K3)).setCell (p := ⟨g, 4, none⟩) (.inl (by simp)) (.int .i64 n1))
            have Q3 := Lib.hid (show RdV (w3.setCell ⟨g, 4, none⟩ (.int .i64 n1)) g A c ws { r with l := n1 } (k + 1 + 1) from (Q2.out.keep K3).only ((Only.refl [g] w3).setCell (.inl (by simp)) _) (by simpa [rdC] using BS3) (by have := (drop_more D1.out).2; omega))
            clear BK3 BS3 K3
            go_wp2_with fail
            go_end0
            exact .some Hq.out rfl P3.out (drop_more D1.out).1 Q3.out

set_option maxRecDepth 100000 in
set_option maxHeartbeats 2000000 in
theorem byV_any {g : Nat} {A : Option Addr} {c : Nat} {ws : List (List UInt8)} {r : Rt} {k : Nat} {w0 : World} (w : World) (L : LibOk w0) (K0 : Kp w0 w) (hg : w0.heap.size ≤ g) (h : RdV w g A c ws r k) (hb : ∀ u ∈ ws, u.length ≤ 1000000) :
    Calls Tryz.prog 68 #[.pointer (some ⟨g, 0, none⟩)] w (StepV g A c ws (readBy (r, ws.drop k)) w) := by
  have H := Lib.hid h
  have Hb := Lib.hid hb
  have c2 : w.cell? ⟨g, 2, none⟩ = some (.int .i64 r.s) := h.bk.cell 2
  by_cases hs : r.s = 1
  case pos =>
    have hq : readBy (r, ws.drop k) = some (r, ws.drop k) := by unfold readBy; simp only; rw [if_pos hs]
    have Hq := Lib.hid hq
    have c2' : w.cell? ⟨g, 2, none⟩ = some (.int .i64 1) := by rw [← hs]; exact c2
    clear hq hb h c2 hs
    go_enter Tryz.func68, Tryz.ntmps68
    go_wp2_with fail
    go_end0
    exact .some Hq.out rfl (Only.refl _ _) rfl H.out
  case neg =>
    have Hs := Lib.hid hs
    clear hb h
    cases hd0 : ws.drop k with
    | nil =>
      have d0 := hd0
      have hq : readBy (r, []) = none := by
        unfold readBy
        simp only
        rw [if_neg Hs.out]
        all_goals (try simp)
      have Hq := Lib.hid hq
      have D0 := Lib.hid d0
      clear hq hd0 d0 
      go_enter Tryz.func68, Tryz.ntmps68
      go_wp2_with fail
      refine (word_end byS _ H.out D0.out).mono ?_
      rintro e wz ⟨rfl, OZ⟩
      go_wp2_with fail
      exact ⟨rfl, .none Hq.out rfl OZ⟩
    | cons a0 t0 =>
      by_cases he0 : a0 = byS
      case neg =>
        have d0 := hd0
        have hq : readBy (r, a0 :: t0) = none := by
          unfold readBy
          simp only
          rw [if_neg Hs.out]
          rcases t0 with _ | ⟨_, _ | ⟨_, _ | ⟨_, _ | ⟨_, _⟩⟩⟩⟩
          all_goals (try simp [he0])
        have Hq := Lib.hid hq
        have E0 := Lib.hid he0
        have D0 := Lib.hid d0
        clear hq hd0 d0 he0
        go_enter Tryz.func68, Tryz.ntmps68
        go_wp2_with fail
        refine (word_no _ H.out D0.out E0.out).mono ?_
        rintro e wz ⟨rfl, OZ⟩
        go_wp2_with fail
        exact ⟨rfl, .none Hq.out rfl OZ⟩
      case pos =>
        cases hd1 : t0 with
        | nil =>
          have d0 := hd0
          have d1 := (drop_more d0).1
          rw [hd1] at d1
          have hq : readBy (r, a0 :: []) = none := by
            unfold readBy
            simp only
            rw [if_neg Hs.out]
            all_goals (try simp [he0])
          have Hq := Lib.hid hq
          have E0 := Lib.hid he0
          have D0 := Lib.hid d0
          have D1 := Lib.hid d1
          clear hq hd1 hd0 d1 d0 he0
          go_enter Tryz.func68, Tryz.ntmps68
          go_wp2_with fail
          refine (word_yes (u := byS) _ H.out (by rw [D0.out, E0.out])).mono ?_
          rintro e w1 ⟨rfl, R1, O1⟩
          have P1 := Lib.hid O1
          have Q1 := Lib.hid R1
          clear R1 O1
          go_wp2_with fail
          refine (next_no _ Q1.out D1.out).mono ?_
          rintro e wz ⟨rfl, OZ⟩
          go_wp2_with fail
          exact ⟨rfl, .none Hq.out rfl (P1.out.trans OZ)⟩
        | cons a1 t1 =>
          cases hn1 : numP a1 with
          | none =>
            have d0 := hd0
            have d1 := (drop_more d0).1
            rw [hd1] at d1
            have hq : readBy (r, a0 :: a1 :: t1) = none := by
              unfold readBy
              simp only
              rw [if_neg Hs.out]
              rcases t1 with _ | ⟨_, _ | ⟨_, _ | ⟨_, _⟩⟩⟩
              all_goals (try simp [he0, hn1])
            have Hq := Lib.hid hq
            have E0 := Lib.hid he0
            have M1 := Lib.hid hn1
            have D0 := Lib.hid d0
            have D1 := Lib.hid d1
            clear hq hd1 hd0 d1 d0 he0 hn1
            go_enter Tryz.func68, Tryz.ntmps68
            go_wp2_with fail
            refine (word_yes (u := byS) _ H.out (by rw [D0.out, E0.out])).mono ?_
            rintro e w1 ⟨rfl, R1, O1⟩
            have P1 := Lib.hid O1
            have Q1 := Lib.hid R1
            clear R1 O1
            go_wp2_with fail
            refine (next_yes _ Q1.out D1.out).mono ?_
            rintro e w2 ⟨rfl, R2, O2⟩
            have P2 := Lib.hid (P1.out.trans O2)
            have Q2 := Lib.hid R2
            clear R2 O2
            go_wp2_with fail
            refine (vnum_int (strB a1) (by have := drop_in D1.out Hb.out; omega) _ (L.keep (P2.out.kp K0 (by simpa using hg)))).mono ?_
            rintro e w3 hv
            obtain ⟨v1, v2, K3⟩ := num_word hv
            obtain rfl := v2 M1.out
            go_wp2_with fail
            exact ⟨rfl, .none Hq.out rfl (P2.out.trans (Only.of_kp K3))⟩
          | some n1 =>
            cases hd2 : t1 with
            | nil =>
              have d0 := hd0
              have d1 := (drop_more d0).1
              rw [hd1] at d1
              have d2 := (drop_more d1).1
              rw [hd2] at d2
              have hq : readBy (r, a0 :: a1 :: []) = none := by
                unfold readBy
                simp only
                rw [if_neg Hs.out]
                all_goals (try simp [he0, hn1])
              have Hq := Lib.hid hq
              have E0 := Lib.hid he0
              have M1 := Lib.hid hn1
              have D0 := Lib.hid d0
              have D1 := Lib.hid d1
              have D2 := Lib.hid d2
              clear hq hd2 hd1 hd0 d2 d1 d0 he0 hn1
              go_enter Tryz.func68, Tryz.ntmps68
              go_wp2_with fail
              refine (word_yes (u := byS) _ H.out (by rw [D0.out, E0.out])).mono ?_
              rintro e w1 ⟨rfl, R1, O1⟩
              have P1 := Lib.hid O1
              have Q1 := Lib.hid R1
              clear R1 O1
              go_wp2_with fail
              refine (next_yes _ Q1.out D1.out).mono ?_
              rintro e w2 ⟨rfl, R2, O2⟩
              have P2 := Lib.hid (P1.out.trans O2)
              have Q2 := Lib.hid R2
              clear R2 O2
              go_wp2_with fail
              refine (vnum_int (strB a1) (by have := drop_in D1.out Hb.out; omega) _ (L.keep (P2.out.kp K0 (by simpa using hg)))).mono ?_
              rintro e w3 hv
              obtain ⟨v1, v2, K3⟩ := num_word hv
              obtain rfl := v1 _ M1.out
              clear hv v1 v2
              have BK3 := Q2.out.bk.keep K3
              have q3 : w3.cell? ⟨g, 5, none⟩ = some (.int .i64 r.f) := BK3.cell 5
              have z3 := BK3.frozen 5
              have BS3 := BK3.set_ 5 (.int .i64 n1)
              have P3 := Lib.hid ((P2.out.trans (Only.of_kp K3)).setCell (p := ⟨g, 5, none⟩) (.inl (by simp)) (.int .i64 n1))
              have Q3 := Lib.hid (show RdV (w3.setCell ⟨g, 5, none⟩ (.int .i64 n1)) g A c ws { r with f := n1 } (k + 1 + 1) from (Q2.out.keep K3).only ((Only.refl [g] w3).setCell (.inl (by simp)) _) (by simpa [rdC] using BS3) (by have := (drop_more D1.out).2; omega))
              clear BK3 BS3 K3
              go_wp2_with fail
              refine (next_no _ Q3.out D2.out).mono ?_
              rintro e wz ⟨rfl, OZ⟩
              go_wp2_with fail
              exact ⟨rfl, .none Hq.out rfl (P3.out.trans OZ)⟩
            | cons a2 t2 =>
              cases hn2 : adr a2 with
              | none =>
                have d0 := hd0
                have d1 := (drop_more d0).1
                rw [hd1] at d1
                have d2 := (drop_more d1).1
                rw [hd2] at d2
                have hq : readBy (r, a0 :: a1 :: a2 :: t2) = none := by
                  unfold readBy
                  simp only
                  rw [if_neg Hs.out]
                  rcases t2 with _ | ⟨_, _ | ⟨_, _⟩⟩
                  all_goals (try simp [he0, hn1, hn2])
                have Hq := Lib.hid hq
                have E0 := Lib.hid he0
                have M1 := Lib.hid hn1
                have M2 := Lib.hid hn2
                have D0 := Lib.hid d0
                have D1 := Lib.hid d1
                have D2 := Lib.hid d2
                clear hq hd2 hd1 hd0 d2 d1 d0 he0 hn1 hn2
                go_enter Tryz.func68, Tryz.ntmps68
                go_wp2_with fail
                refine (word_yes (u := byS) _ H.out (by rw [D0.out, E0.out])).mono ?_
                rintro e w1 ⟨rfl, R1, O1⟩
                have P1 := Lib.hid O1
                have Q1 := Lib.hid R1
                clear R1 O1
                go_wp2_with fail
                refine (next_yes _ Q1.out D1.out).mono ?_
                rintro e w2 ⟨rfl, R2, O2⟩
                have P2 := Lib.hid (P1.out.trans O2)
                have Q2 := Lib.hid R2
                clear R2 O2
                go_wp2_with fail
                refine (vnum_int (strB a1) (by have := drop_in D1.out Hb.out; omega) _ (L.keep (P2.out.kp K0 (by simpa using hg)))).mono ?_
                rintro e w3 hv
                obtain ⟨v1, v2, K3⟩ := num_word hv
                obtain rfl := v1 _ M1.out
                clear hv v1 v2
                have BK3 := Q2.out.bk.keep K3
                have q3 : w3.cell? ⟨g, 5, none⟩ = some (.int .i64 r.f) := BK3.cell 5
                have z3 := BK3.frozen 5
                have BS3 := BK3.set_ 5 (.int .i64 n1)
                have P3 := Lib.hid ((P2.out.trans (Only.of_kp K3)).setCell (p := ⟨g, 5, none⟩) (.inl (by simp)) (.int .i64 n1))
                have Q3 := Lib.hid (show RdV (w3.setCell ⟨g, 5, none⟩ (.int .i64 n1)) g A c ws { r with f := n1 } (k + 1 + 1) from (Q2.out.keep K3).only ((Only.refl [g] w3).setCell (.inl (by simp)) _) (by simpa [rdC] using BS3) (by have := (drop_more D1.out).2; omega))
                clear BK3 BS3 K3
                go_wp2_with fail
                refine (next_yes _ Q3.out D2.out).mono ?_
                rintro e w4 ⟨rfl, R4, O4⟩
                have P4 := Lib.hid (P3.out.trans O4)
                have Q4 := Lib.hid R4
                clear R4 O4
                go_wp2_with fail
                refine (addr_parse (strB a2) (drop_in D2.out Hb.out) _).mono ?_
                rintro e w5 hv
                obtain ⟨K5, v1, v2⟩ := adr_word hv
                obtain ⟨pz, rfl⟩ := v2 M2.out
                go_wp2_with (first | (go_at_call 65; refine (vneed_no _ _).mono ?_; rintro e w' ⟨rfl, rfl⟩))
                exact ⟨rfl, .none Hq.out rfl (P4.out.trans (Only.of_kp K5))⟩
              | some n2 =>
                cases hd3 : t2 with
                | nil =>
                  have d0 := hd0
                  have d1 := (drop_more d0).1
                  rw [hd1] at d1
                  have d2 := (drop_more d1).1
                  rw [hd2] at d2
                  have d3 := (drop_more d2).1
                  rw [hd3] at d3
                  have hq : readBy (r, a0 :: a1 :: a2 :: []) = none := by
                    unfold readBy
                    simp only
                    rw [if_neg Hs.out]
                    all_goals (try simp [he0, hn1, hn2])
                  have Hq := Lib.hid hq
                  have E0 := Lib.hid he0
                  have M1 := Lib.hid hn1
                  have M2 := Lib.hid hn2
                  have D0 := Lib.hid d0
                  have D1 := Lib.hid d1
                  have D2 := Lib.hid d2
                  have D3 := Lib.hid d3
                  clear hq hd3 hd2 hd1 hd0 d3 d2 d1 d0 he0 hn1 hn2
                  go_enter Tryz.func68, Tryz.ntmps68
                  go_wp2_with fail
                  refine (word_yes (u := byS) _ H.out (by rw [D0.out, E0.out])).mono ?_
                  rintro e w1 ⟨rfl, R1, O1⟩
                  have P1 := Lib.hid O1
                  have Q1 := Lib.hid R1
                  clear R1 O1
                  go_wp2_with fail
                  refine (next_yes _ Q1.out D1.out).mono ?_
                  rintro e w2 ⟨rfl, R2, O2⟩
                  have P2 := Lib.hid (P1.out.trans O2)
                  have Q2 := Lib.hid R2
                  clear R2 O2
                  go_wp2_with fail
                  refine (vnum_int (strB a1) (by have := drop_in D1.out Hb.out; omega) _ (L.keep (P2.out.kp K0 (by simpa using hg)))).mono ?_
                  rintro e w3 hv
                  obtain ⟨v1, v2, K3⟩ := num_word hv
                  obtain rfl := v1 _ M1.out
                  clear hv v1 v2
                  have BK3 := Q2.out.bk.keep K3
                  have q3 : w3.cell? ⟨g, 5, none⟩ = some (.int .i64 r.f) := BK3.cell 5
                  have z3 := BK3.frozen 5
                  have BS3 := BK3.set_ 5 (.int .i64 n1)
                  have P3 := Lib.hid ((P2.out.trans (Only.of_kp K3)).setCell (p := ⟨g, 5, none⟩) (.inl (by simp)) (.int .i64 n1))
                  have Q3 := Lib.hid (show RdV (w3.setCell ⟨g, 5, none⟩ (.int .i64 n1)) g A c ws { r with f := n1 } (k + 1 + 1) from (Q2.out.keep K3).only ((Only.refl [g] w3).setCell (.inl (by simp)) _) (by simpa [rdC] using BS3) (by have := (drop_more D1.out).2; omega))
                  clear BK3 BS3 K3
                  go_wp2_with fail
                  refine (next_yes _ Q3.out D2.out).mono ?_
                  rintro e w4 ⟨rfl, R4, O4⟩
                  have P4 := Lib.hid (P3.out.trans O4)
                  have Q4 := Lib.hid R4
                  clear R4 O4
                  go_wp2_with fail
                  refine (addr_parse (strB a2) (drop_in D2.out Hb.out) _).mono ?_
                  rintro e w5 hv
                  obtain ⟨K5, v1, v2⟩ := adr_word hv
                  obtain ⟨pz, rfl⟩ := v1 _ M2.out
                  clear hv v1 v2
                  have BK5 := Q4.out.bk.keep K5
                  have q5 : w5.cell? ⟨g, 6, none⟩ = some (.int .u32 (r.x : Int)) := BK5.cell 6
                  have z5 := BK5.frozen 6
                  have BS5 := BK5.set_ 6 (.int .u32 (n2 : Int))
                  have P5 := Lib.hid ((P4.out.trans (Only.of_kp K5)).setCell (p := ⟨g, 6, none⟩) (.inl (by simp)) (.int .u32 (n2 : Int)))
                  have Q5 := Lib.hid (show RdV (w5.setCell ⟨g, 6, none⟩ (.int .u32 (n2 : Int))) g A c ws { { r with f := n1 } with x := n2 } (k + 1 + 1 + 1) from (Q4.out.keep K5).only ((Only.refl [g] w5).setCell (.inl (by simp)) _) (by simpa [rdC] using BS5) (by have := (drop_more D2.out).2; omega))
                  clear BK5 BS5 K5
                  go_wp2_with (first | (go_at_call 65; refine (vneed_ok _ _).mono ?_; rintro e w' ⟨rfl, rfl⟩))
                  refine (word_end dueS _ Q5.out D3.out).mono ?_
                  rintro e wz ⟨rfl, OZ⟩
                  go_wp2_with fail
                  exact ⟨rfl, .none Hq.out rfl (P5.out.trans OZ)⟩
                | cons a3 t3 =>
                  by_cases he3 : a3 = dueS
                  case neg =>
                    have d0 := hd0
                    have d1 := (drop_more d0).1
                    rw [hd1] at d1
                    have d2 := (drop_more d1).1
                    rw [hd2] at d2
                    have d3 := (drop_more d2).1
                    rw [hd3] at d3
                    have hq : readBy (r, a0 :: a1 :: a2 :: a3 :: t3) = none := by
                      unfold readBy
                      simp only
                      rw [if_neg Hs.out]
                      rcases t3 with _ | ⟨_, _⟩
                      all_goals (try simp [he0, hn1, hn2, he3])
                    have Hq := Lib.hid hq
                    have E0 := Lib.hid he0
                    have M1 := Lib.hid hn1
                    have M2 := Lib.hid hn2
                    have E3 := Lib.hid he3
                    have D0 := Lib.hid d0
                    have D1 := Lib.hid d1
                    have D2 := Lib.hid d2
                    have D3 := Lib.hid d3
                    clear hq hd3 hd2 hd1 hd0 d3 d2 d1 d0 he0 hn1 hn2 he3
                    go_enter Tryz.func68, Tryz.ntmps68
                    go_wp2_with fail
                    refine (word_yes (u := byS) _ H.out (by rw [D0.out, E0.out])).mono ?_
                    rintro e w1 ⟨rfl, R1, O1⟩
                    have P1 := Lib.hid O1
                    have Q1 := Lib.hid R1
                    clear R1 O1
                    go_wp2_with fail
                    refine (next_yes _ Q1.out D1.out).mono ?_
                    rintro e w2 ⟨rfl, R2, O2⟩
                    have P2 := Lib.hid (P1.out.trans O2)
                    have Q2 := Lib.hid R2
                    clear R2 O2
                    go_wp2_with fail
                    refine (vnum_int (strB a1) (by have := drop_in D1.out Hb.out; omega) _ (L.keep (P2.out.kp K0 (by simpa using hg)))).mono ?_
                    rintro e w3 hv
                    obtain ⟨v1, v2, K3⟩ := num_word hv
                    obtain rfl := v1 _ M1.out
                    clear hv v1 v2
                    have BK3 := Q2.out.bk.keep K3
                    have q3 : w3.cell? ⟨g, 5, none⟩ = some (.int .i64 r.f) := BK3.cell 5
                    have z3 := BK3.frozen 5
                    have BS3 := BK3.set_ 5 (.int .i64 n1)
                    have P3 := Lib.hid ((P2.out.trans (Only.of_kp K3)).setCell (p := ⟨g, 5, none⟩) (.inl (by simp)) (.int .i64 n1))
                    have Q3 := Lib.hid (show RdV (w3.setCell ⟨g, 5, none⟩ (.int .i64 n1)) g A c ws { r with f := n1 } (k + 1 + 1) from (Q2.out.keep K3).only ((Only.refl [g] w3).setCell (.inl (by simp)) _) (by simpa [rdC] using BS3) (by have := (drop_more D1.out).2; omega))
                    clear BK3 BS3 K3
                    go_wp2_with fail
                    refine (next_yes _ Q3.out D2.out).mono ?_
                    rintro e w4 ⟨rfl, R4, O4⟩
                    have P4 := Lib.hid (P3.out.trans O4)
                    have Q4 := Lib.hid R4
                    clear R4 O4
                    go_wp2_with fail
                    refine (addr_parse (strB a2) (drop_in D2.out Hb.out) _).mono ?_
                    rintro e w5 hv
                    obtain ⟨K5, v1, v2⟩ := adr_word hv
                    obtain ⟨pz, rfl⟩ := v1 _ M2.out
                    clear hv v1 v2
                    have BK5 := Q4.out.bk.keep K5
                    have q5 : w5.cell? ⟨g, 6, none⟩ = some (.int .u32 (r.x : Int)) := BK5.cell 6
                    have z5 := BK5.frozen 6
                    have BS5 := BK5.set_ 6 (.int .u32 (n2 : Int))
                    have P5 := Lib.hid ((P4.out.trans (Only.of_kp K5)).setCell (p := ⟨g, 6, none⟩) (.inl (by simp)) (.int .u32 (n2 : Int)))
                    have Q5 := Lib.hid (show RdV (w5.setCell ⟨g, 6, none⟩ (.int .u32 (n2 : Int))) g A c ws { { r with f := n1 } with x := n2 } (k + 1 + 1 + 1) from (Q4.out.keep K5).only ((Only.refl [g] w5).setCell (.inl (by simp)) _) (by simpa [rdC] using BS5) (by have := (drop_more D2.out).2; omega))
                    clear BK5 BS5 K5
                    go_wp2_with (first | (go_at_call 65; refine (vneed_ok _ _).mono ?_; rintro e w' ⟨rfl, rfl⟩))
                    refine (word_no _ Q5.out D3.out E3.out).mono ?_
                    rintro e wz ⟨rfl, OZ⟩
                    go_wp2_with fail
                    exact ⟨rfl, .none Hq.out rfl (P5.out.trans OZ)⟩
                  case pos =>
                    cases hd4 : t3 with
                    | nil =>
                      have d0 := hd0
                      have d1 := (drop_more d0).1
                      rw [hd1] at d1
                      have d2 := (drop_more d1).1
                      rw [hd2] at d2
                      have d3 := (drop_more d2).1
                      rw [hd3] at d3
                      have d4 := (drop_more d3).1
                      rw [hd4] at d4
                      have hq : readBy (r, a0 :: a1 :: a2 :: a3 :: []) = none := by
                        unfold readBy
                        simp only
                        rw [if_neg Hs.out]
                        all_goals (try simp [he0, hn1, hn2, he3])
                      have Hq := Lib.hid hq
                      have E0 := Lib.hid he0
                      have M1 := Lib.hid hn1
                      have M2 := Lib.hid hn2
                      have E3 := Lib.hid he3
                      have D0 := Lib.hid d0
                      have D1 := Lib.hid d1
                      have D2 := Lib.hid d2
                      have D3 := Lib.hid d3
                      have D4 := Lib.hid d4
                      clear hq hd4 hd3 hd2 hd1 hd0 d4 d3 d2 d1 d0 he0 hn1 hn2 he3
                      go_enter Tryz.func68, Tryz.ntmps68
                      go_wp2_with fail
                      refine (word_yes (u := byS) _ H.out (by rw [D0.out, E0.out])).mono ?_
                      rintro e w1 ⟨rfl, R1, O1⟩
                      have P1 := Lib.hid O1
                      have Q1 := Lib.hid R1
                      clear R1 O1
                      go_wp2_with fail
                      refine (next_yes _ Q1.out D1.out).mono ?_
                      rintro e w2 ⟨rfl, R2, O2⟩
                      have P2 := Lib.hid (P1.out.trans O2)
                      have Q2 := Lib.hid R2
                      clear R2 O2
                      go_wp2_with fail
                      refine (vnum_int (strB a1) (by have := drop_in D1.out Hb.out; omega) _ (L.keep (P2.out.kp K0 (by simpa using hg)))).mono ?_
                      rintro e w3 hv
                      obtain ⟨v1, v2, K3⟩ := num_word hv
                      obtain rfl := v1 _ M1.out
                      clear hv v1 v2
                      have BK3 := Q2.out.bk.keep K3
                      have q3 : w3.cell? ⟨g, 5, none⟩ = some (.int .i64 r.f) := BK3.cell 5
                      have z3 := BK3.frozen 5
                      have BS3 := BK3.set_ 5 (.int .i64 n1)
                      have P3 := Lib.hid ((P2.out.trans (Only.of_kp K3)).setCell (p := ⟨g, 5, none⟩) (.inl (by simp)) (.int .i64 n1))
                      have Q3 := Lib.hid (show RdV (w3.setCell ⟨g, 5, none⟩ (.int .i64 n1)) g A c ws { r with f := n1 } (k + 1 + 1) from (Q2.out.keep K3).only ((Only.refl [g] w3).setCell (.inl (by simp)) _) (by simpa [rdC] using BS3) (by have := (drop_more D1.out).2; omega))
                      clear BK3 BS3 K3
                      go_wp2_with fail
                      refine (next_yes _ Q3.out D2.out).mono ?_
                      rintro e w4 ⟨rfl, R4, O4⟩
                      have P4 := Lib.hid (P3.out.trans O4)
                      have Q4 := Lib.hid R4
                      clear R4 O4
                      go_wp2_with fail
                      refine (addr_parse (strB a2) (drop_in D2.out Hb.out) _).mono ?_
                      rintro e w5 hv
                      obtain ⟨K5, v1, v2⟩ := adr_word hv
                      obtain ⟨pz, rfl⟩ := v1 _ M2.out
                      clear hv v1 v2
                      have BK5 := Q4.out.bk.keep K5
                      have q5 : w5.cell? ⟨g, 6, none⟩ = some (.int .u32 (r.x : Int)) := BK5.cell 6
                      have z5 := BK5.frozen 6
                      have BS5 := BK5.set_ 6 (.int .u32 (n2 : Int))
                      have P5 := Lib.hid ((P4.out.trans (Only.of_kp K5)).setCell (p := ⟨g, 6, none⟩) (.inl (by simp)) (.int .u32 (n2 : Int)))
                      have Q5 := Lib.hid (show RdV (w5.setCell ⟨g, 6, none⟩ (.int .u32 (n2 : Int))) g A c ws { { r with f := n1 } with x := n2 } (k + 1 + 1 + 1) from (Q4.out.keep K5).only ((Only.refl [g] w5).setCell (.inl (by simp)) _) (by simpa [rdC] using BS5) (by have := (drop_more D2.out).2; omega))
                      clear BK5 BS5 K5
                      go_wp2_with (first | (go_at_call 65; refine (vneed_ok _ _).mono ?_; rintro e w' ⟨rfl, rfl⟩))
                      refine (word_yes (u := dueS) _ Q5.out (by rw [D3.out, E3.out])).mono ?_
                      rintro e w6 ⟨rfl, R6, O6⟩
                      have P6 := Lib.hid (P5.out.trans O6)
                      have Q6 := Lib.hid R6
                      clear R6 O6
                      go_wp2_with fail
                      refine (next_no _ Q6.out D4.out).mono ?_
                      rintro e wz ⟨rfl, OZ⟩
                      go_wp2_with fail
                      exact ⟨rfl, .none Hq.out rfl (P6.out.trans OZ)⟩
                    | cons a4 t4 =>
                      cases hn4 : numP a4 with
                      | none =>
                        have d0 := hd0
                        have d1 := (drop_more d0).1
                        rw [hd1] at d1
                        have d2 := (drop_more d1).1
                        rw [hd2] at d2
                        have d3 := (drop_more d2).1
                        rw [hd3] at d3
                        have d4 := (drop_more d3).1
                        rw [hd4] at d4
                        have hq : readBy (r, a0 :: a1 :: a2 :: a3 :: a4 :: t4) = none := by
                          unfold readBy
                          simp only
                          rw [if_neg Hs.out]
                          all_goals (try simp [he0, hn1, hn2, he3, hn4])
                        have Hq := Lib.hid hq
                        have E0 := Lib.hid he0
                        have M1 := Lib.hid hn1
                        have M2 := Lib.hid hn2
                        have E3 := Lib.hid he3
                        have M4 := Lib.hid hn4
                        have D0 := Lib.hid d0
                        have D1 := Lib.hid d1
                        have D2 := Lib.hid d2
                        have D3 := Lib.hid d3
                        have D4 := Lib.hid d4
                        clear hq hd4 hd3 hd2 hd1 hd0 d4 d3 d2 d1 d0 he0 hn1 hn2 he3 hn4
                        go_enter Tryz.func68, Tryz.ntmps68
                        go_wp2_with fail
                        refine (word_yes (u := byS) _ H.out (by rw [D0.out, E0.out])).mono ?_
                        rintro e w1 ⟨rfl, R1, O1⟩
                        have P1 := Lib.hid O1
                        have Q1 := Lib.hid R1
                        clear R1 O1
                        go_wp2_with fail
                        refine (next_yes _ Q1.out D1.out).mono ?_
                        rintro e w2 ⟨rfl, R2, O2⟩
                        have P2 := Lib.hid (P1.out.trans O2)
                        have Q2 := Lib.hid R2
                        clear R2 O2
                        go_wp2_with fail
                        refine (vnum_int (strB a1) (by have := drop_in D1.out Hb.out; omega) _ (L.keep (P2.out.kp K0 (by simpa using hg)))).mono ?_
                        rintro e w3 hv
                        obtain ⟨v1, v2, K3⟩ := num_word hv
                        obtain rfl := v1 _ M1.out
                        clear hv v1 v2
                        have BK3 := Q2.out.bk.keep K3
                        have q3 : w3.cell? ⟨g, 5, none⟩ = some (.int .i64 r.f) := BK3.cell 5
                        have z3 := BK3.frozen 5
                        have BS3 := BK3.set_ 5 (.int .i64 n1)
                        have P3 := Lib.hid ((P2.out.trans (Only.of_kp K3)).setCell (p := ⟨g, 5, none⟩) (.inl (by simp)) (.int .i64 n1))
                        have Q3 := Lib.hid (show RdV (w3.setCell ⟨g, 5, none⟩ (.int .i64 n1)) g A c ws { r with f := n1 } (k + 1 + 1) from (Q2.out.keep K3).only ((Only.refl [g] w3).setCell (.inl (by simp)) _) (by simpa [rdC] using BS3) (by have := (drop_more D1.out).2; omega))
                        clear BK3 BS3 K3
                        go_wp2_with fail
                        refine (next_yes _ Q3.out D2.out).mono ?_
                        rintro e w4 ⟨rfl, R4, O4⟩
                        have P4 := Lib.hid (P3.out.trans O4)
                        have Q4 := Lib.hid R4
                        clear R4 O4
                        go_wp2_with fail
                        refine (addr_parse (strB a2) (drop_in D2.out Hb.out) _).mono ?_
                        rintro e w5 hv
                        obtain ⟨K5, v1, v2⟩ := adr_word hv
                        obtain ⟨pz, rfl⟩ := v1 _ M2.out
                        clear hv v1 v2
                        have BK5 := Q4.out.bk.keep K5
                        have q5 : w5.cell? ⟨g, 6, none⟩ = some (.int .u32 (r.x : Int)) := BK5.cell 6
                        have z5 := BK5.frozen 6
                        have BS5 := BK5.set_ 6 (.int .u32 (n2 : Int))
                        have P5 := Lib.hid ((P4.out.trans (Only.of_kp K5)).setCell (p := ⟨g, 6, none⟩) (.inl (by simp)) (.int .u32 (n2 : Int)))
                        have Q5 := Lib.hid (show RdV (w5.setCell ⟨g, 6, none⟩ (.int .u32 (n2 : Int))) g A c ws { { r with f := n1 } with x := n2 } (k + 1 + 1 + 1) from (Q4.out.keep K5).only ((Only.refl [g] w5).setCell (.inl (by simp)) _) (by simpa [rdC] using BS5) (by have := (drop_more D2.out).2; omega))
                        clear BK5 BS5 K5
                        go_wp2_with (first | (go_at_call 65; refine (vneed_ok _ _).mono ?_; rintro e w' ⟨rfl, rfl⟩))
                        refine (word_yes (u := dueS) _ Q5.out (by rw [D3.out, E3.out])).mono ?_
                        rintro e w6 ⟨rfl, R6, O6⟩
                        have P6 := Lib.hid (P5.out.trans O6)
                        have Q6 := Lib.hid R6
                        clear R6 O6
                        go_wp2_with fail
                        refine (next_yes _ Q6.out D4.out).mono ?_
                        rintro e w7 ⟨rfl, R7, O7⟩
                        have P7 := Lib.hid (P6.out.trans O7)
                        have Q7 := Lib.hid R7
                        clear R7 O7
                        go_wp2_with fail
                        refine (vnum_int64 (strB a4) (by have := drop_in D4.out Hb.out; omega) _ (L.keep (P7.out.kp K0 (by simpa using hg)))).mono ?_
                        rintro e w8 hv
                        obtain ⟨v1, v2, K8⟩ := num_word hv
                        obtain rfl := v2 M4.out
                        go_wp2_with fail
                        exact ⟨rfl, .none Hq.out rfl (P7.out.trans (Only.of_kp K8))⟩
                      | some n4 =>
                        have d0 := hd0
                        have d1 := (drop_more d0).1
                        rw [hd1] at d1
                        have d2 := (drop_more d1).1
                        rw [hd2] at d2
                        have d3 := (drop_more d2).1
                        rw [hd3] at d3
                        have d4 := (drop_more d3).1
                        rw [hd4] at d4
                        have hq : readBy (r, a0 :: a1 :: a2 :: a3 :: a4 :: t4) = some ({ { { r with f := n1 } with x := n2 } with d := n4 }, t4) := by
                          unfold readBy
                          simp only
                          rw [if_neg Hs.out]
                          all_goals (try simp [he0, hn1, hn2, he3, hn4])
                        have Hq := Lib.hid hq
                        have E0 := Lib.hid he0
                        have M1 := Lib.hid hn1
                        have M2 := Lib.hid hn2
                        have E3 := Lib.hid he3
                        have M4 := Lib.hid hn4
                        have D0 := Lib.hid d0
                        have D1 := Lib.hid d1
                        have D2 := Lib.hid d2
                        have D3 := Lib.hid d3
                        have D4 := Lib.hid d4
                        clear hq hd4 hd3 hd2 hd1 hd0 d4 d3 d2 d1 d0 he0 hn1 hn2 he3 hn4
                        go_enter Tryz.func68, Tryz.ntmps68
                        go_wp2_with fail
                        refine (word_yes (u := byS) _ H.out (by rw [D0.out, E0.out])).mono ?_
                        rintro e w1 ⟨rfl, R1, O1⟩
                        have P1 := Lib.hid O1
                        have Q1 := Lib.hid R1
                        clear R1 O1
                        go_wp2_with fail
                        refine (next_yes _ Q1.out D1.out).mono ?_
                        rintro e w2 ⟨rfl, R2, O2⟩
                        have P2 := Lib.hid (P1.out.trans O2)
                        have Q2 := Lib.hid R2
                        clear R2 O2
                        go_wp2_with fail
                        refine (vnum_int (strB a1) (by have := drop_in D1.out Hb.out; omega) _ (L.keep (P2.out.kp K0 (by simpa using hg)))).mono ?_
                        rintro e w3 hv
                        obtain ⟨v1, v2, K3⟩ := num_word hv
                        obtain rfl := v1 _ M1.out
                        clear hv v1 v2
                        have BK3 := Q2.out.bk.keep K3
                        have q3 : w3.cell? ⟨g, 5, none⟩ = some (.int .i64 r.f) := BK3.cell 5
                        have z3 := BK3.frozen 5
                        have BS3 := BK3.set_ 5 (.int .i64 n1)
                        have P3 := Lib.hid ((P2.out.trans (Only.of_kp K3)).setCell (p := ⟨g, 5, none⟩) (.inl (by simp)) (.int .i64 n1))
                        have Q3 := Lib.hid (show RdV (w3.setCell ⟨g, 5, none⟩ (.int .i64 n1)) g A c ws { r with f := n1 } (k + 1 + 1) from (Q2.out.keep K3).only ((Only.refl [g] w3).setCell (.inl (by simp)) _) (by simpa [rdC] using BS3) (by have := (drop_more D1.out).2; omega))
                        clear BK3 BS3 K3
                        go_wp2_with fail
                        refine (next_yes _ Q3.out D2.out).mono ?_
                        rintro e w4 ⟨rfl, R4, O4⟩
                        have P4 := Lib.hid (P3.out.trans O4)
                        have Q4 := Lib.hid R4
                        clear R4 O4
                        go_wp2_with fail
                        refine (addr_parse (strB a2) (drop_in D2.out Hb.out) _).mono ?_
                        rintro e w5 hv
                        obtain ⟨K5, v1, v2⟩ := adr_word hv
                        obtain ⟨pz, rfl⟩ := v1 _ M2.out
                        clear hv v1 v2
                        have BK5 := Q4.out.bk.keep K5
                        have q5 : w5.cell? ⟨g, 6, none⟩ = some (.int .u32 (r.x : Int)) := BK5.cell 6
                        have z5 := BK5.frozen 6
                        have BS5 := BK5.set_ 6 (.int .u32 (n2 : Int))
                        have P5 := Lib.hid ((P4.out.trans (Only.of_kp K5)).setCell (p := ⟨g, 6, none⟩) (.inl (by simp)) (.int .u32 (n2 : Int)))
                        have Q5 := Lib.hid (show RdV (w5.setCell ⟨g, 6, none⟩ (.int .u32 (n2 : Int))) g A c ws { { r with f := n1 } with x := n2 } (k + 1 + 1 + 1) from (Q4.out.keep K5).only ((Only.refl [g] w5).setCell (.inl (by simp)) _) (by simpa [rdC] using BS5) (by have := (drop_more D2.out).2; omega))
                        clear BK5 BS5 K5
                        go_wp2_with (first | (go_at_call 65; refine (vneed_ok _ _).mono ?_; rintro e w' ⟨rfl, rfl⟩))
                        refine (word_yes (u := dueS) _ Q5.out (by rw [D3.out, E3.out])).mono ?_
                        rintro e w6 ⟨rfl, R6, O6⟩
                        have P6 := Lib.hid (P5.out.trans O6)
                        have Q6 := Lib.hid R6
                        clear R6 O6
                        go_wp2_with fail
                        refine (next_yes _ Q6.out D4.out).mono ?_
                        rintro e w7 ⟨rfl, R7, O7⟩
                        have P7 := Lib.hid (P6.out.trans O7)
                        have Q7 := Lib.hid R7
                        clear R7 O7
                        go_wp2_with fail
                        refine (vnum_int64 (strB a4) (by have := drop_in D4.out Hb.out; omega) _ (L.keep (P7.out.kp K0 (by simpa using hg)))).mono ?_
                        rintro e w8 hv
                        obtain ⟨v1, v2, K8⟩ := num_word hv
                        obtain rfl := v1 _ M4.out
                        clear hv v1 v2
                        have BK8 := Q7.out.bk.keep K8
                        have q8 : w8.cell? ⟨g, 7, none⟩ = some (.int .i64 r.d) := BK8.cell 7
                        have z8 := BK8.frozen 7
                        have BS8 := BK8.set_ 7 (.int .i64 n4)
                        have P8 := Lib.hid ((P7.out.trans (Only.of_kp K8)).setCell (p := ⟨g, 7, none⟩) (.inl (by simp)) (.int .i64 n4))
                        have Q8 := Lib.hid (show RdV (w8.setCell ⟨g, 7, none⟩ (.int .i64 n4)) g A c ws { { { r with f := n1 } with x := n2 } with d := n4 } (k + 1 + 1 + 1 + 1 + 1) from (Q7.out.keep K8).only ((Only.refl [g] w8).setCell (.inl (by simp)) _) (by simpa [rdC] using BS8) (by have := (drop_more D4.out).2; omega))
                        clear BK8 BS8 K8
                        go_wp2_with fail
                        go_end0
                        exact .some Hq.out rfl P8.out (drop_more D4.out).1 Q8.out
end Go.Proofs.YtbfimimhgdkpaaaGreatDoor

/- Package view: the reader's end, and its state. No condition but the library's variables and the stated bounds. -/
namespace Go.Proofs.YtbfimimhgdkpaaaGreatDoor
open Go.RowKit

theorem chS_lit : strB chS = ⟨#[99, 104, 97, 110, 103, 101, 100]⟩ := rfl
/-- What end takes, as a step. -/
def endQ (r : Rt) (ws : List (List UInt8)) : Option (Rt × List (List UInt8)) := (readEn (r, ws)).map (fun r => (r, []))
set_option maxRecDepth 100000 in
set_option maxHeartbeats 2000000 in
theorem endV_any {g : Nat} {A : Option Addr} {c : Nat} {ws : List (List UInt8)} {r : Rt} {k : Nat} (w : World) (h : RdV w g A c ws r k) :
    Calls Tryz.prog 69 #[.pointer (some ⟨g, 0, none⟩)] w (StepV g A c ws (endQ r (ws.drop k)) w) := by
  have H := Lib.hid h
  have c9 : w.cell? ⟨g, 9, none⟩ = some (.slice A ws.length c) := h.bk.cell 9
  have c10 : w.cell? ⟨g, 10, none⟩ = some (.int .i64 (k : Nat)) := h.bk.cell 10
  have hle := h.le
  clear h
  cases hd0 : ws.drop k with
  | nil =>
    have hk : k = ws.length := by
      have := List.drop_eq_nil_iff.1 hd0
      omega
    have hlt : ¬ (k : Int) < (ws.length : Int) := by omega
    have hbe : ((k : Int) == (ws.length : Int)) = true := by rw [beq_iff_eq, hk]
    have Hd := Lib.hid hd0
    have Hq := Lib.hid (show endQ r [] = some (r, []) from rfl)
    clear hd0 hk
    go_enter Tryz.func69, Tryz.ntmps69
    go_wp2_with fail
    go_still_tail 9, (by kernel_rfl)
    change wpList _ _ _ _ _ w.drew
    go_wp2_with fail
    obtain ⟨W1, hW1, K1⟩ : ∃ W1, w.drew = W1 ∧ Kp w W1 := ⟨_, rfl, (Kp.refl w).drew⟩
    rw [hW1]
    replace c9 := K1.cell c9
    replace c10 := K1.cell c10
    clear hW1
    go_still_tail 10, (by kernel_rfl)
    change wpList _ _ _ _ _ W1.drew
    go_wp2_with (first | (go_at_call 65; refine (vneed_ok _ _).mono ?_; rintro e w' ⟨rfl, rfl⟩))
    go_end0
    exact .some Hq.out rfl (Only.of_kp K1.drew) Hd.out (H.out.keep K1.drew)
  | cons a t =>
    obtain ⟨hd1, hlt0⟩ := drop_more hd0
    have hlt : (k : Int) < (ws.length : Int) := by omega
    have Hd0 := Lib.hid hd0
    have Hd1 := Lib.hid hd1
    by_cases ha : a = chS
    case neg =>
      have Hq := Lib.hid (show endQ r (a :: t) = none by
        cases t with
        | nil => simp [endQ, readEn, ha]
        | cons b t => rfl)
      have Ha := Lib.hid ha
      clear hd0 hd1 ha
      go_enter Tryz.func69, Tryz.ntmps69
      go_wp2_with fail
      go_still_tail 9, (by kernel_rfl)
      change wpList _ _ _ _ _ w.drew
      go_wp2_with fail
      have hw := word_no (x := chS) w.drew (H.out.keep ((Kp.refl w).drew)) Hd0.out Ha.out
      rw [chS_lit] at hw
      refine hw.mono ?_
      rintro e wz ⟨rfl, OZ⟩
      go_wp2_with fail
      exact ⟨rfl, .none Hq.out rfl ((Only.refl [g] w).drew.trans OZ)⟩
    case pos =>
      have Hc : Hid (∀ b t', t = b :: t' → endQ r (a :: t) = none) := Lib.hid (fun b t' e => by rw [e]; rfl)
      have Hs : Hid (t = [] → endQ r (a :: t) = some ({ r with c := true }, [])) := Lib.hid (fun e => by rw [e, ha]; simp [endQ, readEn])
      have Ha := Lib.hid ha
      clear hd0 hd1 ha
      go_enter Tryz.func69, Tryz.ntmps69
      go_wp2_with fail
      go_still_tail 9, (by kernel_rfl)
      change wpList _ _ _ _ _ w.drew
      go_wp2_with fail
      have hw := word_yes (u := chS) w.drew (H.out.keep ((Kp.refl w).drew)) (by rw [Hd0.out, Ha.out])
      rw [chS_lit] at hw
      refine hw.mono ?_
      rintro e w1 ⟨rfl, R1, O1⟩
      have HO := Lib.hid ((Only.refl [g] w).drew.trans O1)
      have q8 : w1.cell? ⟨g, 8, none⟩ = some (.bool r.c) := R1.bk.cell 8
      have z8 := R1.bk.frozen 8
      have BS := R1.bk.set_ 8 (.bool true)
      have HB := Lib.hid (show Blk (w1.setCell ⟨g, 8, none⟩ (.bool true)) g 119 (rdC { r with c := true } (.slice A ws.length c) ((k + 1 : Nat) : Int)) by simpa [rdC] using BS)
      have HR1 := Lib.hid R1
      clear c9 c10 R1 O1 BS
      go_wp2_with fail
      obtain ⟨W3, hW3, B3, O3⟩ : ∃ W3, (w1.setCell ⟨g, 8, none⟩ (.bool true)) = W3 ∧ Blk W3 g 119 (rdC { r with c := true } (.slice A ws.length c) ((k + 1 : Nat) : Int)) ∧ Only [g] w1 W3 := ⟨_, rfl, HB.out, (Only.refl [g] w1).setCell (.inl (by simp)) _⟩
      try rw [hW3]
      have R3 := Lib.hid (HR1.out.only O3 B3 (by omega))
      have d9 : W3.cell? ⟨g, 9, none⟩ = some (.slice A ws.length c) := B3.cell 9
      have d10 : W3.cell? ⟨g, 10, none⟩ = some (.int .i64 ((k : Int) + 1)) := B3.cell 10
      have HO3 := Lib.hid (HO.out.trans O3)
      clear hW3 HB q8 z8 B3 O3
      cases t with
      | nil =>
        have hk : ws.length = k + 1 := by
          have := List.drop_eq_nil_iff.1 Hd1.out
          omega
        have hbe : ((k : Int) + 1 == (ws.length : Int)) = true := by rw [beq_iff_eq, hk]; omega
        clear hk
        go_still_tail 10, (by kernel_rfl)
        change wpList _ _ _ _ _ (World.drew _)
        go_wp2_with (first | (go_at_call 65; refine (vneed_ok _ _).mono ?_; rintro e w' ⟨rfl, rfl⟩))
        go_end0
        exact .some (Hs.out trivial) rfl HO3.out.drew Hd1.out (R3.out.keep ((Kp.refl _).drew))
      | cons b t' =>
        have hk : k + 1 < ws.length := (drop_more Hd1.out).2
        have hbe : ((k : Int) + 1 == (ws.length : Int)) = false := by rw [beq_eq_false_iff_ne]; omega
        clear hk
        go_still_tail 10, (by kernel_rfl)
        change wpList _ _ _ _ _ (World.drew _)
        go_wp2_with (first | (go_at_call 65; refine (vneed_no _ _).mono ?_; rintro e w' ⟨rfl, rfl⟩))
        exact ⟨rfl, .none (Hc.out b t' rfl) rfl HO3.out.drew⟩
end Go.Proofs.YtbfimimhgdkpaaaGreatDoor

/- Package view: the reader's state; a line's words. No condition but the library's variables and the stated bounds. -/
namespace Go.Proofs.YtbfimimhgdkpaaaGreatDoor
open Go.RowKit

theorem Only.of_kp2 {bs : List Nat} {a b c : World} (h : Only bs a b) (k : Kp b c) : Only bs a c := h.trans (Only.of_kp k)
set_option maxRecDepth 100000 in
set_option maxHeartbeats 4000000 in
theorem stateV_any {g : Nat} {A : Option Addr} {c : Nat} {ws : List (List UInt8)} {r : Rt} {k : Nat} {w0 : World} (w : World) (L : LibOk w0) (K0 : Kp w0 w) (hg : w0.heap.size ≤ g) (h : RdV w g A c ws r k) (hs : r.s = 0) (hb : ∀ u ∈ ws, u.length ≤ 1000000) :
    Calls Tryz.prog 66 #[.pointer (some ⟨g, 0, none⟩)] w (StepV g A c ws (readSt (r, ws.drop k)) w) := by
  have H := Lib.hid h
  have Hb := Lib.hid hb
  have Hs := Lib.hid hs
  clear h hb hs
  cases hd0 : ws.drop k with
  | nil =>
    have Hd := Lib.hid hd0
    have Hq := Lib.hid (show readSt (r, []) = none from rfl)
    clear hd0
    go_enter Tryz.func66, Tryz.ntmps66
    go_wp2_with fail
    refine (next_no _ H.out Hd.out).mono ?_
    rintro e wz ⟨rfl, OZ⟩
    go_wp2_with fail
    exact ⟨rfl, .none Hq.out rfl OZ⟩
  | cons u t =>
    have Hd := Lib.hid hd0
    obtain ⟨hd1, hlt0⟩ := drop_more hd0
    have Hd1 := Lib.hid hd1
    clear hd0 hd1
    go_enter Tryz.func66, Tryz.ntmps66
    go_wp2_with fail
    refine (next_yes _ H.out Hd.out).mono ?_
    rintro e w1 ⟨rfl, R1, O1⟩
    have HR1 := Lib.hid R1
    have HO1 := Lib.hid O1
    clear R1 O1
    go_wp2_with (first | (go_at_call 57; refine (vnames_any _).mono ?_; rintro e w2 ⟨rfl, hK2⟩))
    have R2 : Hid (RdV w2 g A c ws { r with s := ((stUp 0 u : Nat) : Int) } (k + 1)) := Lib.hid (by
      have h2 := HR1.out.keep hK2
      have e : ({ r with s := ((stUp 0 u : Nat) : Int) } : Rt) = r := by
        have := Hs.out
        obtain ⟨p, s, m, l, f, x, d, c⟩ := r
        simp only at this
        subst this
        rfl
      rw [e]
      exact h2)
    have O2 := Lib.hid (HO1.out.of_kp2 hK2)
    clear hK2 HR1 HO1
    go_loopw [8] (fun i wr => ∃ j : Nat, j ≤ 5 ∧ i = .int .i64 j ∧ Hid (RdV wr g A c ws { r with s := ((stUp j u : Nat) : Int) } (k + 1)) ∧ Hid (Only [g] w wr)) (fun i _ => 5 - (intOf i).toNat)
    case atStart => exact ⟨0, by omega, rfl, R2, O2⟩
    case round =>
      obtain ⟨j, hj, rfl, R, O⟩ := hrel
      have q2 : wr.cell? ⟨g, 2, none⟩ = some (.int .i64 ((stUp j u : Nat) : Int)) := R.out.bk.cell 2
      have z2 := R.out.bk.frozen 2
      by_cases hlt : j < 5
      · have hx := vname_idx j (by omega)
        rcases Nat.eq_zero_or_pos j with h0 | h0
        · subst h0
          have hx0 : ∀ w, (Instr.index 111 vnamesV (.int .i64 0)).run Tryz.prog w = .ok (.string ⟨#[]⟩) w := fun w => hx w
          have Hn := Lib.hid (show stUp 1 u = stUp 0 u from rfl)
          go_wp2_with fail
          go_roundw
          case rel => exact ⟨1, by omega, rfl, by rw [Hn.out]; exact R, O⟩
          case measure => simp [intOf]
        · have hgt : (0 : Int) < (j : Int) := by omega
          by_cases he : namV j = u
          · have hbq : (namV j == u) = true := by rw [beq_iff_eq]; exact he
            have Hn := Lib.hid (show stUp (j + 1) u = j by rw [stUp, if_pos ⟨h0, he⟩])
            have BS := R.out.bk.set_ 2 (.int .i64 (j : Int))
            have HB := Lib.hid (show Blk (wr.setCell ⟨g, 2, none⟩ (.int .i64 (j : Int))) g 119 (rdC { r with s := ((j : Nat) : Int) } (.slice A ws.length c) ((k + 1 : Nat) : Int)) by simpa [rdC] using BS)
            clear he BS
            go_wp2_with fail
            go_roundw
            case rel => exact ⟨j + 1, by omega, by go_num, by rw [Hn.out]; exact Lib.hid (R.out.only ((Only.refl [g] wr).setCell (p := ⟨g, 2, none⟩) (.inl (by simp)) _) HB.out (by omega)), Lib.hid (O.out.setCell (p := ⟨g, 2, none⟩) (.inl (by simp)) _)⟩
            case measure => simp [intOf]; omega
          · have hbq : (namV j == u) = false := by rw [beq_eq_false_iff_ne]; exact he
            have Hn := Lib.hid (show stUp (j + 1) u = stUp j u by rw [stUp, if_neg (fun hh => he hh.2)])
            clear he
            go_wp2_with fail
            go_roundw
            case rel => exact ⟨j + 1, by omega, by go_num, by rw [Hn.out]; exact R, O⟩
            case measure => simp [intOf]; omega
      · obtain rfl : j = 5 := by omega
        by_cases hz : sttV u = 0
        · have Hq := Lib.hid (show readSt (r, u :: t) = none by
            cases t with
            | nil => rfl
            | cons v t => rw [readSt, if_pos hz])
          have hbz : (((stUp 5 u : Nat) : Int) != 0) = false := by rw [stUp_all, hz]; rfl
          clear hz
          go_wp2_with (first | (go_at_call 65; refine (vneed_no _ _).mono ?_; rintro e w' ⟨rfl, rfl⟩))
          exact ⟨rfl, .none Hq.out rfl O.out⟩
        · have hbz : (((stUp 5 u : Nat) : Int) != 0) = true := by rw [stUp_all, bne_iff_ne]; omega
          have Hz := Lib.hid hz
          have HS := Lib.hid (stUp_all u)
          cases t with
          | nil =>
            have Hq := Lib.hid (show readSt (r, [u]) = none from rfl)
            clear hz
            go_wp2_with (first | (go_at_call 65; refine (vneed_ok _ _).mono ?_; rintro e w' ⟨rfl, rfl⟩))
            refine (next_no _ R.out Hd1.out).mono ?_
            rintro e wz ⟨rfl, OZ⟩
            go_wp2_with fail
            exact ⟨rfl, .none Hq.out rfl (O.out.trans OZ)⟩
          | cons v t =>
            cases hn : numP v with
            | none =>
              have Hq := Lib.hid (show readSt (r, u :: v :: t) = none by rw [readSt, if_neg hz, hn])
              have Hn := Lib.hid hn
              clear hz hn
              go_wp2_with (first | (go_at_call 65; refine (vneed_ok _ _).mono ?_; rintro e w' ⟨rfl, rfl⟩))
              refine (next_yes _ R.out Hd1.out).mono ?_
              rintro e w3 ⟨rfl, R3, O3⟩
              have HO3 := Lib.hid (O.out.trans O3)
              have HR3 := Lib.hid R3
              clear R3 O3
              go_wp2_with fail
              refine (vnum_int (strB v) (by have := drop_in Hd1.out Hb.out; omega) _ (L.keep (HO3.out.kp K0 (by simpa using hg)))).mono ?_
              rintro e w4 hv
              obtain ⟨v1, v2, K4⟩ := num_word hv
              obtain rfl := v2 Hn.out
              go_wp2_with fail
              exact ⟨rfl, .none Hq.out rfl (HO3.out.of_kp2 K4)⟩
            | some n =>
              have Hq := Lib.hid (show readSt (r, u :: v :: t) = some ({ r with s := ((stUp 5 u : Nat) : Int), m := n }, t) by rw [readSt, if_neg hz, hn, stUp_all])
              have Hn := Lib.hid hn
              clear hz hn
              go_wp2_with (first | (go_at_call 65; refine (vneed_ok _ _).mono ?_; rintro e w' ⟨rfl, rfl⟩))
              refine (next_yes _ R.out Hd1.out).mono ?_
              rintro e w3 ⟨rfl, R3, O3⟩
              have HO3 := Lib.hid (O.out.trans O3)
              have HR3 := Lib.hid R3
              clear R3 O3
              go_wp2_with fail
              refine (vnum_int (strB v) (by have := drop_in Hd1.out Hb.out; omega) _ (L.keep (HO3.out.kp K0 (by simpa using hg)))).mono ?_
              rintro e w4 hv
              obtain ⟨v1, v2, K4⟩ := num_word hv
              obtain rfl := v1 _ Hn.out
              clear hv v1 v2
              have B4 := HR3.out.bk.keep K4
              have q3 : w4.cell? ⟨g, 3, none⟩ = some (.int .i64 r.m) := B4.cell 3
              have z3 := B4.frozen 3
              have BS := B4.set_ 3 (.int .i64 n)
              have P4 := Lib.hid ((HO3.out.of_kp2 K4).setCell (p := ⟨g, 3, none⟩) (.inl (by simp)) (.int .i64 n))
              have Q4 := Lib.hid (show RdV (w4.setCell ⟨g, 3, none⟩ (.int .i64 n)) g A c ws { r with s := ((stUp 5 u : Nat) : Int), m := n } (k + 1 + 1) from (HR3.out.keep K4).only ((Only.refl [g] w4).setCell (.inl (by simp)) _) (by simpa [rdC] using BS) (by have := (drop_more Hd1.out).2; omega))
              clear B4 BS K4
              go_wp2_with fail
              go_end0
              exact .some Hq.out rfl P4.out (drop_more Hd1.out).1 Q4.out
end Go.Proofs.YtbfimimhgdkpaaaGreatDoor
