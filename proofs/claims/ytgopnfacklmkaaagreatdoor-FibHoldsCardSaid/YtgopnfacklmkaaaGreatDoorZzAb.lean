/- Lemmas and contracts for the theorem of this claim: WordL, ScrL, CfA, CfB, Px, Px2. -/
import Derived.Test.YtgopnfacklmkaaaGreatDoorZzAa
import Derived.Lib.OthersKept
import Derived.Lib.Join
import Derived.Lib.Bytealg
import Derived.Lib.ParseIntBTie
import Derived.Lib.ItoaNum
import Derived.Lib.ItoaMem
import Derived.Lib.Atoi
import Derived.Test.YtgopnfacklmkaaaGreatDoorProg
import Derived.LoopTactic
import Derived.Laws.IdiomStrings
import Derived.Laws.Entries
set_option linter.all false
set_option maxHeartbeats 16000000
namespace Go.Proofs.YtgopnfacklmkaaaGreatDoor
section
open Go.Lib
def parted (b : UInt8) : List UInt8 → List (List UInt8)
 | [] => [[]]
 | c :: l => if c = b then [] :: parted b l else (c :: (parted b l).headD []) :: (parted b l).tail
theorem vej {b : UInt8} : ∀ {u : List UInt8}, (∀ c ∈ u, c ≠ b) → parted b u = [u]
 | [], _ => rfl
 | c :: u, h => by
  rw [parted, if_neg (h c (by simp)), vej (fun d hd => h d (by simp [hd]))]
  rfl
theorem vfr {b : UInt8} {v : List UInt8} : ∀ {u : List UInt8}, (∀ c ∈ u, c ≠ b) → parted b (u ++ b :: v) = u :: parted b v
 | [], _ => by simp [parted]
 | c :: u, h => by
  rw [List.cons_append, parted, if_neg (h c (by simp)), vfr (fun d hd => h d (by simp [hd]))]
  rfl
def byteAt (s : ByteArray) (i : Nat) : Nat := (s.data.toList.getD i 0).toNat
theorem vgL (s : ByteArray) (i : Nat) (h : i < s.size) : s.get! i = s.data.toList.getD i 0 := by
 have h' : i < s.data.size := h
 show s.data[i]! = _
 rw [List.getD_eq_getElem?_getD, Array.getElem?_toList, getElem!_def]
 rw [Array.getElem?_eq_getElem h']
 rfl
theorem vmW (s : ByteArray) (i : Nat) (h : i < s.size) : s[i]'h = s.data.toList.getD i 0 := by
 have h' : i < s.data.size := h
 show s.data[i] = _
 rw [List.getD_eq_getElem?_getD, Array.getElem?_toList, Array.getElem?_eq_getElem h']
 rfl
theorem vlj (s : ByteArray) (i : Nat) (hi : i < s.size) (h : 128 ≤ byteAt s i) :
  128 ≤ (Utf8.decode s i).1 ∧ 1 ≤ (Utf8.decode s i).2 ∧ i + (Utf8.decode s i).2 ≤ s.size ∧ ∀ k, k < (Utf8.decode s i).2 → 128 ≤ byteAt s (i + k) := by
 have h0 : (s.get! (i + 0)).toNat = byteAt s i := by rw [Nat.add_zero, vgL s i hi]; rfl
 have one : 128 ≤ Utf8.runeError ∧ 1 ≤ 1 ∧ i + 1 ≤ s.size ∧ ∀ k, k < 1 → 128 ≤ byteAt s (i + k) :=
  ⟨by decide, Nat.le_refl _, hi, fun k hk => by obtain rfl : k = 0 := (by omega); exact h⟩
 have cont : ∀ k, (decide (i + k < s.size) && (s.get! (i + k)).toNat / 64 == 2) = true → i + k < s.size ∧ 128 ≤ byteAt s (i + k) := by
  intro k hk
  simp only [Bool.and_eq_true, decide_eq_true_eq, beq_iff_eq] at hk
  refine ⟨hk.1, ?_⟩
  have := hk.2
  rw [vgL s _ hk.1] at this
  unfold byteAt
  omega
 unfold Utf8.decode
 simp only [h0]
 rw [if_neg (by omega)]
 split
 ·rename_i hc
  rw [Bool.and_eq_true] at hc
  obtain ⟨c1, c1'⟩ := cont 1 hc.2
  split
  ·rename_i hg
   exact ⟨hg, by omega, by omega, fun k hk => by
    have : k = 0 ∨ k = 1 := by omega
    rcases this with rfl | rfl
    ·exact h
    ·exact c1'⟩
  ·exact one
 ·split
  ·rename_i hc
   rw [Bool.and_eq_true, Bool.and_eq_true] at hc
   obtain ⟨c1, c1'⟩ := cont 1 hc.1.2
   obtain ⟨c2, c2'⟩ := cont 2 hc.2
   split
   ·rename_i hg
    simp only [ge_iff_le, Bool.and_eq_true, decide_eq_true_eq] at hg
    exact ⟨by omega, by omega, by omega, fun k hk => by
     have : k = 0 ∨ k = 1 ∨ k = 2 := by omega
     rcases this with rfl | rfl | rfl
     ·exact h
     ·exact c1'
     ·exact c2'⟩
   ·exact one
  ·split
   ·rename_i hc
    rw [Bool.and_eq_true, Bool.and_eq_true, Bool.and_eq_true] at hc
    obtain ⟨c1, c1'⟩ := cont 1 hc.1.1.2
    obtain ⟨c2, c2'⟩ := cont 2 hc.1.2
    obtain ⟨c3, c3'⟩ := cont 3 hc.2
    split
    ·rename_i hg
     simp only [ge_iff_le, Bool.and_eq_true, decide_eq_true_eq] at hg
     exact ⟨by omega, by omega, by omega, fun k hk => by
      have : k = 0 ∨ k = 1 ∨ k = 2 ∨ k = 3 := by omega
      rcases this with rfl | rfl | rfl | rfl
      ·exact h
      ·exact c1'
      ·exact c2'
      ·exact c3'⟩
    ·exact one
   ·exact one
theorem viH (s : ByteArray) (i : Nat) (hi : i < s.size) (h : byteAt s i < 128) : Utf8.decode s i = (byteAt s i, 1) := by
 rw [decode_ascii s i hi (by rw [vmW s i hi]; exact h), vmW s i hi]
 rfl
theorem vlk (s : ByteArray) (i : Nat) (hi : i < s.size) :
  1 ≤ (Utf8.decode s i).2 ∧ i + (Utf8.decode s i).2 ≤ s.size ∧ ((byteAt s i < 128 ∧ Utf8.decode s i = (byteAt s i, 1)) ∨ (128 ≤ (Utf8.decode s i).1 ∧ ∀ k, k < (Utf8.decode s i).2 → 128 ≤ byteAt s (i + k))) := by
 rcases Nat.lt_or_ge (byteAt s i) 128 with h | h
 ·have e := viH s i hi h
  exact ⟨by rw [e]; exact Nat.le_refl 1, by rw [e]; exact hi, .inl ⟨h, e⟩⟩
 ·obtain ⟨a, b, c, d⟩ := vlj s i hi h
  exact ⟨b, c, .inr ⟨a, d⟩⟩
/-! ### bytes as two digits each -/
/-! ### events -/
inductive Pt where | a | b | c | d | s | x
deriving DecidableEq
end

section
open Go.RowKit
abbrev strB (l : List UInt8) : ByteArray := ⟨l.toArray⟩
theorem viI {s : ByteArray} {i : Nat} (h : i < s.size) : ∃ c : UInt8, c.toNat = byteAt s i ∧ s.data.toList.drop i = c :: s.data.toList.drop (i + 1) := by
 have h' : i < s.data.toList.length := by rw [Array.length_toList]; exact h
 refine ⟨s.data.toList[i], ?_, List.drop_eq_getElem_cons h'⟩
 unfold byteAt
 rw [List.getD_eq_getElem?_getD, List.getElem?_eq_getElem h', Option.getD_some]
def bare (w : World) : World := { w with heap := #[] }
theorem viJ (w : World) : Kp (bare w) w := ⟨rfl, rfl, rfl, Nat.zero_le _, fun k hk => absurd hk (Nat.not_lt_zero k)⟩
def strE (l : List UInt8) : List Value := [.string (strB l)]
theorem vll (l : List UInt8) : (strE l).length = 1 := rfl
theorem EStr : ElemOf Tryz.prog 94 9 (.string ⟨#[]⟩) 1 16 := ⟨Tryz.underlying94, by kernel_rfl, rfl, by decide⟩
theorem vek (s : ByteArray) (a b : Nat) : s.extract a b = strB ((s.data.toList.drop a).take (b - a)) := by
 have h := Lib.extract_data s a b
 apply ByteArray.ext
 apply Array.toList_inj.1
 rw [h]
theorem vlm {s : ByteArray} {i : Nat} (h : i < s.data.toList.length) : (s.data.toList[i]).toNat = byteAt s i := by
 unfold byteAt
 rw [List.getD_eq_getElem?_getD, List.getElem?_eq_getElem h, Option.getD_some]
theorem vmX {s : ByteArray} {a b : Nat} {x : UInt8} (h : ∀ i, a ≤ i → i < b → byteAt s i ≠ x.toNat) : ∀ c ∈ (s.data.toList.drop a).take (b - a), c ≠ x := by
 intro c hc e
 subst e
 obtain ⟨i, hi, he⟩ := List.getElem_of_mem hc
 rw [List.length_take, List.length_drop] at hi
 have hl : a + i < s.data.toList.length := by omega
 have e2 : s.data.toList[a + i] = c := by
  rw [List.getElem_take, List.getElem_drop] at he
  exact he
 exact h (a + i) (by omega) (by omega) (by rw [← vlm hl, e2])
theorem vhB {s : ByteArray} {a b : Nat} {x : UInt8} (hab : a ≤ b) (hb : b < s.size) (h : ∀ i, a ≤ i → i < b → byteAt s i ≠ x.toNat) (hx : byteAt s b = x.toNat) :
  parted x (s.data.toList.drop a) = ((s.data.toList.drop a).take (b - a)) :: parted x (s.data.toList.drop (b + 1)) := by
 obtain ⟨c, hc, hd⟩ := viI hb
 have hcx : c = x := UInt8.toNat.inj (by rw [hc, hx])
 have e : s.data.toList.drop a = (s.data.toList.drop a).take (b - a) ++ x :: s.data.toList.drop (b + 1) := by
  rw [← hcx, ← hd]
  have : s.data.toList.drop b = (s.data.toList.drop a).drop (b - a) := by rw [List.drop_drop]; congr 1; omega
  rw [this, List.take_append_drop]
 have e2 := vfr (v := s.data.toList.drop (b + 1)) (vmX h)
 rw [← e] at e2
 exact e2
theorem vgf {s : ByteArray} {a : Nat} {x : UInt8} (h : ∀ i, a ≤ i → i < s.size → byteAt s i ≠ x.toNat) : parted x (s.data.toList.drop a) = [s.data.toList.drop a] := by
 refine vej ?_
 have := vmX h
 rw [List.take_of_length_le (by rw [List.length_drop, Array.length_toList]; exact Nat.le_refl _)] at this
 exact this
theorem vni (s : ByteArray) (i : Nat) (hi : i < s.size) (x : UInt8) (hx : x.toNat < 128) :
  1 ≤ (Utf8.decode s i).2 ∧ i + (Utf8.decode s i).2 ≤ s.size ∧ ((Utf8.decode s i = (x.toNat, 1) ∧ byteAt s i = x.toNat) ∨ ((Utf8.decode s i).1 ≠ x.toNat ∧ ∀ k, k < (Utf8.decode s i).2 → byteAt s (i + k) ≠ x.toNat)) := by
 obtain ⟨a, b, h | h⟩ := vlk s i hi
 ·refine ⟨a, b, ?_⟩
  by_cases he : byteAt s i = x.toNat
  ·exact .inl ⟨by rw [h.2, he], he⟩
  ·refine .inr ⟨by rw [h.2]; exact he, fun k hk => ?_⟩
   rw [h.2] at hk
   obtain rfl : k = 0 := by simp at hk; exact hk
   exact he
 ·exact ⟨a, b, .inr ⟨by omega, fun k hk => by have := h.2 k hk; omega⟩⟩
theorem Own.iterAt {α : Type} {w : World} {B e sz : Nat} {enc : α → List Value} {v : Value} {xs : List α} (h : Own w B e sz enc v xs) {k : Nat} {s : ByteArray} {pos : Nat} (hk : w.heap[k]? = some (.stringIter s pos)) (p : Nat) : Own (w.iterAt k s p) B e sz enc v xs := by
 refine ⟨h.1, ?_⟩
 rcases h.2 with h2 | ⟨g, cap, cur, hv, hg, hh, r⟩
 ·exact .inl h2
 ·refine .inr ⟨g, cap, cur, hv, hg, (Lib.iterAt_other w k g s p ?_).trans hh, r⟩
  rintro rfl
  rw [hk] at hh
  cases hh
structure WRelC (w : World) (s : ByteArray) (pos a : Nat) (v : Value) (ws : List (List UInt8)) (wr : World) : Prop where
 le : pos ≤ s.size
 fr : a ≤ pos
 it : wr.heap[w.heap.size]? = some (.stringIter s pos)
 own : Own wr (w.heap.size + 1) 9 1 strE v ws
 no : ∀ i, a ≤ i → i < pos → byteAt s i ≠ (32 : UInt8).toNat
 wq : parted 32 s.data.toList = ws ++ parted 32 (s.data.toList.drop a)
 n5 : ws.length ≤ pos
 kp : Kp w wr
set_option maxRecDepth 100000 in
theorem vhC (s : ByteArray) (hs : s.size ≤ 1000000) (w : World) : Calls Tryz.prog 242 #[.string s] w fun e w' => ∃ v, e = .returned v ∧ Own w' w.heap.size 9 1 strE v (parted 32 s.data.toList) ∧ Kp w w' := by
 have HR : Hid (WRelC w s 0 0 (.slice none 0 0) [] (w.iter s 0)) := Lib.hid ⟨by omega, by omega, World.iter_heap w s 0, Own.nil _ _ _ _ _, fun i _ h => absurd h (by omega), by simp, by simp, (Kp.refl w).alloc _⟩
 have hlen : s.data.toList.length = s.size := by rw [Array.length_toList]; rfl
 have Hlen := Lib.hid hlen; clear hlen
 go_enter Tryz.func242, Tryz.ntmps242
 go_wp2_with fail
 go_loopw [3, 4] (fun v f wr => ∃ pos a ws, f = .int .i64 (a : Nat) ∧ Hid (WRelC w s pos a v ws wr)) (fun _ _ wr => s.size - wr.iterPos w.heap.size)
 case atStart => exact ⟨0, 0, [], rfl, HR⟩
 case round =>
  obtain ⟨pos, a, ws, rfl, R⟩ := hrel
  have hk := R.out.it
  have hfr := R.out.fr
  have hle := R.out.le
  have hn5 := R.out.n5
  have hsz := R.out.kp.size
  have hmu : wr.iterPos w.heap.size = pos := by simp [World.iterPos, hk]
  by_cases hp : pos < s.size
  ·have hnext : ∀ ty, (Instr.next (.pointer (some ⟨w.heap.size, 0, none⟩)) true ty).run Tryz.prog wr = _ := fun ty => Lib.run_next_any_at wr w.heap.size s pos ty hk hp
   have hr := Lib.hid (vni s pos hp 32 (by decide))
   obtain ⟨c, m, hcm⟩ : ∃ c m, Utf8.decode s pos = (c, m) := ⟨_, _, rfl⟩
   rw [hcm] at hnext hr
   simp only at hnext hr
   clear hcm
   have hlt := (Array.getElem?_eq_some_iff.1 hk).1
   have hK1 : Kp w (wr.iterAt w.heap.size s (pos + m)) := Lib.below_iterAt R.out.kp (Nat.le_refl _) s (pos + m)
   have hk1 := Lib.iterAt_heap wr w.heap.size s pos (pos + m) hk
   have hO1 : Own (wr.iterAt w.heap.size s (pos + m)) (w.heap.size + 1) 9 1 strE u3 ws := R.out.own.iterAt hk _
   have R' := R
   generalize wr.iterAt w.heap.size s (pos + m) = W1 at hnext hK1 hk1 hO1
   clear hk
   have hk1s : W1.heap[w.heap.size]? = some (.stringIter s (pos + m)) := hk1
   have hsz1 : w.heap.size + 1 ≤ W1.heap.size := (Array.getElem?_eq_some_iff.1 hk1).1
   obtain ⟨hm1, hm2, hcase⟩ := hr.out
   rcases hcase with ⟨hc, hb⟩ | ⟨hc, hb⟩
   ·obtain ⟨rfl, rfl⟩ : c = 32 ∧ m = 1 := by injection hc with h1 h2; exact ⟨h1, h2⟩
    have hseg := Lib.hid (vhB (x := 32) hfr hp R.out.no hb)
    have ha0 : (0 : Int) ≤ (a : Int) := by omega
    have ha1 : (a : Int) ≤ (pos : Int) := by omega
    have ha2 : (pos : Int) ≤ (s.size : Int) := by omega
    have Hext := Lib.hid (vek s a pos)
    have hnews : ([.string (s.extract a pos)] : List Value) = strE ((s.data.toList.drop a).take (pos - a)) := by rw [Hext.out]; rfl
    have Hnews := Lib.hid hnews; clear hnews
    clear hc hb
    have hnel := Own.ne hO1 (g := w.heap.size) (by omega)
    go_wp2_with (at_builtin; go_must (refine vaf EStr (w0 := bare W1) rfl _ _ rfl ((s.data.toList.drop a).take (pos - a)) rfl hO1 (viJ _) (Nat.zero_le _) hsz1 rfl rfl Hnews.out rfl rfl (by omega) ?_); intro v2 w2 hown2 hK2 hg2; obtain ⟨A2, c2, rfl⟩ := hown2.form1)
    have hK2w : Kp w w2 := hK1.grown hg2 (fun q hq => by have := (World.ownsRow.lt hO1 q hq).1; omega)
    have Hn : Hid (WRelC w s (pos + 1) (pos + 1) (.slice A2 (ws.length + 1) c2) (ws ++ [(s.data.toList.drop a).take (pos - a)]) w2) := Lib.hid
     ⟨hm2, Nat.le_refl _, (hg2.block _ (by omega) hnel).trans hk1s, hown2, fun i h1 h2 => absurd h1 (by omega), by rw [R.out.wq, hseg.out]; simp, by simp; omega, hK2w⟩
    have hmu2 : w2.iterPos w.heap.size = pos + 1 := by simp [World.iterPos, Hn.out.it]
    go_wp2_with fail
    go_roundw
    case rel => exact ⟨pos + 1, pos + 1, _, by go_num, Hn⟩
    case measure => rw [hmu, hmu2]; omega
   ·have Hn : Hid (WRelC w s (pos + m) a u3 ws W1) := Lib.hid
     ⟨hm2, by omega, hk1s, hO1, fun i h1 h2 => by
      rcases Nat.lt_or_ge i pos with h3 | h3
      ·exact R.out.no i h1 h3
      ·have := hb (i - pos) (by omega)
       rwa [show pos + (i - pos) = i by omega] at this, R.out.wq, by omega, hK1⟩
    have hb32 : ((c : Int) == 32) = false := by rw [beq_eq_false_iff_ne]; have h32 : (32 : UInt8).toNat = 32 := rfl; omega
    have hb33 : ¬ (c : Int) = 32 := by have h32 : (32 : UInt8).toNat = 32 := rfl; omega
    have hmu2 : W1.iterPos w.heap.size = pos + m := by simp [World.iterPos, hk1s]
    obtain ⟨A3, c3, rfl⟩ := hO1.form
    clear hc hb
    go_wp2_with fail
    go_roundw
    case rel => exact ⟨pos + m, a, ws, rfl, Hn⟩
    case measure => rw [hmu, hmu2]; omega
  ·have hnext : ∀ ty, (Instr.next (.pointer (some ⟨w.heap.size, 0, none⟩)) true ty).run Tryz.prog wr = _ := fun ty => Lib.run_next_end_at wr w.heap.size s pos ty hk hp
   have hps : pos = s.size := by omega
   have hO := R.out.own
   have hKw := R.out.kp
   have hlast := Lib.hid (vgf (x := 32) (s := s) (a := a) (fun i h1 h2 => R.out.no i h1 (by omega)))
   have Hw := Lib.hid (show parted 32 s.data.toList = ws ++ [s.data.toList.drop a] by rw [R.out.wq, hlast.out])
   have hszr : w.heap.size + 1 ≤ wr.heap.size := (Array.getElem?_eq_some_iff.1 hk).1
   have Hext := Lib.hid (vek s a s.size)
   have hnews : ([.string (s.extract a s.size)] : List Value) = strE (s.data.toList.drop a) := by
    rw [Hext.out, List.take_of_length_le (by rw [List.length_drop, Hlen.out]; exact Nat.le_refl _)]; rfl
   have Hnews := Lib.hid hnews; clear hnews hk
   have ha0 : (0 : Int) ≤ (a : Int) := by omega
   have ha2 : (a : Int) ≤ (s.size : Int) := by omega
   subst hps
   go_wp2_with (at_builtin; go_must (refine vaf EStr (w0 := bare wr) rfl _ _ rfl (s.data.toList.drop a) rfl hO (viJ _) (Nat.zero_le _) hszr rfl rfl Hnews.out rfl rfl (by omega) ?_); intro v2 w2 hown2 hK2 hg2; obtain ⟨A2, c2, rfl⟩ := hown2.form1)
   go_ret
   refine ⟨_, rfl, ?_, hKw.grown hg2 (fun q hq => by have := (World.ownsRow.lt hO q hq).1; omega)⟩
   rw [Hw.out]
   exact hown2.mono (by omega)
def spC (n : Nat → ByteArray) : Array Value := #[.string (n 0), .int .i64 1, .func (.func 235) #[] #[], .string (n 1), .int .i64 0, .func (.func 236) #[] #[], .string (n 2), .int .i64 1, .func (.func 237) #[] #[], .string (n 3), .int .i64 0, .func (.func 238) #[] #[], .string (n 4), .int .i64 1, .func (.func 239) #[] #[], .string (n 5), .int .i64 0, .func (.func 240) #[] #[], .string (n 6), .int .i64 0, .func (.func 241) #[] #[]]
abbrev namesB : ByteArray := ⟨#[112, 101, 114, 105, 111, 100, 32, 106, 105, 116, 116, 101, 114, 32, 116, 105, 109, 101, 111, 117, 116, 32, 104, 111, 108, 100, 32, 103, 97, 114, 98, 97, 103, 101, 32, 113, 117, 105, 101, 116, 32, 115, 112, 114, 101, 97, 100]⟩
theorem words7 (w : World) : Calls Tryz.prog 242 #[.string namesB] w fun e w' => ∃ b c, ∃ s : Nat → ByteArray, e = .returned (.slice (some ⟨b, 0, none⟩) 7 c) ∧ (∀ k, k < 7 → w'.cell? ⟨b, k, none⟩ = some (.string (s k))) ∧ w.heap.size ≤ b ∧ Kp w w' := by
 refine (vhC namesB (by decide) w).mono ?_
 rintro e w' ⟨v, rfl, hO, K⟩
 have hlen : (parted 32 namesB.data.toList).length = 7 := by decide +kernel
 rcases hO.2 with ⟨_, h2⟩ | ⟨g, cap, cur, hv, hg, _⟩
 ·exact absurd h2 (by rw [hlen]; decide)
 ·subst hv
  have hR := Rd.of_own (by decide) vll hO
  rw [hlen]
  refine ⟨g, cap, fun k => if h : k < (parted 32 namesB.data.toList).length then strB ((parted 32 namesB.data.toList)[k]'h) else ⟨#[]⟩, rfl, fun k hk => ?_, hg, K⟩
  obtain ⟨b, off, e, hc⟩ := hR k (by rw [hlen]; exact hk)
  injection e with e
  injection e with e1 e2
  subst e1
  subst e2
  have := hc 0 _ rfl
  show w'.cell? ⟨g, k, none⟩ = some (.string (if h : k < (parted 32 namesB.data.toList).length then strB ((parted 32 namesB.data.toList)[k]'h) else ⟨#[]⟩))
  rw [dif_pos (by rw [hlen]; exact hk)]
  simpa using this
set_option maxRecDepth 100000 in
theorem viK (w : World) : Calls Tryz.prog 168 #[] w fun e w' => ∃ g, ∃ n : Nat → ByteArray, e = .returned (.slice (some ⟨g, 0, none⟩) 7 7) ∧ Blk w' g 295 (spC n) ∧ w.heap.size ≤ g ∧ Kp w w' := by
 obtain ⟨g, hg⟩ : ∃ g, w.heap.size = g := ⟨_, rfl⟩
 obtain ⟨W0, hW0, K0, B0⟩ := Blk.al1 hg (spC (fun _ => ⟨#[]⟩)) 295
 have HW0 := hW0
 unfold spC at HW0
 go_enter Tryz.func168, Tryz.ntmps168
 go_wp2_with fail
 refine (words7 _).mono ?_
 rintro e w1 ⟨b, c, s, rfl, hs, hb, K1⟩
 have hgb : g < b := by have := B0.lt; omega
 have K := K0.trans K1
 have hCW : ∀ k, k < 7 → w1.cell? ⟨b, k, none⟩ = some (.string (s k)) := hs
 have BG := B0.keep K1
 clear hs hW0 HW0 K0 B0 K1 hb
 obtain ⟨n, hn⟩ : ∃ n : Nat → ByteArray, (fun _ => ⟨#[]⟩) = n := ⟨_, rfl⟩
 rw [hn] at BG
 clear hn
 have hbg : ¬ b = g := by omega
 have hgb2 : ¬ g = b := by omega
 go_wp2_with fail
 refine wp_loop_rounds 8 ?_
 have HC := Lib.hid hCW
 have HB := Lib.hid BG
 have sk := hCW 0 (by omega)
 have fk : w1.frozen? ⟨g, 0, none⟩ = false := BG.frozen 0
 have ck : w1.cell? ⟨g, 0, none⟩ = some (.string (n 0)) := BG.cell 0
 clear hCW BG
 rw [rounds_succ]
 go_wp2_with fail
 obtain ⟨X1, hW, K1, B'', C1⟩ : ∃ W, w1.setCell ⟨g, 0, none⟩ (.string (s 0)) = W ∧ Kp w W ∧ Blk W g 295 (spC (fun j => if j = 0 then s 0 else n j)) ∧ ∀ k, k < 7 → W.cell? ⟨b, k, none⟩ = some (.string (s k)) :=
  ⟨_, rfl, K.setCell (by show w.heap.size ≤ g; omega) _, HB.out.set_ 0 (.string (s 0)), fun k hk => by rw [World.cell?_setCell_other _ _ _ _ (by intro e; injection e with e; exact hgb2 e)]; exact HC.out k hk⟩
 rw [hW]
 clear hW HC HB sk fk ck K
 obtain ⟨m1, hn⟩ : ∃ n2 : Nat → ByteArray, (fun j => if j = 0 then s 0 else n j) = n2 := ⟨_, rfl⟩
 rw [hn] at B''
 have B1 := B''
 clear hn B''
 have HC := Lib.hid C1
 have HB := Lib.hid B1
 have sk := C1 1 (by omega)
 have fk : X1.frozen? ⟨g, 3, none⟩ = false := B1.frozen 3
 have ck : X1.cell? ⟨g, 3, none⟩ = some (.string (m1 1)) := B1.cell 3
 clear C1 B1
 rw [rounds_succ]
 go_wp2_with fail
 obtain ⟨X2, hW, K2, B'', C2⟩ : ∃ W, X1.setCell ⟨g, 3, none⟩ (.string (s 1)) = W ∧ Kp w W ∧ Blk W g 295 (spC (fun j => if j = 1 then s 1 else m1 j)) ∧ ∀ k, k < 7 → W.cell? ⟨b, k, none⟩ = some (.string (s k)) :=
  ⟨_, rfl, K1.setCell (by show w.heap.size ≤ g; omega) _, HB.out.set_ 3 (.string (s 1)), fun k hk => by rw [World.cell?_setCell_other _ _ _ _ (by intro e; injection e with e; exact hgb2 e)]; exact HC.out k hk⟩
 rw [hW]
 clear hW HC HB sk fk ck K1
 obtain ⟨m2, hn⟩ : ∃ n2 : Nat → ByteArray, (fun j => if j = 1 then s 1 else m1 j) = n2 := ⟨_, rfl⟩
 rw [hn] at B''
 have B2 := B''
 clear hn B''
 have HC := Lib.hid C2
 have HB := Lib.hid B2
 have sk := C2 2 (by omega)
 have fk : X2.frozen? ⟨g, 6, none⟩ = false := B2.frozen 6
 have ck : X2.cell? ⟨g, 6, none⟩ = some (.string (m2 2)) := B2.cell 6
 clear C2 B2
 rw [rounds_succ]
 go_wp2_with fail
 obtain ⟨X3, hW, K3, B'', C3⟩ : ∃ W, X2.setCell ⟨g, 6, none⟩ (.string (s 2)) = W ∧ Kp w W ∧ Blk W g 295 (spC (fun j => if j = 2 then s 2 else m2 j)) ∧ ∀ k, k < 7 → W.cell? ⟨b, k, none⟩ = some (.string (s k)) :=
  ⟨_, rfl, K2.setCell (by show w.heap.size ≤ g; omega) _, HB.out.set_ 6 (.string (s 2)), fun k hk => by rw [World.cell?_setCell_other _ _ _ _ (by intro e; injection e with e; exact hgb2 e)]; exact HC.out k hk⟩
 rw [hW]
 clear hW HC HB sk fk ck K2
 obtain ⟨m3, hn⟩ : ∃ n2 : Nat → ByteArray, (fun j => if j = 2 then s 2 else m2 j) = n2 := ⟨_, rfl⟩
 rw [hn] at B''
 have B3 := B''
 clear hn B''
 have HC := Lib.hid C3
 have HB := Lib.hid B3
 have sk := C3 3 (by omega)
 have fk : X3.frozen? ⟨g, 9, none⟩ = false := B3.frozen 9
 have ck : X3.cell? ⟨g, 9, none⟩ = some (.string (m3 3)) := B3.cell 9
 clear C3 B3
 rw [rounds_succ]
 go_wp2_with fail
 obtain ⟨X4, hW, K4, B'', C4⟩ : ∃ W, X3.setCell ⟨g, 9, none⟩ (.string (s 3)) = W ∧ Kp w W ∧ Blk W g 295 (spC (fun j => if j = 3 then s 3 else m3 j)) ∧ ∀ k, k < 7 → W.cell? ⟨b, k, none⟩ = some (.string (s k)) :=
  ⟨_, rfl, K3.setCell (by show w.heap.size ≤ g; omega) _, HB.out.set_ 9 (.string (s 3)), fun k hk => by rw [World.cell?_setCell_other _ _ _ _ (by intro e; injection e with e; exact hgb2 e)]; exact HC.out k hk⟩
 rw [hW]
 clear hW HC HB sk fk ck K3
 obtain ⟨m4, hn⟩ : ∃ n2 : Nat → ByteArray, (fun j => if j = 3 then s 3 else m3 j) = n2 := ⟨_, rfl⟩
 rw [hn] at B''
 have B4 := B''
 clear hn B''
 have HC := Lib.hid C4
 have HB := Lib.hid B4
 have sk := C4 4 (by omega)
 have fk : X4.frozen? ⟨g, 12, none⟩ = false := B4.frozen 12
 have ck : X4.cell? ⟨g, 12, none⟩ = some (.string (m4 4)) := B4.cell 12
 clear C4 B4
 rw [rounds_succ]
 go_wp2_with fail
 obtain ⟨X5, hW, K5, B'', C5⟩ : ∃ W, X4.setCell ⟨g, 12, none⟩ (.string (s 4)) = W ∧ Kp w W ∧ Blk W g 295 (spC (fun j => if j = 4 then s 4 else m4 j)) ∧ ∀ k, k < 7 → W.cell? ⟨b, k, none⟩ = some (.string (s k)) :=
  ⟨_, rfl, K4.setCell (by show w.heap.size ≤ g; omega) _, HB.out.set_ 12 (.string (s 4)), fun k hk => by rw [World.cell?_setCell_other _ _ _ _ (by intro e; injection e with e; exact hgb2 e)]; exact HC.out k hk⟩
 rw [hW]
 clear hW HC HB sk fk ck K4
 obtain ⟨m5, hn⟩ : ∃ n2 : Nat → ByteArray, (fun j => if j = 4 then s 4 else m4 j) = n2 := ⟨_, rfl⟩
 rw [hn] at B''
 have B5 := B''
 clear hn B''
 have HC := Lib.hid C5
 have HB := Lib.hid B5
 have sk := C5 5 (by omega)
 have fk : X5.frozen? ⟨g, 15, none⟩ = false := B5.frozen 15
 have ck : X5.cell? ⟨g, 15, none⟩ = some (.string (m5 5)) := B5.cell 15
 clear C5 B5
 rw [rounds_succ]
 go_wp2_with fail
 obtain ⟨X6, hW, K6, B'', C6⟩ : ∃ W, X5.setCell ⟨g, 15, none⟩ (.string (s 5)) = W ∧ Kp w W ∧ Blk W g 295 (spC (fun j => if j = 5 then s 5 else m5 j)) ∧ ∀ k, k < 7 → W.cell? ⟨b, k, none⟩ = some (.string (s k)) :=
  ⟨_, rfl, K5.setCell (by show w.heap.size ≤ g; omega) _, HB.out.set_ 15 (.string (s 5)), fun k hk => by rw [World.cell?_setCell_other _ _ _ _ (by intro e; injection e with e; exact hgb2 e)]; exact HC.out k hk⟩
 rw [hW]
 clear hW HC HB sk fk ck K5
 obtain ⟨m6, hn⟩ : ∃ n2 : Nat → ByteArray, (fun j => if j = 5 then s 5 else m5 j) = n2 := ⟨_, rfl⟩
 rw [hn] at B''
 have B6 := B''
 clear hn B''
 have HC := Lib.hid C6
 have HB := Lib.hid B6
 have sk := C6 6 (by omega)
 have fk : X6.frozen? ⟨g, 18, none⟩ = false := B6.frozen 18
 have ck : X6.cell? ⟨g, 18, none⟩ = some (.string (m6 6)) := B6.cell 18
 clear C6 B6
 rw [rounds_succ]
 go_wp2_with fail
 obtain ⟨X7, hW, K7, B'', C7⟩ : ∃ W, X6.setCell ⟨g, 18, none⟩ (.string (s 6)) = W ∧ Kp w W ∧ Blk W g 295 (spC (fun j => if j = 6 then s 6 else m6 j)) ∧ ∀ k, k < 7 → W.cell? ⟨b, k, none⟩ = some (.string (s k)) :=
  ⟨_, rfl, K6.setCell (by show w.heap.size ≤ g; omega) _, HB.out.set_ 18 (.string (s 6)), fun k hk => by rw [World.cell?_setCell_other _ _ _ _ (by intro e; injection e with e; exact hgb2 e)]; exact HC.out k hk⟩
 rw [hW]
 clear hW HC HB sk fk ck K6
 obtain ⟨m7, hn⟩ : ∃ n2 : Nat → ByteArray, (fun j => if j = 6 then s 6 else m6 j) = n2 := ⟨_, rfl⟩
 rw [hn] at B''
 have B7 := B''
 clear hn B''
 rw [rounds_succ]
 go_wp2_with fail
 go_ret
 exact ⟨g, m7, rfl, B7, by omega, K7⟩
end

section
def cut (a n : Nat) : Nat := a / 2 ^ (32 - n) * 2 ^ (32 - n)
def bitN (a i : Nat) : Nat := if i < 32 then a / 2 ^ (31 - i) % 2 else 0
structure Pn where
 a : Nat
 l : Nat
deriving DecidableEq
def Pn.ok (p : Pn) : Prop := p.a < 4294967296 ∧ p.l ≤ 32 ∧ cut p.a p.l = p.a
def Pn.holds (p q : Pn) : Prop := p.l ≤ q.l ∧ cut q.a p.l = p.a
instance (p q : Pn) : Decidable (p.holds q) := inferInstanceAs (Decidable (_ ∧ _))
def Pn.child (p : Pn) (i : Nat) : Pn := ⟨p.a + i * 2 ^ (31 - p.l), p.l + 1⟩
def Pn.lt (p q : Pn) : Prop := p.a < q.a ∨ (p.a = q.a ∧ p.l < q.l)
instance (p q : Pn) : Decidable (p.lt q) := inferInstanceAs (Decidable (_ ∨ _))
theorem vel (a n : Nat) : cut a n ≤ a := Nat.div_mul_le_self _ _
theorem vmY (a n : Nat) : a < cut a n + 2 ^ (32 - n) := by
 unfold cut
 have h := Nat.div_add_mod a (2 ^ (32 - n))
 have h2 := Nat.mod_lt a (show 0 < 2 ^ (32 - n) from Nat.two_pow_pos _)
 rw [Nat.mul_comm]; omega
theorem viL (a : Nat) : cut a 32 = a := by simp [cut]
theorem vcd (a : Nat) {n m : Nat} (h : n ≤ m) (hm : m ≤ 32) : cut (cut a m) n = cut a n := by
 unfold cut
 obtain ⟨k, rfl⟩ : ∃ k, m = n + k := ⟨m - n, by omega⟩
 have e : 2 ^ (32 - n) = 2 ^ (32 - (n + k)) * 2 ^ k := by rw [← Nat.pow_add]; congr 1; omega
 rw [e]
 generalize hs : 2 ^ (32 - (n + k)) = s
 have hs0 : 0 < s := by rw [← hs]; exact Nat.two_pow_pos _
 rw [← Nat.div_div_eq_div_mul, Nat.mul_div_cancel _ hs0, Nat.div_div_eq_div_mul]
theorem veF {n : Nat} (h : n < 32) : 2 ^ (32 - n) = 2 * 2 ^ (31 - n) := by
 rw [show 32 - n = (31 - n) + 1 by omega, Nat.pow_succ]; omega
theorem vbs (a : Nat) {n : Nat} (h : n < 32) : cut a (n + 1) = cut a n + bitN a n * 2 ^ (31 - n) := by
 unfold cut bitN
 rw [if_pos h, veF h, show 32 - (n + 1) = 31 - n by omega]
 generalize hs : 2 ^ (31 - n) = s
 have e : a / (2 * s) = a / s / 2 := by rw [Nat.mul_comm, Nat.div_div_eq_div_mul]
 rw [e]
 generalize a / s = q
 have := Nat.div_add_mod q 2
 calc q * s = (2 * (q / 2) + q % 2) * s := by rw [this]
  _ = q / 2 * (2 * s) + q % 2 * s := by rw [Nat.add_mul, Nat.mul_comm 2 (q / 2), Nat.mul_assoc]
theorem vcm (a i : Nat) : bitN a i < 2 := by unfold bitN; split <;> omega
theorem vem {p : Pn} (h : p.ok) : p.holds p := ⟨Nat.le_refl _, h.2.2⟩
theorem vaJ {p q r : Pn} (h1 : p.holds q) (h2 : q.holds r) (hq : q.l ≤ 32) : p.holds r := by
 refine ⟨Nat.le_trans h1.1 h2.1, ?_⟩
 rw [← vcd r.a h1.1 hq, h2.2, h1.2]
theorem ven {p q r : Pn} (h1 : p.holds r) (h2 : q.holds r) (h : p.l ≤ q.l) (hq : q.l ≤ 32) : p.holds q := by
 refine ⟨h, ?_⟩
 rw [← h2.2, vcd r.a h hq, h1.2]
theorem vbe {p q : Pn} (h : p.holds q) (hl : p.l = q.l) (hq : q.ok) : p = q := by
 have := h.2
 rw [hl, hq.2.2] at this
 cases p; cases q; simp at this hl ⊢; exact ⟨this.symm, hl⟩
theorem vaK {p q : Pn} (h : p.holds q) (hl : p.l < q.l) (hq : q.l ≤ 32) : (p.child (bitN q.a p.l)).holds q := by
 refine ⟨hl, ?_⟩
 show cut q.a (p.l + 1) = p.a + bitN q.a p.l * 2 ^ (31 - p.l)
 rw [vbs q.a (by omega), h.2]
theorem vgg {p : Pn} {i : Nat} (hi : i < 2) (hp : p.ok) (hl : p.l < 32) : p.holds (p.child i) := by
 refine ⟨Nat.le_succ _, ?_⟩
 show cut (p.a + i * 2 ^ (31 - p.l)) p.l = p.a
 have hc := hp.2.2
 unfold cut at hc ⊢
 rw [veF hl] at hc ⊢
 generalize 2 ^ (31 - p.l) = s at *
 by_cases hs : s = 0
 ·subst hs; simp at hc ⊢; omega
 ·have e : (p.a + i * s) / (2 * s) = p.a / (2 * s) := by
   have hd : p.a = p.a / (2 * s) * (2 * s) := hc.symm
   generalize p.a / (2 * s) = q at hd
   rw [hd]
   have h1 : i * s < 2 * s := Nat.mul_lt_mul_of_pos_right hi (by omega)
   rw [Nat.add_comm, Nat.add_mul_div_right _ _ (by omega), Nat.div_eq_of_lt h1, Nat.zero_add]
  rw [e, hc]
theorem vad {p q : Pn} {i : Nat} (hi : i < 2) (hp : p.ok) (h : (p.child i).holds q) (hq : q.l ≤ 32) : p.holds q ∧ p.l < q.l ∧ bitN q.a p.l = i := by
 have hl : p.l < q.l := h.1
 have h1 : p.holds q := vaJ (vgg hi hp (by omega)) h (show p.l + 1 ≤ 32 by omega)
 refine ⟨h1, hl, ?_⟩
 have e : cut q.a (p.l + 1) = p.a + i * 2 ^ (31 - p.l) := h.2
 rw [vbs q.a (by omega), h1.2] at e
 have : bitN q.a p.l * 2 ^ (31 - p.l) = i * 2 ^ (31 - p.l) := by omega
 exact Nat.eq_of_mul_eq_mul_right (Nat.two_pow_pos _) this
theorem vgM {p : Pn} {i : Nat} (hi : i < 2) (hp : p.ok) (hl : p.l < 32) : (p.child i).ok := by
 have hb := vmY p.a p.l
 obtain ⟨h1, h2, h3⟩ := hp
 have h4 : p.a + i * 2 ^ (31 - p.l) < 4294967296 ∧ cut (p.a + i * 2 ^ (31 - p.l)) (p.l + 1) = p.a + i * 2 ^ (31 - p.l) := by
  unfold cut at h3 ⊢
  rw [veF hl] at h3
  rw [show 32 - (p.l + 1) = 31 - p.l by omega]
  have hpow : 4294967296 = 2 ^ (31 - p.l) * 2 ^ (p.l + 1) := by rw [← Nat.pow_add, show 31 - p.l + (p.l + 1) = 32 by omega]
  have hs0 : 0 < 2 ^ (31 - p.l) := Nat.two_pow_pos _
  have he : ∃ t, 2 ^ (p.l + 1) = 2 * t := ⟨2 ^ p.l, by rw [Nat.pow_succ]; omega⟩
  obtain ⟨t, ht⟩ := he
  rw [ht] at hpow
  generalize 2 ^ (31 - p.l) = s at *
  generalize hq : p.a / (2 * s) = q at *
  rw [← h3] at h1 ⊢
  have e1 : q * (2 * s) + i * s = (2 * q + i) * s := by rw [Nat.add_mul, Nat.mul_comm 2 q, Nat.mul_assoc]
  rw [e1, Nat.mul_div_cancel _ hs0]
  refine ⟨?_, rfl⟩
  have h5 : q * (2 * s) < s * (2 * t) := by omega
  have h6 : q < t := by
   apply Nat.lt_of_mul_lt_mul_left (a := 2 * s)
   rw [Nat.mul_comm (2 * s) q]
   calc q * (2 * s) < s * (2 * t) := h5
    _ = 2 * s * t := by rw [Nat.mul_comm 2 t, ← Nat.mul_assoc, Nat.mul_comm (s * t) 2, Nat.mul_assoc]
  rw [hpow, Nat.mul_comm]
  exact Nat.mul_lt_mul_of_pos_left (by omega) hs0
 exact ⟨h4.1, by show p.l + 1 ≤ 32; omega, h4.2⟩
theorem vbC {p q : Pn} (h : p.holds q) (hl : p.l < q.l) : p.lt q := by
 have := vel q.a p.l
 rw [h.2] at this
 unfold Pn.lt
 omega
theorem vln {p q r : Pn} (h0 : (p.child 0).holds q) (h1 : (p.child 1).holds r) (hl : p.l < 32) : q.lt r := by
 have e0 : cut q.a (p.l + 1) = p.a + 0 * 2 ^ (31 - p.l) := h0.2
 have e1 : cut r.a (p.l + 1) = p.a + 1 * 2 ^ (31 - p.l) := h1.2
 have h2 := vmY q.a (p.l + 1)
 have h3 := vel r.a (p.l + 1)
 rw [show 32 - (p.l + 1) = 31 - p.l by omega] at h2
 left
 omega
theorem vdc {p q r : Pn} (h1 : p.lt q) (h2 : q.lt r) : p.lt r := by unfold Pn.lt at *; omega
theorem lt_irrefl (p : Pn) : ¬ p.lt p := by unfold Pn.lt; omega
theorem vgN (p q : Pn) : p.lt q ∨ p = q ∨ q.lt p := by
 unfold Pn.lt
 by_cases h : p.a = q.a
 ·by_cases h2 : p.l = q.l
  ·right; left; cases p; cases q; simp at h h2; simp [h, h2]
  ·omega
 ·omega
def Pn.take (p : Pn) (n : Nat) : Pn := ⟨cut p.a n, n⟩
theorem vhD (p : Pn) {n : Nat} (hn : n ≤ p.l) : (p.take n).holds p := ⟨hn, rfl⟩
theorem viM {p : Pn} (hp : p.ok) {n : Nat} (hn : n ≤ p.l) : (p.take n).ok := ⟨Nat.lt_of_le_of_lt (vel _ _) hp.1, Nat.le_trans hn hp.2.1, vcd p.a (Nat.le_refl _) (Nat.le_trans hn hp.2.1)⟩
theorem vhE {c p : Pn} (h : c.holds p) : c = p.take c.l := by
 cases c with
 | mk a l => have := h.2; simp at this; simp [Pn.take, this]
def comLen (p q : Pn) : Nat → Nat
 | 0 => 0
 | n + 1 => if (p.take (n + 1)).holds q then n + 1 else comLen p q n
def Pn.com (p q : Pn) : Pn := p.take (comLen p q p.l)
theorem vbD (p q : Pn) : ∀ n, comLen p q n ≤ n
 | 0 => Nat.le_refl _
 | n + 1 => by
  have := vbD p q n
  unfold comLen; split <;> omega
theorem vbf {p q : Pn} (hp : p.ok) (hq : q.ok) : ∀ n, n ≤ p.l → (p.take (comLen p q n)).holds q
 | 0, _ => by
  refine ⟨Nat.zero_le _, ?_⟩
  show cut q.a 0 = cut p.a 0
  have h1 := hp.1
  have h2 := hq.1
  unfold cut
  rw [Nat.div_eq_of_lt (by simpa using h2), Nat.div_eq_of_lt (by simpa using h1)]
 | n + 1, hn => by
  unfold comLen
  split
  ·assumption
  ·exact vbf hp hq n (by omega)
theorem vbO {p q : Pn} : ∀ n k, k ≤ n → (p.take k).holds q → k ≤ comLen p q n
 | 0, k, hk, _ => by omega
 | n + 1, k, hk, h => by
  unfold comLen
  split
  ·exact hk
  ·rename_i hn
   by_cases e : k = n + 1
   ·subst e; exact absurd h hn
   ·exact vbO n k (by omega) h
theorem vcn {p q : Pn} : (p.com q).holds p := vhD p (vbD p q p.l)
theorem vdp {p q : Pn} (hp : p.ok) (hq : q.ok) : (p.com q).holds q := vbf hp hq p.l (Nat.le_refl _)
theorem viN {p q : Pn} (hp : p.ok) : (p.com q).ok := viM hp (vbD p q p.l)
theorem viO {p q c : Pn} (h1 : c.holds p) (h2 : c.holds q) : c.l ≤ (p.com q).l := by
 show c.l ≤ comLen p q p.l
 exact vbO p.l c.l h1.1 (by rw [← vhE h1]; exact h2)
theorem vgO {p q : Pn} (hp : p.ok) (hq : q.ok) (h1 : (p.com q).l < p.l) (h2 : (p.com q).l < q.l) : bitN p.a (p.com q).l ≠ bitN q.a (p.com q).l := by
 intro e
 have c1 := vaK (vcn (p := p) (q := q)) h1 hp.2.1
 have c2 := vaK (vdp hp hq) h2 hq.2.1
 rw [e] at c1
 have := viO c1 c2
 have e2 : ((p.com q).child (bitN q.a (p.com q).l)).l = (p.com q).l + 1 := rfl
 omega
theorem vgP {a : Nat} (h : a < 4294967296) : cut a 0 = 0 := by
 unfold cut
 rw [Nat.div_eq_of_lt (by simpa using h), Nat.zero_mul]
theorem voB (a : Nat) {n m : Nat} (h : n ≤ m) (hm : m ≤ 32) : cut a n ≤ cut a m := by
 rw [← vcd a h hm]; exact vel _ _
theorem vfs {a n : Nat} (hn : n ≤ 32) : (∀ i, n ≤ i → i < 32 → bitN a i = 0) ↔ cut a n = a := by
 constructor
 ·intro h
  have key : ∀ k, k ≤ 32 - n → cut a (n + k) = cut a n := by
   intro k
   induction k with
   | zero => intro _; rfl
   | succ k ih =>
    intro hk
    rw [show n + (k + 1) = (n + k) + 1 by omega, vbs a (by omega), h (n + k) (by omega) (by omega), ih (by omega)]
    omega
  have := key (32 - n) (Nat.le_refl _)
  rw [show n + (32 - n) = 32 by omega, viL] at this
  exact this.symm
 ·intro h i hi h32
  have h1 := voB a hi (by omega)
  have h2 := vel a (i + 1)
  rw [vbs a h32] at h2
  have h3 := vcm a i
  rw [h] at h1
  have h4 : 0 < 2 ^ (31 - i) := Nat.two_pow_pos _
  rcases Nat.eq_zero_or_pos (bitN a i) with h5 | h5
  ·exact h5
  ·have : 2 ^ (31 - i) ≤ bitN a i * 2 ^ (31 - i) := Nat.le_mul_of_pos_left _ h5
   omega
theorem vft {a b n : Nat} (ha : a < 4294967296) (hb : b < 4294967296) (hn : n ≤ 32) : (∀ i, i < n → bitN a i = bitN b i) ↔ cut a n = cut b n := by
 induction n with
 | zero => simp [vgP ha, vgP hb]
 | succ n ih =>
  have ih := ih (by omega)
  rw [vbs a (by omega), vbs b (by omega)]
  constructor
  ·intro h
   rw [ih.1 (fun i hi => h i (by omega)), h n (by omega)]
  ·intro h
   have h1 : cut a n = cut b n := by
    have e : ∀ c, cut (cut c n + bitN c n * 2 ^ (31 - n)) n = cut c n := fun c => by
     rw [← vbs c (by omega), vcd c (Nat.le_succ _) (by omega)]
    have := congrArg (fun x => cut x n) h
    simp only [e] at this
    exact this
   intro i hi
   by_cases e : i = n
   ·subst e
    rw [h1] at h
    have : bitN a i * 2 ^ (31 - i) = bitN b i * 2 ^ (31 - i) := by omega
    exact Nat.eq_of_mul_eq_mul_right (Nat.two_pow_pos _) this
   ·exact ih.2 h1 i (by omega)
def maskN (n : Nat) : Nat := 4294967296 - 2 ^ (32 - n)
theorem vdd (n : Nat) : 2 ^ (32 - n) ≤ 4294967296 := by
 have := Nat.pow_le_pow_right (show 0 < 2 by omega) (show 32 - n ≤ 32 by omega)
 simpa using this
theorem vgQ {a n : Nat} (ha : a < 4294967296) (hn : n ≤ 32) : a &&& maskN n = cut a n := by
 have hm : maskN n = (2 ^ n - 1) * 2 ^ (32 - n) := by
  unfold maskN
  rw [Nat.sub_mul, Nat.one_mul, ← Nat.pow_add, show n + (32 - n) = 32 by omega]
 rw [hm]
 apply Nat.eq_of_testBit_eq
 intro i
 unfold cut
 rw [Nat.testBit_and, Nat.testBit_mul_two_pow, Nat.testBit_mul_two_pow, Nat.testBit_two_pow_sub_one, Nat.testBit_div_two_pow]
 by_cases h : 32 - n ≤ i
 ·have e : 32 - n + (i - (32 - n)) = i := by omega
  have e' : i - (32 - n) + (32 - n) = i := by omega
  by_cases h2 : i - (32 - n) < n
  ·simp [h, h2, e, e']
  ·have h3 : a.testBit i = false := Nat.testBit_lt_two_pow (Nat.lt_of_lt_of_le ha (by
    have := Nat.pow_le_pow_right (show 0 < 2 by omega) (show 32 ≤ i by omega)
    simpa using this))
   simp [h, h2, e, e', h3]
 ·simp [h]
theorem vgh {a n : Nat} (ha : a < 4294967296) (hn : n ≤ 32) : a &&& (4294967295 - maskN n) = a - cut a n := by
 have hm : 4294967295 - maskN n = 2 ^ (32 - n) - 1 := by have := vdd n; have := Nat.two_pow_pos (32 - n); unfold maskN; omega
 rw [hm, Nat.and_two_pow_sub_one_eq_mod]
 unfold cut
 have := Nat.div_add_mod a (2 ^ (32 - n))
 rw [Nat.mul_comm] at this
 omega
end

end Go.Proofs.YtgopnfacklmkaaaGreatDoor
