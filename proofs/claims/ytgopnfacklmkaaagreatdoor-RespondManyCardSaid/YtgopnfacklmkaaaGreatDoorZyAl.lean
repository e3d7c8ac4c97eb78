/- Lemmas and contracts for the theorem of this claim: GdA, RpB, WordL, ScrL, CfA, CfB, POrd. -/
import Derived.Test.YtgopnfacklmkaaaGreatDoorZyAc
import Derived.Test.YtgopnfacklmkaaaGreatDoorZyAk
import Derived.Lib.OthersKept
import Derived.Lib.Join
import Derived.Lib.Bytealg
import Derived.Lib.ParseIntBTie
import Derived.Lib.ItoaNum
import Derived.Lib.ItoaMem
import Derived.Lib.Atoi
import Derived.Test.YtgopnfacklmkaaaGreatDoorProg
import Derived.LoopTactic
import Derived.Laws.IdiomStrings
set_option linter.all false
set_option maxHeartbeats 16000000
namespace Go.Proofs.YtgopnfacklmkaaaGreatDoor
section
open Go.RowKit
set_option maxRecDepth 100000 in
theorem vgJ (n : Nat) (w : World) (hn : n ≤ 32) : Calls Tryz.prog 69 #[.int .i64 n] w fun e w' => e = .returned (.int .u32 (maskN n)) ∧ w = w' := by
 have HR := Lib.hid (vkw hn)
 go_enter Tryz.func69, Tryz.ntmps69
 go_wp2_with fail
 go_loop [3, 4] (fun v k => ∃ i : Nat, i ≤ 32 ∧ k = .int .i64 i ∧ v = .int .u32 (mskN n i)) (fun _ k => 32 - (intOf k).toNat)
 case atStart => exact ⟨0, by omega, rfl, by rw [vio]; rfl⟩
 case round =>
  obtain ⟨i, hi, rfl, rfl⟩ := hrel
  by_cases hlt : i < 32
  ·have hd : decide ((i : Int) < 32) = true := by simp; omega
   have hb := vlx n i
   have hb2 : 2 ^ i ≤ 2 ^ 31 := Nat.pow_le_pow_right (by omega) (by omega)
   have hb3 : mskN n i < 2147483648 := Nat.lt_of_lt_of_le hb (by simpa using hb2)
   clear hb hb2
   obtain ⟨x, hx⟩ : ∃ x, mskN n i = x := ⟨_, rfl⟩
   rw [hx] at hb3 ⊢
   have Hx := Lib.hid hx; clear hx
   by_cases hin : i < n
   ·have hd2 : decide ((i : Int) < n) = true := by simpa using hin
    have hd3 : decide (i < n) = true := by simpa using hin
    go_wp2_with fail
    go_round
    case rel => exact ⟨i + 1, by omega, by go_num, by rw [vip hin, Hx.out]; simp⟩
    case measure => simp [intOf]; omega
   ·have hd2 : decide ((i : Int) < n) = false := by simpa using hin
    have hd3 : decide (i < n) = false := by simpa using hin
    go_wp2_with fail
    go_round
    case rel => exact ⟨i + 1, by omega, by go_num, by rw [viq hin, Hx.out]; simp⟩
    case measure => simp [intOf]; omega
  ·obtain rfl : i = 32 := by omega
   rw [HR.out]
   go_wp2_with fail
   go_ret
   exact ⟨rfl, rfl⟩
def OneM (wc : World) (g : Nat) (e : En) (_ : Unit) (L : Nat → Bool) (W : World) : Prop := (L 8 = false → Kp wc W) ∧ (L 8 = true → ∃ V, Kp wc V ∧ enSet V g e = W)
set_option maxRecDepth 100000 in
theorem vaw (p : PI) (k : Nat) (w : World) (hl : 0 ≤ p.l ∧ p.l ≤ 32) (hk : k < 4294967296) : Calls Tryz.prog 19 #[.agg #[.int .u32 (p.a : Int), .int .i64 p.l], .int .i64 (k : Int)] w fun e w' => e = .returned (enV (oneE p k)) ∧ Kp w w' := by
 obtain ⟨b, hb⟩ : ∃ b, w.heap.size = b := ⟨_, rfl⟩
 obtain ⟨W, hW, kW, B0, B1⟩ := Blk.al2 hb #[.int .u32 (p.a : Int), .int .i64 p.l] 39 zeroEC 66
 unfold zeroEC at hW
 obtain ⟨n, hn⟩ := Int.eq_ofNat_of_zero_le hl.1
 have hn32 : n ≤ 32 := by omega
 have HP := Lib.hid hn
 have HE : Hid (oneE p k = ⟨2, 0, p.a, maskN n, 0, k⟩) := Lib.hid (by unfold oneE; rw [hn]; rfl)
 have hm : IntKind.u32.wrap (k : Int) = (k : Int) := by show (k : Int) % 4294967296 = _; omega
 have HB0 := Lib.hid B0
 have HB1 := Lib.hid B1
 clear hn hl B0 B1
 go_enter Tryz.func19, Tryz.ntmps19
 go_upto_region 1 with (fail)
 clear hW
 refine' vau (OneM W (b + 1) ⟨2, 0, p.a, maskN n, 0, k⟩) [5, 6, 7, 8, 9, 10, 11, 12, 10008] (fun (_ : Unit) => [.pointer (some ⟨b, 0, none⟩), .int .u32 (p.a : Int), .pointer (some ⟨b, 1, none⟩), .int .i64 (n : Int), .int .u32 (maskN n : Int), .int .i64 (k : Int), .int .u32 (k : Int), .agg #[.int .i64 2, .int .i64 0, .int .u32 (p.a : Int), .int .u32 (maskN n : Int), .int .u32 0, .int .u32 (k : Int)], undef]) (List.replicate 9 true) [8] (by kernel_rfl) (by kernel_rfl) (fun _ => rfl) (fun _ => rfl) (fun _ => rfl) () ⟨(fun _ => (Kp.refl _).drew), (fun h => by cases h)⟩ (fun _ _ _ _ q h => ⟨fun d => h.1 ((q 8 (by simp)) ▸ d), fun d => h.2 ((q 8 (by simp)) ▸ d)⟩) ?_ ?_ ?_
 rotate_left
 ·intro z; simp only [List.zip_cons_cons, List.zip_nil_right, wrC, wrN, List.set_cons_zero, List.set_cons_succ, List.set_nil]; rfl
 ·repeat' (first | refine And.intro ?_ ?_ | exact trivial)
  all_goals intro z L a w9 hLi d hcl hM hO K hK
  all_goals try (go_simp; exact hK z _ _ (hO rfl) (fun _ _ => rfl) rfl)
  ·have n8 : L 8 = false := vac _ hcl (i := 8) (j := 1) rfl rfl hLi
   have u := Blk.f (HB0.out.keep (hM.1 n8)) rfl
   go_simp
   exact hK z _ _ (hO rfl) (fun _ _ => rfl) rfl
  ·have n8 : L 8 = false := vac _ hcl (i := 8) (j := 3) rfl rfl hLi
   have c1 : w9.cell? ⟨b, 1, none⟩ = some (.int .i64 (n : Int)) := by rw [← HP.out]; exact (HB0.out.keep (hM.1 n8)).cell 1
   go_simp
   exact hK z _ _ (hO rfl) (fun _ _ => rfl) rfl
  ·have n8 : L 8 = false := vac _ hcl (i := 8) (j := 4) rfl rfl hLi
   go_simp
   refine (vgJ n _ hn32).mono ?_
   rintro e9 wb ⟨rfl, rfl⟩
   exact hK z _ _ (hO rfl) (fun _ _ => rfl) rfl
  ·have B9 := HB1.out.keep (hM.1 hLi)
   have y := Blk.f B9 rfl
   have yz := Blk.frozen B9
   obtain ⟨R, hR⟩ : ∃ R, enSet w9 (b + 1) ⟨2, 0, p.a, maskN n, 0, k⟩ = R := ⟨_, rfl⟩
   have hR2 := hR
   simp only [enSet, Int.natCast_zero] at hR
   go_simp
   exact hK z _ _ ⟨(fun h => by cases h), (fun _ => ⟨w9, hM.1 hLi, hR2⟩)⟩ (fun _ _ => rfl) rfl
 intro z L w9 hL hM
 (try simp only [Exit.then])
 obtain ⟨V9, kV, hV⟩ := hM.2 (hL 8 (by decide))
 obtain ⟨R, hR, BR, kR⟩ := Blk.putEn (HB1.out.keep kV) ⟨2, 0, p.a, maskN n, 0, k⟩ (kW.trans kV) (by omega)
 rw [hV] at hR
 subst hR
 have r := Blk.f BR rfl
 go_wp2_with fail
 exact bodyPost_ret (v := .agg #[.int .i64 2, .int .i64 0, .int .u32 (p.a : Int), .int .u32 (maskN n : Int), .int .u32 0, .int .u32 (k : Int)]) (by simp [results, Tryz.results19, go_sem, r]) rfl ⟨by rw [HE.out]; rfl, kR⟩
end

section
open Go.Lib
def parted (b : UInt8) : List UInt8 → List (List UInt8)
 | [] => [[]]
 | c :: l => if c = b then [] :: parted b l else (c :: (parted b l).headD []) :: (parted b l).tail
theorem vcY {b : UInt8} : ∀ {u : List UInt8}, (∀ c ∈ u, c ≠ b) → parted b u = [u]
 | [], _ => rfl
 | c :: u, h => by
  rw [parted, if_neg (h c (by simp)), vcY (fun d hd => h d (by simp [hd]))]
  rfl
theorem vdU {b : UInt8} {v : List UInt8} : ∀ {u : List UInt8}, (∀ c ∈ u, c ≠ b) → parted b (u ++ b :: v) = u :: parted b v
 | [], _ => by simp [parted]
 | c :: u, h => by
  rw [List.cons_append, parted, if_neg (h c (by simp)), vdU (fun d hd => h d (by simp [hd]))]
  rfl
def byteAt (s : ByteArray) (i : Nat) : Nat := (s.data.toList.getD i 0).toNat
theorem veQ (s : ByteArray) (i : Nat) (h : i < s.size) : s.get! i = s.data.toList.getD i 0 := by
 have h' : i < s.data.size := h
 show s.data[i]! = _
 rw [List.getD_eq_getElem?_getD, Array.getElem?_toList, getElem!_def]
 rw [Array.getElem?_eq_getElem h']
 rfl
theorem vjt (s : ByteArray) (i : Nat) (h : i < s.size) : s[i]'h = s.data.toList.getD i 0 := by
 have h' : i < s.data.size := h
 show s.data[i] = _
 rw [List.getD_eq_getElem?_getD, Array.getElem?_toList, Array.getElem?_eq_getElem h']
 rfl
theorem vir (s : ByteArray) (i : Nat) (hi : i < s.size) (h : 128 ≤ byteAt s i) :
  128 ≤ (Utf8.decode s i).1 ∧ 1 ≤ (Utf8.decode s i).2 ∧ i + (Utf8.decode s i).2 ≤ s.size ∧ ∀ k, k < (Utf8.decode s i).2 → 128 ≤ byteAt s (i + k) := by
 have h0 : (s.get! (i + 0)).toNat = byteAt s i := by rw [Nat.add_zero, veQ s i hi]; rfl
 have one : 128 ≤ Utf8.runeError ∧ 1 ≤ 1 ∧ i + 1 ≤ s.size ∧ ∀ k, k < 1 → 128 ≤ byteAt s (i + k) :=
  ⟨by decide, Nat.le_refl _, hi, fun k hk => by obtain rfl : k = 0 := (by omega); exact h⟩
 have cont : ∀ k, (decide (i + k < s.size) && (s.get! (i + k)).toNat / 64 == 2) = true → i + k < s.size ∧ 128 ≤ byteAt s (i + k) := by
  intro k hk
  simp only [Bool.and_eq_true, decide_eq_true_eq, beq_iff_eq] at hk
  refine ⟨hk.1, ?_⟩
  have := hk.2
  rw [veQ s _ hk.1] at this
  unfold byteAt
  omega
 unfold Utf8.decode
 simp only [h0]
 rw [if_neg (by omega)]
 split
 ·rename_i hc
  rw [Bool.and_eq_true] at hc
  obtain ⟨c1, c1'⟩ := cont 1 hc.2
  split
  ·rename_i hg
   exact ⟨hg, by omega, by omega, fun k hk => by
    have : k = 0 ∨ k = 1 := by omega
    rcases this with rfl | rfl
    ·exact h
    ·exact c1'⟩
  ·exact one
 ·split
  ·rename_i hc
   rw [Bool.and_eq_true, Bool.and_eq_true] at hc
   obtain ⟨c1, c1'⟩ := cont 1 hc.1.2
   obtain ⟨c2, c2'⟩ := cont 2 hc.2
   split
   ·rename_i hg
    simp only [ge_iff_le, Bool.and_eq_true, decide_eq_true_eq] at hg
    exact ⟨by omega, by omega, by omega, fun k hk => by
     have : k = 0 ∨ k = 1 ∨ k = 2 := by omega
     rcases this with rfl | rfl | rfl
     ·exact h
     ·exact c1'
     ·exact c2'⟩
   ·exact one
  ·split
   ·rename_i hc
    rw [Bool.and_eq_true, Bool.and_eq_true, Bool.and_eq_true] at hc
    obtain ⟨c1, c1'⟩ := cont 1 hc.1.1.2
    obtain ⟨c2, c2'⟩ := cont 2 hc.1.2
    obtain ⟨c3, c3'⟩ := cont 3 hc.2
    split
    ·rename_i hg
     simp only [ge_iff_le, Bool.and_eq_true, decide_eq_true_eq] at hg
     exact ⟨by omega, by omega, by omega, fun k hk => by
      have : k = 0 ∨ k = 1 ∨ k = 2 ∨ k = 3 := by omega
      rcases this with rfl | rfl | rfl | rfl
      ·exact h
      ·exact c1'
      ·exact c2'
      ·exact c3'⟩
    ·exact one
   ·exact one
theorem vgK (s : ByteArray) (i : Nat) (hi : i < s.size) (h : byteAt s i < 128) : Utf8.decode s i = (byteAt s i, 1) := by
 rw [decode_ascii s i hi (by rw [vjt s i hi]; exact h), vjt s i hi]
 rfl
theorem vis (s : ByteArray) (i : Nat) (hi : i < s.size) :
  1 ≤ (Utf8.decode s i).2 ∧ i + (Utf8.decode s i).2 ≤ s.size ∧ ((byteAt s i < 128 ∧ Utf8.decode s i = (byteAt s i, 1)) ∨ (128 ≤ (Utf8.decode s i).1 ∧ ∀ k, k < (Utf8.decode s i).2 → 128 ≤ byteAt s (i + k))) := by
 rcases Nat.lt_or_ge (byteAt s i) 128 with h | h
 ·have e := vgK s i hi h
  exact ⟨by rw [e]; exact Nat.le_refl 1, by rw [e]; exact hi, .inl ⟨h, e⟩⟩
 ·obtain ⟨a, b, c, d⟩ := vir s i hi h
  exact ⟨b, c, .inr ⟨a, d⟩⟩
/-! ### bytes as two digits each -/
/-! ### events -/
inductive Pt where | a | b | c | d | s | x
deriving DecidableEq
end

section
open Go.RowKit
abbrev strB (l : List UInt8) : ByteArray := ⟨l.toArray⟩
theorem vgL {s : ByteArray} {i : Nat} (h : i < s.size) : ∃ c : UInt8, c.toNat = byteAt s i ∧ s.data.toList.drop i = c :: s.data.toList.drop (i + 1) := by
 have h' : i < s.data.toList.length := by rw [Array.length_toList]; exact h
 refine ⟨s.data.toList[i], ?_, List.drop_eq_getElem_cons h'⟩
 unfold byteAt
 rw [List.getD_eq_getElem?_getD, List.getElem?_eq_getElem h', Option.getD_some]
def bare (w : World) : World := { w with heap := #[] }
theorem vgM (w : World) : Kp (bare w) w := ⟨rfl, rfl, rfl, Nat.zero_le _, fun k hk => absurd hk (Nat.not_lt_zero k)⟩
def strE (l : List UInt8) : List Value := [.string (strB l)]
theorem vit (l : List UInt8) : (strE l).length = 1 := rfl
theorem EStr : ElemOf Tryz.prog 94 9 (.string ⟨#[]⟩) 1 16 := ⟨Tryz.underlying94, by kernel_rfl, rfl, by decide⟩
theorem vcZ (s : ByteArray) (a b : Nat) : s.extract a b = strB ((s.data.toList.drop a).take (b - a)) := by
 have h := Lib.extract_data s a b
 apply ByteArray.ext
 apply Array.toList_inj.1
 rw [h]
theorem viu {s : ByteArray} {i : Nat} (h : i < s.data.toList.length) : (s.data.toList[i]).toNat = byteAt s i := by
 unfold byteAt
 rw [List.getD_eq_getElem?_getD, List.getElem?_eq_getElem h, Option.getD_some]
theorem vju {s : ByteArray} {a b : Nat} {x : UInt8} (h : ∀ i, a ≤ i → i < b → byteAt s i ≠ x.toNat) : ∀ c ∈ (s.data.toList.drop a).take (b - a), c ≠ x := by
 intro c hc e
 subst e
 obtain ⟨i, hi, he⟩ := List.getElem_of_mem hc
 rw [List.length_take, List.length_drop] at hi
 have hl : a + i < s.data.toList.length := by omega
 have e2 : s.data.toList[a + i] = c := by
  rw [List.getElem_take, List.getElem_drop] at he
  exact he
 exact h (a + i) (by omega) (by omega) (by rw [← viu hl, e2])
theorem vfB {s : ByteArray} {a b : Nat} {x : UInt8} (hab : a ≤ b) (hb : b < s.size) (h : ∀ i, a ≤ i → i < b → byteAt s i ≠ x.toNat) (hx : byteAt s b = x.toNat) :
  parted x (s.data.toList.drop a) = ((s.data.toList.drop a).take (b - a)) :: parted x (s.data.toList.drop (b + 1)) := by
 obtain ⟨c, hc, hd⟩ := vgL hb
 have hcx : c = x := UInt8.toNat.inj (by rw [hc, hx])
 have e : s.data.toList.drop a = (s.data.toList.drop a).take (b - a) ++ x :: s.data.toList.drop (b + 1) := by
  rw [← hcx, ← hd]
  have : s.data.toList.drop b = (s.data.toList.drop a).drop (b - a) := by rw [List.drop_drop]; congr 1; omega
  rw [this, List.take_append_drop]
 have e2 := vdU (v := s.data.toList.drop (b + 1)) (vju h)
 rw [← e] at e2
 exact e2
theorem vey {s : ByteArray} {a : Nat} {x : UInt8} (h : ∀ i, a ≤ i → i < s.size → byteAt s i ≠ x.toNat) : parted x (s.data.toList.drop a) = [s.data.toList.drop a] := by
 refine vcY ?_
 have := vju h
 rw [List.take_of_length_le (by rw [List.length_drop, Array.length_toList]; exact Nat.le_refl _)] at this
 exact this
theorem vkx (s : ByteArray) (i : Nat) (hi : i < s.size) (x : UInt8) (hx : x.toNat < 128) :
  1 ≤ (Utf8.decode s i).2 ∧ i + (Utf8.decode s i).2 ≤ s.size ∧ ((Utf8.decode s i = (x.toNat, 1) ∧ byteAt s i = x.toNat) ∨ ((Utf8.decode s i).1 ≠ x.toNat ∧ ∀ k, k < (Utf8.decode s i).2 → byteAt s (i + k) ≠ x.toNat)) := by
 obtain ⟨a, b, h | h⟩ := vis s i hi
 ·refine ⟨a, b, ?_⟩
  by_cases he : byteAt s i = x.toNat
  ·exact .inl ⟨by rw [h.2, he], he⟩
  ·refine .inr ⟨by rw [h.2]; exact he, fun k hk => ?_⟩
   rw [h.2] at hk
   obtain rfl : k = 0 := by simp at hk; exact hk
   exact he
 ·exact ⟨a, b, .inr ⟨by omega, fun k hk => by have := h.2 k hk; omega⟩⟩
theorem Own.iterAt {α : Type} {w : World} {B e sz : Nat} {enc : α → List Value} {v : Value} {xs : List α} (h : Own w B e sz enc v xs) {k : Nat} {s : ByteArray} {pos : Nat} (hk : w.heap[k]? = some (.stringIter s pos)) (p : Nat) : Own (w.iterAt k s p) B e sz enc v xs := by
 refine ⟨h.1, ?_⟩
 rcases h.2 with h2 | ⟨g, cap, cur, hv, hg, hh, r⟩
 ·exact .inl h2
 ·refine .inr ⟨g, cap, cur, hv, hg, (Lib.iterAt_other w k g s p ?_).trans hh, r⟩
  rintro rfl
  rw [hk] at hh
  cases hh
structure WRelC (w : World) (s : ByteArray) (pos a : Nat) (v : Value) (ws : List (List UInt8)) (wr : World) : Prop where
 le : pos ≤ s.size
 fr : a ≤ pos
 it : wr.heap[w.heap.size]? = some (.stringIter s pos)
 own : Own wr (w.heap.size + 1) 9 1 strE v ws
 no : ∀ i, a ≤ i → i < pos → byteAt s i ≠ (32 : UInt8).toNat
 wq : parted 32 s.data.toList = ws ++ parted 32 (s.data.toList.drop a)
 n5 : ws.length ≤ pos
 kp : Kp w wr
set_option maxRecDepth 100000 in
theorem vfC (s : ByteArray) (hs : s.size ≤ 1000000) (w : World) : Calls Tryz.prog 242 #[.string s] w fun e w' => ∃ v, e = .returned v ∧ Own w' w.heap.size 9 1 strE v (parted 32 s.data.toList) ∧ Kp w w' := by
 have HR : Hid (WRelC w s 0 0 (.slice none 0 0) [] (w.iter s 0)) := Lib.hid ⟨by omega, by omega, World.iter_heap w s 0, Own.nil _ _ _ _ _, fun i _ h => absurd h (by omega), by simp, by simp, (Kp.refl w).alloc _⟩
 have hlen : s.data.toList.length = s.size := by rw [Array.length_toList]; rfl
 have Hlen := Lib.hid hlen; clear hlen
 go_enter Tryz.func242, Tryz.ntmps242
 go_wp2_with fail
 go_loopw [3, 4] (fun v f wr => ∃ pos a ws, f = .int .i64 (a : Nat) ∧ Hid (WRelC w s pos a v ws wr)) (fun _ _ wr => s.size - wr.iterPos w.heap.size)
 case atStart => exact ⟨0, 0, [], rfl, HR⟩
 case round =>
  obtain ⟨pos, a, ws, rfl, R⟩ := hrel
  have hk := R.out.it
  have hfr := R.out.fr
  have hle := R.out.le
  have hn5 := R.out.n5
  have hsz := R.out.kp.size
  have hmu : wr.iterPos w.heap.size = pos := by simp [World.iterPos, hk]
  by_cases hp : pos < s.size
  ·have hnext : ∀ ty, (Instr.next (.pointer (some ⟨w.heap.size, 0, none⟩)) true ty).run Tryz.prog wr = _ := fun ty => Lib.run_next_any_at wr w.heap.size s pos ty hk hp
   have hr := Lib.hid (vkx s pos hp 32 (by decide))
   obtain ⟨c, m, hcm⟩ : ∃ c m, Utf8.decode s pos = (c, m) := ⟨_, _, rfl⟩
   rw [hcm] at hnext hr
   simp only at hnext hr
   clear hcm
   have hlt := (Array.getElem?_eq_some_iff.1 hk).1
   have hK1 : Kp w (wr.iterAt w.heap.size s (pos + m)) := Lib.below_iterAt R.out.kp (Nat.le_refl _) s (pos + m)
   have hk1 := Lib.iterAt_heap wr w.heap.size s pos (pos + m) hk
   have hO1 : Own (wr.iterAt w.heap.size s (pos + m)) (w.heap.size + 1) 9 1 strE u3 ws := R.out.own.iterAt hk _
   have R' := R
   generalize wr.iterAt w.heap.size s (pos + m) = W1 at hnext hK1 hk1 hO1
   clear hk
   have hk1s : W1.heap[w.heap.size]? = some (.stringIter s (pos + m)) := hk1
   have hsz1 : w.heap.size + 1 ≤ W1.heap.size := (Array.getElem?_eq_some_iff.1 hk1).1
   obtain ⟨hm1, hm2, hcase⟩ := hr.out
   rcases hcase with ⟨hc, hb⟩ | ⟨hc, hb⟩
   ·obtain ⟨rfl, rfl⟩ : c = 32 ∧ m = 1 := by injection hc with h1 h2; exact ⟨h1, h2⟩
    have hseg := Lib.hid (vfB (x := 32) hfr hp R.out.no hb)
    have ha0 : (0 : Int) ≤ (a : Int) := by omega
    have ha1 : (a : Int) ≤ (pos : Int) := by omega
    have ha2 : (pos : Int) ≤ (s.size : Int) := by omega
    have Hext := Lib.hid (vcZ s a pos)
    have hnews : ([.string (s.extract a pos)] : List Value) = strE ((s.data.toList.drop a).take (pos - a)) := by rw [Hext.out]; rfl
    have Hnews := Lib.hid hnews; clear hnews
    clear hc hb
    have hnel := Own.ne hO1 (g := w.heap.size) (by omega)
    go_wp2_with (at_builtin; go_must (refine vai EStr (w0 := bare W1) rfl _ _ rfl ((s.data.toList.drop a).take (pos - a)) rfl hO1 (vgM _) (Nat.zero_le _) hsz1 rfl rfl Hnews.out rfl rfl (by omega) ?_); intro v2 w2 hown2 hK2 hg2; obtain ⟨A2, c2, rfl⟩ := hown2.form1)
    have hK2w : Kp w w2 := hK1.grown hg2 (fun q hq => by have := (World.ownsRow.lt hO1 q hq).1; omega)
    have Hn : Hid (WRelC w s (pos + 1) (pos + 1) (.slice A2 (ws.length + 1) c2) (ws ++ [(s.data.toList.drop a).take (pos - a)]) w2) := Lib.hid
     ⟨hm2, Nat.le_refl _, (hg2.block _ (by omega) hnel).trans hk1s, hown2, fun i h1 h2 => absurd h1 (by omega), by rw [R.out.wq, hseg.out]; simp, by simp; omega, hK2w⟩
    have hmu2 : w2.iterPos w.heap.size = pos + 1 := by simp [World.iterPos, Hn.out.it]
    go_wp2_with fail
    go_roundw
    case rel => exact ⟨pos + 1, pos + 1, _, by go_num, Hn⟩
    case measure => rw [hmu, hmu2]; omega
   ·have Hn : Hid (WRelC w s (pos + m) a u3 ws W1) := Lib.hid
     ⟨hm2, by omega, hk1s, hO1, fun i h1 h2 => by
      rcases Nat.lt_or_ge i pos with h3 | h3
      ·exact R.out.no i h1 h3
      ·have := hb (i - pos) (by omega)
       rwa [show pos + (i - pos) = i by omega] at this, R.out.wq, by omega, hK1⟩
    have hb32 : ((c : Int) == 32) = false := by rw [beq_eq_false_iff_ne]; have h32 : (32 : UInt8).toNat = 32 := rfl; omega
    have hb33 : ¬ (c : Int) = 32 := by have h32 : (32 : UInt8).toNat = 32 := rfl; omega
    have hmu2 : W1.iterPos w.heap.size = pos + m := by simp [World.iterPos, hk1s]
    obtain ⟨A3, c3, rfl⟩ := hO1.form
    clear hc hb
    go_wp2_with fail
    go_roundw
    case rel => exact ⟨pos + m, a, ws, rfl, Hn⟩
    case measure => rw [hmu, hmu2]; omega
  ·have hnext : ∀ ty, (Instr.next (.pointer (some ⟨w.heap.size, 0, none⟩)) true ty).run Tryz.prog wr = _ := fun ty => Lib.run_next_end_at wr w.heap.size s pos ty hk hp
   have hps : pos = s.size := by omega
   have hO := R.out.own
   have hKw := R.out.kp
   have hlast := Lib.hid (vey (x := 32) (s := s) (a := a) (fun i h1 h2 => R.out.no i h1 (by omega)))
   have Hw := Lib.hid (show parted 32 s.data.toList = ws ++ [s.data.toList.drop a] by rw [R.out.wq, hlast.out])
   have hszr : w.heap.size + 1 ≤ wr.heap.size := (Array.getElem?_eq_some_iff.1 hk).1
   have Hext := Lib.hid (vcZ s a s.size)
   have hnews : ([.string (s.extract a s.size)] : List Value) = strE (s.data.toList.drop a) := by
    rw [Hext.out, List.take_of_length_le (by rw [List.length_drop, Hlen.out]; exact Nat.le_refl _)]; rfl
   have Hnews := Lib.hid hnews; clear hnews hk
   have ha0 : (0 : Int) ≤ (a : Int) := by omega
   have ha2 : (a : Int) ≤ (s.size : Int) := by omega
   subst hps
   go_wp2_with (at_builtin; go_must (refine vai EStr (w0 := bare wr) rfl _ _ rfl (s.data.toList.drop a) rfl hO (vgM _) (Nat.zero_le _) hszr rfl rfl Hnews.out rfl rfl (by omega) ?_); intro v2 w2 hown2 hK2 hg2; obtain ⟨A2, c2, rfl⟩ := hown2.form1)
   go_ret
   refine ⟨_, rfl, ?_, hKw.grown hg2 (fun q hq => by have := (World.ownsRow.lt hO q hq).1; omega)⟩
   rw [Hw.out]
   exact hown2.mono (by omega)
def spC (n : Nat → ByteArray) : Array Value := #[.string (n 0), .int .i64 1, .func (.func 235) #[] #[], .string (n 1), .int .i64 0, .func (.func 236) #[] #[], .string (n 2), .int .i64 1, .func (.func 237) #[] #[], .string (n 3), .int .i64 0, .func (.func 238) #[] #[], .string (n 4), .int .i64 1, .func (.func 239) #[] #[], .string (n 5), .int .i64 0, .func (.func 240) #[] #[], .string (n 6), .int .i64 0, .func (.func 241) #[] #[]]
abbrev namesB : ByteArray := ⟨#[112, 101, 114, 105, 111, 100, 32, 106, 105, 116, 116, 101, 114, 32, 116, 105, 109, 101, 111, 117, 116, 32, 104, 111, 108, 100, 32, 103, 97, 114, 98, 97, 103, 101, 32, 113, 117, 105, 101, 116, 32, 115, 112, 114, 101, 97, 100]⟩
theorem words7 (w : World) : Calls Tryz.prog 242 #[.string namesB] w fun e w' => ∃ b c, ∃ s : Nat → ByteArray, e = .returned (.slice (some ⟨b, 0, none⟩) 7 c) ∧ (∀ k, k < 7 → w'.cell? ⟨b, k, none⟩ = some (.string (s k))) ∧ w.heap.size ≤ b ∧ Kp w w' := by
 refine (vfC namesB (by decide) w).mono ?_
 rintro e w' ⟨v, rfl, hO, K⟩
 have hlen : (parted 32 namesB.data.toList).length = 7 := by decide +kernel
 rcases hO.2 with ⟨_, h2⟩ | ⟨g, cap, cur, hv, hg, _⟩
 ·exact absurd h2 (by rw [hlen]; decide)
 ·subst hv
  have hR := Rd.of_own (by decide) vit hO
  rw [hlen]
  refine ⟨g, cap, fun k => if h : k < (parted 32 namesB.data.toList).length then strB ((parted 32 namesB.data.toList)[k]'h) else ⟨#[]⟩, rfl, fun k hk => ?_, hg, K⟩
  obtain ⟨b, off, e, hc⟩ := hR k (by rw [hlen]; exact hk)
  injection e with e
  injection e with e1 e2
  subst e1
  subst e2
  have := hc 0 _ rfl
  show w'.cell? ⟨g, k, none⟩ = some (.string (if h : k < (parted 32 namesB.data.toList).length then strB ((parted 32 namesB.data.toList)[k]'h) else ⟨#[]⟩))
  rw [dif_pos (by rw [hlen]; exact hk)]
  simpa using this
set_option maxRecDepth 100000 in
theorem vgN (w : World) : Calls Tryz.prog 168 #[] w fun e w' => ∃ g, ∃ n : Nat → ByteArray, e = .returned (.slice (some ⟨g, 0, none⟩) 7 7) ∧ Blk w' g 295 (spC n) ∧ w.heap.size ≤ g ∧ Kp w w' := by
 obtain ⟨g, hg⟩ : ∃ g, w.heap.size = g := ⟨_, rfl⟩
 obtain ⟨W0, hW0, K0, B0⟩ := Blk.al1 hg (spC (fun _ => ⟨#[]⟩)) 295
 have HW0 := hW0
 unfold spC at HW0
 go_enter Tryz.func168, Tryz.ntmps168
 go_wp2_with fail
 refine (words7 _).mono ?_
 rintro e w1 ⟨b, c, s, rfl, hs, hb, K1⟩
 have hgb : g < b := by have := B0.lt; omega
 have K := K0.trans K1
 have hCW : ∀ k, k < 7 → w1.cell? ⟨b, k, none⟩ = some (.string (s k)) := hs
 have BG := B0.keep K1
 clear hs hW0 HW0 K0 B0 K1 hb
 obtain ⟨n, hn⟩ : ∃ n : Nat → ByteArray, (fun _ => ⟨#[]⟩) = n := ⟨_, rfl⟩
 rw [hn] at BG
 clear hn
 have hbg : ¬ b = g := by omega
 have hgb2 : ¬ g = b := by omega
 go_wp2_with fail
 refine wp_loop_rounds 8 ?_
 have HC := Lib.hid hCW
 have HB := Lib.hid BG
 have sk := hCW 0 (by omega)
 have fk : w1.frozen? ⟨g, 0, none⟩ = false := BG.frozen 0
 have ck : w1.cell? ⟨g, 0, none⟩ = some (.string (n 0)) := BG.cell 0
 clear hCW BG
 rw [rounds_succ]
 go_wp2_with fail
 obtain ⟨X1, hW, K1, B'', C1⟩ : ∃ W, w1.setCell ⟨g, 0, none⟩ (.string (s 0)) = W ∧ Kp w W ∧ Blk W g 295 (spC (fun j => if j = 0 then s 0 else n j)) ∧ ∀ k, k < 7 → W.cell? ⟨b, k, none⟩ = some (.string (s k)) :=
  ⟨_, rfl, K.setCell (by show w.heap.size ≤ g; omega) _, HB.out.set_ 0 (.string (s 0)), fun k hk => by rw [World.cell?_setCell_other _ _ _ _ (by intro e; injection e with e; exact hgb2 e)]; exact HC.out k hk⟩
 rw [hW]
 clear hW HC HB sk fk ck K
 obtain ⟨m1, hn⟩ : ∃ n2 : Nat → ByteArray, (fun j => if j = 0 then s 0 else n j) = n2 := ⟨_, rfl⟩
 rw [hn] at B''
 have B1 := B''
 clear hn B''
 have HC := Lib.hid C1
 have HB := Lib.hid B1
 have sk := C1 1 (by omega)
 have fk : X1.frozen? ⟨g, 3, none⟩ = false := B1.frozen 3
 have ck : X1.cell? ⟨g, 3, none⟩ = some (.string (m1 1)) := B1.cell 3
 clear C1 B1
 rw [rounds_succ]
 go_wp2_with fail
 obtain ⟨X2, hW, K2, B'', C2⟩ : ∃ W, X1.setCell ⟨g, 3, none⟩ (.string (s 1)) = W ∧ Kp w W ∧ Blk W g 295 (spC (fun j => if j = 1 then s 1 else m1 j)) ∧ ∀ k, k < 7 → W.cell? ⟨b, k, none⟩ = some (.string (s k)) :=
  ⟨_, rfl, K1.setCell (by show w.heap.size ≤ g; omega) _, HB.out.set_ 3 (.string (s 1)), fun k hk => by rw [World.cell?_setCell_other _ _ _ _ (by intro e; injection e with e; exact hgb2 e)]; exact HC.out k hk⟩
 rw [hW]
 clear hW HC HB sk fk ck K1
 obtain ⟨m2, hn⟩ : ∃ n2 : Nat → ByteArray, (fun j => if j = 1 then s 1 else m1 j) = n2 := ⟨_, rfl⟩
 rw [hn] at B''
 have B2 := B''
 clear hn B''
 have HC := Lib.hid C2
 have HB := Lib.hid B2
 have sk := C2 2 (by omega)
 have fk : X2.frozen? ⟨g, 6, none⟩ = false := B2.frozen 6
 have ck : X2.cell? ⟨g, 6, none⟩ = some (.string (m2 2)) := B2.cell 6
 clear C2 B2
 rw [rounds_succ]
 go_wp2_with fail
 obtain ⟨X3, hW, K3, B'', C3⟩ : ∃ W, X2.setCell ⟨g, 6, none⟩ (.string (s 2)) = W ∧ Kp w W ∧ Blk W g 295 (spC (fun j => if j = 2 then s 2 else m2 j)) ∧ ∀ k, k < 7 → W.cell? ⟨b, k, none⟩ = some (.string (s k)) :=
  ⟨_, rfl, K2.setCell (by show w.heap.size ≤ g; omega) _, HB.out.set_ 6 (.string (s 2)), fun k hk => by rw [World.cell?_setCell_other _ _ _ _ (by intro e; injection e with e; exact hgb2 e)]; exact HC.out k hk⟩
 rw [hW]
 clear hW HC HB sk fk ck K2
 obtain ⟨m3, hn⟩ : ∃ n2 : Nat → ByteArray, (fun j => if j = 2 then s 2 else m2 j) = n2 := ⟨_, rfl⟩
 rw [hn] at B''
 have B3 := B''
 clear hn B''
 have HC := Lib.hid C3
 have HB := Lib.hid B3
 have sk := C3 3 (by omega)
 have fk : X3.frozen? ⟨g, 9, none⟩ = false := B3.frozen 9
 have ck : X3.cell? ⟨g, 9, none⟩ = some (.string (m3 3)) := B3.cell 9
 clear C3 B3
 rw [rounds_succ]
 go_wp2_with fail
 obtain ⟨X4, hW, K4, B'', C4⟩ : ∃ W, X3.setCell ⟨g, 9, none⟩ (.string (s 3)) = W ∧ Kp w W ∧ Blk W g 295 (spC (fun j => if j = 3 then s 3 else m3 j)) ∧ ∀ k, k < 7 → W.cell? ⟨b, k, none⟩ = some (.string (s k)) :=
  ⟨_, rfl, K3.setCell (by show w.heap.size ≤ g; omega) _, HB.out.set_ 9 (.string (s 3)), fun k hk => by rw [World.cell?_setCell_other _ _ _ _ (by intro e; injection e with e; exact hgb2 e)]; exact HC.out k hk⟩
 rw [hW]
 clear hW HC HB sk fk ck K3
 obtain ⟨m4, hn⟩ : ∃ n2 : Nat → ByteArray, (fun j => if j = 3 then s 3 else m3 j) = n2 := ⟨_, rfl⟩
 rw [hn] at B''
 have B4 := B''
 clear hn B''
 have HC := Lib.hid C4
 have HB := Lib.hid B4
 have sk := C4 4 (by omega)
 have fk : X4.frozen? ⟨g, 12, none⟩ = false := B4.frozen 12
 have ck : X4.cell? ⟨g, 12, none⟩ = some (.string (m4 4)) := B4.cell 12
 clear C4 B4
 rw [rounds_succ]
 go_wp2_with fail
 obtain ⟨X5, hW, K5, B'', C5⟩ : ∃ W, X4.setCell ⟨g, 12, none⟩ (.string (s 4)) = W ∧ Kp w W ∧ Blk W g 295 (spC (fun j => if j = 4 then s 4 else m4 j)) ∧ ∀ k, k < 7 → W.cell? ⟨b, k, none⟩ = some (.string (s k)) :=
  ⟨_, rfl, K4.setCell (by show w.heap.size ≤ g; omega) _, HB.out.set_ 12 (.string (s 4)), fun k hk => by rw [World.cell?_setCell_other _ _ _ _ (by intro e; injection e with e; exact hgb2 e)]; exact HC.out k hk⟩
 rw [hW]
 clear hW HC HB sk fk ck K4
 obtain ⟨m5, hn⟩ : ∃ n2 : Nat → ByteArray, (fun j => if j = 4 then s 4 else m4 j) = n2 := ⟨_, rfl⟩
 rw [hn] at B''
 have B5 := B''
 clear hn B''
 have HC := Lib.hid C5
 have HB := Lib.hid B5
 have sk := C5 5 (by omega)
 have fk : X5.frozen? ⟨g, 15, none⟩ = false := B5.frozen 15
 have ck : X5.cell? ⟨g, 15, none⟩ = some (.string (m5 5)) := B5.cell 15
 clear C5 B5
 rw [rounds_succ]
 go_wp2_with fail
 obtain ⟨X6, hW, K6, B'', C6⟩ : ∃ W, X5.setCell ⟨g, 15, none⟩ (.string (s 5)) = W ∧ Kp w W ∧ Blk W g 295 (spC (fun j => if j = 5 then s 5 else m5 j)) ∧ ∀ k, k < 7 → W.cell? ⟨b, k, none⟩ = some (.string (s k)) :=
  ⟨_, rfl, K5.setCell (by show w.heap.size ≤ g; omega) _, HB.out.set_ 15 (.string (s 5)), fun k hk => by rw [World.cell?_setCell_other _ _ _ _ (by intro e; injection e with e; exact hgb2 e)]; exact HC.out k hk⟩
 rw [hW]
 clear hW HC HB sk fk ck K5
 obtain ⟨m6, hn⟩ : ∃ n2 : Nat → ByteArray, (fun j => if j = 5 then s 5 else m5 j) = n2 := ⟨_, rfl⟩
 rw [hn] at B''
 have B6 := B''
 clear hn B''
 have HC := Lib.hid C6
 have HB := Lib.hid B6
 have sk := C6 6 (by omega)
 have fk : X6.frozen? ⟨g, 18, none⟩ = false := B6.frozen 18
 have ck : X6.cell? ⟨g, 18, none⟩ = some (.string (m6 6)) := B6.cell 18
 clear C6 B6
 rw [rounds_succ]
 go_wp2_with fail
 obtain ⟨X7, hW, K7, B'', C7⟩ : ∃ W, X6.setCell ⟨g, 18, none⟩ (.string (s 6)) = W ∧ Kp w W ∧ Blk W g 295 (spC (fun j => if j = 6 then s 6 else m6 j)) ∧ ∀ k, k < 7 → W.cell? ⟨b, k, none⟩ = some (.string (s k)) :=
  ⟨_, rfl, K6.setCell (by show w.heap.size ≤ g; omega) _, HB.out.set_ 18 (.string (s 6)), fun k hk => by rw [World.cell?_setCell_other _ _ _ _ (by intro e; injection e with e; exact hgb2 e)]; exact HC.out k hk⟩
 rw [hW]
 clear hW HC HB sk fk ck K6
 obtain ⟨m7, hn⟩ : ∃ n2 : Nat → ByteArray, (fun j => if j = 6 then s 6 else m6 j) = n2 := ⟨_, rfl⟩
 rw [hn] at B''
 have B7 := B''
 clear hn B''
 rw [rounds_succ]
 go_wp2_with fail
 go_ret
 exact ⟨g, m7, rfl, B7, by omega, K7⟩
def cmpI (x y : Int) : Int := if x < y then -1 else if y < x then 1 else 0
def ordI (a l b k : Int) : Int := if cmpI a b = 0 then cmpI l k else cmpI a b
theorem vdx (x : Int) (w : World) : Calls Tryz.prog 275 #[.int .u32 x] w fun e w' => e = .returned (.bool false) ∧ w = w' := by
 go_enter Tryz.func275, Tryz.ntmps275
 go_wp2_with fail
 go_ret
 exact ⟨rfl, rfl⟩
theorem vdy (x : Int) (w : World) : Calls Tryz.prog 276 #[.int .i64 x] w fun e w' => e = .returned (.bool false) ∧ w = w' := by
 go_enter Tryz.func276, Tryz.ntmps276
 go_wp2_with fail
 go_ret
 exact ⟨rfl, rfl⟩
theorem veR (x y : Int) (w : World) : Calls Tryz.prog 209 #[.int .u32 x, .int .u32 y] w fun e w' => e = .returned (.int .i64 (cmpI x y)) ∧ w = w' := by
 obtain ⟨r, hr⟩ : ∃ r, cmpI x y = r := ⟨_, rfl⟩
 rw [hr]
 have Hr := Lib.hid hr; clear hr
 by_cases h1 : x < y
 ·have d1 : decide (x < y) = true := by simpa using h1
  have e : r = -1 := by rw [← Hr.out]; simp [cmpI, h1]
  subst e
  clear h1 Hr
  go_enter Tryz.func209, Tryz.ntmps209
  go_wp2_with (go_at_call 275; refine (vdx _ _).mono ?_; rintro e w' ⟨rfl, rfl⟩)
  go_ret
  exact ⟨rfl, rfl⟩
 ·have d1 : decide (x < y) = false := by simpa using h1
  by_cases h2 : y < x
  ·have d2 : decide (y < x) = true := by simpa using h2
   have e : r = 1 := by rw [← Hr.out]; simp [cmpI, h1, h2]
   subst e
   clear h1 h2 Hr
   go_enter Tryz.func209, Tryz.ntmps209
   go_wp2_with (go_at_call 275; refine (vdx _ _).mono ?_; rintro e w' ⟨rfl, rfl⟩)
   go_ret
   exact ⟨rfl, rfl⟩
  ·have d2 : decide (y < x) = false := by simpa using h2
   have e : r = 0 := by rw [← Hr.out]; simp [cmpI, h1, h2]
   subst e
   clear h1 h2 Hr
   go_enter Tryz.func209, Tryz.ntmps209
   go_wp2_with (go_at_call 275; refine (vdx _ _).mono ?_; rintro e w' ⟨rfl, rfl⟩)
   go_ret
   exact ⟨rfl, rfl⟩
theorem veS (x y : Int) (w : World) : Calls Tryz.prog 210 #[.int .i64 x, .int .i64 y] w fun e w' => e = .returned (.int .i64 (cmpI x y)) ∧ w = w' := by
 obtain ⟨r, hr⟩ : ∃ r, cmpI x y = r := ⟨_, rfl⟩
 rw [hr]
 have Hr := Lib.hid hr; clear hr
 by_cases h1 : x < y
 ·have d1 : decide (x < y) = true := by simpa using h1
  have e : r = -1 := by rw [← Hr.out]; simp [cmpI, h1]
  subst e
  clear h1 Hr
  go_enter Tryz.func210, Tryz.ntmps210
  go_wp2_with (go_at_call 276; refine (vdy _ _).mono ?_; rintro e w' ⟨rfl, rfl⟩)
  go_ret
  exact ⟨rfl, rfl⟩
 ·have d1 : decide (x < y) = false := by simpa using h1
  by_cases h2 : y < x
  ·have d2 : decide (y < x) = true := by simpa using h2
   have e : r = 1 := by rw [← Hr.out]; simp [cmpI, h1, h2]
   subst e
   clear h1 h2 Hr
   go_enter Tryz.func210, Tryz.ntmps210
   go_wp2_with (go_at_call 276; refine (vdy _ _).mono ?_; rintro e w' ⟨rfl, rfl⟩)
   go_ret
   exact ⟨rfl, rfl⟩
  ·have d2 : decide (y < x) = false := by simpa using h2
   have e : r = 0 := by rw [← Hr.out]; simp [cmpI, h1, h2]
   subst e
   clear h1 h2 Hr
   go_enter Tryz.func210, Tryz.ntmps210
   go_wp2_with (go_at_call 276; refine (vdy _ _).mono ?_; rintro e w' ⟨rfl, rfl⟩)
   go_ret
   exact ⟨rfl, rfl⟩
set_option maxRecDepth 100000 in
theorem vgO (x y : Int) (g : Nat) (w : World) (hB : Blk w g 3 #[.int .i64 x, .int .i64 y]) : Calls Tryz.prog 208 #[.slice (some ⟨g, 0, none⟩) 2 2] w fun e w' => e = .returned (.int .i64 (if x = 0 then y else x)) ∧ w = w' := by
 obtain ⟨c0, c1⟩ := Blk.v2 hB (.int .i64 x) (.int .i64 y) rfl
 clear hB
 obtain ⟨r, hr⟩ : ∃ r, (if x = 0 then y else x) = r := ⟨_, rfl⟩
 rw [hr]
 have Hr := Lib.hid hr; clear hr
 go_enter Tryz.func208, Tryz.ntmps208
 go_wp2_with fail
 go_loop [8] (fun i => ∃ k : Nat, k ≤ 2 ∧ i = .int .i64 k ∧ Hid (0 < k → x = 0) ∧ Hid (1 < k → y = 0)) (fun i => 2 - (intOf i).toNat)
 case atStart => exact ⟨0, by omega, rfl, fun h => absurd h (by omega), fun h => absurd h (by omega)⟩
 case round =>
  obtain ⟨k, hk, rfl, h0, h1⟩ := hrel
  have hc3 : k = 0 ∨ k = 1 ∨ k = 2 := by omega
  rcases hc3 with rfl | rfl | rfl
  ·by_cases hx : x = 0
   ·subst hx
    go_wp2_with fail
    go_round
    case rel => exact ⟨1, by omega, by go_num, fun _ => by trivial, fun h => absurd h (by omega)⟩
    case measure => simp [intOf]
   ·have hx1 : (x != 0) = true := by simpa using hx
    have e : r = x := by rw [← Hr.out, if_neg hx]
    subst e
    clear hx Hr
    go_wp2_with fail
    go_ret
    exact ⟨rfl, rfl⟩
  ·have hx : x = 0 := h0.out (by omega)
   subst hx
   have e : r = y := by rw [← Hr.out, if_pos rfl]
   subst e
   clear Hr h0 h1
   by_cases hy : r = 0
   ·subst hy
    go_wp2_with fail
    go_round
    case rel => exact ⟨2, by omega, by go_num, fun _ => by trivial, fun _ => by trivial⟩
    case measure => simp [intOf]
   ·have hy1 : (r != 0) = true := by simpa using hy
    clear hy
    go_wp2_with fail
    go_ret
    exact ⟨rfl, rfl⟩
  ·have hx : x = 0 := h0.out (by omega)
   have hy : y = 0 := h1.out (by omega)
   subst hx hy
   have e : r = 0 := by rw [← Hr.out, if_pos rfl]
   subst e
   clear Hr h0 h1
   go_wp2_with fail
   go_ret
   exact ⟨rfl, rfl⟩
set_option maxRecDepth 100000 in
theorem vgP (a l b k : Int) (w : World) : Calls Tryz.prog 152 #[.agg #[.int .u32 a, .int .i64 l], .agg #[.int .u32 b, .int .i64 k]] w fun e w' => e = .returned (.int .i64 (ordI a l b k)) ∧ Kp w w' := by
 obtain ⟨W, hW, kW, B0, B1⟩ := Blk.al2 (w := w) rfl #[.int .u32 a, .int .i64 l] 39 #[.int .u32 b, .int .i64 k] 39
 obtain ⟨x, hx⟩ : ∃ x, cmpI a b = x := ⟨_, rfl⟩
 obtain ⟨y, hy⟩ : ∃ y, cmpI l k = y := ⟨_, rfl⟩
 have Hx := Lib.hid hx
 have Hy := Lib.hid hy
 have Hr : Hid (ordI a l b k = if x = 0 then y else x) := by rw [← hx, ← hy]; exact Lib.hid rfl
 clear hx hy
 go_enter Tryz.func152, Tryz.ntmps152
 go_wp2_with fail
 refine vgg 10 (by kernel_rfl) (by kernel_rfl) (fun V hV => ?_)
 have KV : Kp W V := by rw [hV]; exact (Kp.refl _).drew
 obtain ⟨p0, p1⟩ := Blk.v2 (B0.keep KV) (.int .u32 a) (.int .i64 l) rfl
 obtain ⟨q0, q1⟩ := Blk.v2 (B1.keep KV) (.int .u32 b) (.int .i64 k) rfl
 clear hV hW
 simp only [List.take_succ_cons, List.take_zero, List.drop_succ_cons, List.drop_zero]
 still_step
 still_step
 still_step
 still_step
 still_call (by refine (veR a b _).mono ?_; rintro e w' ⟨rfl, rfl⟩; rw [Hx.out]; exact ⟨rfl, rfl⟩)
 still_step
 still_step
 still_step
 still_step
 still_call (by refine (veS l k _).mono ?_; rintro e w' ⟨rfl, rfl⟩; rw [Hy.out]; exact ⟨rfl, rfl⟩)
 refine wpStill_nil ?_
 clear p0 p1 q0 q1
 go_wp2_with fail
 refine (vgO x y V.heap.size _ (Blk.new V _ _)).mono ?_
 rintro e w' ⟨rfl, rfl⟩
 rw [← Hr.out]
 go_wp2_with fail
 go_ret
 exact ⟨rfl, (kW.trans KV).alloc _⟩
set_option maxRecDepth 100000 in
theorem vky (w : World) (a l b k : Int) : (binOp .eql 39 (.agg #[.int .u32 a, .int .i64 l]) (.agg #[.int .u32 b, .int .i64 k])).run Tryz.prog w = .ok (.bool (a == b && l == k)) w := by
 rw [run_eql_struct, run_equalIn_agg w 9999 _ _ _ Tryz.underlying39 (by kernel_rfl)]
 simp [Op.eqFields, part, go_sem, Tryz.underlying3, Tryz.underlying37]
 by_cases h1 : a = b <;> by_cases h2 : l = k <;> simp [h1, h2]
theorem vkz {x y : Int} (h : y < x) : cmpI x y = 1 := by unfold cmpI; rw [if_neg (by omega), if_pos h]
theorem vgQ (x : Int) : cmpI x x = 0 := by unfold cmpI; rw [if_neg (by omega), if_neg (by omega)]
end

end Go.Proofs.YtgopnfacklmkaaaGreatDoor
