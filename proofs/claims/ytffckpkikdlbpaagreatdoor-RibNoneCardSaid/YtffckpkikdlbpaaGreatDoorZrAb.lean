/- Lemmas and contracts for the theorem of this claim: Law, Reg, AddrL, WordL, ScrL, CfA. -/
import Derived.Test.YtffckpkikdlbpaaGreatDoorZrAa
import Derived.Test.YtffckpkikdlbpaaGreatDoorRows
import Derived.ProofKit
import Derived.Lib.SmallJoins
import Derived.Deep.Slices
import Derived.Deep.Fields
import Derived.ChangeSame
import Derived.StillTailTactics
import Derived.Deep.DeepCutAuto
import Derived.Deep.RegionHeld3
import Derived.Deep.AppendLies
import Derived.Lib.ItoaNum
import Derived.Lib.ItoaMem
import Derived.Lib.Atoi
import Derived.Lib.OthersKept
import Derived.Lib.Join
import Derived.Lib.Bytealg
import Derived.Lib.ParseIntBTie
import Derived.Test.YtffckpkikdlbpaaGreatDoorProg
import Derived.LoopTactic
import Derived.Laws.IdiomStrings
set_option linter.unusedSimpArgs false
set_option linter.unusedVariables false
namespace Go.Proofs.YtffckpkikdlbpaaGreatDoor
open Go.ChangeShapes Go.WideShapes Go.ChangeAt Go.RowKit Go.Joins Go.Deep
theorem Tryz.own : ownKnob Tryz.prog.godebug = none := by kernel_rfl
theorem Tryz.laidOut : laidOutB Tryz.prog = true := by kernel_rfl
section
variable {H : Type} {enc : TypeId × Value → H}
theorem trodAll_kp {W W' : World} (hK : Kp W W') {sp : Nat → Bool} : ∀ {ts : List TypeId} {vs : List Value} {ds : List (DataW H)} {ps : List MemPlace},
    (∀ t ∈ ts, Tryz.prog.readableRec t = true ∧ t < Tryz.prog.types.size) → (∀ p ∈ ps, p.block < W.heap.size) → (∀ p ∈ ps, sp p.block = true) →
    DataW.TrodAll enc Tryz.prog W 0 (fun _ => true) true ts vs ds ps → DataW.TrodAll enc Tryz.prog W' 0 sp true ts vs ds ps
  | [], [], [], _, _, _, _, h => h
  | [], _ :: _, _, _, _, _, _, h => h.elim
  | [], [], _ :: _, _, _, _, _, h => h.elim
  | _ :: _, [], _, _, _, _, _, h => h.elim
  | _ :: _, _ :: _, [], _, _, _, _, h => h.elim
  | t :: ts, v :: vs, d :: ds, ps, hr, hlt, hsp, ⟨p, q, h1, h2, e⟩ => by
    subst e
    refine ⟨p, q, ?_, trodAll_kp hK (fun t ht => hr t (by simp [ht])) (fun x hx => hlt x (by simp [hx])) (fun x hx => hsp x (by simp [hx])) h2, rfl⟩
    exact WideElems.Trod_stays Tryz.laidOut (hr t (by simp)).1 (hr t (by simp)).2 h1 (fun x hx => Below.same hK (hlt x (by simp [hx]))) (fun x hx => hsp x (by simp [hx]))
set_option maxRecDepth 100000 in
/-- A law's walk has come to true, and what was there stands: the row's post. -/
theorem law_post {f : Func} {s : ChangeSpec} {apart fresh handsOn again : Bool} {W W' : World} {args : Array Value} {ds : List (DataW H)} {before : List MemPlace}
    (hW : DataW.Whole enc Tryz.prog f.params.toList s.vars apart W args.toList ds [] before) (hv : s.vars = []) (hres : f.resultTypes = #[4])
    (h1 : (s.fn H (ds ++ [])).results = [.lit (.bool true)]) (h2 : (s.fn H (ds ++ [])).args = ds) (h3 : (s.fn H (ds ++ [])).vars = [])
    (hr : ∀ t ∈ f.params.toList, Tryz.prog.readableRec t = true ∧ t < Tryz.prog.types.size) (hK : Kp W W') :
    s.post enc Tryz.prog f apart fresh handsOn again W args (.bool true) W' := by
  have hW' := hW
  obtain ⟨p, q, hA, hV, he, hz, hn⟩ := hW'
  rw [hv] at hV
  obtain ⟨_, rfl⟩ := trodVars_none hV
  rw [List.append_nil] at he
  obtain rfl : p = before := he.symm
  have hlt : ∀ x ∈ p, x.block < W.heap.size := fun x hx => hW.lt x (by simpa using hx)
  have hold : ∀ x ∈ p, (fun b => decide (b < W.heap.size)) x.block = true := fun x hx => by simpa using hlt x hx
  have hresults : ∀ (b : Nat) (sp : Nat → Bool) (hd : Bool), DataW.TrodAll enc Tryz.prog W' b sp hd f.resultTypes.toList ((Value.bool true).resultList f.resultTypes.size) (s.fn H (ds ++ [])).results [] := by
    intro b sp hd
    rw [hres, h1]
    exact trodAll_mk1 (shut_bool Tryz.underlying4 true)
  have hargs : ∀ sp : Nat → Bool, (∀ x ∈ p, sp x.block = true) → DataW.TrodAll enc Tryz.prog W' 0 sp true f.params.toList args.toList (s.fn H (ds ++ [])).args p := by
    intro sp hsp
    rw [h2]
    exact trodAll_kp hK hr hlt hsp hA
  have hvars : ∀ sp : Nat → Bool, DataW.TrodVars enc Tryz.prog W' sp s.vars (s.fn H (ds ++ [])).vars [] := by
    intro sp; rw [hv, h3]; rfl
  refine ⟨ds, [], p, [], p, [], hW, hresults _ _ _, hargs _ hold, hvars _, World.keptBut_mono (fun x hx => ⟨hx, ?_⟩) (Below.frame hK (· ∈ p)), fun _ => ?_⟩
  · exact Or.inr (by simpa using hx)
  · refine ⟨?_, _, _, ([] ++ p) ++ [], ⟨[] ++ p, [], trodAll_append (hargs _ (fun _ _ => rfl)) (hresults _ _ _), hvars _, rfl, ?_, ?_⟩, ?_⟩
    · exact ok_one hres rfl (okWide_bool_mk Tryz.underlying4 true)
    · intro b off hp
      have hin : MemPlace.cell b off ∈ p := by simpa using hp
      rw [Below.frozen hK (hlt _ hin)]
      exact hz b off (by simpa using hin)
    · intro ha
      simpa using hn ha
    · intro x hx _
      simpa using hx
end
end Go.Proofs.YtffckpkikdlbpaaGreatDoor

namespace Go.Proofs.YtffckpkikdlbpaaGreatDoor
open Go.RowKit
theorem wp_tail {P : Program} {id : Nat} {Q : Exit → Act → World → Prop} {a : Act} {w : World} {l : List Oper} (n : Nat) (hm : P.follows .mixedOrders = true) (hB : Region.lexTailB .any l.toArray n = true)
    (h : ∀ W, W = w.drew → wpStill P l.toArray W (fun a' => wpList P l.toArray Q (l.drop n) a' W) (l.take n) a) : (Code.region id l.toArray true).wp P Q a w :=
  wp_region_still_tail n hm hB (h _ rfl)
/-- append of one element, which lies in a block of its own, to a row of the call's own: at a step of a region that draws its order. -/
theorem step_appx {α : Type} {enc : α → List Value} {P : Program} {t e e' : TypeId} {z : Value} {size bytes : Nat} (E : ElemOf P t e z size bytes) {w : World} {ops : Array Oper} {o : Oper} {a : Act} {K : Act → World → Prop} {Q : Exit → Act → World → Prop} {X : Prop}
    (hgd : o.guard = none) (s x : Operand) (ho : o.op = .call { callee := .builtin .append, args := #[s, x], argTypes := #[t, t] })
    {base : Nat} {v : Value} {xs : List α} {news : List Value} (y : α) (hs : a.eval s = v) (hown : Own w base e size enc v xs) (hbase : base ≤ w.heap.size)
    {N : Nat} (hx : a.eval x = .slice (some ⟨N, 0, none⟩) 1 1) (hB : Blk w N e' news.toArray) (hnews : news = enc y) (hl : news.length = size) (h1 : news.all (fun u => u.oneCell') = true) (hfit : (xs.length + 1) * (bytes + 1) ≤ 140737488355328)
    (h : ∀ g cap w', Own w' base e size enc (.slice (some ⟨g, 0, none⟩) (xs.length + 1) cap) (xs ++ [y]) → w.grownBy w' v.ownBlock → (v.ownBlock = some g ∨ g = w.heap.size) → K (a.put o.dst (.slice (some ⟨g, 0, none⟩) (xs.length + 1) cap)) w') :
    if Region.wanted o (yielded ops a.tmps) = true then Oper.wp P o a w K Q else X := by
  obtain ⟨ht, hinfo, hzs, hsz⟩ := E
  obtain ⟨i, hi, hz, hsize, hby⟩ := info_parts hinfo
  have hb2 : (xs.length + 1) * (bytes + 1) = (xs.length + 1) * bytes + (xs.length + 1) := by rw [Nat.mul_add, Nat.mul_one]
  refine step_append_lies _ hgd s x t ho base e i z size bytes ht hi hz hsize hby hzs hsz v xs.length (xs.flatMap enc) hs hown ⟨N, 0, none⟩ 1 1 news hx (by omega) (fun j u hu => World.news_of_block hB j u (by simpa using hu)) (by simpa using h1) (by omega) (by simp only [maxLen]; omega) (by omega) hbase _ rfl ?_
  intro g cap w' ho' hg hat _
  refine h g cap w' ?_ hg hat
  unfold Own
  rw [List.length_append, List.flatMap_append, List.length_singleton, List.flatMap_cons, List.flatMap_nil, List.append_nil, ← hnews]
  exact ho'
theorem Kp.far {w w' : World} {row : Option Nat} (hg : w.grownBy w' row) {p : Addr} {v : Value} (hc : w.cell? p = some v) (hne : some p.block ≠ row) : w'.cell? p = some v := (hg.cell_far p (World.block_lt_of_cell? w p hc) hne).trans hc
end Go.Proofs.YtffckpkikdlbpaaGreatDoor

namespace Go.Proofs.YtffckpkikdlbpaaGreatDoor
open Go.Lib
/-- The program's reader: the parts, the one that is read, how many of its digits were read. -/
structure AS where
  ps : List Nat
  k : Nat
  d : Nat
def st0 : AS := ⟨[0, 0, 0, 0], 0, 0⟩
structure AInv (s : AS) : Prop where
  len : s.ps.length = 4
  k : s.k ≤ 3
  le : ∀ p ∈ s.ps, p ≤ 255
  nul : s.d = 0 → s.ps.getD s.k 0 = 0
  far : ∀ j, s.k < j → s.ps.getD j 0 = 0
theorem AInv.zero : AInv st0 := ⟨rfl, by decide, by decide, fun _ => rfl, fun j hj => by
  rcases j with _ | _ | _ | _ | j <;> rfl⟩
end Go.Proofs.YtffckpkikdlbpaaGreatDoor

namespace Go.Proofs.YtffckpkikdlbpaaGreatDoor
open Go.Lib
/-- What stands between bytes of a kind. -/
def parted (b : UInt8) : List UInt8 → List (List UInt8)
  | [] => [[]]
  | c :: l => if c = b then [] :: parted b l else (c :: (parted b l).headD []) :: (parted b l).tail
theorem parted_one {b : UInt8} : ∀ {u : List UInt8}, (∀ c ∈ u, c ≠ b) → parted b u = [u]
  | [], _ => rfl
  | c :: u, h => by
    rw [parted, if_neg (h c (by simp)), parted_one (fun d hd => h d (by simp [hd]))]
    rfl
theorem parted_at {b : UInt8} {v : List UInt8} : ∀ {u : List UInt8}, (∀ c ∈ u, c ≠ b) → parted b (u ++ b :: v) = u :: parted b v
  | [], _ => by simp [parted]
  | c :: u, h => by
    rw [List.cons_append, parted, if_neg (h c (by simp)), parted_at (fun d hd => h d (by simp [hd]))]
    rfl
/-- The byte of a string at a place. -/
def byteAt (s : ByteArray) (i : Nat) : Nat := (s.data.toList.getD i 0).toNat
theorem get_byte (s : ByteArray) (i : Nat) (h : i < s.size) : s.get! i = s.data.toList.getD i 0 := by
  have h' : i < s.data.size := h
  show s.data[i]! = _
  rw [List.getD_eq_getElem?_getD, Array.getElem?_toList, getElem!_def]
  rw [Array.getElem?_eq_getElem h']
  rfl
theorem get_at (s : ByteArray) (i : Nat) (h : i < s.size) : s[i]'h = s.data.toList.getD i 0 := by
  have h' : i < s.data.size := h
  show s.data[i] = _
  rw [List.getD_eq_getElem?_getD, Array.getElem?_toList, Array.getElem?_eq_getElem h']
  rfl
/-- A rune of a string that begins with a byte from 128 on: it is no ASCII, nor is one of its bytes. -/
theorem rune_far (s : ByteArray) (i : Nat) (hi : i < s.size) (h : 128 ≤ byteAt s i) :
    128 ≤ (Utf8.decode s i).1 ∧ 1 ≤ (Utf8.decode s i).2 ∧ i + (Utf8.decode s i).2 ≤ s.size ∧ ∀ k, k < (Utf8.decode s i).2 → 128 ≤ byteAt s (i + k) := by
  have h0 : (s.get! (i + 0)).toNat = byteAt s i := by rw [Nat.add_zero, get_byte s i hi]; rfl
  have one : 128 ≤ Utf8.runeError ∧ 1 ≤ 1 ∧ i + 1 ≤ s.size ∧ ∀ k, k < 1 → 128 ≤ byteAt s (i + k) :=
    ⟨by decide, Nat.le_refl _, hi, fun k hk => by obtain rfl : k = 0 := by omega
                                                  exact h⟩
  have cont : ∀ k, (decide (i + k < s.size) && (s.get! (i + k)).toNat / 64 == 2) = true → i + k < s.size ∧ 128 ≤ byteAt s (i + k) := by
    intro k hk
    simp only [Bool.and_eq_true, decide_eq_true_eq, beq_iff_eq] at hk
    refine ⟨hk.1, ?_⟩
    have := hk.2
    rw [get_byte s _ hk.1] at this
    unfold byteAt
    omega
  unfold Utf8.decode
  simp only [h0]
  rw [if_neg (by omega)]
  split
  · rename_i hc
    rw [Bool.and_eq_true] at hc
    obtain ⟨c1, c1'⟩ := cont 1 hc.2
    split
    · rename_i hg
      exact ⟨hg, by omega, by omega, fun k hk => by
        have : k = 0 ∨ k = 1 := by omega
        rcases this with rfl | rfl
        · exact h
        · exact c1'⟩
    · exact one
  · split
    · rename_i hc
      rw [Bool.and_eq_true, Bool.and_eq_true] at hc
      obtain ⟨c1, c1'⟩ := cont 1 hc.1.2
      obtain ⟨c2, c2'⟩ := cont 2 hc.2
      split
      · rename_i hg
        simp only [ge_iff_le, Bool.and_eq_true, decide_eq_true_eq] at hg
        exact ⟨by omega, by omega, by omega, fun k hk => by
          have : k = 0 ∨ k = 1 ∨ k = 2 := by omega
          rcases this with rfl | rfl | rfl
          · exact h
          · exact c1'
          · exact c2'⟩
      · exact one
    · split
      · rename_i hc
        rw [Bool.and_eq_true, Bool.and_eq_true, Bool.and_eq_true] at hc
        obtain ⟨c1, c1'⟩ := cont 1 hc.1.1.2
        obtain ⟨c2, c2'⟩ := cont 2 hc.1.2
        obtain ⟨c3, c3'⟩ := cont 3 hc.2
        split
        · rename_i hg
          simp only [ge_iff_le, Bool.and_eq_true, decide_eq_true_eq] at hg
          exact ⟨by omega, by omega, by omega, fun k hk => by
            have : k = 0 ∨ k = 1 ∨ k = 2 ∨ k = 3 := by omega
            rcases this with rfl | rfl | rfl | rfl
            · exact h
            · exact c1'
            · exact c2'
            · exact c3'⟩
        · exact one
      · exact one
theorem rune_near (s : ByteArray) (i : Nat) (hi : i < s.size) (h : byteAt s i < 128) : Utf8.decode s i = (byteAt s i, 1) := by
  rw [decode_ascii s i hi (by rw [get_at s i hi]; exact h), get_at s i hi]
  rfl
/-- A rune of a string: its bytes lie in it; and it is some ASCII byte just if it is that byte. -/
theorem rune_any (s : ByteArray) (i : Nat) (hi : i < s.size) :
    1 ≤ (Utf8.decode s i).2 ∧ i + (Utf8.decode s i).2 ≤ s.size ∧ ((byteAt s i < 128 ∧ Utf8.decode s i = (byteAt s i, 1)) ∨ (128 ≤ (Utf8.decode s i).1 ∧ ∀ k, k < (Utf8.decode s i).2 → 128 ≤ byteAt s (i + k))) := by
  rcases Nat.lt_or_ge (byteAt s i) 128 with h | h
  · have e := rune_near s i hi h
    exact ⟨by rw [e]; exact Nat.le_refl 1, by rw [e]; exact hi, .inl ⟨h, e⟩⟩
  · obtain ⟨a, b, c, d⟩ := rune_far s i hi h
    exact ⟨b, c, .inr ⟨a, d⟩⟩
end Go.Proofs.YtffckpkikdlbpaaGreatDoor

namespace Go.Proofs.YtffckpkikdlbpaaGreatDoor
open Go.Lib
/-! ### bytes as two digits each -/
/-! ### events -/
inductive Pt where | a | b | c | d | s | x
deriving DecidableEq
end Go.Proofs.YtffckpkikdlbpaaGreatDoor

namespace Go.Proofs.YtffckpkikdlbpaaGreatDoor
open Go.RowKit
abbrev strB (l : List UInt8) : ByteArray := ⟨l.toArray⟩
theorem drop_byte {s : ByteArray} {i : Nat} (h : i < s.size) : ∃ c : UInt8, c.toNat = byteAt s i ∧ s.data.toList.drop i = c :: s.data.toList.drop (i + 1) := by
  have h' : i < s.data.toList.length := by rw [Array.length_toList]; exact h
  refine ⟨s.data.toList[i], ?_, List.drop_eq_getElem_cons h'⟩
  unfold byteAt
  rw [List.getD_eq_getElem?_getD, List.getElem?_eq_getElem h', Option.getD_some]
def bare (w : World) : World := { w with heap := #[] }
theorem bare_kp (w : World) : Kp (bare w) w := ⟨rfl, rfl, rfl, Nat.zero_le _, fun k hk => absurd hk (Nat.not_lt_zero k)⟩
def strE (l : List UInt8) : List Value := [.string (strB l)]
theorem strE_len (l : List UInt8) : (strE l).length = 1 := rfl
theorem EStr : ElemOf Tryz.prog 207 9 (.string ⟨#[]⟩) 1 16 := ⟨Tryz.underlying207, by kernel_rfl, rfl, by decide⟩
theorem extract_eq (s : ByteArray) (a b : Nat) : s.extract a b = strB ((s.data.toList.drop a).take (b - a)) := by
  have h := Lib.extract_data s a b
  apply ByteArray.ext
  apply Array.toList_inj.1
  rw [h]
theorem byte_idx {s : ByteArray} {i : Nat} (h : i < s.data.toList.length) : (s.data.toList[i]).toNat = byteAt s i := by
  unfold byteAt
  rw [List.getD_eq_getElem?_getD, List.getElem?_eq_getElem h, Option.getD_some]
theorem seg_ne {s : ByteArray} {a b : Nat} {x : UInt8} (h : ∀ i, a ≤ i → i < b → byteAt s i ≠ x.toNat) : ∀ c ∈ (s.data.toList.drop a).take (b - a), c ≠ x := by
  intro c hc e
  subst e
  obtain ⟨i, hi, he⟩ := List.getElem_of_mem hc
  rw [List.length_take, List.length_drop] at hi
  have hl : a + i < s.data.toList.length := by omega
  have e2 : s.data.toList[a + i] = c := by
    rw [List.getElem_take, List.getElem_drop] at he
    exact he
  exact h (a + i) (by omega) (by omega) (by rw [← byte_idx hl, e2])
theorem parted_seg {s : ByteArray} {a b : Nat} {x : UInt8} (hab : a ≤ b) (hb : b < s.size) (h : ∀ i, a ≤ i → i < b → byteAt s i ≠ x.toNat) (hx : byteAt s b = x.toNat) :
    parted x (s.data.toList.drop a) = ((s.data.toList.drop a).take (b - a)) :: parted x (s.data.toList.drop (b + 1)) := by
  obtain ⟨c, hc, hd⟩ := drop_byte hb
  have hcx : c = x := UInt8.toNat.inj (by rw [hc, hx])
  have e : s.data.toList.drop a = (s.data.toList.drop a).take (b - a) ++ x :: s.data.toList.drop (b + 1) := by
    rw [← hcx, ← hd]
    have : s.data.toList.drop b = (s.data.toList.drop a).drop (b - a) := by rw [List.drop_drop]; congr 1; omega
    rw [this, List.take_append_drop]
  have e2 := parted_at (v := s.data.toList.drop (b + 1)) (seg_ne h)
  rw [← e] at e2
  exact e2
theorem parted_last {s : ByteArray} {a : Nat} {x : UInt8} (h : ∀ i, a ≤ i → i < s.size → byteAt s i ≠ x.toNat) : parted x (s.data.toList.drop a) = [s.data.toList.drop a] := by
  refine parted_one ?_
  have := seg_ne h
  rw [List.take_of_length_le (by rw [List.length_drop, Array.length_toList]; exact Nat.le_refl _)] at this
  exact this
theorem rune_is (s : ByteArray) (i : Nat) (hi : i < s.size) (x : UInt8) (hx : x.toNat < 128) :
    1 ≤ (Utf8.decode s i).2 ∧ i + (Utf8.decode s i).2 ≤ s.size ∧ ((Utf8.decode s i = (x.toNat, 1) ∧ byteAt s i = x.toNat) ∨ ((Utf8.decode s i).1 ≠ x.toNat ∧ ∀ k, k < (Utf8.decode s i).2 → byteAt s (i + k) ≠ x.toNat)) := by
  obtain ⟨a, b, h | h⟩ := rune_any s i hi
  · refine ⟨a, b, ?_⟩
    by_cases he : byteAt s i = x.toNat
    · exact .inl ⟨by rw [h.2, he], he⟩
    · refine .inr ⟨by rw [h.2]; exact he, fun k hk => ?_⟩
      rw [h.2] at hk
      obtain rfl : k = 0 := by simp at hk; exact hk
      exact he
  · exact ⟨a, b, .inr ⟨by omega, fun k hk => by have := h.2 k hk; omega⟩⟩
theorem Own.iterAt {α : Type} {w : World} {B e sz : Nat} {enc : α → List Value} {v : Value} {xs : List α} (h : Own w B e sz enc v xs) {k : Nat} {s : ByteArray} {pos : Nat} (hk : w.heap[k]? = some (.stringIter s pos)) (p : Nat) : Own (w.iterAt k s p) B e sz enc v xs := by
  refine ⟨h.1, ?_⟩
  rcases h.2 with h2 | ⟨g, cap, cur, hv, hg, hh, r⟩
  · exact .inl h2
  · refine .inr ⟨g, cap, cur, hv, hg, (Lib.iterAt_other w k g s p ?_).trans hh, r⟩
    rintro rfl
    rw [hk] at hh
    cases hh
structure WRelC (w : World) (s : ByteArray) (pos a : Nat) (v : Value) (ws : List (List UInt8)) (wr : World) : Prop where
  le : pos ≤ s.size
  fr : a ≤ pos
  it : wr.heap[w.heap.size]? = some (.stringIter s pos)
  own : Own wr (w.heap.size + 1) 9 1 strE v ws
  no : ∀ i, a ≤ i → i < pos → byteAt s i ≠ (32 : UInt8).toNat
  wq : parted 32 s.data.toList = ws ++ parted 32 (s.data.toList.drop a)
  n5 : ws.length ≤ pos
  kp : Kp w wr
set_option maxRecDepth 100000 in
set_option maxHeartbeats 2000000 in
theorem cwords_any (s : ByteArray) (hs : s.size ≤ 1000000) (w : World) : Calls Tryz.prog 152 #[.string s] w fun e w' => ∃ v, e = .returned v ∧ Own w' w.heap.size 9 1 strE v (parted 32 s.data.toList) ∧ Kp w w' := by
  have HR : Hid (WRelC w s 0 0 (.slice none 0 0) [] (w.iter s 0)) := Lib.hid ⟨by omega, by omega, World.iter_heap w s 0, Own.nil _ _ _ _ _, fun i _ h => absurd h (by omega), by simp, by simp, (Kp.refl w).alloc _⟩
  have hlen : s.data.toList.length = s.size := by rw [Array.length_toList]; rfl
  have Hlen := Lib.hid hlen; clear hlen
  go_enter Tryz.func152, Tryz.ntmps152
  go_wp2_with fail
  go_loopw [3, 4] (fun v f wr => ∃ pos a ws, f = .int .i64 (a : Nat) ∧ Hid (WRelC w s pos a v ws wr)) (fun _ _ wr => s.size - wr.iterPos w.heap.size)
  case atStart => exact ⟨0, 0, [], rfl, HR⟩
  case round =>
    obtain ⟨pos, a, ws, rfl, R⟩ := hrel
    have hk := R.out.it
    have hfr := R.out.fr
    have hle := R.out.le
    have hn5 := R.out.n5
    have hsz := R.out.kp.size
    have hmu : wr.iterPos w.heap.size = pos := by simp [World.iterPos, hk]
    by_cases hp : pos < s.size
    · have hnext : ∀ ty, (Instr.next (.pointer (some ⟨w.heap.size, 0, none⟩)) true ty).run Tryz.prog wr = _ := fun ty => Lib.run_next_any_at wr w.heap.size s pos ty hk hp
      have hr := Lib.hid (rune_is s pos hp 32 (by decide))
      obtain ⟨c, m, hcm⟩ : ∃ c m, Utf8.decode s pos = (c, m) := ⟨_, _, rfl⟩
      rw [hcm] at hnext hr
      simp only at hnext hr
      clear hcm
      have hlt := (Array.getElem?_eq_some_iff.1 hk).1
      have hK1 : Kp w (wr.iterAt w.heap.size s (pos + m)) := Lib.below_iterAt R.out.kp (Nat.le_refl _) s (pos + m)
      have hk1 := Lib.iterAt_heap wr w.heap.size s pos (pos + m) hk
      have hO1 : Own (wr.iterAt w.heap.size s (pos + m)) (w.heap.size + 1) 9 1 strE u3 ws := R.out.own.iterAt hk _
      have R' := R
      generalize wr.iterAt w.heap.size s (pos + m) = W1 at hnext hK1 hk1 hO1
      clear hk
      have hk1s : W1.heap[w.heap.size]? = some (.stringIter s (pos + m)) := hk1
      have hsz1 : w.heap.size + 1 ≤ W1.heap.size := (Array.getElem?_eq_some_iff.1 hk1).1
      obtain ⟨hm1, hm2, hcase⟩ := hr.out
      rcases hcase with ⟨hc, hb⟩ | ⟨hc, hb⟩
      · obtain ⟨rfl, rfl⟩ : c = 32 ∧ m = 1 := by injection hc with h1 h2; exact ⟨h1, h2⟩
        have hseg := Lib.hid (parted_seg (x := 32) hfr hp R.out.no hb)
        have ha0 : (0 : Int) ≤ (a : Int) := by omega
        have ha1 : (a : Int) ≤ (pos : Int) := by omega
        have ha2 : (pos : Int) ≤ (s.size : Int) := by omega
        have Hext := Lib.hid (extract_eq s a pos)
        have hnews : ([.string (s.extract a pos)] : List Value) = strE ((s.data.toList.drop a).take (pos - a)) := by rw [Hext.out]; rfl
        have Hnews := Lib.hid hnews; clear hnews
        clear hc hb
        have hnel := Own.ne hO1 (g := w.heap.size) (by omega)
        go_wp2_with (at_builtin; go_must (refine wpList_appx EStr (w0 := bare W1) rfl _ _ rfl ((s.data.toList.drop a).take (pos - a)) rfl hO1 (bare_kp _) (Nat.zero_le _) hsz1 rfl rfl Hnews.out rfl rfl (by omega) ?_); intro v2 w2 hown2 hK2 hg2; obtain ⟨A2, c2, rfl⟩ := hown2.form1)
        have hK2w : Kp w w2 := hK1.grown hg2 (fun q hq => by have := (World.ownsRow.lt hO1 q hq).1; omega)
        have Hn : Hid (WRelC w s (pos + 1) (pos + 1) (.slice A2 (ws.length + 1) c2) (ws ++ [(s.data.toList.drop a).take (pos - a)]) w2) := Lib.hid
          ⟨hm2, Nat.le_refl _, (hg2.block _ (by omega) hnel).trans hk1s, hown2, fun i h1 h2 => absurd h1 (by omega), by rw [R.out.wq, hseg.out]; simp, by simp; omega, hK2w⟩
        have hmu2 : w2.iterPos w.heap.size = pos + 1 := by simp [World.iterPos, Hn.out.it]
        go_wp2_with fail
        go_roundw
        case rel => exact ⟨pos + 1, pos + 1, _, by go_num, Hn⟩
        case measure => rw [hmu, hmu2]; omega
      · have Hn : Hid (WRelC w s (pos + m) a u3 ws W1) := Lib.hid
          ⟨hm2, by omega, hk1s, hO1, fun i h1 h2 => by
            rcases Nat.lt_or_ge i pos with h3 | h3
            · exact R.out.no i h1 h3
            · have := hb (i - pos) (by omega)
              rwa [show pos + (i - pos) = i by omega] at this, R.out.wq, by omega, hK1⟩
        have hb32 : ((c : Int) == 32) = false := by rw [beq_eq_false_iff_ne]; have h32 : (32 : UInt8).toNat = 32 := rfl; omega
        have hb33 : ¬ (c : Int) = 32 := by have h32 : (32 : UInt8).toNat = 32 := rfl; omega
        have hmu2 : W1.iterPos w.heap.size = pos + m := by simp [World.iterPos, hk1s]
        obtain ⟨A3, c3, rfl⟩ := hO1.form
        clear hc hb
        go_wp2_with fail
        go_roundw
        case rel => exact ⟨pos + m, a, ws, rfl, Hn⟩
        case measure => rw [hmu, hmu2]; omega
    · have hnext : ∀ ty, (Instr.next (.pointer (some ⟨w.heap.size, 0, none⟩)) true ty).run Tryz.prog wr = _ := fun ty => Lib.run_next_end_at wr w.heap.size s pos ty hk hp
      have hps : pos = s.size := by omega
      have hO := R.out.own
      have hKw := R.out.kp
      have hlast := Lib.hid (parted_last (x := 32) (s := s) (a := a) (fun i h1 h2 => R.out.no i h1 (by omega)))
      have Hw := Lib.hid (show parted 32 s.data.toList = ws ++ [s.data.toList.drop a] by rw [R.out.wq, hlast.out])
      have hszr : w.heap.size + 1 ≤ wr.heap.size := (Array.getElem?_eq_some_iff.1 hk).1
      have Hext := Lib.hid (extract_eq s a s.size)
      have hnews : ([.string (s.extract a s.size)] : List Value) = strE (s.data.toList.drop a) := by
        rw [Hext.out, List.take_of_length_le (by rw [List.length_drop, Hlen.out]; exact Nat.le_refl _)]; rfl
      have Hnews := Lib.hid hnews; clear hnews hk
      have ha0 : (0 : Int) ≤ (a : Int) := by omega
      have ha2 : (a : Int) ≤ (s.size : Int) := by omega
      subst hps
      go_wp2_with (at_builtin; go_must (refine wpList_appx EStr (w0 := bare wr) rfl _ _ rfl (s.data.toList.drop a) rfl hO (bare_kp _) (Nat.zero_le _) hszr rfl rfl Hnews.out rfl rfl (by omega) ?_); intro v2 w2 hown2 hK2 hg2; obtain ⟨A2, c2, rfl⟩ := hown2.form1)
      go_ret
      refine ⟨_, rfl, ?_, hKw.grown hg2 (fun q hq => by have := (World.ownsRow.lt hO q hq).1; omega)⟩
      rw [Hw.out]
      exact hown2.mono (by omega)
end Go.Proofs.YtffckpkikdlbpaaGreatDoor
