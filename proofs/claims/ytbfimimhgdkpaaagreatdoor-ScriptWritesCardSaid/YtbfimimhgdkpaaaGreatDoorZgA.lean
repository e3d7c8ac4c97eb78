/- Proved here: THE TIED CARD of ScriptWrites of the package waywardenlaw26: for every input the law returns true, and each argument reads behind the call as it read before (Rows.ScriptWritesCardSaid). Conditions: the listed variables of the library start as the program's text lays them, which the card ties. -/
import Derived.Test.YtbfimimhgdkpaaaGreatDoorZfI
import Derived.Shelf.Strings.Builder1
import Derived.Lib.Repeat
import Derived.Laws.MakeOwn
import Derived.Carry
import Derived.ChangeMaps5
import Derived.Test.YtbfimimhgdkpaaaGreatDoorTie
import Derived.Test.YtbfimimhgdkpaaaGreatDoorCards
import Derived.SevenTiedAt
set_option linter.unusedSimpArgs false
set_option linter.unusedVariables false
/- A script written is read back: plain law of layer 26, no program in sight. -/
namespace Go.Proofs.YtbfimimhgdkpaaaGreatDoor
open Go.Lib

theorem itoa_n10 (n : Int) : ∀ c ∈ itoa n, c ≠ 10 := by
  intro c hc e
  subst e
  unfold itoa at hc
  split at hc
  · rw [List.mem_cons] at hc
    rcases hc with hc | hc
    · cases hc
    · have := digits_all _ _ hc; simp at this
  · have := digits_all _ _ hc; simp at this
theorem textA_n10 (a : Nat) : ∀ c ∈ textA a, c ≠ 10 := by
  intro c hc e
  subst e
  simp only [textA, List.mem_append, List.mem_cons] at hc
  rcases hc with hc | hc | hc | hc | hc | hc | hc
  all_goals first | cases hc; done | (have := digits_all _ _ hc; simp at this)
theorem hexOf_n10 : ∀ n, n < 16 → hexOf n ≠ 10 := by decide
theorem hexW_n10 (l : List UInt8) : ∀ c ∈ hexW l, c ≠ 10 := by
  intro c hc
  unfold hexW at hc
  split at hc
  · simp at hc; subst hc; decide
  · simp only [hexT, List.mem_flatMap, List.mem_cons, List.not_mem_nil, or_false] at hc
    obtain ⟨b, _, hc⟩ := hc
    have hb : b.toNat < 256 := b.toNat_lt
    rcases hc with hc | hc
    · rw [hc]; exact hexOf_n10 _ (by omega)
    · rw [hc]; exact hexOf_n10 _ (by omega)
theorem tellE_n10 (p : Pt) (e : Ev) : ∀ c ∈ tellE p e, c ≠ 10 := by
  cases p with
  | a => exact itoa_n10 _
  | b => exact itoa_n10 _
  | d => exact itoa_n10 _
  | s => exact textA_n10 _
  | x => exact hexW_n10 _
  | c =>
    intro c hc
    simp only [tellE] at hc
    split at hc
    · revert c; decide
    · revert c; decide
theorem nameOf_n10 (k : Nat) : ∀ c ∈ nameOf k, c ≠ 10 := by
  intro c hc
  unfold nameOf at hc
  split at hc <;> first | (revert c; decide) | (simp at hc)
theorem textE_n10 (e : Ev) : ∀ c ∈ textE e, c ≠ 10 := by
  intro c hc
  unfold textE at hc
  rw [List.mem_append, List.mem_flatMap] at hc
  rcases hc with hc | ⟨p, _, hc⟩
  · exact nameOf_n10 _ c hc
  · rcases List.mem_cons.1 hc with rfl | hc
    · decide
    · exact tellE_n10 _ _ c hc
theorem textE_some {e : Ev} (h : plainP e = true) : textE e ≠ [] := by
  have hk := (plainP_parts h)
  unfold textE
  intro h0
  have h1 := List.append_eq_nil_iff.1 h0
  obtain ⟨k, hk2⟩ : ∃ k : Nat, e.kind = (k : Int) := ⟨e.kind.toNat, by omega⟩
  have hk3 : e.kind.toNat = k := by omega
  rw [hk3] at h1
  have : k = 1 ∨ k = 2 ∨ k = 3 ∨ k = 4 ∨ k = 5 ∨ k = 6 ∨ k = 7 ∨ k = 8 := by omega
  rcases this with rfl | rfl | rfl | rfl | rfl | rfl | rfl | rfl <;> exact absurd h1.1 (by decide)
/-- The bytes of events' lines. -/
def scriptE (l : List Ev) : List UInt8 := l.flatMap (fun e => textE e ++ [10])
theorem scriptE_cons (e : Ev) (l : List Ev) : scriptE (e :: l) = textE e ++ 10 :: scriptE l := by simp [scriptE]
theorem scriptE_snoc (e : Ev) (l : List Ev) : scriptE (l ++ [e]) = scriptE l ++ (textE e ++ [10]) := by simp [scriptE]
/-- What Write tells. -/
def writeE (l : List Ev) : List UInt8 × Int := if 500 < l.length then ([], 3) else if l.all plainP = true then (scriptE l, 0) else ([], 2)
theorem lines_cons {u : List UInt8} (hu : ∀ c ∈ u, c ≠ 10) (v : List UInt8) : linesS (u ++ 10 :: v) = (u, true) :: linesS v := by
  unfold linesS
  rw [parted_at hu]
  cases hp : parted 10 v with
  | nil => exact absurd hp (parted_ne _ _)
  | cons y r => rfl
theorem read_script : ∀ (l : List Ev) (n : Nat) (acc : List Ev), (∀ e ∈ l, plainP e = true ∧ EvOk e) → acc.length ≤ 500 →
    readL (linesS (scriptE l)) n acc = if acc.length + l.length ≤ 500 then (acc ++ l, n + l.length, 0) else ([], n + (500 - acc.length), 3)
  | [], n, acc, _, ha => by
    rw [if_pos (by simpa using ha)]
    show readL [] n acc = _
    simp [readL]
  | e :: l, n, acc, h, ha => by
    have he := h e (by simp)
    rw [scriptE_cons, lines_cons (textE_n10 e), readL, if_neg (show ¬ (true = false) by simp), if_neg (textE_some he.1), parse_text he.1 he.2]
    simp only
    by_cases h5 : acc.length = 500
    · rw [if_pos h5, if_neg (by simp only [List.length_cons]; omega)]
      rw [h5]
      simp
    · rw [if_neg h5, read_script l (n + 1) (acc ++ [e]) (fun x hx => h x (by simp [hx])) (by simp; omega)]
      by_cases h6 : acc.length + (e :: l).length ≤ 500
      · rw [if_pos h6, if_pos (by simp at h6 ⊢; omega)]
        simp only [List.append_assoc, List.singleton_append, List.length_cons]
        rw [show n + 1 + l.length = n + (l.length + 1) by omega]
      · rw [if_neg h6, if_neg (by simp at h6 ⊢; omega)]
        rw [show n + 1 + (500 - (acc ++ [e]).length) = n + (500 - acc.length) by simp; omega]
theorem scriptE_len : ∀ (l : List Ev), (∀ e ∈ l, plainP e = true ∧ EvOk e) → (scriptE l).length ≤ 10001 * l.length
  | [], _ => by simp [scriptE]
  | e :: l, h => by
    have he := h e (by simp)
    obtain ⟨h1, h8, hb⟩ := plainP_parts he.1
    have hs := textE_short he.2 hb (k := e.kind.toNat) (by omega) (by omega)
    have := scriptE_len l (fun x hx => h x (by simp [hx]))
    rw [scriptE_cons]
    simp only [List.length_append, List.length_cons]
    omega
def loseE : Ev := ⟨4, 0, 0, 0, 0, 0, []⟩
theorem text_lose : textE loseE = [108, 111, 115, 101, 32, 48] := by decide +kernel
theorem plain_lose : plainP loseE = true := by decide +kernel
theorem script_lose (n : Nat) : scriptE (List.replicate n loseE) = (List.replicate n [108, 111, 115, 101, 32, 48, 10]).flatten := by
  unfold scriptE
  rw [List.flatMap_replicate, text_lose]
  rfl
end Go.Proofs.YtbfimimhgdkpaaaGreatDoor

/- The contracts of strings.Builder's WriteString and WriteByte at this dump, laid as the kit's tools lay theirs. No condition. -/
namespace Go.Proofs
open Go.Shelf
def Tryz.lays167_ren : Go.Shelf.Ren := ⟨fun | 167 => 80 | 156 => 40 | 165 => 84 | 166 => 79 | 169 => 81 | 240 => 119 | 241 => 123 | 276 => 172 | 277 => 173 | n => n, fun | 31 => 68 | 9 => 9 | 3 => 3 | 4 => 4 | 0 => 0 | 20 => 20 | 72 => 139 | 76 => 142 | 70 => 137 | 37 => 25 | 75 => 141 | 127 => 194 | 164 => 234 | 5 => 5 | 80 => 122 | n => n, fun | n => n⟩
theorem Tryz.lays166W : Go.Proofs.Lays.n166 Tryz.prog Tryz.lays167_ren := {
  mixed := by kernel_rfl
  f166 := Tryz.func79.trans (congrArg some (by kernel_rfl))
  f240 := Tryz.func119.trans (congrArg some (by kernel_rfl))
  f276 := Tryz.func172.trans (congrArg some (by kernel_rfl))
  t0 := Tryz.underlying0
  a0 := Tryz.isAgg0
  z0 := Tryz.sizeOf0
  v0 := Tryz.zeroValue0
  t3 := Tryz.underlying3
  a3 := Tryz.isAgg3
  z3 := Tryz.sizeOf3
  v3 := Tryz.zeroValue3
  t4 := Tryz.underlying4
  a4 := Tryz.isAgg4
  z4 := Tryz.sizeOf4
  v4 := Tryz.zeroValue4
  t9 := Tryz.underlying9
  a9 := Tryz.isAgg9
  z9 := Tryz.sizeOf9
  v9 := Tryz.zeroValue9
  t20 := Tryz.underlying20
  a20 := Tryz.isAgg20
  z20 := Tryz.sizeOf20
  v20 := Tryz.zeroValue20
  t37 := Tryz.underlying25
  a37 := Tryz.isAgg25
  z37 := Tryz.sizeOf25
  v37 := Tryz.zeroValue25
  t70 := Tryz.underlying137
  a70 := Tryz.isAgg137
  z70 := Tryz.sizeOf137
  v70 := Tryz.zeroValue137
  t72 := Tryz.underlying139
  a72 := Tryz.isAgg139
  z72 := Tryz.sizeOf139
  v72 := Tryz.zeroValue139
  t75 := Tryz.underlying141
  a75 := Tryz.isAgg141
  z75 := Tryz.sizeOf141
  v75 := Tryz.zeroValue141
  t164 := Tryz.underlying234
  a164 := Tryz.isAgg234
  z164 := Tryz.sizeOf234
  v164 := Tryz.zeroValue234 }
theorem Tryz.lays167W : Go.Proofs.Lays.n167 Tryz.prog Tryz.lays167_ren := {
  mixed := by kernel_rfl
  f167 := Tryz.func80.trans (congrArg some (by kernel_rfl))
  f240 := Tryz.func119.trans (congrArg some (by kernel_rfl))
  f276 := Tryz.func172.trans (congrArg some (by kernel_rfl))
  t0 := Tryz.underlying0
  a0 := Tryz.isAgg0
  z0 := Tryz.sizeOf0
  v0 := Tryz.zeroValue0
  t4 := Tryz.underlying4
  a4 := Tryz.isAgg4
  z4 := Tryz.sizeOf4
  v4 := Tryz.zeroValue4
  t5 := Tryz.underlying5
  a5 := Tryz.isAgg5
  z5 := Tryz.sizeOf5
  v5 := Tryz.zeroValue5
  t9 := Tryz.underlying9
  a9 := Tryz.isAgg9
  z9 := Tryz.sizeOf9
  v9 := Tryz.zeroValue9
  t20 := Tryz.underlying20
  a20 := Tryz.isAgg20
  z20 := Tryz.sizeOf20
  v20 := Tryz.zeroValue20
  t37 := Tryz.underlying25
  a37 := Tryz.isAgg25
  z37 := Tryz.sizeOf25
  v37 := Tryz.zeroValue25
  t70 := Tryz.underlying137
  a70 := Tryz.isAgg137
  z70 := Tryz.sizeOf137
  v70 := Tryz.zeroValue137
  t72 := Tryz.underlying139
  a72 := Tryz.isAgg139
  z72 := Tryz.sizeOf139
  v72 := Tryz.zeroValue139
  t75 := Tryz.underlying141
  a75 := Tryz.isAgg141
  z75 := Tryz.sizeOf141
  v75 := Tryz.zeroValue141
  t164 := Tryz.underlying234
  a164 := Tryz.isAgg234
  z164 := Tryz.sizeOf234
  v164 := Tryz.zeroValue234 }
theorem Tryz.Builder_Extra_167 : Builder.Extra Tryz.prog Tryz.lays167_ren := {
  sizeBuilder := by kernel_rfl
  liesBuilder := by kernel_rfl
  t5 := Tryz.underlying5
  a5 := Tryz.isAgg5
  z5 := Tryz.sizeOf5
  v5 := Tryz.zeroValue5
  infoByte := by kernel_rfl
  cellsByte := by kernel_rfl
  sizeByte := by kernel_rfl
  neB5 := by decide }
open Go.RowKit in
theorem Tryz.Builder_WriteByte (B b : Nat) (bs : List Value) (c : Int) (w : World) (h : Lib.IsBuilder 139 5 B b bs w) (hlen : bs.length + 1 ≤ 140737488355328) (hBw : B ≤ w.heap.size) :
    Calls Tryz.prog 80 #[.pointer (some ⟨b, 0, none⟩), .int .u8 c] w fun e w' => e = .returned .nilIface ∧ (Lib.BuilderAt 139 5 B b (.pointer (some ⟨b, 0, none⟩)) (bs ++ [.int .u8 c]) w' ∧ Below B w w') := Any.Builder_WriteByte Tryz.lays167W Tryz.Builder_Extra_167 B b bs c w h hlen hBw
open Go.RowKit in
theorem Tryz.Builder_WriteString (B b : Nat) (bs : List Value) (s : ByteArray) (w : World) (h : Lib.IsBuilder 139 5 B b bs w) (hlen : bs.length + s.size ≤ 140737488355328) (hBw : B ≤ w.heap.size) :
    Calls Tryz.prog 79 #[.pointer (some ⟨b, 0, none⟩), .string s] w fun e w' => e = .returned (.tuple #[.int .i64 s.size, .nilIface]) ∧ (Lib.BuilderAt 139 5 B b (.pointer (some ⟨b, 0, none⟩)) (bs ++ Lib.strCells s) w' ∧ Below B w w') := Any.Builder_WriteString Tryz.lays166W Tryz.Builder_Extra_167 B b bs s w h hlen hBw
end Go.Proofs

/- Package script: Write; the reference's Write. No condition but the library's variables, what the types hold and the stated bounds. -/
namespace Go.Proofs.YtbfimimhgdkpaaaGreatDoor
open Go.RowKit
attribute [local go_sem] Oper.semAt_some

theorem builder_keep {T e : TypeId} {B b : Nat} {bs : List Value} {w w' : World} (h : Lib.IsBuilder T e B b bs w) (k : Kp w w') : Lib.IsBuilder T e B b bs w' := by
  have key : ∀ p, Lib.BuilderAt T e B b p bs w → Lib.BuilderAt T e B b p bs w' := by
    rintro p ⟨hB, v, hb, ⟨hl, ho⟩, hne⟩
    have hlt : b < w.heap.size := (Array.getElem?_eq_some_iff.1 hb).1
    refine ⟨hB, v, (Below.block k b hlt).trans hb, ⟨hl, ?_⟩, hne⟩
    rcases ho with ho | ⟨g, cap, cur, hv, hg, hgg, rest⟩
    · exact .inl ho
    · exact .inr ⟨g, cap, cur, hv, hg, (Below.block k g (Array.getElem?_eq_some_iff.1 hgg).1).trans hgg, rest⟩
  exact h.elim (fun x => .inl (key _ x)) (fun x => .inr (key _ x))
theorem builder_new (w : World) (T e : TypeId) : Lib.IsBuilder T e w.heap.size w.heap.size [] (w.alloc (.cells #[.pointer none, .slice none 0 0] T)) :=
  .inl ⟨Nat.le_refl _, .slice none 0 0, World.alloc_heap_new w _, ⟨by simp, .inl ⟨rfl, rfl⟩⟩, by simp [Value.ownBlock]⟩
/-- What Write holds between its rounds. -/
structure WrI (w : World) (l : List Ev) (n : Nat) (V : World) : Prop where
  kp : Kp w V
  bd : Lib.IsBuilder 139 5 w.heap.size w.heap.size (Lib.byteCells (scriptE (l.take n))) V
  pl : ∀ e ∈ l.take n, plainP e = true
theorem scriptE_take {l : List Ev} {n : Nat} (h : n < l.length) : scriptE (l.take (n + 1)) = scriptE (l.take n) ++ (textE l[n] ++ [10]) := by
  rw [List.take_add_one, List.getElem?_eq_getElem h, Option.toList_some, scriptE_snoc]
/-- What the types hold of the events handed to Write. -/
def EvsFit (l : List Ev) : Prop := ∀ e ∈ l, EvOk e ∧ -9223372036854775808 ≤ e.kind ∧ e.kind ≤ 9223372036854775807 ∧ e.bytes.length ≤ 1000000
set_option maxRecDepth 100000 in
set_option maxHeartbeats 4000000 in
theorem write_any (A : Option Addr) (c : Nat) (l : List Ev) (w : World) (L : LibOk w) (hA : EvsAt w A l) (hf : EvsFit l) (hl : l.length ≤ 1000000) :
    Calls Tryz.prog 34 #[.slice A l.length c] w fun en w' => en = .returned (.tuple #[.string (strB (writeE l).1), .int .i64 (writeE l).2]) ∧ Kp w w' := by
  have HL := Lib.hid L
  clear L
  by_cases h5 : 500 < l.length
  · have hi : (500 : Int) < (l.length : Int) := by omega
    rw [show writeE l = ([], 3) by unfold writeE; rw [if_pos h5]]
    go_enter Tryz.func34, Tryz.ntmps34
    go_wp2_with fail
    go_ret2
    exact ⟨rfl, Kp.refl _⟩
  · have hi : (l.length : Int) ≤ 500 := by omega
    obtain ⟨bs, hbs, hR, hb⟩ := hA
    have hbl : l.length = bs.length := by rw [← hbs, List.length_map]
    have Hbs := Lib.hid hbs
    have HR := Lib.hid hR
    have Hb := Lib.hid hb
    have Hf := Lib.hid hf
    obtain ⟨N, hN⟩ : ∃ N, l.length = N := ⟨_, rfl⟩
    have HN := Lib.hid hN
    have hNb : bs.length = N := by rw [← hbl, hN]
    have HNb := Lib.hid hNb
    rw [hN] at hi hl ⊢
    have kw := (Kp.refl w).alloc (.cells #[.pointer none, .slice none 0 0] 139)
    have bw := builder_new w 139 5
    clear hbs hR hb hf hN hbl hNb
    go_enter Tryz.func34, Tryz.ntmps34
    go_wp2_with fail
    obtain ⟨W, hW, RI⟩ : ∃ W, w.alloc (.cells #[.pointer none, .slice none 0 0] 139) = W ∧ Hid (WrI w l 0 W) := ⟨_, rfl, Lib.hid ⟨kw, by simpa [scriptE, Lib.byteCells] using bw, by simp⟩⟩
    rw [hW]
    clear hW kw bw
    go_loopw [14] (fun i wr => ∃ n : Nat, n ≤ N ∧ i = .int .i64 n ∧ Hid (WrI w l n wr)) (fun i _ => N - (intOf i).toNat)
    case atStart => exact ⟨0, Nat.zero_le _, rfl, RI⟩
    case round =>
      obtain ⟨n, hn, rfl, R⟩ := hrel
      have hlt0 : w.heap.size < wr.heap.size := R.out.bd.elim (fun h => h.lt) (fun h => h.lt)
      by_cases hlt : n < N
      · have hnb : n < bs.length := by rw [HNb.out]; exact hlt
        have hnl : n < l.length := by rw [HN.out]; exact hlt
        obtain ⟨x, hx⟩ : ∃ x, bs[n] = x := ⟨_, rfl⟩
        obtain ⟨b, o, hAe, x0, x1, x2, x3, x4, x5, x6⟩ := es_at (HR.out.keep R.out.kp) hnb hx
        subst hAe
        have hRx : Rd wr 1 byteE x.2.1 x.1.bytes := (Hb.out x (by rw [← hx]; exact List.getElem_mem _)).keep R.out.kp
        have hlx : l[n] = x.1 := by
          have h : l[n]? = some x.1 := by rw [← Hbs.out, List.getElem?_map, List.getElem?_eq_getElem hnb, hx]; rfl
          rw [List.getElem?_eq_getElem hnl] at h
          injection h
        have hfx := Hf.out x.1 (by rw [← hlx]; exact List.getElem_mem _)
        have KA : Kp wr (wr.alloc (.cells (evC x.1 (.slice x.2.1 x.1.bytes.length x.2.2)) 27)) := (Kp.refl wr).alloc _
        have L2 := HL.out.keep (R.out.kp.trans KA)
        have RA := hRx.keep KA
        have n0 : (0 : Int) ≤ (n : Int) := by omega
        have n1 : (n : Int) < (N : Int) := by omega
        have Hlx := Lib.hid hlx
        have hxb := hfx.2.2.2
        cases hp : plainP x.1 with
        | false =>
          have Hq := Lib.hid (show writeE l = ([], 2) by
            unfold writeE
            rw [if_neg (by rw [HN.out]; omega), if_neg]
            intro h
            have := List.all_eq_true.1 h x.1 (by rw [← hlx]; exact List.getElem_mem _)
            rw [hp] at this
            cases this)
          clear hx hnb
          go_wp2_with fail
          refine (text_any x.1 x.2.1 x.2.2 _ L2 hfx.1 hfx.2.1 hfx.2.2.1 RA hxb).mono ?_
          rintro en w2 ⟨rfl, K2⟩
          rw [if_neg (by rw [hp]; simp)]
          go_wp2_with fail
          go_ret2
          exact ⟨by rw [Hq.out]; rfl, (R.out.kp.trans KA).trans K2⟩
        | true =>
          have hx8 := plainP_parts hp
          have Hsh := Lib.hid (textE_short hfx.1 hx8.2.2 (k := x.1.kind.toNat) (by omega) (by omega))
          have hpl : ∀ e ∈ l.take n, plainP e = true ∧ EvOk e := fun e he => ⟨R.out.pl e he, (Hf.out e (List.mem_of_mem_take he)).1⟩
          have Hsl := Lib.hid (scriptE_len _ hpl)
          have Htk := Lib.hid (scriptE_take hnl)
          have hlen1 : (Lib.byteCells (scriptE (l.take n))).length + (strB (textE x.1)).size ≤ 140737488355328 := by
            rw [Lib.byteCells_length]
            have h1 := Hsl.out
            have h2 := Hsh.out
            have h3 : (strB (textE x.1)).size = (textE x.1).length := by show (textE x.1).toArray.size = _; simp
            rw [List.length_take, HN.out] at h1
            omega
          have hlen2 : (Lib.byteCells (scriptE (l.take n)) ++ Lib.strCells (strB (textE x.1))).length + 1 ≤ 140737488355328 := by
            rw [List.length_append, Lib.strCells_length]
            rw [Lib.byteCells_length]
            have h1 := Hsl.out
            have h2 := Hsh.out
            have h3 : (strB (textE x.1)).size = (textE x.1).length := by show (textE x.1).toArray.size = _; simp
            rw [List.length_take, HN.out] at h1
            omega
          clear hx hnb hpl
          go_wp2_with fail
          refine (text_any x.1 x.2.1 x.2.2 _ L2 hfx.1 hfx.2.1 hfx.2.2.1 RA hxb).mono ?_
          rintro en w2 ⟨rfl, K2⟩
          rw [if_pos hp]
          have K3 := KA.trans K2
          have s2 := K3.size
          have Hb2 := Lib.hid (builder_keep R.out.bd K3)
          have HK3 := Lib.hid (R.out.kp.trans K3)
          clear KA K2 K3 L2 RA hRx x0 x1 x2 x3 x4 x5 x6
          go_wp2_with fail
          refine (Tryz.Builder_WriteString w.heap.size w.heap.size _ _ _ Hb2.out hlen1 (by omega)).mono ?_
          rintro en w3 ⟨rfl, hb3, k3⟩
          have Hb3 := Lib.hid hb3
          have s3 := k3.size
          clear hb3
          go_wp2_with fail
          refine (Tryz.Builder_WriteByte w.heap.size w.heap.size _ 10 _ (.inr Hb3.out) hlen2 (by omega)).mono ?_
          rintro en w4 ⟨rfl, hb4, k4⟩
          have Hn : Hid (WrI w l (n + 1) w4) := Lib.hid ⟨Below.trans (Below.trans HK3.out k3) k4, by
            rw [Htk.out, Hlx.out]
            have h : Lib.byteCells (scriptE (l.take n)) ++ Lib.strCells (strB (textE x.1)) ++ [Value.int .u8 10] = Lib.byteCells (scriptE (l.take n) ++ (textE x.1 ++ [10])) := by
              rw [Lib.strCells_eq, strB_list]
              simp [Lib.byteCells]
            rw [← h]
            exact .inr hb4, by
            intro e he
            rw [List.take_add_one, List.mem_append] at he
            rcases he with he | he
            · exact R.out.pl e he
            · have : l[n]? = some x.1 := by rw [List.getElem?_eq_getElem (by rw [HN.out]; exact hlt), Hlx.out]
              rw [this] at he
              simp at he
              rw [he]; exact hp⟩
          clear hb4
          go_wp2_with fail
          go_roundw
          case rel => exact ⟨n + 1, by omega, by go_num, Hn⟩
          case measure => simp [intOf]; omega
      · obtain rfl : n = N := by omega
        have Hq := Lib.hid (show writeE l = (scriptE l, 0) by
          have h1 := R.out.pl
          rw [List.take_of_length_le (by rw [HN.out]; exact Nat.le_refl _)] at h1
          unfold writeE
          rw [if_neg (by rw [HN.out]; omega), if_pos (List.all_eq_true.2 h1)])
        have Hb5 := Lib.hid (show Lib.IsBuilder 139 5 w.heap.size w.heap.size (Lib.byteCells (scriptE l)) wr by
          have h1 := R.out.bd
          rw [List.take_of_length_le (by rw [HN.out]; exact Nat.le_refl _)] at h1
          exact h1)
        go_wp2_with (first | (go_at_call 81; refine (Tryz.Builder_String_any_k w.heap.size w.heap.size (scriptE l) _ (Lib.IsBuilderF.of Hb5.out) (by omega)).mono ?_; rintro en w2 ⟨rfl, -, k2, -⟩))
        go_ret2
        exact ⟨by rw [Hq.out]; rfl, Below.trans R.out.kp k2⟩
end Go.Proofs.YtbfimimhgdkpaaaGreatDoor

/- Layer 26: ScriptTexts and ScriptParses, walked. No condition but the library's variables and what the types hold. -/
namespace Go.Proofs.YtbfimimhgdkpaaaGreatDoor
open Go.RowKit

theorem plainP_c {e : Ev} (h : plainP e = true) : e.c = 0 ∨ e.c = 1 := by
  simp only [plainP, Bool.and_eq_true, decide_eq_true_eq] at h
  exact h.2.2.1
set_option maxRecDepth 100000 in
set_option maxHeartbeats 4000000 in
theorem texts_walk (e : Ev) (A : Option Addr) (c : Nat) (w : World) (L : LibOk w) (ok : EvOk e) (h0 : -9223372036854775808 ≤ e.kind) (h1 : e.kind ≤ 9223372036854775807) (hA : Rd w 1 byteE A e.bytes) :
    Calls Tryz.prog 3 #[evV e (.slice A e.bytes.length c)] w fun en w' => en = .returned (.bool true) ∧ Kp w w' := by
  have HL := Lib.hid L
  have HA := Lib.hid hA
  have kb : Kp w (w.alloc (.cells (evC e (.slice A e.bytes.length c)) 27)) := (Kp.refl w).alloc _
  have bb := Blk.new w 27 (evC e (.slice A e.bytes.length c))
  clear L hA
  by_cases hlong : 700 < e.bytes.length
  · have hd : decide ((700 : Int) < (e.bytes.length : Int)) = true := by rw [decide_eq_true_iff]; omega
    have hd2 : decide (700 < e.bytes.length) = true := by rw [decide_eq_true_iff]; exact hlong
    have hi : (700 : Int) < (e.bytes.length : Int) := by omega
    go_enter Tryz.func3, Tryz.ntmps3
    go_wp2_with fail
    obtain ⟨W, hW, kW⟩ : ∃ W, w.alloc (.cells (evC e (.slice A e.bytes.length c)) 27) = W ∧ Kp w W := ⟨_, rfl, kb⟩
    simp only [evC] at hW
    rw [hW]
    clear hW kb bb
    refine (works26_any W (HL.out.keep kW)).mono ?_
    rintro en w' ⟨rfl, hK⟩
    go_wp2_with fail
    go_ret
    exact ⟨rfl, kW.trans hK⟩
  · have hd : decide ((700 : Int) < (e.bytes.length : Int)) = false := by rw [decide_eq_false_iff_not]; omega
    have hd2 : decide (700 < e.bytes.length) = false := by rw [decide_eq_false_iff_not]; exact hlong
    have hi : ¬ (700 : Int) < (e.bytes.length : Int) := by omega
    have hi2 : (e.bytes.length : Int) ≤ 700 := by omega
    have hl : e.bytes.length ≤ 1000000 := by omega
    cases hp : plainP e with
    | false =>
      go_enter Tryz.func3, Tryz.ntmps3
      go_wp2_with fail
      obtain ⟨W, hW, kW, BW⟩ : ∃ W, w.alloc (.cells (evC e (.slice A e.bytes.length c)) 27) = W ∧ Kp w W ∧ Blk W w.heap.size 27 (evC e (.slice A e.bytes.length c)) := ⟨_, rfl, kb, bb⟩
      simp only [evC] at hW
      rw [hW]
      clear hW kb bb
      refine (text_any e A c W (HL.out.keep kW) ok h0 h1 (HA.out.keep kW) hl).mono ?_
      rintro en w1 ⟨rfl, K1⟩
      rw [if_neg (by rw [hp]; simp)]
      have BW := BW.keep K1
      replace kW := kW.trans K1
      have q0 : w1.cell? ⟨w.heap.size, 0, none⟩ = some (.int .i64 e.kind) := BW.cell 0
      have q1 : w1.cell? ⟨w.heap.size, 1, none⟩ = some (.int .i64 e.a) := BW.cell 1
      have q2 : w1.cell? ⟨w.heap.size, 2, none⟩ = some (.int .i64 e.b) := BW.cell 2
      have q3 : w1.cell? ⟨w.heap.size, 3, none⟩ = some (.int .i64 e.c) := BW.cell 3
      have q4 : w1.cell? ⟨w.heap.size, 4, none⟩ = some (.int .i64 e.draw) := BW.cell 4
      have q5 : w1.cell? ⟨w.heap.size, 5, none⟩ = some (.int .u32 (e.src : Int)) := BW.cell 5
      have q6 : w1.cell? ⟨w.heap.size, 6, none⟩ = some (.slice A e.bytes.length c) := BW.cell 6
      clear K1
      go_wp2_with fail
      refine (rplain_any e A c w1).mono ?_
      rintro en w2 ⟨rfl, K2⟩
      rw [hp]
      replace kW := kW.trans K2
      go_wp2_with (first | (go_at_call 13; refine (num26_any _ _).mono ?_; rintro en w' ⟨rfl, rfl⟩) | (go_at_call 10; refine (works26_any _ (HL.out.keep kW)).mono ?_; rintro en w3 ⟨rfl, K3⟩))
      go_ret
      exact ⟨rfl, kW.trans K3⟩
    | true =>
      obtain ⟨p1, p8, p6⟩ := plainP_parts hp
      obtain ⟨k, hk⟩ : ∃ k : Nat, e.kind = (k : Int) := ⟨e.kind.toNat, by omega⟩
      have hsh := textE_short ok p6 hk (by omega)
      have Hpt := Lib.hid (parse_text hp ok)
      have Hc := Lib.hid (plainP_c hp)
      have Hk := Lib.hid hk
      obtain ⟨S, hS⟩ : ∃ S, strB (textE e) = S := ⟨_, rfl⟩
      have hSs : S.size ≤ 1000000 := by rw [← hS]; show (textE e).toArray.size ≤ _; simp; omega
      have HS := Lib.hid hS
      clear hS hk hsh
      go_enter Tryz.func3, Tryz.ntmps3
      go_wp2_with fail
      obtain ⟨W, hW, kW, BW⟩ : ∃ W, w.alloc (.cells (evC e (.slice A e.bytes.length c)) 27) = W ∧ Kp w W ∧ Blk W w.heap.size 27 (evC e (.slice A e.bytes.length c)) := ⟨_, rfl, kb, bb⟩
      simp only [evC] at hW
      rw [hW]
      clear hW kb bb
      refine (text_any e A c W (HL.out.keep kW) ok h0 h1 (HA.out.keep kW) hl).mono ?_
      rintro en w1 ⟨rfl, K1⟩
      rw [if_pos hp, HS.out]
      have BW := BW.keep K1
      replace kW := kW.trans K1
      have q0 : w1.cell? ⟨w.heap.size, 0, none⟩ = some (.int .i64 e.kind) := BW.cell 0
      have q1 : w1.cell? ⟨w.heap.size, 1, none⟩ = some (.int .i64 e.a) := BW.cell 1
      have q2 : w1.cell? ⟨w.heap.size, 2, none⟩ = some (.int .i64 e.b) := BW.cell 2
      have q3 : w1.cell? ⟨w.heap.size, 3, none⟩ = some (.int .i64 e.c) := BW.cell 3
      have q4 : w1.cell? ⟨w.heap.size, 4, none⟩ = some (.int .i64 e.draw) := BW.cell 4
      have q5 : w1.cell? ⟨w.heap.size, 5, none⟩ = some (.int .u32 (e.src : Int)) := BW.cell 5
      have q6 : w1.cell? ⟨w.heap.size, 6, none⟩ = some (.slice A e.bytes.length c) := BW.cell 6
      clear K1
      go_wp2_with fail
      refine (rplain_any e A c w1).mono ?_
      rintro en w2 ⟨rfl, K2⟩
      rw [hp]
      have BW := BW.keep K2
      replace kW := kW.trans K2
      clear q0 q1 q2 q3 q4 q5 q6 K2
      go_wp2_with fail
      refine (parse_any S hSs w2 (HL.out.keep kW)).mono ?_
      rintro en w3 ⟨K3, hY, _⟩
      obtain ⟨A3, c3, rfl, hR3⟩ := hY e (by rw [← HS.out, strB_list]; exact Hpt.out)
      clear hY
      have BW := BW.keep K3
      replace kW := kW.trans K3
      have HR3 := Lib.hid hR3
      clear hR3 K3
      have al := fun o => (Kp.refl w3).alloc o
      have hwn := BW.lt
      have r0 : ∀ o, (w3.alloc o).cell? ⟨w.heap.size, 0, none⟩ = some (.int .i64 e.kind) := fun o => (al o).cell (BW.cell 0)
      have r1 : ∀ o, (w3.alloc o).cell? ⟨w.heap.size, 1, none⟩ = some (.int .i64 e.a) := fun o => (al o).cell (BW.cell 1)
      have r2 : ∀ o, (w3.alloc o).cell? ⟨w.heap.size, 2, none⟩ = some (.int .i64 e.b) := fun o => (al o).cell (BW.cell 2)
      have r3 : ∀ o, (w3.alloc o).cell? ⟨w.heap.size, 3, none⟩ = some (.int .i64 e.c) := fun o => (al o).cell (BW.cell 3)
      have r4 : ∀ o, (w3.alloc o).cell? ⟨w.heap.size, 4, none⟩ = some (.int .i64 e.draw) := fun o => (al o).cell (BW.cell 4)
      have r5 : ∀ o, (w3.alloc o).cell? ⟨w.heap.size, 5, none⟩ = some (.int .u32 (e.src : Int)) := fun o => (al o).cell (BW.cell 5)
      have r6 : ∀ o, (w3.alloc o).cell? ⟨w.heap.size, 6, none⟩ = some (.slice A e.bytes.length c) := fun o => (al o).cell (BW.cell 6)
      have B5 := Blk.new w3 27 (evC e (.slice A3 e.bytes.length c3))
      clear al
      go_wp2_with fail
      obtain ⟨W5, hW5, k5⟩ : ∃ W5, w3.alloc (.cells (evC e (.slice A3 e.bytes.length c3)) 27) = W5 ∧ Kp w3 W5 := ⟨_, rfl, (Kp.refl _).alloc _⟩
      rw [hW5] at B5
      simp only [evC] at hW5
      rw [hW5]
      clear hW5 r0 r1 r2 r3 r4 r5 r6
      have BW := BW.keep k5
      replace kW := kW.trans k5
      replace HR3 := Lib.hid (HR3.out.keep k5)
      clear k5
      refine (rtext_any e A c k Hk.out (by have := Hk.out; omega) (by have := Hk.out; omega) W5 (HL.out.keep kW) ok (HA.out.keep kW) p6 Hc.out).mono ?_
      rintro en w6 ⟨rfl, K6⟩
      rw [HS.out]
      have BW := BW.keep K6
      have B5 := B5.keep K6
      replace kW := kW.trans K6
      replace HR3 := Lib.hid (HR3.out.keep K6)
      clear K6
      have q0 : w6.cell? ⟨w.heap.size, 0, none⟩ = some (.int .i64 e.kind) := BW.cell 0
      have q1 : w6.cell? ⟨w.heap.size, 1, none⟩ = some (.int .i64 e.a) := BW.cell 1
      have q2 : w6.cell? ⟨w.heap.size, 2, none⟩ = some (.int .i64 e.b) := BW.cell 2
      have q3 : w6.cell? ⟨w.heap.size, 3, none⟩ = some (.int .i64 e.c) := BW.cell 3
      have q4 : w6.cell? ⟨w.heap.size, 4, none⟩ = some (.int .i64 e.draw) := BW.cell 4
      have q5 : w6.cell? ⟨w.heap.size, 5, none⟩ = some (.int .u32 (e.src : Int)) := BW.cell 5
      have q6 : w6.cell? ⟨w.heap.size, 6, none⟩ = some (.slice A e.bytes.length c) := BW.cell 6
      have s0 : w6.cell? ⟨w3.heap.size, 0, none⟩ = some (.int .i64 e.kind) := B5.cell 0
      have s1 : w6.cell? ⟨w3.heap.size, 1, none⟩ = some (.int .i64 e.a) := B5.cell 1
      have s2 : w6.cell? ⟨w3.heap.size, 2, none⟩ = some (.int .i64 e.b) := B5.cell 2
      have s3 : w6.cell? ⟨w3.heap.size, 3, none⟩ = some (.int .i64 e.c) := B5.cell 3
      have s4 : w6.cell? ⟨w3.heap.size, 4, none⟩ = some (.int .i64 e.draw) := B5.cell 4
      have s5 : w6.cell? ⟨w3.heap.size, 5, none⟩ = some (.int .u32 (e.src : Int)) := B5.cell 5
      have s6 : w6.cell? ⟨w3.heap.size, 6, none⟩ = some (.slice A3 e.bytes.length c3) := B5.cell 6
      go_wp2_with (first | (go_at_call 13; refine (num26_any _ _).mono ?_; rintro en w' ⟨rfl, rfl⟩))
      refine (rsame_any e e A3 A c3 c w6 HR3.out (HA.out.keep kW)).mono ?_
      rintro en w7 ⟨rfl, K7⟩
      rw [show decide (e = e) = true by simp]
      have BW := BW.keep K7
      have B5 := B5.keep K7
      replace kW := kW.trans K7
      replace HR3 := Lib.hid (HR3.out.keep K7)
      replace q0 := K7.cell q0
      replace q1 := K7.cell q1
      replace q2 := K7.cell q2
      replace q3 := K7.cell q3
      replace q4 := K7.cell q4
      replace q5 := K7.cell q5
      replace q6 := K7.cell q6
      replace s0 := K7.cell s0
      replace s1 := K7.cell s1
      replace s2 := K7.cell s2
      replace s3 := K7.cell s3
      replace s4 := K7.cell s4
      replace s5 := K7.cell s5
      replace s6 := K7.cell s6
      clear K7
      go_wp2_with fail
      refine (same_any e e A3 A c3 c w7 HR3.out (HA.out.keep kW)).mono ?_
      rintro en w8 ⟨rfl, K8⟩
      rw [show decide (e = e) = true by simp]
      replace kW := kW.trans K8
      clear q0 q1 q2 q3 q4 q5 q6 s0 s1 s2 s3 s4 s5 s6 K8
      go_wp2_with (first | (go_at_call 10; refine (works26_any _ (HL.out.keep kW)).mono ?_; rintro en w9 ⟨rfl, K9⟩))
      go_ret
      exact ⟨rfl, kW.trans K9⟩
set_option maxRecDepth 100000 in
set_option maxHeartbeats 4000000 in
theorem parses_walk (s : ByteArray) (w : World) (L : LibOk w) : Calls Tryz.prog 4 #[.string s] w fun en w' => en = .returned (.bool true) ∧ Kp w w' := by
  have HL := Lib.hid L
  clear L
  by_cases hlong : 1300 < s.size
  · have hi : (1300 : Int) < (s.size : Int) := by omega
    go_enter Tryz.func4, Tryz.ntmps4
    go_wp2_with fail
    refine (works26_any w HL.out).mono ?_
    rintro en w' ⟨rfl, hK⟩
    go_wp2_with fail
    go_ret
    exact ⟨rfl, hK⟩
  · have hi : (s.size : Int) ≤ 1300 := by omega
    have hs2 : s.size ≤ 1000000 := by omega
    cases hp : parseE s.data.toList with
    | none =>
      have Hp := Lib.hid hp
      clear hp
      go_enter Tryz.func4, Tryz.ntmps4
      go_wp2_with fail
      refine (parse_any s hs2 w HL.out).mono ?_
      rintro en w1 ⟨K1, _, hN⟩
      obtain rfl := hN Hp.out
      clear hN
      go_wp2_with fail
      obtain ⟨W2, hW2, k2, B2⟩ : ∃ W2, w1.alloc (.cells (evC (ev0 0) (.slice none 0 0)) 27) = W2 ∧ Kp w1 W2 ∧ Blk W2 w1.heap.size 27 (evC (ev0 0) (.slice none 0 0)) := ⟨_, rfl, (Kp.refl _).alloc _, Blk.new _ _ _⟩
      simp only [evC] at hW2
      rw [hW2]
      clear hW2
      refine (rparse_any s hs2 W2).mono ?_
      rintro en w3 ⟨K3, _, hN⟩
      obtain rfl := hN Hp.out
      clear hN
      have B3 := B2.keep K3
      have al := fun o => (Kp.refl w3).alloc o
      have hlt3 := B3.lt
      have r0 : ∀ o, (w3.alloc o).cell? ⟨w1.heap.size, 0, none⟩ = some (.int .i64 (ev0 0).kind) := fun o => (al o).cell (B3.cell 0)
      have r1 : ∀ o, (w3.alloc o).cell? ⟨w1.heap.size, 1, none⟩ = some (.int .i64 (ev0 0).a) := fun o => (al o).cell (B3.cell 1)
      have r2 : ∀ o, (w3.alloc o).cell? ⟨w1.heap.size, 2, none⟩ = some (.int .i64 (ev0 0).b) := fun o => (al o).cell (B3.cell 2)
      have r3 : ∀ o, (w3.alloc o).cell? ⟨w1.heap.size, 3, none⟩ = some (.int .i64 (ev0 0).c) := fun o => (al o).cell (B3.cell 3)
      have r4 : ∀ o, (w3.alloc o).cell? ⟨w1.heap.size, 4, none⟩ = some (.int .i64 (ev0 0).draw) := fun o => (al o).cell (B3.cell 4)
      have r5 : ∀ o, (w3.alloc o).cell? ⟨w1.heap.size, 5, none⟩ = some (.int .u32 ((ev0 0).src : Int)) := fun o => (al o).cell (B3.cell 5)
      have r6 : ∀ o, (w3.alloc o).cell? ⟨w1.heap.size, 6, none⟩ = some (.slice none 0 0) := fun o => (al o).cell (B3.cell 6)
      clear al
      go_wp2_with fail
      obtain ⟨W5, hW5, k5⟩ : ∃ W5, w3.alloc (.cells (evC (ev0 0) (.slice none 0 0)) 27) = W5 ∧ Kp w3 W5 := ⟨_, rfl, (Kp.refl _).alloc _⟩
      simp only [evC] at hW5
      rw [hW5]
      clear hW5 r0 r1 r2 r3 r4 r5 r6
      have kW : Kp w W5 := ((K1.trans k2).trans K3).trans k5
      refine (rsame_any (ev0 0) (ev0 0) none none 0 0 W5 (Rd.nil _ _ _ _) (Rd.nil _ _ _ _)).mono ?_
      rintro en w6 ⟨rfl, K6⟩
      rw [show decide (ev0 0 = ev0 0) = true by simp]
      replace kW := kW.trans K6
      clear K1 k2 K3 k5 K6
      go_wp2_with (first | (go_at_call 13; refine (num26_any _ _).mono ?_; rintro en w' ⟨rfl, rfl⟩) | (go_at_call 10; refine (works26_any _ (HL.out.keep kW)).mono ?_; rintro en w9 ⟨rfl, K9⟩))
      go_ret
      exact ⟨rfl, kW.trans K9⟩
    | some t =>
      obtain ⟨hpl, ok, htx⟩ := parse_sound hp
      obtain ⟨p1, p8, p6⟩ := plainP_parts hpl
      have Hp := Lib.hid hp
      have hts : strB (textE t) = s := by rw [htx]
      have Hts := Lib.hid hts
      clear hp htx hts
      go_enter Tryz.func4, Tryz.ntmps4
      go_wp2_with fail
      refine (parse_any s hs2 w HL.out).mono ?_
      rintro en w1 ⟨K1, hY, _⟩
      obtain ⟨A1, c1, rfl, hR1⟩ := hY t Hp.out
      clear hY
      go_wp2_with fail
      obtain ⟨W2, hW2, k2, B2⟩ : ∃ W2, w1.alloc (.cells (evC t (.slice A1 t.bytes.length c1)) 27) = W2 ∧ Kp w1 W2 ∧ Blk W2 w1.heap.size 27 (evC t (.slice A1 t.bytes.length c1)) := ⟨_, rfl, (Kp.refl _).alloc _, Blk.new _ _ _⟩
      simp only [evC] at hW2
      rw [hW2]
      clear hW2
      refine (rparse_any s hs2 W2).mono ?_
      rintro en w3 ⟨K3, hY, _⟩
      obtain ⟨A3, c3, rfl, hR3⟩ := hY t Hp.out
      clear hY
      have B3 := B2.keep K3
      have al := fun o => (Kp.refl w3).alloc o
      have hlt3 := B3.lt
      have r0 : ∀ o, (w3.alloc o).cell? ⟨w1.heap.size, 0, none⟩ = some (.int .i64 t.kind) := fun o => (al o).cell (B3.cell 0)
      have r1 : ∀ o, (w3.alloc o).cell? ⟨w1.heap.size, 1, none⟩ = some (.int .i64 t.a) := fun o => (al o).cell (B3.cell 1)
      have r2 : ∀ o, (w3.alloc o).cell? ⟨w1.heap.size, 2, none⟩ = some (.int .i64 t.b) := fun o => (al o).cell (B3.cell 2)
      have r3 : ∀ o, (w3.alloc o).cell? ⟨w1.heap.size, 3, none⟩ = some (.int .i64 t.c) := fun o => (al o).cell (B3.cell 3)
      have r4 : ∀ o, (w3.alloc o).cell? ⟨w1.heap.size, 4, none⟩ = some (.int .i64 t.draw) := fun o => (al o).cell (B3.cell 4)
      have r5 : ∀ o, (w3.alloc o).cell? ⟨w1.heap.size, 5, none⟩ = some (.int .u32 (t.src : Int)) := fun o => (al o).cell (B3.cell 5)
      have r6 : ∀ o, (w3.alloc o).cell? ⟨w1.heap.size, 6, none⟩ = some (.slice A1 t.bytes.length c1) := fun o => (al o).cell (B3.cell 6)
      have HR1 := Lib.hid ((hR1.keep k2).keep K3)
      have HR3 := Lib.hid hR3
      clear al hR1 hR3
      go_wp2_with fail
      obtain ⟨W5, hW5, k5⟩ : ∃ W5, w3.alloc (.cells (evC t (.slice A3 t.bytes.length c3)) 27) = W5 ∧ Kp w3 W5 := ⟨_, rfl, (Kp.refl _).alloc _⟩
      simp only [evC] at hW5
      rw [hW5]
      clear hW5 r0 r1 r2 r3 r4 r5 r6
      have kW : Kp w W5 := ((K1.trans k2).trans K3).trans k5
      refine (rsame_any t t A1 A3 c1 c3 W5 (HR1.out.keep k5) (HR3.out.keep k5)).mono ?_
      rintro en w6 ⟨rfl, K6⟩
      rw [show decide (t = t) = true by simp]
      replace kW := kW.trans K6
      have B6 := (B3.keep k5).keep K6
      have HR6 := Lib.hid ((HR1.out.keep k5).keep K6)
      have q0 : w6.cell? ⟨w1.heap.size, 0, none⟩ = some (.int .i64 t.kind) := B6.cell 0
      have q1 : w6.cell? ⟨w1.heap.size, 1, none⟩ = some (.int .i64 t.a) := B6.cell 1
      have q2 : w6.cell? ⟨w1.heap.size, 2, none⟩ = some (.int .i64 t.b) := B6.cell 2
      have q3 : w6.cell? ⟨w1.heap.size, 3, none⟩ = some (.int .i64 t.c) := B6.cell 3
      have q4 : w6.cell? ⟨w1.heap.size, 4, none⟩ = some (.int .i64 t.draw) := B6.cell 4
      have q5 : w6.cell? ⟨w1.heap.size, 5, none⟩ = some (.int .u32 (t.src : Int)) := B6.cell 5
      have q6 : w6.cell? ⟨w1.heap.size, 6, none⟩ = some (.slice A1 t.bytes.length c1) := B6.cell 6
      clear K1 k2 K3 k5 K6 B2 B3 HR1 HR3
      go_wp2_with (first | (go_at_call 13; refine (num26_any _ _).mono ?_; rintro en w' ⟨rfl, rfl⟩))
      refine (text_any t A1 c1 w6 (HL.out.keep kW) ok (by omega) (by omega) HR6.out (by omega)).mono ?_
      rintro en w7 ⟨rfl, K7⟩
      rw [if_pos hpl, Hts.out]
      replace kW := kW.trans K7
      clear q0 q1 q2 q3 q4 q5 q6 K7
      go_wp2_with (first | (go_at_call 13; refine (num26_any _ _).mono ?_; rintro en w' ⟨rfl, rfl⟩) | (go_at_call 10; refine (works26_any _ (HL.out.keep kW)).mono ?_; rintro en w9 ⟨rfl, K9⟩))
      go_ret
      exact ⟨rfl, kW.trans K9⟩
end Go.Proofs.YtbfimimhgdkpaaaGreatDoor

/- The reference of package script: Write. No condition but the library's variables, what the types hold and the stated bounds. -/
namespace Go.Proofs.YtbfimimhgdkpaaaGreatDoor
open Go.RowKit
attribute [local go_sem] Oper.semAt_some

/-- What the reference's Write holds between its rounds. -/
structure WrJ (w : World) (l : List Ev) (n : Nat) (S : ByteArray) (V : World) : Prop where
  kp : Kp w V
  eq : S = strB (scriptE (l.take n))
  sz : S.size ≤ 10001 * n
  pl : ∀ e ∈ l.take n, plainP e = true
theorem strB_size (l : List UInt8) : (strB l).size = l.length := by show l.toArray.size = _; simp
set_option maxRecDepth 100000 in
set_option maxHeartbeats 4000000 in
theorem rwrite_any (A : Option Addr) (c : Nat) (l : List Ev) (w : World) (L : LibOk w) (hA : EvsAt w A l) (hf : EvsFit l) (hl : l.length ≤ 1000000) :
    Calls Tryz.prog 35 #[.slice A l.length c] w fun en w' => en = .returned (.tuple #[.string (strB (writeE l).1), .int .i64 (writeE l).2]) ∧ Kp w w' := by
  have HL := Lib.hid L
  clear L
  by_cases h5 : 500 < l.length
  · have hi : (500 : Int) < (l.length : Int) := by omega
    rw [show writeE l = ([], 3) by unfold writeE; rw [if_pos h5]]
    go_enter Tryz.func35, Tryz.ntmps35
    go_wp2_with fail
    go_ret2
    exact ⟨rfl, Kp.refl _⟩
  · have hi : (l.length : Int) ≤ 500 := by omega
    obtain ⟨bs, hbs, hR, hb⟩ := hA
    have hbl : l.length = bs.length := by rw [← hbs, List.length_map]
    have Hbs := Lib.hid hbs
    have HR := Lib.hid hR
    have Hb := Lib.hid hb
    have Hf := Lib.hid hf
    obtain ⟨N, hN⟩ : ∃ N, l.length = N := ⟨_, rfl⟩
    have HN := Lib.hid hN
    have hNb : bs.length = N := by rw [← hbl, hN]
    have HNb := Lib.hid hNb
    rw [hN] at hi hl ⊢
    have RI : Hid (WrJ w l 0 ⟨#[]⟩ w) := Lib.hid ⟨Kp.refl _, by simp [scriptE, strB], by decide, by simp⟩
    clear hbs hR hb hf hN hbl hNb
    go_enter Tryz.func35, Tryz.ntmps35
    go_wp2_with fail
    go_loopw [4, 5] (fun v i wr => ∃ (n : Nat) (S : ByteArray), n ≤ N ∧ v = .string S ∧ i = .int .i64 n ∧ Hid (WrJ w l n S wr)) (fun _ i _ => N - (intOf i).toNat)
    case atStart => exact ⟨0, _, Nat.zero_le _, rfl, rfl, RI⟩
    case round =>
      obtain ⟨n, S, hn, rfl, rfl, R⟩ := hrel
      by_cases hlt : n < N
      · have hnb : n < bs.length := by rw [HNb.out]; exact hlt
        have hnl : n < l.length := by rw [HN.out]; exact hlt
        obtain ⟨x, hx⟩ : ∃ x, bs[n] = x := ⟨_, rfl⟩
        obtain ⟨b, o, hAe, x0, x1, x2, x3, x4, x5, x6⟩ := es_at (HR.out.keep R.out.kp) hnb hx
        subst hAe
        have hRx : Rd wr 1 byteE x.2.1 x.1.bytes := (Hb.out x (by rw [← hx]; exact List.getElem_mem _)).keep R.out.kp
        have hlx : l[n] = x.1 := by
          have h : l[n]? = some x.1 := by rw [← Hbs.out, List.getElem?_map, List.getElem?_eq_getElem hnb, hx]; rfl
          rw [List.getElem?_eq_getElem hnl] at h
          injection h
        have hfx := Hf.out x.1 (by rw [← hlx]; exact List.getElem_mem _)
        have L2 := HL.out.keep R.out.kp
        have n0 : (0 : Int) ≤ (n : Int) := by omega
        have n1 : (n : Int) < (N : Int) := by omega
        have Hlx := Lib.hid hlx
        cases hp : plainP x.1 with
        | false =>
          have Hq := Lib.hid (show writeE l = ([], 2) by
            unfold writeE
            rw [if_neg (by rw [HN.out]; omega), if_neg]
            intro h
            have := List.all_eq_true.1 h x.1 (by rw [← hlx]; exact List.getElem_mem _)
            rw [hp] at this
            cases this)
          clear hx hnb
          go_wp2_with fail
          refine (rplain_any x.1 x.2.1 x.2.2 _).mono ?_
          rintro en w2 ⟨rfl, K2⟩
          rw [hp]
          go_wp2_with fail
          go_ret2
          exact ⟨by rw [Hq.out]; rfl, R.out.kp.trans K2⟩
        | true =>
          have hx8 := plainP_parts hp
          obtain ⟨k, hk⟩ : ∃ k : Nat, x.1.kind = (k : Int) := ⟨x.1.kind.toNat, by omega⟩
          have hsh := textE_short hfx.1 hx8.2.2 hk (by omega)
          have hpc := plainP_c hp
          have Htk := Lib.hid (scriptE_take hnl)
          obtain ⟨T, hT⟩ : ∃ T, strB (textE x.1) = T := ⟨_, rfl⟩
          have hTs : T.size ≤ 10000 := by rw [← hT, strB_size]; exact hsh
          obtain ⟨t1, f1, z1, y1⟩ := add_fact (x := S) (y := T) (n := 10001 * n) (m := 10000) R.out.sz hTs (by omega)
          obtain ⟨t2, f2, z2, y2⟩ := add_fact (x := t1) (y := ⟨#[10]⟩) y1 (by decide : (⟨#[10]⟩ : ByteArray).size ≤ 1) (by omega)
          have Heq := Lib.hid (show t2 = strB (scriptE (l.take (n + 1))) by
            rw [f2, f1, ← hT, R.out.eq, Htk.out, hlx, show (⟨#[10]⟩ : ByteArray) = strB [10] from rfl, strB_app, strB_app, List.append_assoc])
          have HT := Lib.hid hT
          have HK := Lib.hid hk
          have Hx8 := Lib.hid hx8
          have Hpc := Lib.hid hpc
          have Hy2 := Lib.hid y2
          clear hx hnb f1 f2 hTs hT hk hx8 hpc y1 y2 hsh hlx
          go_wp2_with fail
          refine (rplain_any x.1 x.2.1 x.2.2 _).mono ?_
          rintro en w2 ⟨rfl, K2⟩
          rw [hp]
          replace x0 := K2.cell x0
          replace x1 := K2.cell x1
          replace x2 := K2.cell x2
          replace x3 := K2.cell x3
          replace x4 := K2.cell x4
          replace x5 := K2.cell x5
          replace x6 := K2.cell x6
          go_wp2_with fail
          refine (rtext_any x.1 x.2.1 x.2.2 k HK.out (by have := HK.out; have := Hx8.out; omega) (by have := HK.out; have := Hx8.out; omega) _ (L2.keep K2) hfx.1 (hRx.keep K2) Hx8.out.2.2 Hpc.out).mono ?_
          rintro en w3 ⟨rfl, K3⟩
          rw [HT.out]
          have Hn : Hid (WrJ w l (n + 1) t2 w3) := Lib.hid ⟨(R.out.kp.trans K2).trans K3, Heq.out, by have := Hy2.out; omega, by
            intro e he
            rw [List.take_add_one, List.mem_append] at he
            rcases he with he | he
            · exact R.out.pl e he
            · have : l[n]? = some x.1 := by rw [List.getElem?_eq_getElem (by rw [HN.out]; exact hlt), Hlx.out]
              rw [this] at he
              simp at he
              rw [he]; exact hp⟩
          clear x0 x1 x2 x3 x4 x5 x6
          go_wp2_with fail
          go_roundw
          case rel => exact ⟨n + 1, t2, by omega, rfl, by go_num, Hn⟩
          case measure => simp [intOf]; omega
      · obtain rfl : n = N := by omega
        have Hq := Lib.hid (show writeE l = (scriptE l, 0) by
          have h1 := R.out.pl
          rw [List.take_of_length_le (by rw [HN.out]; exact Nat.le_refl _)] at h1
          unfold writeE
          rw [if_neg (by rw [HN.out]; omega), if_pos (List.all_eq_true.2 h1)])
        have hS : S = strB (scriptE l) := by
          have h1 := R.out.eq
          rw [List.take_of_length_le (by rw [HN.out]; exact Nat.le_refl _)] at h1
          exact h1
        have HS := Lib.hid hS
        clear hS
        go_wp2_with fail
        go_ret2
        exact ⟨by rw [Hq.out, HS.out]; rfl, R.out.kp⟩
end Go.Proofs.YtbfimimhgdkpaaaGreatDoor

/- Layer 26: the events of make, and the script that repeats one line. No program's walk. -/
namespace Go.Proofs.YtbfimimhgdkpaaaGreatDoor
open Go.RowKit

def evZ : Array Value := #[.int .i64 0, .int .i64 0, .int .i64 0, .int .i64 0, .int .i64 0, .int .u32 0, .slice none 0 0]
theorem info_ev : ∃ i, Tryz.prog.info? 27 = some i ∧ i.zero = some (.agg evZ) ∧ i.size = 7 ∧ i.bytes = 72 := by
  have h : (Tryz.prog.info? 27).map (fun i => (i.zero, i.size, i.bytes)) = some (some (.agg evZ), 7, 72) := by kernel_rfl
  cases hi : Tryz.prog.info? 27 with
  | none => rw [hi] at h; cases h
  | some i =>
    rw [hi] at h
    simp only [Option.map_some, Option.some.injEq, Prod.mk.injEq] at h
    exact ⟨i, rfl, h.1, h.2.1, h.2.2⟩
theorem make_evs (n : Nat) (hn : n ≤ 1000000) (w : World) : (Instr.makeSlice 53 (.int .i64 (n : Int)) (.int .i64 (n : Int))).run Tryz.prog w = .ok (.slice (some ⟨w.heap.size, 0, none⟩) n n) (w.alloc (.cells (madeCells evZ (n * 7)) 27)) := by
  obtain ⟨i, hi, hz, h7, hb⟩ := info_ev
  have h := run_make (P := Tryz.prog) w 53 27 i (.agg evZ) Tryz.underlying53 hi hz .i64 .i64 n n (by omega) (Int.le_refl _) (by rw [hb]; omega) (by omega)
  rw [h, h7]
  rfl
theorem evs_made (n : Nat) (w : World) : EvsAt (w.alloc (.cells (madeCells evZ (n * 7)) 27)) (some ⟨w.heap.size, 0, none⟩) (List.replicate n (ev0 0)) := by
  refine ⟨List.replicate n (ev0 0, (none, 0)), by simp, ?_, ?_⟩
  · intro i hi
    refine ⟨w.heap.size, 0, rfl, fun j u hu => ?_⟩
    have hi2 : i < n := by simpa using hi
    have hj : j < 7 := by
      have := (List.getElem?_eq_some_iff.1 hu).1
      rwa [esE_len] at this
    have hc : (w.alloc (.cells (madeCells evZ (n * 7)) 27)).cell? ⟨w.heap.size, 0 + i * 7 + j, none⟩ = (madeCells evZ (n * 7))[0 + i * 7 + j]? := Lib.cell_of_heap (World.alloc_heap_new w _) _
    rw [hc]
    have hlt : 0 + i * 7 + j < n * 7 := by omega
    have hs : evZ.size = 7 := rfl
    simp only [madeCells, Array.getElem?_map]
    rw [Array.getElem?_range, if_pos hlt]
    simp only [Option.map_some, hs]
    rw [show (0 + i * 7 + j) % 7 = j by omega]
    simp only [List.getElem_replicate] at hu
    have : j = 0 ∨ j = 1 ∨ j = 2 ∨ j = 3 ∨ j = 4 ∨ j = 5 ∨ j = 6 := by omega
    rcases this with rfl | rfl | rfl | rfl | rfl | rfl | rfl <;> exact hu
  · intro x hx
    rw [List.mem_replicate] at hx
    rw [hx.2]
    exact Rd.nil _ _ _ _
theorem write_made {n : Nat} (h0 : 0 < n) (h5 : n ≤ 500) : writeE (List.replicate n (ev0 0)) = ([], 2) := by
  unfold writeE
  rw [if_neg (by simp; omega), if_neg]
  intro h
  have h1 := List.all_eq_true.1 h (ev0 0) (by rw [List.mem_replicate]; exact ⟨by omega, rfl⟩)
  revert h1
  decide +kernel
theorem write_many {n : Nat} (h5 : 500 < n) : writeE (List.replicate n (ev0 0)) = ([], 3) := by
  unfold writeE
  rw [if_pos (by simpa using h5)]
theorem fit_made (n : Nat) : EvsFit (List.replicate n (ev0 0)) := by
  intro e he
  rw [List.mem_replicate] at he
  rw [he.2]
  exact ⟨⟨by decide, by decide, by decide, by decide, by decide, by decide, by decide⟩, by decide, by decide, by decide⟩
def loseS : ByteArray := ⟨#[108, 111, 115, 101, 32, 48, 10]⟩
theorem repeat_lose (n : Nat) : Lib.repeatL loseS.data.toList n = scriptE (List.replicate n loseE) := by
  induction n with
  | zero => rfl
  | succ n ih =>
    rw [Lib.repeatL, ih, List.replicate_succ, scriptE_cons, text_lose]
    rfl
theorem lose_ok : EvOk loseE := ⟨by decide, by decide, by decide, by decide, by decide, by decide, by decide⟩
theorem read_lose {n : Nat} (h5 : n ≤ 500) : refReadE (scriptE (List.replicate n loseE)) = (List.replicate n loseE, n, 0) := by
  rw [← read_same, read_script _ 0 [] (fun e he => by rw [List.mem_replicate] at he; rw [he.2]; exact ⟨plain_lose, lose_ok⟩) (by simp), if_pos (by simpa using h5)]
  simp
theorem read_loses {n : Nat} (h5 : 500 < n) : refReadE (scriptE (List.replicate n loseE)) = ([], 500, 3) := by
  rw [← read_same, read_script _ 0 [] (fun e he => by rw [List.mem_replicate] at he; rw [he.2]; exact ⟨plain_lose, lose_ok⟩) (by simp), if_neg (by simpa using h5)]
  simp
theorem lose_len (n : Nat) : (scriptE (List.replicate n loseE)).length = 7 * n := by
  rw [script_lose]
  simp [Nat.mul_comm]
theorem read_written {l : List Ev} (hp : l.all plainP = true) (hf : EvsFit l) (h5 : l.length ≤ 500) : refReadE (scriptE l) = (l, l.length, 0) := by
  rw [← read_same, read_script _ 0 [] (fun e he => ⟨List.all_eq_true.1 hp e he, (hf e he).1⟩) (by simp), if_pos (by simpa using h5)]
  simp
end Go.Proofs.YtbfimimhgdkpaaaGreatDoor

/- Layer 26: ScriptWrites, walked. No condition but the library's variables and what the types hold. -/
namespace Go.Proofs.YtbfimimhgdkpaaaGreatDoor
open Go.RowKit
attribute [local go_sem] Oper.semAt_some

set_option maxRecDepth 100000 in
set_option maxHeartbeats 8000000 in
theorem writes_walk (A : Option Addr) (c : Nat) (l : List Ev) (m : Int) (w : World) (L : LibOk w) (hA : EvsAt w A l) (hm : l.length ≤ maxLen) (hf : ∀ e ∈ l, EvOk e ∧ -9223372036854775808 ≤ e.kind ∧ e.kind ≤ 9223372036854775807) :
    Calls Tryz.prog 9 #[.slice A l.length c, .int .i64 m] w fun en w' => en = .returned (.bool true) ∧ Kp w w' := by
  have HL := Lib.hid L
  clear L
  by_cases h20 : 20 < l.length
  · have hi : (20 : Int) < (l.length : Int) := by omega
    go_enter Tryz.func9, Tryz.ntmps9
    go_wp2_with fail
    refine (works26_any w HL.out).mono ?_
    rintro en w' ⟨rfl, hK⟩
    go_wp2_with fail
    go_ret
    exact ⟨rfl, hK⟩
  by_cases hm1 : m < -1
  · have hi : ¬ (20 : Int) < (l.length : Int) := by omega
    go_enter Tryz.func9, Tryz.ntmps9
    go_wp2_with fail
    refine (works26_any w HL.out).mono ?_
    rintro en w' ⟨rfl, hK⟩
    go_wp2_with fail
    go_ret
    exact ⟨rfl, hK⟩
  by_cases hm2 : 1 < m
  · have hi : ¬ (20 : Int) < (l.length : Int) := by omega
    go_enter Tryz.func9, Tryz.ntmps9
    go_wp2_with fail
    refine (works26_any w HL.out).mono ?_
    rintro en w' ⟨rfl, hK⟩
    go_wp2_with fail
    go_ret
    exact ⟨rfl, hK⟩
  have hi : ¬ (20 : Int) < (l.length : Int) := by omega
  have hA0 := hA
  obtain ⟨bs, hbs, hR, hb⟩ := hA
  have hbl : l.length = bs.length := by rw [← hbs, List.length_map]
  have Hbs := Lib.hid hbs
  have HR := Lib.hid hR
  have Hb := Lib.hid hb
  have Hf := Lib.hid hf
  have HA := Lib.hid hA0
  obtain ⟨N, hN⟩ : ∃ N, l.length = N := ⟨_, rfl⟩
  have HN := Lib.hid hN
  have hNb : bs.length = N := by rw [← hbl, hN]
  have HNb := Lib.hid hNb
  rw [hN] at hi h20 ⊢
  have hNi : (N : Int) ≤ 20 := by omega
  clear hbs hR hb hf hN hbl hNb hm hA0
  go_enter Tryz.func9, Tryz.ntmps9
  go_wp2_with fail
  go_loopw [5] (fun i wr => ∃ n : Nat, n ≤ N ∧ i = .int .i64 n ∧ Hid (Kp w wr) ∧ Hid (∀ e ∈ l.take n, e.bytes.length ≤ 700)) (fun i _ => N - (intOf i).toNat)
  case atStart => exact ⟨0, Nat.zero_le _, rfl, Lib.hid (Kp.refl _), Lib.hid (by simp)⟩
  case round =>
    obtain ⟨n, hn, rfl, K, B7⟩ := hrel
    by_cases hlt : n < N
    · have hnb : n < bs.length := by rw [HNb.out]; exact hlt
      have hnl : n < l.length := by rw [HN.out]; exact hlt
      obtain ⟨x, hx⟩ : ∃ x, bs[n] = x := ⟨_, rfl⟩
      have hlx : l[n]? = some x.1 := by rw [← Hbs.out, List.getElem?_map, List.getElem?_eq_getElem hnb, hx]; rfl
      obtain ⟨b, o, hAe, x0, x1, x2, x3, x4, x5, x6⟩ := es_at (HR.out.keep K.out) hnb hx
      subst hAe
      have n0 : (0 : Int) ≤ (n : Int) := by omega
      have n1 : (n : Int) < (N : Int) := by omega
      by_cases hb7 : 700 < x.1.bytes.length
      · have hi7 : (700 : Int) < (x.1.bytes.length : Int) := by omega
        clear x0 x1 x2 x3 x4 x5
        go_wp2_with fail
        refine (works26_any wr (HL.out.keep K.out)).mono ?_
        rintro en w' ⟨rfl, hK⟩
        go_wp2_with fail
        go_ret
        exact ⟨rfl, K.out.trans hK⟩
      · have hi7 : ¬ (700 : Int) < (x.1.bytes.length : Int) := by omega
        have Hn7 := Lib.hid (show ∀ e ∈ l.take (n + 1), e.bytes.length ≤ 700 by
          intro e he
          rw [List.take_add_one, List.mem_append, hlx] at he
          rcases he with he | he
          · exact B7.out e he
          · simp at he; rw [he]; omega)
        have Hx := Lib.hid hx
        clear x0 x1 x2 x3 x4 x5 hlx hx
        go_wp2_with fail
        go_loopw [6] (fun i wx => ∃ k : Nat, k ≤ n ∧ i = .int .i64 k ∧ Hid (Kp w wx)) (fun i _ => n - (intOf i).toNat)
        case atStart => exact ⟨0, Nat.zero_le _, rfl, K⟩
        case round =>
          obtain ⟨k, hk, rfl, J⟩ := hrel
          by_cases hkl : k < n
          · have hkb : k < bs.length := by omega
            obtain ⟨y, hy⟩ : ∃ y, bs[k] = y := ⟨_, rfl⟩
            obtain ⟨b1, o1, e1, x0, x1, x2, x3, x4, x5, x6⟩ := es_at (HR.out.keep J.out) hnb Hx.out
            obtain ⟨b2, o2, e2, y0, y1, y2, y3, y4, y5, y6⟩ := es_at (HR.out.keep J.out) hkb hy
            obtain ⟨rfl, rfl⟩ : b = b1 ∧ o = o1 := by simpa using e1
            obtain ⟨rfl, rfl⟩ : b = b2 ∧ o = o2 := by simpa using e2
            have hRx : Rd wr 1 byteE x.2.1 x.1.bytes := (Hb.out x (by rw [← Hx.out]; exact List.getElem_mem _)).keep J.out
            have hRy : Rd wr 1 byteE y.2.1 y.1.bytes := (Hb.out y (by rw [← hy]; exact List.getElem_mem _)).keep J.out
            obtain ⟨q, hq⟩ : ∃ q, decide (x.1 = y.1) = q := ⟨_, rfl⟩
            have kd : Kp wr wr.drew := (Kp.refl _).drew
            have hqq : (q != q) = false := by cases q <;> rfl
            have k0 : (0 : Int) ≤ (k : Int) := by omega
            have k1 : (k : Int) < (N : Int) := by omega
            have k2 : (k : Int) < (n : Int) := by omega
            clear hy e1 e2 hi7
            go_wp2_with fail
            go_region_held3 (fun W' => W'.cell? ⟨b, o + n * 7, none⟩ = some (.int .i64 x.1.kind) ∧ W'.cell? ⟨b, o + n * 7 + 1, none⟩ = some (.int .i64 x.1.a) ∧ W'.cell? ⟨b, o + n * 7 + 2, none⟩ = some (.int .i64 x.1.b) ∧ W'.cell? ⟨b, o + n * 7 + 3, none⟩ = some (.int .i64 x.1.c) ∧ W'.cell? ⟨b, o + n * 7 + 4, none⟩ = some (.int .i64 x.1.draw) ∧ W'.cell? ⟨b, o + n * 7 + 5, none⟩ = some (.int .u32 (x.1.src : Int)) ∧ W'.cell? ⟨b, o + n * 7 + 6, none⟩ = some (.slice x.2.1 x.1.bytes.length x.2.2) ∧ W'.cell? ⟨b, o + k * 7, none⟩ = some (.int .i64 y.1.kind) ∧ W'.cell? ⟨b, o + k * 7 + 1, none⟩ = some (.int .i64 y.1.a) ∧ W'.cell? ⟨b, o + k * 7 + 2, none⟩ = some (.int .i64 y.1.b) ∧ W'.cell? ⟨b, o + k * 7 + 3, none⟩ = some (.int .i64 y.1.c) ∧ W'.cell? ⟨b, o + k * 7 + 4, none⟩ = some (.int .i64 y.1.draw) ∧ W'.cell? ⟨b, o + k * 7 + 5, none⟩ = some (.int .u32 (y.1.src : Int)) ∧ W'.cell? ⟨b, o + k * 7 + 6, none⟩ = some (.slice y.2.1 y.1.bytes.length y.2.2) ∧ Kp wr W') (first | (with_reducible exact ⟨Kp.cell kd x0, Kp.cell kd x1, Kp.cell kd x2, Kp.cell kd x3, Kp.cell kd x4, Kp.cell kd x5, Kp.cell kd x6, Kp.cell kd y0, Kp.cell kd y1, Kp.cell kd y2, Kp.cell kd y3, Kp.cell kd y4, Kp.cell kd y5, Kp.cell kd y6, kd⟩) | (with_reducible exact ⟨Kp.cell hKa x0, Kp.cell hKa x1, Kp.cell hKa x2, Kp.cell hKa x3, Kp.cell hKa x4, Kp.cell hKa x5, Kp.cell hKa x6, Kp.cell hKa y0, Kp.cell hKa y1, Kp.cell hKa y2, Kp.cell hKa y3, Kp.cell hKa y4, Kp.cell hKa y5, Kp.cell hKa y6, hKa⟩) | (with_reducible exact ⟨Kp.cell hKb x0, Kp.cell hKb x1, Kp.cell hKb x2, Kp.cell hKb x3, Kp.cell hKb x4, Kp.cell hKb x5, Kp.cell hKb x6, Kp.cell hKb y0, Kp.cell hKb y1, Kp.cell hKb y2, Kp.cell hKb y3, Kp.cell hKb y4, Kp.cell hKb y5, Kp.cell hKb y6, hKb⟩) | fail) (first | (go_at_call 17; (first | (with_reducible refine (same_any x.1 y.1 x.2.1 y.2.1 x.2.2 y.2.2 wr.drew (hRx.keep kd) (hRy.keep kd)).mono ?_; rintro e wa ⟨rfl, hKa⟩; replace hKa := kd.trans hKa; rw [hq]) | (with_reducible refine (same_any x.1 y.1 x.2.1 y.2.1 x.2.2 y.2.2 wa (hRx.keep hKa) (hRy.keep hKa)).mono ?_; rintro e wb ⟨rfl, hKb⟩; replace hKb := hKa.trans hKb; rw [hq]))) | (go_at_call 16; (first | (with_reducible refine (rsame_any x.1 y.1 x.2.1 y.2.1 x.2.2 y.2.2 wr.drew (hRx.keep kd) (hRy.keep kd)).mono ?_; rintro e wa ⟨rfl, hKa⟩; replace hKa := kd.trans hKa; rw [hq]) | (with_reducible refine (rsame_any x.1 y.1 x.2.1 y.2.1 x.2.2 y.2.2 wa (hRx.keep hKa) (hRy.keep hKa)).mono ?_; rintro e wb ⟨rfl, hKb⟩; replace hKb := hKa.trans hKb; rw [hq]))))
            go_wp2_with fail
            go_roundw
            case rel => exact ⟨k + 1, by omega, by go_num, Lib.hid (J.out.trans hKb)⟩
            case measure => simp [intOf]; omega
          · obtain rfl : k = n := by omega
            go_wp2_with fail
            go_roundw
            case rel => exact ⟨k + 1, by omega, by go_num, J, Hn7⟩
            case measure => simp [intOf]; omega
    · obtain rfl : n = N := by omega
      have HF := Lib.hid (show EvsFit l from fun e he => by
        obtain ⟨a, b, c⟩ := Hf.out e he
        have h7 := B7.out e (by rw [List.take_of_length_le (by rw [HN.out]; exact Nat.le_refl _)]; exact he)
        exact ⟨a, b, c, by omega⟩)
      have hA2 := HA.out.keep K.out
      have hw1 := write_any A c l wr (HL.out.keep K.out) hA2 HF.out (by rw [HN.out]; omega)
      have hw2 := fun w1 (K1 : Kp wr w1) => rwrite_any A c l w1 (HL.out.keep (K.out.trans K1)) (hA2.keep K1) HF.out (by rw [HN.out]; omega)
      obtain ⟨u, no, hQ⟩ : ∃ u no, writeE l = (u, no) := ⟨_, _, rfl⟩
      rw [HN.out, hQ] at hw1
      simp only [HN.out, hQ] at hw2
      have HQ := Lib.hid hQ
      have Hw1 := Lib.hid hw1
      have Hw2 := Lib.hid hw2
      obtain ⟨S, hS⟩ : ∃ S, strB u = S := ⟨_, rfl⟩
      have HS := Lib.hid hS
      clear hQ hw1 hw2 hA2 hS
      go_wp2_with fail
      refine Hw1.out.mono ?_
      rintro en w1 ⟨rfl, K1⟩
      rw [HS.out]
      go_wp2_with fail
      refine (Hw2.out w1 K1).mono ?_
      rintro en w2 ⟨rfl, K2⟩
      rw [HS.out]
      have HK2 := Lib.hid ((K.out.trans K1).trans K2)
      clear K1 K2
      cases hp : l.all plainP with
      | true =>
        have hwr : writeE l = (scriptE l, 0) := by
          unfold writeE
          rw [if_neg (by rw [HN.out]; omega), if_pos hp]
        obtain ⟨rfl, rfl⟩ : scriptE l = u ∧ 0 = no := by
          have := HQ.out
          rw [hwr] at this
          injection this with a b
          exact ⟨a, b⟩
        have hSs : S.size ≤ 1000000 := by
          rw [← HS.out, strB_size]
          have := scriptE_len l (fun e he => ⟨List.all_eq_true.1 hp e he, (HF.out e he).1⟩)
          rw [HN.out] at this
          omega
        have hrs := read_any S hSs w2 (HL.out.keep HK2.out)
        unfold ReadP at hrs
        rw [show S.data.toList = scriptE l by rw [← HS.out, strB_list], read_written hp HF.out (by rw [HN.out]; omega)] at hrs
        simp only [HN.out] at hrs
        have Hrs := Lib.hid hrs
        clear hwr hrs hSs hp
        go_wp2_with (first | (go_at_call 13; refine (num26_any _ _).mono ?_; rintro en w' ⟨rfl, rfl⟩))
        refine Hrs.out.mono ?_
        rintro en w3 ⟨K3, A1, c1, rfl, hE1⟩
        have HK3 := Lib.hid (HK2.out.trans K3)
        have hev := events_any A1 A c1 c l l w3 (by rw [HN.out]; omega) hE1 (HA.out.keep HK3.out)
        rw [HN.out, show decide (l = l) = true by simp] at hev
        have Hev := Lib.hid hev
        clear hev hE1 K3
        go_wp2_with (first | (go_at_call 13; refine (num26_any _ _).mono ?_; rintro en w' ⟨rfl, rfl⟩) | (go_at_call 28; refine Hev.out.mono ?_; rintro en w3' ⟨rfl, K3'⟩))
        have HK9 := Lib.hid (HK3.out.trans K3')
        clear K3'
        obtain ⟨n2, hn2⟩ : ∃ n2 : Nat, 500 + m = (n2 : Int) := ⟨(500 + m).toNat, by omega⟩
        rw [hn2]
        have hn5 : n2 ≤ 501 := by omega
        have hn0 : 0 < n2 := by omega
        refine (Tryz.strings_Repeat ⟨#[108, 111, 115, 101, 32, 48, 10]⟩ n2 w3' (by omega) (by show 7 * n2 ≤ _; omega)).mono ?_
        rintro en w4 ⟨rfl, K4⟩
        obtain ⟨T, hT⟩ : ∃ T : ByteArray, (⟨(Lib.repeatL (⟨#[108, 111, 115, 101, 32, 48, 10]⟩ : ByteArray).data.toList n2).toArray⟩ : ByteArray) = T := ⟨_, rfl⟩
        rw [hT]
        have hT2 : T = strB (scriptE (List.replicate n2 loseE)) := by rw [← repeat_lose, ← hT]; rfl
        have hTl : T.data.toList = scriptE (List.replicate n2 loseE) := by rw [hT2, strB_list]
        have hTs : T.size ≤ 1000000 := by rw [hT2, strB_size, lose_len]; omega
        have HK4 := Lib.hid (HK9.out.trans K4)
        have hrd := read_any T hTs w4 (HL.out.keep HK4.out)
        unfold ReadP at hrd
        rw [hTl] at hrd
        have Hrd := Lib.hid hrd
        clear hT hT2 hTl hrd K4
        go_wp2_with fail
        by_cases hm3 : m = 1
        · subst hm3
          obtain rfl : n2 = 501 := by omega
          have hr := Hrd.out
          rw [read_loses (by omega)] at hr
          refine hr.mono ?_
          rintro en w5 ⟨K5, A5, c5, rfl, hE5⟩
          have HK5 := Lib.hid (HK4.out.trans K5)
          have hmk : ∀ w, (Instr.makeSlice 53 (.int .i64 501) (.int .i64 501)).run Tryz.prog w = .ok (.slice (some ⟨w.heap.size, 0, none⟩) 501 501) (w.alloc (.cells (madeCells evZ (501 * 7)) 27)) := fun w => make_evs 501 (by omega) w
          have hE6 := evs_made 501 w5
          have HK6 := Lib.hid ((HK5.out).alloc (.cells (madeCells evZ (501 * 7)) 27))
          obtain ⟨evz, hz⟩ : ∃ z, madeCells evZ (501 * 7) = z := ⟨_, rfl⟩
          rw [hz] at hE6 HK6
          simp only [hz] at hmk
          have hw6 := write_any _ 501 _ _ (HL.out.keep HK6.out) hE6 (fit_made 501) (by simp)
          rw [List.length_replicate, write_many (by omega)] at hw6
          have Hw6 := Lib.hid hw6
          clear hr K5 hE5 hE6 hw6 hz
          go_wp2_with fail
          refine Hw6.out.mono ?_
          rintro en w7 ⟨rfl, K7⟩
          simp only [show strB [] = (⟨#[]⟩ : ByteArray) from rfl]
          have HK7 := Lib.hid (HK6.out.trans K7)
          clear K7
          go_wp2_with (first | (go_at_call 13; refine (num26_any _ _).mono ?_; rintro en w' ⟨rfl, rfl⟩) | (go_at_call 10; refine (works26_any _ (HL.out.keep HK7.out)).mono ?_; rintro en w8 ⟨rfl, K8⟩))
          go_ret
          exact ⟨rfl, HK7.out.trans K8⟩
        · have hn6 : n2 ≤ 500 := by omega
          have hr := Hrd.out
          rw [read_lose hn6] at hr
          simp only [List.length_replicate] at hr
          refine hr.mono ?_
          rintro en w5 ⟨K5, A5, c5, rfl, hE5⟩
          have HK5 := Lib.hid (HK4.out.trans K5)
          have hmk : ∀ w, (Instr.makeSlice 53 (.int .i64 (500 + m)) (.int .i64 (500 + m))).run Tryz.prog w = .ok (.slice (some ⟨w.heap.size, 0, none⟩) n2 n2) (w.alloc (.cells (madeCells evZ (n2 * 7)) 27)) := fun w => by rw [hn2]; exact make_evs n2 (by omega) w
          have hmk2 : ∀ w, (Instr.makeSlice 53 (.int .i64 (n2 : Int)) (.int .i64 (n2 : Int))).run Tryz.prog w = .ok (.slice (some ⟨w.heap.size, 0, none⟩) n2 n2) (w.alloc (.cells (madeCells evZ (n2 * 7)) 27)) := fun w => make_evs n2 (by omega) w
          have hE6 := evs_made n2 w5
          have HK6 := Lib.hid ((HK5.out).alloc (.cells (madeCells evZ (n2 * 7)) 27))
          obtain ⟨evz, hz⟩ : ∃ z, madeCells evZ (n2 * 7) = z := ⟨_, rfl⟩
          rw [hz] at hE6 HK6
          simp only [hz] at hmk hmk2
          have hw6 := write_any _ n2 _ _ (HL.out.keep HK6.out) hE6 (fit_made n2) (by simp; omega)
          rw [List.length_replicate, write_made hn0 hn6] at hw6
          have Hw6 := Lib.hid hw6
          clear hr K5 hE5 hE6 hw6 hz
          go_wp2_with fail
          refine Hw6.out.mono ?_
          rintro en w7 ⟨rfl, K7⟩
          simp only [show strB [] = (⟨#[]⟩ : ByteArray) from rfl]
          have HK7 := Lib.hid (HK6.out.trans K7)
          clear K7
          go_wp2_with (first | (go_at_call 13; refine (num26_any _ _).mono ?_; rintro en w' ⟨rfl, rfl⟩) | (go_at_call 10; refine (works26_any _ (HL.out.keep HK7.out)).mono ?_; rintro en w8 ⟨rfl, K8⟩))
          go_ret
          exact ⟨rfl, HK7.out.trans K8⟩
      | false =>
        have hwr : writeE l = ([], 2) := by
          unfold writeE
          rw [if_neg (by rw [HN.out]; omega), if_neg (by rw [hp]; simp)]
        obtain ⟨rfl, rfl⟩ : [] = u ∧ 2 = no := by
          have := HQ.out
          rw [hwr] at this
          injection this with a b
          exact ⟨a, b⟩
        clear hwr hp
        go_wp2_with (first | (go_at_call 13; refine (num26_any _ _).mono ?_; rintro en w' ⟨rfl, rfl⟩))
        obtain ⟨n2, hn2⟩ : ∃ n2 : Nat, 500 + m = (n2 : Int) := ⟨(500 + m).toNat, by omega⟩
        rw [hn2]
        have hn5 : n2 ≤ 501 := by omega
        have hn0 : 0 < n2 := by omega
        refine (Tryz.strings_Repeat ⟨#[108, 111, 115, 101, 32, 48, 10]⟩ n2 w2 (by omega) (by show 7 * n2 ≤ _; omega)).mono ?_
        rintro en w4 ⟨rfl, K4⟩
        obtain ⟨T, hT⟩ : ∃ T : ByteArray, (⟨(Lib.repeatL (⟨#[108, 111, 115, 101, 32, 48, 10]⟩ : ByteArray).data.toList n2).toArray⟩ : ByteArray) = T := ⟨_, rfl⟩
        rw [hT]
        have hT2 : T = strB (scriptE (List.replicate n2 loseE)) := by rw [← repeat_lose, ← hT]; rfl
        have hTl : T.data.toList = scriptE (List.replicate n2 loseE) := by rw [hT2, strB_list]
        have hTs : T.size ≤ 1000000 := by rw [hT2, strB_size, lose_len]; omega
        have HK4 := Lib.hid (HK2.out.trans K4)
        have hrd := read_any T hTs w4 (HL.out.keep HK4.out)
        unfold ReadP at hrd
        rw [hTl] at hrd
        have Hrd := Lib.hid hrd
        clear hT hT2 hTl hrd K4
        go_wp2_with fail
        by_cases hm3 : m = 1
        · subst hm3
          obtain rfl : n2 = 501 := by omega
          have hr := Hrd.out
          rw [read_loses (by omega)] at hr
          refine hr.mono ?_
          rintro en w5 ⟨K5, A5, c5, rfl, hE5⟩
          have HK5 := Lib.hid (HK4.out.trans K5)
          have hmk : ∀ w, (Instr.makeSlice 53 (.int .i64 501) (.int .i64 501)).run Tryz.prog w = .ok (.slice (some ⟨w.heap.size, 0, none⟩) 501 501) (w.alloc (.cells (madeCells evZ (501 * 7)) 27)) := fun w => make_evs 501 (by omega) w
          have hE6 := evs_made 501 w5
          have HK6 := Lib.hid ((HK5.out).alloc (.cells (madeCells evZ (501 * 7)) 27))
          obtain ⟨evz, hz⟩ : ∃ z, madeCells evZ (501 * 7) = z := ⟨_, rfl⟩
          rw [hz] at hE6 HK6
          simp only [hz] at hmk
          have hw6 := write_any _ 501 _ _ (HL.out.keep HK6.out) hE6 (fit_made 501) (by simp)
          rw [List.length_replicate, write_many (by omega)] at hw6
          have Hw6 := Lib.hid hw6
          clear hr K5 hE5 hE6 hw6 hz
          go_wp2_with fail
          refine Hw6.out.mono ?_
          rintro en w7 ⟨rfl, K7⟩
          simp only [show strB [] = (⟨#[]⟩ : ByteArray) from rfl]
          have HK7 := Lib.hid (HK6.out.trans K7)
          clear K7
          go_wp2_with (first | (go_at_call 13; refine (num26_any _ _).mono ?_; rintro en w' ⟨rfl, rfl⟩) | (go_at_call 10; refine (works26_any _ (HL.out.keep HK7.out)).mono ?_; rintro en w8 ⟨rfl, K8⟩))
          go_ret
          exact ⟨rfl, HK7.out.trans K8⟩
        · have hn6 : n2 ≤ 500 := by omega
          have hr := Hrd.out
          rw [read_lose hn6] at hr
          simp only [List.length_replicate] at hr
          refine hr.mono ?_
          rintro en w5 ⟨K5, A5, c5, rfl, hE5⟩
          have HK5 := Lib.hid (HK4.out.trans K5)
          have hmk : ∀ w, (Instr.makeSlice 53 (.int .i64 (500 + m)) (.int .i64 (500 + m))).run Tryz.prog w = .ok (.slice (some ⟨w.heap.size, 0, none⟩) n2 n2) (w.alloc (.cells (madeCells evZ (n2 * 7)) 27)) := fun w => by rw [hn2]; exact make_evs n2 (by omega) w
          have hmk2 : ∀ w, (Instr.makeSlice 53 (.int .i64 (n2 : Int)) (.int .i64 (n2 : Int))).run Tryz.prog w = .ok (.slice (some ⟨w.heap.size, 0, none⟩) n2 n2) (w.alloc (.cells (madeCells evZ (n2 * 7)) 27)) := fun w => make_evs n2 (by omega) w
          have hE6 := evs_made n2 w5
          have HK6 := Lib.hid ((HK5.out).alloc (.cells (madeCells evZ (n2 * 7)) 27))
          obtain ⟨evz, hz⟩ : ∃ z, madeCells evZ (n2 * 7) = z := ⟨_, rfl⟩
          rw [hz] at hE6 HK6
          simp only [hz] at hmk hmk2
          have hw6 := write_any _ n2 _ _ (HL.out.keep HK6.out) hE6 (fit_made n2) (by simp; omega)
          rw [List.length_replicate, write_made hn0 hn6] at hw6
          have Hw6 := Lib.hid hw6
          clear hr K5 hE5 hE6 hw6 hz
          go_wp2_with fail
          refine Hw6.out.mono ?_
          rintro en w7 ⟨rfl, K7⟩
          simp only [show strB [] = (⟨#[]⟩ : ByteArray) from rfl]
          have HK7 := Lib.hid (HK6.out.trans K7)
          clear K7
          go_wp2_with (first | (go_at_call 13; refine (num26_any _ _).mono ?_; rintro en w' ⟨rfl, rfl⟩) | (go_at_call 10; refine (works26_any _ (HL.out.keep HK7.out)).mono ?_; rintro en w8 ⟨rfl, K8⟩))
          go_ret
          exact ⟨rfl, HK7.out.trans K8⟩
end Go.Proofs.YtbfimimhgdkpaaaGreatDoor

namespace Go.Proofs.YtbfimimhgdkpaaaGreatDoor
open Go Go.ChangeMaps Go.ChangeShapes Go.WideShapes Go.ChangeAt Go.RowKit Go.Joins Go.Deep

section
variable {H : Type} {enc : TypeId × Value → H}
set_option maxRecDepth 100000 in
theorem open_evs {W : World} {base : Nat} {v : Value} {d : DataW H} {p : List MemPlace} (hv : Value.okWide Tryz.prog W .any base 53 v) (h : DataW.Trod enc Tryz.prog W 0 (fun _ => true) true 53 v d p) :
    ∃ A c l, v = .slice A l.length c ∧ l.length ≤ maxLen ∧ EvsAt W A l ∧ ∀ e ∈ l, EvFits e := by
  obtain ⟨a, l, cp, rfl⟩ := okWide_slice Tryz.underlying53 hv
  obtain ⟨n, h⟩ := h
  obtain ⟨A, c, ls, hl, hm, hrd, hg⟩ := rd_of_slice (sz := 7) esE (fun x => EvFits x.1 ∧ Rd W 1 byteE x.2.1 x.1.bytes) esE_len Tryz.underlying53 (by kernel_rfl) (by omega) (fun cs n x hx => by
    obtain ⟨e, A, c, hr, hfit, _, hR⟩ := event_of cs n x hx
    exact ⟨(e, (A, c)), hr, hfit, hR⟩) h
  refine ⟨A, c, ls.map (·.1), by rw [List.length_map]; exact hl, by rw [List.length_map]; exact hm, ⟨ls, rfl, hrd, fun x hx => (hg x hx).2⟩, fun e he => ?_⟩
  obtain ⟨x, hx, rfl⟩ := List.mem_map.1 he
  exact (hg x hx).1
end

set_option maxRecDepth 100000 in
theorem scriptWrites_lifted (os : Os) (started : os.Started) (H : Type) (enc : TypeId × Value → H) :
    ReturnsInHanded {} Tryz.checked os 9 .any (fun w args => (Rows.scriptWritesSpec.pre enc Tryz.prog Tryz.f9 [] false w args ∧ laidMetH Tryz.prog libLaid w) ∧ sizedMet enc Tryz.prog Tryz.f9 (OpenSpec.ofChange Rows.scriptWritesSpec) false w args)
      (Rows.scriptWritesSpec.post enc Tryz.prog Tryz.f9 false true false false) := by
  refine returnsInHanded_of_change_and (C := Tryz.checked) (X := fun w _ => laidMetH Tryz.prog libLaid w) (fun _ _ _ hh h => h.of_heap hh) Tryz.own started (by kernel_rfl) Tryz.func9
    (ChangeSpec.witness_shaped (enc := enc) (C := Tryz.checked) (os := os) (X := fun w _ => laidMetH Tryz.prog libLaid w) false (World.doorLaid Tryz.prog 400 os) #[.slice none 0 0, .int .i64 0] 8 rfl (World.shaped_of_RefB (by kernel_rfl) (by kernel_rfl)) (by kernel_rfl) (by kernel_rfl) (by kernel_rfl) (door_met os _)) ?_
  intro W base args ds gs before hval0 hW _ _ hL _
  have hval : ∀ (j : Nat) t v, Tryz.f9.params[j]? = some t → args[j]? = some v → Value.okWide Tryz.prog W .any base t v := hval0
  have hW' := hW
  obtain ⟨p, q, hAA, hV, rfl, hfz, hnd⟩ := hW
  have hA : DataW.TrodAll enc Tryz.prog W 0 (fun _ => true) true Tryz.f9.params.toList args.toList ds p := hAA
  rw [Tryz.params9] at hA hval
  obtain ⟨v0, v1, d0, d1, p0, p1, rfl, rfl, rfl, h0, h1⟩ := trodAll_two hA
  obtain ⟨rfl, rfl⟩ := trodVars_none hV
  obtain ⟨A0, c0, l0, rfl, hl0, hA0, hf0⟩ := open_evs (hval 0 _ v0 rfl rfl) h0
  obtain ⟨a1, rfl, rfl, rfl, wf1⟩ := open_int Tryz.underlying3 (hval 1 _ v1 rfl rfl) h1
  clear hAA hval0
  refine (writes_walk A0 c0 l0 a1 W (lib_of_laid hL) hA0 hl0 (fun e he => ⟨(hf0 e he).ok, (hf0 e he).k0, (hf0 e he).k1⟩)).mono fun e W' ⟨he, hK⟩ => ?_
  subst he
  refine ⟨_, rfl, law_post hW' rfl rfl rfl rfl rfl ?_ hK⟩
  intro t ht
  rw [Tryz.params9] at ht
  simp only [List.mem_cons, List.not_mem_nil, or_false] at ht
  rcases ht with rfl | rfl <;> exact ⟨by kernel_rfl, of_decide_eq_true (by kernel_rfl)⟩

theorem scriptWrites_holds : Rows.ScriptWritesSaid :=
  OpenClaim.holds_of_wide 9 Tryz.f9 rfl rfl rfl rfl rfl rfl rfl ⟨rfl, rfl, rfl, rfl, rfl⟩ rfl rfl rfl rfl rfl (by kernel_rfl) Tryz.func9 (by kernel_rfl)
    (of_decide_eq_true (by kernel_rfl)) (by unfold Func.isWrapper; first | (rw [if_pos (by decide +kernel)]; kernel_rfl) | (rw [if_neg (by decide +kernel)]; exact ⟨rfl, rfl⟩))
    (fun os started H enc _ => scriptWrites_lifted os started H enc)

theorem scriptWrites_card_holds : Rows.ScriptWritesCardSaid :=
  Claim7.holds_tied_plain_at .later [] [.data, .data, .data, .sentinel, .sentinel] true (true, "1aea2c8cef665afaa4649297a74689a0df77dd72ec979528462e8733c892845e") true
    scriptWrites_holds (fun _ h => by cases h) (by kernel_rfl) (fun _ h => by cases h) scriptWrites_row_tie rfl ⟨rfl, rfl⟩ (by kernel_rfl) rfl
    (fun f fn hf hfn => by
      obtain rfl : f = 9 := Option.some.inj ((show Tryz.prog.funcNamed "waywarden/waywardenlaw26.ScriptWrites" = some 9 by kernel_rfl).symm.trans hf) |>.symm
      obtain rfl : fn = Tryz.f9 := (Option.some.inj (Tryz.func9.symm.trans hfn)).symm
      exact ⟨by kernel_rfl, fun j t ht => by
        rw [Tryz.params9] at ht
        have hm : t ∈ [53, 3] := by simpa using Array.mem_of_getElem? ht
        have hall : ([53, 3].all fun u => !Tryz.prog.wantsStandIn u) = true := by kernel_rfl
        exact (show Tryz.prog.wantsStandIn t = false by simpa using List.all_eq_true.1 hall t hm)⟩)
    (by kernel_rfl)
end Go.Proofs.YtbfimimhgdkpaaaGreatDoor
