/- Lemmas and contracts for the theorem of this claim: Appl, ScG, Ord, ScH, ScI, ScJ, ScK, ScL, ScM. -/
import Derived.Test.YtbfimimhgdkpaaaGreatDoorZhD
import Derived.Laws.AppendOwnNone
import Derived.Deep.RegionLaw
import Derived.RegionTactic
import Derived.Maps.OwnSet
set_option linter.unusedSimpArgs false
set_option linter.unusedVariables false
/- append of a whole slice that reads as a list, to a row of the call's own. No condition but the bound on bytes. -/
namespace Go.Proofs.YtbfimimhgdkpaaaGreatDoor
open Go.RowKit

theorem flat_at {α : Type} {sz : Nat} {enc : α → List Value} (hs : 0 < sz) (henc : ∀ x, (enc x).length = sz) : ∀ (ys : List α) (j : Nat) (u : Value), (ys.flatMap enc)[j]? = some u → ∃ (i k : Nat) (h : i < ys.length), j = i * sz + k ∧ (enc (ys[i]'h))[k]? = some u
  | [], j, u, h => by simp at h
  | y :: ys, j, u, h => by
    rw [List.flatMap_cons] at h
    by_cases hj : j < (enc y).length
    · rw [List.getElem?_append_left hj] at h
      exact ⟨0, j, by simp, by omega, h⟩
    · rw [List.getElem?_append_right (by omega), henc] at h
      obtain ⟨i, k, hi, he, hc⟩ := flat_at hs henc ys _ u h
      rw [henc] at hj
      exact ⟨i + 1, k, by simpa using hi, by rw [Nat.add_mul]; omega, by simpa using hc⟩

theorem grown_refl (w : World) (row : Option Nat) : w.grownBy w row := ⟨rfl, rfl, rfl, Nat.le_refl _, fun _ _ _ => rfl⟩

theorem run_append_nil {P : Program} {w : World} (base : Nat) (t ty e : TypeId) (i : TypeInfo) (size c : Nat) (ht : P.underlying t = some (.slice e)) (hi : P.info? e = some i)
    (v : Value) (n : Nat) (xs : List Value) (hown : w.ownsRow base e size v n xs) :
    (Builtin.append_ #[t, t] ty #[v, .slice none 0 c]).run P w = .ok v w := by
  rcases hown.2 with ⟨rfl, rfl⟩ | ⟨g, cap, cur, rfl, _, _, hnc, _⟩
  · simp [Builtin.append_, run_underlying ht, sizeOf, typeInfo, hi, Builtin.lenOf, Builtin.firstCells]
  · simp [Builtin.append_, run_underlying ht, sizeOf, typeInfo, hi, Builtin.lenOf, Builtin.firstCells, hnc, storeCells]

theorem run_appl {α : Type} {enc : α → List Value} {P : Program} {t e : TypeId} {z : Value} {size bytes : Nat} (E : ElemOf P t e z size bytes) (ty : TypeId) (henc : ∀ x, (enc x).length = size) (hone : ∀ x, ∀ u ∈ enc x, u.oneCell' = true)
    {w : World} {base : Nat} {v : Value} {xs ys : List α} {A : Option Addr} {c : Nat} (hown : Own w base e size enc v xs) (hrd : Rd w size enc A ys)
    (hfit : (xs.length + ys.length) * (bytes + 1) ≤ 140737488355328) (hbase : base ≤ w.heap.size) :
    ∃ v' w', (Builtin.append_ #[t, t] ty #[v, .slice A ys.length c]).run P w = .ok v' w' ∧ Own w' base e size enc v' (xs ++ ys) ∧ w.grownBy w' v.ownBlock ∧ (v'.ownBlock = v.ownBlock ∨ v'.ownBlock = some w.heap.size) := by
  obtain ⟨ht, hinfo, hzs, hsz⟩ := E
  obtain ⟨i, hi, hz, hsize, hby⟩ := info_parts hinfo
  have hb2 : (xs.length + ys.length) * (bytes + 1) = (xs.length + ys.length) * bytes + (xs.length + ys.length) := by rw [Nat.mul_add, Nat.mul_one]
  cases A with
  | none =>
    have hy : ys = [] := by
      cases ys with
      | nil => rfl
      | cons y ys => obtain ⟨b, off, hh, _⟩ := hrd 0 (by simp); cases hh
    subst hy
    exact ⟨v, w, run_append_nil base t ty e i size c ht hi v _ _ hown, by simpa using hown, grown_refl _ _, .inl rfl⟩
  | some ad =>
    obtain ⟨v', w', hr, h2, h3, _, h5⟩ := run_append_own_at (P := P) w base t ty e i z size bytes ht hi hz hsize hby hzs hsz v xs.length (xs.flatMap enc) hown ad ys.length c (ys.flatMap enc) (flat_len henc ys) (by
      intro j u hu
      obtain ⟨k, q, hk, rfl, hq⟩ := flat_at hsz henc ys j u hu
      obtain ⟨b, off, he, hc⟩ := hrd k hk
      injection he with he
      subst he
      have hadd : (⟨b, off, none⟩ : Addr).add (k * size + q) = ⟨b, off + k * size + q, none⟩ := by unfold Addr.add; split <;> simp_all [Nat.add_assoc]
      rw [hadd]
      exact hc q u hq) (by
      intro u hu
      obtain ⟨y, _, hy⟩ := List.mem_flatMap.1 hu
      exact hone y u hy) (by simp only [maxLen]; omega) (by omega) hbase
    refine ⟨v', w', hr, ?_, h3, h5⟩
    unfold Own
    rw [List.length_append, List.flatMap_append]
    exact h2

theorem wpList_appl {α : Type} {enc : α → List Value} {P : Program} {t e : TypeId} {z : Value} {size bytes : Nat} (E : ElemOf P t e z size bytes) (henc : ∀ x, (enc x).length = size) (hone : ∀ x, ∀ u ∈ enc x, u.oneCell' = true)
    {w : World} {ops : Array Oper} {rest : List Oper} {o : Oper} {a : Act} {Q : Exit → Act → World → Prop} (hgd : o.guard = none) (s x : Operand) (ho : o.op = .call { callee := .builtin .append, args := #[s, x], argTypes := #[t, t] })
    {base : Nat} {v : Value} {xs ys : List α} {A : Option Addr} {c : Nat} (hs : a.eval s = v) (hx : a.eval x = .slice A ys.length c) (hown : Own w base e size enc v xs) (hrd : Rd w size enc A ys)
    (hfit : (xs.length + ys.length) * (bytes + 1) ≤ 140737488355328) (hbase : base ≤ w.heap.size)
    (h : ∀ v' w', Own w' base e size enc v' (xs ++ ys) → w.grownBy w' v.ownBlock → (v'.ownBlock = v.ownBlock ∨ v'.ownBlock = some w.heap.size) → wpList P ops Q rest (a.put o.dst v') w') : wpList P ops Q (o :: rest) a w := by
  refine wpList_plain hgd fun K hK => ?_
  obtain ⟨v', w', hr, h1, h2, h3⟩ := run_appl E o.type henc hone hown hrd hfit hbase
  unfold Oper.wp
  simp [execOp, ho, resolve, invoke, builtin, hs, hx, Result.andThen]
  rw [hr]
  exact hK _ _ (h v' w' h1 h2 h3)

theorem step_appl {α : Type} {enc : α → List Value} {P : Program} {t e : TypeId} {z : Value} {size bytes : Nat} (E : ElemOf P t e z size bytes) (henc : ∀ x, (enc x).length = size) (hone : ∀ x, ∀ u ∈ enc x, u.oneCell' = true)
    {w : World} {ops : Array Oper} {o : Oper} {a : Act} {K : Act → World → Prop} {Q : Exit → Act → World → Prop} {X : Prop} (hgd : o.guard = none) (s x : Operand) (ho : o.op = .call { callee := .builtin .append, args := #[s, x], argTypes := #[t, t] })
    {base : Nat} {v : Value} {xs ys : List α} {A : Option Addr} {c : Nat} (hs : a.eval s = v) (hx : a.eval x = .slice A ys.length c) (hown : Own w base e size enc v xs) (hrd : Rd w size enc A ys)
    (hfit : (xs.length + ys.length) * (bytes + 1) ≤ 140737488355328) (hbase : base ≤ w.heap.size)
    (h : ∀ v' w', Own w' base e size enc v' (xs ++ ys) → w.grownBy w' v.ownBlock → (v'.ownBlock = v.ownBlock ∨ v'.ownBlock = some w.heap.size) → K (a.put o.dst v') w') :
    if Region.wanted o (yielded ops a.tmps) = true then Oper.wp P o a w K Q else X := by
  have hw : Region.wanted o (yielded ops a.tmps) = true := by simp [Region.wanted, hgd]
  rw [if_pos hw]
  obtain ⟨v', w', hr, h1, h2, h3⟩ := run_appl E o.type henc hone hown hrd hfit hbase
  unfold Oper.wp
  simp [execOp, ho, resolve, invoke, builtin, hs, hx, Result.andThen]
  rw [hr]
  exact h v' w' h1 h2 h3

theorem Own.empty {α : Type} {w : World} {base e sz g : Nat} {enc : α → List Value} (hb : base ≤ g) (hB : Blk w g e #[]) : Own w base e sz enc (.slice (some ⟨g, 0, none⟩) 0 0) [] :=
  ⟨by simp, .inr ⟨g, 0, #[], rfl, hb, hB, Nat.le_refl _, by simp, by simp, by simp⟩⟩

theorem Own.rdAt {α : Type} {w : World} {base e sz n c : Nat} {enc : α → List Value} {A : Option Addr} {xs : List α} (hs : 0 < sz) (henc : ∀ x, (enc x).length = sz) (h : Own w base e sz enc (.slice A n c) xs) : Rd w sz enc A xs := by
  obtain ⟨A', c', hv, hr⟩ := h.rd hs henc
  injection hv with h1 h2 h3
  subst h1
  exact hr

/-- append of a whole slice to an empty one that was just made: at a step of a region that draws its order. -/
theorem step_clone {α : Type} {enc : α → List Value} {P : Program} {t e : TypeId} {z : Value} {size bytes : Nat} (E : ElemOf P t e z size bytes) (henc : ∀ x, (enc x).length = size) (hone : ∀ x, ∀ u ∈ enc x, u.oneCell' = true)
    {w0 w : World} {ops : Array Oper} {o : Oper} {a : Act} {K : Act → World → Prop} {Q : Exit → Act → World → Prop} {X : Prop} (hgd : o.guard = none) (s x : Operand) (ho : o.op = .call { callee := .builtin .append, args := #[s, x], argTypes := #[t, t] })
    {N : Nat} {ys : List α} {A : Option Addr} {c : Nat} (hs : a.eval s = .slice (some ⟨N, 0, none⟩) 0 0) (hx : a.eval x = .slice A ys.length c) (hK : Kp w0 w) (hB : Blk w N e #[]) (hN : w0.heap.size ≤ N) (hrd : Rd w0 size enc A ys)
    (hfit : ys.length * (bytes + 1) ≤ 140737488355328)
    (h : ∀ v' w', Own w' w0.heap.size e size enc v' ys → Kp w0 w' → (∀ g t cs, Blk w g t cs → g ≠ N → Blk w' g t cs) → w0.heap.size ≤ w'.heap.size → K (a.put o.dst v') w') :
    if Region.wanted o (yielded ops a.tmps) = true then Oper.wp P o a w K Q else X := by
  refine step_appl E henc hone hgd s x ho hs hx (Own.empty (enc := enc) hN hB) (hrd.keep hK) (by simpa using hfit) hK.size (fun v' w' h1 h2 h3 => ?_)
  have e1 : w0.heap.size ≤ w'.heap.size := Nat.le_trans hK.size h2.size
  refine h v' w' (by simpa using h1) (hK.grown h2 (fun q hq => ?_)) (fun g t cs hb hne => hb.grown h2 (fun e => ?_)) e1
  · have := (World.ownsRow.lt (Own.empty (enc := enc) (sz := size) hN hB) q hq).1; exact this
  · have hq : (Value.slice (some ⟨N, 0, none⟩) 0 0).ownBlock = some N := rfl
    rw [hq] at e
    injection e with e
    exact hne e
end Go.Proofs.YtbfimimhgdkpaaaGreatDoor

/- Package script: addresses and bytes, written and read. No condition but the stated bounds. -/
namespace Go.Proofs.YtbfimimhgdkpaaaGreatDoor
open Go.RowKit

set_option maxRecDepth 100000 in
set_option maxHeartbeats 400000 in
theorem tell_src (f : Ev) (fv : Value) (ok : EvOk f) (w : World) (L : LibOk w) :
    Calls Tryz.prog 137 #[evV f fv] w fun e w' => e = .returned (.string (strB (tellE .s f))) ∧ Kp w w' := by
  have hK : ∀ o, Kp w (w.alloc o) := fun o => (Kp.refl w).alloc o
  go_enter Tryz.func137, Tryz.ntmps137
  go_wp2_with fail
  refine (addr_text f.src ok.s1 _ (L.keep (hK _))).mono ?_
  rintro e w1 ⟨rfl, hK1⟩
  go_wp2_with fail
  go_ret
  exact ⟨rfl, (hK _).trans hK1⟩
set_option maxRecDepth 100000 in
set_option maxHeartbeats 800000 in
theorem read_src (g : Nat) (T : TypeId) (cs : Array Value) (h3 : 5 < cs.size) (s : ByteArray) (hs : s.size ≤ 1000000) (w : World) (B : Blk w g T cs) :
    Calls Tryz.prog 138 #[.pointer (some ⟨g, 0, none⟩), .string s] w fun e w' =>
      (∀ n, adr s.data.toList = some n → e = .returned (.tuple #[]) ∧ Blk w' g T (cs.setIfInBounds 5 (.int .u32 n)) ∧ Only [g] w w') ∧ (adr s.data.toList = none → e = gaveS 260 ∧ Kp w w') := by
  cases h : adr s.data.toList with
  | some n =>
    have H := Lib.hid h; clear h
    go_enter Tryz.func138, Tryz.ntmps138
    go_wp2_with fail
    refine (addr_parse s hs w).mono ?_
    rintro e w1 ⟨hK, hY, hN⟩
    obtain ⟨p, rfl⟩ := hY n H.out
    clear hY hN
    have B1 := B.keep hK
    have c1 : w1.cell? ⟨g, 5, none⟩ = some cs[5] := by rw [B1.cell 5, Array.getElem?_eq_getElem h3]
    have f1 := B1.frozen 5
    go_wp2_with (first | (go_at_call 45; refine (need_ok _ _).mono ?_; rintro e w' ⟨rfl, rfl⟩))
    go_end0
    exact ⟨fun m hm => (by injection hm with hm; subst hm; exact ⟨rfl, B1.set_ 5 _, (Only.of_kp hK).setCell (.inl (by simp)) _⟩), fun hm => (by cases hm)⟩
  | none =>
    have H := Lib.hid h; clear h
    go_enter Tryz.func138, Tryz.ntmps138
    go_wp2_with fail
    refine (addr_parse s hs w).mono ?_
    rintro e w1 ⟨hK, hY, hN⟩
    obtain ⟨p, rfl⟩ := hN H.out
    clear hY hN
    go_wp2_with (first | (go_at_call 45; refine (need_no _ _).mono ?_; rintro e w' ⟨rfl, rfl⟩))
    exact ⟨rfl, fun m hm => (by cases hm), fun _ => ⟨rfl, hK⟩⟩

theorem need_yes (n : Int) (w : World) : Calls Tryz.prog 45 #[.bool true, .int .i64 n] w fun e w' => e = .returned (.tuple #[]) ∧ w = w' := (need_ok n w).mono (fun _ _ h => ⟨h.1, h.2.symm⟩)
theorem need_nay (n : Int) (w : World) : Calls Tryz.prog 45 #[.bool false, .int .i64 n] w fun e w' => e = gaveS n ∧ w = w' := (need_no n w).mono (fun _ _ h => ⟨h.1, h.2.symm⟩)
theorem and15 (x : Nat) (hx : x < 256) : bits .and .u8 (x : Int) 15 = ((x % 16 : Nat) : Int) := by
  have h : ∀ x : Fin 256, bits .and .u8 (x.val : Int) 15 = ((x.val % 16 : Nat) : Int) := by decide +kernel
  exact h ⟨x, hx⟩
theorem hex_get (k : Nat) (hk : k < 16) (n : Nat) (hn : n = k) (h : n < (⟨#[48, 49, 50, 51, 52, 53, 54, 55, 56, 57, 97, 98, 99, 100, 101, 102]⟩ : ByteArray).size) : (⟨#[48, 49, 50, 51, 52, 53, 54, 55, 56, 57, 97, 98, 99, 100, 101, 102]⟩ : ByteArray)[n]'h = hexOf k := by
  subst hn
  have : n = 0 ∨ n = 1 ∨ n = 2 ∨ n = 3 ∨ n = 4 ∨ n = 5 ∨ n = 6 ∨ n = 7 ∨ n = 8 ∨ n = 9 ∨ n = 10 ∨ n = 11 ∨ n = 12 ∨ n = 13 ∨ n = 14 ∨ n = 15 := by omega
  rcases this with rfl | rfl | rfl | rfl | rfl | rfl | rfl | rfl | rfl | rfl | rfl | rfl | rfl | rfl | rfl | rfl <;> rfl
theorem byteE_one (b : UInt8) : ∀ u ∈ byteE b, u.oneCell' = true := by intro u hu; simp [byteE] at hu; subst hu; rfl
/-- A slice that reads as bytes. -/
def BytesAt (w : World) (v : Value) (l : List UInt8) : Prop := ∃ A c, v = .slice A l.length c ∧ Rd w 1 byteE A l
theorem byte_at {w : World} {A : Option Addr} {l : List UInt8} (h : Rd w 1 byteE A l) {k : Nat} (hk : k < l.length) :
    ∃ b off : Nat, A = some ⟨b, off, none⟩ ∧ w.cell? ⟨b, off + k, none⟩ = some (.int .u8 (l[k].toNat : Int)) := by
  obtain ⟨b, off, e, hc⟩ := h k hk
  exact ⟨b, off, e, by simpa using hc 0 _ rfl⟩

set_option maxRecDepth 100000 in
set_option maxHeartbeats 2000000 in
theorem tell_data (f : Ev) (A : Option Addr) (c : Nat) (w : World) (hR : Rd w 1 byteE A f.bytes) (hl : f.bytes.length ≤ 1000000) :
    Calls Tryz.prog 140 #[evV f (.slice A f.bytes.length c)] w fun e w' => e = .returned (.string (strB (tellE .x f))) ∧ Kp w w' := by
  by_cases h0 : f.bytes = []
  · have H := Lib.hid (show strB (tellE .x f) = ⟨#[45]⟩ by simp only [tellE, hexW]; rw [if_pos h0])
    have hlen : f.bytes.length = 0 := by rw [h0]; rfl
    have hb : ((f.bytes.length : Int) == 0) = true := by rw [beq_iff_eq]; omega
    clear h0
    go_enter Tryz.func140, Tryz.ntmps140
    go_wp2_with fail
    go_ret
    exact ⟨by rw [H.out]; rfl, (Kp.refl _).alloc _⟩
  · have H := Lib.hid (show tellE .x f = hexT f.bytes by simp only [tellE, hexW]; rw [if_neg h0])
    have hp : 0 < f.bytes.length := List.length_pos_iff.2 h0
    have hb : ((f.bytes.length : Int) == 0) = false := by rw [beq_eq_false_iff_ne]; omega
    clear h0
    obtain ⟨i0, hi, hz0, hz1, hz2⟩ := info_parts EByte.2.1
    go_enter Tryz.func140, Tryz.ntmps140
    go_wp2_with (first | (at_make; refine wpList_make_own _ rfl _ _ 25 rfl w.heap.size 5 i0 (.int .u8 0) 1 Tryz.underlying25 hi hz0 hz1 .i64 .i64 _ (2 * f.bytes.length) rfl rfl (by simp) (by rw [hz2]; omega) (by unfold maxLen; omega) (by simp) ?_; intro w1 hown1 hg1; have K1 : Kp (w.alloc (.cells (evC f (.slice A f.bytes.length c)) 27)) w1 := (Kp.refl _).grown hg1 (by simp); have cb : w1.cell? ⟨w.heap.size, 6, none⟩ = some (.slice A f.bytes.length c) := K1.cell (Blk.cell (Blk.new w _ (evC f (.slice A f.bytes.length c))) 6)))
    have K2 : Kp w w1 := ((Kp.refl w).alloc _).trans K1
    have Ho := Lib.hid (show Own w1 w.heap.size 5 1 byteE (.slice (some ⟨w.heap.size + 1, 0, none⟩) 0 (2 * f.bytes.length)) (hexT (f.bytes.take 0)) from (by simpa [Own, hexT] using hown1))
    clear hown1 hg1 K1 cb
    go_loopw [3, 18] (fun v i wr => ∃ k : Nat, k ≤ f.bytes.length ∧ i = .int .i64 k ∧ Hid (Own wr w.heap.size 5 1 byteE v (hexT (f.bytes.take k))) ∧ Kp w wr) (fun _ i _ => f.bytes.length - (intOf i).toNat)
    case atStart => exact ⟨0, by omega, rfl, Ho, K2⟩
    case round =>
      obtain ⟨k, hk, rfl, hown, hK⟩ := hrel
      have hsz := hK.size
      by_cases hlt : k < f.bytes.length
      · obtain ⟨b, off, rfl, c0⟩ := byte_at (hR.keep hK) hlt
        obtain ⟨x, hx⟩ : ∃ x, f.bytes[k] = x := ⟨_, rfl⟩
        rw [hx] at c0
        have Hx := Lib.hid hx; clear hx
        have hx256 := x.toNat_lt
        have i1 := hex_get (x.toNat / 16) (by omega) ((x.toNat : Int) / 16).toNat (by omega)
        have i2 := hex_get (x.toNat % 16) (by omega) ((x.toNat : Int) % 16).toNat (by omega)
        have i3 : (0 : Int) ≤ (x.toNat : Int) / 16 := by omega
        have i4 : (x.toNat : Int) / 16 < 16 := by omega
        have i5 : (0 : Int) ≤ (x.toNat : Int) % 16 := by omega
        have i6 : (x.toNat : Int) % 16 < 16 := by omega
        have ha := and15 x.toNat (by omega)
        have hlen : (hexT (f.bytes.take k)).length ≤ 2000000 := by rw [hexT_len, List.length_take]; omega
        have hfit : ((hexT (f.bytes.take k)).length + [hexOf (x.toNat / 16), hexOf (x.toNat % 16)].length) * (1 + 1) ≤ 140737488355328 := by simp only [List.length_cons, List.length_nil]; omega
        have Hs := Lib.hid (show hexT (f.bytes.take (k + 1)) = hexT (f.bytes.take k) ++ [hexOf (x.toNat / 16), hexOf (x.toNat % 16)] by
          rw [List.take_add_one, List.getElem?_eq_getElem hlt, Hx.out]; simp [hexT])
        go_wp2_with fail
        go_region_law ((refine step_appl EByte byteE_len byteE_one (by rfl) (.tmp 22) (.tmp 29) (by rfl) (ys := [hexOf (x.toNat / 16), hexOf (x.toNat % 16)]) (by rfl) (by rfl) (hown.out.drew.alloc _) (Rd.of_blk (Blk.new _ 5 _) (by decide) byteE_len (by simp [maxLen]) (by rfl)) hfit (by simp; omega) ?_; intro v4 w4 hown4 hg4 hat4))
        all_goals (try go_wp2_with fail)
        all_goals go_roundw
        all_goals first
          | (case rel => exact ⟨k + 1, by omega, by go_num, by rw [Hs.out]; exact hown4, (hK.drew.alloc _).grown hg4 (fun q hq => (World.ownsRow.lt hown.out q hq).1)⟩)
          | (case measure => simp [intOf]; omega)
      · obtain rfl : k = f.bytes.length := by omega
        have h1 := hown.out
        rw [List.take_length, ← H.out] at h1
        have hcv := own_string h1
        clear h1
        go_wp2
        go_ret
        exact ⟨rfl, hK⟩

theorem idx_hex (c : UInt8) : Lib.indexByte hexS c = match hexV c with | some x => (x : Int) | none => -1 := by
  have h : ∀ k : Fin 256, Lib.indexByte hexS (UInt8.ofNat k.val) = match hexV (UInt8.ofNat k.val) with | some x => (x : Int) | none => -1 := by decide +kernel
  have := h ⟨c.toNat, c.toNat_lt⟩
  simpa using this
theorem or16 (h l : Nat) (hh : h < 16) (hl : l < 16) : bits .or .i64 ((h : Int) * 16) (l : Int) = (16 * h + l : Nat) := by
  have k : ∀ h l : Fin 16, bits .or .i64 ((h.val : Int) * 16) (l.val : Int) = ((16 * h.val + l.val : Nat) : Int) := by decide +kernel
  exact k ⟨h, hh⟩ ⟨l, hl⟩
theorem idx_any (c : UInt8) (w : World) : Calls Tryz.prog 142 #[.string ⟨#[48, 49, 50, 51, 52, 53, 54, 55, 56, 57, 97, 98, 99, 100, 101, 102]⟩, .int .u8 (c.toNat : Int)] w fun e w' => (∀ x, hexV c = some x → e = .returned (.int .i64 x)) ∧ (hexV c = none → e = .returned (.int .i64 (-1))) ∧ w' = w := by
  refine (Tryz.strings_IndexByte _ (c.toNat : Int) w).mono ?_
  rintro e w' ⟨rfl, rfl⟩
  have e1 : ((c.toNat : Int)).toNat.toUInt8 = c := by simp
  have e2 := idx_hex c
  have e3 : (⟨#[48, 49, 50, 51, 52, 53, 54, 55, 56, 57, 97, 98, 99, 100, 101, 102]⟩ : ByteArray).data.toList = hexS := rfl
  rw [e1, e3, e2]
  exact ⟨fun x hx => (by rw [hx]), fun hx => (by rw [hx]), rfl⟩
theorem idx_yes {c : UInt8} {x : Nat} (h : hexV c = some x) (w : World) : Calls Tryz.prog 142 #[.string ⟨#[48, 49, 50, 51, 52, 53, 54, 55, 56, 57, 97, 98, 99, 100, 101, 102]⟩, .int .u8 (c.toNat : Int)] w fun e w' => e = .returned (.int .i64 x) ∧ w = w' :=
  (idx_any c w).mono (fun _ _ k => ⟨k.1 x h, k.2.2.symm⟩)
theorem idx_nay {c : UInt8} (h : hexV c = none) (w : World) : Calls Tryz.prog 142 #[.string ⟨#[48, 49, 50, 51, 52, 53, 54, 55, 56, 57, 97, 98, 99, 100, 101, 102]⟩, .int .u8 (c.toNat : Int)] w fun e w' => e = .returned (.int .i64 (-1)) ∧ w = w' :=
  (idx_any c w).mono (fun _ _ k => ⟨k.2.1 h, k.2.2.symm⟩)
theorem byte_get {s : ByteArray} {i : Nat} {c : UInt8} (h : i < s.size) (hc : c.toNat = byteAt s i) (n : Nat) (hn : n = i) (hh : n < s.size) : s[n]'hh = c := by
  subst hn
  apply UInt8.toNat.inj
  rw [hc, get_at s n hh]
  rfl
/-- A world without memory: old memory of it is kept by whatever. -/
def bare (w : World) : World := { w with heap := #[] }
theorem bare_kp (w : World) : Kp (bare w) w := ⟨rfl, rfl, rfl, Nat.zero_le _, fun k hk => absurd hk (Nat.not_lt_zero k)⟩
theorem hexR_two {a b : UInt8} {l : List UInt8} {x y : Nat} (ha : hexV a = some x) (hb : hexV b = some y) : hexR (a :: b :: l) = (hexR l).map (fun r => UInt8.ofNat (16 * x + y) :: r) := by
  simp only [hexR, ha, hb]
theorem hexR_bad {a b : UInt8} {l : List UInt8} (h : hexV a = none ∨ hexV b = none) : hexR (a :: b :: l) = none := by
  rcases h with h | h
  · simp only [hexR, h]
  · cases ha : hexV a <;> simp only [hexR, h, ha]

set_option maxRecDepth 100000 in
set_option maxHeartbeats 3000000 in
theorem read_hex (g : Nat) (T : TypeId) (cs : Array Value) (h3 : 6 < cs.size) (h6 : cs[6] = .slice none 0 0) (s : ByteArray) (hs : s.size ≤ 1000000) (w : World) (B : Blk w g T cs) (hd : ¬ s.data.toList = [45]) (hbad : ¬ (s.data.toList = [] ∨ s.data.toList.length % 2 ≠ 0 ∨ 1200 < s.data.toList.length)) :
    Calls Tryz.prog 141 #[.pointer (some ⟨g, 0, none⟩), .string s] w fun e w' =>
      (∀ l, dataW s.data.toList = some l → e = .returned (.tuple #[]) ∧ ∃ v, Blk w' g T (cs.setIfInBounds 6 v) ∧ Own w' w.heap.size 5 1 byteE v l ∧ Only [g] w w') ∧ (dataW s.data.toList = none → e = gaveS 260 ∧ Only [g] w w') := by
  have hlen : s.data.toList.length = s.size := by rw [Array.length_toList]; rfl
  have hset : ∀ v u : Value, (cs.setIfInBounds 6 v).setIfInBounds 6 u = cs.setIfInBounds 6 u := fun v u => by simp
  have hg := B.lt
  have hb : (s.toList == [45]) = false := by rw [Lib.toList_data]; simpa using hd
  have H := Lib.hid (show dataW s.data.toList = hexR s.data.toList by unfold dataW; rw [if_neg hd, if_neg hbad])
  simp only [not_or, Nat.not_lt, Decidable.not_not] at hbad
  obtain ⟨he, hodd, hlong⟩ := hbad
  rw [hlen] at hodd hlong
  have hb2 : s.toList.isEmpty = false := by rw [Lib.toList_data]; cases hx : s.data.toList with | nil => exact absurd hx he | cons a l => rfl
  have hb3 : (s.toList == []) = false := by rw [Lib.toList_data]; simpa using he
  have hb4 : ((s.size : Int) % 2 == 0) = true := by rw [beq_iff_eq]; omega
  have hlong2 : (s.size : Int) ≤ 1200 := by omega
  have Hodd := Lib.hid hodd
  have Hlen := Lib.hid hlen
  clear hd he hlen hodd
  have Hset := Lib.hid hset; clear hset
  have c6 : w.cell? ⟨g, 6, none⟩ = some (.slice none 0 0) := by rw [B.cell 6, Array.getElem?_eq_getElem h3, h6]
  have Hcs := Lib.hid (show cs.setIfInBounds 6 (.slice none 0 0) = cs by
    apply Array.ext
    · simp
    · intro i h1 h2
      by_cases hi : i = 6
      · subst hi; simp [h6]
      · rw [Array.getElem_setIfInBounds_ne (by simpa using h1) (fun e => hi e.symm)])
  have h66 : 6 < cs.size := h3
  clear h6
  go_enter Tryz.func141, Tryz.ntmps141
  go_wp2_with (first | (go_at_call 45; refine (need_yes _ _).mono ?_; rintro e w' ⟨rfl, rfl⟩))
  go_loopw [4] (fun i wr => ∃ (k : Nat) (acc : List UInt8) (v : Value), 2 * k ≤ s.size ∧ i = .int .i64 (2 * k : Nat) ∧ acc.length = k ∧ Hid (hexR s.data.toList = (hexR (s.data.toList.drop (2 * k))).map (fun r => acc ++ r)) ∧ Blk wr g T (cs.setIfInBounds 6 v) ∧ Own wr w.heap.size 5 1 byteE v acc ∧ Only [g] w wr) (fun i _ => s.size - (intOf i).toNat)
  case atStart =>
    refine ⟨0, [], .slice none 0 0, by omega, rfl, rfl, ?_, by rw [Hcs.out]; exact B, Own.nil _ _ _ _ _, Only.refl _ _⟩
    refine Lib.hid ?_
    simp
  case round =>
    obtain ⟨k, acc, v, hk, rfl, hacc, hH, hB, hO, hOn⟩ := hrel
    by_cases hlt : 2 * k < s.size
    · have hlt2 : 2 * k + 1 < s.size := by have := Hodd.out; omega
      obtain ⟨a, ha, hda⟩ := drop_byte hlt
      obtain ⟨b, hb0, hdb⟩ := drop_byte hlt2
      have x1 := byte_get hlt ha (2 * (k : Int)).toNat (by omega)
      have x2 := byte_get hlt2 hb0 (2 * (k : Int) + 1).toNat (by omega)
      have i0 : (0 : Int) ≤ 2 * (k : Int) + 1 := by omega
      have i7 : IntKind.i64.wrap (2 * (k : Int) + 1) = 2 * (k : Int) + 1 := IntWalk.i64_in _ (by omega)
      have i8 : (1200 : Int) ≤ 1200 := by omega
      have i1 : (0 : Int) ≤ 2 * (k : Int) := by omega
      have i2 : 2 * (k : Int) < (s.size : Int) := by omega
      have i3 : 2 * (k : Int) + 1 < (s.size : Int) := by omega
      have Hdrop := Lib.hid (show s.data.toList.drop (2 * k) = a :: b :: s.data.toList.drop (2 * (k + 1)) by rw [hda, hdb]; rfl)
      clear ha hda hb0 hdb
      cases hva : hexV a with
      | none =>
        have Hn := Lib.hid (show dataW s.data.toList = none by rw [H.out, hH.out, Hdrop.out, hexR_bad (.inl hva)]; rfl)
        cases hvb : hexV b with
        | none =>
          go_wp2_with fail
          go_region_held3 (fun _ => True) (trivial) (first | (go_at_call 142; refine (idx_nay hva _).mono ?_; rintro e w' ⟨rfl, rfl⟩) | (go_at_call 142; refine (idx_nay hvb _).mono ?_; rintro e w' ⟨rfl, rfl⟩))
          all_goals go_wp2_with (first | (go_at_call 45; refine (need_nay _ _).mono ?_; rintro e w' ⟨rfl, rfl⟩))
          all_goals exact ⟨rfl, fun l hl => (by rw [Hn.out] at hl; cases hl), fun _ => ⟨rfl, hOn.drew⟩⟩
        | some y =>
          go_wp2_with fail
          go_region_held3 (fun _ => True) (trivial) (first | (go_at_call 142; refine (idx_nay hva _).mono ?_; rintro e w' ⟨rfl, rfl⟩) | (go_at_call 142; refine (idx_yes hvb _).mono ?_; rintro e w' ⟨rfl, rfl⟩))
          all_goals go_wp2_with (first | (go_at_call 45; refine (need_nay _ _).mono ?_; rintro e w' ⟨rfl, rfl⟩))
          all_goals exact ⟨rfl, fun l hl => (by rw [Hn.out] at hl; cases hl), fun _ => ⟨rfl, hOn.drew⟩⟩
      | some x =>
        have hx16 := (hexV_lt hva).1
        cases hvb : hexV b with
        | none =>
          have Hn := Lib.hid (show dataW s.data.toList = none by rw [H.out, hH.out, Hdrop.out, hexR_bad (.inr hvb)]; rfl)
          go_wp2_with fail
          go_region_held3 (fun _ => True) (trivial) (first | (go_at_call 142; refine (idx_yes hva _).mono ?_; rintro e w' ⟨rfl, rfl⟩) | (go_at_call 142; refine (idx_nay hvb _).mono ?_; rintro e w' ⟨rfl, rfl⟩))
          all_goals go_wp2_with (first | (go_at_call 45; refine (need_nay _ _).mono ?_; rintro e w' ⟨rfl, rfl⟩))
          all_goals exact ⟨rfl, fun l hl => (by rw [Hn.out] at hl; cases hl), fun _ => ⟨rfl, hOn.drew⟩⟩
        | some y =>
          have hy16 := (hexV_lt hvb).1
          have Hn := Lib.hid (show hexR s.data.toList = (hexR (s.data.toList.drop (2 * (k + 1)))).map (fun r => (acc ++ [UInt8.ofNat (16 * x + y)]) ++ r) by
            rw [hH.out, Hdrop.out, hexR_two hva hvb, Option.map_map]
            congr 1
            funext r
            simp)
          have q1 : IntKind.i64.wrap ((x : Int) * 16) = (x : Int) * 16 := IntWalk.i64_in _ (by omega)
          have q2 := or16 x y hx16 hy16
          have q3 : IntKind.u8.wrap (16 * (x : Int) + (y : Int)) = 16 * (x : Int) + (y : Int) := IntWalk.u8_in _ (by omega)
          have q4 : ([.int .u8 (16 * (x : Int) + (y : Int))] : List Value) = byteE (UInt8.ofNat (16 * x + y)) := by simp [byteE]; omega
          have Q4 := Lib.hid q4; clear q4
          have HB := hB.drew
          have cg : wr.cell? ⟨g, 6, none⟩ = some v := by rw [hB.cell 6, Array.getElem?_setIfInBounds_self_of_lt h66]
          have hne : some g ≠ v.ownBlock := Own.ne hO hg
          go_wp2_with fail
          go_region_held3 (fun _ => True) (trivial) (first | (go_at_call 142; refine (idx_yes hva _).mono ?_; rintro e w' ⟨rfl, rfl⟩) | (go_at_call 142; refine (idx_yes hvb _).mono ?_; rintro e w' ⟨rfl, rfl⟩))
          all_goals go_wp2_with (first | (go_at_call 45; refine (need_yes _ _).mono ?_; rintro e w' ⟨rfl, rfl⟩) | (at_builtin; go_must (refine wpList_appx EByte (w0 := bare wr.drew) rfl _ _ rfl (UInt8.ofNat (16 * x + y)) rfl hO.drew (bare_kp _) (Nat.zero_le _) hOn.size rfl rfl Q4.out rfl rfl (by rw [hacc]; omega) ?_); intro v2 w2 hown2 hK2 hg2; obtain ⟨A2, c2, rfl⟩ := hown2.form1; have HB2 := HB.grown hg2 hne; have cg2 : w2.cell? ⟨g, 6, none⟩ = some v := (by rw [HB2.cell 6, Array.getElem?_setIfInBounds_self_of_lt h66]); have zg2 := HB2.frozen 6))
          all_goals go_roundw
          all_goals first
            | (case measure => simp [intOf]; omega)
            | skip
          all_goals
            refine ⟨k + 1, acc ++ [UInt8.ofNat (16 * x + y)], .slice A2 (k + 1) c2, by omega, by go_num, by simp [hacc], Hn, ?_, Own.setBelow (by rw [← hacc]; exact hown2) hg _, ?_⟩
            · have h := HB2.set_ 6 (.slice A2 (k + 1) c2)
              rw [Hset.out] at h
              exact h
            · exact ((hOn.drew).grown hg2 (fun q hq => (World.ownsRow.lt hO q hq).1)).setCell (.inl (by simp)) _
    · have hk2 : 2 * k = s.size := by omega
      have Hn := Lib.hid (show dataW s.data.toList = some acc by
        rw [H.out, hH.out, List.drop_eq_nil_of_le (by rw [Hlen.out]; omega)]
        simp [hexR])
      have hk3 : ¬ 2 * (k : Int) < (s.size : Int) := by omega
      clear hk2 hlt
      go_wp2_with fail
      go_end0
      refine ⟨fun l hl => ⟨rfl, v, hB, ?_, hOn⟩, fun h => (by rw [Hn.out] at h; cases h)⟩
      rw [Hn.out, Option.some.injEq] at hl
      subst hl
      exact hO

set_option maxRecDepth 100000 in
set_option maxHeartbeats 1000000 in
theorem read_data (g : Nat) (T : TypeId) (cs : Array Value) (h3 : 6 < cs.size) (h6 : cs[6] = .slice none 0 0) (s : ByteArray) (hs : s.size ≤ 1000000) (w : World) (B : Blk w g T cs) :
    Calls Tryz.prog 141 #[.pointer (some ⟨g, 0, none⟩), .string s] w fun e w' =>
      (∀ l, dataW s.data.toList = some l → e = .returned (.tuple #[]) ∧ ∃ v, Blk w' g T (cs.setIfInBounds 6 v) ∧ Own w' w.heap.size 5 1 byteE v l ∧ Only [g] w w') ∧ (dataW s.data.toList = none → e = gaveS 260 ∧ Only [g] w w') := by
  have hlen : s.data.toList.length = s.size := by rw [Array.length_toList]; rfl
  have hset : ∀ v u : Value, (cs.setIfInBounds 6 v).setIfInBounds 6 u = cs.setIfInBounds 6 u := fun v u => by simp
  have hg := B.lt
  by_cases hd : s.data.toList = [45]
  · have H := Lib.hid (show dataW s.data.toList = some [] by unfold dataW; rw [if_pos hd])
    have hb : (s.toList == [45]) = true := by rw [Lib.toList_data, hd]; rfl
    have hcs : cs.setIfInBounds 6 (.slice none 0 0) = cs := by
      apply Array.ext
      · simp
      · intro i h1 h2
        by_cases hi : i = 6
        · subst hi; simp [h6]
        · rw [Array.getElem_setIfInBounds_ne (by simpa using h1) (fun e => hi e.symm)]
    have Hcs := Lib.hid hcs
    clear hd hlen hset h6 hcs
    go_enter Tryz.func141, Tryz.ntmps141
    go_wp2_with fail
    refine bodyPost_ret (results_none rfl _ _ _) rfl ?_
    refine ⟨fun l hl => ⟨rfl, .slice none 0 0, by rw [Hcs.out]; exact B, ?_, Only.refl _ _⟩, fun h => (by rw [H.out] at h; cases h)⟩
    rw [H.out, Option.some.injEq] at hl
    subst hl
    exact Own.nil _ _ _ _ _
  · have hb : (s.toList == [45]) = false := by rw [Lib.toList_data]; simpa using hd
    by_cases hbad : s.data.toList = [] ∨ s.data.toList.length % 2 ≠ 0 ∨ 1200 < s.data.toList.length
    · have H := Lib.hid (show dataW s.data.toList = none by unfold dataW; rw [if_neg hd, if_pos hbad])
      rw [hlen] at hbad
      by_cases he : s.data.toList = []
      · have hb2 : s.toList.isEmpty = true := by rw [Lib.toList_data, he]; rfl
        have hb3 : (s.toList == []) = true := by rw [Lib.toList_data, he]; rfl
        clear hbad hd he hlen hset h6
        go_enter Tryz.func141, Tryz.ntmps141
        go_wp2_with (first | (go_at_call 45; refine (need_nay _ _).mono ?_; rintro e w' ⟨rfl, rfl⟩))
        exact ⟨rfl, fun l hl => (by rw [H.out] at hl; cases hl), fun _ => ⟨rfl, Only.refl _ _⟩⟩
      · have hb2 : s.toList.isEmpty = false := by rw [Lib.toList_data]; cases hx : s.data.toList with | nil => exact absurd hx he | cons a l => rfl
        have hb3 : (s.toList == []) = false := by rw [Lib.toList_data]; simpa using he
        by_cases hodd : s.size % 2 = 0
        · have hlong : ¬ (s.size : Int) ≤ 1200 := by
            rcases hbad with h | h | h
            · exact absurd h he
            · exact absurd hodd h
            · omega
          have hb4 : ((s.size : Int) % 2 == 0) = true := by rw [beq_iff_eq]; omega
          clear hbad hd he hlen hset h6 hodd
          go_enter Tryz.func141, Tryz.ntmps141
          go_wp2_with (first | (go_at_call 45; refine (need_nay _ _).mono ?_; rintro e w' ⟨rfl, rfl⟩))
          exact ⟨rfl, fun l hl => (by rw [H.out] at hl; cases hl), fun _ => ⟨rfl, Only.refl _ _⟩⟩
        · have hb4 : ((s.size : Int) % 2 == 0) = false := by rw [beq_eq_false_iff_ne]; omega
          clear hbad hd he hlen hset h6 hodd
          go_enter Tryz.func141, Tryz.ntmps141
          go_wp2_with (first | (go_at_call 45; refine (need_nay _ _).mono ?_; rintro e w' ⟨rfl, rfl⟩))
          exact ⟨rfl, fun l hl => (by rw [H.out] at hl; cases hl), fun _ => ⟨rfl, Only.refl _ _⟩⟩
    · exact read_hex g T cs h3 h6 s hs w B hd hbad
end Go.Proofs.YtbfimimhgdkpaaaGreatDoor

/- A region that draws its order: what holds of the operations that have been done, whatever their order. No condition. -/
namespace Go.Proofs.YtbfimimhgdkpaaaGreatDoor
open Go.RowKit

/-- Every operation waits for earlier ones alone. -/
def backB (md : Region.Mode) (ops : Array Oper) : Bool :=
  (List.range ops.size).all fun i => match ops[i]? with | some o => o.after.all fun e => !Region.binds md e || decide (e.on < i) | none => true
theorem backB_at {md : Region.Mode} {ops : Array Oper} (h : backB md ops = true) {i : Nat} {o : Oper} (ho : ops[i]? = some o) : ∀ e ∈ o.after, Region.binds md e = true → e.on < i := by
  intro e he hb
  have hi := (Array.getElem?_eq_some_iff.1 ho).1
  have h1 := List.all_eq_true.1 h i (List.mem_range.2 hi)
  rw [ho] at h1
  simp only at h1
  have h2 := Array.all_eq_true_iff_forall_mem.1 h1 e he
  simpa [hb] using h2

section
variable {P : Program} {md : Region.Mode} {ops : Array Oper} {Q : Exit → Act → World → Prop}
theorem all_of_ready {listed : Array Bool} (hb : backB md ops = true) (hs : listed.size = ops.size) (hr : Region.ready md ops listed = []) : ∀ i, i < ops.size → listed.getD i false = true := by
  intro i
  induction i using Nat.strongRecOn with
  | _ i ih =>
    intro hi
    cases hl : listed.getD i false with
    | true => rfl
    | false =>
      have h1 : i ∈ Region.ready md ops listed := by
        refine mem_ready.2 ⟨?_, ops[i], Array.getElem?_eq_getElem hi, fun e he hbi => ?_⟩
        · have : i < listed.size := by omega
          simp only [Array.getD_eq_getD_getElem?, Array.getElem?_eq_getElem this, Option.getD_some] at hl ⊢
          exact hl
        · have h2 := backB_at hb (Array.getElem?_eq_getElem hi) e he hbi
          exact ih e.on h2 (by omega)
      rw [hr] at h1
      cases h1

/-- An invariant over the operations that have been done. -/
theorem wpAny_inv (G : (Nat → Bool) → Act → World → Prop) (hb : backB md ops = true)
    (step : ∀ (i : Nat) (o : Oper) (L : Nat → Bool) (a : Act) (w : World), ops[i]? = some o → L i = false → (∀ e ∈ o.after, Region.binds md e = true → L e.on = true) → G L a w →
      ∀ K : Act → World → Prop, (∀ a' w', G (fun j => j == i || L j) a' w' → K a' w') → if Region.wanted o (yielded ops a.tmps) = true then Oper.wp P o a w K Q else K (a.put o.dst undef) w)
    (fin : ∀ L a w, (∀ i, i < ops.size → L i = true) → G L a w → Q .normal a w) :
    ∀ (fuel : Nat) (listed : Array Bool) (a : Act) (w : World), listed.size = ops.size → listed.toList.countP (fun b => !b) ≤ fuel → G (fun j => listed.getD j false) a w → wpAny P md ops Q fuel listed a w := by
  intro fuel
  induction fuel with
  | zero =>
    intro listed a w hs hc hG
    have hall : ∀ i, i < ops.size → listed.getD i false = true := by
      intro i hi
      have h0 := List.countP_eq_zero.1 (Nat.le_zero.1 hc)
      have hi' : i < listed.size := by omega
      have := h0 listed[i] (by rw [Array.mem_toList_iff]; exact Array.getElem_mem hi')
      simp only [Array.getD_eq_getD_getElem?, Array.getElem?_eq_getElem hi', Option.getD_some]
      simpa using this
    refine ⟨?_, fin _ _ _ hall hG⟩
    refine List.eq_nil_iff_forall_not_mem.2 fun j hj => ?_
    obtain ⟨h1, o, ho, _⟩ := mem_ready.1 hj
    have hlt := (Array.getElem?_eq_some_iff.1 ho).1
    have h2 := hall j hlt
    have hj' : j < listed.size := by omega
    simp only [Array.getD_eq_getD_getElem?, Array.getElem?_eq_getElem hj', Option.getD_some] at h1 h2
    rw [h1] at h2
    cases h2
  | succ fuel ih =>
    intro listed a w hs hc hG
    refine ⟨fun hr => fin _ _ _ (all_of_ready hb hs hr) hG, fun i hi => ?_⟩
    obtain ⟨h1, o, ho, hdep⟩ := mem_ready.1 hi
    have hlt := (Array.getElem?_eq_some_iff.1 ho).1
    have hi' : i < listed.size := by omega
    have hli : listed[i] = false := by
      simpa only [Array.getD_eq_getD_getElem?, Array.getElem?_eq_getElem hi', Option.getD_some] using h1
    have hLi : (fun j => listed.getD j false) i = false := by
      simp only [Array.getD_eq_getD_getElem?, Array.getElem?_eq_getElem hi', Option.getD_some]; exact hli
    refine wpOp_step ho (fun K hK => step i o _ a w ho hLi hdep hG K (fun a' w' hG' => hK a' w' (ih _ a' w' (by simpa using hs) ?_ ?_)))
    · have hset : (listed.setIfInBounds i true).toList = listed.toList.set i true := by simp
      have hl2 : i < listed.toList.length := by simpa using hi'
      rw [hset, List.countP_set hl2]
      have : listed.toList[i] = false := by simpa using hli
      rw [this]
      have hpos : 0 < listed.toList.countP (fun b => !b) := List.countP_pos_iff.2 ⟨false, by rw [← this]; exact List.getElem_mem hl2, rfl⟩
      have hc2 := hc
      simp only [Bool.not_false, if_true, Bool.not_true]
      rw [if_neg (by simp)]
      omega
    · have e : (fun j => (listed.setIfInBounds i true).getD j false) = (fun j => j == i || listed.getD j false) := by
        funext j
        by_cases hj : j = i
        · subst hj
          simp [Array.getD_eq_getD_getElem?, hi']
        · have : (j == i) = false := by simpa using hj
          rw [this, Bool.false_or]
          simp only [Array.getD_eq_getD_getElem?]
          rw [Array.getElem?_setIfInBounds_ne (fun h => hj h.symm)]
      rw [e]
      exact hG'
end
/-- A region that draws its order, by what holds of the operations that have been done. -/
theorem wp_region_inv {P : Program} {id : Nat} {Q : Exit → Act → World → Prop} {a : Act} {w : World} {l : List Oper} (hm : P.follows .mixedOrders = true) (G : (Nat → Bool) → Act → World → Prop) (hb : backB .any l.toArray = true)
    (step : ∀ (i : Nat) (o : Oper) (L : Nat → Bool) (a : Act) (w : World), l[i]? = some o → L i = false → (∀ e ∈ o.after, Region.binds .any e = true → L e.on = true) → G L a w →
      ∀ K : Act → World → Prop, (∀ a' w', G (fun j => j == i || L j) a' w' → K a' w') → if Region.wanted o (yielded l.toArray a.tmps) = true then Oper.wp P o a w K Q else K (a.put o.dst undef) w)
    (fin : ∀ L a w, (∀ i, i < l.length → L i = true) → G L a w → Q .normal a w) (h0 : G (fun _ => false) a w.drew) : (Code.region id l.toArray true).wp P Q a w := by
  refine wp_region_any hm (wpAny_inv G hb (fun i o L a w ho => step i o L a w (by simpa using ho)) (fun L a w h => fin L a w (by simpa using h)) _ _ _ _ (by simp) ?_ ?_)
  · have : (Array.replicate l.toArray.size false).toList.countP (fun b => !b) ≤ (Array.replicate l.toArray.size false).toList.length := List.countP_le_length
    simpa using this
  · have e : (fun j => (Array.replicate l.toArray.size false).getD j false) = (fun _ => false) := by
      funext j
      simp only [Array.getD_eq_getD_getElem?]
      by_cases hj : j < l.toArray.size
      · rw [Array.getElem?_eq_getElem (by simpa using hj)]; simp
      · rw [Array.getElem?_eq_none (by simpa using hj)]; rfl
    rw [e]
    exact h0
end Go.Proofs.YtbfimimhgdkpaaaGreatDoor

/- The map of the kinds' parts: what it holds, key by key. No condition. -/
namespace Go.Proofs.YtbfimimhgdkpaaaGreatDoor
open Go.RowKit Go.Maps

def tokR (v : Value) : Option (DataW Value × List MemPlace) := some (.held v, [])
theorem kLaw : Keyed Tryz.prog 22 := int_keyed Tryz.underlying22
abbrev kLit (k : Int) : Lit := .int .i64 k
def kWf (k : Int) : Prop := (kLit k).wf = true
theorem kWf_of {k : Int} (h0 : -9223372036854775808 ≤ k) (h1 : k ≤ 9223372036854775807) : kWf k := WalkArith.wf_i64 ⟨h0, h1⟩
/-- What a map holds at a key. -/
def AtKey (D : DataW Value) (k : Int) : Option Value → Prop
  | some v => Maps.has D (kLit k) = true ∧ ∀ z, D.atKey (kLit k) z = .held v
  | none => Maps.has D (kLit k) = false ∧ ∀ z, D.atKey (kLit k) z = z
/-- A map of slices by kinds. -/
def KMap (w : World) (b : Nat) (f : Int → Option Value) : Prop := ∃ n D, w.ownsMap Tryz.prog 22 tokR b n D ∧ ∀ k, kWf k → AtKey D k (f k)
theorem KMap.keep {w w' : World} {b : Nat} {f : Int → Option Value} (h : KMap w b f) (k : Kp w w') : KMap w' b f := by
  obtain ⟨n, D, ho, hf⟩ := h
  exact ⟨n, D, ho.kept (row := none) ⟨k.os, k.tape, k.output, k.size, fun i hi _ => k.block i hi⟩ (by simp), hf⟩
theorem zero_parts (w : World) : (zeroValue 83).run Tryz.prog w = .ok (.slice none 0 0) w := by kernel_rfl
theorem KMap.look {w : World} {b : Nat} {f : Int → Option Value} (h : KMap w b f) {k : Int} (hk : kWf k) :
    (Instr.lookup 84 (.map (some b)) (.int .i64 k) true).run Tryz.prog w = .ok (.tuple #[(f k).getD (.slice none 0 0), .bool (f k).isSome]) w := by
  obtain ⟨n, D, ho, hf⟩ := h
  obtain ⟨v, ps, hr, hv⟩ := ho.look_ok kLaw Tryz.underlying84 (zero_parts w) (zd := .held (.slice none 0 0)) (zp := []) rfl (keyOf_int_mk Tryz.underlying22 hk)
  have h1 := hf k hk
  cases hc : f k with
  | none =>
    rw [hc] at h1
    obtain ⟨h2, h3⟩ := h1
    simp only [tokR, Option.some.injEq, Prod.mk.injEq] at hv
    rw [h3] at hv
    have : v = .slice none 0 0 := by have := hv.1; injection this
    rw [hr, this, h2]; rfl
  | some u =>
    rw [hc] at h1
    obtain ⟨h2, h3⟩ := h1
    simp only [tokR, Option.some.injEq, Prod.mk.injEq] at hv
    rw [h3] at hv
    have : v = u := by have := hv.1; injection this
    rw [hr, this, h2]; rfl
theorem KMap.look1 {w : World} {b : Nat} {f : Int → Option Value} (h : KMap w b f) {k : Int} (hk : kWf k) :
    (Instr.lookup 84 (.map (some b)) (.int .i64 k) false).run Tryz.prog w = .ok ((f k).getD (.slice none 0 0)) w := by
  obtain ⟨n, D, ho, hf⟩ := h
  obtain ⟨v, ps, hr, hv⟩ := ho.lookup kLaw Tryz.underlying84 (zero_parts w) (zd := .held (.slice none 0 0)) (zp := []) rfl (keyOf_int_mk Tryz.underlying22 hk)
  have h1 := hf k hk
  simp only [tokR, Option.some.injEq, Prod.mk.injEq] at hv
  cases hc : f k with
  | none =>
    rw [hc] at h1
    rw [h1.2] at hv
    have : v = .slice none 0 0 := by have := hv.1; injection this
    rw [hr, this]; rfl
  | some u =>
    rw [hc] at h1
    rw [h1.2] at hv
    have : v = u := by have := hv.1; injection this
    rw [hr, this]; rfl

/-! ### A part's three function values -/
def numV (p t r b : Nat) : List Value := [.func (.func p) #[] #[.pointer (some ⟨b, 0, none⟩)], .func (.func t) #[] #[.pointer (some ⟨b, 0, none⟩)], .func (.func r) #[] #[.pointer (some ⟨b, 0, none⟩)]]
def bareV (p t r : Nat) : List Value := [.func (.func p) #[] #[], .func (.func t) #[] #[], .func (.func r) #[] #[]]
/-- The cells of a part; x, y, z: the boxes of the three numbers' field functions. -/
def partC (x y z : Nat) : Pt → List Value
  | .a => numV 124 125 127 x
  | .b => numV 124 125 127 y
  | .d => numV 130 131 132 z
  | .c => bareV 133 134 135
  | .s => bareV 136 137 138
  | .x => bareV 139 140 141
theorem partC_len (x y z : Nat) (p : Pt) : (partC x y z p).length = 3 := by cases p <;> rfl
/-- The boxes hold the field functions. -/
structure Boxes (w : World) (x y z : Nat) : Prop where
  x : Blk w x 154 #[.func (.func 87) #[] #[]]
  y : Blk w y 154 #[.func (.func 88) #[] #[]]
  z : Blk w z 157 #[.func (.func 90) #[] #[]]
theorem Boxes.keep {w w' : World} {x y z : Nat} (h : Boxes w x y z) (k : Kp w w') : Boxes w' x y z := ⟨h.x.keep k, h.y.keep k, h.z.keep k⟩
abbrev partV (x y z : Nat) (p : Pt) : Value := .agg (partC x y z p).toArray

set_option maxRecDepth 100000 in
set_option maxHeartbeats 400000 in
theorem number_int (f : Nat) (w : World) : Calls Tryz.prog 86 #[.func (.func f) #[] #[]] w fun e w' =>
    ∃ b, w.heap.size ≤ b ∧ e = .returned (.agg (numV 124 125 127 b).toArray) ∧ Blk w' b 154 #[.func (.func f) #[] #[]] ∧ Kp w w' := by
  have hmf := makeFunc_run
  go_enter Tryz.func86, Tryz.ntmps86
  go_wp2_with fail
  refine bodyPost_ret (v := .agg (numV 124 125 127 w.heap.size).toArray) (by simp [results, Tryz.results86, go_sem, numV]) rfl ⟨w.heap.size, Nat.le_refl _, rfl, ?_, ((Kp.refl _).alloc _).alloc _⟩
  exact (Blk.new w _ _).alloc _
set_option maxRecDepth 100000 in
set_option maxHeartbeats 400000 in
theorem number_int64 (f : Nat) (w : World) : Calls Tryz.prog 89 #[.func (.func f) #[] #[]] w fun e w' =>
    ∃ b, w.heap.size ≤ b ∧ e = .returned (.agg (numV 130 131 132 b).toArray) ∧ Blk w' b 157 #[.func (.func f) #[] #[]] ∧ Kp w w' := by
  have hmf := makeFunc_run
  go_enter Tryz.func89, Tryz.ntmps89
  go_wp2_with fail
  refine bodyPost_ret (v := .agg (numV 130 131 132 w.heap.size).toArray) (by simp [results, Tryz.results89, go_sem, numV]) rfl ⟨w.heap.size, Nat.le_refl _, rfl, ?_, ((Kp.refl _).alloc _).alloc _⟩
  exact (Blk.new w _ _).alloc _
set_option maxRecDepth 100000 in
set_option maxHeartbeats 400000 in
theorem c_turn_any (w : World) : Calls Tryz.prog 91 #[] w fun e w' => e = .returned (.agg (bareV 133 134 135).toArray) ∧ Kp w w' := by
  go_enter Tryz.func91, Tryz.ntmps91
  go_wp2_with fail
  exact bodyPost_ret (v := .agg (bareV 133 134 135).toArray) (by simp [results, Tryz.results91, go_sem, bareV]) rfl ⟨rfl, (Kp.refl _).alloc _⟩
set_option maxRecDepth 100000 in
set_option maxHeartbeats 400000 in
theorem c_src_any (w : World) : Calls Tryz.prog 92 #[] w fun e w' => e = .returned (.agg (bareV 136 137 138).toArray) ∧ Kp w w' := by
  go_enter Tryz.func92, Tryz.ntmps92
  go_wp2_with fail
  exact bodyPost_ret (v := .agg (bareV 136 137 138).toArray) (by simp [results, Tryz.results92, go_sem, bareV]) rfl ⟨rfl, (Kp.refl _).alloc _⟩
set_option maxRecDepth 100000 in
set_option maxHeartbeats 400000 in
theorem c_data_any (w : World) : Calls Tryz.prog 93 #[] w fun e w' => e = .returned (.agg (bareV 139 140 141).toArray) ∧ Kp w w' := by
  go_enter Tryz.func93, Tryz.ntmps93
  go_wp2_with fail
  exact bodyPost_ret (v := .agg (bareV 139 140 141).toArray) (by simp [results, Tryz.results93, go_sem, bareV]) rfl ⟨rfl, (Kp.refl _).alloc _⟩
end Go.Proofs.YtbfimimhgdkpaaaGreatDoor

/- Package script: lines(), the map of the kinds' parts. No condition. -/
namespace Go.Proofs.YtbfimimhgdkpaaaGreatDoor
open Go.RowKit Go.Maps

def valT : List (Nat × Nat × Pt) := [(1, 8, .d), (4, 10, .a), (5, 11, .d), (8, 13, .a), (9, 14, .d), (12, 16, .a), (15, 18, .a), (16, 19, .c), (19, 21, .a), (20, 22, .b), (21, 23, .c), (22, 24, .d), (25, 26, .a), (26, 27, .d), (29, 29, .a), (30, 30, .b), (31, 31, .s), (32, 32, .x), (33, 33, .d)]
def rowT : List (Nat × Nat × Nat) := [(2, 9, 1), (6, 12, 2), (10, 15, 3), (13, 17, 4), (17, 20, 5), (23, 25, 6), (27, 28, 7), (34, 34, 8)]
def insT : List (Nat × Nat × Nat) := [(3, 1, 0), (7, 2, 0), (11, 3, 0), (14, 4, 0), (18, 5, 0), (24, 6, 0), (28, 7, 0), (35, 8, 0)]
/-- The cells of a row of parts. -/
def rowC (x y z : Nat) (k : Nat) : List Value := (partsOf k).flatMap (partC x y z)
/-- The row of a kind's parts lies in a block of its own. -/
def RowAt (w : World) (x y z : Nat) (k : Nat) (v : Value) : Prop := ∃ g, v = .slice (some ⟨g, 0, none⟩) (partsOf k).length (partsOf k).length ∧ Blk w g 89 (rowC x y z k).toArray
theorem RowAt.keep {w w' : World} {x y z k : Nat} {v : Value} (h : RowAt w x y z k v) (K : Kp w w') : RowAt w' x y z k v := by
  obtain ⟨g, e, hb⟩ := h
  exact ⟨g, e, hb.keep K⟩
def cntL (L : Nat → Bool) : Nat := (List.range 38).countP L
/-- What the map holds while its entries are laid. -/
def MapG (w0 w : World) (x y z : Nat) (L : Nat → Bool) (v : Value) : Prop :=
  ∃ b n D, v = .map (some b) ∧ w0.heap.size ≤ b ∧ w.ownsMap Tryz.prog 22 tokR b n D ∧ n ≤ cntL L ∧
    (∀ e ∈ insT, if L e.1 = true then ∃ u, RowAt w x y z e.2.1 u ∧ AtKey D (e.2.1 : Nat) (some u) else AtKey D (e.2.1 : Nat) none) ∧
    (∀ k : Int, kWf k → (∀ e ∈ insT, k ≠ (e.2.1 : Nat)) → AtKey D k none)
/-- What has been done stands on what was to be done ahead. -/
def Cl (L : Nat → Bool) : Prop := (∀ e ∈ insT, L e.1 = true → L 0 = true) ∧ (L 36 = true → L 0 = true) ∧ (L 37 = true → L 36 = true)
theorem Cl.add {L : Nat → Bool} (h : Cl L) {i : Nat} (h1 : ∀ e ∈ insT, e.1 = i → L 0 = true) (h2 : i = 36 → L 0 = true) (h3 : i = 37 → L 36 = true) : Cl (fun j => j == i || L j) := by
  obtain ⟨a, b, c⟩ := h
  refine ⟨fun e he hl => ?_, fun hl => ?_, fun hl => ?_⟩
  · simp only [Bool.or_eq_true, beq_iff_eq] at hl ⊢
    exact .inr (hl.elim (h1 e he) (a e he))
  · simp only [Bool.or_eq_true, beq_iff_eq] at hl ⊢
    exact .inr (hl.elim (fun hh => h2 hh.symm) b)
  · simp only [Bool.or_eq_true, beq_iff_eq] at hl ⊢
    exact .inr (hl.elim (fun hh => h3 hh.symm) c)
structure LG (w0 : World) (x y z b1 b2 b3 : Nat) (L : Nat → Bool) (a : Act) (w : World) : Prop where
  kp : Kp w0 w
  df : a.defers = []
  sz : a.tmps.size = 36
  s1 : a.tmps.getD 1 undef = .pointer (some ⟨b1, 0, none⟩)
  s2 : a.tmps.getD 2 undef = .pointer (some ⟨b2, 0, none⟩)
  s3 : a.tmps.getD 3 undef = .pointer (some ⟨b3, 0, none⟩)
  vals : ∀ e ∈ valT, L e.1 = true → a.tmps.getD e.2.1 undef = partV x y z e.2.2
  rows : ∀ e ∈ rowT, L e.1 = true → RowAt w x y z e.2.2 (a.tmps.getD e.2.1 undef)
  map : L 0 = true → MapG w0 w x y z L (a.tmps.getD 7 undef)
  mv : L 36 = true → a.tmps.getD 35 undef = a.tmps.getD 7 undef
  asg : L 37 = true → a.tmps.getD 0 undef = a.tmps.getD 7 undef
  cl : Cl L


theorem cnt_add {L : Nat → Bool} {i : Nat} (hi : i < 38) (h : L i = false) : cntL (fun j => j == i || L j) = cntL L + 1 := by
  have key : ∀ m, (List.range m).countP (fun j => j == i || L j) = (List.range m).countP L + (if i < m then 1 else 0) := by
    intro m
    induction m with
    | zero => rfl
    | succ m ih =>
      rw [List.range_succ, List.countP_append, List.countP_append, ih]
      by_cases hm : m = i
      · subst hm
        simp [h]
      · have hb : (m == i) = false := by simpa using hm
        by_cases hl : i < m
        · simp [hb, hl, show i < m + 1 by omega]; omega
        · simp [hb, hl, show ¬ i < m + 1 by omega]
  have := key 38
  rw [if_pos hi] at this
  exact this
theorem MapG.keep {w0 w w' : World} {x y z : Nat} {L : Nat → Bool} {v : Value} (h : MapG w0 w x y z L v) (K : Kp w w') : MapG w0 w' x y z L v := by
  obtain ⟨b, n, D, e, hb, ho, hn, hi, hk⟩ := h
  refine ⟨b, n, D, e, hb, ho.kept (row := none) ⟨K.os, K.tape, K.output, K.size, fun i hi _ => K.block i hi⟩ (by simp), hn, fun e he => ?_, hk⟩
  have := hi e he
  split
  · rename_i hl
    rw [if_pos hl] at this
    obtain ⟨u, hu, ha⟩ := this
    exact ⟨u, hu.keep K, ha⟩
  · rename_i hl
    rw [if_neg hl] at this
    exact this
theorem MapG.more {w0 w : World} {x y z : Nat} {L : Nat → Bool} {v : Value} (h : MapG w0 w x y z L v) {i : Nat} (hi : i < 38) (hl : L i = false) (hn : ∀ e ∈ insT, e.1 ≠ i) : MapG w0 w x y z (fun j => j == i || L j) v := by
  obtain ⟨b, n, D, e, hb, ho, hc, hh, hk⟩ := h
  refine ⟨b, n, D, e, hb, ho, by rw [cnt_add hi hl]; omega, fun e he => ?_, hk⟩
  have h1 := hh e he
  have h2 : (e.1 == i) = false := by simpa using hn e he
  simp only [h2, Bool.false_or]
  exact h1
theorem getD_set_ne {t : Array Value} {i j : Nat} (h : i ≠ j) (v : Value) : (t.setIfInBounds i v).getD j undef = t.getD j undef := by
  simp only [Array.getD_eq_getD_getElem?]
  rw [Array.getElem?_setIfInBounds_ne h]
theorem getD_set_eq {t : Array Value} {i : Nat} (h : i < t.size) (v : Value) : (t.setIfInBounds i v).getD i undef = v := by
  simp only [Array.getD_eq_getD_getElem?]
  rw [Array.getElem?_setIfInBounds_self_of_lt h]
  rfl
theorem val_tab : ∀ q ∈ valT, q.1 < 38 ∧ q.2.1 < 36 ∧ q.2.1 ≠ 1 ∧ q.2.1 ≠ 2 ∧ q.2.1 ≠ 3 ∧ q.2.1 ≠ 7 ∧ q.2.1 ≠ 35 ∧ q.2.1 ≠ 0 ∧ q.1 ≠ 0 ∧ q.1 ≠ 36 ∧ q.1 ≠ 37 ∧ (∀ e ∈ insT, e.1 ≠ q.1) ∧ (∀ e ∈ valT, e.1 = q.1 → e = q) ∧ (∀ e ∈ valT, e.2.1 = q.2.1 → e.1 = q.1) ∧ (∀ e ∈ rowT, e.1 ≠ q.1 ∧ e.2.1 ≠ q.2.1) := by decide
theorem row_tab : ∀ q ∈ rowT, q.1 < 38 ∧ q.2.1 < 36 ∧ q.2.1 ≠ 1 ∧ q.2.1 ≠ 2 ∧ q.2.1 ≠ 3 ∧ q.2.1 ≠ 7 ∧ q.2.1 ≠ 35 ∧ q.2.1 ≠ 0 ∧ q.1 ≠ 0 ∧ q.1 ≠ 36 ∧ q.1 ≠ 37 ∧ (∀ e ∈ insT, e.1 ≠ q.1) ∧ (∀ e ∈ rowT, e.1 = q.1 → e = q) ∧ (∀ e ∈ rowT, e.2.1 = q.2.1 → e.1 = q.1) ∧ (∀ e ∈ valT, e.1 ≠ q.1 ∧ e.2.1 ≠ q.2.1) := by decide
section
variable {w0 : World} {x y z b1 b2 b3 : Nat} {L : Nat → Bool} {a : Act} {w : World}
/-- A slot that holds a part has been written. -/
theorem LG.val (h : LG w0 x y z b1 b2 b3 L a w) {i t : Nat} {p : Pt} (hm : (i, t, p) ∈ valT) (hl : L i = false) {w' : World} (K : Kp w w') : LG w0 x y z b1 b2 b3 (fun j => j == i || L j) (a.put (some t) (partV x y z p)) w' := by
  have hb := val_tab _ hm
  simp only at hb
  obtain ⟨hi, ht, t1, t2, t3, t7, t35, t0, i0, i36, i37, hin, hv, hv2, hr⟩ := hb
  have hs : t < a.tmps.size := by rw [h.sz]; exact ht
  refine ⟨h.kp.trans K, h.df, by simpa [Act.put] using h.sz, (getD_set_ne t1 _).trans h.s1, (getD_set_ne t2 _).trans h.s2, (getD_set_ne t3 _).trans h.s3, fun e he hle => ?_, fun e he hle => ?_, fun h0 => ?_, fun h36 => ?_, fun h37 => ?_, h.cl.add (fun e he hh => absurd hh (hin e he)) (fun hh => absurd hh i36) (fun hh => absurd hh i37)⟩
  · by_cases he1 : e.1 = i
    · rw [hv e he he1]
      exact getD_set_eq hs _
    · have h2 : (e.1 == i) = false := by simpa using he1
      rw [h2, Bool.false_or] at hle
      exact (getD_set_ne (fun hh => he1 (hv2 e he hh.symm)) _).trans (h.vals e he hle)
  · have h2 : (e.1 == i) = false := by simpa using (hr e he).1
    rw [h2, Bool.false_or] at hle
    have := (h.rows e he hle).keep K
    rw [← getD_set_ne (t := a.tmps) (fun hh => (hr e he).2 hh.symm) (partV x y z p)] at this
    exact this
  · have h2 : ((0 : Nat) == i) = false := by simpa using fun hh => i0 hh.symm
    rw [h2, Bool.false_or] at h0
    have := ((h.map h0).keep K).more hi hl hin
    rw [← getD_set_ne (t := a.tmps) t7 (partV x y z p)] at this
    exact this
  · have h2 : ((36 : Nat) == i) = false := by simpa using fun hh => i36 hh.symm
    rw [h2, Bool.false_or] at h36
    exact (getD_set_ne t35 _).trans ((h.mv h36).trans (getD_set_ne t7 _).symm)
  · have h2 : ((37 : Nat) == i) = false := by simpa using fun hh => i37 hh.symm
    rw [h2, Bool.false_or] at h37
    exact (getD_set_ne t0 _).trans ((h.asg h37).trans (getD_set_ne t7 _).symm)
/-- A slot that holds a row of parts has been written. -/
theorem LG.row (h : LG w0 x y z b1 b2 b3 L a w) {i t k : Nat} (hm : (i, t, k) ∈ rowT) (hl : L i = false) {w' : World} (K : Kp w w') {v : Value} (hR : RowAt w' x y z k v) : LG w0 x y z b1 b2 b3 (fun j => j == i || L j) (a.put (some t) v) w' := by
  have hb := row_tab _ hm
  simp only at hb
  obtain ⟨hi, ht, t1, t2, t3, t7, t35, t0, i0, i36, i37, hin, hv, hv2, hr⟩ := hb
  have hs : t < a.tmps.size := by rw [h.sz]; exact ht
  refine ⟨h.kp.trans K, h.df, by simpa [Act.put] using h.sz, (getD_set_ne t1 _).trans h.s1, (getD_set_ne t2 _).trans h.s2, (getD_set_ne t3 _).trans h.s3, fun e he hle => ?_, fun e he hle => ?_, fun h0 => ?_, fun h36 => ?_, fun h37 => ?_, h.cl.add (fun e he hh => absurd hh (hin e he)) (fun hh => absurd hh i36) (fun hh => absurd hh i37)⟩
  · have h2 : (e.1 == i) = false := by simpa using (hr e he).1
    rw [h2, Bool.false_or] at hle
    exact (getD_set_ne (fun hh => (hr e he).2 hh.symm) _).trans (h.vals e he hle)
  · by_cases he1 : e.1 = i
    · rw [hv e he he1]
      have := hR
      rw [← getD_set_eq hs v] at this
      exact this
    · have h2 : (e.1 == i) = false := by simpa using he1
      rw [h2, Bool.false_or] at hle
      have := (h.rows e he hle).keep K
      rw [← getD_set_ne (t := a.tmps) (fun hh => he1 (hv2 e he hh.symm)) v] at this
      exact this
  · have h2 : ((0 : Nat) == i) = false := by simpa using fun hh => i0 hh.symm
    rw [h2, Bool.false_or] at h0
    have := ((h.map h0).keep K).more hi hl hin
    rw [← getD_set_ne (t := a.tmps) t7 v] at this
    exact this
  · have h2 : ((36 : Nat) == i) = false := by simpa using fun hh => i36 hh.symm
    rw [h2, Bool.false_or] at h36
    exact (getD_set_ne t35 _).trans ((h.mv h36).trans (getD_set_ne t7 _).symm)
  · have h2 : ((37 : Nat) == i) = false := by simpa using fun hh => i37 hh.symm
    rw [h2, Bool.false_or] at h37
    exact (getD_set_ne t0 _).trans ((h.asg h37).trans (getD_set_ne t7 _).symm)
end
end Go.Proofs.YtbfimimhgdkpaaaGreatDoor

/- Package script: lines(): the operations of the region that draws, one by one. No condition. -/
namespace Go.Proofs.YtbfimimhgdkpaaaGreatDoor
open Go.RowKit Go.Maps

theorem AtKey.same {D : DataW Value} (hD : IsMap D) (k : Int) (v : Value) : AtKey (D.put (kLit k) (.held v)) k (some v) :=
  ⟨has_put_same hD (by simp [WideAt.IsKeyLit]) _, fun z => atKey_put_same hD (by simp [WideAt.IsKeyLit]) _ _⟩
theorem AtKey.other {D : DataW Value} {k k' : Int} (hne : k' ≠ k) {d : DataW Value} {o : Option Value} (h : AtKey D k' o) : AtKey (D.put (kLit k) d) k' o := by
  have hn : kLit k' ≠ kLit k := fun e => hne (by injection e)
  cases o with
  | none => exact ⟨(has_put_other hn d).trans h.1, fun z => (atKey_put_other hn d z).trans (h.2 z)⟩
  | some v => exact ⟨(has_put_other hn d).trans h.1, fun z => (atKey_put_other hn d z).trans (h.2 z)⟩
theorem ins_tab : ∀ q ∈ insT, q.1 < 38 ∧ q.1 ≠ 0 ∧ q.1 ≠ 36 ∧ q.1 ≠ 37 ∧ 1 ≤ q.2.1 ∧ q.2.1 ≤ 8 ∧ (∀ e ∈ insT, e.1 = q.1 → e = q) ∧ (∀ e ∈ insT, e.2.1 = q.2.1 → e.1 = q.1) ∧ (∀ e ∈ valT, e.1 ≠ q.1) ∧ (∀ e ∈ rowT, e.1 ≠ q.1) := by decide
theorem blk_ne_map {w : World} {g b : Nat} {t : TypeId} {cs : Array Value} {n : Nat} {D : DataW Value} (h : Blk w g t cs) (ho : w.ownsMap Tryz.prog 22 tokR b n D) : g ≠ b := by
  rintro rfl
  obtain ⟨es, clock, hb, _⟩ := ho
  unfold Blk at h
  rw [h] at hb
  cases hb
section
variable {w0 : World} {x y z b1 b2 b3 : Nat} {L : Nat → Bool} {a : Act} {w : World}
theorem LG.ins (h : LG w0 x y z b1 b2 b3 L a w) {i k : Nat} (hm : (i, k, 0) ∈ insT) (hl : L i = false) (h0 : L 0 = true) {v : Value} (hR : RowAt w x y z k v) :
    ∃ w', (Instr.mapUpdate 84 (a.tmps.getD 7 undef) (.int .i64 (k : Int)) v).run Tryz.prog w = .ok () w' ∧ LG w0 x y z b1 b2 b3 (fun j => j == i || L j) a w' := by
  have ht := ins_tab _ hm
  simp only at ht
  obtain ⟨hi, i0, i36, i37, hk1, hk8, hu1, hu2, hv, hr⟩ := ht
  obtain ⟨b, n, D, e7, hb, ho, hn, hin, hkk⟩ := h.map h0
  have hcl : cntL L ≤ 38 := by unfold cntL; have := List.countP_le_length (p := L) (l := List.range 38); simpa using this
  obtain ⟨w', hrun, ho', hg⟩ := ho.update kLaw Tryz.underlying84 (by unfold maxLen; omega) (keyOf_int_mk Tryz.underlying22 (kWf_of (k := (k : Int)) (by omega) (by omega))) (val := v) (d := .held v) (ps := []) rfl
  have keepR : ∀ (k' : Nat) (u : Value), RowAt w x y z k' u → RowAt w' x y z k' u := fun k' u hu => by
    obtain ⟨g, e, hB⟩ := hu
    exact ⟨g, e, hB.grown hg (fun hh => blk_ne_map hB ho (by injection hh))⟩
  refine ⟨w', by rw [e7]; exact hrun, h.kp.grown hg (fun q hq => by injection hq with hq; rw [← hq]; exact hb), h.df, h.sz, h.s1, h.s2, h.s3, fun e he hle => ?_, fun e he hle => ?_, fun _ => ?_, fun h36 => ?_, fun h37 => ?_, h.cl.add (fun _ _ _ => h0) (fun hh => absurd hh i36) (fun hh => absurd hh i37)⟩
  · have h2 : (e.1 == i) = false := by simpa using hv e he
    rw [h2, Bool.false_or] at hle
    exact h.vals e he hle
  · have h2 : (e.1 == i) = false := by simpa using hr e he
    rw [h2, Bool.false_or] at hle
    exact keepR _ _ (h.rows e he hle)
  · refine ⟨b, n + 1, _, e7, hb, ho', by rw [cnt_add hi hl]; omega, fun e he => ?_, fun k' hw hne => ?_⟩
    · by_cases he1 : e.1 = i
      · obtain rfl := hu1 e he he1
        simp only [beq_self_eq_true, Bool.true_or, if_true]
        exact ⟨v, keepR _ _ hR, AtKey.same ho.isMap _ _⟩
      · have h2 : (e.1 == i) = false := by simpa using he1
        have hne : ((e.2.1 : Nat) : Int) ≠ (k : Int) := fun hh => he1 (hu2 e he (by omega))
        simp only [h2, Bool.false_or]
        have h3 := hin e he
        split
        · rename_i hle
          rw [if_pos hle] at h3
          obtain ⟨u, hu, hA⟩ := h3
          exact ⟨u, keepR _ _ hu, hA.other hne⟩
        · rename_i hle
          rw [if_neg hle] at h3
          exact h3.other hne
    · exact (hkk k' hw hne).other (hne _ hm)
  · have h2 : ((36 : Nat) == i) = false := by simpa using fun hh => i36 hh.symm
    rw [h2, Bool.false_or] at h36
    exact h.mv h36
  · have h2 : ((37 : Nat) == i) = false := by simpa using fun hh => i37 hh.symm
    rw [h2, Bool.false_or] at h37
    exact h.asg h37
theorem LG.made (h : LG w0 x y z b1 b2 b3 L a w) (hl : L 0 = false) :
    LG w0 x y z b1 b2 b3 (fun j => j == 0 || L j) (a.put (some 7) (.map (some w.heap.size))) (w.alloc (.map #[] 0)) := by
  have K : Kp w (w.alloc (.map #[] 0)) := (Kp.refl w).alloc _
  have hno : ∀ e ∈ insT, L e.1 = false := fun e he => by
    cases hh : L e.1 with
    | false => rfl
    | true => have := h.cl.1 e he hh; rw [hl] at this; cases this
  have h36 : L 36 = false := by
    cases hh : L 36 with
    | false => rfl
    | true => have := h.cl.2.1 hh; rw [hl] at this; cases this
  have h37 : L 37 = false := by
    cases hh : L 37 with
    | false => rfl
    | true => have := h.cl.2.2 hh; rw [h36] at this; cases this
  have hv : ∀ e ∈ valT, e.1 ≠ 0 ∧ e.2.1 ≠ 7 := by decide
  have hr : ∀ e ∈ rowT, e.1 ≠ 0 ∧ e.2.1 ≠ 7 := by decide
  have hi : ∀ e ∈ insT, e.1 ≠ 0 := by decide
  have hs : 7 < a.tmps.size := by rw [h.sz]; decide
  refine ⟨h.kp.trans K, h.df, by simpa [Act.put] using h.sz, (getD_set_ne (by decide) _).trans h.s1, (getD_set_ne (by decide) _).trans h.s2, (getD_set_ne (by decide) _).trans h.s3, fun e he hle => ?_, fun e he hle => ?_, fun _ => ?_, fun hh => ?_, fun hh => ?_, h.cl.add (fun e he hh => absurd hh (hi e he)) (fun hh => by cases hh) (fun hh => by cases hh)⟩
  · have h2 : (e.1 == 0) = false := by simpa using (hv e he).1
    rw [h2, Bool.false_or] at hle
    exact (getD_set_ne (fun hh => (hv e he).2 hh.symm) _).trans (h.vals e he hle)
  · have h2 : (e.1 == 0) = false := by simpa using (hr e he).1
    rw [h2, Bool.false_or] at hle
    have := (h.rows e he hle).keep K
    rw [← getD_set_ne (t := a.tmps) (fun hh => (hr e he).2 hh.symm) (.map (some w.heap.size))] at this
    exact this
  · refine ⟨w.heap.size, 0, .map [], getD_set_eq hs _, h.kp.size, World.ownsMap_made w _ _ _, Nat.zero_le _, fun e he => ?_, fun k _ _ => ⟨rfl, fun _ => rfl⟩⟩
    have h2 : (e.1 == 0) = false := by simpa using hi e he
    simp only [h2, Bool.false_or, hno e he, Bool.false_eq_true, if_false]
    exact ⟨rfl, fun _ => rfl⟩
  · simp [h36] at hh
  · simp [h37] at hh
theorem LG.move (h : LG w0 x y z b1 b2 b3 L a w) (h0 : L 0 = true) (hl : L 36 = false) : LG w0 x y z b1 b2 b3 (fun j => j == 36 || L j) (a.put (some 35) (a.tmps.getD 7 undef)) w := by
  have h37 : L 37 = false := by
    cases hh : L 37 with
    | false => rfl
    | true => have := h.cl.2.2 hh; rw [hl] at this; cases this
  have hv : ∀ e ∈ valT, e.1 ≠ 36 ∧ e.2.1 ≠ 35 := by decide
  have hr : ∀ e ∈ rowT, e.1 ≠ 36 ∧ e.2.1 ≠ 35 := by decide
  have hi : ∀ e ∈ insT, e.1 ≠ 36 := by decide
  have hs : 35 < a.tmps.size := by rw [h.sz]; decide
  refine ⟨h.kp, h.df, by simpa [Act.put] using h.sz, (getD_set_ne (by decide) _).trans h.s1, (getD_set_ne (by decide) _).trans h.s2, (getD_set_ne (by decide) _).trans h.s3, fun e he hle => ?_, fun e he hle => ?_, fun _ => ?_, fun hh => ?_, fun hh => ?_, h.cl.add (fun e he hh => absurd hh (hi e he)) (fun _ => h0) (fun hh => by cases hh)⟩
  · have h2 : (e.1 == 36) = false := by simpa using (hv e he).1
    rw [h2, Bool.false_or] at hle
    exact (getD_set_ne (fun hh => (hv e he).2 hh.symm) _).trans (h.vals e he hle)
  · have h2 : (e.1 == 36) = false := by simpa using (hr e he).1
    rw [h2, Bool.false_or] at hle
    have := h.rows e he hle
    rw [← getD_set_ne (t := a.tmps) (fun hh => (hr e he).2 hh.symm) (a.tmps.getD 7 undef)] at this
    exact this
  · have := (h.map h0).more (i := 36) (by decide) hl hi
    rw [← getD_set_ne (t := a.tmps) (i := 35) (by decide) (a.tmps.getD 7 undef)] at this
    exact this
  · exact (getD_set_eq hs _).trans (getD_set_ne (by decide) _).symm
  · simp [h37] at hh
theorem LG.assign (h : LG w0 x y z b1 b2 b3 L a w) (h36 : L 36 = true) (hl : L 37 = false) : LG w0 x y z b1 b2 b3 (fun j => j == 37 || L j) (a.put (some 0) (a.tmps.getD 35 undef)) w := by
  have h0 := h.cl.2.1 h36
  have hv : ∀ e ∈ valT, e.1 ≠ 37 ∧ e.2.1 ≠ 0 := by decide
  have hr : ∀ e ∈ rowT, e.1 ≠ 37 ∧ e.2.1 ≠ 0 := by decide
  have hi : ∀ e ∈ insT, e.1 ≠ 37 := by decide
  have hs : 0 < a.tmps.size := by rw [h.sz]; decide
  refine ⟨h.kp, h.df, by simpa [Act.put] using h.sz, (getD_set_ne (by decide) _).trans h.s1, (getD_set_ne (by decide) _).trans h.s2, (getD_set_ne (by decide) _).trans h.s3, fun e he hle => ?_, fun e he hle => ?_, fun _ => ?_, fun _ => ?_, fun _ => ?_, h.cl.add (fun e he hh => absurd hh (hi e he)) (fun hh => by cases hh) (fun _ => h36)⟩
  · have h2 : (e.1 == 37) = false := by simpa using (hv e he).1
    rw [h2, Bool.false_or] at hle
    exact (getD_set_ne (fun hh => (hv e he).2 hh.symm) _).trans (h.vals e he hle)
  · have h2 : (e.1 == 37) = false := by simpa using (hr e he).1
    rw [h2, Bool.false_or] at hle
    have := h.rows e he hle
    rw [← getD_set_ne (t := a.tmps) (fun hh => (hr e he).2 hh.symm) (a.tmps.getD 35 undef)] at this
    exact this
  · have := (h.map h0).more (i := 37) (by decide) hl hi
    rw [← getD_set_ne (t := a.tmps) (i := 0) (by decide) (a.tmps.getD 35 undef)] at this
    exact this
  · exact (getD_set_ne (by decide) _).trans ((h.mv h36).trans (getD_set_ne (by decide) _).symm)
  · exact (getD_set_eq hs _).trans ((h.mv h36).trans (getD_set_ne (by decide) _).symm)
end

/-! ### the operations -/
section
variable {o : Oper} {a : Act} {w : World} {K : Act → World → Prop} {Q : Exit → Act → World → Prop}
theorem tmp_ev {t : Array Value} {p : Nat} {v : Value} (h : t.getD p undef = v) : t[p]?.getD undef = v := by simpa [Array.getD_eq_getD_getElem?] using h
theorem op_load (p b : Nat) (c0 c1 c2 : Value) (ho : o.op = .load 89 (.tmp p)) (hp : a.tmps.getD p undef = .pointer (some ⟨b, 0, none⟩)) (hB : Blk w b 89 #[c0, c1, c2]) (h : K (a.put o.dst (.agg #[c0, c1, c2])) w) : Oper.wp Tryz.prog o a w K Q := by
  have h0 : w.cell? ⟨b, 0, none⟩ = some c0 := hB.cell 0
  have h1 : w.cell? ⟨b, 1, none⟩ = some c1 := hB.cell 1
  have h2 : w.cell? ⟨b, 2, none⟩ = some c2 := hB.cell 2
  have hev := tmp_ev hp
  unfold Oper.wp
  simp [execOp, ho, hev, go_sem, h0, h1, h2]
  first
    | exact h
    | (simp only [Array.getD_eq_getD_getElem?] at h; exact h)
theorem op_map (ho : o.op = .makeMap 84 none) (h : K (a.put o.dst (.map (some w.heap.size))) (w.alloc (.map #[] 0))) : Oper.wp Tryz.prog o a w K Q := by
  have hm := @run_makeMap Tryz.prog
  unfold Oper.wp
  simp [execOp, ho, go_sem, hm]
  first
    | exact h
    | (simp only [Array.getD_eq_getD_getElem?] at h; exact h)
theorem op_move (p : Nat) (ho : o.op = .move (.tmp p)) (h : K (a.put o.dst (a.tmps.getD p undef)) w) : Oper.wp Tryz.prog o a w K Q := by
  unfold Oper.wp
  simp [execOp, ho, go_sem]
  first
    | exact h
    | (simp only [Array.getD_eq_getD_getElem?] at h; exact h)
theorem op_assign (p : Nat) (ho : o.op = .assign (.tmp p)) (h : K (a.put o.dst (a.tmps.getD p undef)) w) : Oper.wp Tryz.prog o a w K Q := by
  unfold Oper.wp
  simp [execOp, ho, go_sem]
  first
    | exact h
    | (simp only [Array.getD_eq_getD_getElem?] at h; exact h)
theorem op_insert (t : Nat) (k : Int) (ho : o.op = .insert 84 (.tmp 7) (.const (.int .i64 k)) (.tmp t)) {w' : World}
    (hr : (Instr.mapUpdate 84 (a.tmps.getD 7 undef) (.int .i64 k) (a.tmps.getD t undef)).run Tryz.prog w = .ok () w') (h : ∀ v, K (a.put o.dst v) w') : Oper.wp Tryz.prog o a w K Q := by
  simp only [Array.getD_eq_getD_getElem?] at hr
  unfold Oper.wp
  simp [execOp, ho, go_sem, hr]
  exact h _
theorem op_call (F : Nat) {R : Ending → World → Prop} (hf : ∀ args w, (callFunc F args).run Tryz.prog w = .ok (.enter F args) w) (ho : o.op = .call { callee := .value (.func F), args := #[], argTypes := #[] }) (hc : Calls Tryz.prog F #[] w R)
    (h : ∀ e w', R e w' → ∃ v, e = .returned v ∧ K (a.put o.dst v) w') : Oper.wp Tryz.prog o a w K Q := by
  unfold Oper.wp
  simp [execOp, ho, go_sem, resolve, invoke, hf]
  refine hc.mono fun e w' hR => ?_
  obtain ⟨v, rfl, hk⟩ := h e w' hR
  exact hk
theorem op_build1 (p0 : Nat) (u0 v0 r0 : Value) (ho : o.op = .buildSlice 83 1 #[(0, .tmp p0)]) (h0 : a.tmps.getD p0 undef = .agg #[u0, v0, r0]) (h : K (a.put o.dst (.slice (some ⟨w.heap.size, 0, none⟩) 1 1)) (w.alloc (.cells #[u0, v0, r0] 89))) : Oper.wp Tryz.prog o a w K Q := by
  have e0 := tmp_ev h0
  unfold Oper.wp
  simp [execOp, ho, go_sem, e0]
  exact h
theorem op_build2 (p0 p1 : Nat) (u0 v0 r0 u1 v1 r1 : Value) (ho : o.op = .buildSlice 83 2 #[(0, .tmp p0), (1, .tmp p1)]) (h0 : a.tmps.getD p0 undef = .agg #[u0, v0, r0]) (h1 : a.tmps.getD p1 undef = .agg #[u1, v1, r1]) (h : K (a.put o.dst (.slice (some ⟨w.heap.size, 0, none⟩) 2 2)) (w.alloc (.cells #[u0, v0, r0, u1, v1, r1] 89))) : Oper.wp Tryz.prog o a w K Q := by
  have e0 := tmp_ev h0
  have e1 := tmp_ev h1
  unfold Oper.wp
  simp [execOp, ho, go_sem, e0, e1]
  exact h
theorem op_build4 (p0 p1 p2 p3 : Nat) (u0 v0 r0 u1 v1 r1 u2 v2 r2 u3 v3 r3 : Value) (ho : o.op = .buildSlice 83 4 #[(0, .tmp p0), (1, .tmp p1), (2, .tmp p2), (3, .tmp p3)]) (h0 : a.tmps.getD p0 undef = .agg #[u0, v0, r0]) (h1 : a.tmps.getD p1 undef = .agg #[u1, v1, r1]) (h2 : a.tmps.getD p2 undef = .agg #[u2, v2, r2]) (h3 : a.tmps.getD p3 undef = .agg #[u3, v3, r3]) (h : K (a.put o.dst (.slice (some ⟨w.heap.size, 0, none⟩) 4 4)) (w.alloc (.cells #[u0, v0, r0, u1, v1, r1, u2, v2, r2, u3, v3, r3] 89))) : Oper.wp Tryz.prog o a w K Q := by
  have e0 := tmp_ev h0
  have e1 := tmp_ev h1
  have e2 := tmp_ev h2
  have e3 := tmp_ev h3
  unfold Oper.wp
  simp [execOp, ho, go_sem, e0, e1, e2, e3]
  exact h
theorem op_build5 (p0 p1 p2 p3 p4 : Nat) (u0 v0 r0 u1 v1 r1 u2 v2 r2 u3 v3 r3 u4 v4 r4 : Value) (ho : o.op = .buildSlice 83 5 #[(0, .tmp p0), (1, .tmp p1), (2, .tmp p2), (3, .tmp p3), (4, .tmp p4)]) (h0 : a.tmps.getD p0 undef = .agg #[u0, v0, r0]) (h1 : a.tmps.getD p1 undef = .agg #[u1, v1, r1]) (h2 : a.tmps.getD p2 undef = .agg #[u2, v2, r2]) (h3 : a.tmps.getD p3 undef = .agg #[u3, v3, r3]) (h4 : a.tmps.getD p4 undef = .agg #[u4, v4, r4]) (h : K (a.put o.dst (.slice (some ⟨w.heap.size, 0, none⟩) 5 5)) (w.alloc (.cells #[u0, v0, r0, u1, v1, r1, u2, v2, r2, u3, v3, r3, u4, v4, r4] 89))) : Oper.wp Tryz.prog o a w K Q := by
  have e0 := tmp_ev h0
  have e1 := tmp_ev h1
  have e2 := tmp_ev h2
  have e3 := tmp_ev h3
  have e4 := tmp_ev h4
  unfold Oper.wp
  simp [execOp, ho, go_sem, e0, e1, e2, e3, e4]
  exact h
end
end Go.Proofs.YtbfimimhgdkpaaaGreatDoor

/- Package script: lines(), the map of the kinds' parts: its contract. No condition. -/
namespace Go.Proofs.YtbfimimhgdkpaaaGreatDoor
open Go.RowKit Go.Maps

theorem wp_anyI {id : Nat} {P : Program} {Q : Exit → Act → World → Prop} {a : Act} {w : World} {l : List Oper} (hm : P.follows .mixedOrders = true) (G : (Nat → Bool) → Act → World → Prop) (hb : backB .any l.toArray = true)
    (step : ∀ (i : Nat) (o : Oper) (L : Nat → Bool) (a : Act) (w : World), l[i]? = some o → L i = false → (∀ j, j ∈ o.after.toList.map (·.on) → (∀ e ∈ o.after.toList, e.on = j → Region.binds .any e = true) → L j = true) → G L a w →
      ∀ K : Act → World → Prop, (∀ a' w', G (fun j => j == i || L j) a' w' → K a' w') → if Region.wanted o (yielded l.toArray a.tmps) = true then Oper.wp P o a w K Q else K (a.put o.dst undef) w)
    (fin : ∀ L a w, (∀ i, i < l.length → L i = true) → G L a w → Q .normal a w) (h0 : G (fun _ => false) a w.drew) : (Code.region id l.toArray true).wp P Q a w :=
  wp_region_inv hm G hb (fun i o L a w ho hL hd hG K hK => step i o L a w ho hL (fun j hj hb => by
    obtain ⟨e, he, rfl⟩ := List.mem_map.1 hj
    exact hd e (Array.mem_toList_iff.1 he) (hb e he rfl)) hG K hK) fin h0

def fD (D : DataW Value) (k : Int) : Option Value := if Maps.has D (kLit k) = true then (match D.atKey (kLit k) .nil with | .held v => some v | _ => none) else none
theorem fD_of {D : DataW Value} {k : Int} {o : Option Value} (h : AtKey D k o) : fD D k = o := by
  unfold fD
  cases o with
  | none => rw [if_neg (by rw [h.1]; simp)]
  | some v => rw [if_pos h.1, h.2]
/-- The map of the kinds' parts. -/
structure Lines (w : World) (x y z b : Nat) (f : Int → Option Value) : Prop where
  map : KMap w b f
  box : Boxes w x y z
  row : ∀ k : Nat, 1 ≤ k → k ≤ 8 → ∃ u, f k = some u ∧ RowAt w x y z k u
  no : ∀ k : Int, kWf k → (k < 1 ∨ 8 < k) → f k = none
theorem Lines.keep {w w' : World} {x y z b : Nat} {f : Int → Option Value} (h : Lines w x y z b f) (K : Kp w w') : Lines w' x y z b f :=
  ⟨h.map.keep K, h.box.keep K, fun k h1 h8 => by obtain ⟨u, e, hr⟩ := h.row k h1 h8; exact ⟨u, e, hr.keep K⟩, h.no⟩
theorem Lines.of {w0 w : World} {x y z : Nat} {L : Nat → Bool} {v : Value} (h : MapG w0 w x y z L v) (hall : ∀ i, i < 38 → L i = true) (hb : Boxes w x y z) : ∃ b f, v = .map (some b) ∧ Lines w x y z b f := by
  obtain ⟨b, n, D, e, _, ho, _, hi, hk⟩ := h
  have hin : ∀ k : Nat, 1 ≤ k → k ≤ 8 → ∃ u, RowAt w x y z k u ∧ AtKey D (k : Nat) (some u) := by
    intro k h1 h8
    have hm : ∃ i, (i, k, 0) ∈ insT ∧ i < 38 := by
      have : k = 1 ∨ k = 2 ∨ k = 3 ∨ k = 4 ∨ k = 5 ∨ k = 6 ∨ k = 7 ∨ k = 8 := by omega
      rcases this with rfl | rfl | rfl | rfl | rfl | rfl | rfl | rfl
      · exact ⟨3, by decide, by decide⟩
      · exact ⟨7, by decide, by decide⟩
      · exact ⟨11, by decide, by decide⟩
      · exact ⟨14, by decide, by decide⟩
      · exact ⟨18, by decide, by decide⟩
      · exact ⟨24, by decide, by decide⟩
      · exact ⟨28, by decide, by decide⟩
      · exact ⟨35, by decide, by decide⟩
    obtain ⟨i, hm, hi38⟩ := hm
    have := hi _ hm
    rw [if_pos (hall i hi38)] at this
    exact this
  have hno : ∀ k : Int, kWf k → (k < 1 ∨ 8 < k) → AtKey D k none := fun k hw ho => hk k hw (fun e he => by
    have := ins_tab e he
    omega)
  refine ⟨b, fD D, e, ⟨n, D, ho, fun k hw => ?_⟩, hb, fun k h1 h8 => ?_, fun k hw ho => fD_of (hno k hw ho)⟩
  · by_cases hk8 : k < 1 ∨ 8 < k
    · rw [fD_of (hno k hw hk8)]; exact hno k hw hk8
    · obtain ⟨u, _, hA⟩ := hin k.toNat (by omega) (by omega)
      have e2 : ((k.toNat : Nat) : Int) = k := by omega
      rw [e2] at hA
      rw [fD_of hA]; exact hA
  · obtain ⟨u, hu, hA⟩ := hin k h1 h8
    exact ⟨u, fD_of hA, hu⟩

theorem ef1 (args : Array Value) (w : World) : (callFunc 91 args).run Tryz.prog w = .ok (.enter 91 args) w := by simp [go_sem, Tryz.func91]
theorem ef2 (args : Array Value) (w : World) : (callFunc 92 args).run Tryz.prog w = .ok (.enter 92 args) w := by simp [go_sem, Tryz.func92]
theorem ef3 (args : Array Value) (w : World) : (callFunc 93 args).run Tryz.prog w = .ok (.enter 93 args) w := by simp [go_sem, Tryz.func93]

def LinesP (w : World) (e : Ending) (w' : World) : Prop := ∃ x y z b f, e = .returned (.map (some b)) ∧ Lines w' x y z b f ∧ w.heap.size ≤ x ∧ w.heap.size ≤ y ∧ w.heap.size ≤ z ∧ Kp w w'
set_option maxRecDepth 100000 in
set_option maxHeartbeats 4000000 in
theorem lines_any (w : World) : Calls Tryz.prog 39 #[] w (LinesP w) := by
  go_enter Tryz.func39, Tryz.ntmps39
  go_wp2_with fail
  refine (number_int _ _).mono ?_
  rintro e w1 ⟨x, hx, rfl, hbx, K1⟩
  simp only [numV]
  go_wp2_with fail
  obtain ⟨W1, hW1, k1, B1⟩ : ∃ W, w1.alloc (.cells (partC x x x .a).toArray 89) = W ∧ Kp w1 W ∧ Blk W w1.heap.size 89 (partC x x x .a).toArray := ⟨_, rfl, (Kp.refl _).alloc _, Blk.new _ _ _⟩
  simp only [partC, numV] at hW1
  rw [hW1]
  clear hW1
  refine (number_int _ _).mono ?_
  rintro e w2 ⟨y, hy, rfl, hby, K2⟩
  simp only [numV]
  go_wp2_with fail
  obtain ⟨W2, hW2, k2, B2⟩ : ∃ W, w2.alloc (.cells (partC x y x .b).toArray 89) = W ∧ Kp w2 W ∧ Blk W w2.heap.size 89 (partC x y x .b).toArray := ⟨_, rfl, (Kp.refl _).alloc _, Blk.new _ _ _⟩
  simp only [partC, numV] at hW2
  rw [hW2]
  clear hW2
  refine (number_int64 _ _).mono ?_
  rintro e w3 ⟨z, hz, rfl, hbz, K3⟩
  simp only [numV]
  go_wp2_with fail
  obtain ⟨W3, hW3, k3, B3⟩ : ∃ W, w3.alloc (.cells (partC x y z .d).toArray 89) = W ∧ Kp w3 W ∧ Blk W w3.heap.size 89 (partC x y z .d).toArray := ⟨_, rfl, (Kp.refl _).alloc _, Blk.new _ _ _⟩
  simp only [partC, numV] at hW3
  rw [hW3]
  clear hW3
  have kw2 : Kp w W1 := K1.trans k1
  have kw3 : Kp w W2 := kw2.trans (K2.trans k2)
  have kW : Kp w W3 := kw3.trans (K3.trans k3)
  have D1 := (B1.keep ((K2.trans k2).trans (K3.trans k3))).drew
  have D2 := (B2.keep (K3.trans k3)).drew
  have D3 := B3.drew
  have hbox : Boxes W3 x y z := ⟨hbx.keep ((k1.trans (K2.trans k2)).trans (K3.trans k3)), hby.keep (k2.trans (K3.trans k3)), hbz.keep k3⟩
  have hxw : w.heap.size ≤ x := hx
  have hyw : w.heap.size ≤ y := Nat.le_trans kw2.size hy
  have hzw : w.heap.size ≤ z := Nat.le_trans kw3.size hz
  refine wp_anyI (by kernel_rfl) (LG W3.drew x y z w1.heap.size w2.heap.size w3.heap.size) (by kernel_rfl) ?_ ?_ ?_
  · intro i o L a w' ho hL hd hG K hK
    have hi : i < 38 := by have := (List.getElem?_eq_some_iff.1 ho).1; simpa using this
    have hcs : i = 0 ∨ i = 1 ∨ i = 2 ∨ i = 3 ∨ i = 4 ∨ i = 5 ∨ i = 6 ∨ i = 7 ∨ i = 8 ∨ i = 9 ∨ i = 10 ∨ i = 11 ∨ i = 12 ∨ i = 13 ∨ i = 14 ∨ i = 15 ∨ i = 16 ∨ i = 17 ∨ i = 18 ∨ i = 19 ∨ i = 20 ∨ i = 21 ∨ i = 22 ∨ i = 23 ∨ i = 24 ∨ i = 25 ∨ i = 26 ∨ i = 27 ∨ i = 28 ∨ i = 29 ∨ i = 30 ∨ i = 31 ∨ i = 32 ∨ i = 33 ∨ i = 34 ∨ i = 35 ∨ i = 36 ∨ i = 37 := by omega
    clear hi
    rcases hcs with rfl | rfl | rfl | rfl | rfl | rfl | rfl | rfl | rfl | rfl | rfl | rfl | rfl | rfl | rfl | rfl | rfl | rfl | rfl | rfl | rfl | rfl | rfl | rfl | rfl | rfl | rfl | rfl | rfl | rfl | rfl | rfl | rfl | rfl | rfl | rfl | rfl | rfl
    all_goals
      simp only [List.getElem?_cons_zero, List.getElem?_cons_succ, Option.some.injEq] at ho
      subst ho
      rw [if_pos (by rfl)]
    · -- 0
      exact op_map rfl (hK _ _ (hG.made hL))
    · -- 1
      exact op_load 3 _ _ _ _ rfl hG.s3 (D3.keep hG.kp) (hK _ _ (hG.val (p := .d) (by decide) hL (Kp.refl _)))
    · -- 2
      exact op_build1 8 _ _ _ rfl (hG.vals (1, 8, .d) (by decide) (hd 1 (by decide) (by decide))) (hK _ _ (hG.row (k := 1) (by decide) hL ((Kp.refl _).alloc _) ⟨_, rfl, Blk.new _ _ _⟩))
    · -- 3
      obtain ⟨w', hr, hG'⟩ := hG.ins (k := 1) (by decide) hL (hd 0 (by decide) (by decide)) (hG.rows (2, 9, 1) (by decide) (hd 2 (by decide) (by decide)))
      exact op_insert 9 1 rfl hr (fun _ => hK _ _ hG')
    · -- 4
      exact op_load 1 _ _ _ _ rfl hG.s1 (D1.keep hG.kp) (hK _ _ (hG.val (p := .a) (by decide) hL (Kp.refl _)))
    · -- 5
      exact op_load 3 _ _ _ _ rfl hG.s3 (D3.keep hG.kp) (hK _ _ (hG.val (p := .d) (by decide) hL (Kp.refl _)))
    · -- 6
      exact op_build2 10 11 _ _ _ _ _ _ rfl (hG.vals (4, 10, .a) (by decide) (hd 4 (by decide) (by decide))) (hG.vals (5, 11, .d) (by decide) (hd 5 (by decide) (by decide))) (hK _ _ (hG.row (k := 2) (by decide) hL ((Kp.refl _).alloc _) ⟨_, rfl, Blk.new _ _ _⟩))
    · -- 7
      obtain ⟨w', hr, hG'⟩ := hG.ins (k := 2) (by decide) hL (hd 0 (by decide) (by decide)) (hG.rows (6, 12, 2) (by decide) (hd 6 (by decide) (by decide)))
      exact op_insert 12 2 rfl hr (fun _ => hK _ _ hG')
    · -- 8
      exact op_load 1 _ _ _ _ rfl hG.s1 (D1.keep hG.kp) (hK _ _ (hG.val (p := .a) (by decide) hL (Kp.refl _)))
    · -- 9
      exact op_load 3 _ _ _ _ rfl hG.s3 (D3.keep hG.kp) (hK _ _ (hG.val (p := .d) (by decide) hL (Kp.refl _)))
    · -- 10
      exact op_build2 13 14 _ _ _ _ _ _ rfl (hG.vals (8, 13, .a) (by decide) (hd 8 (by decide) (by decide))) (hG.vals (9, 14, .d) (by decide) (hd 9 (by decide) (by decide))) (hK _ _ (hG.row (k := 3) (by decide) hL ((Kp.refl _).alloc _) ⟨_, rfl, Blk.new _ _ _⟩))
    · -- 11
      obtain ⟨w', hr, hG'⟩ := hG.ins (k := 3) (by decide) hL (hd 0 (by decide) (by decide)) (hG.rows (10, 15, 3) (by decide) (hd 10 (by decide) (by decide)))
      exact op_insert 15 3 rfl hr (fun _ => hK _ _ hG')
    · -- 12
      exact op_load 1 _ _ _ _ rfl hG.s1 (D1.keep hG.kp) (hK _ _ (hG.val (p := .a) (by decide) hL (Kp.refl _)))
    · -- 13
      exact op_build1 16 _ _ _ rfl (hG.vals (12, 16, .a) (by decide) (hd 12 (by decide) (by decide))) (hK _ _ (hG.row (k := 4) (by decide) hL ((Kp.refl _).alloc _) ⟨_, rfl, Blk.new _ _ _⟩))
    · -- 14
      obtain ⟨w', hr, hG'⟩ := hG.ins (k := 4) (by decide) hL (hd 0 (by decide) (by decide)) (hG.rows (13, 17, 4) (by decide) (hd 13 (by decide) (by decide)))
      exact op_insert 17 4 rfl hr (fun _ => hK _ _ hG')
    · -- 15
      exact op_load 1 _ _ _ _ rfl hG.s1 (D1.keep hG.kp) (hK _ _ (hG.val (p := .a) (by decide) hL (Kp.refl _)))
    · -- 16
      exact op_call 91 ef1 rfl (c_turn_any _) (fun e w' h => ⟨_, h.1, hK _ _ (hG.val (p := .c) (by decide) hL h.2)⟩)
    · -- 17
      exact op_build2 18 19 _ _ _ _ _ _ rfl (hG.vals (15, 18, .a) (by decide) (hd 15 (by decide) (by decide))) (hG.vals (16, 19, .c) (by decide) (hd 16 (by decide) (by decide))) (hK _ _ (hG.row (k := 5) (by decide) hL ((Kp.refl _).alloc _) ⟨_, rfl, Blk.new _ _ _⟩))
    · -- 18
      obtain ⟨w', hr, hG'⟩ := hG.ins (k := 5) (by decide) hL (hd 0 (by decide) (by decide)) (hG.rows (17, 20, 5) (by decide) (hd 17 (by decide) (by decide)))
      exact op_insert 20 5 rfl hr (fun _ => hK _ _ hG')
    · -- 19
      exact op_load 1 _ _ _ _ rfl hG.s1 (D1.keep hG.kp) (hK _ _ (hG.val (p := .a) (by decide) hL (Kp.refl _)))
    · -- 20
      exact op_load 2 _ _ _ _ rfl hG.s2 (D2.keep hG.kp) (hK _ _ (hG.val (p := .b) (by decide) hL (Kp.refl _)))
    · -- 21
      exact op_call 91 ef1 rfl (c_turn_any _) (fun e w' h => ⟨_, h.1, hK _ _ (hG.val (p := .c) (by decide) hL h.2)⟩)
    · -- 22
      exact op_load 3 _ _ _ _ rfl hG.s3 (D3.keep hG.kp) (hK _ _ (hG.val (p := .d) (by decide) hL (Kp.refl _)))
    · -- 23
      exact op_build4 21 22 23 24 _ _ _ _ _ _ _ _ _ _ _ _ rfl (hG.vals (19, 21, .a) (by decide) (hd 19 (by decide) (by decide))) (hG.vals (20, 22, .b) (by decide) (hd 20 (by decide) (by decide))) (hG.vals (21, 23, .c) (by decide) (hd 21 (by decide) (by decide))) (hG.vals (22, 24, .d) (by decide) (hd 22 (by decide) (by decide))) (hK _ _ (hG.row (k := 6) (by decide) hL ((Kp.refl _).alloc _) ⟨_, rfl, Blk.new _ _ _⟩))
    · -- 24
      obtain ⟨w', hr, hG'⟩ := hG.ins (k := 6) (by decide) hL (hd 0 (by decide) (by decide)) (hG.rows (23, 25, 6) (by decide) (hd 23 (by decide) (by decide)))
      exact op_insert 25 6 rfl hr (fun _ => hK _ _ hG')
    · -- 25
      exact op_load 1 _ _ _ _ rfl hG.s1 (D1.keep hG.kp) (hK _ _ (hG.val (p := .a) (by decide) hL (Kp.refl _)))
    · -- 26
      exact op_load 3 _ _ _ _ rfl hG.s3 (D3.keep hG.kp) (hK _ _ (hG.val (p := .d) (by decide) hL (Kp.refl _)))
    · -- 27
      exact op_build2 26 27 _ _ _ _ _ _ rfl (hG.vals (25, 26, .a) (by decide) (hd 25 (by decide) (by decide))) (hG.vals (26, 27, .d) (by decide) (hd 26 (by decide) (by decide))) (hK _ _ (hG.row (k := 7) (by decide) hL ((Kp.refl _).alloc _) ⟨_, rfl, Blk.new _ _ _⟩))
    · -- 28
      obtain ⟨w', hr, hG'⟩ := hG.ins (k := 7) (by decide) hL (hd 0 (by decide) (by decide)) (hG.rows (27, 28, 7) (by decide) (hd 27 (by decide) (by decide)))
      exact op_insert 28 7 rfl hr (fun _ => hK _ _ hG')
    · -- 29
      exact op_load 1 _ _ _ _ rfl hG.s1 (D1.keep hG.kp) (hK _ _ (hG.val (p := .a) (by decide) hL (Kp.refl _)))
    · -- 30
      exact op_load 2 _ _ _ _ rfl hG.s2 (D2.keep hG.kp) (hK _ _ (hG.val (p := .b) (by decide) hL (Kp.refl _)))
    · -- 31
      exact op_call 92 ef2 rfl (c_src_any _) (fun e w' h => ⟨_, h.1, hK _ _ (hG.val (p := .s) (by decide) hL h.2)⟩)
    · -- 32
      exact op_call 93 ef3 rfl (c_data_any _) (fun e w' h => ⟨_, h.1, hK _ _ (hG.val (p := .x) (by decide) hL h.2)⟩)
    · -- 33
      exact op_load 3 _ _ _ _ rfl hG.s3 (D3.keep hG.kp) (hK _ _ (hG.val (p := .d) (by decide) hL (Kp.refl _)))
    · -- 34
      exact op_build5 29 30 31 32 33 _ _ _ _ _ _ _ _ _ _ _ _ _ _ _ rfl (hG.vals (29, 29, .a) (by decide) (hd 29 (by decide) (by decide))) (hG.vals (30, 30, .b) (by decide) (hd 30 (by decide) (by decide))) (hG.vals (31, 31, .s) (by decide) (hd 31 (by decide) (by decide))) (hG.vals (32, 32, .x) (by decide) (hd 32 (by decide) (by decide))) (hG.vals (33, 33, .d) (by decide) (hd 33 (by decide) (by decide))) (hK _ _ (hG.row (k := 8) (by decide) hL ((Kp.refl _).alloc _) ⟨_, rfl, Blk.new _ _ _⟩))
    · -- 35
      obtain ⟨w', hr, hG'⟩ := hG.ins (k := 8) (by decide) hL (hd 0 (by decide) (by decide)) (hG.rows (34, 34, 8) (by decide) (hd 34 (by decide) (by decide)))
      exact op_insert 34 8 rfl hr (fun _ => hK _ _ hG')
    · -- 36
      exact op_move 7 rfl (hK _ _ (hG.move (hd 0 (by decide) (by decide)) hL))
    · -- 37
      exact op_assign 35 rfl (hK _ _ (hG.assign (hd 36 (by decide) (by decide)) hL))
  · intro L a w' hall hG
    obtain ⟨b, f, e7, hl⟩ := Lines.of (hG.map (hall 0 (by decide))) hall (hbox.keep ((Kp.refl _).drew.trans hG.kp))
    have e0 : a.tmps.getD 0 undef = .map (some b) := (hG.asg (hall 37 (by decide))).trans e7
    (try simp only [Exit.then])
    rename_i hk
    refine hk a w' ?_
    refine wp_ret ?_
    refine bodyPost_ret (v := .map (some b)) ?_ hG.df ⟨x, y, z, b, f, rfl, hl, hxw, hyw, hzw, kW.trans ((Kp.refl _).drew.trans hG.kp)⟩
    have e0' := tmp_ev e0
    simp [results, Tryz.results39, go_sem, e0']
  · refine ⟨Kp.refl _, rfl, rfl, rfl, rfl, rfl, fun e _ h => (by cases h), fun e _ h => (by cases h), fun h => (by cases h), fun h => (by cases h), fun h => (by cases h), ⟨fun e _ h => (by cases h), fun h => (by cases h), fun h => (by cases h)⟩⟩
end Go.Proofs.YtbfimimhgdkpaaaGreatDoor

/- Package script: equality of events, by the program and by the reference. No condition. -/
namespace Go.Proofs.YtbfimimhgdkpaaaGreatDoor
open Go.RowKit

set_option maxRecDepth 100000 in
theorem conv_any {w : World} {A : Option Addr} {l : List UInt8} (h : Rd w 1 byteE A l) (c : Nat) : (convert 25 9 (.slice A l.length c)).run Tryz.prog w = .ok (.string (strB l)) w := by
  cases A with
  | none =>
    have : l = [] := by
      cases l with
      | nil => rfl
      | cons b l => obtain ⟨g, o, e, _⟩ := h 0 (by simp); cases e
    subst this
    exact run_convert_bytes_nil w 25 5 Tryz.underlying25 Tryz.underlying5 _ _ 9 Tryz.underlying9
  | some p =>
    by_cases h0 : l = []
    · subst h0
      exact run_convert_bytes_back (P := Tryz.prog) w 25 9 5 p c [] Tryz.underlying25 Tryz.underlying5 Tryz.underlying9 (fun j hj => absurd hj (by simp))
    · obtain ⟨b, o, e, _⟩ := byte_at h (List.length_pos_iff.2 h0)
      injection e with e
      subst e
      refine run_convert_bytes_back (P := Tryz.prog) w 25 9 5 ⟨b, o, none⟩ c l Tryz.underlying25 Tryz.underlying5 Tryz.underlying9 (fun j hj => ?_)
      obtain ⟨b', o', e, hc⟩ := byte_at h hj
      injection e with e
      injection e with e1 e2
      subst e1; subst e2
      have hadd : (⟨b, o, none⟩ : Addr).add j = ⟨b, o + j, none⟩ := by unfold Addr.add; split <;> simp_all
      rw [hadd]; exact hc
theorem byte_back (l : List UInt8) : (l.map fun b => (b.toNat : Int)).map (fun n => UInt8.ofNat n.toNat) = l := by
  rw [List.map_map]
  have : ((fun n : Int => UInt8.ofNat n.toNat) ∘ fun b : UInt8 => (b.toNat : Int)) = id := by funext b; simp
  rw [this, List.map_id]
theorem nums_of (l : List UInt8) : strOfNums (l.map fun b => (b.toNat : Int)) = strB l := by
  apply ByteArray.ext
  have h := Lib.strOfNums_toList (l.map fun b => (b.toNat : Int))
  rw [Lib.toList_data] at h
  apply Array.toList_inj.1
  rw [h]
  simp only [Lib.bytesOf, strB]
  exact byte_back l
theorem bytesOf_of (l : List UInt8) : Lib.bytesOf (l.map fun b => (b.toNat : Int)) = l := byte_back l
theorem bequal_any {w : World} {A B : Option Addr} {l m : List UInt8} (c d : Nat) (hA : Rd w 1 byteE A l) (hB : Rd w 1 byteE B m) :
    Calls Tryz.prog 52 #[.slice A l.length c, .slice B m.length d] w fun e w' => e = .returned (.bool (l == m)) ∧ w = w' := by
  refine (Tryz.bytes_Equal _ _ (l.map fun b => (b.toNat : Int)) (m.map fun b => (b.toNat : Int)) w (by rw [nums_of]; exact conv_any hA c) (by rw [nums_of]; exact conv_any hB d)).mono ?_
  rintro e w' ⟨rfl, rfl⟩
  rw [bytesOf_of, bytesOf_of]
  exact ⟨rfl, rfl⟩
theorem ev_ne {e d : Ev} (h : e.kind ≠ d.kind ∨ e.a ≠ d.a ∨ e.b ≠ d.b ∨ e.c ≠ d.c ∨ e.draw ≠ d.draw ∨ e.src ≠ d.src ∨ e.bytes ≠ d.bytes) : decide (e = d) = false := by
  rw [decide_eq_false_iff_not]
  rintro rfl
  simp at h

set_option maxRecDepth 100000 in
set_option maxHeartbeats 2000000 in
theorem same_any (e d : Ev) (A B : Option Addr) (c c' : Nat) (w : World) (hA : Rd w 1 byteE A e.bytes) (hB : Rd w 1 byteE B d.bytes) :
    Calls Tryz.prog 17 #[evV e (.slice A e.bytes.length c), evV d (.slice B d.bytes.length c')] w fun en w' => en = .returned (.bool (decide (e = d))) ∧ Kp w w' := by
  have kw : ∀ o o', Kp w ((w.alloc o).alloc o') := fun o o' => ((Kp.refl w).alloc o).alloc o'
  by_cases h0 : e.kind = d.kind
  rotate_left
  · have t0 : (e.kind == d.kind) = false := by rw [beq_eq_false_iff_ne]; omega
    have H := Lib.hid (ev_ne (.inl (fun h => h0 h))); clear h0
    go_enter Tryz.func17, Tryz.ntmps17
    go_wp2_with fail
    go_ret
    exact ⟨by rw [H.out]; rfl, kw _ _⟩
  have t0 : (e.kind == d.kind) = true := by rw [beq_iff_eq]; omega
  have H0 := Lib.hid h0; clear h0
  by_cases h1 : e.a = d.a
  rotate_left
  · have t1 : (e.a == d.a) = false := by rw [beq_eq_false_iff_ne]; omega
    have H := Lib.hid (ev_ne (.inr (.inl (fun h => h1 h)))); clear h1
    go_enter Tryz.func17, Tryz.ntmps17
    go_wp2_with fail
    go_ret
    exact ⟨by rw [H.out]; rfl, kw _ _⟩
  have t1 : (e.a == d.a) = true := by rw [beq_iff_eq]; omega
  have H1 := Lib.hid h1; clear h1
  by_cases h2 : e.b = d.b
  rotate_left
  · have t2 : (e.b == d.b) = false := by rw [beq_eq_false_iff_ne]; omega
    have H := Lib.hid (ev_ne (.inr (.inr (.inl (fun h => h2 h))))); clear h2
    go_enter Tryz.func17, Tryz.ntmps17
    go_wp2_with fail
    go_ret
    exact ⟨by rw [H.out]; rfl, kw _ _⟩
  have t2 : (e.b == d.b) = true := by rw [beq_iff_eq]; omega
  have H2 := Lib.hid h2; clear h2
  by_cases h3 : e.c = d.c
  rotate_left
  · have t3 : (e.c == d.c) = false := by rw [beq_eq_false_iff_ne]; omega
    have H := Lib.hid (ev_ne (.inr (.inr (.inr (.inl (fun h => h3 h)))))); clear h3
    go_enter Tryz.func17, Tryz.ntmps17
    go_wp2_with fail
    go_ret
    exact ⟨by rw [H.out]; rfl, kw _ _⟩
  have t3 : (e.c == d.c) = true := by rw [beq_iff_eq]; omega
  have H3 := Lib.hid h3; clear h3
  by_cases h4 : e.draw = d.draw
  rotate_left
  · have t4 : (e.draw == d.draw) = false := by rw [beq_eq_false_iff_ne]; omega
    have H := Lib.hid (ev_ne (.inr (.inr (.inr (.inr (.inl (fun h => h4 h))))))); clear h4
    go_enter Tryz.func17, Tryz.ntmps17
    go_wp2_with fail
    go_ret
    exact ⟨by rw [H.out]; rfl, kw _ _⟩
  have t4 : (e.draw == d.draw) = true := by rw [beq_iff_eq]; omega
  have H4 := Lib.hid h4; clear h4
  by_cases h5 : e.src = d.src
  rotate_left
  · have t5 : ((e.src : Int) == (d.src : Int)) = false := by rw [beq_eq_false_iff_ne]; omega
    have H := Lib.hid (ev_ne (.inr (.inr (.inr (.inr (.inr (.inl (fun h => h5 h)))))))); clear h5
    go_enter Tryz.func17, Tryz.ntmps17
    go_wp2_with fail
    go_ret
    exact ⟨by rw [H.out]; rfl, kw _ _⟩
  have t5 : ((e.src : Int) == (d.src : Int)) = true := by rw [beq_iff_eq]; omega
  have H5 := Lib.hid h5; clear h5
  have H := Lib.hid (show (e.bytes == d.bytes) = decide (e = d) by
    rw [Bool.eq_iff_iff, beq_iff_eq, decide_eq_true_iff]
    constructor
    · intro hb
      obtain ⟨k, a, b, cc, dd, s, l⟩ := e
      obtain ⟨k', a', b', cc', dd', s', l'⟩ := d
      have g0 := H0.out; have g1 := H1.out; have g2 := H2.out; have g3 := H3.out; have g4 := H4.out; have g5 := H5.out
      simp only at g0 g1 g2 g3 g4 g5 hb
      rw [g0, g1, g2, g3, g4, g5, hb]
    · rintro rfl; rfl)
  go_enter Tryz.func17, Tryz.ntmps17
  go_wp2_with fail
  refine (bequal_any c c' (hA.keep (kw _ _)) (hB.keep (kw _ _))).mono ?_
  rintro en w' ⟨rfl, rfl⟩
  go_wp2_with fail
  go_ret
  exact ⟨by rw [← H.out]; rfl, kw _ _⟩

set_option maxRecDepth 100000 in
set_option maxHeartbeats 2000000 in
theorem rsame_any (e d : Ev) (A B : Option Addr) (c c' : Nat) (w : World) (hA : Rd w 1 byteE A e.bytes) (hB : Rd w 1 byteE B d.bytes) :
    Calls Tryz.prog 16 #[evV e (.slice A e.bytes.length c), evV d (.slice B d.bytes.length c')] w fun en w' => en = .returned (.bool (decide (e = d))) ∧ Kp w w' := by
  have kw : ∀ o o', Kp w ((w.alloc o).alloc o') := fun o o' => ((Kp.refl w).alloc o).alloc o'
  by_cases h0 : e.kind = d.kind
  rotate_left
  · have t0 : (e.kind == d.kind) = false := by rw [beq_eq_false_iff_ne]; omega
    have H := Lib.hid (ev_ne (.inl (fun h => h0 h))); clear h0
    go_enter Tryz.func16, Tryz.ntmps16
    go_wp2_with fail
    go_ret
    exact ⟨by rw [H.out]; rfl, kw _ _⟩
  have t0 : (e.kind == d.kind) = true := by rw [beq_iff_eq]; omega
  have H0 := Lib.hid h0; clear h0
  by_cases h1 : e.a = d.a
  rotate_left
  · have t1 : (e.a == d.a) = false := by rw [beq_eq_false_iff_ne]; omega
    have H := Lib.hid (ev_ne (.inr (.inl (fun h => h1 h)))); clear h1
    go_enter Tryz.func16, Tryz.ntmps16
    go_wp2_with fail
    go_ret
    exact ⟨by rw [H.out]; rfl, kw _ _⟩
  have t1 : (e.a == d.a) = true := by rw [beq_iff_eq]; omega
  have H1 := Lib.hid h1; clear h1
  by_cases h2 : e.b = d.b
  rotate_left
  · have t2 : (e.b == d.b) = false := by rw [beq_eq_false_iff_ne]; omega
    have H := Lib.hid (ev_ne (.inr (.inr (.inl (fun h => h2 h))))); clear h2
    go_enter Tryz.func16, Tryz.ntmps16
    go_wp2_with fail
    go_ret
    exact ⟨by rw [H.out]; rfl, kw _ _⟩
  have t2 : (e.b == d.b) = true := by rw [beq_iff_eq]; omega
  have H2 := Lib.hid h2; clear h2
  by_cases h3 : e.c = d.c
  rotate_left
  · have t3 : (e.c == d.c) = false := by rw [beq_eq_false_iff_ne]; omega
    have H := Lib.hid (ev_ne (.inr (.inr (.inr (.inl (fun h => h3 h)))))); clear h3
    go_enter Tryz.func16, Tryz.ntmps16
    go_wp2_with fail
    go_ret
    exact ⟨by rw [H.out]; rfl, kw _ _⟩
  have t3 : (e.c == d.c) = true := by rw [beq_iff_eq]; omega
  have H3 := Lib.hid h3; clear h3
  by_cases h4 : e.draw = d.draw
  rotate_left
  · have t4 : (e.draw == d.draw) = false := by rw [beq_eq_false_iff_ne]; omega
    have H := Lib.hid (ev_ne (.inr (.inr (.inr (.inr (.inl (fun h => h4 h))))))); clear h4
    go_enter Tryz.func16, Tryz.ntmps16
    go_wp2_with fail
    go_ret
    exact ⟨by rw [H.out]; rfl, kw _ _⟩
  have t4 : (e.draw == d.draw) = true := by rw [beq_iff_eq]; omega
  have H4 := Lib.hid h4; clear h4
  by_cases h5 : e.src = d.src
  rotate_left
  · have t5 : ((e.src : Int) == (d.src : Int)) = false := by rw [beq_eq_false_iff_ne]; omega
    have H := Lib.hid (ev_ne (.inr (.inr (.inr (.inr (.inr (.inl (fun h => h5 h)))))))); clear h5
    go_enter Tryz.func16, Tryz.ntmps16
    go_wp2_with fail
    go_ret
    exact ⟨by rw [H.out]; rfl, kw _ _⟩
  have t5 : ((e.src : Int) == (d.src : Int)) = true := by rw [beq_iff_eq]; omega
  have H5 := Lib.hid h5; clear h5
  have H := Lib.hid (show (e.bytes == d.bytes) = decide (e = d) by
    rw [Bool.eq_iff_iff, beq_iff_eq, decide_eq_true_iff]
    constructor
    · intro hb
      obtain ⟨k, a, b, cc, dd, s, l⟩ := e
      obtain ⟨k', a', b', cc', dd', s', l'⟩ := d
      have g0 := H0.out; have g1 := H1.out; have g2 := H2.out; have g3 := H3.out; have g4 := H4.out; have g5 := H5.out
      simp only at g0 g1 g2 g3 g4 g5 hb
      rw [g0, g1, g2, g3, g4, g5, hb]
    · rintro rfl; rfl)
  have q1 : ∀ o o', (convert 25 9 (.slice A e.bytes.length c)).run Tryz.prog ((w.alloc o).alloc o') = .ok (.string (strB e.bytes)) ((w.alloc o).alloc o') := fun o o' => conv_any (hA.keep (kw o o')) c
  have q2 : ∀ o o', (convert 25 9 (.slice B d.bytes.length c')).run Tryz.prog ((w.alloc o).alloc o') = .ok (.string (strB d.bytes)) ((w.alloc o).alloc o') := fun o o' => conv_any (hB.keep (kw o o')) c'
  go_enter Tryz.func16, Tryz.ntmps16
  go_wp2_with fail
  go_ret
  exact ⟨by rw [← H.out]; rfl, kw _ _⟩
end Go.Proofs.YtbfimimhgdkpaaaGreatDoor

/- Package script: plain. No condition but the stated bounds. -/
namespace Go.Proofs.YtbfimimhgdkpaaaGreatDoor
open Go.RowKit Go.Maps

theorem row_rd {w : World} {x y z k g : Nat} (hB : Blk w g 89 (rowC x y z k).toArray) (hk : k ≤ 8) : Rd w 3 (partC x y z) (some ⟨g, 0, none⟩) (partsOf k) := by
  refine Rd.of_blk hB (by decide) (partC_len x y z) ?_ (by simp [rowC])
  have : (partsOf k).length ≤ 5 := by
    have : k = 0 ∨ k = 1 ∨ k = 2 ∨ k = 3 ∨ k = 4 ∨ k = 5 ∨ k = 6 ∨ k = 7 ∨ k = 8 := by omega
    rcases this with rfl | rfl | rfl | rfl | rfl | rfl | rfl | rfl | rfl <;> decide
  simp only [maxLen]; omega
theorem parts_len {k : Nat} (hk : k ≤ 8) : (partsOf k).length ≤ 5 := by
  have : k = 0 ∨ k = 1 ∨ k = 2 ∨ k = 3 ∨ k = 4 ∨ k = 5 ∨ k = 6 ∨ k = 7 ∨ k = 8 := by omega
  rcases this with rfl | rfl | rfl | rfl | rfl | rfl | rfl | rfl | rfl <;> decide
/-- What a round of a loop over parts reads. -/
theorem part_at {w : World} {x y z g : Nat} {ps : List Pt} (h : Rd w 3 (partC x y z) (some ⟨g, 0, none⟩) ps) {j : Nat} (hj : j < ps.length) {p : Pt} (hp : ps[j] = p) :
    ∀ (i : Nat) (u : Value), (partC x y z p)[i]? = some u → w.cell? ⟨g, j * 3 + i, none⟩ = some u := by
  obtain ⟨b, off, e, hc⟩ := h j hj
  injection e with e
  injection e with e1 e2
  subst e1; subst e2
  intro i u hu
  rw [hp] at hc
  have := hc i u hu
  rwa [Nat.zero_add] at this
/-- The event to which so many parts have been put. -/
def putAll (e : Ev) (k j : Nat) : Ev := ((partsOf k).take j).foldl (fun t p => putE p t e) (ev0 k)
theorem putAll_next {e : Ev} {k j : Nat} (hj : j < (partsOf k).length) {p : Pt} (hp : (partsOf k)[j] = p) : putAll e k (j + 1) = putE p (putAll e k j) e := by
  unfold putAll
  rw [List.take_add_one, List.getElem?_eq_getElem hj, hp, List.foldl_append]
  rfl
/-- An event as it stands in memory. -/
def EvAt (w : World) (g : Nat) (T : TypeId) (cs : List Value) (t : Ev) : Prop := ∃ A c, Blk w g T ((evC t (.slice A t.bytes.length c)).toList ++ cs).toArray ∧ Rd w 1 byteE A t.bytes
theorem Rd.only {α : Type} {w w' : World} {sz : Nat} {enc : α → List Value} {A : Option Addr} {xs : List α} {g : Nat} (h : Rd w sz enc A xs) (hO : Only [g] w w') (hn : ∀ b o, A = some ⟨b, o, none⟩ → b ≠ g) : Rd w' sz enc A xs := fun i hi => by
  obtain ⟨b, off, e, hc⟩ := h i hi
  exact ⟨b, off, e, fun j u hu => hO.cell (hc j u hu) (by simpa using hn b off e)⟩

/-- What stands as parts are put. -/
structure PutR (w wa : World) (e : Ev) (k j : Nat) (wr : World) : Prop where
  kp : Kp wa wr
  blk : ∃ A' c', Blk wr wa.heap.size 27 (evC (putAll e k j) (.slice A' (putAll e k j).bytes.length c')) ∧ Rd w 1 byteE A' (putAll e k j).bytes
theorem PutR.next {w wa wr w' : World} {e : Ev} {k j : Nat} (h : Kp wa wr) (hO : Only [wa.heap.size] wr w') {A' : Option Addr} {c' : Nat} {t : Ev} (ht : putAll e k (j + 1) = t) (hB : Blk w' wa.heap.size 27 (evC t (.slice A' t.bytes.length c'))) (hR : Rd w 1 byteE A' t.bytes) : PutR w wa e k (j + 1) w' :=
  ⟨hO.kp h (by simp), A', c', by rw [ht]; exact hB, by rw [ht]; exact hR⟩

set_option maxRecDepth 100000 in
set_option maxHeartbeats 4000000 in
theorem plain_in (e : Ev) (A : Option Addr) (c k : Nat) (hk : e.kind = (k : Int)) (h1 : 1 ≤ k) (h8 : k ≤ 8) (w : World) (hA : Rd w 1 byteE A e.bytes) (hl : e.bytes.length ≤ 1000000) :
    Calls Tryz.prog 37 #[evV e (.slice A e.bytes.length c)] w fun en w' => en = .returned (.bool (plainP e)) ∧ Kp w w' := by
  have hkk : kWf e.kind := by rw [hk]; exact kWf_of (by omega) (by omega)
  have KB : Kp w (w.alloc (.cells (evC e (.slice A e.bytes.length c)) 27)) := (Kp.refl w).alloc _
  have BE := Blk.new w 27 (evC e (.slice A e.bytes.length c))
  have HK := Lib.hid hk
  clear hk
  go_enter Tryz.func37, Tryz.ntmps37
  go_wp2_with fail
  obtain ⟨W, hW, KW, BW⟩ : ∃ W, w.alloc (.cells (evC e (.slice A e.bytes.length c)) 27) = W ∧ Kp w W ∧ Blk W w.heap.size 27 (evC e (.slice A e.bytes.length c)) := ⟨_, rfl, KB, BE⟩
  simp only [evC] at hW
  rw [hW]
  clear hW KB BE
  have q0 : W.cell? ⟨w.heap.size, 0, none⟩ = some (.int .i64 e.kind) := BW.cell 0
  go_region_held3 (fun w' => w'.cell? ⟨w.heap.size, 0, none⟩ = some (.int .i64 e.kind)) (first | exact Kd.cell q0 | go_keep) (first | (go_at_call 39; refine (lines_any _).mono ?_; rintro en wa ⟨x, y, z, b, f, rfl, HL, hx, hy, hz, Ka⟩; have Kd : Kp W wa := (Kp.refl W).drew.trans Ka; obtain ⟨u, hu, g, rfl, hB⟩ := HL.row k h1 h8; have hlk : (Instr.lookup 84 (.map (some b)) (.int .i64 e.kind) true).run Tryz.prog wa = .ok (.tuple #[.slice (some ⟨g, 0, none⟩) (partsOf k).length (partsOf k).length, .bool true]) wa := (by have := HL.map.look hkk; rw [HK.out, hu] at this; rw [HK.out]; exact this)))
  have hwa : W.heap.size ≤ wa.heap.size := Kd.size
  have hxl := HL.box.x.lt
  have hyl := HL.box.y.lt
  have hzl := HL.box.z.lt
  have hn5 := parts_len h8
  have R0 : PutR w wa e k 0 (wa.alloc (.cells #[.int .i64 e.kind, .int .i64 0, .int .i64 0, .int .i64 0, .int .i64 0, .int .u32 0, .slice none 0 0] 27)) := by
    refine ⟨(Kp.refl _).alloc _, none, 0, ?_, Rd.nil _ _ _ _⟩
    have h := Blk.new wa 27 (evC (ev0 (k : Int)) (.slice none 0 0))
    rw [← HK.out] at h
    have e0 : putAll e k 0 = ev0 (k : Int) := rfl
    rw [e0, ← HK.out]
    exact h
  have HR0 := Lib.hid R0; clear R0
  have HRow := Lib.hid (row_rd hB h8)
  have HLb := Lib.hid HL.box
  have BWa := BW.keep Kd
  clear hlk hu HL q0
  go_wp2_with fail
  go_loopw [22] (fun i wr => ∃ j : Nat, j ≤ (partsOf k).length ∧ i = .int .i64 j ∧ Hid (PutR w wa e k j wr)) (fun i _ => (partsOf k).length - (intOf i).toNat)
  case atStart => exact ⟨0, by omega, rfl, HR0⟩
  case round =>
    obtain ⟨j, hj, rfl, R⟩ := hrel
    have BR := BWa.keep R.out.kp
    have hsz := R.out.kp.size
    have r0 : wr.cell? ⟨w.heap.size, 0, none⟩ = some (.int .i64 e.kind) := BR.cell 0
    have r1 : wr.cell? ⟨w.heap.size, 1, none⟩ = some (.int .i64 e.a) := BR.cell 1
    have r2 : wr.cell? ⟨w.heap.size, 2, none⟩ = some (.int .i64 e.b) := BR.cell 2
    have r3 : wr.cell? ⟨w.heap.size, 3, none⟩ = some (.int .i64 e.c) := BR.cell 3
    have r4 : wr.cell? ⟨w.heap.size, 4, none⟩ = some (.int .i64 e.draw) := BR.cell 4
    have r5 : wr.cell? ⟨w.heap.size, 5, none⟩ = some (.int .u32 (e.src : Int)) := BR.cell 5
    have r6 : wr.cell? ⟨w.heap.size, 6, none⟩ = some (.slice A e.bytes.length c) := BR.cell 6
    have hlt0 : w.heap.size < wr.heap.size := BR.lt
    have hne0 : ¬ w.heap.size = wr.heap.size := by omega
    obtain ⟨A', c', hB', hR'⟩ := R.out.blk
    by_cases hlt : j < (partsOf k).length
    · obtain ⟨p, hp⟩ : ∃ p, (partsOf k)[j] = p := ⟨_, rfl⟩
      have Hnx := Lib.hid (putAll_next (e := e) hlt hp)
      have hcell := part_at (HRow.out.keep R.out.kp) hlt hp
      have HB' := Lib.hid hB'; clear hB'
      have hBx := HLb.out.keep R.out.kp
      clear hp
      cases p with
      | a =>
        have d0 : wr.cell? ⟨g, j * 3, none⟩ = some (.func (.func 124) #[] #[.pointer (some ⟨x, 0, none⟩)]) := hcell 0 _ rfl
        have d1 : wr.cell? ⟨g, j * 3 + 1, none⟩ = some (.func (.func 125) #[] #[.pointer (some ⟨x, 0, none⟩)]) := hcell 1 _ rfl
        have d2 : wr.cell? ⟨g, j * 3 + 2, none⟩ = some (.func (.func 127) #[] #[.pointer (some ⟨x, 0, none⟩)]) := hcell 2 _ rfl
        clear hcell
        go_wp2_with fail
        refine (put_a wa.heap.size x 27 _ (by simp [evC]) e _ _ (HB'.out.alloc _) (by omega) ((hBx.keep ((Kp.refl wr).alloc _)).x.cell 0)).mono ?_
        rintro en w2 ⟨rfl, hB2, hO2⟩
        have Hn := Lib.hid (PutR.next (w := w) (e := e) (k := k) (j := j) (R.out.kp.alloc _) hO2 Hnx.out hB2 hR')
        clear hB2 hO2
        go_wp2_with fail
        go_roundw
        case rel => exact ⟨j + 1, by omega, by go_num, Hn⟩
        case measure => simp [intOf]; omega
      | b =>
        have d0 : wr.cell? ⟨g, j * 3, none⟩ = some (.func (.func 124) #[] #[.pointer (some ⟨y, 0, none⟩)]) := hcell 0 _ rfl
        have d1 : wr.cell? ⟨g, j * 3 + 1, none⟩ = some (.func (.func 125) #[] #[.pointer (some ⟨y, 0, none⟩)]) := hcell 1 _ rfl
        have d2 : wr.cell? ⟨g, j * 3 + 2, none⟩ = some (.func (.func 127) #[] #[.pointer (some ⟨y, 0, none⟩)]) := hcell 2 _ rfl
        clear hcell
        go_wp2_with fail
        refine (put_b wa.heap.size y 27 _ (by simp [evC]) e _ _ (HB'.out.alloc _) (by omega) ((hBx.keep ((Kp.refl wr).alloc _)).y.cell 0)).mono ?_
        rintro en w2 ⟨rfl, hB2, hO2⟩
        have Hn := Lib.hid (PutR.next (w := w) (e := e) (k := k) (j := j) (R.out.kp.alloc _) hO2 Hnx.out hB2 hR')
        clear hB2 hO2
        go_wp2_with fail
        go_roundw
        case rel => exact ⟨j + 1, by omega, by go_num, Hn⟩
        case measure => simp [intOf]; omega
      | c =>
        have d0 : wr.cell? ⟨g, j * 3, none⟩ = some (.func (.func 133) #[] #[]) := hcell 0 _ rfl
        have d1 : wr.cell? ⟨g, j * 3 + 1, none⟩ = some (.func (.func 134) #[] #[]) := hcell 1 _ rfl
        have d2 : wr.cell? ⟨g, j * 3 + 2, none⟩ = some (.func (.func 135) #[] #[]) := hcell 2 _ rfl
        clear hcell
        go_wp2_with fail
        refine (put_turn wa.heap.size 27 _ (by simp [evC]) e _ _ (HB'.out.alloc _)).mono ?_
        rintro en w2 ⟨rfl, hB2, hO2⟩
        have Hn := Lib.hid (PutR.next (w := w) (e := e) (k := k) (j := j) (R.out.kp.alloc _) hO2 Hnx.out hB2 hR')
        clear hB2 hO2
        go_wp2_with fail
        go_roundw
        case rel => exact ⟨j + 1, by omega, by go_num, Hn⟩
        case measure => simp [intOf]; omega
      | d =>
        have d0 : wr.cell? ⟨g, j * 3, none⟩ = some (.func (.func 130) #[] #[.pointer (some ⟨z, 0, none⟩)]) := hcell 0 _ rfl
        have d1 : wr.cell? ⟨g, j * 3 + 1, none⟩ = some (.func (.func 131) #[] #[.pointer (some ⟨z, 0, none⟩)]) := hcell 1 _ rfl
        have d2 : wr.cell? ⟨g, j * 3 + 2, none⟩ = some (.func (.func 132) #[] #[.pointer (some ⟨z, 0, none⟩)]) := hcell 2 _ rfl
        clear hcell
        go_wp2_with fail
        refine (put_d wa.heap.size z 27 _ (by simp [evC]) e _ _ (HB'.out.alloc _) (by omega) ((hBx.keep ((Kp.refl wr).alloc _)).z.cell 0)).mono ?_
        rintro en w2 ⟨rfl, hB2, hO2⟩
        have Hn := Lib.hid (PutR.next (w := w) (e := e) (k := k) (j := j) (R.out.kp.alloc _) hO2 Hnx.out hB2 hR')
        clear hB2 hO2
        go_wp2_with fail
        go_roundw
        case rel => exact ⟨j + 1, by omega, by go_num, Hn⟩
        case measure => simp [intOf]; omega
      | s =>
        have d0 : wr.cell? ⟨g, j * 3, none⟩ = some (.func (.func 136) #[] #[]) := hcell 0 _ rfl
        have d1 : wr.cell? ⟨g, j * 3 + 1, none⟩ = some (.func (.func 137) #[] #[]) := hcell 1 _ rfl
        have d2 : wr.cell? ⟨g, j * 3 + 2, none⟩ = some (.func (.func 138) #[] #[]) := hcell 2 _ rfl
        clear hcell
        go_wp2_with fail
        refine (put_src wa.heap.size 27 _ (by simp [evC]) e _ _ (HB'.out.alloc _)).mono ?_
        rintro en w2 ⟨rfl, hB2, hO2⟩
        have Hn := Lib.hid (PutR.next (w := w) (e := e) (k := k) (j := j) (R.out.kp.alloc _) hO2 Hnx.out hB2 hR')
        clear hB2 hO2
        go_wp2_with fail
        go_roundw
        case rel => exact ⟨j + 1, by omega, by go_num, Hn⟩
        case measure => simp [intOf]; omega
      | x =>
        have d0 : wr.cell? ⟨g, j * 3, none⟩ = some (.func (.func 139) #[] #[]) := hcell 0 _ rfl
        have d1 : wr.cell? ⟨g, j * 3 + 1, none⟩ = some (.func (.func 140) #[] #[]) := hcell 1 _ rfl
        have d2 : wr.cell? ⟨g, j * 3 + 2, none⟩ = some (.func (.func 141) #[] #[]) := hcell 2 _ rfl
        clear hcell
        go_wp2_with fail
        refine (put_data wa.heap.size 27 _ (by simp [evC]) e A e.bytes.length c _ (HB'.out.alloc _)).mono ?_
        rintro en w2 ⟨rfl, hB2, hO2⟩
        have Hn := Lib.hid (PutR.next (w := w) (e := e) (k := k) (j := j) (R.out.kp.alloc _) hO2 Hnx.out hB2 hA)
        clear hB2 hO2
        go_wp2_with fail
        go_roundw
        case rel => exact ⟨j + 1, by omega, by go_num, Hn⟩
        case measure => simp [intOf]; omega
    · obtain rfl : j = (partsOf k).length := by omega
      have Ht := Lib.hid (show putAll e k (partsOf k).length = (partsOf e.kind.toNat).foldl (fun t p => putE p t e) (ev0 e.kind) by
        unfold putAll
        rw [List.take_length]
        have : e.kind.toNat = k := by have := HK.out; omega
        rw [this, HK.out])
      obtain ⟨t, ht⟩ : ∃ t, putAll e k (partsOf k).length = t := ⟨_, rfl⟩
      rw [ht] at Ht hB' hR'
      have s0 : wr.cell? ⟨wa.heap.size, 0, none⟩ = some (.int .i64 t.kind) := hB'.cell 0
      have s1 : wr.cell? ⟨wa.heap.size, 1, none⟩ = some (.int .i64 t.a) := hB'.cell 1
      have s2 : wr.cell? ⟨wa.heap.size, 2, none⟩ = some (.int .i64 t.b) := hB'.cell 2
      have s3 : wr.cell? ⟨wa.heap.size, 3, none⟩ = some (.int .i64 t.c) := hB'.cell 3
      have s4 : wr.cell? ⟨wa.heap.size, 4, none⟩ = some (.int .i64 t.draw) := hB'.cell 4
      have s5 : wr.cell? ⟨wa.heap.size, 5, none⟩ = some (.int .u32 (t.src : Int)) := hB'.cell 5
      have s6 : wr.cell? ⟨wa.heap.size, 6, none⟩ = some (.slice A' t.bytes.length c') := hB'.cell 6
      have Kw : Kp w wr := KW.trans (Kd.trans R.out.kp)
      clear ht hB'
      go_wp2_with fail
      refine (same_any t e A' A c' c wr (hR'.keep Kw) (hA.keep Kw)).mono ?_
      rintro en w2 ⟨rfl, hK2⟩
      have hk0 : decide (1 ≤ e.kind ∧ e.kind ≤ 8) = true := by rw [decide_eq_true_iff]; have := HK.out; omega
      have Hk0 := Lib.hid hk0; clear hk0
      have g3 := hK2.cell r3
      have g6 := hK2.cell r6
      by_cases te : t = e
      · have Hd := Lib.hid (show decide ((partsOf e.kind.toNat).foldl (fun t p => putE p t e) (ev0 e.kind) = e) = true by rw [← Ht.out, te]; exact decide_eq_true rfl)
        rw [decide_eq_true te]
        clear te
        by_cases hc0 : e.c = 0
        · have tc : (e.c == 0) = true := by rw [beq_iff_eq]; exact hc0
          have Hc := Lib.hid (show decide (e.c = 0 ∨ e.c = 1) = true from decide_eq_true (.inl hc0)); clear hc0
          have Hf := Lib.hid (show plainP e = decide (e.bytes.length ≤ 600) by simp only [plainP]; rw [Hk0.out, Hd.out, Hc.out]; simp)
          go_wp2_with fail
          go_ret
          exact ⟨by rw [Hf.out]; simp; omega, Kw.trans hK2⟩
        · have tc : (e.c == 0) = false := by rw [beq_eq_false_iff_ne]; exact hc0
          by_cases hc1 : e.c = 1
          · have tc1 : (e.c == 1) = true := by rw [beq_iff_eq]; exact hc1
            have Hc := Lib.hid (show decide (e.c = 0 ∨ e.c = 1) = true from decide_eq_true (.inr hc1)); clear hc0 hc1
            have Hf := Lib.hid (show plainP e = decide (e.bytes.length ≤ 600) by simp only [plainP]; rw [Hk0.out, Hd.out, Hc.out]; simp)
            go_wp2_with fail
            go_ret
            exact ⟨by rw [Hf.out]; simp; omega, Kw.trans hK2⟩
          · have tc1 : (e.c == 1) = false := by rw [beq_eq_false_iff_ne]; exact hc1
            have Hc := Lib.hid (show decide (e.c = 0 ∨ e.c = 1) = false from decide_eq_false (by rintro (h | h); exact hc0 h; exact hc1 h)); clear hc0 hc1
            have Hf := Lib.hid (show plainP e = false by simp only [plainP]; rw [Hk0.out, Hd.out, Hc.out]; simp)
            go_wp2_with fail
            go_ret
            exact ⟨by rw [Hf.out]; rfl, Kw.trans hK2⟩
      · have Hf := Lib.hid (show plainP e = false by
          have : decide ((partsOf e.kind.toNat).foldl (fun t p => putE p t e) (ev0 e.kind) = e) = false := by rw [← Ht.out]; exact decide_eq_false te
          simp only [plainP]; rw [Hk0.out, this]; simp)
        rw [decide_eq_false te]
        clear te
        go_wp2_with fail
        go_ret
        exact ⟨by rw [Hf.out]; rfl, Kw.trans hK2⟩
set_option maxRecDepth 100000 in
set_option maxHeartbeats 2000000 in
theorem plain_out (e : Ev) (bv : Value) (h : e.kind < 1 ∨ 8 < e.kind) (h0 : -9223372036854775808 ≤ e.kind) (h1 : e.kind ≤ 9223372036854775807) (w : World) :
    Calls Tryz.prog 37 #[evV e bv] w fun en w' => en = .returned (.bool (plainP e)) ∧ Kp w w' := by
  have hkk : kWf e.kind := kWf_of h0 h1
  have Hf := Lib.hid (show plainP e = false by simp only [plainP]; rw [decide_eq_false (by omega)]; rfl)
  have HH := Lib.hid h; clear h h0 h1
  have KB : Kp w (w.alloc (.cells (evC e bv) 27)) := (Kp.refl w).alloc _
  have BE := Blk.new w 27 (evC e bv)
  go_enter Tryz.func37, Tryz.ntmps37
  go_wp2_with fail
  obtain ⟨W, hW, KW, BW⟩ : ∃ W, w.alloc (.cells (evC e bv) 27) = W ∧ Kp w W ∧ Blk W w.heap.size 27 (evC e bv) := ⟨_, rfl, KB, BE⟩
  simp only [evC] at hW
  rw [hW]
  clear hW KB BE
  have q0 : W.cell? ⟨w.heap.size, 0, none⟩ = some (.int .i64 e.kind) := BW.cell 0
  go_region_held3 (fun w' => w'.cell? ⟨w.heap.size, 0, none⟩ = some (.int .i64 e.kind)) (first | exact Kd.cell q0 | go_keep) (first | (go_at_call 39; refine (lines_any _).mono ?_; rintro en wa ⟨x, y, z, b, f, rfl, HL, hx, hy, hz, Ka⟩; have Kd : Kp W wa := (Kp.refl W).drew.trans Ka; have hlk : (Instr.lookup 84 (.map (some b)) (.int .i64 e.kind) true).run Tryz.prog wa = .ok (.tuple #[.slice none 0 0, .bool false]) wa := (by have := HL.map.look hkk; rw [HL.no _ hkk HH.out] at this; exact this)))
  all_goals go_wp2_with fail
  all_goals go_ret
  all_goals exact ⟨by rw [Hf.out]; rfl, KW.trans Kd⟩
theorem plain_any (e : Ev) (A : Option Addr) (c : Nat) (w : World) (h0 : -9223372036854775808 ≤ e.kind) (h1 : e.kind ≤ 9223372036854775807) (hA : Rd w 1 byteE A e.bytes) (hl : e.bytes.length ≤ 1000000) :
    Calls Tryz.prog 37 #[evV e (.slice A e.bytes.length c)] w fun en w' => en = .returned (.bool (plainP e)) ∧ Kp w w' := by
  by_cases h : e.kind < 1 ∨ 8 < e.kind
  · exact plain_out e _ h h0 h1 w
  · exact plain_in e A c e.kind.toNat (by omega) (by omega) (by omega) w hA hl
end Go.Proofs.YtbfimimhgdkpaaaGreatDoor
