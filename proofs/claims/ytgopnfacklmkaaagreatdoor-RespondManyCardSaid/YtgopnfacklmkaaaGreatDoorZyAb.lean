/- Lemmas and contracts for the theorem of this claim: Appl, OctA, OctB, Ord, OrdV, OrdW, OrdX, Range, Round. -/
import Derived.Test.YtgopnfacklmkaaaGreatDoorZyAa
import Derived.Laws.AppendOwnNone
import Derived.Test.YtgopnfacklmkaaaGreatDoorProg
import Derived.RegionTactic
import Derived.RangeFuncOwn
import Derived.RangeFuncLeaves
import Derived.Sort.QuietTacIn
import Derived.LoopN
import Derived.RangeFuncCalls
set_option linter.all false
set_option maxHeartbeats 16000000
namespace Go.Proofs.YtgopnfacklmkaaaGreatDoor
section
open Go.RowKit
theorem vgi {α : Type} {sz : Nat} {enc : α → List Value} (hs : 0 < sz) (henc : ∀ x, (enc x).length = sz) : ∀ (ys : List α) (j : Nat) (u : Value), (ys.flatMap enc)[j]? = some u → ∃ (i k : Nat) (h : i < ys.length), j = i * sz + k ∧ (enc (ys[i]'h))[k]? = some u
 | [], j, u, h => by simp at h
 | y :: ys, j, u, h => by
  rw [List.flatMap_cons] at h
  by_cases hj : j < (enc y).length
  ·rw [List.getElem?_append_left hj] at h
   exact ⟨0, j, by simp, by omega, h⟩
  ·rw [List.getElem?_append_right (by omega), henc] at h
   obtain ⟨i, k, hi, he, hc⟩ := vgi hs henc ys _ u h
   rw [henc] at hj
   exact ⟨i + 1, k, by simpa using hi, by rw [Nat.add_mul]; omega, by simpa using hc⟩
theorem vfk (w : World) (row : Option Nat) : w.grownBy w row := ⟨rfl, rfl, rfl, Nat.le_refl _, fun _ _ _ => rfl⟩
theorem vcJ {P : Program} {w : World} (base : Nat) (t ty e : TypeId) (i : TypeInfo) (size c : Nat) (ht : P.underlying t = some (.slice e)) (hi : P.info? e = some i)
  (v : Value) (n : Nat) (xs : List Value) (hown : w.ownsRow base e size v n xs) :
  (Builtin.append_ #[t, t] ty #[v, .slice none 0 c]).run P w = .ok v w := by
 rcases hown.2 with ⟨rfl, rfl⟩ | ⟨g, cap, cur, rfl, _, _, hnc, _⟩
 ·simp [Builtin.append_, run_underlying ht, sizeOf, typeInfo, hi, Builtin.lenOf, Builtin.firstCells]
 ·simp [Builtin.append_, run_underlying ht, sizeOf, typeInfo, hi, Builtin.lenOf, Builtin.firstCells, hnc, storeCells]
theorem vdl {α : Type} {enc : α → List Value} {P : Program} {t e : TypeId} {z : Value} {size bytes : Nat} (E : ElemOf P t e z size bytes) (ty : TypeId) (henc : ∀ x, (enc x).length = size) (hone : ∀ x, ∀ u ∈ enc x, u.oneCell' = true)
  {w : World} {base : Nat} {v : Value} {xs ys : List α} {A : Option Addr} {c : Nat} (hown : Own w base e size enc v xs) (hrd : Rd w size enc A ys)
  (hfit : (xs.length + ys.length) * (bytes + 1) ≤ 140737488355328) (hbase : base ≤ w.heap.size) :
  ∃ v' w', (Builtin.append_ #[t, t] ty #[v, .slice A ys.length c]).run P w = .ok v' w' ∧ Own w' base e size enc v' (xs ++ ys) ∧ w.grownBy w' v.ownBlock ∧ (v'.ownBlock = v.ownBlock ∨ v'.ownBlock = some w.heap.size) := by
 obtain ⟨ht, hinfo, hzs, hsz⟩ := E
 obtain ⟨i, hi, hz, hsize, hby⟩ := info_parts hinfo
 have hb2 : (xs.length + ys.length) * (bytes + 1) = (xs.length + ys.length) * bytes + (xs.length + ys.length) := by rw [Nat.mul_add, Nat.mul_one]
 cases A with
 | none =>
  have hy : ys = [] := by
   cases ys with
   | nil => rfl
   | cons y ys => obtain ⟨b, off, hh, _⟩ := hrd 0 (by simp); cases hh
  subst hy
  exact ⟨v, w, vcJ base t ty e i size c ht hi v _ _ hown, by simpa using hown, vfk _ _, .inl rfl⟩
 | some ad =>
  obtain ⟨v', w', hr, h2, h3, _, h5⟩ := run_append_own_at (P := P) w base t ty e i z size bytes ht hi hz hsize hby hzs hsz v xs.length (xs.flatMap enc) hown ad ys.length c (ys.flatMap enc) (vaM henc ys) (by
   intro j u hu
   obtain ⟨k, q, hk, rfl, hq⟩ := vgi hsz henc ys j u hu
   obtain ⟨b, off, he, hc⟩ := hrd k hk
   injection he with he
   subst he
   have hadd : (⟨b, off, none⟩ : Addr).add (k * size + q) = ⟨b, off + k * size + q, none⟩ := by unfold Addr.add; split <;> simp_all [Nat.add_assoc]
   rw [hadd]
   exact hc q u hq) (by
   intro u hu
   obtain ⟨y, _, hy⟩ := List.mem_flatMap.1 hu
   exact hone y u hy) (by simp only [maxLen]; omega) (by omega) hbase
  refine ⟨v', w', hr, ?_, h3, h5⟩
  unfold Own
  rw [List.length_append, List.flatMap_append]
  exact h2
theorem vat {α : Type} {enc : α → List Value} {P : Program} {t e : TypeId} {z : Value} {size bytes : Nat} (E : ElemOf P t e z size bytes) (henc : ∀ x, (enc x).length = size) (hone : ∀ x, ∀ u ∈ enc x, u.oneCell' = true)
  {w : World} {ops : Array Oper} {rest : List Oper} {o : Oper} {a : Act} {Q : Exit → Act → World → Prop} (hgd : o.guard = none) (s x : Operand) (ho : o.op = .call { callee := .builtin .append, args := #[s, x], argTypes := #[t, t] })
  {base : Nat} {v : Value} {xs ys : List α} {A : Option Addr} {c : Nat} (hs : a.eval s = v) (hx : a.eval x = .slice A ys.length c) (hown : Own w base e size enc v xs) (hrd : Rd w size enc A ys)
  (hfit : (xs.length + ys.length) * (bytes + 1) ≤ 140737488355328) (hbase : base ≤ w.heap.size)
  (h : ∀ v' w', Own w' base e size enc v' (xs ++ ys) → w.grownBy w' v.ownBlock → (v'.ownBlock = v.ownBlock ∨ v'.ownBlock = some w.heap.size) → wpList P ops Q rest (a.put o.dst v') w') : wpList P ops Q (o :: rest) a w := by
 refine wpList_plain hgd fun K hK => ?_
 obtain ⟨v', w', hr, h1, h2, h3⟩ := vdl E o.type henc hone hown hrd hfit hbase
 unfold Oper.wp
 simp [execOp, ho, resolve, invoke, builtin, hs, hx, Result.andThen]
 rw [hr]
 exact hK _ _ (h v' w' h1 h2 h3)
theorem Own.empty {α : Type} {w : World} {base e sz g : Nat} {enc : α → List Value} (hb : base ≤ g) (hB : Blk w g e #[]) : Own w base e sz enc (.slice (some ⟨g, 0, none⟩) 0 0) [] :=
 ⟨by simp, .inr ⟨g, 0, #[], rfl, hb, hB, Nat.le_refl _, by simp, by simp, by simp⟩⟩
theorem Own.rdAt {α : Type} {w : World} {base e sz n c : Nat} {enc : α → List Value} {A : Option Addr} {xs : List α} (hs : 0 < sz) (henc : ∀ x, (enc x).length = sz) (h : Own w base e sz enc (.slice A n c) xs) : Rd w sz enc A xs := by
 obtain ⟨A', c', hv, hr⟩ := h.rd hs henc
 injection hv with h1 h2 h3
 subst h1
 exact hr
def byN (b : Nat) : List Value := [.int .u8 (b : Int)]
theorem vaN (b : Nat) : (byN b).length = 1 := rfl
theorem vep (b : Nat) : ∀ u ∈ byN b, u.oneCell' = true := by intro u h; simp only [byN, List.mem_singleton] at h; subst h; rfl
theorem EByt : ElemOf Tryz.prog 64 5 (.int .u8 0) 1 1 := ⟨Tryz.underlying64, by kernel_rfl, rfl, by decide⟩
theorem by_at {w : World} {A : Option Addr} {l : List Nat} (h : Rd w 1 byN A l) {k : Nat} (hk : k < l.length) : ∃ b off, A = some ⟨b, off, none⟩ ∧ w.cell? ⟨b, off + k, none⟩ = some (.int .u8 (l[k] : Int)) := by
 obtain ⟨b, off, e, hc⟩ := h k hk
 refine ⟨b, off, e, ?_⟩
 have := hc 0 _ rfl
 rwa [Nat.mul_one, Nat.add_zero] at this
def WidAt (w : World) : Prop := w.cell? ⟨2, 0, none⟩ = some (.int .i64 1) ∧ w.cell? ⟨2, 1, none⟩ = some (.int .i64 2) ∧ w.cell? ⟨2, 2, none⟩ = some (.int .i64 4)
theorem WidAt.keep {w w' : World} (h : WidAt w) (k : Kp w w') : WidAt w' := ⟨k.cell h.1, k.cell h.2.1, k.cell h.2.2⟩
theorem idxW (w : World) : (Instr.index 372 (.agg #[.int .i64 1, .int .i64 2, .int .i64 4]) (.int .i64 0)).run Tryz.prog w = .ok (.int .i64 1) w ∧ (Instr.index 372 (.agg #[.int .i64 1, .int .i64 2, .int .i64 4]) (.int .i64 1)).run Tryz.prog w = .ok (.int .i64 2) w ∧ (Instr.index 372 (.agg #[.int .i64 1, .int .i64 2, .int .i64 4]) (.int .i64 2)).run Tryz.prog w = .ok (.int .i64 4) w := ⟨by kernel_rfl, by kernel_rfl, by kernel_rfl⟩
def wid (k : Int) (j : Nat) : Prop := (k = 1 ∧ j = 0) ∨ (k = 2 ∧ j = 1) ∨ (k = 4 ∧ j = 2)
set_option maxRecDepth 100000 in
theorem vbi (k : Int) (j : Nat) (h : wid k j) (w : World) (hW : WidAt w) : Calls Tryz.prog 191 #[.int .i64 k] w fun e w' => e = .returned (.bool true) ∧ w = w' := by
 have H := Lib.hid h
 clear h
 obtain ⟨c0, c1, c2⟩ := hW
 have x0 := fun w => (idxW w).1
 have x1 := fun w => (idxW w).2.1
 have x2 := fun w => (idxW w).2.2
 go_enter Tryz.func191, Tryz.ntmps191
 go_wp2_with fail
 go_loopw [6] (fun i wr => ∃ n : Nat, n ≤ j ∧ i = .int .i64 n ∧ w = wr) (fun i _ => 3 - (intOf i).toNat)
 case atStart => exact ⟨0, Nat.zero_le _, rfl, rfl⟩
 case round =>
  obtain ⟨n, hn, rfl, rfl⟩ := hrel
  rcases H.out with ⟨rfl, rfl⟩ | ⟨rfl, rfl⟩ | ⟨rfl, rfl⟩
  ·obtain rfl : n = 0 := by omega
   go_wp2_with fail
   go_ret
   exact ⟨rfl, rfl⟩
  ·have hc : n = 0 ∨ n = 1 := by omega
   rcases hc with rfl | rfl
   ·go_wp2_with fail
    go_roundw
    case rel => exact ⟨1, by omega, by go_num, trivial⟩
    case measure => simp [intOf]
   ·go_wp2_with fail
    go_ret
    exact ⟨rfl, rfl⟩
  ·have hc : n = 0 ∨ n = 1 ∨ n = 2 := by omega
   rcases hc with rfl | rfl | rfl
   ·go_wp2_with fail
    go_roundw
    case rel => exact ⟨1, by omega, by go_num, trivial⟩
    case measure => simp [intOf]
   ·go_wp2_with fail
    go_roundw
    case rel => exact ⟨2, by omega, by go_num, trivial⟩
    case measure => simp [intOf]
   ·go_wp2_with fail
    go_ret
    exact ⟨rfl, rfl⟩
theorem vll (n b : Nat) (hb : b < 256) : bits .or .u32 (((256 * n) % 4294967296 : Nat) : Int) (b : Int) = (((256 * n + b) % 4294967296 : Nat) : Int) := by
 have h1 : (BitVec.ofInt 32 (((256 * n) % 4294967296 : Nat) : Int)).toNat = (256 * n) % 4294967296 := by
  rw [BitVec.ofInt_natCast, BitVec.toNat_ofNat]; exact Nat.mod_eq_of_lt (Nat.mod_lt _ (by decide))
 have h2 : (BitVec.ofInt 32 (b : Int)).toNat = b := by
  rw [BitVec.ofInt_natCast, BitVec.toNat_ofNat]; exact Nat.mod_eq_of_lt (by omega)
 have h3 : (256 * n) % 4294967296 = 2 ^ 8 * (n % 16777216) := by omega
 have h4 : (256 * n) % 4294967296 ||| b = (256 * n + b) % 4294967296 := by
  rw [h3, ← Nat.two_pow_add_eq_or_of_lt (by omega : b < 2 ^ 8)]
  omega
 show IntKind.u32.wrap ((BitVec.ofInt 32 (((256 * n) % 4294967296 : Nat) : Int) ||| BitVec.ofInt 32 (b : Int)).toNat : Int) = _
 rw [BitVec.toNat_or, h1, h2, h4]
 show ((((256 * n + b) % 4294967296 : Nat) : Int)) % 4294967296 = _
 omega
theorem vfl {l : List Nat} {k : Nat} (hk : k < l.length) : foldN (l.take (k + 1)) = (256 * foldN (l.take k) + l[k]) % 4294967296 := by
 unfold foldN
 rw [List.take_succ_eq_append_getElem hk, List.foldl_append]
 rfl
set_option maxRecDepth 100000 in
theorem vfm (A : Option Addr) (c : Nat) (l : List Nat) (w : World) (hR : Rd w 1 byN A l) (hl : ∀ x ∈ l, x < 256) (hn : l.length ≤ 1000000) : Calls Tryz.prog 193 #[.slice A l.length c] w fun e w' => e = .returned (.int .u32 (foldN l : Int)) ∧ w = w' := by
 have HR := Lib.hid hR
 have HL := Lib.hid hl
 clear hR hl
 go_enter Tryz.func193, Tryz.ntmps193
 go_wp2_with fail
 go_loopw [3, 8] (fun s i wr => ∃ (k n : Nat), k ≤ l.length ∧ i = .int .i64 k ∧ s = .int .u32 (n : Int) ∧ Hid (n = foldN (l.take k)) ∧ w = wr) (fun _ i _ => l.length - (intOf i).toNat)
 case atStart => exact ⟨0, 0, Nat.zero_le _, rfl, rfl, rfl, rfl⟩
 case round =>
  obtain ⟨k, n, hk, rfl, rfl, HN, rfl⟩ := hrel
  by_cases hlt : k < l.length
  ·have hki : (k : Int) < (l.length : Int) := by omega
   have hk0 : (0 : Int) ≤ (k : Int) := by omega
   obtain ⟨b, off, hA, c0⟩ := by_at HR.out hlt
   subst hA
   obtain ⟨x, hx⟩ : ∃ x, l[k] = x := ⟨_, rfl⟩
   have hxb : x < 256 := by rw [← hx]; exact HL.out _ (List.getElem_mem hlt)
   rw [hx] at c0
   have HN2 : Hid ((256 * n + x) % 4294967296 = foldN (l.take (k + 1))) := Lib.hid (by rw [vfl hlt, hx, HN.out])
   have HO : Hid (bits .or .u32 ((n : Int) * 256 % 4294967296) (x : Int) = (((256 * n + x) % 4294967296 : Nat) : Int)) := Lib.hid (by
    rw [← vll n x hxb]
    congr 1
    omega)
   clear hx
   go_wp2_with fail
   go_roundw
   case rel => exact ⟨k + 1, _, by omega, by go_num, by rw [HO.out], HN2, trivial⟩
   case measure => simp [intOf]; omega
  ·obtain rfl : k = l.length := by omega
   have HN2 : Hid (n = foldN l) := Lib.hid (by rw [HN.out, List.take_length])
   go_wp2_with fail
   go_ret
   exact ⟨by rw [← HN2.out]; rfl, rfl⟩
theorem veq {w : World} {g off : Nat} {l : List Nat} (h : Rd w 1 byN (some ⟨g, off, none⟩) l) (i k : Nat) : Rd w 1 byN (some ⟨g, off + i, none⟩) ((l.drop i).take k) := fun j hj => by
 rw [List.length_take, List.length_drop] at hj
 obtain ⟨b, o, e, hc⟩ := h (i + j) (by omega)
 injection e with e
 injection e with e1 e2 _
 subst e1 e2
 refine ⟨g, off + i, rfl, fun q u hu => ?_⟩
 rw [List.getElem_take, List.getElem_drop] at hu
 have := hc q u hu
 have e3 : off + i + j * 1 + q = off + (i + j) * 1 + q := by omega
 rw [e3]
 exact this
set_option maxRecDepth 100000 in
theorem vjz (A : Option Addr) (n c at_ many : Nat) (w : World) (h : at_ + many ≤ n) (hn : n ≤ 1000000) : Calls Tryz.prog 192 #[.slice A n c, .int .i64 at_, .int .i64 many] w fun e w' => e = .returned (.bool true) ∧ w = w' := by
 go_enter Tryz.func192, Tryz.ntmps192
 go_wp2_with fail
 go_ret
 exact ⟨by simp; omega, rfl⟩
set_option maxRecDepth 100000 in
theorem vjA (g off n c at_ many : Nat) (w : World) (h : at_ + many ≤ n) (hm : 0 < many) (hc : n ≤ c) (hn : n ≤ 1000000) : Calls Tryz.prog 194 #[.slice (some ⟨g, off, none⟩) n c, .int .i64 at_, .int .i64 many] w fun e w' => e = .returned (.slice (some ⟨g, off + at_, none⟩) many many) ∧ w = w' := by
 have h1 : ¬ many = 0 := by omega
 have h2 : ¬ at_ + many = at_ := by omega
 go_enter Tryz.func194, Tryz.ntmps194
 go_wp2_with fail
 go_ret
 exact ⟨by simp, rfl⟩
set_option maxRecDepth 100000 in
theorem vdP (g off c at_ j : Nat) (wd : Nat) (l : List Nat) (w : World) (hW : WidAt w) (hj : wid wd j) (hR : Rd w 1 byN (some ⟨g, off, none⟩) l) (hl : ∀ x ∈ l, x < 256) (h : at_ + wd ≤ l.length) (hc : l.length ≤ c) (hn : l.length ≤ 1000000) :
  Calls Tryz.prog 132 #[.slice (some ⟨g, off, none⟩) l.length c, .int .i64 at_, .int .i64 wd] w fun e w' => e = .returned (.tuple #[.int .u32 (atN l at_ wd : Int), .int .i64 0]) ∧ w = w' := by
 have HR := Lib.hid (veq hR at_ wd)
 have HL : Hid (∀ x ∈ (l.drop at_).take wd, x < 256) := Lib.hid (fun x hx => hl x (List.mem_of_mem_drop (List.mem_of_mem_take hx)))
 have HN : Hid (((l.drop at_).take wd).length = wd) := Lib.hid (by rw [List.length_take, List.length_drop]; omega)
 have HA : Hid (foldN ((l.drop at_).take wd) = atN l at_ wd) := Lib.hid rfl
 have hp : 0 < wd := by unfold wid at hj; omega
 have HJ := Lib.hid hj
 have HW := Lib.hid hW
 clear hR hl hj hW
 go_enter Tryz.func132, Tryz.ntmps132
 go_wp2_with fail
 refine vaa 0 rfl ?_
 go_wp2_with fail
 refine (vbi wd j HJ.out _ HW.out).mono ?_
 rintro e w' ⟨rfl, rfl⟩
 go_wp2_with fail
 refine (vjz _ _ _ _ _ _ h (by omega)).mono ?_
 rintro e w' ⟨rfl, rfl⟩
 go_wp2_with fail
 refine (vjA g off _ c at_ wd _ h hp hc hn).mono ?_
 rintro e w' ⟨rfl, rfl⟩
 go_wp2_with fail
 have HF := vfm (some ⟨g, off + at_, none⟩) wd _ w HR.out HL.out (by rw [HN.out]; omega)
 rw [HN.out, HA.out] at HF
 refine HF.mono ?_
 rintro e w' ⟨rfl, rfl⟩
 go_wp2_with fail
 refine vam ?_
 go_ret2
 exact ⟨rfl, rfl⟩
end

section
open Go.RowKit
def backB (md : Region.Mode) (ops : Array Oper) : Bool :=
 (List.range ops.size).all fun i => match ops[i]? with | some o => o.after.all fun e => !Region.binds md e || decide (e.on < i) | none => true
theorem vcd {md : Region.Mode} {ops : Array Oper} (h : backB md ops = true) {i : Nat} {o : Oper} (ho : ops[i]? = some o) : ∀ e ∈ o.after, Region.binds md e = true → e.on < i := by
 intro e he hb
 have hi := (Array.getElem?_eq_some_iff.1 ho).1
 have h1 := List.all_eq_true.1 h i (List.mem_range.2 hi)
 rw [ho] at h1
 simp only at h1
 have h2 := Array.all_eq_true_iff_forall_mem.1 h1 e he
 simpa [hb] using h2
section
variable {P : Program} {md : Region.Mode} {ops : Array Oper} {Q : Exit → Act → World → Prop}
theorem vdQ {listed : Array Bool} (hb : backB md ops = true) (hs : listed.size = ops.size) (hr : Region.ready md ops listed = []) : ∀ i, i < ops.size → listed.getD i false = true := by
 intro i
 induction i using Nat.strongRecOn with
 | _ i ih =>
  intro hi
  cases hl : listed.getD i false with
  | true => rfl
  | false =>
   have h1 : i ∈ Region.ready md ops listed := by
    refine mem_ready.2 ⟨?_, ops[i], Array.getElem?_eq_getElem hi, fun e he hbi => ?_⟩
    ·have : i < listed.size := by omega
     simp only [Array.getD_eq_getD_getElem?, Array.getElem?_eq_getElem this, Option.getD_some] at hl ⊢
     exact hl
    ·have h2 := vcd hb (Array.getElem?_eq_getElem hi) e he hbi
     exact ih e.on h2 (by omega)
   rw [hr] at h1
   cases h1
theorem vdR (G : (Nat → Bool) → Act → World → Prop) (hb : backB md ops = true)
  (step : ∀ (i : Nat) (o : Oper) (L : Nat → Bool) (a : Act) (w : World), ops[i]? = some o → L i = false → (∀ e ∈ o.after, Region.binds md e = true → L e.on = true) → G L a w →
   ∀ K : Act → World → Prop, (∀ a' w', G (fun j => j == i || L j) a' w' → K a' w') → if Region.wanted o (yielded ops a.tmps) = true then Oper.wp P o a w K Q else K (a.put o.dst undef) w)
  (fin : ∀ L a w, (∀ i, i < ops.size → L i = true) → G L a w → Q .normal a w) :
  ∀ (fuel : Nat) (listed : Array Bool) (a : Act) (w : World), listed.size = ops.size → listed.toList.countP (fun b => !b) ≤ fuel → G (fun j => listed.getD j false) a w → wpAny P md ops Q fuel listed a w := by
 intro fuel
 induction fuel with
 | zero =>
  intro listed a w hs hc hG
  have hall : ∀ i, i < ops.size → listed.getD i false = true := by
   intro i hi
   have h0 := List.countP_eq_zero.1 (Nat.le_zero.1 hc)
   have hi' : i < listed.size := by omega
   have := h0 listed[i] (by rw [Array.mem_toList_iff]; exact Array.getElem_mem hi')
   simp only [Array.getD_eq_getD_getElem?, Array.getElem?_eq_getElem hi', Option.getD_some]
   simpa using this
  refine ⟨?_, fin _ _ _ hall hG⟩
  refine List.eq_nil_iff_forall_not_mem.2 fun j hj => ?_
  obtain ⟨h1, o, ho, _⟩ := mem_ready.1 hj
  have hlt := (Array.getElem?_eq_some_iff.1 ho).1
  have h2 := hall j hlt
  have hj' : j < listed.size := by omega
  simp only [Array.getD_eq_getD_getElem?, Array.getElem?_eq_getElem hj', Option.getD_some] at h1 h2
  rw [h1] at h2
  cases h2
 | succ fuel ih =>
  intro listed a w hs hc hG
  refine ⟨fun hr => fin _ _ _ (vdQ hb hs hr) hG, fun i hi => ?_⟩
  obtain ⟨h1, o, ho, hdep⟩ := mem_ready.1 hi
  have hlt := (Array.getElem?_eq_some_iff.1 ho).1
  have hi' : i < listed.size := by omega
  have hli : listed[i] = false := by
   simpa only [Array.getD_eq_getD_getElem?, Array.getElem?_eq_getElem hi', Option.getD_some] using h1
  have hLi : (fun j => listed.getD j false) i = false := by
   simp only [Array.getD_eq_getD_getElem?, Array.getElem?_eq_getElem hi', Option.getD_some]; exact hli
  refine wpOp_step ho (fun K hK => step i o _ a w ho hLi hdep hG K (fun a' w' hG' => hK a' w' (ih _ a' w' (by simpa using hs) ?_ ?_)))
  ·have hset : (listed.setIfInBounds i true).toList = listed.toList.set i true := by simp
   have hl2 : i < listed.toList.length := by simpa using hi'
   rw [hset, List.countP_set hl2]
   have : listed.toList[i] = false := by simpa using hli
   rw [this]
   have hpos : 0 < listed.toList.countP (fun b => !b) := List.countP_pos_iff.2 ⟨false, by rw [← this]; exact List.getElem_mem hl2, rfl⟩
   have hc2 := hc
   simp only [Bool.not_false, if_true, Bool.not_true]
   rw [if_neg (by simp)]
   omega
  ·have e : (fun j => (listed.setIfInBounds i true).getD j false) = (fun j => j == i || listed.getD j false) := by
    funext j
    by_cases hj : j = i
    ·subst hj
     simp [Array.getD_eq_getD_getElem?, hi']
    ·have : (j == i) = false := by simpa using hj
     rw [this, Bool.false_or]
     simp only [Array.getD_eq_getD_getElem?]
     rw [Array.getElem?_setIfInBounds_ne (fun h => hj h.symm)]
   rw [e]
   exact hG'
end
theorem vbt {P : Program} {id : Nat} {Q : Exit → Act → World → Prop} {a : Act} {w : World} {l : List Oper} (hm : P.follows .mixedOrders = true) (G : (Nat → Bool) → Act → World → Prop) (hb : backB .any l.toArray = true)
  (step : ∀ (i : Nat) (o : Oper) (L : Nat → Bool) (a : Act) (w : World), l[i]? = some o → L i = false → (∀ e ∈ o.after, Region.binds .any e = true → L e.on = true) → G L a w →
   ∀ K : Act → World → Prop, (∀ a' w', G (fun j => j == i || L j) a' w' → K a' w') → if Region.wanted o (yielded l.toArray a.tmps) = true then Oper.wp P o a w K Q else K (a.put o.dst undef) w)
  (fin : ∀ L a w, (∀ i, i < l.length → L i = true) → G L a w → Q .normal a w) (h0 : G (fun _ => false) a w.drew) : (Code.region id l.toArray true).wp P Q a w := by
 refine wp_region_any hm (vdR G hb (fun i o L a w ho => step i o L a w (by simpa using ho)) (fun L a w h => fin L a w (by simpa using h)) _ _ _ _ (by simp) ?_ ?_)
 ·have : (Array.replicate l.toArray.size false).toList.countP (fun b => !b) ≤ (Array.replicate l.toArray.size false).toList.length := List.countP_le_length
  simpa using this
 ·have e : (fun j => (Array.replicate l.toArray.size false).getD j false) = (fun _ => false) := by
   funext j
   simp only [Array.getD_eq_getD_getElem?]
   by_cases hj : j < l.toArray.size
   ·rw [Array.getElem?_eq_getElem (by simpa using hj)]; simp
   ·rw [Array.getElem?_eq_none (by simpa using hj)]; rfl
  rw [e]
  exact h0
end

section
open Go.RowKit
structure RV (W : World) (a0 : Act) (sl : List Nat) (v : List Value) (L : Nat → Bool) (a : Act) (w : World) : Prop where
 kp : Kp W w
 df : a.defers = a0.defers
 sz : a.tmps.size = a0.tmps.size
 old : ∀ j, j ∉ sl → a.tmps.getD j undef = a0.tmps.getD j undef
 new : ∀ i, L i = true → ∀ k, sl[i]? = some k → a.tmps.getD k undef = v.getD i undef
theorem RV.start (W : World) (a0 : Act) (sl : List Nat) (v : List Value) : RV W a0 sl v (fun _ => false) a0 W.drew :=
 ⟨(Kp.refl W).drew, rfl, rfl, fun _ _ => rfl, fun _ h => by cases h⟩
theorem RV.put {W w w' : World} {a0 a : Act} {sl : List Nat} {v : List Value} {L : Nat → Bool} (h : RV W a0 sl v L a w) (i k : Nat) (hi : sl[i]? = some k) (hn : sl.Nodup) (hk : k < a0.tmps.size) (kp : Kp w w') {u : Value} (hu : v.getD i undef = u) : RV W a0 sl v (fun j => j == i || L j) (a.put (some k) u) w' := by
 subst hu
 have hks : k < a.tmps.size := by rw [h.sz]; exact hk
 have hg : ∀ j, (a.tmps.setIfInBounds k (v.getD i undef)).getD j undef = if j = k then v.getD i undef else a.tmps.getD j undef := fun j => by
  by_cases e : j = k
  ·subst e
   rw [if_pos rfl]
   simp [Array.getD_eq_getD_getElem?, hks]
  ·rw [if_neg e]
   simp only [Array.getD_eq_getD_getElem?]
   rw [Array.getElem?_setIfInBounds_ne (fun z => e z.symm)]
 refine ⟨h.kp.trans kp, h.df, by simpa [Act.put] using h.sz, fun j hj => ?_, fun j hj m hm => ?_⟩
 ·show (a.tmps.setIfInBounds k (v.getD i undef)).getD j undef = _
  rw [hg, if_neg (fun e => hj (by rw [e]; exact List.mem_of_getElem? hi))]
  exact h.old j hj
 ·show (a.tmps.setIfInBounds k (v.getD i undef)).getD m undef = _
  rw [hg]
  by_cases e : j = i
  ·subst e
   rw [hi] at hm
   injection hm with hm
   rw [if_pos hm.symm]
  ·have hne : m ≠ k := fun z => by
    subst z
    obtain ⟨h1, h2⟩ := List.getElem?_eq_some_iff.1 hi
    obtain ⟨h3, h4⟩ := List.getElem?_eq_some_iff.1 hm
    have hp := List.pairwise_iff_getElem.1 hn
    rcases Nat.lt_or_ge j i with hl | hl
    ·exact hp j i h3 h1 hl (by rw [h2, h4])
    ·exact hp i j h1 h3 (by omega) (by rw [h2, h4])
   rw [if_neg hne]
   refine h.new j ?_ m hm
   simpa [e] using hj
theorem vcq {t : Array Value} {k : Nat} {v : Value} (h : t.getD k undef = v) : t[k]?.getD undef = v := by rw [← h, Array.getD_eq_getD_getElem?]
theorem vcO {ops : Array Oper} {o : Oper} {t : Array Value} (hg : o.guard = none) : Region.wanted o (yielded ops t) = true := by
 unfold Region.wanted
 rw [hg]
theorem vjB {id : Nat} {P : Program} {Q : Exit → Act → World → Prop} {a0 : Act} {w : World} {l : List Oper} (sl : List Nat) (v : List Value) (hm : P.follows .mixedOrders = true) (hb : backB .any l.toArray = true)
  (step : ∀ (i : Nat) (o : Oper) (L : Nat → Bool) (a : Act) (w' : World), l[i]? = some o → (∀ j, j ∈ o.after.toList.map (·.on) → (∀ e ∈ o.after.toList, e.on = j → Region.binds .any e = true) → L j = true) → RV w a0 sl v L a w' →
   ∀ K : Act → World → Prop, (∀ a' w', RV w a0 sl v (fun j => j == i || L j) a' w' → K a' w') → if Region.wanted o (yielded l.toArray a.tmps) = true then Oper.wp P o a w' K Q else K (a.put o.dst undef) w')
  (fin : ∀ a w', Kp w w' → a.defers = a0.defers → a.tmps.size = a0.tmps.size → (∀ j, j ∉ sl → a.tmps.getD j undef = a0.tmps.getD j undef) → (∀ i, i < l.length → ∀ k, sl[i]? = some k → a.tmps.getD k undef = v.getD i undef) → Q .normal a w') : (Code.region id l.toArray true).wp P Q a0 w :=
 vbt hm (RV w a0 sl v) hb (fun i o L a w' ho _ hd hG K hK => step i o L a w' ho (fun j hj hb => by
  obtain ⟨e, he, rfl⟩ := List.mem_map.1 hj
  exact hd e (Array.mem_toList_iff.1 he) (hb e he rfl)) hG K hK) (fun L a w' hL hG => fin a w' hG.kp hG.df hG.sz hG.old (fun i hi => hG.new i (hL i hi))) (RV.start w a0 sl v)
def wrS (t : Array Value) (zs : List (Nat × Value)) : Array Value := zs.foldl (fun t z => t.setIfInBounds z.1 z.2) t
theorem veM : ∀ (zs : List (Nat × Value)) (t : Array Value), (wrS t zs).size = t.size
 | [], _ => rfl
 | z :: zs, t => by
  show (wrS (t.setIfInBounds z.1 z.2) zs).size = t.size
  rw [veM zs, Array.size_setIfInBounds]
theorem vbu {j : Nat} : ∀ (zs : List (Nat × Value)) (t : Array Value), (∀ z ∈ zs, z.1 ≠ j) → (wrS t zs)[j]? = t[j]?
 | [], _, _ => rfl
 | z :: zs, t, h => by
  show (wrS (t.setIfInBounds z.1 z.2) zs)[j]? = t[j]?
  rw [vbu zs _ (fun y hy => h y (List.mem_cons_of_mem _ hy)), Array.getElem?_setIfInBounds_ne (h z List.mem_cons_self)]
theorem vgj : ∀ (zs : List (Nat × Value)) (t : Array Value), (zs.map Prod.fst).Nodup → ∀ z ∈ zs, z.1 < t.size → (wrS t zs)[z.1]? = some z.2
 | x :: zs, t, hn, z, hz, hlt => by
  show (wrS (t.setIfInBounds x.1 x.2) zs)[z.1]? = some z.2
  rw [List.map_cons, List.nodup_cons] at hn
  rcases List.mem_cons.1 hz with rfl | hz
  ·rw [vbu zs _ (fun y hy e => hn.1 (List.mem_map.2 ⟨y, hy, e⟩))]
   simp [hlt]
  ·exact vgj zs _ hn.2 z hz (by simpa using hlt)
theorem vgk {a a0 : Act} {sl : List Nat} {v : List Value} (hl : sl.length = v.length) (hn : sl.Nodup) (hdf : a.defers = a0.defers) (hsz : a.tmps.size = a0.tmps.size)
  (hold : ∀ j, j ∉ sl → a.tmps.getD j undef = a0.tmps.getD j undef) (hnew : ∀ i, i < sl.length → ∀ k, sl[i]? = some k → a.tmps.getD k undef = v.getD i undef) : a = { tmps := wrS a0.tmps (sl.zip v), defers := a0.defers } := by
 have ht : a.tmps = wrS a0.tmps (sl.zip v) := by
  refine Array.ext (by rw [hsz]; exact (veM _ _).symm) (fun j h1 h2 => ?_)
  by_cases hj : j ∈ sl
  ·obtain ⟨i, hi, e⟩ := List.mem_iff_getElem.1 hj
   have h3 := hnew i hi j (by rw [List.getElem?_eq_getElem hi, e])
   have hiv : i < v.length := by omega
   have hz : (j, v[i]) ∈ sl.zip v := List.mem_iff_getElem.2 ⟨i, by rw [List.length_zip]; omega, by rw [List.getElem_zip, e]⟩
   have h4 := vgj (sl.zip v) a0.tmps (by rw [List.map_fst_zip (by omega)]; exact hn) (j, v[i]) hz (by rw [← hsz]; exact h1)
   simp only at h4
   rw [Array.getElem?_eq_getElem h2, Option.some.injEq] at h4
   rw [h4]
   simpa [Array.getD_eq_getD_getElem?, h1, hiv] using h3
  ·have h3 := hold j hj
   have h0 : j < a0.tmps.size := by rw [← hsz]; exact h1
   have h4 := vbu (sl.zip v) a0.tmps (j := j) (fun z hz e => hj (by subst e; exact (List.of_mem_zip hz).1))
   rw [Array.getElem?_eq_getElem h2, Array.getElem?_eq_getElem h0, Option.some.injEq] at h4
   rw [h4]
   simpa [Array.getD_eq_getD_getElem?, h1, h0] using h3
 cases a
 simp only at ht hdf
 rw [ht, hdf]
structure RX (M : (Nat → Bool) → World → Prop) (a0 : Act) (sl : List Nat) (v : List Value) (L : Nat → Bool) (a : Act) (w : World) : Prop where
 m : M L w
 df : a.defers = a0.defers
 sz : a.tmps.size = a0.tmps.size
 old : ∀ j, j ∉ sl → a.tmps.getD j undef = a0.tmps.getD j undef
 new : ∀ i, L i = true → ∀ k, sl[i]? = some k → a.tmps.getD k undef = v.getD i undef
theorem RX.put {M : (Nat → Bool) → World → Prop} {w w' : World} {a0 a : Act} {sl : List Nat} {v : List Value} {L : Nat → Bool} (h : RX M a0 sl v L a w) (i k : Nat) (hi : sl[i]? = some k) (hn : sl.Nodup) (hk : k < a0.tmps.size) (hm : M (fun j => j == i || L j) w') {u : Value} (hu : v.getD i undef = u) : RX M a0 sl v (fun j => j == i || L j) (a.put (some k) u) w' := by
 have r : RV w a0 sl v L a w := ⟨Kp.refl _, h.df, h.sz, h.old, h.new⟩
 have r2 := r.put i k hi hn hk (Kp.refl _) hu
 exact ⟨hm, r2.df, r2.sz, r2.old, r2.new⟩
theorem RX.done {M : (Nat → Bool) → World → Prop} {w w' : World} {a0 a : Act} {sl : List Nat} {v : List Value} {L : Nat → Bool} (h : RX M a0 sl v L a w) (i k : Nat) (hi : sl[i]? = some k) (hn : sl.Nodup) (hk : a0.tmps.size ≤ k) (hm : M (fun j => j == i || L j) w') (hu : v.getD i undef = undef) : RX M a0 sl v (fun j => j == i || L j) (a.put none undef) w' := by
 refine ⟨hm, h.df, h.sz, h.old, fun j hj m hj2 => ?_⟩
 show a.tmps.getD m undef = _
 by_cases e : j = i
 ·subst e
  rw [hi] at hj2
  injection hj2 with hj2
  subst hj2
  rw [hu, Array.getD_eq_getD_getElem?, Array.getElem?_eq_none (by rw [h.sz]; exact hk)]
  rfl
 ·refine h.new j ?_ m hj2
  simpa [e] using hj
def Iter (P : Program) (gf : FuncId) (caps : Array Value) (N : Nat) (xs : Nat → Array Value) (M : World → Prop) : Prop :=
 ∀ (l : Nat) (I Z : Nat → World → Prop) (W : World),
  (∀ k W W', I k W → Kp W W' → I k W') → (∀ k W W', Z k W → Kp W W' → Z k W') → (∀ k W, I k W → M W) →
  (∀ k W, k < N → I k W → ∃ fn tmps assign body, (Instr.yield l (xs k)).run P W = .ok (.round l fn tmps assign body) W ∧
   RoundIn Fence.wide 0 P l fn tmps assign body W (fun e W' => (e = .returned (.bool true) ∧ I (k + 1) W') ∨ (e = .returned (.bool false) ∧ Z (k + 1) W'))) →
  I 0 W → Calls P gf (#[.func (.yield l) #[] #[]] ++ caps) W (fun e W' => e = .returned (.tuple #[]) ∧ (I N W' ∨ ∃ k, 0 < k ∧ k ≤ N ∧ Z k W'))
def Kept2 (w W W' : World) : Prop := W'.heap[w.heap.size]? = W.heap[w.heap.size]? ∧ W'.heap[w.heap.size + 1]? = W.heap[w.heap.size + 1]?
def rndPost (w : World) (I : Nat → World → Prop) (Ix : Code → Nat → World → Prop) (k : Nat) (W : World) : Exit → Act → World → Prop
 | .normal, _, W' => Kept2 w W W' ∧ I k W'
 | .ret, _, W' => Kept2 w W W' ∧ Ix .ret k W'
 | .exit id, _, W' => Kept2 w W W' ∧ Ix (.exit id) k W'
 | .goto t, _, W' => Kept2 w W W' ∧ Ix (.goto t) k W'
 | .panic _, _, _ => False
 | .outgrown, _, _ => False
theorem Only.putObj {bs : List Nat} {a w : World} (h : Only bs a w) {r : Nat} (hr : r ∈ bs) (o : Obj) : Only bs a (w.putObj r o) :=
 ⟨h.os, h.tape, h.output, by simpa using h.size, fun k hk hn => (World.putObj_heap_other (fun e => hn (by rw [e]; exact hr))).trans (h.block k hk hn)⟩
def Takes : List Deferred → World → (World → Prop) → Prop
 | [], w, K => K w
 | d :: ds, w, K => ∃ r, d.target = .collected r ∧ w.heap[r]? = some (.deferred (some [])) ∧ Takes ds (w.putObj r (.deferred none)) K
theorem vbj {P : Program} {K : World → Prop} : ∀ (ds : List Deferred) (fr : Frame) (cs : List Frame) (w : World), fr.mode = .returning → fr.defers = ds → Takes ds w K →
  ∃ w', K w' ∧ Steps P (lone fr cs w) (lone { fr with defers := [] } cs w')
 | [], fr, cs, w, _, hd, h => ⟨w, h, by
   have : ({ fr with defers := [] } : Frame) = fr := by cases fr; simp_all
   rw [this]; exact Steps.refl P _⟩
 | d :: ds, fr, cs, w, hm, hd, ⟨r, ht, hr, h⟩ => by
  obtain ⟨w', hK, hs⟩ := vbj ds { fr with defers := [] ++ ds } cs _ hm rfl h
  exact ⟨w', hK, Steps.head (step_collected (by rw [hm]; simp) hd ht (run_takeDeferred hr)) hs⟩
def bodyPostM (P : Program) (fn : Func) (R : Ending → World → Prop) : Exit → Act → World → Prop
 | .normal, a, w | .ret, a, w => Takes a.defers w (fun w' => ∃ v, (results fn a.tmps).run P w' = .ok v w' ∧ R (.returned v) w')
 | .outgrown, _, w => R .outgrown w
 | _, _, _ => False
theorem calls_of_wp_marks {P : Program} {f : FuncId} {fn : Func} {c : Code} {args : Array Value} {w : World} {R : Ending → World → Prop}
  (hf : P.funcs[f]? = some fn) (hb : fn.body = some c)
  (h : c.wp P (bodyPostM P fn R) { tmps := args ++ Array.replicate (fn.ntmps - args.size) undef, defers := [] } w) : Calls P f args w R := by
 intro cs
 let b : Frame := { (default : Frame) with fn := f, kind := .normal }
 have henter : Frame.enter P f args .normal = b.at { tmps := args ++ Array.replicate (fn.ntmps - args.size) undef, defers := [] } [.code c] := by
  simp [Frame.enter, Frame.at, hf, hb, b]
 obtain ⟨e, a', w', hq, harr⟩ := h b [] cs
 rw [← henter] at harr
 cases e with
 | normal =>
  obtain ⟨w2, ⟨v, hr, hR⟩, hs⟩ := vbj (P := P) a'.defers { b.at a' [] with mode := .returning } cs w' rfl rfl hq
  exact ⟨.returned v, w2, _, hR, Steps.trans harr (.head step_end hs), rfl, rfl, rfl, rfl, fn, hf, hr⟩
 | ret =>
  obtain ⟨todo, hs0⟩ := harr
  obtain ⟨w2, ⟨v, hr, hR⟩, hs⟩ := vbj (P := P) a'.defers { b.at a' todo with mode := .returning } cs w' rfl rfl hq
  exact ⟨.returned v, w2, _, hR, Steps.trans hs0 hs, rfl, rfl, rfl, rfl, fn, hf, hr⟩
 | panic chain => exact hq.elim
 | exit id => exact hq.elim
 | goto l => exact hq.elim
 | outgrown => exact ⟨.outgrown, w', b, hq, harr.resolve_left (by simp [b]), rfl, trivial⟩
def noDefer (ops : Array Oper) : Bool := ops.toList.all (fun o => match o.op with | .defer _ => false | _ => true)
theorem vdS {ops : Array Oper} (h : noDefer ops = true) {i : Nat} {o : Oper} (hi : ops[i]? = some o) : ∀ c, o.op ≠ .defer c := by
 intro c hc
 have hm : o ∈ ops.toList := by
  rw [Array.mem_toList_iff]
  exact Array.mem_of_getElem? hi
 have := List.all_eq_true.1 h o hm
 rw [hc] at this
 cases this
theorem vcK {l : Nat} {P : Program} {ops : Array Oper} {Q : Exit → Act → World → Prop} (hQ : ¬ LetsOut Q) (hnd : noDefer ops = true) {i : Nat} {K : Act → World → Prop} {a : Act} {w : World}
  (h : wpOp P ops Q i K a w) : wpOpIn (Fence.wide.inRound l) 0 P ops Q i K a w := by
 unfold wpOp at h
 unfold wpOpIn
 cases ho : ops[i]? with
 | none => rw [ho] at h; exact h
 | some o =>
  rw [ho] at h
  simp only at h ⊢
  split
  ·rename_i hw
   rw [if_pos hw] at h
   rcases h with h | h
   ·refine ⟨fun _ _ => trivial, ?_⟩
    rw [Oper.semAt_eq _ _ _ (vdS hnd ho)]
    unfold Oper.wp at h
    generalize (execOp a.eval o).run P w = r at h
    unfold Oper.upon at h
    unfold Oper.uponIn
    split at h
    ·exact h
    ·exact h
    ·exact h
    ·exact ⟨(fun h => by cases h), CallsIn.inRound l (callsIn_wide.2 (h.mono fun e w'' hh => by cases e <;> exact hh))⟩
    ·exact ⟨(fun h => by cases h), fun c cs _ => let ⟨v, w', r, s⟩ := h c cs; ⟨v, w', r, stepsIn_wide.2 s⟩⟩
    ·exact h
    ·exact h.elim
   ·exact absurd h.2 hQ
  ·rename_i hw
   rw [if_neg hw] at h
   exact ⟨fun _ _ => trivial, h⟩
theorem vaQ {l : Nat} {P : Program} {ops : Array Oper} {Q : Exit → Act → World → Prop} (hQ : ¬ LetsOut Q) (hnd : noDefer ops = true) {md : Region.Mode} : ∀ (fuel : Nat) (listed : Array Bool) (a : Act) (w : World),
  wpAny P md ops Q fuel listed a w → wpAnyIn (Fence.wide.inRound l) 0 P md ops Q fuel listed a w
 | 0, _, _, _, h => h
 | fuel + 1, listed, a, w, h => ⟨h.1, fun i hi => wpOpIn_mono (fun a w hh => vaQ hQ hnd fuel _ a w hh) (vcK hQ hnd (h.2 i hi))⟩
theorem vjn {Q : Exit → Act → World → Prop} {K : Act → World → Prop} (h : ¬ LetsOut Q) : ¬ LetsOut (Exit.then K Q) := fun ⟨a, w, hh⟩ => h ⟨a, w, hh⟩
theorem vaR {Q : Exit → Act → World → Prop} {id : Nat} (h : ¬ LetsOut Q) : ¬ LetsOut (Exit.inBlock id Q) := fun ⟨a, w, hh⟩ => h ⟨a, w, hh⟩
theorem vbW {w : World} {I : Nat → World → Prop} {Ix : Code → Nat → World → Prop} {k : Nat} {W : World} : ¬ LetsOut (rndPost w I Ix k W) := fun ⟨_, _, hh⟩ => hh
end

end Go.Proofs.YtgopnfacklmkaaaGreatDoor
