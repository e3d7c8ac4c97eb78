/- Lemmas and contracts for the theorem of this claim: RpC, RpD, Law, Lay14, SoL. -/
import Derived.Test.YtgopnfacklmkaaaGreatDoorZwAv
import Derived.Test.YtgopnfacklmkaaaGreatDoorRows
import Derived.ProofKit
import Derived.Lib.SmallJoins
import Derived.Deep.Slices
import Derived.Deep.Fields
import Derived.ChangeSame
import Derived.LaidMore
import Derived.OpenShut
import Derived.Stop.Joined
import Derived.Shelf.SlSortCmp.WholeK
set_option linter.all false
set_option maxHeartbeats 16000000
namespace Go.Proofs.YtgopnfacklmkaaaGreatDoor
section
open Go.RowKit
structure ChZ where
 ga : Nat
 gb : Nat
 v1 : Value
 v2 : Value
def chW (v0 : Value) (z : ChZ) (p q : Bool) : Value := if q then z.v2 else if p then z.v1 else v0
def chQ (X Y Z : List Nat) (p q : Bool) : List Nat := if q then X ++ Y ++ Z else if p then X ++ Y else X
structure ChM (w : World) (v0 : Value) (X Y Z : List Nat) (z : ChZ) (L : Nat → Bool) (W : World) : Prop where
 kp : Kp w W
 own : Own W w.heap.size 5 1 byN (chW v0 z (L 4) (L 8)) (chQ X Y Z (L 4) (L 8))
 a : L 3 = true → L 4 = false → Blk W z.ga 5 (bysC Y) ∧ (chW v0 z (L 4) (L 8)).ownBlock ≠ some z.ga
 b : L 7 = true → L 8 = false → Blk W z.gb 5 (bysC Z) ∧ (chW v0 z (L 4) (L 8)).ownBlock ≠ some z.gb
section
variable {w W W' : World} {v0 : Value} {X Y Z : List Nat} {z : ChZ} {L L' : Nat → Bool}
theorem ChM.start (k : Kp w W) (h : Own W w.heap.size 5 1 byN v0 X) : ChM w v0 X Y Z z (fun _ => false) W.drew := ⟨k.drew, h.drew, fun h => (by cases h), fun h => (by cases h)⟩
theorem ChM.cong (q : ∀ j ∈ [3, 4, 7, 8], L' j = L j) (h : ChM w v0 X Y Z z L W) : ChM w v0 X Y Z z L' W := by
 have q3 := q 3 (by simp)
 have q4 := q 4 (by simp)
 have q7 := q 7 (by simp)
 have q8 := q 8 (by simp)
 obtain ⟨h1, h2, h3, h4⟩ := h
 rw [← q4, ← q8] at h2 h3 h4
 rw [← q3] at h3
 rw [← q7] at h4
 exact ⟨h1, h2, h3, h4⟩
theorem ChM.at3 (h : ChM w v0 X Y Z z L W) (h8 : L 8 = false) (k : Kp W W') (hB : Blk W' W.heap.size 5 (bysC Y)) : ChM w v0 X Y Z { z with ga := W.heap.size } (fun j => j == 3 || L j) W' := by
 have hne := fun q hq => (World.ownsRow.lt h.own q hq).2
 refine ⟨h.kp.trans k, h.own.keep k, fun _ _ => ⟨hB, fun e => ?_⟩, fun d d8 => ?_⟩
 ·exact absurd (hne _ e) (Nat.lt_irrefl _)
 ·exact ⟨(h.b d d8).1.keep k, (h.b d d8).2⟩
theorem ChM.at7 (h : ChM w v0 X Y Z z L W) (k : Kp W W') (hB : Blk W' W.heap.size 5 (bysC Z)) : ChM w v0 X Y Z { z with gb := W.heap.size } (fun j => j == 7 || L j) W' := by
 have hne := fun q hq => (World.ownsRow.lt h.own q hq).2
 refine ⟨h.kp.trans k, h.own.keep k, fun d d4 => ?_, fun _ _ => ⟨hB, fun e => ?_⟩⟩
 ·exact ⟨(h.a d d4).1.keep k, (h.a d d4).2⟩
 ·exact absurd (hne _ e) (Nat.lt_irrefl _)
theorem ChM.own0 (h : ChM w v0 X Y Z z L W) (h4 : L 4 = false) (h8 : L 8 = false) : Own W w.heap.size 5 1 byN v0 X := by
 have := h.own
 unfold chW chQ at this
 simpa [h4, h8] using this
theorem ChM.own1 (h : ChM w v0 X Y Z z L W) (h4 : L 4 = true) (h8 : L 8 = false) : Own W w.heap.size 5 1 byN z.v1 (X ++ Y) := by
 have := h.own
 unfold chW chQ at this
 simpa [h4, h8] using this
theorem ChM.own2 (h : ChM w v0 X Y Z z L W) (h8 : L 8 = true) : Own W w.heap.size 5 1 byN z.v2 (X ++ Y ++ Z) := by
 have := h.own
 unfold chW chQ at this
 simpa [h8] using this
theorem ChM.at4 {v : Value} (h : ChM w v0 X Y Z z L W) (h4 : L 4 = false) (h8 : L 8 = false) (hO : Own W' w.heap.size 5 1 byN v (X ++ Y)) (hg : W.grownBy W' v0.ownBlock) (hv : v.ownBlock = v0.ownBlock ∨ v.ownBlock = some W.heap.size) : ChM w v0 X Y Z { z with v1 := v } (fun j => j == 4 || L j) W' := by
 have e : chW v0 z (L 4) (L 8) = v0 := by simp [chW, h4, h8]
 have e8 : (8 == 4 || L 8) = false := by simp [h8]
 refine ⟨h.kp.grown hg (fun q hq => (World.ownsRow.lt (h.own0 h4 h8) q hq).1), ?_, fun _ d4 => ?_, fun d d8 => ?_⟩
 ·rw [e8]
  simpa [chW, chQ] using hO
 ·have : (true || L 4) = false := d4
  cases this
 ·obtain ⟨b1, b2⟩ := h.b d h8
  rw [e] at b2
  refine ⟨b1.grown hg (fun q => b2 q.symm), ?_⟩
  rw [e8]
  show v.ownBlock ≠ some z.gb
  intro q
  rcases hv with hv | hv
  ·rw [hv] at q
   exact b2 q
  ·rw [hv] at q
   injection q with q
   have := b1.lt
   omega
theorem ChM.at8 {v : Value} (h : ChM w v0 X Y Z z L W) (h4 : L 4 = true) (h8 : L 8 = false) (hO : Own W' w.heap.size 5 1 byN v (X ++ Y ++ Z)) (hg : W.grownBy W' z.v1.ownBlock) : ChM w v0 X Y Z { z with v2 := v } (fun j => j == 8 || L j) W' := by
 refine ⟨h.kp.grown hg (fun q hq => (World.ownsRow.lt (h.own1 h4 h8) q hq).1), ?_, fun _ d4 => ?_, fun _ d8 => ?_⟩
 ·simpa [chW, chQ] using hO
 ·have : L 4 = false := d4
  rw [h4] at this
  cases this
 ·have : (true || L 8) = false := d8
  cases this
end
structure FtM (w : World) (X Y : List Nat) (z : ChZ) (L : Nat → Bool) (W : World) : Prop where
 kp : Kp w W
 a : L 3 = true → L 8 = false → Blk W z.ga 5 (bysC X) ∧ w.heap.size ≤ z.ga
 b : L 7 = true → L 8 = false → Blk W z.gb 5 (bysC Y)
 o : L 8 = true → Own W w.heap.size 5 1 byN z.v1 (X ++ Y)
theorem vbD {α : Type} {enc : α → List Value} {P : Program} {t e : TypeId} {z : Value} {size bytes : Nat} (E : ElemOf P t e z size bytes) (henc : ∀ x, (enc x).length = size) (hone : ∀ x, ∀ u ∈ enc x, u.oneCell' = true)
  {w : World} {o : Oper} {a f : Act} {K : Act → World → Prop} {Q : Exit → Act → World → Prop} (s x : Operand) (ho : o.op = .call { callee := .builtin .append, args := #[s, x], argTypes := #[t, t] })
  {base : Nat} {v : Value} {xs ys : List α} {A : Option Addr} {c : Nat} (hs : f.eval s = v) (hx : f.eval x = .slice A ys.length c) (hown : Own w base e size enc v xs) (hrd : Rd w size enc A ys)
  (hfit : (xs.length + ys.length) * (bytes + 1) ≤ 140737488355328) (hbase : base ≤ w.heap.size)
  (h : ∀ v' w', Own w' base e size enc v' (xs ++ ys) → w.grownBy w' v.ownBlock → (v'.ownBlock = v.ownBlock ∨ v'.ownBlock = some w.heap.size) → K (a.put o.dst v') w') : o.upon P a K Q ((execOp f.eval o).run P w) := by
 obtain ⟨v', w', hr, h1, h2, h3⟩ := vbN E o.type henc hone hown hrd hfit hbase
 simp [execOp, ho, resolve, invoke, builtin, hs, hx, Result.andThen]
 rw [hr]
 exact h v' w' h1 h2 h3
theorem vcO {α : Type} {enc : α → List Value} {P : Program} {t e : TypeId} {z : Value} {size bytes : Nat} (E : ElemOf P t e z size bytes) (henc : ∀ x, (enc x).length = size) (hone : ∀ x, ∀ u ∈ enc x, u.oneCell' = true)
  {w : World} {o : Oper} {a : Act} {K : Act → World → Prop} {Q : Exit → Act → World → Prop} (hgd : o.guard = none) (s x : Operand) (ho : o.op = .call { callee := .builtin .append, args := #[s, x], argTypes := #[t, t] })
  {base : Nat} {v : Value} {xs ys : List α} {A : Option Addr} {c : Nat} (hs : a.eval s = v) (hx : a.eval x = .slice A ys.length c) (hown : Own w base e size enc v xs) (hrd : Rd w size enc A ys)
  (hfit : (xs.length + ys.length) * (bytes + 1) ≤ 140737488355328) (hbase : base ≤ w.heap.size)
  (h : ∀ v' w', Own w' base e size enc v' (xs ++ ys) → w.grownBy w' v.ownBlock → (v'.ownBlock = v.ownBlock ∨ v'.ownBlock = some w.heap.size) → K (a.put o.dst v') w') : Oper.wp P o a w K Q := by
 have h1 := vfF (ops := #[]) (Q := Q) (X := True) E henc hone hgd s x ho hs hx hown hrd hfit hbase h
 rwa [if_pos (vcA hgd)] at h1
set_option maxRecDepth 100000 in
theorem vei (e : En) (w : World) (hw : e.wf) (ho : okEn e = true) : Calls Tryz.prog 156 #[enV e] w fun r w' => ∃ v, r = .returned v ∧ Own w' w.heap.size 5 1 byN v (bytesE e) ∧ Kp w w' := by
 obtain ⟨b, hb⟩ : ∃ b, w.heap.size = b := ⟨_, rfl⟩
 obtain ⟨W, hWq, kW, B0⟩ := Blk.al1 hb (enC e) 66
 unfold enC at hWq
 have HB0 := Lib.hid B0
 have HkW := Lib.hid kW
 obtain ⟨w1, w2, w3, w4⟩ := hw
 obtain ⟨o1, o2, o3, o4⟩ := (vhp e).1 ho
 obtain ⟨fm, hf⟩ := Int.eq_ofNat_of_zero_le o1
 obtain ⟨t, ht⟩ := Int.eq_ofNat_of_zero_le o3
 have hfb : fm < 65536 := by omega
 have htb : t < 65536 := by omega
 have Hf : Hid (e.f = (fm : Int)) := Lib.hid hf
 have Ht : Hid (e.t = (t : Int)) := Lib.hid ht
 have HBY : Hid (bytesE e = beN fm 2 ++ beN t 2 ++ beN e.a 4 ++ beN e.m 4 ++ beN e.n 4 ++ beN e.k 4) := Lib.hid (by
  have h1 : e.f.toNat = fm := by rw [hf]; rfl
  have h2 : e.t.toNat = t := by rw [ht]; rfl
  unfold bytesE
  rw [h1, h2]
  simp only [List.append_assoc])
 have hwf : IntKind.u32.wrap (fm : Int) = (fm : Int) := by show (fm : Int) % 4294967296 = _; omega
 have hwt : IntKind.u32.wrap (t : Int) = (t : Int) := by show (t : Int) % 4294967296 = _; omega
 clear kW B0 hf ht o1 o2 o3 o4 ho
 go_enter Tryz.func156, Tryz.ntmps156
 go_upto_region 1 with (fail)
 clear hWq
 refine' vaz (FtM W (beN fm 2) (beN t 2)) [4, 5, 6, 7, 8, 9, 10, 11, 12, 3] (fun z => [.pointer (some ⟨b, 0, none⟩), .int .i64 e.f, .int .u32 (fm : Int), .slice (some ⟨z.ga, 0, none⟩) 2 2, .pointer (some ⟨b, 1, none⟩), .int .i64 e.t, .int .u32 (t : Int), .slice (some ⟨z.gb, 0, none⟩) 2 2, z.v1, z.v1]) (List.replicate 10 true) [3, 7, 8] (by kernel_rfl) (by kernel_rfl) (fun _ => rfl) (fun _ => rfl) (fun _ => rfl) ⟨0, 0, undef, undef⟩ ⟨(Kp.refl _).drew, fun h => (by cases h), fun h => (by cases h), fun h => (by cases h)⟩ (fun _ _ _ _ q h => by have q3 := q 3 (by simp); have q7 := q 7 (by simp); have q8 := q 8 (by simp); exact ⟨h.kp, fun d d8 => h.a (q3 ▸ d) (q8 ▸ d8), fun d d8 => h.b (q7 ▸ d) (q8 ▸ d8), fun d => h.o (q8 ▸ d)⟩) ?_ ?_ ?_
 rotate_left
 ·intro z; simp only [List.zip_cons_cons, List.zip_nil_right, wrC, wrN, List.set_cons_zero, List.set_cons_succ, List.set_nil]; rfl
 ·repeat' (first | refine And.intro ?_ ?_ | exact trivial)
  all_goals intro z L a w9 hLi d hcl hM hO K hK
  all_goals have u := Blk.f (HB0.out.keep hM.kp) rfl
  all_goals try (go_simp; exact hK z _ _ (hO rfl) (fun _ _ => rfl) rfl)
  ·rw [Hf.out]
   go_simp
   exact hK z _ _ (hO rfl) (fun _ _ => rfl) rfl
  ·have n8 := vai _ hcl (i := 8) (j := 3) rfl rfl hLi
   go_simp
   refine (veB fm _ hfb).mono ?_
   rintro e9 wb ⟨rfl, hB, hKc⟩
   exact hK { z with ga := w9.heap.size } _ _ ⟨hM.kp.trans hKc, fun _ _ => ⟨hB, hM.kp.size⟩, fun d d8 => (hM.b d d8).keep hKc, fun d => absurd (n8.symm.trans d) (by decide)⟩ (but1 hLi rfl) rfl
  ·rw [Ht.out]
   go_simp
   exact hK z _ _ (hO rfl) (fun _ _ => rfl) rfl
  ·have n8 := vai _ hcl (i := 8) (j := 7) rfl rfl hLi
   go_simp
   refine (veB t _ htb).mono ?_
   rintro e9 wb ⟨rfl, hB, hKc⟩
   exact hK { z with gb := w9.heap.size } _ _ ⟨hM.kp.trans hKc, fun d d8 => ⟨(hM.a d d8).1.keep hKc, (hM.a d d8).2⟩, fun _ _ => hB, fun d => absurd (n8.symm.trans d) (by decide)⟩ (but1 hLi rfl) rfl
  ·have n9 := vai _ hcl (i := 9) (j := 8) rfl rfl hLi
   obtain ⟨a1, a2⟩ := hM.a (d 3 rfl) hLi
   have b1 := hM.b (d 7 rfl) hLi
   refine vbD EByt vaj vba (.tmp 7) (.tmp 11) rfl (v := .slice (some ⟨z.ga, 0, none⟩) 2 2) (A := some ⟨z.gb, 0, none⟩) (c := 2) (xs := beN fm 2) (ys := beN t 2) rfl rfl (vfY (xs := beN fm 2) a1 a2 vaj (by simp [beN, maxLen]) (vdr _)) (vds b1 (by simp [beN, maxLen])) (by simp [beN]) hM.kp.size (fun v5 w5 h1 h2 h3 => ?_)
   exact hK { z with v1 := v5 } _ _ ⟨hM.kp.grown h2 (fun q hq => by have : some z.ga = some q := hq; injection this with this; omega), fun _ d8 => absurd (show (true || L 8) = false from d8) (by simp), fun _ d8 => absurd (show (true || L 8) = false from d8) (by simp), fun _ => h1⟩ (but2 hLi n9 rfl) rfl
 intro z L w9 hL hM
 (try simp only [Exit.then])
 obtain ⟨k1, hO1⟩ : Kp W w9 ∧ Own w9 W.heap.size 5 1 byN z.v1 (beN fm 2 ++ beN t 2) := ⟨hM.kp, hM.o (hL 8 (by decide))⟩
 obtain ⟨v1, hv1⟩ : ∃ v1, z.v1 = v1 := ⟨_, rfl⟩
 rw [hv1] at hO1 ⊢
 have HO1 := Lib.hid hO1
 have HK1 := Lib.hid k1
 clear hM hL hO1 k1 hv1 L
 go_upto_region 2 with (fail)
 refine vfJ (ChM W v1 (beN fm 2 ++ beN t 2) (beN e.a 4) (beN e.m 4)) [13, 14, 15, 16, 17, 18, 19, 20, 21, 3] (fun z => [v1, .pointer (some ⟨b, 2, none⟩), .int .u32 (e.a : Int), .slice (some ⟨z.ga, 0, none⟩) 4 4, z.v1, .pointer (some ⟨b, 3, none⟩), .int .u32 (e.m : Int), .slice (some ⟨z.gb, 0, none⟩) 4 4, z.v2, z.v2]) [true, true, true, true, true, true, true, true, true, true] (by kernel_rfl) (by kernel_rfl) (by kernel_rfl) (by kernel_rfl) rfl (fun _ => rfl) (by decide) (fun _ => rfl) (fun _ => rfl) ⟨0, 0, undef, undef⟩ (ChM.start HK1.out HO1.out) ?_ ?_ ?_
 ·intro z i L w9 hi hu hLi hM
  have hall : ∀ i, i < 10 → [true, true, true, true, true, true, true, true, true, true].getD i true = true := by decide
  rw [hall i hi] at hu
  cases hu
 ·intro z i o L a w9 ho hw hLi d hcl f hgo u hM K hK
  have hi : i < 10 := by have := (List.getElem?_eq_some_iff.1 ho).1; simpa using this
  have hcs : i = 0 ∨ i = 1 ∨ i = 2 ∨ i = 3 ∨ i = 4 ∨ i = 5 ∨ i = 6 ∨ i = 7 ∨ i = 8 ∨ i = 9 := by omega
  clear hi
  rcases hcs with rfl | rfl | rfl | rfl | rfl | rfl | rfl | rfl | rfl | rfl
  all_goals
   first | simp only [List.getElem?_cons_zero, List.getElem?_cons_succ, Option.some.injEq] at ho | replace ho := Option.some.inj ho
   subst ho
  ·have t3 : a.tmps[3]?.getD undef = v1 := u 9 (by decide) (vai _ hcl (i := 9) rfl rfl hLi)
   unfold Oper.wp
   simp only [execOp, Act.eval, Array.getD_eq_getD_getElem?]
   go_simp
   exact hK z _ _ ((hM.cong (fun j hj => by have this : (j == 0) = false := (by rw [beq_eq_false_iff_ne]; rintro rfl; simp at hj); rw [this, Bool.false_or]))) (fun _ _ => rfl) rfl
  ·have t1 : a.tmps[1]?.getD undef = .pointer (some ⟨b, 0, none⟩) := hgo 1 (by decide)
   unfold Oper.wp
   simp only [execOp, Act.eval, Array.getD_eq_getD_getElem?]
   go_simp
   exact hK z _ _ ((hM.cong (fun j hj => by have this : (j == 1) = false := (by rw [beq_eq_false_iff_ne]; rintro rfl; simp at hj); rw [this, Bool.false_or]))) (fun _ _ => rfl) rfl
  ·have t14 : a.tmps[14]?.getD undef = .pointer (some ⟨b, 2, none⟩) := f 1 rfl
   have u9 := Blk.f (HB0.out.keep hM.kp) rfl
   unfold Oper.wp
   simp only [execOp, Act.eval, Array.getD_eq_getD_getElem?]
   go_simp
   exact hK z _ _ ((hM.cong (fun j hj => by have this : (j == 2) = false := (by rw [beq_eq_false_iff_ne]; rintro rfl; simp at hj); rw [this, Bool.false_or]))) (fun _ _ => rfl) rfl
  ·have t15 : a.tmps[15]?.getD undef = .int .u32 (e.a : Int) := f 2 rfl
   unfold Oper.wp
   simp only [execOp, Act.eval, Array.getD_eq_getD_getElem?]
   have n4 := vai _ hcl (i := 4) (j := 3) rfl rfl hLi
   have n8 := vai _ hcl (i := 8) (j := 4) rfl rfl n4
   go_simp
   refine (vbY e.a _ w1).mono ?_
   rintro e9 wb ⟨rfl, hB, hKc⟩
   exact hK { z with ga := w9.heap.size } _ _ (hM.at3 n8 hKc hB) (but1 hLi rfl) rfl
  ·have t13 : a.tmps[13]?.getD undef = v1 := f 0 rfl
   have t16 : a.tmps[16]?.getD undef = .slice (some ⟨z.ga, 0, none⟩) 4 4 := f 3 rfl
   have n8 := vai _ hcl (i := 8) (j := 4) rfl rfl hLi
   have a1 := (hM.a (d 3 rfl) hLi).1
   refine vcO EByt vaj vba rfl (.tmp 13) (.tmp 16) rfl (v := v1) (A := some ⟨z.ga, 0, none⟩) (c := 4) (xs := (beN fm 2 ++ beN t 2)) (ys := (beN e.a 4)) (by simp only [Act.eval, Array.getD_eq_getD_getElem?]; exact t13) (by simp only [Act.eval, Array.getD_eq_getD_getElem?]; exact t16) (hM.own0 hLi n8) (vds a1 (by simp [beN, maxLen])) (by simp [beN]) hM.kp.size (fun v5 w5 h1 h2 h3 => ?_)
   exact hK { z with v1 := v5 } _ _ (hM.at4 hLi n8 h1 h2 h3) (but1 hLi rfl) rfl
  ·have t1 : a.tmps[1]?.getD undef = .pointer (some ⟨b, 0, none⟩) := hgo 1 (by decide)
   unfold Oper.wp
   simp only [execOp, Act.eval, Array.getD_eq_getD_getElem?]
   go_simp
   exact hK z _ _ ((hM.cong (fun j hj => by have this : (j == 5) = false := (by rw [beq_eq_false_iff_ne]; rintro rfl; simp at hj); rw [this, Bool.false_or]))) (fun _ _ => rfl) rfl
  ·have t18 : a.tmps[18]?.getD undef = .pointer (some ⟨b, 3, none⟩) := f 5 rfl
   have u9 := Blk.f (HB0.out.keep hM.kp) rfl
   unfold Oper.wp
   simp only [execOp, Act.eval, Array.getD_eq_getD_getElem?]
   go_simp
   exact hK z _ _ ((hM.cong (fun j hj => by have this : (j == 6) = false := (by rw [beq_eq_false_iff_ne]; rintro rfl; simp at hj); rw [this, Bool.false_or]))) (fun _ _ => rfl) rfl
  ·have t19 : a.tmps[19]?.getD undef = .int .u32 (e.m : Int) := f 6 rfl
   unfold Oper.wp
   simp only [execOp, Act.eval, Array.getD_eq_getD_getElem?]
   go_simp
   refine (vbY e.m _ w2).mono ?_
   rintro e9 wb ⟨rfl, hB, hKc⟩
   exact hK { z with gb := w9.heap.size } _ _ (hM.at7 hKc hB) (but1 hLi rfl) rfl
  ·have t17 : a.tmps[17]?.getD undef = z.v1 := f 4 rfl
   have t20 : a.tmps[20]?.getD undef = .slice (some ⟨z.gb, 0, none⟩) 4 4 := f 7 rfl
   have n9 := vai _ hcl (i := 9) (j := 8) rfl rfl hLi
   have l4 := d 4 rfl
   have b1 := (hM.b (d 7 rfl) hLi).1
   refine vcO EByt vaj vba rfl (.tmp 17) (.tmp 20) rfl (v := z.v1) (A := some ⟨z.gb, 0, none⟩) (c := 4) (xs := (beN fm 2 ++ beN t 2) ++ (beN e.a 4)) (ys := (beN e.m 4)) (by simp only [Act.eval, Array.getD_eq_getD_getElem?]; exact t17) (by simp only [Act.eval, Array.getD_eq_getD_getElem?]; exact t20) (hM.own1 l4 hLi) (vds b1 (by simp [beN, maxLen])) (by simp [beN]) hM.kp.size (fun v5 w5 h1 h2 h3 => ?_)
   exact hK { z with v2 := v5 } _ _ (hM.at8 l4 hLi h1 h2) (but2 hLi n9 rfl) rfl
  ·have t21 : a.tmps[21]?.getD undef = z.v2 := f 8 rfl
   unfold Oper.wp
   simp only [execOp, Act.eval, Array.getD_eq_getD_getElem?]
   go_simp
   exact hK z _ _ ((hM.cong (fun j hj => by have this : (j == 9) = false := (by rw [beq_eq_false_iff_ne]; rintro rfl; simp at hj); rw [this, Bool.false_or]))) (fun _ _ => rfl) rfl
 intro z L w9 hL hM
 (try simp only [Exit.then])
 simp only [wrS, List.zip_cons_cons, List.zip_nil_right, List.foldl_cons, List.foldl_nil, List.setIfInBounds_toArray, List.set_cons_zero, List.set_cons_succ]
 have k2 := hM.kp
 have hO2 := hM.own2 (hL 8 (by decide))
 obtain ⟨v2, hv2⟩ : ∃ v2, z.v2 = v2 := ⟨_, rfl⟩
 rw [hv2] at hO2 ⊢
 have HO2 := Lib.hid hO2
 have HK2 := Lib.hid k2
 clear hM hL hO2 k2 hv2 L
 go_upto_region 3 with (fail)
 refine' vaz (ChM W v2 (beN fm 2 ++ beN t 2 ++ beN e.a 4 ++ beN e.m 4) (beN e.n 4) (beN e.k 4)) [22, 23, 24, 25, 26, 27, 28, 29, 30, 2] (fun z => [v2, .pointer (some ⟨b, 4, none⟩), .int .u32 (e.n : Int), .slice (some ⟨z.ga, 0, none⟩) 4 4, z.v1, .pointer (some ⟨b, 5, none⟩), .int .u32 (e.k : Int), .slice (some ⟨z.gb, 0, none⟩) 4 4, z.v2, z.v2]) (List.replicate 10 true) [3, 4, 7, 8] (by kernel_rfl) (by kernel_rfl) (fun _ => rfl) (fun _ => rfl) (fun _ => rfl) ⟨0, 0, undef, undef⟩ (ChM.start HK2.out HO2.out) (fun _ _ _ _ q h => ChM.cong q h) ?_ ?_ ?_
 rotate_left
 ·intro z; simp only [List.zip_cons_cons, List.zip_nil_right, wrC, wrN, List.set_cons_zero, List.set_cons_succ, List.set_nil]; rfl
 ·repeat' (first | refine And.intro ?_ ?_ | exact trivial)
  all_goals intro z L a w9 hLi d hcl hM hO K hK
  all_goals have u := Blk.f (HB0.out.keep hM.kp) rfl
  all_goals try (go_simp; exact hK z _ _ (hO rfl) (fun _ _ => rfl) rfl)
  ·have n4 := vai _ hcl (i := 4) (j := 3) rfl rfl hLi
   have n8 := vai _ hcl (i := 8) (j := 4) rfl rfl n4
   go_simp
   refine (vbY e.n _ w3).mono ?_
   rintro e9 wb ⟨rfl, hB, hKc⟩
   exact hK { z with ga := w9.heap.size } _ _ (hM.at3 n8 hKc hB) (but1 hLi rfl) rfl
  ·have n8 := vai _ hcl (i := 8) (j := 4) rfl rfl hLi
   have a1 := (hM.a (d 3 rfl) hLi).1
   refine vbD EByt vaj vba (.tmp 22) (.tmp 25) rfl (v := v2) (A := some ⟨z.ga, 0, none⟩) (c := 4) (xs := (beN fm 2 ++ beN t 2 ++ beN e.a 4 ++ beN e.m 4)) (ys := (beN e.n 4)) rfl rfl (hM.own0 hLi n8) (vds a1 (by simp [beN, maxLen])) (by simp [beN]) hM.kp.size (fun v5 w5 h1 h2 h3 => ?_)
   exact hK { z with v1 := v5 } _ _ (hM.at4 hLi n8 h1 h2 h3) (but1 hLi rfl) rfl
  ·go_simp
   refine (vbY e.k _ w4).mono ?_
   rintro e9 wb ⟨rfl, hB, hKc⟩
   exact hK { z with gb := w9.heap.size } _ _ (hM.at7 hKc hB) (but1 hLi rfl) rfl
  ·have n9 := vai _ hcl (i := 9) (j := 8) rfl rfl hLi
   have l4 := d 4 rfl
   have b1 := (hM.b (d 7 rfl) hLi).1
   refine vbD EByt vaj vba (.tmp 26) (.tmp 29) rfl (v := z.v1) (A := some ⟨z.gb, 0, none⟩) (c := 4) (xs := (beN fm 2 ++ beN t 2 ++ beN e.a 4 ++ beN e.m 4) ++ (beN e.n 4)) (ys := (beN e.k 4)) rfl rfl (hM.own1 l4 hLi) (vds b1 (by simp [beN, maxLen])) (by simp [beN]) hM.kp.size (fun v5 w5 h1 h2 h3 => ?_)
   exact hK { z with v2 := v5 } _ _ (hM.at8 l4 hLi h1 h2) (but2 hLi n9 rfl) rfl
 intro z L w9 hL hM
 (try simp only [Exit.then])
 have k3 := hM.kp
 have hO3 := hM.own2 (hL 8 (by decide))
 rw [← HBY.out] at hO3
 have HO3 := Lib.hid (hO3.mono HkW.out.size)
 have HK3 := Lib.hid (HkW.out.trans k3)
 clear hM hL hO3 k3
 go_wp2_with fail
 go_ret
 exact ⟨_, rfl, HO3.out, HK3.out⟩
end

section
open Go.RowKit
set_option maxRecDepth 100000 in
theorem vej (c : Int) (A : Option Addr) (m : Nat) (es : List En) (w : World) (hc : 0 ≤ c ∧ c < 256) (hR : Rd w 6 En.enc A es) (hw : ∀ e ∈ es, e.wf) (ho : es.all okEn = true) (hn : es.length ≤ 1000) : Calls Tryz.prog 90 #[dgV c A es.length m] w fun r w' => ∃ v, r = .returned v ∧ Own w' w.heap.size 5 1 byN v (bytesD c es) ∧ Kp w w' := by
 obtain ⟨b, hb⟩ : ∃ b, w.heap.size = b := ⟨_, rfl⟩
 obtain ⟨W, hWq, kW, B0⟩ := Blk.al1 hb #[.int .i64 c, .slice A es.length m] 30
 have u := Blk.f B0 rfl
 have hsz : b + 1 ≤ W.heap.size := B0.lt
 obtain ⟨W2, hW2, k2, B2⟩ := Blk.al1 (w := W) rfl #[.int .u8 c, .int .u8 2, .int .u8 0, .int .u8 0] 5
 have HC : Hid (c = ((c.toNat : Nat) : Int) ∧ c.toNat < 256) := Lib.hid (by omega)
 have hcw : IntKind.u8.wrap c = c := by show c % 256 = c; omega
 have HD : Hid (bytesD c es = [c.toNat, 2, 0, 0] ++ es.flatMap bytesE) := Lib.hid rfl
 have R0 : Hid (Own W2 (b + 1) 5 1 byN (.slice (some ⟨W.heap.size, 0, none⟩) 4 4) ([c.toNat, 2, 0, 0] ++ (es.take 0).flatMap bytesE)) := Lib.hid (vfY (xs := [c.toNat, 2, 0, 0]) B2 hsz vaj (by simp [maxLen]) (by
  have h := HC.out.1
  simp only [List.flatMap_cons, List.flatMap_nil, byN, List.singleton_append]
  rw [← h]
  rfl))
 have K2 : Kp w W2 := kW.trans k2
 have HB2 := Lib.hid (B0.keep k2)
 have HRw := Lib.hid hR
 have HF := Lib.hid hw
 have HO := Lib.hid ho
 clear hR hw ho hsz B0 B2 kW k2 hc
 go_enter Tryz.func90, Tryz.ntmps90
 go_wp2_with fail
 clear hW2 hWq u
 go_loopw [3, 4] (fun s i wr => ∃ k : Nat, k ≤ es.length ∧ i = .int .i64 k ∧ Hid (Own wr (b + 1) 5 1 byN s ([c.toNat, 2, 0, 0] ++ (es.take k).flatMap bytesE)) ∧ Hid (Blk wr b 30 #[.int .i64 c, .slice A es.length m]) ∧ Kp w wr) (fun _ i _ => es.length - (intOf i).toNat)
 case atStart => exact ⟨0, Nat.zero_le _, rfl, R0, HB2, K2⟩
 case round =>
  obtain ⟨k, hk, rfl, HOw, HBk, hK⟩ := hrel
  have u := Blk.f HBk.out rfl
  by_cases hlt : k < es.length
  ·have hki : (k : Int) < (es.length : Int) := by omega
   have hk0 : (0 : Int) ≤ (k : Int) := by omega
   obtain ⟨b9, off, hA, x0, x1, x2, x3, x4, x5⟩ := en_at (HRw.out.keep hK) hlt
   subst hA
   obtain ⟨e, he⟩ : ∃ e, es[k] = e := ⟨_, rfl⟩
   rw [he] at x0 x1 x2 x3 x4 x5
   have HE2 := Lib.hid (show e.wf by rw [← he]; exact HF.out _ (List.getElem_mem hlt))
   have HO2 : Hid (okEn e = true) := Lib.hid (by rw [← he]; exact List.all_eq_true.1 HO.out _ (List.getElem_mem hlt))
   have HT := Lib.hid (veN hlt)
   rw [he] at HT
   have hl9 : ([c.toNat, 2, 0, 0] ++ (es.take k).flatMap bytesE).length ≤ 100000 := by
    rw [List.length_append, vdn, List.length_take]
    simp only [List.length_cons, List.length_nil]
    omega
   have hfit : (([c.toNat, 2, 0, 0] ++ (es.take k).flatMap bytesE).length + (bytesE e).length) * (1 + 1) ≤ 140737488355328 := by rw [vcz]; omega
   clear he
   go_wp2_with fail
   refine (vei e _ HE2.out HO2.out).mono ?_
   rintro r w4 ⟨v4, rfl, hO4, K4⟩
   obtain ⟨A4, c4, e4⟩ := hO4.form
   subst e4
   have hr4 := Own.rdAt (by decide) vaj hO4
   have HO4 := Lib.hid (HOw.out.keep K4)
   have hK4 := hK.trans K4
   have hsz : b + 1 ≤ w4.heap.size := Nat.le_trans HBk.out.lt K4.size
   have HB4 := Lib.hid (HBk.out.keep K4)
   clear hO4 K4 u
   go_wp2_with (at_builtin; go_loud (refine vap EByt vaj vba rfl _ _ rfl rfl rfl HO4.out hr4 hfit hsz ?_; intro v' w5 hown hg hat; have HN : Hid (Own w5 (b + 1) 5 1 byN v' ([c.toNat, 2, 0, 0] ++ (es.take (k + 1)).flatMap bytesE)) := Lib.hid (by rw [HT.out, ← List.append_assoc]; exact hown); have hK5 : Kp w w5 := hK4.grown hg (fun q hq => by have := (World.ownsRow.lt HO4.out q hq).1; omega); have HB5 := Lib.hid (HB4.out.grown hg (HO4.out.ne (by omega))); clear hown hg hat))
   go_roundw
   case rel => exact ⟨k + 1, by omega, by go_num, HN, HB5, hK5⟩
   case measure => simp [intOf]; omega
  ·obtain rfl : k = es.length := by omega
   have h1 := HOw.out
   rw [List.take_length, ← HD.out] at h1
   go_wp2_with fail
   go_ret
   exact ⟨_, rfl, h1.mono (by omega), hK⟩
end

section
open Go.ChangeShapes Go.WideShapes Go.ChangeAt Go.RowKit Go.Joins Go.Deep
theorem Tryz.own : ownKnob Tryz.prog.godebug = none := by kernel_rfl
theorem Tryz.laidOut : laidOutB Tryz.prog = true := by kernel_rfl
section
variable {H : Type} {enc : TypeId × Value → H}
theorem vcP {W W' : World} (hK : Kp W W') {sp : Nat → Bool} : ∀ {ts : List TypeId} {vs : List Value} {ds : List (DataW H)} {ps : List MemPlace},
  (∀ t ∈ ts, Tryz.prog.readableRec t = true ∧ t < Tryz.prog.types.size) → (∀ p ∈ ps, p.block < W.heap.size) → (∀ p ∈ ps, sp p.block = true) →
  DataW.TrodAll enc Tryz.prog W 0 (fun _ => true) true ts vs ds ps → DataW.TrodAll enc Tryz.prog W' 0 sp true ts vs ds ps
 | [], [], [], _, _, _, _, h => h
 | [], _ :: _, _, _, _, _, _, h => h.elim
 | [], [], _ :: _, _, _, _, _, h => h.elim
 | _ :: _, [], _, _, _, _, _, h => h.elim
 | _ :: _, _ :: _, [], _, _, _, _, h => h.elim
 | t :: ts, v :: vs, d :: ds, ps, hr, hlt, hsp, ⟨p, q, h1, h2, e⟩ => by
  subst e
  refine ⟨p, q, ?_, vcP hK (fun t ht => hr t (by simp [ht])) (fun x hx => hlt x (by simp [hx])) (fun x hx => hsp x (by simp [hx])) h2, rfl⟩
  exact WideElems.Trod_stays Tryz.laidOut (hr t (by simp)).1 (hr t (by simp)).2 h1 (fun x hx => Below.same hK (hlt x (by simp [hx]))) (fun x hx => hsp x (by simp [hx]))
set_option maxRecDepth 100000 in
theorem viu {f : Func} {s : ChangeSpec} {apart fresh handsOn again : Bool} {W W' : World} {args : Array Value} {ds : List (DataW H)} {before : List MemPlace}
  (hW : DataW.Whole enc Tryz.prog f.params.toList s.vars apart W args.toList ds [] before) (hv : s.vars = []) (hres : f.resultTypes = #[4])
  (h1 : (s.fn H (ds ++ [])).results = [.lit (.bool true)]) (h2 : (s.fn H (ds ++ [])).args = ds) (h3 : (s.fn H (ds ++ [])).vars = [])
  (hr : ∀ t ∈ f.params.toList, Tryz.prog.readableRec t = true ∧ t < Tryz.prog.types.size) (hK : Kp W W') :
  s.post enc Tryz.prog f apart fresh handsOn again W args (.bool true) W' := by
 have hW' := hW
 obtain ⟨p, q, hA, hV, he, hz, hn⟩ := hW'
 rw [hv] at hV
 obtain ⟨_, rfl⟩ := trodVars_none hV
 rw [List.append_nil] at he
 obtain rfl : p = before := he.symm
 have hlt : ∀ x ∈ p, x.block < W.heap.size := fun x hx => hW.lt x (by simpa using hx)
 have hold : ∀ x ∈ p, (fun b => decide (b < W.heap.size)) x.block = true := fun x hx => by simpa using hlt x hx
 have hresults : ∀ (b : Nat) (sp : Nat → Bool) (hd : Bool), DataW.TrodAll enc Tryz.prog W' b sp hd f.resultTypes.toList ((Value.bool true).resultList f.resultTypes.size) (s.fn H (ds ++ [])).results [] := by
  intro b sp hd
  rw [hres, h1]
  exact trodAll_mk1 (shut_bool Tryz.underlying4 true)
 have hargs : ∀ sp : Nat → Bool, (∀ x ∈ p, sp x.block = true) → DataW.TrodAll enc Tryz.prog W' 0 sp true f.params.toList args.toList (s.fn H (ds ++ [])).args p := by
  intro sp hsp
  rw [h2]
  exact vcP hK hr hlt hsp hA
 have hvars : ∀ sp : Nat → Bool, DataW.TrodVars enc Tryz.prog W' sp s.vars (s.fn H (ds ++ [])).vars [] := by
  intro sp; rw [hv, h3]; rfl
 refine ⟨ds, [], p, [], p, [], hW, hresults _ _ _, hargs _ hold, hvars _, World.keptBut_mono (fun x hx => ⟨hx, ?_⟩) (Below.frame hK (· ∈ p)), fun _ => ?_⟩
 ·exact Or.inr (by simpa using hx)
 ·refine ⟨?_, _, _, ([] ++ p) ++ [], ⟨[] ++ p, [], trodAll_append (hargs _ (fun _ _ => rfl)) (hresults _ _ _), hvars _, rfl, ?_, ?_⟩, ?_⟩
  ·exact ok_one hres rfl (okWide_bool_mk Tryz.underlying4 true)
  ·intro b off hp
   have hin : MemPlace.cell b off ∈ p := by simpa using hp
   rw [Below.frozen hK (hlt _ hin)]
   exact hz b off (by simpa using hin)
  ·intro ha
   simpa using hn ha
  ·intro x hx _
   simpa using hx
end
end

section
open Go.ChangeShapes Go.WideShapes Go.ChangeAt Go.RowKit
theorem gCap : Tryz.prog.globalNamed "waywarden/config.capBounds" = some 1 := by kernel_rfl
theorem tCap : (Tryz.prog.globals[1]?).map (·.type) = some 230 := by kernel_rfl
theorem gWid : Tryz.prog.globalNamed "waywarden/octet.widths" = some 2 := by kernel_rfl
theorem tWid : (Tryz.prog.globals[2]?).map (·.type) = some 372 := by kernel_rfl
def auLaid : List (String × DataW Unit) := [("waywarden/octet.widths", Rows.laid_waywarden_octet_widths), ("waywarden/config.capBounds", Rows.laid_waywarden_config_capBounds)]
theorem vcr {H : Type} {enc : TypeId × Value → H} {W : World} {base fuel : Nat} {sp : Nat → Bool} {held : Bool} {c : List Value} {p : List MemPlace} {a : Int}
  (h : DataW.trod enc Tryz.prog W base sp held fuel 3 c = some (.lit (.int .i64 a), p)) : c = [.int .i64 a] := by
 obtain ⟨n, e1, e2, _⟩ := DataW.trod_int Tryz.underlying3 h
 simp only [Prod.mk.injEq, DataW.lit.injEq, Lit.int.injEq] at e2
 rw [e1, e2.1.2]
theorem len2b {l : List Value} (h : l.length = 2) : ∃ a b, l = [a, b] := by
 match l, h with
 | [a, b], _ => exact ⟨a, b, rfl⟩
theorem len3b {l : List Value} (h : l.length = 3) : ∃ a b c, l = [a, b, c] := by
 match l, h with
 | [a, b, c], _ => exact ⟨a, b, c, rfl⟩
set_option maxRecDepth 100000 in
theorem vkn {H : Type} {enc : TypeId × Value → H} {W : World} {base fuel : Nat} {sp : Nat → Bool} {held : Bool} {c : List Value} {p : List MemPlace} {a b : Int}
  (h : DataW.trod enc Tryz.prog W base sp held fuel 230 c = some (.agg [.lit (.int .i64 a), .lit (.int .i64 b)], p)) : c = [.int .i64 a, .int .i64 b] := by
 obtain ⟨xs, m, rfl, hx, hlen, hn, hel⟩ := DataW.trod_array Tryz.underlying230 h
 have c1 : Tryz.prog.cellsOf 3 = 1 := by kernel_rfl
 have c2 : Tryz.prog.cellsOf 230 = 2 := by kernel_rfl
 rw [c2] at hlen
 rw [c1] at hel
 have h0 := hel 0 (by decide)
 have h1 := hel 1 (by decide)
 match xs, hn, hx, h0, h1 with
 | [(x0, p0), (x1, p1)], _, hx, h0, h1 =>
  simp only [List.map_cons, List.map_nil, Prod.mk.injEq, DataW.agg.injEq, List.cons.injEq, and_true] at hx
  obtain ⟨⟨rfl, rfl⟩, _⟩ := hx
  have e0 := vcr (show DataW.trod _ Tryz.prog W _ _ _ m _ _ = some (_, p0) from h0)
  have e1 := vcr (show DataW.trod _ Tryz.prog W _ _ _ m _ _ = some (_, p1) from h1)
  obtain ⟨u, v, rfl⟩ := len2b hlen
  simp at e0 e1
  rw [e0, e1]
set_option maxRecDepth 100000 in
theorem vko {H : Type} {enc : TypeId × Value → H} {W : World} {base fuel : Nat} {sp : Nat → Bool} {held : Bool} {c : List Value} {p : List MemPlace} {a b d : Int}
  (h : DataW.trod enc Tryz.prog W base sp held fuel 372 c = some (.agg [.lit (.int .i64 a), .lit (.int .i64 b), .lit (.int .i64 d)], p)) : c = [.int .i64 a, .int .i64 b, .int .i64 d] := by
 obtain ⟨xs, m, rfl, hx, hlen, hn, hel⟩ := DataW.trod_array Tryz.underlying372 h
 have c1 : Tryz.prog.cellsOf 3 = 1 := by kernel_rfl
 have c2 : Tryz.prog.cellsOf 372 = 3 := by kernel_rfl
 rw [c2] at hlen
 rw [c1] at hel
 have h0 := hel 0 (by decide)
 have h1 := hel 1 (by decide)
 have h2 := hel 2 (by decide)
 match xs, hn, hx, h0, h1, h2 with
 | [(x0, p0), (x1, p1), (x2, p2)], _, hx, h0, h1, h2 =>
  simp only [List.map_cons, List.map_nil, Prod.mk.injEq, DataW.agg.injEq, List.cons.injEq, and_true] at hx
  obtain ⟨⟨rfl, rfl, rfl⟩, _⟩ := hx
  have e0 := vcr (show DataW.trod _ Tryz.prog W _ _ _ m _ _ = some (_, p0) from h0)
  have e1 := vcr (show DataW.trod _ Tryz.prog W _ _ _ m _ _ = some (_, p1) from h1)
  have e2 := vcr (show DataW.trod _ Tryz.prog W _ _ _ m _ _ = some (_, p2) from h2)
  obtain ⟨u, v, y, rfl⟩ := len3b hlen
  simp at e0 e1 e2
  rw [e0, e1, e2]
set_option maxRecDepth 100000 in
theorem vcQ {W : World} (h : laidMetH Tryz.prog auLaid W) : WidAt W ∧ CapAt W := by
 unfold auLaid at h
 rw [MakeChecks.laidMetH_plain _ _ _ (by kernel_rfl)] at h
 obtain ⟨ps, ⟨g0, t0, cs0, f0, p0, q0, hg0, ht0, hv0, hd0, ⟨g1, t1, cs1, f1, p1, q1, hg1, ht1, hv1, hd1, _, _⟩, _⟩, _, _⟩ := h
 obtain rfl := Option.some.inj (gWid.symm.trans hg0)
 obtain rfl := Option.some.inj (tWid.symm.trans ht0)
 obtain rfl := Option.some.inj (gCap.symm.trans hg1)
 obtain rfl := Option.some.inj (tCap.symm.trans ht1)
 have a0 := World.var?_cell hg0 hv0 0
 have a1 := World.var?_cell hg0 hv0 1
 have a2 := World.var?_cell hg0 hv0 2
 have b0 := World.var?_cell hg1 hv1 0
 have b1 := World.var?_cell hg1 hv1 1
 have e0 := vko (show DataW.trod _ Tryz.prog W _ _ _ _ _ _ = some (.agg [.lit (.int .i64 1), .lit (.int .i64 2), .lit (.int .i64 4)], _) from hd0)
 have e1 := vkn (show DataW.trod _ Tryz.prog W _ _ _ _ _ _ = some (.agg [.lit (.int .i64 1), .lit (.int .i64 256)], _) from hd1)
 obtain ⟨l⟩ := cs0
 obtain ⟨m⟩ := cs1
 simp only at e0 e1
 subst e0 e1
 simp at a0 a1 a2 b0 b1
 exact ⟨⟨a0, a1, a2⟩, ⟨b0, b1⟩⟩
theorem vkp (os : Os) (args : Array Value) : laidMetH Tryz.prog auLaid ((World.doorLaid Tryz.prog 400 os).forCall (fun _ _ => 0) ⟨#[], args, []⟩).memory :=
 laidMetH_of_parts3 (fuel := 8) (laidMet_of_run' 8 (by kernel_rfl) (by kernel_rfl)) (by kernel_rfl) (by kernel_rfl)
end

section
open Go.RowKit Go.Sort Go.Shelf
instance : Inhabited Rt := ⟨zeroR⟩
def cfR (x y : Rt) : Int := ordI x.p.a x.p.l y.p.a y.p.l
theorem vbZ {x y : Rt} : ltOf cfR x y = true ↔ ltP x.p y.p := by
 unfold ltOf cfR
 rw [decide_eq_true_iff]
 exact vet
theorem vbi {x y : Rt} : ltOf cfR x y = false ↔ ¬ ltP x.p y.p := by
 rw [← vbZ]
 exact Bool.not_eq_true _ |>.symm ▸ Iff.rfl
theorem swoR : SWO (ltOf cfR) where
 irrefl x := vbi.2 (fun h => vbp h rfl)
 trans x y z h1 h2 := vbZ.2 (vdE (vbZ.1 h1) (vbZ.1 h2))
 ntrans x y z h1 h2 := by
  rw [vbi] at *
  unfold ltP at *
  omega
theorem vgP {L : List Rt} (u : UpR L) {d d' : Array Rt} (h0 : d.toList.Perm L) (hp : PermIn 0 d.size d d') (hs : SortedIn (ltOf cfR) 0 d.size d') : d'.toList = L := by
 obtain ⟨h1, _, h3⟩ := hp
 have e1 : d'.extract 0 d.size = d' := by rw [← h1]; simp
 have e2 : d.extract 0 d.size = d := by simp
 rw [e1, e2] at h3
 have hP := h3.trans h0
 have hn : (d'.toList.map Rt.p).Nodup := (hP.map Rt.p).nodup_iff.2 u.nodup
 refine UpR.eq_perm ?_ u hP
 unfold UpR
 rw [List.pairwise_iff_getElem]
 intro i j hi hj hij
 have hi' : i < d'.size := by simpa using hi
 have hj' : j < d'.size := by simpa using hj
 have h4 := hs i j (Nat.zero_le _) hij (by omega)
 rw [getElem!_pos d' i hi', getElem!_pos d' j hj', vbi] at h4
 rw [Array.getElem_toList, Array.getElem_toList]
 rcases vdg d'[i].p d'[j].p with h | h | h
 ·exact h
 ·exact absurd (by rw [List.getElem_map, List.getElem_map]; simpa using h) (List.pairwise_iff_getElem.1 hn i j (by simpa using hi) (by simpa using hj) hij)
 ·exact absurd h h4
theorem vfm {w w' : World} (k : Kp w w') (h : w.drawn ≤ w'.drawn) : ∃ q os', w' = grow (w.drewN q) os' := by
 refine ⟨w'.drawn - w.drawn, w'.heap.extract w.heap.size w'.heap.size, ?_⟩
 have hs := k.size
 have hh : w'.heap = w.heap ++ w'.heap.extract w.heap.size w'.heap.size := by
  apply Array.ext_getElem?
  intro i
  by_cases hi : i < w.heap.size
  ·rw [Array.getElem?_append_left hi]
   exact k.heap hi
  ·rw [Array.getElem?_append_right (by omega), Array.getElem?_extract]
   by_cases hj : i < w'.heap.size
   ·rw [if_pos (by omega)]
    congr 1
    omega
   ·rw [if_neg (by omega), Array.getElem?_eq_none (by omega)]
 have ht := Below.tape k
 have ho := Below.os k
 have hu := Below.output k
 cases w with | mk h1 t1 d1 o1 u1 => cases w' with | mk h2 t2 d2 o2 u2 =>
 simp only at ht ho hu hh h hs ⊢
 subst ht ho hu
 unfold grow World.drewN
 simp only [World.mk.injEq, and_true, true_and]
 exact ⟨hh, by omega⟩
end

end Go.Proofs.YtgopnfacklmkaaaGreatDoor
