/- Lemmas and contracts for the theorem of this claim: AlA, AlC, AlD. -/
import Derived.Test.YtgopnfacklmkaaaGreatDoorZzBd
set_option linter.all false
set_option maxHeartbeats 16000000
namespace Go.Proofs.YtgopnfacklmkaaaGreatDoor
section
open Go.RowKit
attribute [local go_sem] Oper.semAt_some
def cloV (ox wx : Nat) : Value := .func (.func 311) #[] #[.pointer (some ⟨ox, 0, none⟩), .pointer (some ⟨wx, 0, none⟩)]
structure RowsI (w0 : World) (ox wx base : Nat) (acc : List (Pn × Int)) (W : World) : Prop where
 kp : Kp w0 W
 wb : Blk W wx 432 #[cloV ox wx]
 sz : base ≤ W.heap.size
 ob : ∃ v, Blk W ox 345 #[v] ∧ Own W base 348 3 rowE v acc
def RowsP (w0 : World) (ox wx base : Nat) (acc : List (Pn × Int)) (e : Ending) (W : World) : Prop := e = .returned (.tuple #[]) ∧ RowsI w0 ox wx base acc W
theorem vey (args : Array Value) (w : World) : (callFunc 311 args).run Tryz.prog w = .ok (.enter 311 args) w := by kernel_rfl
theorem RowsI.drew {w0 : World} {ox wx base : Nat} {acc : List (Pn × Int)} {W : World} (h : RowsI w0 ox wx base acc W) : RowsI w0 ox wx base acc W.drew := ⟨h.kp.drew, h.wb.drew, h.sz, h.ob⟩
set_option maxRecDepth 100000 in
theorem vdW (w0 : World) (ox wx base : Nat) (ho : w0.heap.size ≤ ox) (hob : ox < base) (hw : w0.heap.size ≤ wx) (hwb : wx < base) (how : ox ≠ wx) :
  ∀ (t : Tr) (acc : List (Pn × Int)) (w : World), TM w0 t → (acc ++ t.rows).length ≤ 1000000 → RowsI w0 ox wx base acc w →
  Calls Tryz.prog 311 #[t.ptr, .pointer (some ⟨ox, 0, none⟩), .pointer (some ⟨wx, 0, none⟩)] w (RowsP w0 ox wx base (acc ++ t.rows))
 | .nil, acc, w, _, _, hI => by
  have h1 := vcR
  have HI := Lib.hid hI; clear hI
  simp only [Tr.ptr]
  go_enter Tryz.func311, Tryz.ntmps311
  go_wp2_with fail
  refine bodyPost_ret (v := .tuple #[]) (by simp [results, Tryz.results311, go_sem]) rfl ⟨rfl, ?_⟩
  simpa [Tr.rows] using HI.out
 | .node b p u h x y, acc, w, hT, hn, hI => by
  have h1 := vci
  have hcr := vmn
  have hc1 := vey
  obtain ⟨hB0, hTx, hTy⟩ := hT
  have ihx := vdW w0 ox wx base ho hob hw hwb how x (acc ++ (if h then [(p, u)] else []))
  have ihy := vdW w0 ox wx base ho hob hw hwb how y (acc ++ (if h then [(p, u)] else []) ++ x.rows)
  have e0 : acc ++ (Tr.node b p u h x y).rows = acc ++ (if h then [(p, u)] else []) ++ x.rows ++ y.rows := by simp [Tr.rows]
  rw [e0] at hn ⊢
  have hnx : (acc ++ (if h then [(p, u)] else []) ++ x.rows).length ≤ 1000000 := by
   rw [List.length_append] at hn; omega
  have hnh : (acc ++ (if h then [(p, u)] else [])).length ≤ 1000000 := by
   rw [List.length_append] at hnx; omega
  have Ihx := Lib.hid (fun w => ihx w hTx hnx)
  have Ihy := Lib.hid (fun w => ihy w hTy hn)
  have Hnh := Lib.hid hnh
  have HN := Lib.hid hB0
  have HI := Lib.hid hI
  clear ihx ihy e0 hn hnx hnh hI hTx hTy
  have N1 := HN.out.keep HI.out.kp
  have n3 : w.cell? ⟨b, 3, none⟩ = some (.bool h) := N1.cell 3
  clear hB0
  simp only [Tr.ptr]
  go_enter Tryz.func311, Tryz.ntmps311
  cases h with
  | false =>
   simp only [Bool.false_eq_true, if_false, List.append_nil] at Ihx Ihy ⊢
   go_upto_region 4 with (fail)
   have J0 := HI
   clear n3 N1

   refine vau 6 (by kernel_rfl) (by kernel_rfl) (fun V hV => ?_)
   have JV : Hid (RowsI w0 ox wx base acc V) := by rw [hV]; exact Lib.hid J0.out.drew
   clear hV
   have NV := HN.out.keep JV.out.kp
   have m4 : V.cell? ⟨b, 4, none⟩ = some x.ptr := NV.cell 4
   have mw : V.cell? ⟨wx, 0, none⟩ = some (cloV ox wx) := JV.out.wb.cell 0
   unfold cloV at mw
   simp only [List.take_succ_cons, List.take_zero, List.drop_succ_cons, List.drop_zero]
   repeat still_step
   refine wpStill_nil ?_
   clear m4 mw NV
   go_wp2_with fail
   refine (Ihx.out V JV.out).mono ?_
   rintro e w2 ⟨rfl, J2⟩
   have J2 := Lib.hid J2
   go_wp2_with fail
   refine vau 6 (by kernel_rfl) (by kernel_rfl) (fun V2 hV2 => ?_)
   have JV2 : Hid (RowsI w0 ox wx base (acc ++ x.rows) V2) := by rw [hV2]; exact Lib.hid J2.out.drew
   clear hV2
   have NV2 := HN.out.keep JV2.out.kp
   have m5 : V2.cell? ⟨b, 5, none⟩ = some y.ptr := NV2.cell 5
   have mw2 : V2.cell? ⟨wx, 0, none⟩ = some (cloV ox wx) := JV2.out.wb.cell 0
   unfold cloV at mw2
   simp only [List.take_succ_cons, List.take_zero, List.drop_succ_cons, List.drop_zero]
   repeat still_step
   refine wpStill_nil ?_
   clear m5 mw2 NV2
   go_wp2_with fail
   refine (Ihy.out V2 JV2.out).mono ?_
   rintro e w3 ⟨rfl, J3⟩
   have J3 := Lib.hid J3
   go_wp2_with fail
   refine bodyPost_ret (v := .tuple #[]) (by simp [results, Tryz.results311, go_sem]) rfl ⟨rfl, ?_⟩
   exact J3.out
  | true =>
   simp only [if_true] at Ihx Ihy Hnh ⊢
   have hfit := Hnh.out
   rw [List.length_append, List.length_singleton] at hfit
   have JI := HI.out
   obtain ⟨v, B, o0⟩ := JI.ob
   have hlo := B.lt
   have hlw := JI.wb.lt
   have hsz := JI.sz
   have fin : Hid (∀ (w3 : World) (A3 : Option Addr) (c3 : Nat), Own w3 base 348 3 rowE (.slice A3 (acc.length + 1) c3) (acc ++ [(p, u)]) → Kp w0 w3 → Blk w3 ox 345 #[v] → w3.heap[wx]? = w.heap[wx]? → base ≤ w3.heap.size →
     RowsI w0 ox wx base (acc ++ [(p, u)]) (w3.setCell ⟨ox, 0, none⟩ (.slice A3 (acc.length + 1) c3))) := by
    intro w3 A3 c3 hown' hK' B3 hE hs3
    exact ⟨hK'.setCell (show w0.heap.size ≤ ox from ho) _, (show Blk w3 wx _ _ from hE.trans JI.wb).far (fun e => how e.symm) _, by simpa [World.setCell] using hs3, _, B3.set_ 0 _, Own.setBelow (p := ⟨ox, 0, none⟩) hown' hob _⟩
   go_upto_region 3 with (fail)
   clear n3
   go_cut [] from 13 to 17 (fun wx' => RowsI w0 ox wx base (acc ++ [(p, u)]) wx')
   case first =>
    have n0 : w.cell? ⟨b, 0, none⟩ = some (.int .u32 p.a) := N1.cell 0
    have n1 : w.cell? ⟨b, 1, none⟩ = some (.int .i64 p.l) := N1.cell 1
    have n2 : w.cell? ⟨b, 2, none⟩ = some (.int .i64 u) := N1.cell 2
    have x0 : w.cell? ⟨ox, 0, none⟩ = some v := B.cell 0
    refine vjU (by kernel_rfl) (fun V hV => ?_)
    have KV : Kp w V := by rw [hV]; exact (Kp.refl _).drew
    clear hV
    have B' := B.keep KV
    have m0 := KV.cell n0
    have m1 := KV.cell n1
    have m2 := KV.cell n2
    have xV := KV.cell x0
    clear n0 n1 n2 x0 N1
    refine wpAny_take (i := 1) (v := .func (.func 280) #[.pointer (some ⟨b, 0, none⟩)] #[]) rfl (by kernel_rfl) (by kernel_rfl) (by kernel_rfl) (fun _ _ _ h => h) (Or.inl ⟨by rfl, fun w => by go_simp⟩) ?_
    refine wpAny_ready (rs := [0, 2]) (by kernel_rfl) (by simp) ?_
    refine AllReady.cons rfl (fun K hK => ?_) (AllReady.cons rfl (fun K hK => ?_) AllReady.nil)
    ·go_simp
     refine hK _ _ ?_
     clear hK K
     refine wpAny_ready (rs := [2]) (by kernel_rfl) (by simp) ?_
     refine AllReady.cons rfl (fun K hK => ?_) AllReady.nil
     go_simp
     refine (vfd b p u _ m0 m1 m2).mono ?_
     rintro e wa ⟨rfl, hKa⟩
     have KW : Kp w wa := KV.trans hKa
     have hsW := KW.size
     have BW := B.keep KW
     have xW : wa.cell? ⟨ox, 0, none⟩ = some v := BW.cell 0
     refine hK _ _ ?_
     clear hK K
     refine wpAny_ready (rs := [3]) (by kernel_rfl) (by simp) ?_
     refine AllReady.cons rfl (fun K hK => ?_) AllReady.nil
     go_simp
     refine hK _ _ ?_
     clear hK K
     refine vam 4 rfl (by kernel_rfl) ?_
     simp only [List.drop_succ_cons, List.drop_zero]
     go_wp2_with (at_builtin; go_must (refine vaf ERow rfl _ _ rfl (p, u) rfl (o0.keep KW) (JI.kp.trans KW) (by omega) (by omega) rfl rfl rfl rfl rfl (by omega) ?_); intro v' w3 hown' hK' hg; obtain ⟨A3, c3, rfl⟩ := hown'.form1; have B3 := BW.grown hg (Own.ne (o0.keep KW) hob); have cc3 : w3.cell? ⟨ox, 0, none⟩ = some v := B3.cell 0; have zz := B3.frozen 0)
     go_meet
     case rel => exact fin.out w3 _ _ hown' hK' B3 ((hg.block _ (by omega) (Own.ne (o0.keep KW) hwb)).trans (KW.heap (by omega))) (Nat.le_trans (Nat.le_trans JI.sz KW.size) hg.size)
    ·go_simp
     refine (vfd b p u _ m0 m1 m2).mono ?_
     rintro e wa ⟨rfl, hKa⟩
     have KW : Kp w wa := KV.trans hKa
     have hsW := KW.size
     have BW := B.keep KW
     have xW : wa.cell? ⟨ox, 0, none⟩ = some v := BW.cell 0
     refine hK _ _ ?_
     clear hK K
     refine wpAny_ready (rs := [0, 3]) (by kernel_rfl) (by simp) ?_
     refine AllReady.cons rfl (fun K hK => ?_) (AllReady.cons rfl (fun K hK => ?_) AllReady.nil)
     ·go_simp
      refine hK _ _ ?_
      clear hK K
      refine wpAny_ready (rs := [3]) (by kernel_rfl) (by simp) ?_
      refine AllReady.cons rfl (fun K hK => ?_) AllReady.nil
      go_simp
      refine hK _ _ ?_
      clear hK K
      refine vam 4 rfl (by kernel_rfl) ?_
      simp only [List.drop_succ_cons, List.drop_zero]
      go_wp2_with (at_builtin; go_must (refine vaf ERow rfl _ _ rfl (p, u) rfl (o0.keep KW) (JI.kp.trans KW) (by omega) (by omega) rfl rfl rfl rfl rfl (by omega) ?_); intro v' w3 hown' hK' hg; obtain ⟨A3, c3, rfl⟩ := hown'.form1; have B3 := BW.grown hg (Own.ne (o0.keep KW) hob); have cc3 : w3.cell? ⟨ox, 0, none⟩ = some v := B3.cell 0; have zz := B3.frozen 0)
      go_meet
      case rel => exact fin.out w3 _ _ hown' hK' B3 ((hg.block _ (by omega) (Own.ne (o0.keep KW) hwb)).trans (KW.heap (by omega))) (Nat.le_trans (Nat.le_trans JI.sz KW.size) hg.size)
     ·go_simp
      refine hK _ _ ?_
      clear hK K
      have xX : (wa.alloc (.cells #[.int .u32 p.a, .int .i64 p.l, .int .i64 u] 348)).cell? ⟨ox, 0, none⟩ = some v := ((Kp.refl wa).alloc _).cell xW
      refine wpAny_ready (rs := [0]) (by kernel_rfl) (by simp) ?_
      refine AllReady.cons rfl (fun K hK => ?_) AllReady.nil
      go_simp
      refine hK _ _ ?_
      clear hK K
      refine vam 4 rfl (by kernel_rfl) ?_
      simp only [List.drop_succ_cons, List.drop_zero]
      go_wp2_with (at_builtin; go_must (refine vaf ERow rfl _ _ rfl (p, u) rfl (o0.keep KW) (JI.kp.trans KW) (by omega) (by omega) rfl rfl rfl rfl rfl (by omega) ?_); intro v' w3 hown' hK' hg; obtain ⟨A3, c3, rfl⟩ := hown'.form1; have B3 := BW.grown hg (Own.ne (o0.keep KW) hob); have cc3 : w3.cell? ⟨ox, 0, none⟩ = some v := B3.cell 0; have zz := B3.frozen 0)
      go_meet
      case rel => exact fin.out w3 _ _ hown' hK' B3 ((hg.block _ (by omega) (Own.ne (o0.keep KW) hwb)).trans (KW.heap (by omega))) (Nat.le_trans (Nat.le_trans JI.sz KW.size) hg.size)
   case rest =>
   have J0 := Lib.hid hcut
   clear hcut fin B o0 JI N1
   go_upto_region 4 with (fail)

   refine vau 6 (by kernel_rfl) (by kernel_rfl) (fun V hV => ?_)
   have JV : Hid (RowsI w0 ox wx base (acc ++ [(p, u)]) V) := by rw [hV]; exact Lib.hid J0.out.drew
   clear hV
   have NV := HN.out.keep JV.out.kp
   have m4 : V.cell? ⟨b, 4, none⟩ = some x.ptr := NV.cell 4
   have mw : V.cell? ⟨wx, 0, none⟩ = some (cloV ox wx) := JV.out.wb.cell 0
   unfold cloV at mw
   simp only [List.take_succ_cons, List.take_zero, List.drop_succ_cons, List.drop_zero]
   repeat still_step
   refine wpStill_nil ?_
   clear m4 mw NV
   go_wp2_with fail
   refine (Ihx.out V JV.out).mono ?_
   rintro e w2 ⟨rfl, J2⟩
   have J2 := Lib.hid J2
   go_wp2_with fail
   refine vau 6 (by kernel_rfl) (by kernel_rfl) (fun V2 hV2 => ?_)
   have JV2 : Hid (RowsI w0 ox wx base ((acc ++ [(p, u)]) ++ x.rows) V2) := by rw [hV2]; exact Lib.hid J2.out.drew
   clear hV2
   have NV2 := HN.out.keep JV2.out.kp
   have m5 : V2.cell? ⟨b, 5, none⟩ = some y.ptr := NV2.cell 5
   have mw2 : V2.cell? ⟨wx, 0, none⟩ = some (cloV ox wx) := JV2.out.wb.cell 0
   unfold cloV at mw2
   simp only [List.take_succ_cons, List.take_zero, List.drop_succ_cons, List.drop_zero]
   repeat still_step
   refine wpStill_nil ?_
   clear m5 mw2 NV2
   go_wp2_with fail
   refine (Ihy.out V2 JV2.out).mono ?_
   rintro e w3 ⟨rfl, J3⟩
   have J3 := Lib.hid J3
   go_wp2_with fail
   refine bodyPost_ret (v := .tuple #[]) (by simp [results, Tryz.results311, go_sem]) rfl ⟨rfl, ?_⟩
   exact J3.out
def TRowsP (w : World) (t : Tr) (e : Ending) (w' : World) : Prop := ∃ A c, e = .returned (.slice A t.rows.length c) ∧ Rd w' 3 rowE A t.rows ∧ Kp w w' ∧ ∀ a, A = some a → w.heap.size ≤ a.block
set_option maxRecDepth 100000 in
theorem vkI (tr : Nat) (many : Int) (t : Tr) (w : World) (hT : Blk w tr 330 #[t.ptr, .int .i64 many, .bool true]) (hM : TM w t) (hn : t.rows.length ≤ 1000000) :
  Calls Tryz.prog 278 #[.pointer (some ⟨tr, 0, none⟩)] w (TRowsP w t) := by
 have hmf := vaE
 have hc1 := vey
 have HT := Lib.hid hT
 have HM := Lib.hid hM
 have hlt := hT.lt
 clear hT hM
 go_enter Tryz.func278, Tryz.ntmps278
 go_upto_region 4 with (fail)
 obtain ⟨W, hW⟩ : ∃ W, (w.alloc (.cells #[.slice none 0 0] 345)).alloc (.cells #[cloV w.heap.size (w.heap.size + 1)] 432) = W := ⟨_, rfl⟩
 have hI : RowsI w w.heap.size (w.heap.size + 1) (w.heap.size + 1 + 1) [] W := by
  rw [← hW]
  refine ⟨((Kp.refl _).alloc _).alloc _, Blk.new1 w _ _ _, by simp, _, (Blk.new w _ _).alloc _, Own.nil _ _ _ _ _⟩
 unfold cloV at hW
 rw [hW]
 have HI := Lib.hid hI; clear hI hW
 refine vau 5 (by kernel_rfl) (by kernel_rfl) (fun V hV => ?_)
 have JV : Hid (RowsI w w.heap.size (w.heap.size + 1) (w.heap.size + 1 + 1) [] V) := by rw [hV]; exact Lib.hid HI.out.drew
 clear hV
 have c0 : V.cell? ⟨tr, 0, none⟩ = some t.ptr := (HT.out.keep JV.out.kp).cell 0
 have mw : V.cell? ⟨w.heap.size + 1, 0, none⟩ = some (cloV w.heap.size (w.heap.size + 1)) := JV.out.wb.cell 0
 unfold cloV at mw
 simp only [List.take_succ_cons, List.take_zero, List.drop_succ_cons, List.drop_zero]
 repeat still_step
 refine wpStill_nil ?_
 clear c0 mw
 go_wp2_with fail
 refine (vdW w w.heap.size (w.heap.size + 1) (w.heap.size + 1 + 1) (Nat.le_refl _) (by omega) (by omega) (by omega) (by omega) t [] V HM.out (by simpa using hn) JV.out).mono ?_
 rintro e w2 ⟨rfl, J2⟩
 rw [List.nil_append] at J2
 obtain ⟨v, B, o⟩ := J2.ob
 obtain ⟨A, c, rfl, hR⟩ := o.rd (by decide) vhm
 have x0 : w2.cell? ⟨w.heap.size, 0, none⟩ = some (.slice A t.rows.length c) := B.cell 0
 have HR := Lib.hid hR
 have HJ := Lib.hid J2
 have Ho := Lib.hid o
 clear hR J2 o B
 go_wp2_with fail
 go_ret
 exact ⟨A, c, rfl, HR.out, HJ.out.kp, fun a ha => by have := Ho.out.newA a ha; omega⟩
attribute [local go_sem] Oper.semAt_some
theorem vdX {l : Nat} {J : Act → World → Prop} {Q : Exit → Act → World → Prop} {a : Act} {w : World} (h : Q .normal a w) : Exit.jump l J Q .normal a w := h
theorem vir (args : Array Value) (w : World) : (callFunc 310 args).run Tryz.prog w = .ok (.enter 310 args) w := by kernel_rfl
def toldV (bx : Nat) : Value := .func (.func 310) #[] #[.pointer (some ⟨bx, 0, none⟩)]
theorem vht (A : Option Addr) (n c : Nat) (w : World) :
  Calls Tryz.prog 277 #[.slice A n c] w fun e w' => e = .returned (toldV w.heap.size) ∧ Blk w' w.heap.size 345 #[.slice A n c] ∧ Kp w w' := by
 have hmf := vaE
 unfold toldV
 go_enter Tryz.func277, Tryz.ntmps277
 go_wp2_with fail
 go_ret
 exact ⟨rfl, Blk.new w _ _, (Kp.refl _).alloc _⟩
structure ToldMem (bx : Nat) (A : Option Addr) (c : Nat) (rs : List (Pn × Int)) (W : World) : Prop where
 bx : Blk W bx 345 #[.slice A rs.length c]
 rd : Rd W 3 rowE A rs
def rowAt (rs : List (Pn × Int)) (k : Nat) : Pn × Int := rs.getD k (⟨0, 0⟩, 0)
theorem vfj {rs : List (Pn × Int)} {k : Nat} (h : k < rs.length) : rowAt rs k = rs[k] := by simp [rowAt, List.getD, h]
set_option maxRecDepth 100000 in
theorem vis (bx : Nat) (A : Option Addr) (c : Nat) (rs : List (Pn × Int)) (hn : rs.length ≤ 1000000) :
  Iter Tryz.prog 310 #[.pointer (some ⟨bx, 0, none⟩)] rs.length
   (fun k => #[.agg #[.int .u32 (rowAt rs k).1.a, .int .i64 (rowAt rs k).1.l], .int .i64 (rowAt rs k).2]) (ToldMem bx A c rs) := by
 intro l I Z W hI hZ hM hy h0
 have HI := Lib.hid hI; clear hI
 have HZ := Lib.hid hZ; clear hZ
 have HM := Lib.hid hM; clear hM
 have HY := Lib.hid hy; clear hy
 obtain ⟨N, hN⟩ : ∃ N, rs.length = N := ⟨_, rfl⟩
 have HN := Lib.hid hN
 rw [hN] at HY hn ⊢
 clear hN
 have D0 := HM.out 0 W h0
 have c0 : W.cell? ⟨bx, 0, none⟩ = some (.slice A N c) := by have := D0.bx.cell 0; rw [HN.out] at this; exact this
 have H0 := Lib.hid h0; clear h0
 clear D0
 go_enter Tryz.func310, Tryz.ntmps310
 go_wp2_with fail
 refine vac 0 rfl ?_
 go_wp2_with fail
 refine wp_label ?_
 go_wp2_with fail
 go_loopw [7] (fun i wr => ∃ k : Nat, k ≤ N ∧ i = .int .i64 k ∧ Hid (I k wr)) (fun i _ => N - (intOf i).toNat)
 case atStart => exact ⟨0, Nat.zero_le _, rfl, H0⟩
 case round =>
  obtain ⟨k, hk, rfl, hi⟩ := hrel
  have D := HM.out k wr hi.out
  by_cases hlt : k < N
  ·obtain ⟨b, off, hA, x0, x1, x2⟩ := vkk D.rd (k := k) (by rw [HN.out]; omega)
   subst hA
   rw [← vfj (by rw [HN.out]; omega)] at x0 x1 x2
   clear D c0
   have Hi2 : Hid (I k (wr.alloc (.cells #[.int .u32 (rowAt rs k).1.a, .int .i64 (rowAt rs k).1.l, .int .i64 (rowAt rs k).2] 348))) := Lib.hid (HI.out k _ _ hi.out ((Kp.refl _).alloc _))
   obtain ⟨fn, tmps, asg, bd, hrun, hround⟩ := HY.out k _ hlt Hi2.out
   obtain ⟨r, hr⟩ : ∃ r, rowAt rs k = r := ⟨_, rfl⟩
   rw [hr] at x0 x1 x2 hrun hround Hi2
   have Hr := Lib.hid hr; clear hr
   go_upto_region 3 with (fail)
   refine (wpIn_wide (n := 0)).1 ?_
   gi_wp2_with fail
   refine ⟨rfl, hround.mono ?_⟩
   clear hrun hround
   rintro e W' (⟨rfl, hi2⟩ | ⟨rfl, hz⟩)
   ·have Hi3 := Lib.hid hi2; clear hi2
    gi_wp2_with fail
    go_wp2_with fail
    go_roundw
    case rel => exact ⟨k + 1, by omega, by go_num, Hi3⟩
    case measure => simp [intOf]; omega
   ·have Hz := Lib.hid hz; clear hz
    gi_wp2_with fail
    go_wp2_with fail
    refine vdX ?_
    go_end0
    exact ⟨rfl, .inr ⟨k + 1, by omega, by omega, Hz.out⟩⟩
  ·obtain rfl : k = N := by omega
   go_wp2_with fail
   refine vdX ?_
   go_end0
   exact ⟨rfl, .inl hi.out⟩
def FromP (w : World) (t : Tr) (e : Ending) (w' : World) : Prop := ∃ bx A c, e = .returned (toldV bx) ∧ ToldMem bx A c t.rows w' ∧ Kp w w' ∧ w.heap.size ≤ bx ∧ ∀ a, A = some a → w.heap.size ≤ a.block
theorem vhu (a : Nat) : cmpI a 0 = if a = 0 then 0 else 1 := by
 unfold cmpI
 by_cases h : a = 0
 ·subst h; simp
 ·rw [if_neg (by omega), if_pos (by omega), if_neg h]
theorem vmG (a l : Nat) : decide (ordI a l 0 0 < 0) = false := by
 unfold ordI
 rw [vhu, vhu]
 by_cases h : a = 0
 ·simp [h]; split <;> omega
 ·simp [h]
set_option maxRecDepth 100000 in
theorem vmH (tr : Nat) (many : Int) (t : Tr) (w : World) (hT : Blk w tr 330 #[t.ptr, .int .i64 many, .bool true]) (hM : TM w t) (hn : t.rows.length ≤ 1000000) :
  Calls Tryz.prog 211 #[.pointer (some ⟨tr, 0, none⟩), .agg #[.int .u32 0, .int .i64 0]] w (FromP w t) := by
 obtain ⟨W, hW, kW, B0⟩ : ∃ W, w.alloc (.cells #[.int .u32 0, .int .i64 0] 39) = W ∧ Kp w W ∧ Blk W w.heap.size 39 #[.int .u32 0, .int .i64 0] := ⟨_, rfl, (Kp.refl _).alloc _, Blk.new w _ _⟩
 have HT := Lib.hid (hT.keep kW)
 have HM := Lib.hid (hM.keep kW)
 clear hT hM
 go_enter Tryz.func211, Tryz.ntmps211
 go_wp2_with fail
 refine (vbz tr _ many _ HT.out).mono ?_
 rintro e w' ⟨rfl, rfl⟩
 go_wp2_with fail
 refine (vkI tr many t _ HT.out HM.out hn).mono ?_
 rintro e w1 ⟨A, c, rfl, hR, hK1, hA⟩
 have k1 := kW.trans hK1
 have hsz := kW.size
 have B1 := B0.keep hK1
 have HR := Lib.hid hR
 have HA := Lib.hid hA
 clear hW hR hA HT HM
 obtain ⟨rs, hrs⟩ : ∃ rs, t.rows = rs := ⟨_, rfl⟩
 rw [hrs] at HR hn ⊢
 have Hrs := Lib.hid hrs; clear hrs
 go_wp2_with fail
 go_loopw [6] (fun i wr => i = .int .i64 0 ∧ Hid (Kp w1 wr)) (fun i _ => 0)
 case atStart => exact ⟨rfl, Kp.refl _⟩
 case round =>
  obtain ⟨rfl, hk⟩ := hrel
  have B2 := B1.keep hk.out
  have R2 := Lib.hid (HR.out.keep hk.out)
  have p0 : wr.cell? ⟨w.heap.size, 0, none⟩ = some (.int .u32 0) := B2.cell 0
  have p1 : wr.cell? ⟨w.heap.size, 1, none⟩ = some (.int .i64 0) := B2.cell 1
  have fin : Hid (∀ W3, Kp wr W3 → ∀ W4, Blk W4 W3.heap.size 345 #[.slice A rs.length c] → Kp W3 W4 → FromP w t (.returned (toldV W3.heap.size)) W4) := fun W3 k3 W4 B4 k4 => by
   have kk := (k1.trans hk.out).trans k3
   refine ⟨W3.heap.size, A, c, rfl, ?_, kk.trans k4, kk.size, fun a ha => ?_⟩
   ·rw [Hrs.out]; exact ⟨B4, R2.out.keep (k3.trans k4)⟩
   ·have := HA.out a ha; omega
  by_cases h0 : 0 < rs.length
  ·obtain ⟨b, off, rfl, x0, x1, x2⟩ := vkk R2.out h0
   obtain ⟨r, hr⟩ : ∃ r, rs[0] = r := ⟨_, rfl⟩
   rw [hr] at x0 x1 x2
   simp only [Nat.zero_mul, Nat.add_zero] at x0 x1 x2
   have Hr := Lib.hid hr; clear hr
   have ho := vmG r.1.a r.1.l
   have Ho := Lib.hid ho; clear ho
   go_upto_region 5 with (fail)
   refine vau 11 (by kernel_rfl) (by kernel_rfl) (fun V hV => ?_)
   have KV : Kp wr V := by rw [hV]; exact (Kp.refl _).drew
   clear hV
   have y0 := KV.cell x0
   have y1 := KV.cell x1
   have y2 := KV.cell x2
   have q0 := KV.cell p0
   have q1 := KV.cell p1
   clear x0 x1 x2 p0 p1
   simp only [List.take_succ_cons, List.take_zero, List.drop_succ_cons, List.drop_zero]
   repeat still_step
   refine wpStill_nil ?_
   go_wp2_with fail
   refine (vfv r.1.a r.1.l 0 0 V).mono ?_
   rintro e w2 ⟨rfl, hK2⟩
   have hd := Ho.out
   obtain ⟨o, hoo⟩ : ∃ o, ordI r.1.a r.1.l 0 0 = o := ⟨_, rfl⟩
   rw [hoo] at hd ⊢
   have Hoo := Lib.hid hoo; clear hoo y0 y1 y2 q0 q1
   go_wp2_with fail
   refine (vht _ _ _ w2).mono ?_
   rintro e w3 ⟨rfl, B3, hK3⟩
   have HB3 := Lib.hid B3; clear B3
   go_wp2_with fail
   go_ret
   exact fin.out w2 (KV.trans hK2) w3 HB3.out hK3
  ·obtain rfl : rs = [] := List.length_eq_zero_iff.1 (by omega)
   go_upto_region 5 with (fail)
   go_quiet (fail)
   go_wp2_with fail
   refine (vht _ _ _ _).mono ?_
   rintro e w3 ⟨rfl, B3, hK3⟩
   have HB3 := Lib.hid B3; clear B3
   go_wp2_with fail
   go_ret
   exact fin.out (wr.drewN nq) ((Kp.refl _).drewN _) w3 HB3.out hK3
set_option maxRecDepth 100000 in
theorem vkJ (tr : Nat) (many : Int) (t : Tr) (w : World) (hT : Blk w tr 330 #[t.ptr, .int .i64 many, .bool true]) (hM : TM w t) (hn : t.rows.length ≤ 1000000) :
  Calls Tryz.prog 154 #[.agg #[.pointer (some ⟨tr, 0, none⟩)]] w (FromP w t) := by
 have k1 : Kp w (w.alloc (.cells #[.pointer (some ⟨tr, 0, none⟩)] 163)) := (Kp.refl _).alloc _
 have HT := Lib.hid (hT.keep k1)
 have HM := Lib.hid (hM.keep k1)
 clear hT hM
 go_enter Tryz.func154, Tryz.ntmps154
 go_wp2_with fail
 refine (vmH tr many t _ HT.out HM.out hn).mono ?_
 rintro e w2 ⟨bx, A, c, rfl, hM2, hK2, hb, hA⟩
 have HM2 := Lib.hid hM2
 have HA := Lib.hid hA
 clear hM2 hA
 have hs := k1.size
 unfold toldV
 go_wp2_with fail
 go_ret
 exact ⟨bx, A, c, rfl, HM2.out, k1.trans hK2, by omega, fun a ha => by have := HA.out a ha; omega⟩
attribute [local go_sem] Oper.semAt_some
def hopsOf (H : List Hp) (rs : List (Pn × Int)) : List Hp := rs.map (fun r => H.getD r.2.toNat hop0)
theorem vit (H : List Hp) (rs : List (Pn × Int)) : (hopsOf H rs).length = rs.length := by simp [hopsOf]
theorem vgF {H : List Hp} {rs : List (Pn × Int)} {k : Nat} (hk : k < rs.length) : hopsOf H (rs.take k) ++ [H.getD (rowAt rs k).2.toNat hop0] = hopsOf H (rs.take (k + 1)) := by
 have e : rs.take k ++ [rs[k]] = rs.take (k + 1) := by simp
 rw [vfj hk, ← e]
 unfold hopsOf
 rw [List.map_append]
 rfl
def GatI (w : World) (AH : Option Addr) (cH : Nat) (H : List Hp) (rs : List (Pn × Int)) (k : Nat) (W : World) : Prop :=
 ∃ v, Blk W w.heap.size 164 #[.slice AH H.length cH] ∧ Blk W (w.heap.size + 1) 164 #[v] ∧ Own W (w.heap.size + 1 + 1 + 1 + 1) 89 6 Hp.enc v (hopsOf H (rs.take k)) ∧ Kp w W
def GatP (w : World) (l : List Hp) (e : Ending) (w' : World) : Prop := ∃ A c, e = .returned (.slice A l.length c) ∧ Rd w' 6 Hp.enc A l ∧ Kp w w' ∧ ∀ a, A = some a → w.heap.size ≤ a.block
set_option maxRecDepth 100000 in
theorem vmI (bx : Nat) (A : Option Addr) (c : Nat) (rs : List (Pn × Int)) (AH : Option Addr) (cH : Nat) (H : List Hp) (w : World) (hn : rs.length ≤ 1000000) (hT : ToldMem bx A c rs w) (hR : Rd w 6 Hp.enc AH H) (hH : H.length ≤ 512) (hp : ∀ r ∈ rs, 0 ≤ r.2 ∧ r.2.toNat < H.length) :
  Calls Tryz.prog 153 #[.slice AH H.length cH, toldV bx] w (GatP w (hopsOf H rs)) := by
 have HT := Lib.hid hT; clear hT
 have HR := Lib.hid hR; clear hR
 have Hp' := Lib.hid hp; clear hp
 have Hit := Lib.hid (vis bx A c rs hn)
 unfold toldV
 refine calls_of_wp_marks Tryz.func153 rfl ?_; simp only [Tryz.ntmps153, List.size_toArray, List.length_cons, List.length_nil, Nat.reduceAdd, Nat.reduceSub, Array.replicate_succ, Array.replicate_zero, List.push_toArray, List.append_toArray, List.nil_append, List.cons_append]
 go_wp2_with fail
 refine vcq (N := rs.length) rfl vir Hit.out (fun _ _ => rfl) (GatI w AH cH H rs) (fun _ _ _ => False) ?_ (fun _ _ _ _ h => h.elim) ?_ ?_ ?_ ?_ (fun _ _ _ _ _ h => h.elim)
 ·rintro k W W' ⟨v, h0, h1, h2, h3⟩ hO
  simp only [World.size_alloc] at hO
  exact ⟨v, h0.only hO (by simp <;> omega), h1.only hO (by simp <;> omega), h2.only hO (by simp <;> omega), hO.kp h3 (by simp <;> omega)⟩
 ·rintro k W ⟨v, h0, h1, h2, h3⟩
  exact ⟨HT.out.bx.keep h3, HT.out.rd.keep h3⟩
 ·exact ⟨_, (Blk.new w _ _).alloc _, Blk.new1 w _ _ _, by rw [List.take_zero]; exact Own.nil _ _ _ _ _, ((Kp.refl _).alloc _).alloc _⟩
 ·intro l k W hk _
  gi_wp2_with fail
  refine ⟨trivial, ?_⟩
  rintro W2 ⟨v, h0, h1, h2, h3⟩ hsz
  simp only [World.size_alloc] at hsz
  have Htk := Lib.hid (vgF (H := H) hk)
  have hin := Hp'.out (rowAt rs k) (by rw [vfj hk]; exact List.getElem_mem hk)
  obtain ⟨r, hr⟩ : ∃ r, rowAt rs k = r := ⟨_, rfl⟩
  rw [hr] at Htk hin ⊢
  obtain ⟨n, hnr⟩ : ∃ n : Nat, r.2 = (n : Int) := ⟨r.2.toNat, by omega⟩
  rw [hnr] at hin Htk ⊢
  rw [Int.toNat_natCast] at hin Htk
  have hnH := hin.2
  have Hr := Lib.hid hr
  have Hnr := Lib.hid hnr
  clear hr hnr hin
  obtain ⟨b, off, hA, g0, g1, g2, g3, g4, g5⟩ := vda (HR.out.keep h3) hnH
  obtain ⟨y, hy⟩ : ∃ y, H[n] = y := ⟨_, rfl⟩
  have hyd : H.getD n hop0 = y := by rw [← hy]; simp [List.getD, hnH]
  rw [hyd] at Htk
  rw [hy] at g0 g1 g2 g3 g4 g5
  have Hy := Lib.hid hy
  clear hy hyd
  subst hA
  have hlen : (hopsOf H (rs.take k)).length = k := by rw [vit]; simp; omega
  have Hlen := Lib.hid hlen; clear hlen
  obtain ⟨acc, hacc⟩ : ∃ acc, hopsOf H (rs.take k) = acc := ⟨_, rfl⟩
  rw [hacc] at h2 Htk Hlen
  have Hacc := Lib.hid hacc; clear hacc
  have hfit : (acc.length + 1) * 49 ≤ 140737488355328 := by rw [Hlen.out]; omega
  have x0 : W2.cell? ⟨w.heap.size + 1, 0, none⟩ = some v := h1.cell 0
  have l0 : W2.cell? ⟨w.heap.size, 0, none⟩ = some (.slice (some ⟨b, off, none⟩) H.length cH) := h0.cell 0
  have fin : Hid (∀ (w3 : World) (A3 : Option Addr) (c3 : Nat), Own w3 (w.heap.size + 1 + 1 + 1 + 1) 89 6 Hp.enc (.slice A3 (acc.length + 1) c3) (acc ++ [y]) → Kp w w3 → (∀ b', b' < w.heap.size + 1 + 1 + 1 + 1 → w3.heap[b']? = W2.heap[b']?) →
    Kept2 ((w.alloc (.cells #[.slice (some ⟨b, off, none⟩) H.length cH] 164)).alloc (.cells #[.slice none 0 0] 164)) W2 (w3.setCell ⟨w.heap.size + 1, 0, none⟩ (.slice A3 (acc.length + 1) c3)) ∧ GatI w (some ⟨b, off, none⟩) cH H rs (k + 1) (w3.setCell ⟨w.heap.size + 1, 0, none⟩ (.slice A3 (acc.length + 1) c3))) := by
   intro w3 A3 c3 hown' hK' hE
   refine ⟨⟨?_, ?_⟩, _, ?_, (show Blk w3 _ _ _ from (hE _ (by omega)).trans h1).set_ 0 _, ?_, hK'.setCell (by simp) _⟩
   ·simp only [World.size_alloc]; exact (Below.heap_setCell _ _ _ _ (by simp)).trans (hE _ (by omega))
   ·simp only [World.size_alloc]; exact (Below.heap_setCell _ _ _ _ (by simp <;> omega)).trans (hE _ (by omega))
   ·exact (show Blk w3 _ _ _ from (hE _ (by omega)).trans h0).far (by simp) _
   ·rw [← Htk.out]; exact Own.setBelow (p := ⟨w.heap.size + 1, 0, none⟩) hown' (by simp only; omega) _
  have Ho := Lib.hid h2
  clear h2 Htk Hlen
  gi_wp2_with fail
  refine vfP (by kernel_rfl) (by kernel_rfl) (vaj van) (fun V hV => ?_)
  have KV : Kp W2 V := by rw [hV]; exact (Kp.refl _).drew
  clear hV
  have hsV := KV.size
  have z0 := KV.cell g0
  have z1 := KV.cell g1
  have z2 := KV.cell g2
  have z3 := KV.cell g3
  have z4 := KV.cell g4
  have z5 := KV.cell g5
  have xV := KV.cell x0
  have lV := KV.cell l0
  have BV := h1.keep KV
  clear g0 g1 g2 g3 g4 g5 x0 l0
  refine wpAny_take (i := 2) (v := .int .i64 n) rfl (by kernel_rfl) (by kernel_rfl) (by kernel_rfl) (fun _ _ _ h => h) (Or.inl ⟨by rfl, fun w => by go_simp⟩) ?_
  refine wpAny_ready (rs := [0, 1]) (by kernel_rfl) (by simp) ?_
  refine AllReady.cons rfl (fun K hK => ?_) (AllReady.cons rfl (fun K hK => ?_) AllReady.nil)
  ·go_simp
   refine hK _ _ ?_
   clear hK K
   refine wpAny_ready (rs := [1]) (by kernel_rfl) (by simp) ?_
   refine AllReady.cons rfl (fun K hK => ?_) AllReady.nil
   go_simp
   refine hK _ _ ?_
   clear hK K
   refine vam 3 rfl (by kernel_rfl) ?_
   simp only [List.drop_succ_cons, List.drop_zero]
   go_wp2_with (at_builtin; go_must (refine vaf EHop rfl _ _ rfl y rfl (Ho.out.keep KV) (h3.trans KV) (by omega) (by omega) rfl rfl rfl rfl rfl (by omega) ?_); intro v' w3 hown' hK' hg; obtain ⟨A3, c3, rfl⟩ := hown'.form1; have B3 := BV.grown hg (Own.ne (Ho.out.keep KV) (by omega)); have cc3 : w3.cell? ⟨w.heap.size + 1, 0, none⟩ = some v := B3.cell 0; have zz := B3.frozen 0)
   exact fin.out w3 _ _ hown' hK' (fun b' hb' => (hg.block _ (by omega) (Own.ne (Ho.out.keep KV) hb')).trans (KV.heap (by omega)))
  ·go_simp
   refine hK _ _ ?_
   clear hK K
   refine wpAny_take (i := 3) (v := .pointer (some ⟨b, off + n * 6, none⟩)) rfl (by kernel_rfl) (by kernel_rfl) (by kernel_rfl) (fun _ _ _ h => h) (Or.inl ⟨by rfl, fun w => by go_simp⟩) ?_
   refine wpAny_ready (rs := [0,4]) (by kernel_rfl) (by simp) ?_
   refine AllReady.cons rfl (fun K hK => ?_) (AllReady.cons rfl (fun K hK => ?_) AllReady.nil)
   ·go_simp
    refine hK _ _ ?_
    clear hK K
    refine vam 4 rfl (by kernel_rfl) ?_
    simp only [List.drop_succ_cons, List.drop_zero]
    go_wp2_with (at_builtin; go_must (refine vaf EHop rfl _ _ rfl y rfl (Ho.out.keep KV) (h3.trans KV) (by omega) (by omega) rfl rfl rfl rfl rfl (by omega) ?_); intro v' w3 hown' hK' hg; obtain ⟨A3, c3, rfl⟩ := hown'.form1; have B3 := BV.grown hg (Own.ne (Ho.out.keep KV) (by omega)); have cc3 : w3.cell? ⟨w.heap.size + 1, 0, none⟩ = some v := B3.cell 0; have zz := B3.frozen 0)
    exact fin.out w3 _ _ hown' hK' (fun b' hb' => (hg.block _ (by omega) (Own.ne (Ho.out.keep KV) hb')).trans (KV.heap (by omega)))
   ·go_simp
    refine hK _ _ ?_
    clear hK K
    refine wpAny_ready (rs := [0,5]) (by kernel_rfl) (by simp) ?_
    refine AllReady.cons rfl (fun K hK => ?_) (AllReady.cons rfl (fun K hK => ?_) AllReady.nil)
    ·go_simp
     refine hK _ _ ?_
     clear hK K
     refine vam 5 rfl (by kernel_rfl) ?_
     simp only [List.drop_succ_cons, List.drop_zero]
     go_wp2_with (at_builtin; go_must (refine vaf EHop rfl _ _ rfl y rfl (Ho.out.keep KV) (h3.trans KV) (by omega) (by omega) rfl rfl rfl rfl rfl (by omega) ?_); intro v' w3 hown' hK' hg; obtain ⟨A3, c3, rfl⟩ := hown'.form1; have B3 := BV.grown hg (Own.ne (Ho.out.keep KV) (by omega)); have cc3 : w3.cell? ⟨w.heap.size + 1, 0, none⟩ = some v := B3.cell 0; have zz := B3.frozen 0)
     exact fin.out w3 _ _ hown' hK' (fun b' hb' => (hg.block _ (by omega) (Own.ne (Ho.out.keep KV) hb')).trans (KV.heap (by omega)))
    ·go_simp
     refine hK _ _ ?_
     clear hK K
     have xX : (V.alloc (.cells #[.int .u32 y.p.a, .int .i64 y.p.l, .bool y.d, .int .i64 y.f, .int .u32 y.x, .int .i64 y.m] 89)).cell? ⟨w.heap.size + 1, 0, none⟩ = some v := ((Kp.refl V).alloc _).cell xV
     refine wpAny_ready (rs := [0]) (by kernel_rfl) (by simp) ?_
     refine AllReady.cons rfl (fun K hK => ?_) AllReady.nil
     go_simp
     refine hK _ _ ?_
     clear hK K
     refine vam 6 rfl (by kernel_rfl) ?_
     simp only [List.drop_succ_cons, List.drop_zero]
     go_wp2_with (at_builtin; go_must (refine vaf EHop rfl _ _ rfl y rfl (Ho.out.keep KV) (h3.trans KV) (by omega) (by omega) rfl rfl rfl rfl rfl (by omega) ?_); intro v' w3 hown' hK' hg; obtain ⟨A3, c3, rfl⟩ := hown'.form1; have B3 := BV.grown hg (Own.ne (Ho.out.keep KV) (by omega)); have cc3 : w3.cell? ⟨w.heap.size + 1, 0, none⟩ = some v := B3.cell 0; have zz := B3.frozen 0)
     exact fin.out w3 _ _ hown' hK' (fun b' hb' => (hg.block _ (by omega) (Own.ne (Ho.out.keep KV) hb')).trans (KV.heap (by omega)))
 ·rintro W ⟨v, h0, h1, h2, h3⟩ hd
  rw [List.take_length] at h2
  simp only [World.size_alloc] at hd
  have x0 : W.cell? ⟨w.heap.size + 1, 0, none⟩ = some v := h1.cell 0
  obtain ⟨A', c', rfl, hR'⟩ := h2.rd (by decide) Hp.len
  have H2 := Lib.hid h2
  have HR' := Lib.hid hR'
  clear h2 hR'
  go_wp2_with fail
  simp only [World.size_alloc]
  refine vbp hd (fun W' hO => ?_)
  refine ⟨.slice A' (hopsOf H rs).length c', ?_, A', c', rfl, ?_, hO.kp h3 (by simp <;> omega), fun a ha => by have := H2.out.newA a ha; omega⟩
  ·simp [results, Tryz.results153, go_sem]
  ·exact HR'.out.only hO (fun a ha => by have := H2.out.newA a ha; simp; omega)
set_option maxRecDepth 100000 in
theorem vfT (f : Nat) (F : List Nat) (L : List Hp) (w : World) (hM : FM w f F L) :
  Calls Tryz.prog 84 #[.pointer (some ⟨f, 0, none⟩)] w (GatP w L) := by
 obtain ⟨tr, t, A, c, H, rfl, m, u, pm⟩ := hM
 have HL : Hid (hopsOf H t.rows = L) := Lib.hid (vgD m.fi u pm)
 have hroom := m.room
 have hlen := m.fi.len
 have HP := Lib.hid (fun r hr => vkv m.fi (r := r) hr)
 have HM := Lib.hid m
 have hrl : t.rows.length ≤ 1000000 := by omega
 have f0 : w.cell? ⟨f, 0, none⟩ = some (.pointer (some ⟨tr, 0, none⟩)) := m.blk.cell 0
 have f1 : w.cell? ⟨f, 1, none⟩ = some (.slice A H.length c) := m.blk.cell 1
 clear m hlen
 go_enter Tryz.func84, Tryz.ntmps84
 go_wp2_with fail
 refine (vbq f tr _ _ HM.out.blk).mono ?_
 rintro e w' ⟨rfl, rfl⟩
 go_wp2_with fail
 go_region_held3 (fun w' => w'.cell? ⟨f, 0, none⟩ = some (.pointer (some ⟨tr, 0, none⟩)) ∧ w'.cell? ⟨f, 1, none⟩ = some (.slice A H.length c)) (first | exact ⟨Ka.cell f0, Ka.cell f1⟩ | exact ⟨(Ka.trans Kb).cell f0, (Ka.trans Kb).cell f1⟩ | go_keep) (first | (go_at_call 154; refine (vkJ tr _ t _ HM.out.trie.blk.drew (HM.out.trie.tm.keep (Kp.refl w).drew) hrl).mono ?_; rintro e wa ⟨bx, A', c', rfl, hD, hKa, hb, hA'⟩; have Ka : Kp w wa := (Kp.refl w).drew.trans hKa; have HD := Lib.hid hD; clear hD hA') | (go_at_call 153; refine (vmI bx A' c' t.rows A c H wa hrl HD.out ((HM.out.own.keep Ka).rdAt (by decide) Hp.len) hroom HP.out).mono ?_; rintro e wb ⟨A2, c2, rfl, hR2, Kb, hA2⟩; rw [HL.out] at hR2 ⊢; have HR2 := Lib.hid hR2; have HA2 := Lib.hid hA2; clear hR2 hA2))
 go_wp2_with fail
 go_ret
 exact ⟨A2, c2, rfl, HR2.out, Ka.trans Kb, fun a ha => by have := HA2.out a ha; have := Ka.size; omega⟩
end

end Go.Proofs.YtgopnfacklmkaaaGreatDoor
