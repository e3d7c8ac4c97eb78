/- Lemmas and contracts for the theorem of this claim: SoB, SoC, SoD, RqC. -/
import Derived.Test.YtgopnfacklmkaaaGreatDoorZyAj
import Derived.Test.YtgopnfacklmkaaaGreatDoorZyAx
import Derived.Maps.RangeWalk
import Derived.LoopN
import Derived.RangeFuncCalls
set_option linter.all false
set_option maxHeartbeats 16000000
namespace Go.Proofs.YtgopnfacklmkaaaGreatDoor
section
open Go.RowKit Go.Maps Go.WideShapes Go.ChangeMaps
open Go.WideElems (rg)
def NxV (L : List Rt) (s : List Rt) (vs : Array Value) (s' : List Rt) : Prop := ∃ r ∈ L, r ∉ s ∧ vs = #[roV r] ∧ s' = s ++ [r]
def EnV (L : List Rt) (s : List Rt) : Prop := ∀ r ∈ L, r ∈ s
def RngV (w : World) (mp r : Nat) (L s : List Rt) (cnt : Nat) : Prop := ∃ es left, es.Perm (L.map entR) ∧ w.ranges Tryz.prog 39 rdAll mp r L.length (.map es) left cnt ∧ ∀ x ∈ L, left (pfKey x.p) = true ↔ x ∉ s
theorem RngV.lie {w w' : World} {mp r : Nat} {L s : List Rt} {cnt : Nat} (h : RngV w mp r L s cnt) (e1 : w'.heap[mp]? = w.heap[mp]?) (e2 : w'.heap[r]? = w.heap[r]?) : RngV w' mp r L s cnt := by
 obtain ⟨es, left, h1, ⟨es', clock, since, seen, c0, g1, g2, g3, g4, g5, g6⟩, h3⟩ := h
 exact ⟨es, left, h1, ⟨es', clock, since, seen, c0, e1.trans g1, g2, g3, g4, e2.trans g5, g6⟩, h3⟩
theorem RngV.start {w : World} {mp r : Nat} {L : List Rt} {es : List (Lit × DataW Value)} {cnt : Nat} (hes : es.Perm (L.map entR)) (hw : ∀ x ∈ L, wfP x.p) (h : w.ranges Tryz.prog 39 rdAll mp r L.length (.map es) (Maps.has (.map es)) cnt) : RngV w mp r L [] cnt := by
 refine ⟨es, _, hes, h, fun x hx => ⟨fun _ => by simp, fun _ => ?_⟩⟩
 exact List.any_eq_true.2 ⟨entR x, hes.mem_iff.2 (List.mem_map.2 ⟨x, hx, rfl⟩), by show (pfKey x.p).sameKey (pfKey x.p) = true; rw [vbS (hw x hx) (hw x hx), decide_eq_true rfl]⟩
theorem RngV.step {w w' : World} {mp r : Nat} {L s : List Rt} {es : List (Lit × DataW Value)} {left : Lit → Bool} {cnt cnt' : Nat} {kl : Lit} {c : Value} {y : DataW Value × List MemPlace} (u : UpR L) (hw : ∀ x ∈ L, wfP x.p)
  (hes : es.Perm (L.map entR)) (h : w.ranges Tryz.prog 39 rdAll mp r L.length (.map es) left cnt) (hl : ∀ x ∈ L, left (pfKey x.p) = true ↔ x ∉ s)
  (hk : left kl = true) (hv : rdAll c = some y) (hat : ∀ zd, DataW.atKey (.map es) kl zd = y.1) (h' : w'.ranges Tryz.prog 39 rdAll mp r L.length (.map es) (fun z => left z && !z.sameKey kl) cnt') :
  ∃ x ∈ L, x ∉ s ∧ c = roV x ∧ kl = pfKey x.p ∧ RngV w' mp r L (s ++ [x]) cnt' := by
 obtain ⟨x, hx, hxk⟩ : ∃ x ∈ L, pfKey x.p = kl := by
  obtain ⟨es', clock, since, seen, c0, g1, g2, g3, g4, g5, g6, g7, g8, g9, _⟩ := h
  obtain ⟨e, he, hek⟩ := g9 kl hk
  injection g4 with g4
  have hm : rg Tryz.prog 39 rdAll e ∈ es := by rw [g4]; exact mem_sorted.2 (List.mem_map.2 ⟨e, he, rfl⟩)
  obtain ⟨x, hx, hxe⟩ := List.mem_map.1 (hes.mem_iff.1 hm)
  exact ⟨x, hx, by rw [← hek, ← hxe]; rfl⟩
 subst hxk
 have hns := (hl x hx).1 hk
 refine ⟨x, hx, hns, ?_, rfl, es, _, hes, h', fun z hz => ?_⟩
 ·have h1 := (veY hes u hw (hw x hx)).1 (.held c)
  rw [hat, vgZ u hx] at h1
  unfold rdAll at hv
  injection hv with hv
  rw [← hv] at h1
  simp only at h1
  injection h1
 ·show (left (pfKey z.p) && !(pfKey z.p).sameKey (pfKey x.p)) = true ↔ _
  rw [Bool.and_eq_true, hl z hz, vbS (hw z hz) (hw x hx), Bool.not_eq_true', decide_eq_false_iff_not, List.mem_append, List.mem_singleton, not_or]
  refine and_congr Iff.rfl ?_
  exact ⟨fun h e => h (by rw [e]), fun h e => h (u.inj hz hx e)⟩
theorem RngV.done {w : World} {mp r : Nat} {L s : List Rt} {left : Lit → Bool} (hl : ∀ x ∈ L, left (pfKey x.p) = true ↔ x ∉ s) (h0 : ∀ kl, left kl = false) : EnV L s := fun x hx => by
 have h := mt (hl x hx).2 (by rw [h0]; simp)
 exact Classical.not_not.1 h
def valsV (bx : Nat) : Value := .func (.func 205) #[] #[.pointer (some ⟨bx, 0, none⟩)]
theorem vbE (fn : Fn) (first cap : Array Value) (w : World) : (Instr.makeFunc fn first cap).run Tryz.prog w = .ok (.func fn first cap) w := rfl
theorem vja (mp : Nat) (w : World) :
  Calls Tryz.prog 149 #[.map (some mp)] w fun e w' => e = .returned (valsV w.heap.size) ∧ Blk w' w.heap.size 123 #[.map (some mp)] ∧ Kp w w' := by
 have hmf := vbE
 unfold valsV
 go_enter Tryz.func149, Tryz.ntmps149
 go_wp2_with fail
 go_ret
 exact ⟨rfl, Blk.new w _ _, (Kp.refl _).alloc _⟩
theorem vfW (args : Array Value) (w : World) : (callFunc 205 args).run Tryz.prog w = .ok (.enter 205 args) w := by kernel_rfl
set_option maxRecDepth 100000 in
theorem vfX (L : List Rt) (mp mb : Nat) (o : Obj) (u : UpR L) (hw : ∀ r ∈ L, wfP r.p) (hm : ∀ V : World, V.heap[mp]? = some o → MapR V mp L) :
  IterH Tryz.prog 205 #[.pointer (some ⟨mb, 0, none⟩)] [] (NxV L) (EnV L) (fun V => Blk V mb 123 #[.map (some mp)] ∧ V.heap[mp]? = some o) := by
 intro l W I hI hM hM0 h0 hy
 have c0 : W.cell? ⟨mb, 0, none⟩ = some (.map (some mp)) := hM0.1.cell 0
 obtain ⟨es, hown, hes⟩ := hm W hM0.2
 have HI := Lib.hid hI
 have HM := Lib.hid hM
 have H0 := Lib.hid h0
 have HY := Lib.hid hy
 have HU := Lib.hid u
 have HW := Lib.hid hw
 have HE := Lib.hid hes
 have mlt : mp < W.heap.size := (Array.getElem?_eq_some_iff.1 hM0.2).1
 have HML := Lib.hid mlt
 clear hI hM h0 hy hM0 u hw hes hm mlt
 go_enter Tryz.func205, Tryz.ntmps205
 go_wp2_with (at_range; refine wpList_range_own _ rfl _ 123 rfl 39 132 keyedPf Tryz.underlying123 rdAll mp L.length _ rfl hown ?_; intro w0 hrg0 hg0 hs0)
 have Hr0 := Lib.hid (RngV.start HE.out HW.out hrg0)
 have hk0 : Kp W w0 := (Kp.refl W).grown hg0 (by simp)
 have Hk0 := Lib.hid (H0.out (W.heap.size + 1) w0 hk0 (by omega) (by omega))
 have Hs0 := Lib.hid hs0
 clear hrg0 hg0 hk0 hs0 hown c0
 go_loopw [7] (fun _ wr => ∃ s cnt, RngV wr mp W.heap.size L s cnt ∧ W.heap.size < wr.heap.size ∧ I (W.heap.size + 1) s wr) (fun _ wr => wr.rangeLeft mp W.heap.size)
 case atStart => exact ⟨[], _, Hr0.out, by rw [Hs0.out]; omega, Hk0.out⟩
 case round =>
  obtain ⟨s, cnt, ⟨es', left, hes', hr, hl⟩, hsz, hi⟩ := hrel
  have HI1 := Lib.hid hi
  have HL := Lib.hid hl
  have HE1 := Lib.hid hes'
  clear hi hl hes'
  go_wp2_with (at_next; refine wpList_next_ranges _ rfl _ rfl 39 keyedPf rdAll id id (fun key _ _ => ⟨key, rfl⟩) (fun v _ _ => ⟨v, rfl⟩) mp W.heap.size L.length _ _ _ rfl hr ?_ ?_)
  ·intro _ hl0
   have HD := Lib.hid (RngV.done (w := wr) (mp := mp) (r := W.heap.size) HL.out hl0)
   clear hl0 hr
   go_wp2_with fail
   go_end0
   exact ⟨rfl, W.heap.size + 1, s, by omega, HD.out, HI1.out⟩
  ·intro x c kl yd yp w1 cnt1 hkey hlx hv hat hrg1 hlt hg1 hs1 hen
   obtain ⟨r, hrL, hrs, hc, _, hR1⟩ := RngV.step HU.out HW.out HE1.out hr HL.out hlx hv hat hrg1
   have hc' : c = roV r := hc
   subst hc'
   have hle := hr.left_eq
   have HLT := Lib.hid (show cnt1 < wr.rangeLeft mp W.heap.size by rw [hle]; exact hlt)
   have hT1 : Turn W.heap.size (W.heap.size + 1) wr w1 := ⟨hg1.os, hg1.tape, hg1.output, by omega, fun j hj hn => hg1.block j hj (by intro e; injection e with e; omega)⟩
   obtain ⟨V, hV, hKV⟩ : ∃ V, w1.alloc (.cells (roC r) 132) = V ∧ Kp w1 V := ⟨_, rfl, (Kp.refl _).alloc _⟩
   have HI2 := Lib.hid (HI.out _ _ _ _ (by omega) HI1.out (hT1.trans (Turn.of_kp hKV)))
   have HR2 := Lib.hid (hR1.lie (hKV.heap (k := mp) (by have := HML.out; omega)) (hKV.heap (k := W.heap.size) (by omega)))
   have HVS := Lib.hid hKV.size
   have b0 : Blk V w1.heap.size 132 (roC r) := by rw [← hV]; exact Blk.new _ _ _
   have HB := Lib.hid b0
   have HRL := Lib.hid hrL
   have HRS := Lib.hid hrs
   have HS1 := Lib.hid hs1
   unfold roC at hV
   clear hkey hlx hv hat hrg1 hlt hg1 hc hR1 hle hT1 hKV hr hrL hrs b0 hs1
   go_upto_region 3 with (fail)
   have hV1 := HVS.out
   have hV2 := HS1.out
   obtain ⟨fn, tmps, asg, bd, hrun, hround⟩ := HY.out (W.heap.size + 1) s V #[roV r] (s ++ [r]) ⟨r, HRL.out, HRS.out, rfl, rfl⟩ (by omega) (by omega) HI2.out
   have HM2 := Lib.hid (HM.out _ _ _ (by omega) HI2.out)
   have HRN := Lib.hid hrun
   have HRO := Lib.hid hround
   have HC := Lib.hid (vab HB.out)
   obtain ⟨r0, r1, r2, r3, r4, r5, r6, r7, r8⟩ := HC.out
   have HZ := Lib.hid (show W.heap.size + 1 ≤ V.heap.size by omega)
   clear hrun hround hV1 hV2
   refine (wpIn_wide (n := 0)).1 ?_
   gi_wp2_with fail
   rw [HRN.out, Oper.uponIn_round]
   refine ⟨(fun h => by cases h), HRO.out.mono ?_⟩
   rintro e W' ⟨hRg, rfl, hi2⟩
   have HI3 := Lib.hid hi2
   have HM3 := Lib.hid (HM.out _ _ _ (by omega) hi2)
   have HR3 := Lib.hid (HR2.out.lie (HM3.out.2.trans HM2.out.2.symm) (hRg.block W.heap.size (Nat.le_refl _) (by omega)))
   have HS3 := Lib.hid hRg.size
   clear hi2 hRg r0 r1 r2 r3 r4 r5 r6 r7 r8
   gi_wp2_with fail
   go_wp2_with fail
   go_roundw
   case rel => exact ⟨s ++ [r], cnt1, HR3.out, by have := HS3.out; have := HZ.out; omega, HI3.out⟩
   case measure =>
    obtain ⟨_, _, _, h, _⟩ := HR3.out
    rw [h.left_eq]
    exact HLT.out
end

section
open Go.RowKit Go.Maps
attribute [local go_sem] Oper.semAt_some
theorem EHeld : ElemOf Tryz.prog 171 132 (.agg #[.int .u32 0, .int .i64 0, .int .i64 0, .int .i64 0, .int .i64 0, .int .i64 0, .int .u32 0, .int .i64 0, .bool false]) 9 72 := ⟨Tryz.underlying171, by kernel_rfl, rfl, by decide⟩
theorem vfY {W : World} {r : Nat} (hd : W.heap[r]? = some (.deferred (some []))) {K : World → Prop} (h : ∀ W', Only [r] W W' → K W') : Takes [{ target := .collected r, args := #[] }] W K :=
 ⟨r, rfl, hd, h _ ((Only.refl [r] W).putObj (by simp) _)⟩
theorem vdH {w W : World} {I : World → Prop} {B : Nat} : ¬ LetsOut (rndPostH w I B W) := fun ⟨_, _, hh⟩ => hh
theorem vei : ∀ {L M : List Rt}, L.Nodup → M.Nodup → (∀ x, x ∈ L ↔ x ∈ M) → L.Perm M
 | [], M, _, _, h => by
  cases M with
  | nil => exact .nil
  | cons y t => exact absurd ((h y).2 List.mem_cons_self) (by simp)
 | a :: t, M, hL, hM, h => by
  obtain ⟨p, q, rfl⟩ := List.append_of_mem ((h a).1 List.mem_cons_self)
  refine (List.Perm.cons a ?_).trans List.perm_middle.symm
  have hM2 := (List.perm_middle (a := a) (l₁ := p) (l₂ := q)).nodup_iff.1 hM
  rw [List.nodup_cons] at hL hM2
  refine vei hL.2 hM2.2 (fun x => ?_)
  have hx := h x
  rw [List.mem_cons, List.mem_append, List.mem_cons] at hx
  rw [List.mem_append]
  constructor
  ·intro hz
   rcases hx.1 (.inr hz) with k | k | k
   ·exact .inl k
   ·subst k; exact absurd hz hL.1
   ·exact .inr k
  ·intro hz
   rcases hx.2 (hz.elim .inl (fun k => .inr (.inr k))) with k | k
   ·subst k; exact absurd (List.mem_append.2 hz) hM2.1
   ·exact k
def CsI (w : World) (L : List Rt) (B : Nat) (s : List Rt) (W : World) : Prop := ∃ v, Blk W w.heap.size 171 #[v] ∧ Own W B 132 9 Rt.enc v s ∧ Kp w W ∧ s.Nodup ∧ ∀ r ∈ s, r ∈ L
def CsP (w : World) (L : List Rt) (e : Ending) (w' : World) : Prop := ∃ A n c s, e = .returned (.slice A n c) ∧ Own w' w.heap.size 132 9 Rt.enc (.slice A n c) s ∧ s.Perm L ∧ Kp w w'
theorem vdI {s L : List Rt} (h : s.Nodup) (hs : ∀ r ∈ s, r ∈ L) : s.length ≤ L.length := by
 induction s generalizing L with
 | nil => exact Nat.zero_le _
 | cons a t ih =>
  rw [List.nodup_cons] at h
  obtain ⟨p, q, rfl⟩ := List.append_of_mem (hs a List.mem_cons_self)
  have := ih (L := p ++ q) h.2 (fun r hr => by
   have := hs r (List.mem_cons_of_mem _ hr)
   rw [List.mem_append, List.mem_cons] at this
   rw [List.mem_append]
   rcases this with k | k | k
   ·exact .inl k
   ·subst k; exact absurd hr h.1
   ·exact .inr k)
  simp only [List.length_cons, List.length_append] at this ⊢
  omega
set_option maxRecDepth 100000 in
theorem vcM (L : List Rt) (mp mb : Nat) (o : Obj) (u : UpR L) (hw : ∀ r ∈ L, wfP r.p) (hm : ∀ V : World, V.heap[mp]? = some o → MapR V mp L) (hn : L.length ≤ 900000) (w : World) (hb : Blk w mb 123 #[.map (some mp)]) (ho : w.heap[mp]? = some o) :
  Calls Tryz.prog 204 #[.slice none 0 0, valsV mb] w (CsP w L) := by
 have hit := vfX L mp mb o u hw hm
 have hnd : L.Nodup := (List.pairwise_map.1 u.nodup).imp (fun {x y} h e => h (by rw [e]))
 have Hit := Lib.hid hit
 have HB := Lib.hid hb
 have HO := Lib.hid ho
 have HND := Lib.hid hnd
 have hmb := hb.lt
 have hmp := (Array.getElem?_eq_some_iff.1 ho).1
 clear hit hb ho hm u hw hnd
 unfold valsV
 refine calls_of_wp_marks Tryz.func204 rfl ?_; simp only [Tryz.ntmps204, List.size_toArray, List.length_cons, List.length_nil, Nat.reduceAdd, Nat.reduceSub, Array.replicate_succ, Array.replicate_zero, List.push_toArray, List.append_toArray, List.nil_append, List.cons_append]
 go_wp2_with fail
 refine vhm rfl vfW Hit.out (fun s vs s' h => by obtain ⟨r, _, _, rfl, _⟩ := h; rfl) (CsI w L) ?_ ?_ ?_ ?_ ?_
 ·rintro B s V V' hB ⟨v, h1, h2, h3, h4⟩ hT
  simp only [World.size_alloc] at hT hB
  exact ⟨v, h1.turn hT (.inl (by omega)), hT.own h2 (Nat.le_refl _), hT.kp h3 (by omega), h4⟩
 ·rintro B s V hB ⟨v, h1, h2, h3, h4⟩
  exact ⟨HB.out.keep h3, (h3.heap hmp).trans HO.out⟩
 ·rintro B V hK hB hV
  exact ⟨_, (Blk.new w _ _).keep hK, Own.nil _ _ _ _ _, ((Kp.refl _).alloc _).trans hK, List.nodup_nil, by simp⟩
 ·rintro l B s V vs s' ⟨r, hrL, hrs, rfl, rfl⟩ hB hBV hi
  simp only [World.size_alloc] at hB
  have HI := Lib.hid hi
  have HRL := Lib.hid hrL
  have HRS := Lib.hid hrs
  clear hi hrL hrs
  gi_wp2_with fail
  refine ⟨Ring.alloc (Ring.refl _ _ _) hBV _, fun U => Blk U V.heap.size 132 (roC r) ∧ CsI w L B s U, ⟨Blk.new _ _ _, ?_⟩, ?_, ?_⟩
  ·obtain ⟨v, h1, h2, h3, h4⟩ := HI.out
   exact ⟨v, h1.alloc _, h2.alloc _, h3.alloc _, h4⟩
  ·rintro U U' ⟨h0, v, h1, h2, h3, h4⟩ hT
   simp only [World.size_alloc] at hT
   exact ⟨h0.turn hT (.inr hBV), v, h1.turn hT (.inl (by omega)), hT.own h2 (Nat.le_refl _), hT.kp h3 (by omega), h4⟩
  ·rintro W2 ⟨h0, v, h1, h2, h3, h4, h5⟩ hsz
   have x0 : W2.cell? ⟨w.heap.size, 0, none⟩ = some v := h1.cell 0
   have z0 := Blk.frozen h1
   have r0 := Blk.f h0 rfl
   have hlen := vdI h4 h5
   have H5 := Lib.hid h5
   have H4 := Lib.hid h4
   clear h4 h5
   refine wpIn_block ?_
   refine vcP (by kernel_rfl) (vaR vdH) ?_
   go_wp2_with (at_builtin; go_must (refine vai EHeld rfl _ _ rfl r rfl h2 h3 (by omega) (by omega) rfl rfl rfl rfl rfl (by omega) ?_); intro v' w2 hown' hK' hg; obtain ⟨A2, c2, rfl⟩ := hown'.form1; have B2 := h1.grown hg (h2.ne (by omega)); have cc2 : w2.cell? ⟨w.heap.size, 0, none⟩ = some v := B2.cell 0; have zz := B2.frozen 0)
   refine ⟨?_, _, B2.set_ 0 _, Own.setBelow (p := ⟨w.heap.size, 0, none⟩) hown' (show w.heap.size < B by omega) _, hK'.setCell (by simp) _, ?_, ?_⟩
   ·simp only [World.size_alloc]
    exact ((Ring.refl _ _ _).grown (by omega) hg (fun k hk => .inr (World.ownsRow.lt h2 k hk).1)).setCell (p := ⟨w.heap.size, 0, none⟩) (.inl (by show w.heap.size < w.heap.size + 1; omega)) _
   ·rw [List.nodup_append]
    exact ⟨H4.out, by simp, fun a ha b hb => by simp only [List.mem_cons, List.not_mem_nil, or_false] at hb; subst hb; rintro rfl; exact HRS.out ha⟩
   ·intro x hx
    rcases List.mem_append.1 hx with h | h
    ·exact H5.out x h
    ·simp only [List.mem_cons, List.not_mem_nil, or_false] at h
     subst h
     exact HRL.out
 ·rintro B s W hB hE ⟨v, h1, h2, h3, h4, h5⟩ hd
  simp only [World.size_alloc] at hd hB
  have x0 : W.cell? ⟨w.heap.size, 0, none⟩ = some v := h1.cell 0
  obtain ⟨A, c, rfl⟩ := h2.form
  have HP := Lib.hid (vei h4 HND.out (fun x => ⟨h5 x, hE x⟩))
  have HE := Lib.hid hE
  have H5 := Lib.hid h5
  clear hE h5 h4
  go_wp2_with fail
  simp only [World.size_alloc]
  refine vfY hd (fun W' hO => ?_)
  refine ⟨.slice A s.length c, ?_, A, s.length, c, s, rfl, (h2.only hO (by simp <;> omega)).mono (by omega), HP.out, hO.kp h3 (by simp)⟩
  simp [results, Tryz.results204, go_sem]
theorem vej (L : List Rt) (mp mb : Nat) (o : Obj) (u : UpR L) (hw : ∀ r ∈ L, wfP r.p) (hm : ∀ V : World, V.heap[mp]? = some o → MapR V mp L) (hn : L.length ≤ 900000) (w : World) (hb : Blk w mb 123 #[.map (some mp)]) (ho : w.heap[mp]? = some o) :
  Calls Tryz.prog 148 #[valsV mb] w (CsP w L) := by
 have H := Lib.hid (vcM L mp mb o u hw hm hn w hb ho)
 clear hb ho hm u hw
 obtain ⟨v, hv⟩ : ∃ v, valsV mb = v := ⟨_, rfl⟩
 rw [hv] at H ⊢
 clear hv
 go_enter Tryz.func148, Tryz.ntmps148
 go_wp2_with fail
 refine H.out.mono ?_
 rintro e w' ⟨A, n, c, s, rfl, hR, hP, hK⟩
 have HR := Lib.hid hR
 clear hR
 go_wp2_with fail
 go_ret
 exact ⟨A, n, c, s, rfl, HR.out, hP, hK⟩
theorem vhq {w : World} {A : Option Addr} {xs : List Rt} (h : Rd w 9 Rt.enc A xs) {k : Nat} (hk : k < xs.length) : ∃ b off : Nat, A = some ⟨b, off, none⟩ ∧ w.cell? ⟨b, off + k * 9, none⟩ = some (.int .u32 (xs[k].p.a : Int)) ∧ w.cell? ⟨b, off + k * 9 + 1, none⟩ = some (.int .i64 xs[k].p.l) ∧ w.cell? ⟨b, off + k * 9 + 2, none⟩ = some (.int .i64 xs[k].s) ∧ w.cell? ⟨b, off + k * 9 + 3, none⟩ = some (.int .i64 xs[k].m) ∧ w.cell? ⟨b, off + k * 9 + 4, none⟩ = some (.int .i64 xs[k].l) ∧ w.cell? ⟨b, off + k * 9 + 5, none⟩ = some (.int .i64 xs[k].f) ∧ w.cell? ⟨b, off + k * 9 + 6, none⟩ = some (.int .u32 (xs[k].x : Int)) ∧ w.cell? ⟨b, off + k * 9 + 7, none⟩ = some (.int .i64 xs[k].d) ∧ w.cell? ⟨b, off + k * 9 + 8, none⟩ = some (.bool xs[k].c) := by
 obtain ⟨b, off, e, hc⟩ := h k hk
 exact ⟨b, off, e, by simpa using hc 0 _ rfl, by simpa using hc 1 _ rfl, by simpa using hc 2 _ rfl, by simpa using hc 3 _ rfl, by simpa using hc 4 _ rfl, by simpa using hc 5 _ rfl, by simpa using hc 6 _ rfl, by simpa using hc 7 _ rfl, by simpa using hc 8 _ rfl⟩
def SiftP (L : List Rt) (w : World) (e : Ending) (w' : World) : Prop := ∃ v, e = .returned v ∧ Own w' w.heap.size 132 9 Rt.enc v L ∧ Kp w w'
def SiI (w : World) (L : List Rt) (f : Rt → Bool) (i : Nat) (v : Value) (W : World) : Prop := Own W w.heap.size 132 9 Rt.enc v ((L.take i).filter f) ∧ Kp w W
theorem vhr {L : List Rt} {f : Rt → Bool} {i : Nat} (h : i < L.length) : (L.take (i + 1)).filter f = (L.take i).filter f ++ (if f L[i] then [L[i]] else []) := by
 rw [List.take_succ_eq_append_getElem h, List.filter_append, List.filter_cons, List.filter_nil]
set_option maxRecDepth 100000 in
theorem vjb (L : List Rt) (A : Option Addr) (c : Nat) (g : FuncId) (f : Rt → Bool) (eg : ∀ args w, (callFunc g args).run Tryz.prog w = .ok (.enter g args) w)
  (hg : ∀ (r : Rt) (W : World), Calls Tryz.prog g #[roV r] W fun e w' => e = .returned (.bool (f r)) ∧ Kp W w') (w : World) (hS : Rd w 9 Rt.enc A L) (hn : L.length ≤ 900000) :
  Calls Tryz.prog 147 #[.slice A L.length c, .func (.func g) #[] #[]] w (SiftP (L.filter f) w) := by
 have HG := Lib.hid hg
 have HS := Lib.hid hS
 have R0 : Hid (SiI w L f 0 (.slice none 0 0) w) := Lib.hid ⟨by rw [List.take_zero]; exact Own.nil _ _ _ _ _, Kp.refl _⟩
 clear hg hS
 go_enter Tryz.func147, Tryz.ntmps147
 go_wp2_with fail
 go_loopw [5, 10] (fun v k wr => ∃ i : Nat, i ≤ L.length ∧ k = .int .i64 i ∧ Hid (SiI w L f i v wr)) (fun _ k _ => L.length - (intOf k).toNat)
 case atStart => exact ⟨0, Nat.zero_le _, rfl, R0⟩
 case round =>
  obtain ⟨i, hi, rfl, R⟩ := hrel
  obtain ⟨A2, c2, hv⟩ := R.out.1.form
  subst hv
  by_cases hlt : i < L.length
  ·have hgi : (i : Int) < (L.length : Int) := by omega
   have hg0 : (0 : Int) ≤ (i : Int) := by omega
   obtain ⟨b, off, hA, s0, s1, s2, s3, s4, s5, s6, s7, s8⟩ := vhq (HS.out.keep R.out.2) hlt
   subst hA
   have hnx := vhr (f := f) hlt
   obtain ⟨r, hr⟩ : ∃ r, L[i] = r := ⟨_, rfl⟩
   rw [hr] at s0 s1 s2 s3 s4 s5 s6 s7 s8 hnx
   have HL : ((L.take i).filter f).length ≤ i := by
    have := List.length_filter_le f (L.take i)
    have h2 := List.length_take_le i L
    omega
   have HN := Lib.hid hnx
   obtain ⟨V, hV, bV, kV⟩ : ∃ V, wr.alloc (.cells (roC r) 132) = V ∧ Blk V wr.heap.size 132 (roC r) ∧ Kp wr V := ⟨_, rfl, Blk.new _ _ _, (Kp.refl _).alloc _⟩
   obtain ⟨n, hn0⟩ : ∃ n, wr.heap.size = n := ⟨_, rfl⟩
   rw [hn0] at bV
   have r0 := Blk.f bV rfl
   unfold roC at hV
   have HB := Lib.hid bV
   clear hr hnx bV
   cases hf : f r with
   | false =>
    have hc := HG.out r
    rw [hf] at hc
    have HC := Lib.hid hc
    have HF := Lib.hid hf
    clear hc hf
    go_wp2_with fail
    refine (HC.out _).mono ?_
    rintro e w1 ⟨rfl, K1⟩
    have R1 : Hid (SiI w L f (i + 1) (.slice A2 ((L.take i).filter f).length c2) w1) := Lib.hid ⟨by rw [HN.out, HF.out, if_neg (by simp), List.append_nil]; exact R.out.1.keep (kV.trans K1), R.out.2.trans (kV.trans K1)⟩
    clear s0 s1 s2 s3 s4 s5 s6 s7 s8 r0
    go_wp2_with fail
    go_roundw
    case rel => exact ⟨i + 1, by omega, by go_num, R1⟩
    case measure => simp [intOf]; omega
   | true =>
    have hc := HG.out r
    rw [hf] at hc
    have HC := Lib.hid hc
    have HF := Lib.hid hf
    clear hc hf
    go_wp2_with fail
    refine (HC.out _).mono ?_
    rintro e w1 ⟨rfl, K1⟩
    have b1 := HB.out.keep K1
    have q0 := Blk.f b1 rfl
    have k1 := R.out.2.trans (kV.trans K1)
    have o1 := R.out.1.keep (kV.trans K1)
    have sz1 := k1.size
    clear s0 s1 s2 s3 s4 s5 s6 s7 s8
    go_wp2_with (at_builtin; go_must (refine vai EHeld rfl _ _ rfl r rfl o1 k1 (Nat.le_refl _) sz1 rfl rfl rfl rfl rfl (by omega) ?_); intro v3 w3 hown3 hK3 hg3; obtain ⟨A3, c3, rfl⟩ := hown3.form1)
    have R1 : Hid (SiI w L f (i + 1) (.slice A3 (((L.take i).filter f).length + 1) c3) w3) := Lib.hid ⟨by rw [HN.out, HF.out, if_pos rfl]; exact hown3, hK3⟩
    clear hown3 hK3 hg3 o1
    go_wp2_with fail
    go_roundw
    case rel => exact ⟨i + 1, by omega, by go_num, R1⟩
    case measure => simp [intOf]; omega
  ·obtain rfl : i = L.length := by omega
   have hlast := R.out
   unfold SiI at hlast
   rw [List.take_length] at hlast
   have HE := Lib.hid hlast
   clear hlast
   go_wp2_with fail
   go_ret
   exact ⟨_, rfl, by rw [List.take_length]; exact HE.out.1, HE.out.2⟩
def toldR (r : Rt) (fc : Int) : Int := if checkR r = 0 then (if (r.s == 2) && (r.f == fc) then 16 else r.m) else 0
theorem vhs (r : Rt) : checkR r = 0 ∨ checkR r = 2 := by unfold checkR; split <;> simp
set_option maxRecDepth 100000 in
theorem vjc (r : Rt) (fc : Int) (w : World) (ha : r.p.a < 4294967296) (hx : r.x < 4294967296) : Calls Tryz.prog 185 #[roV r, .int .i64 fc] w fun e w' => e = .returned (.int .i64 (toldR r fc)) ∧ Kp w w' := by
 obtain ⟨b, hb⟩ : ∃ b, w.heap.size = b := ⟨_, rfl⟩
 obtain ⟨W, hW, kW, B0⟩ := Blk.al1 hb (roC r) 52
 have HB0 := Lib.hid B0
 have HC := Lib.hid (vbM r W ha hx)
 have HkW := Lib.hid kW
 have u : ∀ i, W.cell? ⟨b, i, none⟩ = (List.toArray [.int .u32 (r.p.a : Int), .int .i64 r.p.l, .int .i64 r.s, .int .i64 r.m, .int .i64 r.l, .int .i64 r.f, .int .u32 (r.x : Int), .int .i64 r.d, .bool r.c])[i]? := Blk.f B0 rfl
 have h02 := vhs r
 obtain ⟨n, hn⟩ : ∃ n, toldR r fc = n := ⟨_, rfl⟩
 have HN := Lib.hid hn
 rw [hn]
 unfold toldR at hn
 obtain ⟨c, hc⟩ : ∃ c, checkR r = c := ⟨_, rfl⟩
 rw [hc] at hn h02 HC
 unfold roC at hW
 clear B0 kW ha hx hc
 rcases h02 with rfl | rfl
 ·rw [if_pos rfl] at hn
  cases h1 : (r.s == 2)
  ·rw [h1] at hn
   simp only [Bool.false_and, Bool.false_eq_true, if_false] at hn
   subst hn
   go_enter Tryz.func185, Tryz.ntmps185
   go_wp2_with (first | (go_at_call 118; refine HC.out.mono ?_; rintro e w1 ⟨rfl, K1⟩; have HK1 := Lib.hid K1; have v := Blk.f (l := [.int .u32 (r.p.a : Int), .int .i64 r.p.l, .int .i64 r.s, .int .i64 r.m, .int .i64 r.l, .int .i64 r.f, .int .u32 (r.x : Int), .int .i64 r.d, .bool r.c]) (HB0.out.keep K1) rfl; clear u K1 hW))
   go_ret
   exact ⟨rfl, HkW.out.trans HK1.out⟩
  ·cases h2 : (r.f == fc)
   all_goals
    rw [h1, h2] at hn
    simp only [Bool.and_false, Bool.and_self, Bool.false_eq_true, if_false, if_true] at hn
    subst hn
    go_enter Tryz.func185, Tryz.ntmps185
    go_wp2_with (first | (go_at_call 118; refine HC.out.mono ?_; rintro e w1 ⟨rfl, K1⟩; have HK1 := Lib.hid K1; have v := Blk.f (l := [.int .u32 (r.p.a : Int), .int .i64 r.p.l, .int .i64 r.s, .int .i64 r.m, .int .i64 r.l, .int .i64 r.f, .int .u32 (r.x : Int), .int .i64 r.d, .bool r.c]) (HB0.out.keep K1) rfl; clear u K1 hW))
    go_ret
    exact ⟨rfl, HkW.out.trans HK1.out⟩
 ·rw [if_neg (by decide)] at hn
  subst hn
  go_enter Tryz.func185, Tryz.ntmps185
  go_wp2_with (first | (go_at_call 118; refine HC.out.mono ?_; rintro e w1 ⟨rfl, K1⟩; have HK1 := Lib.hid K1; have v := Blk.f (l := [.int .u32 (r.p.a : Int), .int .i64 r.p.l, .int .i64 r.s, .int .i64 r.m, .int .i64 r.l, .int .i64 r.f, .int .u32 (r.x : Int), .int .i64 r.d, .bool r.c]) (HB0.out.keep K1) rfl; clear u K1 hW))
  go_ret
  exact ⟨rfl, HkW.out.trans HK1.out⟩
abbrev looV (t : Nat) (fc : Int) : Value := .agg #[.pointer (some ⟨t, 0, none⟩), .int .i64 fc]
def entE (fc : Int) (r : Rt) : En := ofE r.p (toldR r fc)
set_option maxRecDepth 100000 in
theorem vfd (t : Nat) (fc : Int) (r : Rt) (w : World) (ha : r.p.a < 4294967296) (hx : r.x < 4294967296) : Calls Tryz.prog 130 #[looV t fc, roV r] w fun e w' => e = .returned (enV (entE fc r)) ∧ Kp w w' := by
 obtain ⟨b, hb⟩ : ∃ b, w.heap.size = b := ⟨_, rfl⟩
 obtain ⟨W, hW, kW, B0, B1, B2⟩ := Blk.al3 hb #[.pointer (some ⟨t, 0, none⟩), .int .i64 fc] 141 (roC r) 52 zeroEC 66
 have HB0 := Lib.hid B0
 have HB1 := Lib.hid B1
 have HB2 := Lib.hid B2
 have HkW := Lib.hid kW
 have hbs : w.heap.size ≤ b + 1 + 1 := by omega
 have HT := Lib.hid (fun V => vjc r fc V ha hx)
 have HO := Lib.hid (fun V => of_g r.p (toldR r fc) V ha)
 unfold OfG at HO
 obtain ⟨m, hm⟩ : ∃ m, toldR r fc = m := ⟨_, rfl⟩
 have HE : Hid (entE fc r = ofE r.p m) := Lib.hid (by rw [← hm]; rfl)
 rw [hm] at HT HO
 obtain ⟨e, he⟩ : ∃ e, ofE r.p m = e := ⟨_, rfl⟩
 rw [he] at HO HE
 obtain ⟨n, hn⟩ : ∃ n, ofN r.p m = n := ⟨_, rfl⟩
 rw [hn] at HO
 unfold roC zeroEC at hW
 clear B0 B1 B2 kW ha hx hm he hn
 go_enter Tryz.func130, Tryz.ntmps130
 go_upto_region 1 with (fail)
 clear hW
 refine' vau (fun (z : Nat) L V9 => Kp W V9 ∧ (L 10 = true → W.heap.size ≤ z ∧ Blk V9 z 66 (bif L 11 then enC e else zeroEC))) [8, 9, 10, 11, 12, 13, 14, 7, 15, 16, 5, 10011, 6] (fun z => [.pointer (some ⟨b + 1, 0, none⟩), .agg #[.int .u32 (r.p.a : Int), .int .i64 r.p.l], .agg #[.int .u32 (r.p.a : Int), .int .i64 r.p.l, .int .i64 r.s, .int .i64 r.m, .int .i64 r.l, .int .i64 r.f, .int .u32 (r.x : Int), .int .i64 r.d, .bool r.c], .pointer (some ⟨b, 1, none⟩), .int .i64 fc, .int .i64 m, .tuple #[.agg #[.int .i64 e.f, .int .i64 e.t, .int .u32 (e.a : Int), .int .u32 (e.m : Int), .int .u32 (e.n : Int), .int .u32 (e.k : Int)], .int .i64 n], .tuple #[.agg #[.int .i64 e.f, .int .i64 e.t, .int .u32 (e.a : Int), .int .u32 (e.m : Int), .int .u32 (e.n : Int), .int .u32 (e.k : Int)], .int .i64 n], .agg #[.int .i64 e.f, .int .i64 e.t, .int .u32 (e.a : Int), .int .u32 (e.m : Int), .int .u32 (e.n : Int), .int .u32 (e.k : Int)], .int .i64 n, .pointer (some ⟨z, 0, none⟩), undef, .int .i64 n]) (List.replicate 13 true) [10, 11] (by kernel_rfl) (by kernel_rfl) (fun _ => rfl) (fun _ => rfl) (fun _ => rfl) 0 ⟨(Kp.refl _).drew, fun h => (by cases h)⟩ (fun _ L L' _ e h => by simpa only [e 10 (by simp), e 11 (by simp)] using h) ?_ ?_ ?_
 rotate_left
 ·intro z; simp only [List.zip_cons_cons, List.zip_nil_right, wrC, wrN, List.set_cons_zero, List.set_cons_succ, List.set_nil]; rfl
 ·repeat' (first | refine And.intro ?_ ?_ | exact trivial)
  all_goals intro z L a w9 hLi d hcl hM hO K hK
  all_goals have u := Blk.f (HB0.out.keep hM.1) rfl
  all_goals have c2 := Blk.f (l := [.int .u32 (r.p.a : Int), .int .i64 r.p.l, .int .i64 r.s, .int .i64 r.m, .int .i64 r.l, .int .i64 r.f, .int .u32 (r.x : Int), .int .i64 r.d, .bool r.c]) (HB1.out.keep hM.1) rfl
  all_goals try (go_simp; exact hK z _ _ (hO rfl) (fun _ _ => rfl) rfl)
  ·go_simp
   refine (HT.out _).mono ?_
   rintro e9 wb ⟨rfl, hKc⟩
   exact hK z _ _ ⟨hM.1.trans hKc, fun h => ⟨(hM.2 (by simpa using h)).1, by simpa using (hM.2 (by simpa using h)).2.keep hKc⟩⟩ (fun _ _ => rfl) rfl
  ·go_simp
   refine (HO.out _).mono ?_
   rintro e9 wb ⟨rfl, hKc⟩
   exact hK z _ _ ⟨hM.1.trans hKc, fun h => ⟨(hM.2 (by simpa using h)).1, by simpa using (hM.2 (by simpa using h)).2.keep hKc⟩⟩ (fun _ _ => rfl) rfl
  ·go_simp
   have n11 : L 11 = false := vac _ hcl (i := 11) rfl (by rfl) hLi
   exact hK w9.heap.size _ _ ⟨hM.1.alloc _, fun _ => ⟨hM.1.size, by simp [n11]; exact Blk.new w9 66 #[.int .i64 0, .int .i64 0, .int .u32 0, .int .u32 0, .int .u32 0, .int .u32 0]⟩⟩ (but1 hLi rfl) rfl
  ·have h10 := hM.2 (d 10 rfl)
   rw [hLi] at h10
   simp only [cond_false] at h10
   have hB10 := h10.2
   unfold zeroEC at hB10
   have y := Blk.f (l := [.int .i64 0, .int .i64 0, .int .u32 0, .int .u32 0, .int .u32 0, .int .u32 0]) hB10 rfl
   have f := Blk.frozen hB10
   obtain ⟨_, rfl, B9, K9⟩ := Blk.putEn hB10 e hM.1 h10.1
   go_simp
   exact hK z _ _ ⟨K9, fun _ => ⟨h10.1, by simp; exact B9⟩⟩ (fun _ _ => rfl) rfl
 intro z L w9 hL hM
 (try simp only [Exit.then])
 rw [hL 11 (by decide)] at hM
 simp only [cond_true] at hM
 obtain ⟨hge, hBz⟩ := hM.2 (hL 10 (by decide))
 have u := Blk.f (l := [.int .i64 e.f, .int .i64 e.t, .int .u32 (e.a : Int), .int .u32 (e.m : Int), .int .u32 (e.n : Int), .int .u32 (e.k : Int)]) hBz rfl
 have hR := HB2.out.keep hM.1
 unfold zeroEC at hR
 have y := Blk.f (l := [.int .i64 0, .int .i64 0, .int .u32 0, .int .u32 0, .int .u32 0, .int .u32 0]) hR rfl
 have f := Blk.frozen hR
 obtain ⟨R9, hR9, B9, K9⟩ := Blk.putEn hR e (HkW.out.trans hM.1) hbs
 unfold enSet at hR9
 have HB9 := Lib.hid B9
 have HK9 := Lib.hid K9
 clear hM hL hR hBz B9 K9
 go_wp2_with fail
 have v := Blk.f (l := [.int .i64 e.f, .int .i64 e.t, .int .u32 (e.a : Int), .int .u32 (e.m : Int), .int .u32 (e.n : Int), .int .u32 (e.k : Int)]) HB9.out rfl
 exact bodyPost_ret (v := enV e) (by simp [results, Tryz.results130, go_sem, v]) rfl ⟨by rw [HE.out], HK9.out⟩
def ansE (T : Tb) (fc : Int) (p : PI) : En := match getR p T.l with | some r => entE fc r | none => ofE p 16
set_option maxRecDepth 100000 in
theorem vjd (B t : Nat) (F : List Nat) (T : Tb) (fc : Int) (p : PI) (w : World) (hT : TabM w B t F T) (hp : wfP p) (hx : ∀ r ∈ T.l, r.p.a < 4294967296 ∧ r.x < 4294967296) : Calls Tryz.prog 106 #[looV t fc, .agg #[.int .u32 (p.a : Int), .int .i64 p.l]] w fun e w' => e = .returned (enV (ansE T fc p)) ∧ Kp w w' := by
 obtain ⟨b, hb⟩ : ∃ b, w.heap.size = b := ⟨_, rfl⟩
 obtain ⟨W, hW, kW, B0, B1, B2⟩ := Blk.al3 hb #[.pointer (some ⟨t, 0, none⟩), .int .i64 fc] 141 #[.int .u32 (p.a : Int), .int .i64 p.l] 39 zeroEC 66
 have HB0 := Lib.hid B0
 have HB1 := Lib.hid B1
 have HB2 := Lib.hid B2
 have HkW := Lib.hid kW
 have hbs : w.heap.size ≤ b + 1 + 1 := by omega
 have hcr := viW B t F T p W (hT.keep kW) hp
 unfold GetP at hcr
 have u := Blk.f B0 rfl
 have c2 := Blk.f B1 rfl
 have HOF := Lib.hid (fun V => of_g p 16 V hp.1)
 unfold OfG at HOF
 unfold zeroEC at hW
 have HANS : Hid (ansE T fc p = match getR p T.l with | some r => entE fc r | none => ofE p 16) := Lib.hid rfl
 have HXX : Hid (∀ r, getR p T.l = some r → r.p.a < 4294967296 ∧ r.x < 4294967296) := Lib.hid (fun r h => hx r (vas h).1)
 clear hT B0 B1 B2 kW hp hx
 have fin : Hid (∀ (V : World) (e : En), Kp W V → ∃ R9, enSet V (b + 1 + 1) e = R9 ∧ Blk R9 (b + 1 + 1) 66 (enC e) ∧ Kp w R9) := Lib.hid (fun V e hV => by
  have hR := HB2.out.keep hV
  unfold zeroEC at hR
  exact Blk.putEn hR e (HkW.out.trans hV) hbs)
 obtain ⟨og, hog⟩ : ∃ og, getR p T.l = og := ⟨_, rfl⟩
 rw [hog] at hcr HANS HXX
 clear hog
 obtain ⟨r, hr⟩ : ∃ r, og.getD zeroR = r := ⟨_, rfl⟩
 rw [hr] at hcr
 cases og with
 | none =>
  have HG := Lib.hid hcr
  obtain ⟨e, he⟩ : ∃ e, ofE p 16 = e := ⟨_, rfl⟩
  have HA : Hid (ansE T fc p = e) := Lib.hid (by rw [HANS.out, he])
  rw [he] at HOF
  clear hcr he hr
  go_enter Tryz.func106, Tryz.ntmps106
  go_upto_region 4 with (first | (go_at_call 162; refine HG.out.mono ?_; rintro e1 w1 ⟨rfl, K1⟩; obtain ⟨p1, hp1⟩ : ∃ p1, w1.heap.size = p1 := ⟨_, rfl⟩; obtain ⟨W1, hW1, kW1, BX⟩ := Blk.al1 hp1 (roC r) 52; unfold roC at hW1; have HK1 := Lib.hid (K1.trans kW1); have HBX := Lib.hid BX; have d2 := Blk.f (HB1.out.keep HK1.out) rfl; have d1 := Blk.f (HB0.out.keep HK1.out) rfl; have d3 := Blk.f (l := [.int .u32 (r.p.a : Int), .int .i64 r.p.l, .int .i64 r.s, .int .i64 r.m, .int .i64 r.l, .int .i64 r.f, .int .u32 (r.x : Int), .int .i64 r.d, .bool r.c]) BX rfl; clear u c2 K1 kW1 BX hW))
  obtain ⟨n, hn⟩ : ∃ n, ofN p 16 = n := ⟨_, rfl⟩
  rw [hn] at HOF
  clear hn
  go_upto_region 5 with (first | (go_at_call 163; refine (HOF.out _).mono ?_; rintro e1 w2 ⟨rfl, K2⟩; obtain ⟨p2, hp2⟩ : ∃ p2, w2.heap.size = p2 := ⟨_, rfl⟩; obtain ⟨W2, hW2, kW2, BY⟩ := Blk.al1 hp2 (enC e) 66; unfold enC at hW2; have HK2 := Lib.hid (HK1.out.trans (K2.trans kW2)); have d4 := Blk.f (l := [.int .i64 e.f, .int .i64 e.t, .int .u32 (e.a : Int), .int .u32 (e.m : Int), .int .u32 (e.n : Int), .int .u32 (e.k : Int)]) BY rfl; clear K2 kW2 BY d1 d2 d3 hW1))
  obtain ⟨R9, hR9, B9, K9⟩ := fin.out W2 e HK2.out
  unfold enSet at hR9
  have hR := HB2.out.keep (HK2.out)
  unfold zeroEC at hR
  have y := Blk.f (l := [.int .i64 0, .int .i64 0, .int .u32 0, .int .u32 0, .int .u32 0, .int .u32 0]) hR rfl
  have f := Blk.frozen hR
  have HB9 := Lib.hid B9
  have HK9 := Lib.hid K9
  clear hR B9 K9
  go_wp2_with fail
  have v := Blk.f (l := [.int .i64 e.f, .int .i64 e.t, .int .u32 (e.a : Int), .int .u32 (e.m : Int), .int .u32 (e.n : Int), .int .u32 (e.k : Int)]) HB9.out rfl
  exact bodyPost_ret (v := enV e) (by simp [results, Tryz.results106, go_sem, v]) rfl ⟨by rw [HA.out], HK9.out⟩
 | some r0 =>
  obtain rfl : r0 = r := hr
  have HG := Lib.hid hcr
  have hxx := HXX.out r0 rfl
  have HEN := Lib.hid (fun V => vfd t fc r0 V hxx.1 hxx.2)
  obtain ⟨e, he⟩ : ∃ e, entE fc r0 = e := ⟨_, rfl⟩
  have HA : Hid (ansE T fc p = e) := Lib.hid (by rw [HANS.out]; exact he)
  rw [he] at HEN
  clear hcr he hxx
  go_enter Tryz.func106, Tryz.ntmps106
  go_upto_region 3 with (first | (go_at_call 162; refine HG.out.mono ?_; rintro e1 w1 ⟨rfl, K1⟩; obtain ⟨p1, hp1⟩ : ∃ p1, w1.heap.size = p1 := ⟨_, rfl⟩; obtain ⟨W1, hW1, kW1, BX⟩ := Blk.al1 hp1 (roC r0) 52; unfold roC at hW1; have HK1 := Lib.hid (K1.trans kW1); have HBX := Lib.hid BX; have d2 := Blk.f (HB1.out.keep HK1.out) rfl; have d1 := Blk.f (HB0.out.keep HK1.out) rfl; have d3 := Blk.f (l := [.int .u32 (r0.p.a : Int), .int .i64 r0.p.l, .int .i64 r0.s, .int .i64 r0.m, .int .i64 r0.l, .int .i64 r0.f, .int .u32 (r0.x : Int), .int .i64 r0.d, .bool r0.c]) BX rfl; clear u c2 K1 kW1 BX hW))
  go_wp2_with fail
  refine (HEN.out _).mono ?_
  rintro e1 w2 ⟨rfl, K2⟩
  have HK2 := Lib.hid (HK1.out.trans K2)
  clear K2 d1 d2 d3 hW1
  obtain ⟨R9, hR9, B9, K9⟩ := fin.out w2 e HK2.out
  unfold enSet at hR9
  have hR := HB2.out.keep (HK2.out)
  unfold zeroEC at hR
  have y := Blk.f (l := [.int .i64 0, .int .i64 0, .int .u32 0, .int .u32 0, .int .u32 0, .int .u32 0]) hR rfl
  have f := Blk.frozen hR
  have HB9 := Lib.hid B9
  have HK9 := Lib.hid K9
  clear hR B9 K9
  go_wp2_with fail
  have v := Blk.f (l := [.int .i64 e.f, .int .i64 e.t, .int .u32 (e.a : Int), .int .u32 (e.m : Int), .int .u32 (e.n : Int), .int .u32 (e.k : Int)]) HB9.out rfl
  exact bodyPost_ret (v := enV e) (by simp [results, Tryz.results106, go_sem, v]) rfl ⟨by rw [HA.out], HK9.out⟩
end

end Go.Proofs.YtgopnfacklmkaaaGreatDoor
