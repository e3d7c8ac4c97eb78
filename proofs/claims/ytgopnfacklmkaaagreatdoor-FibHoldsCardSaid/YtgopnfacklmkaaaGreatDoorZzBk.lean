/- Lemmas and contracts for the theorem of this claim: SoL, SoA, SoB, SoC, SoD, ShR. -/
import Derived.Test.YtgopnfacklmkaaaGreatDoorZzAt
import Derived.Test.YtgopnfacklmkaaaGreatDoorZzAy
import Derived.Test.YtgopnfacklmkaaaGreatDoorZzBe
import Derived.Shelf.SlSortCmp.WholeK
import Derived.Maps.RangeWalk
import Derived.Shelf.SlMaps.Clone
import Derived.Shelf.SlMaps.Equal
import Derived.Test.YtgopnfacklmkaaaGreatDoorProg
set_option linter.all false
set_option maxHeartbeats 16000000
namespace Go.Proofs.YtgopnfacklmkaaaGreatDoor
section
open Go.RowKit Go.Sort Go.Shelf
instance : Inhabited Rt := ⟨zeroR⟩
def cfR (x y : Rt) : Int := ordI x.p.a x.p.l y.p.a y.p.l
theorem vdo {x y : Rt} : ltOf cfR x y = true ↔ ltP x.p y.p := by
 unfold ltOf cfR
 rw [decide_eq_true_iff]
 exact vgX
theorem vcl {x y : Rt} : ltOf cfR x y = false ↔ ¬ ltP x.p y.p := by
 rw [← vdo]
 exact Bool.not_eq_true _ |>.symm ▸ Iff.rfl
theorem swoR : SWO (ltOf cfR) where
 irrefl x := vcl.2 (fun h => vbB h rfl)
 trans x y z h1 h2 := vdo.2 (vfF (vdo.1 h1) (vdo.1 h2))
 ntrans x y z h1 h2 := by
  rw [vcl] at *
  unfold ltP at *
  omega
theorem vkR {L : List Rt} (u : UpR L) {d d' : Array Rt} (h0 : d.toList.Perm L) (hp : PermIn 0 d.size d d') (hs : SortedIn (ltOf cfR) 0 d.size d') : d'.toList = L := by
 obtain ⟨h1, _, h3⟩ := hp
 have e1 : d'.extract 0 d.size = d' := by rw [← h1]; simp
 have e2 : d.extract 0 d.size = d := by simp
 rw [e1, e2] at h3
 have hP := h3.trans h0
 have hn : (d'.toList.map Rt.p).Nodup := (hP.map Rt.p).nodup_iff.2 u.nodup
 refine UpR.eq_perm ?_ u hP
 unfold UpR
 rw [List.pairwise_iff_getElem]
 intro i j hi hj hij
 have hi' : i < d'.size := by simpa using hi
 have hj' : j < d'.size := by simpa using hj
 have h4 := hs i j (Nat.zero_le _) hij (by omega)
 rw [getElem!_pos d' i hi', getElem!_pos d' j hj', vcl] at h4
 rw [Array.getElem_toList, Array.getElem_toList]
 rcases veR d'[i].p d'[j].p with h | h | h
 ·exact h
 ·exact absurd (by rw [List.getElem_map, List.getElem_map]; simpa using h) (List.pairwise_iff_getElem.1 hn i j (by simpa using hi) (by simpa using hj) hij)
 ·exact absurd h h4
theorem viw {w w' : World} (k : Kp w w') (h : w.drawn ≤ w'.drawn) : ∃ q os', w' = grow (w.drewN q) os' := by
 refine ⟨w'.drawn - w.drawn, w'.heap.extract w.heap.size w'.heap.size, ?_⟩
 have hs := k.size
 have hh : w'.heap = w.heap ++ w'.heap.extract w.heap.size w'.heap.size := by
  apply Array.ext_getElem?
  intro i
  by_cases hi : i < w.heap.size
  ·rw [Array.getElem?_append_left hi]
   exact k.heap hi
  ·rw [Array.getElem?_append_right (by omega), Array.getElem?_extract]
   by_cases hj : i < w'.heap.size
   ·rw [if_pos (by omega)]
    congr 1
    omega
   ·rw [if_neg (by omega), Array.getElem?_eq_none (by omega)]
 have ht := Below.tape k
 have ho := Below.os k
 have hu := Below.output k
 cases w with | mk h1 t1 d1 o1 u1 => cases w' with | mk h2 t2 d2 o2 u2 =>
 simp only at ht ho hu hh h hs ⊢
 subst ht ho hu
 unfold grow World.drewN
 simp only [World.mk.injEq, and_true, true_and]
 exact ⟨hh, by omega⟩
set_option maxRecDepth 100000 in
theorem vix (a l b k : Int) (w : World) : Calls Tryz.prog 152 #[.agg #[.int .u32 a, .int .i64 l], .agg #[.int .u32 b, .int .i64 k]] w fun e w' => e = .returned (.int .i64 (ordI a l b k)) ∧ Kp w w' ∧ w.drawn ≤ w'.drawn := by
 obtain ⟨W, hW, kW, B0, B1⟩ : ∃ W, (w.alloc (.cells #[.int .u32 a, .int .i64 l] 39)).alloc (.cells #[.int .u32 b, .int .i64 k] 39) = W ∧ (Kp w W ∧ W.drawn = w.drawn) ∧ Blk W w.heap.size 39 #[.int .u32 a, .int .i64 l] ∧ Blk W (w.heap.size + 1) 39 #[.int .u32 b, .int .i64 k] := ⟨_, rfl, ⟨((Kp.refl _).alloc _).alloc _, rfl⟩, (Blk.new w _ _).alloc _, Blk.new1 w _ _ _⟩
 obtain ⟨x, hx⟩ : ∃ x, cmpI a b = x := ⟨_, rfl⟩
 obtain ⟨y, hy⟩ : ∃ y, cmpI l k = y := ⟨_, rfl⟩
 have Hx := Lib.hid hx
 have Hy := Lib.hid hy
 have Hr : Hid (ordI a l b k = if x = 0 then y else x) := by rw [← hx, ← hy]; exact Lib.hid rfl
 clear hx hy
 go_enter Tryz.func152, Tryz.ntmps152
 go_wp2_with fail
 refine vau 10 (by kernel_rfl) (by kernel_rfl) (fun V hV => ?_)
 have KV : Kp W V := by rw [hV]; exact (Kp.refl _).drew
 have hdr : W.drawn ≤ V.drawn := by rw [hV]; exact Nat.le_succ _
 have HD := Lib.hid (show w.drawn ≤ V.drawn by rw [← kW.2]; exact hdr)
 clear hdr
 obtain ⟨p0, p1⟩ := Blk.v2 (B0.keep KV) (.int .u32 a) (.int .i64 l) rfl
 obtain ⟨q0, q1⟩ := Blk.v2 (B1.keep KV) (.int .u32 b) (.int .i64 k) rfl
 clear hV hW
 simp only [List.take_succ_cons, List.take_zero, List.drop_succ_cons, List.drop_zero]
 still_step
 still_step
 still_step
 still_step
 still_call (by refine (vgT a b _).mono ?_; rintro e w' ⟨rfl, rfl⟩; rw [Hx.out]; exact ⟨rfl, rfl⟩)
 still_step
 still_step
 still_step
 still_step
 still_call (by refine (vgU l k _).mono ?_; rintro e w' ⟨rfl, rfl⟩; rw [Hy.out]; exact ⟨rfl, rfl⟩)
 refine wpStill_nil ?_
 clear p0 p1 q0 q1
 go_wp2_with fail
 refine (vjb x y V.heap.size _ (Blk.new V _ _)).mono ?_
 rintro e w' ⟨rfl, rfl⟩
 rw [← Hr.out]
 go_wp2_with fail
 go_ret
 exact ⟨rfl, (kW.1.trans KV).alloc _, HD.out⟩
set_option maxRecDepth 100000 in
theorem vmM (x y : Rt) (w : World) : Calls Tryz.prog 151 #[roV x, roV y] w fun e w' => e = .returned (.int .i64 (cfR x y)) ∧ Kp w w' ∧ w.drawn ≤ w'.drawn := by
 obtain ⟨W, hW, kW, B0, B1⟩ : ∃ W, (w.alloc (.cells (roC x) 132)).alloc (.cells (roC y) 132) = W ∧ (Kp w W ∧ W.drawn = w.drawn) ∧ Blk W w.heap.size 132 (roC x) ∧ Blk W (w.heap.size + 1) 132 (roC y) := ⟨_, rfl, ⟨((Kp.refl _).alloc _).alloc _, rfl⟩, (Blk.new w _ _).alloc _, Blk.new1 w _ _ _⟩
 obtain ⟨b, hb⟩ : ∃ b, w.heap.size = b := ⟨_, rfl⟩
 rw [hb] at B0 B1
 unfold roC at hW
 have x0 := Blk.f B0 rfl
 have y0 := Blk.f B1 rfl
 have HD := Lib.hid kW
 clear kW B0 B1
 go_enter Tryz.func151, Tryz.ntmps151
 go_wp2_with (first | (go_at_call 152; refine (vix _ _ _ _ _).mono ?_; rintro e w2 ⟨rfl, k2, d2⟩))
 go_ret
 exact ⟨rfl, HD.out.1.trans k2, by rw [← HD.out.2]; exact d2⟩
end

section
open Go.RowKit Go.Maps Go.WideShapes Go.ChangeMaps
open Go.WideElems (rg)
def NxV (L : List Rt) (s : List Rt) (vs : Array Value) (s' : List Rt) : Prop := ∃ r ∈ L, r ∉ s ∧ vs = #[roV r] ∧ s' = s ++ [r]
def EnV (L : List Rt) (s : List Rt) : Prop := ∀ r ∈ L, r ∈ s
def RngV (w : World) (mp r : Nat) (L s : List Rt) (cnt : Nat) : Prop := ∃ es left, es.Perm (L.map entR) ∧ w.ranges Tryz.prog 39 rdAll mp r L.length (.map es) left cnt ∧ ∀ x ∈ L, left (pfKey x.p) = true ↔ x ∉ s
theorem RngV.lie {w w' : World} {mp r : Nat} {L s : List Rt} {cnt : Nat} (h : RngV w mp r L s cnt) (e1 : w'.heap[mp]? = w.heap[mp]?) (e2 : w'.heap[r]? = w.heap[r]?) : RngV w' mp r L s cnt := by
 obtain ⟨es, left, h1, ⟨es', clock, since, seen, c0, g1, g2, g3, g4, g5, g6⟩, h3⟩ := h
 exact ⟨es, left, h1, ⟨es', clock, since, seen, c0, e1.trans g1, g2, g3, g4, e2.trans g5, g6⟩, h3⟩
theorem RngV.start {w : World} {mp r : Nat} {L : List Rt} {es : List (Lit × DataW Value)} {cnt : Nat} (hes : es.Perm (L.map entR)) (hw : ∀ x ∈ L, wfP x.p) (h : w.ranges Tryz.prog 39 rdAll mp r L.length (.map es) (Maps.has (.map es)) cnt) : RngV w mp r L [] cnt := by
 refine ⟨es, _, hes, h, fun x hx => ⟨fun _ => by simp, fun _ => ?_⟩⟩
 exact List.any_eq_true.2 ⟨entR x, hes.mem_iff.2 (List.mem_map.2 ⟨x, hx, rfl⟩), by show (pfKey x.p).sameKey (pfKey x.p) = true; rw [vcO (hw x hx) (hw x hx), decide_eq_true rfl]⟩
theorem RngV.step {w w' : World} {mp r : Nat} {L s : List Rt} {es : List (Lit × DataW Value)} {left : Lit → Bool} {cnt cnt' : Nat} {kl : Lit} {c : Value} {y : DataW Value × List MemPlace} (u : UpR L) (hw : ∀ x ∈ L, wfP x.p)
  (hes : es.Perm (L.map entR)) (h : w.ranges Tryz.prog 39 rdAll mp r L.length (.map es) left cnt) (hl : ∀ x ∈ L, left (pfKey x.p) = true ↔ x ∉ s)
  (hk : left kl = true) (hv : rdAll c = some y) (hat : ∀ zd, DataW.atKey (.map es) kl zd = y.1) (h' : w'.ranges Tryz.prog 39 rdAll mp r L.length (.map es) (fun z => left z && !z.sameKey kl) cnt') :
  ∃ x ∈ L, x ∉ s ∧ c = roV x ∧ kl = pfKey x.p ∧ RngV w' mp r L (s ++ [x]) cnt' := by
 obtain ⟨x, hx, hxk⟩ : ∃ x ∈ L, pfKey x.p = kl := by
  obtain ⟨es', clock, since, seen, c0, g1, g2, g3, g4, g5, g6, g7, g8, g9, _⟩ := h
  obtain ⟨e, he, hek⟩ := g9 kl hk
  injection g4 with g4
  have hm : rg Tryz.prog 39 rdAll e ∈ es := by rw [g4]; exact mem_sorted.2 (List.mem_map.2 ⟨e, he, rfl⟩)
  obtain ⟨x, hx, hxe⟩ := List.mem_map.1 (hes.mem_iff.1 hm)
  exact ⟨x, hx, by rw [← hek, ← hxe]; rfl⟩
 subst hxk
 have hns := (hl x hx).1 hk
 refine ⟨x, hx, hns, ?_, rfl, es, _, hes, h', fun z hz => ?_⟩
 ·have h1 := (veX hes u hw (hw x hx)).1 (.held c)
  rw [hat, vdF u hx] at h1
  unfold rdAll at hv
  injection hv with hv
  rw [← hv] at h1
  simp only at h1
  injection h1
 ·show (left (pfKey z.p) && !(pfKey z.p).sameKey (pfKey x.p)) = true ↔ _
  rw [Bool.and_eq_true, hl z hz, vcO (hw z hz) (hw x hx), Bool.not_eq_true', decide_eq_false_iff_not, List.mem_append, List.mem_singleton, not_or]
  refine and_congr Iff.rfl ?_
  exact ⟨fun h e => h (by rw [e]), fun h e => h (u.inj hz hx e)⟩
theorem RngV.done {w : World} {mp r : Nat} {L s : List Rt} {left : Lit → Bool} (hl : ∀ x ∈ L, left (pfKey x.p) = true ↔ x ∉ s) (h0 : ∀ kl, left kl = false) : EnV L s := fun x hx => by
 have h := mt (hl x hx).2 (by rw [h0]; simp)
 exact Classical.not_not.1 h
def valsV (bx : Nat) : Value := .func (.func 205) #[] #[.pointer (some ⟨bx, 0, none⟩)]
theorem vcH (fn : Fn) (first cap : Array Value) (w : World) : (Instr.makeFunc fn first cap).run Tryz.prog w = .ok (.func fn first cap) w := rfl
theorem vmN (mp : Nat) (w : World) :
  Calls Tryz.prog 149 #[.map (some mp)] w fun e w' => e = .returned (valsV w.heap.size) ∧ Blk w' w.heap.size 123 #[.map (some mp)] ∧ Kp w w' := by
 have hmf := vcH
 unfold valsV
 go_enter Tryz.func149, Tryz.ntmps149
 go_wp2_with fail
 go_ret
 exact ⟨rfl, Blk.new w _ _, (Kp.refl _).alloc _⟩
theorem viy (args : Array Value) (w : World) : (callFunc 205 args).run Tryz.prog w = .ok (.enter 205 args) w := by kernel_rfl
set_option maxRecDepth 100000 in
theorem viz (L : List Rt) (mp mb : Nat) (o : Obj) (u : UpR L) (hw : ∀ r ∈ L, wfP r.p) (hm : ∀ V : World, V.heap[mp]? = some o → MapR V mp L) :
  IterH Tryz.prog 205 #[.pointer (some ⟨mb, 0, none⟩)] [] (NxV L) (EnV L) (fun V => Blk V mb 123 #[.map (some mp)] ∧ V.heap[mp]? = some o) := by
 intro l W I hI hM hM0 h0 hy
 have c0 : W.cell? ⟨mb, 0, none⟩ = some (.map (some mp)) := hM0.1.cell 0
 obtain ⟨es, hown, hes⟩ := hm W hM0.2
 have HI := Lib.hid hI
 have HM := Lib.hid hM
 have H0 := Lib.hid h0
 have HY := Lib.hid hy
 have HU := Lib.hid u
 have HW := Lib.hid hw
 have HE := Lib.hid hes
 have mlt : mp < W.heap.size := (Array.getElem?_eq_some_iff.1 hM0.2).1
 have HML := Lib.hid mlt
 clear hI hM h0 hy hM0 u hw hes hm mlt
 go_enter Tryz.func205, Tryz.ntmps205
 go_wp2_with (at_range; refine wpList_range_own _ rfl _ 123 rfl 39 132 keyedPf Tryz.underlying123 rdAll mp L.length _ rfl hown ?_; intro w0 hrg0 hg0 hs0)
 have Hr0 := Lib.hid (RngV.start HE.out HW.out hrg0)
 have hk0 : Kp W w0 := (Kp.refl W).grown hg0 (by simp)
 have Hk0 := Lib.hid (H0.out (W.heap.size + 1) w0 hk0 (by omega) (by omega))
 have Hs0 := Lib.hid hs0
 clear hrg0 hg0 hk0 hs0 hown c0
 go_loopw [7] (fun _ wr => ∃ s cnt, RngV wr mp W.heap.size L s cnt ∧ W.heap.size < wr.heap.size ∧ I (W.heap.size + 1) s wr) (fun _ wr => wr.rangeLeft mp W.heap.size)
 case atStart => exact ⟨[], _, Hr0.out, by rw [Hs0.out]; omega, Hk0.out⟩
 case round =>
  obtain ⟨s, cnt, ⟨es', left, hes', hr, hl⟩, hsz, hi⟩ := hrel
  have HI1 := Lib.hid hi
  have HL := Lib.hid hl
  have HE1 := Lib.hid hes'
  clear hi hl hes'
  go_wp2_with (at_next; refine wpList_next_ranges _ rfl _ rfl 39 keyedPf rdAll id id (fun key _ _ => ⟨key, rfl⟩) (fun v _ _ => ⟨v, rfl⟩) mp W.heap.size L.length _ _ _ rfl hr ?_ ?_)
  ·intro _ hl0
   have HD := Lib.hid (RngV.done (w := wr) (mp := mp) (r := W.heap.size) HL.out hl0)
   clear hl0 hr
   go_wp2_with fail
   go_end0
   exact ⟨rfl, W.heap.size + 1, s, by omega, HD.out, HI1.out⟩
  ·intro x c kl yd yp w1 cnt1 hkey hlx hv hat hrg1 hlt hg1 hs1 hen
   obtain ⟨r, hrL, hrs, hc, _, hR1⟩ := RngV.step HU.out HW.out HE1.out hr HL.out hlx hv hat hrg1
   have hc' : c = roV r := hc
   subst hc'
   have hle := hr.left_eq
   have HLT := Lib.hid (show cnt1 < wr.rangeLeft mp W.heap.size by rw [hle]; exact hlt)
   have hT1 : Turn W.heap.size (W.heap.size + 1) wr w1 := ⟨hg1.os, hg1.tape, hg1.output, by omega, fun j hj hn => hg1.block j hj (by intro e; injection e with e; omega)⟩
   obtain ⟨V, hV, hKV⟩ : ∃ V, w1.alloc (.cells (roC r) 132) = V ∧ Kp w1 V := ⟨_, rfl, (Kp.refl _).alloc _⟩
   have HI2 := Lib.hid (HI.out _ _ _ _ (by omega) HI1.out (hT1.trans (Turn.of_kp hKV)))
   have HR2 := Lib.hid (hR1.lie (hKV.heap (k := mp) (by have := HML.out; omega)) (hKV.heap (k := W.heap.size) (by omega)))
   have HVS := Lib.hid hKV.size
   have b0 : Blk V w1.heap.size 132 (roC r) := by rw [← hV]; exact Blk.new _ _ _
   have HB := Lib.hid b0
   have HRL := Lib.hid hrL
   have HRS := Lib.hid hrs
   have HS1 := Lib.hid hs1
   unfold roC at hV
   clear hkey hlx hv hat hrg1 hlt hg1 hc hR1 hle hT1 hKV hr hrL hrs b0 hs1
   go_upto_region 3 with (fail)
   have hV1 := HVS.out
   have hV2 := HS1.out
   obtain ⟨fn, tmps, asg, bd, hrun, hround⟩ := HY.out (W.heap.size + 1) s V #[roV r] (s ++ [r]) ⟨r, HRL.out, HRS.out, rfl, rfl⟩ (by omega) (by omega) HI2.out
   have HM2 := Lib.hid (HM.out _ _ _ (by omega) HI2.out)
   have HRN := Lib.hid hrun
   have HRO := Lib.hid hround
   have HC := Lib.hid (vae HB.out)
   obtain ⟨r0, r1, r2, r3, r4, r5, r6, r7, r8⟩ := HC.out
   have HZ := Lib.hid (show W.heap.size + 1 ≤ V.heap.size by omega)
   clear hrun hround hV1 hV2
   refine (wpIn_wide (n := 0)).1 ?_
   gi_wp2_with fail
   rw [HRN.out, Oper.uponIn_round]
   refine ⟨(fun h => by cases h), HRO.out.mono ?_⟩
   rintro e W' ⟨hRg, rfl, hi2⟩
   have HI3 := Lib.hid hi2
   have HM3 := Lib.hid (HM.out _ _ _ (by omega) hi2)
   have HR3 := Lib.hid (HR2.out.lie (HM3.out.2.trans HM2.out.2.symm) (hRg.block W.heap.size (Nat.le_refl _) (by omega)))
   have HS3 := Lib.hid hRg.size
   clear hi2 hRg r0 r1 r2 r3 r4 r5 r6 r7 r8
   gi_wp2_with fail
   go_wp2_with fail
   go_roundw
   case rel => exact ⟨s ++ [r], cnt1, HR3.out, by have := HS3.out; have := HZ.out; omega, HI3.out⟩
   case measure =>
    obtain ⟨_, _, _, h, _⟩ := HR3.out
    rw [h.left_eq]
    exact HLT.out
end

section
open Go.RowKit Go.Maps
attribute [local go_sem] Oper.semAt_some
theorem EHeld : ElemOf Tryz.prog 171 132 (.agg #[.int .u32 0, .int .i64 0, .int .i64 0, .int .i64 0, .int .i64 0, .int .i64 0, .int .u32 0, .int .i64 0, .bool false]) 9 72 := ⟨Tryz.underlying171, by kernel_rfl, rfl, by decide⟩
theorem viA {W : World} {r : Nat} (hd : W.heap[r]? = some (.deferred (some []))) {K : World → Prop} (h : ∀ W', Only [r] W W' → K W') : Takes [{ target := .collected r, args := #[] }] W K :=
 ⟨r, rfl, hd, h _ ((Only.refl [r] W).putObj (by simp) _)⟩
theorem vfl {w W : World} {I : World → Prop} {B : Nat} : ¬ LetsOut (rndPostH w I B W) := fun ⟨_, _, hh⟩ => hh
theorem vfX : ∀ {L M : List Rt}, L.Nodup → M.Nodup → (∀ x, x ∈ L ↔ x ∈ M) → L.Perm M
 | [], M, _, _, h => by
  cases M with
  | nil => exact .nil
  | cons y t => exact absurd ((h y).2 List.mem_cons_self) (by simp)
 | a :: t, M, hL, hM, h => by
  obtain ⟨p, q, rfl⟩ := List.append_of_mem ((h a).1 List.mem_cons_self)
  refine (List.Perm.cons a ?_).trans List.perm_middle.symm
  have hM2 := (List.perm_middle (a := a) (l₁ := p) (l₂ := q)).nodup_iff.1 hM
  rw [List.nodup_cons] at hL hM2
  refine vfX hL.2 hM2.2 (fun x => ?_)
  have hx := h x
  rw [List.mem_cons, List.mem_append, List.mem_cons] at hx
  rw [List.mem_append]
  constructor
  ·intro hz
   rcases hx.1 (.inr hz) with k | k | k
   ·exact .inl k
   ·subst k; exact absurd hz hL.1
   ·exact .inr k
  ·intro hz
   rcases hx.2 (hz.elim .inl (fun k => .inr (.inr k))) with k | k
   ·subst k; exact absurd (List.mem_append.2 hz) hM2.1
   ·exact k
def CsI (w : World) (L : List Rt) (B : Nat) (s : List Rt) (W : World) : Prop := ∃ v, Blk W w.heap.size 171 #[v] ∧ Own W B 132 9 Rt.enc v s ∧ Kp w W ∧ s.Nodup ∧ ∀ r ∈ s, r ∈ L
def CsP (w : World) (L : List Rt) (e : Ending) (w' : World) : Prop := ∃ A n c s, e = .returned (.slice A n c) ∧ Own w' w.heap.size 132 9 Rt.enc (.slice A n c) s ∧ s.Perm L ∧ Kp w w'
theorem vfm {s L : List Rt} (h : s.Nodup) (hs : ∀ r ∈ s, r ∈ L) : s.length ≤ L.length := by
 induction s generalizing L with
 | nil => exact Nat.zero_le _
 | cons a t ih =>
  rw [List.nodup_cons] at h
  obtain ⟨p, q, rfl⟩ := List.append_of_mem (hs a List.mem_cons_self)
  have := ih (L := p ++ q) h.2 (fun r hr => by
   have := hs r (List.mem_cons_of_mem _ hr)
   rw [List.mem_append, List.mem_cons] at this
   rw [List.mem_append]
   rcases this with k | k | k
   ·exact .inl k
   ·subst k; exact absurd hr h.1
   ·exact .inr k)
  simp only [List.length_cons, List.length_append] at this ⊢
  omega
set_option maxRecDepth 100000 in
theorem veh (L : List Rt) (mp mb : Nat) (o : Obj) (u : UpR L) (hw : ∀ r ∈ L, wfP r.p) (hm : ∀ V : World, V.heap[mp]? = some o → MapR V mp L) (hn : L.length ≤ 900000) (w : World) (hb : Blk w mb 123 #[.map (some mp)]) (ho : w.heap[mp]? = some o) :
  Calls Tryz.prog 204 #[.slice none 0 0, valsV mb] w (CsP w L) := by
 have hit := viz L mp mb o u hw hm
 have hnd : L.Nodup := (List.pairwise_map.1 u.nodup).imp (fun {x y} h e => h (by rw [e]))
 have Hit := Lib.hid hit
 have HB := Lib.hid hb
 have HO := Lib.hid ho
 have HND := Lib.hid hnd
 have hmb := hb.lt
 have hmp := (Array.getElem?_eq_some_iff.1 ho).1
 clear hit hb ho hm u hw hnd
 unfold valsV
 refine calls_of_wp_marks Tryz.func204 rfl ?_; simp only [Tryz.ntmps204, List.size_toArray, List.length_cons, List.length_nil, Nat.reduceAdd, Nat.reduceSub, Array.replicate_succ, Array.replicate_zero, List.push_toArray, List.append_toArray, List.nil_append, List.cons_append]
 go_wp2_with fail
 refine vkE rfl viy Hit.out (fun s vs s' h => by obtain ⟨r, _, _, rfl, _⟩ := h; rfl) (CsI w L) ?_ ?_ ?_ ?_ ?_
 ·rintro B s V V' hB ⟨v, h1, h2, h3, h4⟩ hT
  simp only [World.size_alloc] at hT hB
  exact ⟨v, h1.turn hT (.inl (by omega)), hT.own h2 (Nat.le_refl _), hT.kp h3 (by omega), h4⟩
 ·rintro B s V hB ⟨v, h1, h2, h3, h4⟩
  exact ⟨HB.out.keep h3, (h3.heap hmp).trans HO.out⟩
 ·rintro B V hK hB hV
  exact ⟨_, (Blk.new w _ _).keep hK, Own.nil _ _ _ _ _, ((Kp.refl _).alloc _).trans hK, List.nodup_nil, by simp⟩
 ·rintro l B s V vs s' ⟨r, hrL, hrs, rfl, rfl⟩ hB hBV hi
  simp only [World.size_alloc] at hB
  have HI := Lib.hid hi
  have HRL := Lib.hid hrL
  have HRS := Lib.hid hrs
  clear hi hrL hrs
  gi_wp2_with fail
  refine ⟨Ring.alloc (Ring.refl _ _ _) hBV _, fun U => Blk U V.heap.size 132 (roC r) ∧ CsI w L B s U, ⟨Blk.new _ _ _, ?_⟩, ?_, ?_⟩
  ·obtain ⟨v, h1, h2, h3, h4⟩ := HI.out
   exact ⟨v, h1.alloc _, h2.alloc _, h3.alloc _, h4⟩
  ·rintro U U' ⟨h0, v, h1, h2, h3, h4⟩ hT
   simp only [World.size_alloc] at hT
   exact ⟨h0.turn hT (.inr hBV), v, h1.turn hT (.inl (by omega)), hT.own h2 (Nat.le_refl _), hT.kp h3 (by omega), h4⟩
  ·rintro W2 ⟨h0, v, h1, h2, h3, h4, h5⟩ hsz
   have x0 : W2.cell? ⟨w.heap.size, 0, none⟩ = some v := h1.cell 0
   have z0 := Blk.frozen h1
   have r0 := Blk.f h0 rfl
   have hlen := vfm h4 h5
   have H5 := Lib.hid h5
   have H4 := Lib.hid h4
   clear h4 h5
   refine wpIn_block ?_
   refine vcS (by kernel_rfl) (vaj vfl) ?_
   go_wp2_with (at_builtin; go_must (refine vaf EHeld rfl _ _ rfl r rfl h2 h3 (by omega) (by omega) rfl rfl rfl rfl rfl (by omega) ?_); intro v' w2 hown' hK' hg; obtain ⟨A2, c2, rfl⟩ := hown'.form1; have B2 := h1.grown hg (h2.ne (by omega)); have cc2 : w2.cell? ⟨w.heap.size, 0, none⟩ = some v := B2.cell 0; have zz := B2.frozen 0)
   refine ⟨?_, _, B2.set_ 0 _, Own.setBelow (p := ⟨w.heap.size, 0, none⟩) hown' (show w.heap.size < B by omega) _, hK'.setCell (by simp) _, ?_, ?_⟩
   ·simp only [World.size_alloc]
    exact ((Ring.refl _ _ _).grown (by omega) hg (fun k hk => .inr (World.ownsRow.lt h2 k hk).1)).setCell (p := ⟨w.heap.size, 0, none⟩) (.inl (by show w.heap.size < w.heap.size + 1; omega)) _
   ·rw [List.nodup_append]
    exact ⟨H4.out, by simp, fun a ha b hb => by simp only [List.mem_cons, List.not_mem_nil, or_false] at hb; subst hb; rintro rfl; exact HRS.out ha⟩
   ·intro x hx
    rcases List.mem_append.1 hx with h | h
    ·exact H5.out x h
    ·simp only [List.mem_cons, List.not_mem_nil, or_false] at h
     subst h
     exact HRL.out
 ·rintro B s W hB hE ⟨v, h1, h2, h3, h4, h5⟩ hd
  simp only [World.size_alloc] at hd hB
  have x0 : W.cell? ⟨w.heap.size, 0, none⟩ = some v := h1.cell 0
  obtain ⟨A, c, rfl⟩ := h2.form
  have HP := Lib.hid (vfX h4 HND.out (fun x => ⟨h5 x, hE x⟩))
  have HE := Lib.hid hE
  have H5 := Lib.hid h5
  clear hE h5 h4
  go_wp2_with fail
  simp only [World.size_alloc]
  refine viA hd (fun W' hO => ?_)
  refine ⟨.slice A s.length c, ?_, A, s.length, c, s, rfl, (h2.only hO (by simp <;> omega)).mono (by omega), HP.out, hO.kp h3 (by simp)⟩
  simp [results, Tryz.results204, go_sem]
theorem vfY (L : List Rt) (mp mb : Nat) (o : Obj) (u : UpR L) (hw : ∀ r ∈ L, wfP r.p) (hm : ∀ V : World, V.heap[mp]? = some o → MapR V mp L) (hn : L.length ≤ 900000) (w : World) (hb : Blk w mb 123 #[.map (some mp)]) (ho : w.heap[mp]? = some o) :
  Calls Tryz.prog 148 #[valsV mb] w (CsP w L) := by
 have H := Lib.hid (veh L mp mb o u hw hm hn w hb ho)
 clear hb ho hm u hw
 obtain ⟨v, hv⟩ : ∃ v, valsV mb = v := ⟨_, rfl⟩
 rw [hv] at H ⊢
 clear hv
 go_enter Tryz.func148, Tryz.ntmps148
 go_wp2_with fail
 refine H.out.mono ?_
 rintro e w' ⟨A, n, c, s, rfl, hR, hP, hK⟩
 have HR := Lib.hid hR
 clear hR
 go_wp2_with fail
 go_ret
 exact ⟨A, n, c, s, rfl, HR.out, hP, hK⟩
theorem vhw {w : World} {A : Option Addr} {xs : List Rt} (h : Rd w 9 Rt.enc A xs) {k : Nat} (hk : k < xs.length) : ∃ b off : Nat, A = some ⟨b, off, none⟩ ∧ w.cell? ⟨b, off + k * 9, none⟩ = some (.int .u32 (xs[k].p.a : Int)) ∧ w.cell? ⟨b, off + k * 9 + 1, none⟩ = some (.int .i64 xs[k].p.l) ∧ w.cell? ⟨b, off + k * 9 + 2, none⟩ = some (.int .i64 xs[k].s) ∧ w.cell? ⟨b, off + k * 9 + 3, none⟩ = some (.int .i64 xs[k].m) ∧ w.cell? ⟨b, off + k * 9 + 4, none⟩ = some (.int .i64 xs[k].l) ∧ w.cell? ⟨b, off + k * 9 + 5, none⟩ = some (.int .i64 xs[k].f) ∧ w.cell? ⟨b, off + k * 9 + 6, none⟩ = some (.int .u32 (xs[k].x : Int)) ∧ w.cell? ⟨b, off + k * 9 + 7, none⟩ = some (.int .i64 xs[k].d) ∧ w.cell? ⟨b, off + k * 9 + 8, none⟩ = some (.bool xs[k].c) := by
 obtain ⟨b, off, e, hc⟩ := h k hk
 exact ⟨b, off, e, by simpa using hc 0 _ rfl, by simpa using hc 1 _ rfl, by simpa using hc 2 _ rfl, by simpa using hc 3 _ rfl, by simpa using hc 4 _ rfl, by simpa using hc 5 _ rfl, by simpa using hc 6 _ rfl, by simpa using hc 7 _ rfl, by simpa using hc 8 _ rfl⟩
def SiftP (L : List Rt) (w : World) (e : Ending) (w' : World) : Prop := ∃ v, e = .returned v ∧ Own w' w.heap.size 132 9 Rt.enc v L ∧ Kp w w'
def SiI (w : World) (L : List Rt) (f : Rt → Bool) (i : Nat) (v : Value) (W : World) : Prop := Own W w.heap.size 132 9 Rt.enc v ((L.take i).filter f) ∧ Kp w W
theorem vkS {L : List Rt} {f : Rt → Bool} {i : Nat} (h : i < L.length) : (L.take (i + 1)).filter f = (L.take i).filter f ++ (if f L[i] then [L[i]] else []) := by
 rw [List.take_succ_eq_append_getElem h, List.filter_append, List.filter_cons, List.filter_nil]
set_option maxRecDepth 100000 in
theorem vmO (L : List Rt) (A : Option Addr) (c : Nat) (g : FuncId) (f : Rt → Bool) (eg : ∀ args w, (callFunc g args).run Tryz.prog w = .ok (.enter g args) w)
  (hg : ∀ (r : Rt) (W : World), Calls Tryz.prog g #[roV r] W fun e w' => e = .returned (.bool (f r)) ∧ Kp W w') (w : World) (hS : Rd w 9 Rt.enc A L) (hn : L.length ≤ 900000) :
  Calls Tryz.prog 147 #[.slice A L.length c, .func (.func g) #[] #[]] w (SiftP (L.filter f) w) := by
 have HG := Lib.hid hg
 have HS := Lib.hid hS
 have R0 : Hid (SiI w L f 0 (.slice none 0 0) w) := Lib.hid ⟨by rw [List.take_zero]; exact Own.nil _ _ _ _ _, Kp.refl _⟩
 clear hg hS
 go_enter Tryz.func147, Tryz.ntmps147
 go_wp2_with fail
 go_loopw [5, 10] (fun v k wr => ∃ i : Nat, i ≤ L.length ∧ k = .int .i64 i ∧ Hid (SiI w L f i v wr)) (fun _ k _ => L.length - (intOf k).toNat)
 case atStart => exact ⟨0, Nat.zero_le _, rfl, R0⟩
 case round =>
  obtain ⟨i, hi, rfl, R⟩ := hrel
  obtain ⟨A2, c2, hv⟩ := R.out.1.form
  subst hv
  by_cases hlt : i < L.length
  ·have hgi : (i : Int) < (L.length : Int) := by omega
   have hg0 : (0 : Int) ≤ (i : Int) := by omega
   obtain ⟨b, off, hA, s0, s1, s2, s3, s4, s5, s6, s7, s8⟩ := vhw (HS.out.keep R.out.2) hlt
   subst hA
   have hnx := vkS (f := f) hlt
   obtain ⟨r, hr⟩ : ∃ r, L[i] = r := ⟨_, rfl⟩
   rw [hr] at s0 s1 s2 s3 s4 s5 s6 s7 s8 hnx
   have HL : ((L.take i).filter f).length ≤ i := by
    have := List.length_filter_le f (L.take i)
    have h2 := List.length_take_le i L
    omega
   have HN := Lib.hid hnx
   obtain ⟨V, hV, bV, kV⟩ : ∃ V, wr.alloc (.cells (roC r) 132) = V ∧ Blk V wr.heap.size 132 (roC r) ∧ Kp wr V := ⟨_, rfl, Blk.new _ _ _, (Kp.refl _).alloc _⟩
   obtain ⟨n, hn0⟩ : ∃ n, wr.heap.size = n := ⟨_, rfl⟩
   rw [hn0] at bV
   have r0 := Blk.f bV rfl
   unfold roC at hV
   have HB := Lib.hid bV
   clear hr hnx bV
   cases hf : f r with
   | false =>
    have hc := HG.out r
    rw [hf] at hc
    have HC := Lib.hid hc
    have HF := Lib.hid hf
    clear hc hf
    go_wp2_with fail
    refine (HC.out _).mono ?_
    rintro e w1 ⟨rfl, K1⟩
    have R1 : Hid (SiI w L f (i + 1) (.slice A2 ((L.take i).filter f).length c2) w1) := Lib.hid ⟨by rw [HN.out, HF.out, if_neg (by simp), List.append_nil]; exact R.out.1.keep (kV.trans K1), R.out.2.trans (kV.trans K1)⟩
    clear s0 s1 s2 s3 s4 s5 s6 s7 s8 r0
    go_wp2_with fail
    go_roundw
    case rel => exact ⟨i + 1, by omega, by go_num, R1⟩
    case measure => simp [intOf]; omega
   | true =>
    have hc := HG.out r
    rw [hf] at hc
    have HC := Lib.hid hc
    have HF := Lib.hid hf
    clear hc hf
    go_wp2_with fail
    refine (HC.out _).mono ?_
    rintro e w1 ⟨rfl, K1⟩
    have b1 := HB.out.keep K1
    have q0 := Blk.f b1 rfl
    have k1 := R.out.2.trans (kV.trans K1)
    have o1 := R.out.1.keep (kV.trans K1)
    have sz1 := k1.size
    clear s0 s1 s2 s3 s4 s5 s6 s7 s8
    go_wp2_with (at_builtin; go_must (refine vaf EHeld rfl _ _ rfl r rfl o1 k1 (Nat.le_refl _) sz1 rfl rfl rfl rfl rfl (by omega) ?_); intro v3 w3 hown3 hK3 hg3; obtain ⟨A3, c3, rfl⟩ := hown3.form1)
    have R1 : Hid (SiI w L f (i + 1) (.slice A3 (((L.take i).filter f).length + 1) c3) w3) := Lib.hid ⟨by rw [HN.out, HF.out, if_pos rfl]; exact hown3, hK3⟩
    clear hown3 hK3 hg3 o1
    go_wp2_with fail
    go_roundw
    case rel => exact ⟨i + 1, by omega, by go_num, R1⟩
    case measure => simp [intOf]; omega
  ·obtain rfl : i = L.length := by omega
   have hlast := R.out
   unfold SiI at hlast
   rw [List.take_length] at hlast
   have HE := Lib.hid hlast
   clear hlast
   go_wp2_with fail
   go_ret
   exact ⟨_, rfl, by rw [List.take_length]; exact HE.out.1, HE.out.2⟩
end

end Go.Proofs.YtgopnfacklmkaaaGreatDoor
namespace Go.Proofs
open Go.Shelf
def Tryz.sortH_ren : Go.Shelf.Ren := ⟨fun | 6 => 150 | 15 => 207 | 14 => 206 | 28 => 273 | 29 => 274 | 20 => 265 | 21 => 266 | 22 => 267 | 23 => 268 | 24 => 269 | 25 => 270 | 26 => 271 | 27 => 272 | 46 => 305 | 47 => 306 | 48 => 307 | 49 => 308 | 50 => 309 | 57 => 328 | n => n, fun | 22 => 171 | 24 => 132 | 25 => 264 | 3 => 3 | 39 => 136 | 0 => 0 | 53 => 36 | 55 => 395 | 4 => 4 | 46 => 389 | 45 => 388 | 50 => 179 | 5 => 5 | 9 => 9 | 66 => 425 | 70 => 429 | 76 => 443 | 77 => 202 | n => n, fun | n => n⟩
theorem Tryz.sortH : Go.Proofs.SlLaysF0.n6 Tryz.prog Tryz.sortH_ren := {
 mixed := by kernel_rfl
 f6 := ⟨Tryz.f150.name, by decide, Tryz.func150.trans (congrArg some (by kernel_rfl))⟩
 f14 := ⟨Tryz.f206.name, by decide, Tryz.func206.trans (congrArg some (by kernel_rfl))⟩
 f15 := Tryz.func207.trans (congrArg some (by kernel_rfl))
 f20 := ⟨Tryz.f265.name, by decide, Tryz.func265.trans (congrArg some (by kernel_rfl))⟩
 f21 := ⟨Tryz.f266.name, by decide, Tryz.func266.trans (congrArg some (by kernel_rfl))⟩
 f22 := ⟨Tryz.f267.name, by decide, Tryz.func267.trans (congrArg some (by kernel_rfl))⟩
 f23 := ⟨Tryz.f268.name, by decide, Tryz.func268.trans (congrArg some (by kernel_rfl))⟩
 f24 := ⟨Tryz.f269.name, by decide, Tryz.func269.trans (congrArg some (by kernel_rfl))⟩
 f25 := ⟨Tryz.f270.name, by decide, Tryz.func270.trans (congrArg some (by kernel_rfl))⟩
 f26 := ⟨Tryz.f271.name, by decide, Tryz.func271.trans (congrArg some (by kernel_rfl))⟩
 f27 := ⟨Tryz.f272.name, by decide, Tryz.func272.trans (congrArg some (by kernel_rfl))⟩
 f28 := Tryz.func273.trans (congrArg some (by kernel_rfl))
 f29 := Tryz.func274.trans (congrArg some (by kernel_rfl))
 f46 := ⟨Tryz.f305.name, by decide, Tryz.func305.trans (congrArg some (by kernel_rfl))⟩
 f47 := Tryz.func306.trans (congrArg some (by kernel_rfl))
 f48 := Tryz.func307.trans (congrArg some (by kernel_rfl))
 f49 := ⟨Tryz.f308.name, by decide, Tryz.func308.trans (congrArg some (by kernel_rfl))⟩
 f50 := ⟨Tryz.f309.name, by decide, Tryz.func309.trans (congrArg some (by kernel_rfl))⟩
 f57 := ⟨Tryz.f328.name, by decide, Tryz.func328.trans (congrArg some (by kernel_rfl))⟩
 t0 := Tryz.underlying0
 a0 := Tryz.isAgg0
 z0 := Tryz.sizeOf0
 v0 := Tryz.zeroValue0
 t3 := Tryz.underlying3
 a3 := Tryz.isAgg3
 z3 := Tryz.sizeOf3
 v3 := Tryz.zeroValue3
 t4 := Tryz.underlying4
 a4 := Tryz.isAgg4
 z4 := Tryz.sizeOf4
 v4 := Tryz.zeroValue4
 t5 := Tryz.underlying5
 a5 := Tryz.isAgg5
 z5 := Tryz.sizeOf5
 v5 := Tryz.zeroValue5
 t9 := Tryz.underlying9
 a9 := Tryz.isAgg9
 z9 := Tryz.sizeOf9
 v9 := Tryz.zeroValue9
 t22 := Tryz.underlying171
 a22 := Tryz.isAgg171
 z22 := Tryz.sizeOf171
 v22 := Tryz.zeroValue171
 t25 := Tryz.underlying264
 a25 := Tryz.isAgg264
 z25 := Tryz.sizeOf264
 v25 := Tryz.zeroValue264
 t39 := Tryz.underlying136
 a39 := Tryz.isAgg136
 z39 := Tryz.sizeOf136
 v39 := Tryz.zeroValue136
 t45 := Tryz.underlying388
 a45 := Tryz.isAgg388
 z45 := Tryz.sizeOf388
 v45 := Tryz.zeroValue388
 t46 := Tryz.underlying389
 a46 := Tryz.isAgg389
 z46 := Tryz.sizeOf389
 v46 := Tryz.zeroValue389
 t50 := Tryz.underlying179
 a50 := Tryz.isAgg179
 z50 := Tryz.sizeOf179
 v50 := Tryz.zeroValue179
 t53 := Tryz.underlying36
 a53 := Tryz.isAgg36
 z53 := Tryz.sizeOf36
 v53 := Tryz.zeroValue36
 t55 := Tryz.underlying395
 a55 := Tryz.isAgg395
 z55 := Tryz.sizeOf395
 v55 := Tryz.zeroValue395
 t66 := Tryz.underlying425
 a66 := Tryz.isAgg425
 z66 := Tryz.sizeOf425
 v66 := Tryz.zeroValue425
 t70 := Tryz.underlying429
 a70 := Tryz.isAgg429
 z70 := Tryz.sizeOf429
 v70 := Tryz.zeroValue429
 t76 := Tryz.underlying443
 a76 := Tryz.isAgg443
 z76 := Tryz.sizeOf443
 v76 := Tryz.zeroValue443
 t77 := Tryz.underlying202
 a77 := Tryz.isAgg202
 z77 := Tryz.sizeOf202
 v77 := Tryz.zeroValue202 }
end Go.Proofs
namespace Go.Proofs.YtgopnfacklmkaaaGreatDoor

end Go.Proofs.YtgopnfacklmkaaaGreatDoor
