/- Lemmas and contracts for the theorem of this claim: SoE, SoF, SoG, SoH, FhA. -/
import Derived.Test.YtgopnfacklmkaaaGreatDoorZzBd
import Derived.Test.YtgopnfacklmkaaaGreatDoorZzBk
import Derived.Shelf.SlSortCmp.NoneTotal
set_option linter.all false
set_option maxHeartbeats 16000000
namespace Go.Proofs.YtgopnfacklmkaaaGreatDoor
section
open Go.RowKit Go.Sort Go.Shelf
theorem vhx {α : Type} {sz : Nat} {enc : α → List Value} (henc : ∀ x, (enc x).length = sz) : ∀ (xs : List α) (i : Nat) (hi : i < xs.length) (j : Nat) (u : Value), (enc (xs[i]'hi))[j]? = some u → (xs.flatMap enc)[i * sz + j]? = some u
 | [], i, hi, _, _, _ => absurd hi (by simp)
 | y :: ys, 0, _, j, u, hu => by
  rw [List.flatMap_cons]
  simp only [List.getElem_cons_zero] at hu
  rw [Nat.zero_mul, Nat.zero_add, List.getElem?_append_left (List.getElem?_eq_some_iff.1 hu).1]
  exact hu
 | y :: ys, i + 1, hi, j, u, hu => by
  rw [List.flatMap_cons]
  simp only [List.getElem_cons_succ] at hu
  rw [List.getElem?_append_right (by rw [henc, Nat.add_mul]; omega), henc]
  have e : (i + 1) * sz + j - sz = i * sz + j := by rw [Nat.add_mul]; omega
  rw [e]
  exact vhx henc ys i (by simpa using hi) j u hu
theorem veC (d : Array Rt) : (flatK Rt.enc 9 d).toList = d.toList.flatMap Rt.enc := by
 have hlen : (d.toList.flatMap Rt.enc).length = d.size * 9 := by rw [vaN Rt.len]; simp
 refine List.ext_getElem? (fun t => ?_)
 by_cases ht : t < d.size * 9
 ·have hd : t / 9 < d.toList.length := by rw [Array.length_toList]; omega
  have hm : t % 9 < (Rt.enc (d.toList[t / 9]'hd)).length := by rw [Rt.len]; omega
  have h1 := vhx Rt.len d.toList (t / 9) hd (t % 9) _ (List.getElem?_eq_getElem hm)
  rw [show t / 9 * 9 + t % 9 = t by omega] at h1
  rw [h1, List.getElem?_eq_getElem (by rw [Array.length_toList, size_flatK]; exact ht), Array.getElem_toList]
  have h2 := get_flatK Rt.enc 9 d t ht
  rw [getElem!_pos (flatK Rt.enc 9 d) t (by rw [size_flatK]; exact ht)] at h2
  rw [h2, getElem!_pos d (t / 9) (by omega), getElem!_pos _ _ (by rw [Rt.len]; omega)]
  rfl
 ·rw [List.getElem?_eq_none (by rw [Array.length_toList, size_flatK]; omega), List.getElem?_eq_none (by omega)]
theorem Own.holdsK {w : World} {base e g n c : Nat} {xs : List Rt} (h : Own w base e 9 Rt.enc (.slice (some ⟨g, 0, none⟩) n c) xs) : HoldsK Rt.enc 9 w g 0 xs.toArray ∧ g < w.heap.size := by
 have hlt := (World.ownsRow.lt h g rfl).2
 refine ⟨fun t ht => ?_, hlt⟩
 rw [size_flatK] at ht
 simp only [List.size_toArray] at ht
 have hf : (xs.flatMap Rt.enc)[t]? = some ((flatK Rt.enc 9 xs.toArray)[t]!) := by
  have := veC xs.toArray
  rw [← this, Array.getElem?_toList, getElem!_pos _ t (by rw [size_flatK]; simpa using ht)]
  exact Array.getElem?_eq_getElem _
 have hc := World.ownsRow.cells (g := g) h rfl t _ hf
 have hadd : (⟨g, 0, none⟩ : Addr).add t = ⟨g, 0 + t, none⟩ := by unfold Addr.add; split <;> simp_all
 rw [hadd] at hc
 refine ⟨hc, ?_⟩
 rcases h.2 with ⟨h2, _⟩ | ⟨g', cap, cur, hv, _, hb, _⟩
 ·cases h2
 ·injection hv with hv; injection hv with hv; injection hv with hv
  subst hv
  simp [World.frozen?, hb]
theorem Own.sorted {w : World} {base e g n c m : Nat} {xs ys : List Rt} {os : Array Obj} (h : Own w base e 9 Rt.enc (.slice (some ⟨g, 0, none⟩) n c) xs) (hy : ys.length = xs.length) :
  Own (sortWorldK Rt.enc 9 w g 0 m ys.toArray os) base e 9 Rt.enc (.slice (some ⟨g, 0, none⟩) n c) ys ∧ Only [g] w (sortWorldK Rt.enc 9 w g 0 m ys.toArray os) := by
 obtain ⟨h0, h2⟩ := h
 have hfs : (flatK Rt.enc 9 ys.toArray).size = ys.length * 9 := by rw [size_flatK]; simp
 have hho : ∀ k, k < w.heap.size → (sortWorldK Rt.enc 9 w g 0 m ys.toArray os).heap[k]? = if g = k then (w.heap[k]?).map (onCells (putCells id 0 (flatK Rt.enc 9 ys.toArray))) else w.heap[k]? := fun k hk => by
  show ((w.heap.modify g (onCells (putCells id 0 (flatK Rt.enc 9 ys.toArray)))) ++ os)[k]? = _
  rw [Array.getElem?_append_left (by simpa using hk), Array.getElem?_modify]
 refine ⟨⟨by rw [vaN Rt.len], ?_⟩, ⟨rfl, rfl, rfl, ?_, fun k hk hn => ?_⟩⟩
 ·rcases h2 with ⟨h3, _⟩ | ⟨g', cap, cur, hv, hg, hb, hc1, hc2, hc3, hc4⟩
  ·cases h3
  ·injection hv with hv1 hv2 hv3
   injection hv1 with hv1
   injection hv1 with hv1
   subst hv1 hv3
   have hlt : g < w.heap.size := (Array.getElem?_eq_some_iff.1 hb).1
   refine .inr ⟨g, c, putCells id 0 (flatK Rt.enc 9 ys.toArray) cur, by rw [hv2, hy], hg, ?_, by omega, hc2, by simp [putCells, hc3], ?_⟩
   ·rw [hho g hlt, if_pos rfl, hb]
    rfl
   ·rw [← veC]
    have hle : xs.length ≤ c := by omega
    refine List.ext_getElem? (fun t => ?_)
    by_cases ht : t < ys.length * 9
    ·rw [List.getElem?_take_of_lt ht, Array.getElem?_toList, Array.getElem?_toList]
     unfold putCells
     have q1 : t < cur.size := by omega
     have q2 : t < (flatK Rt.enc 9 ys.toArray).size := by omega
     rw [Array.getElem?_mapIdx, Array.getElem?_eq_getElem q1, Array.getElem?_eq_getElem q2]
     simp only [Option.map_some, hfs]
     rw [if_pos (by omega), getElem!_pos _ _ (by simp; omega)]
     simp
    ·have q1 : (List.take (ys.length * 9) (putCells id 0 (flatK Rt.enc 9 ys.toArray) cur).toList).length ≤ t := by rw [List.length_take]; omega
     have q2 : (flatK Rt.enc 9 ys.toArray).toList.length ≤ t := by rw [Array.length_toList]; omega
     rw [List.getElem?_eq_none q1, List.getElem?_eq_none q2]
 ·show w.heap.size ≤ ((w.heap.modify g _) ++ os).size
  simp
 ·rw [hho k hk, if_neg (fun e => hn (by simp [e]))]
theorem vkT (args : Array Value) (w : World) : (callFunc 151 args).run Tryz.prog w = .ok (.enter 151 args) w := by kernel_rfl
theorem vmP (w : World) : (isAgg 132).run Tryz.prog w = .ok true w := by kernel_rfl
theorem vow (w : World) : (Go.sizeOf 132).run Tryz.prog w = .ok 9 w := by kernel_rfl
theorem Rt.one (r : Rt) : ∀ v ∈ r.enc, v.oneCell' = true := by
 intro v hv
 simp only [Rt.enc, List.mem_cons, List.not_mem_nil, or_false] at hv
 rcases hv with h | h | h | h | h | h | h | h | h <;> subst h <;> rfl
def SortP (base g n c : Nat) (L : List Rt) (w : World) (e : Ending) (w' : World) : Prop := e = .returned (.tuple #[]) ∧ Own w' base 132 9 Rt.enc (.slice (some ⟨g, 0, none⟩) n c) L ∧ Only [g] w w'
theorem vkU (base g n c : Nat) (xs L : List Rt) (u : UpR L) (hp : xs.Perm L) (hn : L.length ≤ 900000) (w : World) (h : Own w base 132 9 Rt.enc (.slice (some ⟨g, 0, none⟩) n c) xs) :
  Calls Tryz.prog 150 #[.slice (some ⟨g, 0, none⟩) n c, .func (.func 151) #[] #[]] w (SortP base g n c L w) := by
 have hlen := hp.length_eq
 have hsz : xs.toArray.size = n := by
  rcases h.2 with ⟨h2, _⟩ | ⟨g', cap, cur, hv, _⟩
  ·cases h2
  ·injection hv with _ hv; simp [hv]
 obtain ⟨hH, hlt⟩ := h.holdsK
 have hcmp : CmpLays Tryz.prog 151 #[] Rt.enc 9 cfR g 0 xs.toArray.size w := fun m os dk hs x y => by
  refine (vmM x y _).mono ?_
  rintro e w' ⟨rfl, hk, hd⟩
  exact ⟨rfl, viw hk hd⟩
 have H := AnyQ.slices_SortFunc Tryz.sortH 9 vmP vow Rt.enc Rt.len Rt.one cfR swoR 151 #[] g 0 c xs.toArray w vkT hcmp hH hlt (by have h3 : xs.toArray.size = xs.length := List.size_toArray; omega)
 rw [hsz] at H
 refine Calls.mono H ?_
 rintro e w' ⟨rfl, d', m, os, h1, h2, rfl⟩
 have hd : d'.toList = L := vkR u (by simpa using hp) (by rw [hsz]; exact h1) (by rw [hsz]; exact h2)
 have e2 : d' = L.toArray := by rw [← hd]
 subst e2
 exact ⟨rfl, h.sorted (by omega)⟩
end

section
open Go.RowKit Go.Shelf Go.Sort
set_option maxRecDepth 100000 in
theorem vkV (r : Rt) (w : World) : Calls Tryz.prog 85 #[roV r] w fun e w' => e = .returned (.bool true) ∧ Kp w w' := by
 go_enter Tryz.func85, Tryz.ntmps85
 go_wp2_with fail
 go_ret
 exact ⟨rfl, (Kp.refl _).alloc _⟩
set_option maxRecDepth 100000 in
theorem vcI (r : Rt) (w : World) : Calls Tryz.prog 82 #[roV r] w fun e w' => e = .returned (.bool r.c) ∧ Kp w w' := by
 go_enter Tryz.func82, Tryz.ntmps82
 go_wp2_with fail
 go_ret
 exact ⟨rfl, (Kp.refl _).alloc _⟩
theorem viB (args : Array Value) (w : World) : (callFunc 85 args).run Tryz.prog w = .ok (.enter 85 args) w := by kernel_rfl
theorem vcc (args : Array Value) (w : World) : (callFunc 82 args).run Tryz.prog w = .ok (.enter 82 args) w := by kernel_rfl
def SortV (base : Nat) (v : Value) (L : List Rt) (w : World) (e : Ending) (w' : World) : Prop := e = .returned (.tuple #[]) ∧ Own w' base 132 9 Rt.enc v L ∧ ∃ bs, (∀ b ∈ bs, base ≤ b) ∧ Only bs w w'
theorem vkW (base : Nat) (A : Option Addr) (n c : Nat) (xs L : List Rt) (u : UpR L) (hp : xs.Perm L) (hn : L.length ≤ 900000) (w : World) (h : Own w base 132 9 Rt.enc (.slice A n c) xs) :
  Calls Tryz.prog 150 #[.slice A n c, .func (.func 151) #[] #[]] w (SortV base (.slice A n c) L w) := by
 cases A with
 | none =>
  have h0 : n = 0 ∧ c = 0 := by
   rcases h.2 with ⟨h2, h3⟩ | ⟨g, cap, cur, hv, _⟩
   ·injection h2 with h4 h5 h6; exact ⟨h5, h6⟩
   ·injection hv with hv; cases hv
  obtain ⟨rfl, rfl⟩ := h0
  have hx : xs = [] := by
   obtain ⟨A', c', hv⟩ := h.form
   injection hv with _ hv
   exact List.length_eq_zero_iff.1 hv.symm
  subst hx
  have hL : L = [] := hp.nil_eq.symm
  subst hL
  refine (AnyF.slices_SortFunc_none Tryz.sortH none 0 _ w).mono ?_
  rintro e w' ⟨rfl, rfl⟩
  exact ⟨rfl, h, [], by simp, Only.refl _ _⟩
 | some a =>
  obtain ⟨g, rfl⟩ : ∃ g, a = ⟨g, 0, none⟩ := by
   rcases h.2 with ⟨h2, _⟩ | ⟨g, cap, cur, hv, _⟩
   ·cases h2
   ·injection hv with hv; injection hv with hv; exact ⟨g, hv⟩
  have hg := (World.ownsRow.lt h g rfl).1
  refine (vkU base g n c xs L u hp hn w h).mono ?_
  rintro e w' ⟨rfl, h1, h2⟩
  exact ⟨rfl, h1, [g], by simpa using hg, h2⟩
set_option maxRecDepth 100000 in
theorem vcW (B t : Nat) (F : List Nat) (T : Tb) (g : FuncId) (f : Rt → Bool) (eg : ∀ args w, (callFunc g args).run Tryz.prog w = .ok (.enter g args) w)
  (hg : ∀ (r : Rt) (W : World), Calls Tryz.prog g #[roV r] W fun e w' => e = .returned (.bool (f r)) ∧ Kp W w') (w : World) (h : TabM w B t F T) :
  Calls Tryz.prog 81 #[.pointer (some ⟨t, 0, none⟩), .func (.func g) #[] #[]] w (SiftP (T.l.filter f) w) := by
 obtain ⟨q, mp, m, A, QF, l, _, X⟩ := h
 have hm : w.cell? ⟨t, 10, none⟩ = some (.map (some mp)) := X.bk.cell 10
 obtain ⟨o, ho⟩ : ∃ o, w.heap[mp]? = some o := ⟨_, Array.getElem?_eq_getElem X.mr.lt⟩
 have hmr : ∀ V : World, V.heap[mp]? = some o → MapR V mp T.l := fun V hV => X.mr.lie (hV.trans ho.symm)
 have hu := X.u
 have hwf := X.wf
 have hn := X.n
 have hmp := X.mr.lt
 have HO := Lib.hid ho
 have HR := Lib.hid hmr
 have HU := Lib.hid hu
 have HW := Lib.hid hwf
 have HG := Lib.hid hg
 have HE := Lib.hid eg
 clear X ho hmr hu hwf hg eg
 go_enter Tryz.func81, Tryz.ntmps81
 go_upto_region 3 with (first | (go_at_call 55; refine (vdh t mp _ hm).mono ?_; rintro e w' ⟨rfl, hw'⟩; rw [hw']; clear hw' w'))
 go_wp2_with fail
 refine (vmN mp w).mono ?_
 rintro e w1 ⟨rfl, hB1, K1⟩
 obtain ⟨mb, hmb⟩ : ∃ mb, w.heap.size = mb := ⟨_, rfl⟩
 rw [hmb] at hB1
 rw [hmb]
 have ho1 : w1.heap[mp]? = some o := (K1.heap hmp).trans HO.out
 have HC := Lib.hid (vfY T.l mp mb o HU.out HW.out HR.out hn w1 hB1 ho1)
 obtain ⟨vv, hvv⟩ : ∃ vv, valsV mb = vv := ⟨_, rfl⟩
 rw [hvv] at HC ⊢
 clear ho1 hB1 hmb hvv
 go_wp2_with fail
 refine HC.out.mono ?_
 rintro e w2 ⟨A2, n2, c2, s, rfl, hO2, hP2, K2⟩
 obtain ⟨A', c', hv2, hR2⟩ := hO2.rd (by decide) Rt.len
 injection hv2 with ha2 hn2 hc2
 subst ha2 hn2 hc2
 have hsl : s.length ≤ 900000 := by have := hP2.length_eq; omega
 have HS := Lib.hid (vmO s A2 c2 g f HE.out HG.out w2 hR2 (by omega))
 clear hO2 hR2 HC
 go_wp2_with fail
 refine HS.out.mono ?_
 rintro e w3 ⟨v3, rfl, hO3, K3⟩
 obtain ⟨A3, c3, hv3⟩ := hO3.form
 subst hv3
 have K123 := (K1.trans K2).trans K3
 have hfl := List.length_filter_le f T.l
 have HT := Lib.hid (vkW w2.heap.size A3 (s.filter f).length c3 (s.filter f) (T.l.filter f) (HU.out.filter f) (hP2.filter f) (by omega) w3 hO3)
 have hle2 := (K1.trans K2).size
 clear hO3 HS
 go_wp2_with fail
 refine HT.out.mono ?_
 rintro e w4 ⟨rfl, hO4, bs, hbs, hK4⟩
 have HF := Lib.hid (show SiftP (T.l.filter f) w (.returned (.slice A3 (s.filter f).length c3)) w4 from ⟨_, rfl, hO4.mono hle2, hK4.kp K123 (fun b hb => Nat.le_trans hle2 (hbs b hb))⟩)
 clear hO4 hbs hK4 HT hsl hfl
 go_wp2_with fail
 go_ret
 exact HF.out
end

section
open Go.RowKit
theorem ERtR : ElemOf Tryz.prog 81 52 (.agg #[.int .u32 0, .int .i64 0, .int .i64 0, .int .i64 0, .int .i64 0, .int .i64 0, .int .u32 0, .int .i64 0, .bool false]) 9 72 := ⟨Tryz.underlying81, by kernel_rfl, rfl, by decide⟩
def NewsP (L : List Rt) (w : World) (e : Ending) (w' : World) : Prop := ∃ A c, e = .returned (.slice A L.length c) ∧ Own w' w.heap.size 52 9 Rt.enc (.slice A L.length c) L ∧ Kp w w'
def ChI (w1 : World) (L : List Rt) (i : Nat) (v : Value) (W : World) : Prop := Own W w1.heap.size 52 9 Rt.enc v (L.take i) ∧ Kp w1 W
set_option maxRecDepth 100000 in
theorem vgG (B t : Nat) (F : List Nat) (T : Tb) (w : World) (h : TabM w B t F T) : Calls Tryz.prog 28 #[.pointer (some ⟨t, 0, none⟩)] w (NewsP (newsL T.l) w) := by
 have HS := Lib.hid (vcW B t F T 82 (fun r => r.c) vcc vcI w h)
 obtain ⟨L, hL⟩ : ∃ L, newsL T.l = L := ⟨_, rfl⟩
 have hlen : L.length ≤ 900000 := by
  obtain ⟨q, mp, m, A, QF, l, _, X⟩ := h
  have h1 := List.length_filter_le (fun r : Rt => r.c) T.l
  have h2 := X.n
  have h3 : L.length = (T.l.filter (fun r => r.c)).length := by rw [← hL]; rfl
  omega
 have HS2 : Hid (Calls Tryz.prog 81 #[.pointer (some ⟨t, 0, none⟩), .func (.func 82) #[] #[]] w (SiftP L w)) := by rw [← hL]; exact HS
 rw [hL]
 clear HS hL h
 go_enter Tryz.func28, Tryz.ntmps28
 go_wp2_with fail
 refine HS2.out.mono ?_
 rintro e w1 ⟨v, rfl, hO, K1⟩
 obtain ⟨A, c, rfl, hR⟩ := hO.rd (by decide) Rt.len
 have HR := Lib.hid hR
 have hsz1 := K1.size
 have R0 : Hid (ChI w1 L 0 (.slice none 0 0) w1) := Lib.hid ⟨by rw [List.take_zero]; exact Own.nil _ _ _ _ _, Kp.refl _⟩
 clear hO hR HS2
 go_wp2_with fail
 go_loopw [3, 9] (fun v k wr => ∃ i : Nat, i ≤ L.length ∧ k = .int .i64 i ∧ Hid (ChI w1 L i v wr)) (fun _ k _ => L.length - (intOf k).toNat)
 case atStart => exact ⟨0, Nat.zero_le _, rfl, R0⟩
 case round =>
  obtain ⟨i, hi, rfl, R⟩ := hrel
  obtain ⟨A2, c2, hv⟩ := R.out.1.form
  subst hv
  by_cases hlt : i < L.length
  ·have hgi : (i : Int) < (L.length : Int) := by omega
   have hg0 : (0 : Int) ≤ (i : Int) := by omega
   obtain ⟨b, off, hA, s0, s1, s2, s3, s4, s5, s6, s7, s8⟩ := vhw (HR.out.keep R.out.2) hlt
   subst hA
   have HN := Lib.hid (List.take_succ_eq_append_getElem hlt)
   obtain ⟨r, hr⟩ : ∃ r, L[i] = r := ⟨_, rfl⟩
   have Hr := Lib.hid hr
   rw [hr] at s0 s1 s2 s3 s4 s5 s6 s7 s8
   have HL := Lib.hid (show (L.take i).length = i by rw [List.length_take]; omega)
   obtain ⟨V, hV, bV, kV⟩ : ∃ V, wr.alloc (.cells (roC r) 132) = V ∧ Blk V wr.heap.size 132 (roC r) ∧ Kp wr V := ⟨_, rfl, Blk.new _ _ _, (Kp.refl _).alloc _⟩
   obtain ⟨n, hn0⟩ : ∃ n, wr.heap.size = n := ⟨_, rfl⟩
   rw [hn0] at bV
   have r0 := Blk.f bV rfl
   unfold roC at hV
   have o1 := R.out.1.keep kV
   rw [HL.out] at o1
   have k1 := R.out.2.trans kV
   have sz1 := k1.size
   clear hr bV
   rw [HL.out]
   go_wp2_with (at_builtin; go_must (refine vaf ERtR rfl _ _ rfl r rfl o1 k1 (Nat.le_refl _) sz1 rfl rfl rfl rfl rfl (by have := HL.out; omega) ?_); intro v3 w3 hown3 hK3 hg3; obtain ⟨A3, c3, hv3⟩ := hown3.form1; rw [HL.out] at hv3; subst hv3)
   have R1 : Hid (ChI w1 L (i + 1) (.slice A3 (i + 1) c3) w3) := Lib.hid ⟨by rw [HN.out, Hr.out]; exact hown3, hK3⟩
   clear hown3 hK3 hg3 o1
   go_wp2_with fail
   go_roundw
   case rel => exact ⟨i + 1, by omega, by go_num, R1⟩
   case measure => simp [intOf]; omega
  ·obtain rfl : i = L.length := by omega
   have hlast := R.out
   unfold ChI at hlast
   rw [List.take_length] at hlast
   have HE := Lib.hid hlast
   clear hlast
   rw [List.take_length]
   go_wp2_with fail
   go_ret
   exact ⟨_, _, rfl, HE.out.1.mono hsz1, K1.trans HE.out.2⟩
theorem vhy {l : Nat} {J : Act → World → Prop} {Q : Exit → Act → World → Prop} {a : Act} {w : World} (h : Q .normal a w) : Exit.jump l J Q .normal a w := h
def allV (bx : Nat) : Value := .func (.func 86) #[] #[.pointer (some ⟨bx, 0, none⟩)]
structure AllM (bx : Nat) (A : Option Addr) (c : Nat) (L : List Rt) (W : World) : Prop where
 bx : Blk W bx 171 #[.slice A L.length c]
 rd : Rd W 9 Rt.enc A L
def AllP (L : List Rt) (w : World) (e : Ending) (w' : World) : Prop := ∃ bx A c, e = .returned (allV bx) ∧ AllM bx A c L w' ∧ Kp w w' ∧ w.heap.size ≤ bx ∧ ∀ a, A = some a → w.heap.size ≤ a.block ∧ a.block < bx
theorem AllM.only {bx : Nat} {A : Option Addr} {c : Nat} {L : List Rt} {w w' : World} {bs : List Nat} (h : AllM bx A c L w) (k : Only bs w w') (hb : bx ∉ bs) (hA : ∀ a, A = some a → a.block ∉ bs) : AllM bx A c L w' :=
 ⟨h.bx.only k hb, fun i hi => by
  obtain ⟨b, off, e, hc⟩ := h.rd i hi
  exact ⟨b, off, e, fun j u hu => k.cell (hc j u hu) (show b ∉ bs from hA ⟨b, off, none⟩ e)⟩⟩
theorem vhz {w : World} {B n c : Nat} {A : Option Addr} {rs : List Rt} (h : Own w B 132 9 Rt.enc (.slice A n c) rs) : ∀ a, A = some a → B ≤ a.block ∧ a.block < w.heap.size := by
 rintro a rfl
 exact World.ownsRow.lt h a.block rfl
set_option maxRecDepth 100000 in
theorem vkX (B t : Nat) (F : List Nat) (T : Tb) (w : World) (h : TabM w B t F T) : Calls Tryz.prog 31 #[.pointer (some ⟨t, 0, none⟩)] w (AllP T.l w) := by
 have HS := vcW B t F T 85 (fun _ => true) viB vkV w h
 rw [List.filter_eq_self.2 (fun _ _ => rfl)] at HS
 have HS2 := Lib.hid HS
 clear HS h
 have hmf := vcH
 obtain ⟨L, hL⟩ : ∃ L, T.l = L := ⟨_, rfl⟩
 rw [hL] at HS2 ⊢
 clear hL
 go_enter Tryz.func31, Tryz.ntmps31
 go_wp2_with fail
 refine HS2.out.mono ?_
 rintro e w1 ⟨v, rfl, hO, K1⟩
 obtain ⟨A, c, rfl, hR⟩ := hO.rd (by decide) Rt.len
 have hAl := Lib.hid (vhz hO)
 have HR := Lib.hid hR
 have hs := K1.size
 clear hO hR HS2
 go_wp2_with fail
 go_ret
 exact ⟨w1.heap.size, A, c, rfl, ⟨Blk.new w1 _ _, HR.out.keep ((Kp.refl _).alloc _)⟩, K1.alloc _, hs, hAl.out⟩
theorem vfZ (args : Array Value) (w : World) : (callFunc 86 args).run Tryz.prog w = .ok (.enter 86 args) w := by kernel_rfl
def rtAt (L : List Rt) (k : Nat) : Rt := L.getD k zeroR
theorem vgH {L : List Rt} {k : Nat} (h : k < L.length) : rtAt L k = L[k] := by simp [rtAt, List.getD, h]
set_option maxRecDepth 100000 in
theorem vga (bx : Nat) (A : Option Addr) (c : Nat) (L : List Rt) (hn : L.length ≤ 900000) :
  Iter Tryz.prog 86 #[.pointer (some ⟨bx, 0, none⟩)] L.length (fun k => #[.int .i64 (k : Nat), roV (rtAt L k)]) (AllM bx A c L) := by
 intro l I Z W hI hZ hM hy h0
 have HI := Lib.hid hI
 have HM := Lib.hid hM
 have HY := Lib.hid hy
 have D0 := HM.out 0 W h0
 have c0 : W.cell? ⟨bx, 0, none⟩ = some (.slice A L.length c) := D0.bx.cell 0
 have H0 := Lib.hid h0
 clear hI hZ hM hy h0 D0
 go_enter Tryz.func86, Tryz.ntmps86
 go_wp2_with fail
 refine vac 0 rfl ?_
 go_wp2_with fail
 refine wp_label ?_
 go_wp2_with fail
 clear c0
 go_loopw [7] (fun i wr => ∃ k : Nat, k ≤ L.length ∧ i = .int .i64 k ∧ Hid (I k wr)) (fun i _ => L.length - (intOf i).toNat)
 case atStart => exact ⟨0, Nat.zero_le _, rfl, H0⟩
 case round =>
  obtain ⟨k, hk, rfl, hi⟩ := hrel
  by_cases hlt : k < L.length
  ·have hgi : (k : Int) < (L.length : Int) := by omega
   have hg0 : (0 : Int) ≤ (k : Int) := by omega
   have D := HM.out k wr hi.out
   obtain ⟨b, off, hA, s0, s1, s2, s3, s4, s5, s6, s7, s8⟩ := vhw D.rd hlt
   subst hA
   obtain ⟨r, hr⟩ : ∃ r, L[k] = r := ⟨_, rfl⟩
   rw [hr] at s0 s1 s2 s3 s4 s5 s6 s7 s8
   have Hr := Lib.hid (show rtAt L k = r by rw [vgH hlt, hr])
   obtain ⟨V, hV, bV, kV⟩ : ∃ V, wr.alloc (.cells (roC r) 132) = V ∧ Blk V wr.heap.size 132 (roC r) ∧ Kp wr V := ⟨_, rfl, Blk.new _ _ _, (Kp.refl _).alloc _⟩
   obtain ⟨n, hn0⟩ : ∃ n, wr.heap.size = n := ⟨_, rfl⟩
   rw [hn0] at bV
   have r0 := Blk.f bV rfl
   unfold roC at hV
   obtain ⟨fn, tmps, asg, bd, hrun, hround⟩ := HY.out k V hlt (HI.out k _ _ hi.out kV)
   rw [Hr.out] at hrun
   have HRN := Lib.hid hrun
   have HRO := Lib.hid hround
   clear hrun hround hr D kV bV
   go_upto_region 3 with (fail)
   refine (wpIn_wide (n := 0)).1 ?_
   gi_wp2_with fail
   rw [HRN.out, Oper.uponIn_round]
   refine ⟨(fun h => by cases h), HRO.out.mono ?_⟩
   clear s0 s1 s2 s3 s4 s5 s6 s7 s8 r0 hV
   rintro e W' (⟨rfl, hi2⟩ | ⟨rfl, hz⟩)
   ·have Hi2 := Lib.hid hi2; clear hi2
    gi_wp2_with fail
    go_wp2_with fail
    go_roundw
    case rel => exact ⟨k + 1, by omega, by go_num, Hi2⟩
    case measure => simp [intOf]; omega
   ·have Hz := Lib.hid hz; clear hz
    gi_wp2_with fail
    go_wp2_with fail
    refine vhy ?_
    go_end0
    exact ⟨rfl, .inr ⟨k + 1, by omega, by omega, Hz.out⟩⟩
  ·obtain rfl : k = L.length := by omega
   go_wp2_with fail
   refine vhy ?_
   go_end0
   exact ⟨rfl, .inl hi.out⟩
end

section
open Go.RowKit Go.Maps
attribute [local go_sem] Oper.semAt_some
theorem Only.past {bs : List Nat} {n1 : Nat} {V W W' : World} (h : Only bs V W) (hO : Only [n1, n1 + 1] W W') (hn : V.heap.size = n1) : Only bs V W' :=
 ⟨hO.os.trans h.os, hO.tape.trans h.tape, hO.output.trans h.output, Nat.le_trans h.size hO.size, fun i hi hx => (hO.block i (Nat.lt_of_lt_of_le hi h.size) (by simp; omega)).trans (h.block i hi hx)⟩
theorem viC {W : World} {r : Nat} (hd : W.heap[r]? = some (.deferred (some []))) {K : World → Prop} (h : ∀ W', Only [r] W W' → K W') : Takes [{ target := .collected r, args := #[] }] W K :=
 ⟨r, rfl, hd, h _ ((Only.refl [r] W).putObj (by simp) _)⟩
def OfI (f n1 : Nat) (F0 : List Nat) (ps : List Rt) (w4 : World) (k : Nat) (W : World) : Prop := ∃ F, FM W f F (runF (ps.take k) []) ∧ Only F0 w4 W ∧ ∀ b ∈ F, b ∈ F0 ∨ n1 + 2 ≤ b
theorem OfI.turn {f n1 k : Nat} {F0 : List Nat} {ps : List Rt} {w4 W W' : World} (h : OfI f n1 F0 ps w4 k W) (hO : Only [n1, n1 + 1] W W') (hn : w4.heap.size = n1) (h0 : ∀ b ∈ F0, b < n1) : OfI f n1 F0 ps w4 k W' := by
 obtain ⟨F, h1, h2, h3⟩ := h
 refine ⟨F, h1.only hO (fun b hb => ?_), h2.past hO hn, h3⟩
 rcases h3 b hb with e | e
 ·have := h0 b e
  simp
  omega
 ·simp
  omega
theorem OfI.keep {f n1 k : Nat} {F0 : List Nat} {ps : List Rt} {w4 W W' : World} (h : OfI f n1 F0 ps w4 k W) (K : Kp W W') : OfI f n1 F0 ps w4 k W' := by
 obtain ⟨F, h1, h2, h3⟩ := h
 exact ⟨F, h1.keep K, h2.trans (Only.of_kp K), h3⟩
def OfP (L : List Hp) (w : World) (e : Ending) (w' : World) : Prop := ∃ f F, e = .returned (.pointer (some ⟨f, 0, none⟩)) ∧ FM w' f F L ∧ Kp w w' ∧ ∀ b ∈ F, w.heap.size ≤ b
set_option maxRecDepth 100000 in
theorem vkY (B t : Nat) (F : List Nat) (T : Tb) (w : World) (hT : TabM w B t F T) (hG : RelsAt w) (hok : TbOk T) (hx : ∀ r ∈ T.l, r.fits) : Calls Tryz.prog 22 #[.pointer (some ⟨t, 0, none⟩)] w (OfP (hopL T.l) w) := by
 have HTT := Lib.hid hT
 have HG := Lib.hid hG
 have HX := Lib.hid hx
 have HRP := Lib.hid (fun k hk => vmz hok (k := k) hk)
 have HRO := Lib.hid (voN hok)
 have hTn : T.l.length ≤ 900000 := by have := hok.len; omega
 obtain ⟨ps, hps⟩ : ∃ ps, T.l = ps := ⟨_, rfl⟩
 rw [hps] at HRO hTn
 have HPP := Lib.hid hps
 have hgl := World.block_lt_of_cell? w _ hG.1
 clear hT hG hx hok hps
 refine calls_of_wp_marks Tryz.func22 rfl ?_
 simp only [Tryz.ntmps22, List.size_toArray, List.length_cons, List.length_nil, Nat.reduceAdd, Nat.reduceSub, Array.replicate_succ, Array.replicate_zero, List.push_toArray, List.append_toArray, List.nil_append, List.cons_append]
 go_wp2_with fail
 refine (vho w).mono ?_
 rintro e w1 ⟨f, F0, rfl, hM, K1, hF0⟩
 obtain ⟨bf, hbf⟩ : ∃ g, w1.heap.size = g := ⟨_, rfl⟩
 obtain ⟨V, hV, kV, BF⟩ := Blk.al1 hbf #[.pointer (some ⟨f, 0, none⟩)] 72
 have hFl := hM.lt
 have HM := Lib.hid (hM.keep kV)
 have HK := Lib.hid (K1.trans kV)
 have HBF := Lib.hid BF
 have hAL := vkX B t F T V (HTT.out.keep HK.out)
 rw [HPP.out] at hAL
 have HAL := Lib.hid hAL
 have hbl := BF.lt
 clear hM K1 kV BF hAL
 go_wp2_with fail
 refine HAL.out.mono ?_
 rintro e w4 ⟨bx, A4, c4, rfl, hM4, K4, hbx, hA4⟩
 obtain ⟨n1, hn1⟩ : ∃ n1, w4.heap.size = n1 := ⟨_, rfl⟩
 have hVn : V.heap.size ≤ n1 := by have := K4.size; omega
 have hF1 : ∀ b ∈ F0, b < bf := fun b hb => by have := hFl b hb; omega
 have HF0 := Lib.hid (And.intro hF0 hF1)
 have HIT := Lib.hid (vga bx A4 c4 ps hTn)
 have I0 : Hid (OfI f n1 F0 ps w4 0 w4) := Lib.hid ⟨F0, by rw [List.take_zero]; exact HM.out.keep K4, Only.refl _ _, fun b hb => .inl hb⟩
 have HMI : Hid (∀ k V, OfI f n1 F0 ps w4 k V → AllM bx A4 c4 ps V) := Lib.hid (fun k V h => by
  obtain ⟨_, _, h2, _⟩ := h
  exact hM4.only h2 (fun z => by have := hF1 _ z; omega) (fun a ha z => by have := hA4 a ha; have := hF1 _ z; omega))
 have HB4 := Lib.hid (HBF.out.keep K4)
 have HG4 := Lib.hid (HG.out.keep (HK.out.trans K4))
 have HK4 := Lib.hid (HK.out.trans K4)
 have HFn : Hid (∀ b ∈ F0, b < n1) := Lib.hid (fun b hb => by have := hF1 b hb; omega)
 have hbn : bf < n1 := by omega
 have hgn : 3 < n1 := by have := HK4.out.size; omega
 have HGn : Hid (∀ b ∈ F0, 3 ≠ b) := Lib.hid (fun b hb => by have := hF0 b hb; omega)
 clear hM4 hA4 K4 hV hF0 hF1 hFl
 unfold allV
 go_wp2_with fail
 refine vbc (N := ps.length) rfl vfZ HIT.out (fun _ _ => rfl) (OfI f n1 F0 ps w4) (fun _ _ => False) (OfI f n1 F0 ps w4 ps.length) ?_ (fun _ _ _ h => h.elim) HMI.out I0.out (fun _ h => h) (fun _ _ _ _ h => h.elim) ?_ ?_
 ·intro q V1 V2 h hO
  rw [hn1] at hO
  exact h.turn hO hn1 HFn.out
 ·rintro lp q V1 hq h hsV
  rw [hn1] at hsV
  rw [vgH hq]
  obtain ⟨r, hr⟩ : ∃ r, ps[q] = r := ⟨_, rfl⟩
  have HPK := Lib.hid hr
  rw [hr]
  have HBX := Lib.hid (Blk.new V1 52 (roC r))
  have HJ := Lib.hid (h.keep ((Kp.refl V1).alloc (.cells (roC r) 52)))
  clear h hr
  gi_wp2_with fail
  refine ⟨⟨by rw [hn1]; exact Below.heap_alloc V1 _ _ (by omega), by rw [hn1]; exact Below.heap_alloc V1 _ _ (by omega)⟩, (fun V9 => OfI f n1 F0 ps w4 q V9 ∧ Blk V9 V1.heap.size 52 (roC r)), ⟨HJ.out, HBX.out⟩, ?_, ?_⟩
  ·rintro V8 V9 ⟨j1, j2⟩ hO
   rw [hn1] at hO
   exact ⟨j1.turn hO hn1 HFn.out, j2.only hO (by simp; omega)⟩
  rintro U ⟨⟨Fk, u0, u1, u2⟩, j2⟩ hU
  rw [hn1] at hU
  have hnF : ∀ b ∈ F0, b ≠ bf := fun b hb => by have := (HF0.out.2 b hb); omega
  have y := Blk.f (l := [.int .u32 (r.p.a : Int), .int .i64 r.p.l, .int .i64 r.s, .int .i64 r.m, .int .i64 r.l, .int .i64 r.f, .int .u32 (r.x : Int), .int .i64 r.d, .bool r.c]) j2 rfl
  have x0 := Blk.f (HB4.out.only u1 (fun z => hnF _ z rfl)) rfl
  obtain ⟨g, hg⟩ : ∃ g, U.heap.size = g := ⟨_, rfl⟩
  obtain ⟨U2, hU2, kU2, BU2⟩ := Blk.al1 hg (roC r) 52
  unfold roC at hU2
  have hfl := u0.lt
  have hrr := HRP.out q (by rw [HPP.out]; exact hq)
  simp only [HPP.out] at hrr
  rw [HPK.out] at hrr
  obtain ⟨L, hL⟩ : ∃ L, runF (ps.take q) [] = L := ⟨_, rfl⟩
  rw [hL] at u0 hrr
  have hfr : ∀ x ∈ [r], x.fits := fun x hx => by
   rw [List.mem_singleton] at hx
   subst hx
   exact HX.out _ (by rw [HPP.out, ← HPK.out]; exact List.getElem_mem hq)
  have hgF : 3 ∉ Fk := fun z => by
   rcases u2 _ z with e | e
   ·exact HGn.out _ e rfl
   ·omega
  have hCo := vdm f Fk L [r] (some ⟨g, 0, none⟩) 1 U2 ((HG4.out.only u1 (fun z => HGn.out _ z rfl)).keep kU2) hgF (u0.keep kU2) (Rd.of_blk BU2 (by decide) Rt.len (by show 1 ≤ _; decide) rfl) (fun _ a ha z => by injection ha with ha; subst ha; have := hfl g z; omega) (by show 1 ≤ 1000000; decide) hfr
  have HCO := Lib.hid hCo
  have HU0 := Lib.hid (And.intro (u0.keep kU2) (And.intro (u1.trans (Only.of_kp kU2)) u2))
  have HRR := Lib.hid hrr
  have HKU := Lib.hid kU2
  have hgk := kU2.size
  clear u0 u1 u2 j2 hCo hfr hgF hrr kU2 BU2 hfl hnF hL
  refine wpIn_block ?_
  gi_wp2_with fail
  refine ⟨trivial, rfl, vdq lp (HCO.out.mono ?_)⟩
  rintro e W9 ⟨rfl, Fn, k1, k2, k3⟩
  gi_wp2_with fail
  obtain ⟨a1, a2, a3⟩ := HU0.out
  have hno : ∀ i, n1 ≤ i → i < n1 + 2 → i ∉ Fk := fun i h1 h2 z => by
   rcases a3 i z with e | e
   ·have := HFn.out i e
    omega
   ·omega
  refine ⟨⟨?_, ?_⟩, Fn, ?_, ?_, ?_⟩
  ·rw [hn1]
   exact (k2.heap (by omega) (hno _ (by omega) (by omega))).trans (HKU.out.heap (by omega))
  ·rw [hn1]
   exact (k2.heap (by omega) (hno _ (by omega) (by omega))).trans (HKU.out.heap (by omega))
  ·rw [HRR.out.2]
   have e1 : runL [r] L = comeL r L := by
    show (if comeE r L = 0 then comeL r L else L) = comeL r L
    rw [if_pos HRR.out.1]
   rw [← e1]
   exact k1
  ·exact a2.join k2 (fun _ h => h) (fun b hb => (a3 b hb).imp id (fun e => by omega))
  ·intro b hb
   rcases k3 b hb with e | e
   ·exact a3 b e
   ·exact .inr (by omega)
 ·rintro V1 ⟨Fk, u0, u1, u2⟩ hd
  rw [hn1] at hd
  rw [List.take_length, HRO.out] at u0
  have hnF : bf ∉ F0 := fun z => by have := HF0.out.2 _ z; omega
  have x0 := Blk.f (HB4.out.only u1 hnF) rfl
  have HU := Lib.hid (And.intro u0 (And.intro u1 u2))
  have HD := Lib.hid hd
  have HK1 : Hid (Kp w V1) := Lib.hid (u1.kp HK4.out (fun x hx => HF0.out.1 x hx))
  have hwn := HK4.out.size
  clear u0 u1 u2 hd
  go_wp2_with fail
  (try rw [hn1])
  refine viC HD.out (fun W' hO => ?_)
  refine ⟨.pointer (some ⟨f, 0, none⟩), ?_, f, Fk, rfl, ?_, hO.kp HK1.out (by simp; omega), ?_⟩
  ·simp [results, Tryz.results22, go_sem]
  ·rw [HPP.out]
   refine HU.out.1.only hO (fun b hb => ?_)
   rcases HU.out.2.2 b hb with e | e
   ·have := HFn.out b e
    simp
    omega
   ·simp
    omega
  ·intro b hb
   rcases HU.out.2.2 b hb with e | e
   ·exact HF0.out.1 b e
   ·omega
end

end Go.Proofs.YtgopnfacklmkaaaGreatDoor
