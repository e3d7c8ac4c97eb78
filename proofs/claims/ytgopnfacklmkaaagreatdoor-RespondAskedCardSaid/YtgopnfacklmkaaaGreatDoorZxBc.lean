/- Lemmas and contracts for the theorem of this claim: SoE, SoF, SoG, SoH, SoJ, SoK, SoM, SoN, SoP. -/
import Derived.Test.YtgopnfacklmkaaaGreatDoorZxBb
import Derived.Shelf.SlSortCmp.NoneTotal
set_option linter.all false
set_option maxHeartbeats 16000000
namespace Go.Proofs.YtgopnfacklmkaaaGreatDoor
section
open Go.RowKit Go.Sort Go.Shelf
theorem vfw {α : Type} {sz : Nat} {enc : α → List Value} (henc : ∀ x, (enc x).length = sz) : ∀ (xs : List α) (i : Nat) (hi : i < xs.length) (j : Nat) (u : Value), (enc (xs[i]'hi))[j]? = some u → (xs.flatMap enc)[i * sz + j]? = some u
 | [], i, hi, _, _, _ => absurd hi (by simp)
 | y :: ys, 0, _, j, u, hu => by
  rw [List.flatMap_cons]
  simp only [List.getElem_cons_zero] at hu
  rw [Nat.zero_mul, Nat.zero_add, List.getElem?_append_left (List.getElem?_eq_some_iff.1 hu).1]
  exact hu
 | y :: ys, i + 1, hi, j, u, hu => by
  rw [List.flatMap_cons]
  simp only [List.getElem_cons_succ] at hu
  rw [List.getElem?_append_right (by rw [henc, Nat.add_mul]; omega), henc]
  have e : (i + 1) * sz + j - sz = i * sz + j := by rw [Nat.add_mul]; omega
  rw [e]
  exact vfw henc ys i (by simpa using hi) j u hu
theorem vdp (d : Array Rt) : (flatK Rt.enc 9 d).toList = d.toList.flatMap Rt.enc := by
 have hlen : (d.toList.flatMap Rt.enc).length = d.size * 9 := by rw [vaS Rt.len]; simp
 refine List.ext_getElem? (fun t => ?_)
 by_cases ht : t < d.size * 9
 ·have hd : t / 9 < d.toList.length := by rw [Array.length_toList]; omega
  have hm : t % 9 < (Rt.enc (d.toList[t / 9]'hd)).length := by rw [Rt.len]; omega
  have h1 := vfw Rt.len d.toList (t / 9) hd (t % 9) _ (List.getElem?_eq_getElem hm)
  rw [show t / 9 * 9 + t % 9 = t by omega] at h1
  rw [h1, List.getElem?_eq_getElem (by rw [Array.length_toList, size_flatK]; exact ht), Array.getElem_toList]
  have h2 := get_flatK Rt.enc 9 d t ht
  rw [getElem!_pos (flatK Rt.enc 9 d) t (by rw [size_flatK]; exact ht)] at h2
  rw [h2, getElem!_pos d (t / 9) (by omega), getElem!_pos _ _ (by rw [Rt.len]; omega)]
  rfl
 ·rw [List.getElem?_eq_none (by rw [Array.length_toList, size_flatK]; omega), List.getElem?_eq_none (by omega)]
theorem Own.holdsK {w : World} {base e g n c : Nat} {xs : List Rt} (h : Own w base e 9 Rt.enc (.slice (some ⟨g, 0, none⟩) n c) xs) : HoldsK Rt.enc 9 w g 0 xs.toArray ∧ g < w.heap.size := by
 have hlt := (World.ownsRow.lt h g rfl).2
 refine ⟨fun t ht => ?_, hlt⟩
 rw [size_flatK] at ht
 simp only [List.size_toArray] at ht
 have hf : (xs.flatMap Rt.enc)[t]? = some ((flatK Rt.enc 9 xs.toArray)[t]!) := by
  have := vdp xs.toArray
  rw [← this, Array.getElem?_toList, getElem!_pos _ t (by rw [size_flatK]; simpa using ht)]
  exact Array.getElem?_eq_getElem _
 have hc := World.ownsRow.cells (g := g) h rfl t _ hf
 have hadd : (⟨g, 0, none⟩ : Addr).add t = ⟨g, 0 + t, none⟩ := by unfold Addr.add; split <;> simp_all
 rw [hadd] at hc
 refine ⟨hc, ?_⟩
 rcases h.2 with ⟨h2, _⟩ | ⟨g', cap, cur, hv, _, hb, _⟩
 ·cases h2
 ·injection hv with hv; injection hv with hv; injection hv with hv
  subst hv
  simp [World.frozen?, hb]
theorem Own.sorted {w : World} {base e g n c m : Nat} {xs ys : List Rt} {os : Array Obj} (h : Own w base e 9 Rt.enc (.slice (some ⟨g, 0, none⟩) n c) xs) (hy : ys.length = xs.length) :
  Own (sortWorldK Rt.enc 9 w g 0 m ys.toArray os) base e 9 Rt.enc (.slice (some ⟨g, 0, none⟩) n c) ys ∧ Only [g] w (sortWorldK Rt.enc 9 w g 0 m ys.toArray os) := by
 obtain ⟨h0, h2⟩ := h
 have hfs : (flatK Rt.enc 9 ys.toArray).size = ys.length * 9 := by rw [size_flatK]; simp
 have hho : ∀ k, k < w.heap.size → (sortWorldK Rt.enc 9 w g 0 m ys.toArray os).heap[k]? = if g = k then (w.heap[k]?).map (onCells (putCells id 0 (flatK Rt.enc 9 ys.toArray))) else w.heap[k]? := fun k hk => by
  show ((w.heap.modify g (onCells (putCells id 0 (flatK Rt.enc 9 ys.toArray)))) ++ os)[k]? = _
  rw [Array.getElem?_append_left (by simpa using hk), Array.getElem?_modify]
 refine ⟨⟨by rw [vaS Rt.len], ?_⟩, ⟨rfl, rfl, rfl, ?_, fun k hk hn => ?_⟩⟩
 ·rcases h2 with ⟨h3, _⟩ | ⟨g', cap, cur, hv, hg, hb, hc1, hc2, hc3, hc4⟩
  ·cases h3
  ·injection hv with hv1 hv2 hv3
   injection hv1 with hv1
   injection hv1 with hv1
   subst hv1 hv3
   have hlt : g < w.heap.size := (Array.getElem?_eq_some_iff.1 hb).1
   refine .inr ⟨g, c, putCells id 0 (flatK Rt.enc 9 ys.toArray) cur, by rw [hv2, hy], hg, ?_, by omega, hc2, by simp [putCells, hc3], ?_⟩
   ·rw [hho g hlt, if_pos rfl, hb]
    rfl
   ·rw [← vdp]
    have hle : xs.length ≤ c := by omega
    refine List.ext_getElem? (fun t => ?_)
    by_cases ht : t < ys.length * 9
    ·rw [List.getElem?_take_of_lt ht, Array.getElem?_toList, Array.getElem?_toList]
     unfold putCells
     have q1 : t < cur.size := by omega
     have q2 : t < (flatK Rt.enc 9 ys.toArray).size := by omega
     rw [Array.getElem?_mapIdx, Array.getElem?_eq_getElem q1, Array.getElem?_eq_getElem q2]
     simp only [Option.map_some, hfs]
     rw [if_pos (by omega), getElem!_pos _ _ (by simp; omega)]
     simp
    ·have q1 : (List.take (ys.length * 9) (putCells id 0 (flatK Rt.enc 9 ys.toArray) cur).toList).length ≤ t := by rw [List.length_take]; omega
     have q2 : (flatK Rt.enc 9 ys.toArray).toList.length ≤ t := by rw [Array.length_toList]; omega
     rw [List.getElem?_eq_none q1, List.getElem?_eq_none q2]
 ·show w.heap.size ≤ ((w.heap.modify g _) ++ os).size
  simp
 ·rw [hho k hk, if_neg (fun e => hn (by simp [e]))]
theorem vhX (args : Array Value) (w : World) : (callFunc 151 args).run Tryz.prog w = .ok (.enter 151 args) w := by kernel_rfl
theorem vjG (w : World) : (isAgg 132).run Tryz.prog w = .ok true w := by kernel_rfl
theorem vlt (w : World) : (Go.sizeOf 132).run Tryz.prog w = .ok 9 w := by kernel_rfl
theorem Rt.one (r : Rt) : ∀ v ∈ r.enc, v.oneCell' = true := by
 intro v hv
 simp only [Rt.enc, List.mem_cons, List.not_mem_nil, or_false] at hv
 rcases hv with h | h | h | h | h | h | h | h | h <;> subst h <;> rfl
def SortP (base g n c : Nat) (L : List Rt) (w : World) (e : Ending) (w' : World) : Prop := e = .returned (.tuple #[]) ∧ Own w' base 132 9 Rt.enc (.slice (some ⟨g, 0, none⟩) n c) L ∧ Only [g] w w'
theorem vhY (base g n c : Nat) (xs L : List Rt) (u : UpR L) (hp : xs.Perm L) (hn : L.length ≤ 900000) (w : World) (h : Own w base 132 9 Rt.enc (.slice (some ⟨g, 0, none⟩) n c) xs) :
  Calls Tryz.prog 150 #[.slice (some ⟨g, 0, none⟩) n c, .func (.func 151) #[] #[]] w (SortP base g n c L w) := by
 have hlen := hp.length_eq
 have hsz : xs.toArray.size = n := by
  rcases h.2 with ⟨h2, _⟩ | ⟨g', cap, cur, hv, _⟩
  ·cases h2
  ·injection hv with _ hv; simp [hv]
 obtain ⟨hH, hlt⟩ := h.holdsK
 have hcmp : CmpLays Tryz.prog 151 #[] Rt.enc 9 cfR g 0 xs.toArray.size w := fun m os dk hs x y => by
  refine (vjA x y _).mono ?_
  rintro e w' ⟨rfl, hk, hd⟩
  exact ⟨rfl, vgn hk hd⟩
 have H := AnyQ.slices_SortFunc Tryz.sortH 9 vjG vlt Rt.enc Rt.len Rt.one cfR swoR 151 #[] g 0 c xs.toArray w vhX hcmp hH hlt (by have h3 : xs.toArray.size = xs.length := List.size_toArray; omega)
 rw [hsz] at H
 refine Calls.mono H ?_
 rintro e w' ⟨rfl, d', m, os, h1, h2, rfl⟩
 have hd : d'.toList = L := vhM u (by simpa using hp) (by rw [hsz]; exact h1) (by rw [hsz]; exact h2)
 have e2 : d' = L.toArray := by rw [← hd]
 subst e2
 exact ⟨rfl, h.sorted (by omega)⟩
end

section
open Go.RowKit Go.Shelf Go.Sort
set_option maxRecDepth 100000 in
theorem vhZ (r : Rt) (w : World) : Calls Tryz.prog 85 #[roV r] w fun e w' => e = .returned (.bool true) ∧ Kp w w' := by
 go_enter Tryz.func85, Tryz.ntmps85
 go_wp2_with fail
 go_ret
 exact ⟨rfl, (Kp.refl _).alloc _⟩
theorem vgt (args : Array Value) (w : World) : (callFunc 85 args).run Tryz.prog w = .ok (.enter 85 args) w := by kernel_rfl
def SortV (base : Nat) (v : Value) (L : List Rt) (w : World) (e : Ending) (w' : World) : Prop := e = .returned (.tuple #[]) ∧ Own w' base 132 9 Rt.enc v L ∧ ∃ bs, (∀ b ∈ bs, base ≤ b) ∧ Only bs w w'
theorem via (base : Nat) (A : Option Addr) (n c : Nat) (xs L : List Rt) (u : UpR L) (hp : xs.Perm L) (hn : L.length ≤ 900000) (w : World) (h : Own w base 132 9 Rt.enc (.slice A n c) xs) :
  Calls Tryz.prog 150 #[.slice A n c, .func (.func 151) #[] #[]] w (SortV base (.slice A n c) L w) := by
 cases A with
 | none =>
  have h0 : n = 0 ∧ c = 0 := by
   rcases h.2 with ⟨h2, h3⟩ | ⟨g, cap, cur, hv, _⟩
   ·injection h2 with h4 h5 h6; exact ⟨h5, h6⟩
   ·injection hv with hv; cases hv
  obtain ⟨rfl, rfl⟩ := h0
  have hx : xs = [] := by
   obtain ⟨A', c', hv⟩ := h.form
   injection hv with _ hv
   exact List.length_eq_zero_iff.1 hv.symm
  subst hx
  have hL : L = [] := hp.nil_eq.symm
  subst hL
  refine (AnyF.slices_SortFunc_none Tryz.sortH none 0 _ w).mono ?_
  rintro e w' ⟨rfl, rfl⟩
  exact ⟨rfl, h, [], by simp, Only.refl _ _⟩
 | some a =>
  obtain ⟨g, rfl⟩ : ∃ g, a = ⟨g, 0, none⟩ := by
   rcases h.2 with ⟨h2, _⟩ | ⟨g, cap, cur, hv, _⟩
   ·cases h2
   ·injection hv with hv; injection hv with hv; exact ⟨g, hv⟩
  have hg := (World.ownsRow.lt h g rfl).1
  refine (vhY base g n c xs L u hp hn w h).mono ?_
  rintro e w' ⟨rfl, h1, h2⟩
  exact ⟨rfl, h1, [g], by simpa using hg, h2⟩
set_option maxRecDepth 100000 in
theorem vgu (B t : Nat) (F : List Nat) (T : Tb) (g : FuncId) (f : Rt → Bool) (eg : ∀ args w, (callFunc g args).run Tryz.prog w = .ok (.enter g args) w)
  (hg : ∀ (r : Rt) (W : World), Calls Tryz.prog g #[roV r] W fun e w' => e = .returned (.bool (f r)) ∧ Kp W w') (w : World) (h : TabM w B t F T) :
  Calls Tryz.prog 81 #[.pointer (some ⟨t, 0, none⟩), .func (.func g) #[] #[]] w (SiftP (T.l.filter f) w) := by
 obtain ⟨q, mp, m, A, QF, l, _, X⟩ := h
 have hm : w.cell? ⟨t, 10, none⟩ = some (.map (some mp)) := X.bk.cell 10
 obtain ⟨o, ho⟩ : ∃ o, w.heap[mp]? = some o := ⟨_, Array.getElem?_eq_getElem X.mr.lt⟩
 have hmr : ∀ V : World, V.heap[mp]? = some o → MapR V mp T.l := fun V hV => X.mr.lie (hV.trans ho.symm)
 have hu := X.u
 have hwf := X.wf
 have hn := X.n
 have hmp := X.mr.lt
 have HO := Lib.hid ho
 have HR := Lib.hid hmr
 have HU := Lib.hid hu
 have HW := Lib.hid hwf
 have HG := Lib.hid hg
 have HE := Lib.hid eg
 clear X ho hmr hu hwf hg eg
 go_enter Tryz.func81, Tryz.ntmps81
 go_upto_region 3 with (first | (go_at_call 55; refine (vct t mp _ hm).mono ?_; rintro e w' ⟨rfl, hw'⟩; rw [hw']; clear hw' w'))
 go_wp2_with fail
 refine (vjB mp w).mono ?_
 rintro e w1 ⟨rfl, hB1, K1⟩
 obtain ⟨mb, hmb⟩ : ∃ mb, w.heap.size = mb := ⟨_, rfl⟩
 rw [hmb] at hB1
 rw [hmb]
 have ho1 : w1.heap[mp]? = some o := (K1.heap hmp).trans HO.out
 have HC := Lib.hid (veu T.l mp mb o HU.out HW.out HR.out hn w1 hB1 ho1)
 obtain ⟨vv, hvv⟩ : ∃ vv, valsV mb = vv := ⟨_, rfl⟩
 rw [hvv] at HC ⊢
 clear ho1 hB1 hmb hvv
 go_wp2_with fail
 refine HC.out.mono ?_
 rintro e w2 ⟨A2, n2, c2, s, rfl, hO2, hP2, K2⟩
 obtain ⟨A', c', hv2, hR2⟩ := hO2.rd (by decide) Rt.len
 injection hv2 with ha2 hn2 hc2
 subst ha2 hn2 hc2
 have hsl : s.length ≤ 900000 := by have := hP2.length_eq; omega
 have HS := Lib.hid (vjC s A2 c2 g f HE.out HG.out w2 hR2 (by omega))
 clear hO2 hR2 HC
 go_wp2_with fail
 refine HS.out.mono ?_
 rintro e w3 ⟨v3, rfl, hO3, K3⟩
 obtain ⟨A3, c3, hv3⟩ := hO3.form
 subst hv3
 have K123 := (K1.trans K2).trans K3
 have hfl := List.length_filter_le f T.l
 have HT := Lib.hid (via w2.heap.size A3 (s.filter f).length c3 (s.filter f) (T.l.filter f) (HU.out.filter f) (hP2.filter f) (by omega) w3 hO3)
 have hle2 := (K1.trans K2).size
 clear hO3 HS
 go_wp2_with fail
 refine HT.out.mono ?_
 rintro e w4 ⟨rfl, hO4, bs, hbs, hK4⟩
 have HF := Lib.hid (show SiftP (T.l.filter f) w (.returned (.slice A3 (s.filter f).length c3)) w4 from ⟨_, rfl, hO4.mono hle2, hK4.kp K123 (fun b hb => Nat.le_trans hle2 (hbs b hb))⟩)
 clear hO4 hbs hK4 HT hsl hfl
 go_wp2_with fail
 go_ret
 exact HF.out
end

section
open Go.RowKit
theorem ERtR : ElemOf Tryz.prog 81 52 (.agg #[.int .u32 0, .int .i64 0, .int .i64 0, .int .i64 0, .int .i64 0, .int .i64 0, .int .u32 0, .int .i64 0, .bool false]) 9 72 := ⟨Tryz.underlying81, by kernel_rfl, rfl, by decide⟩
theorem vfx {l : Nat} {J : Act → World → Prop} {Q : Exit → Act → World → Prop} {a : Act} {w : World} (h : Q .normal a w) : Exit.jump l J Q .normal a w := h
def allV (bx : Nat) : Value := .func (.func 86) #[] #[.pointer (some ⟨bx, 0, none⟩)]
structure AllM (bx : Nat) (A : Option Addr) (c : Nat) (L : List Rt) (W : World) : Prop where
 bx : Blk W bx 171 #[.slice A L.length c]
 rd : Rd W 9 Rt.enc A L
def AllP (L : List Rt) (w : World) (e : Ending) (w' : World) : Prop := ∃ bx A c, e = .returned (allV bx) ∧ AllM bx A c L w' ∧ Kp w w' ∧ w.heap.size ≤ bx ∧ ∀ a, A = some a → w.heap.size ≤ a.block ∧ a.block < bx
theorem AllM.only {bx : Nat} {A : Option Addr} {c : Nat} {L : List Rt} {w w' : World} {bs : List Nat} (h : AllM bx A c L w) (k : Only bs w w') (hb : bx ∉ bs) (hA : ∀ a, A = some a → a.block ∉ bs) : AllM bx A c L w' :=
 ⟨h.bx.only k hb, fun i hi => by
  obtain ⟨b, off, e, hc⟩ := h.rd i hi
  exact ⟨b, off, e, fun j u hu => k.cell (hc j u hu) (show b ∉ bs from hA ⟨b, off, none⟩ e)⟩⟩
theorem vjH {w : World} {B n c : Nat} {A : Option Addr} {rs : List Rt} (h : Own w B 132 9 Rt.enc (.slice A n c) rs) : ∀ a, A = some a → B ≤ a.block ∧ a.block < w.heap.size := by
 rintro a rfl
 exact World.ownsRow.lt h a.block rfl
set_option maxRecDepth 100000 in
theorem vlu (B t : Nat) (F : List Nat) (T : Tb) (w : World) (h : TabM w B t F T) : Calls Tryz.prog 31 #[.pointer (some ⟨t, 0, none⟩)] w (AllP T.l w) := by
 have HS := vgu B t F T 85 (fun _ => true) vgt vhZ w h
 rw [List.filter_eq_self.2 (fun _ _ => rfl)] at HS
 have HS2 := Lib.hid HS
 clear HS h
 have hmf := vbL
 obtain ⟨L, hL⟩ : ∃ L, T.l = L := ⟨_, rfl⟩
 rw [hL] at HS2 ⊢
 clear hL
 go_enter Tryz.func31, Tryz.ntmps31
 go_wp2_with fail
 refine HS2.out.mono ?_
 rintro e w1 ⟨v, rfl, hO, K1⟩
 obtain ⟨A, c, rfl, hR⟩ := hO.rd (by decide) Rt.len
 have hAl := Lib.hid (vjH hO)
 have HR := Lib.hid hR
 have hs := K1.size
 clear hO hR HS2
 go_wp2_with fail
 go_ret
 exact ⟨w1.heap.size, A, c, rfl, ⟨Blk.new w1 _ _, HR.out.keep ((Kp.refl _).alloc _)⟩, K1.alloc _, hs, hAl.out⟩
theorem vib (args : Array Value) (w : World) : (callFunc 86 args).run Tryz.prog w = .ok (.enter 86 args) w := by kernel_rfl
def rtAt (L : List Rt) (k : Nat) : Rt := L.getD k zeroR
theorem vic {L : List Rt} {k : Nat} (h : k < L.length) : rtAt L k = L[k] := by simp [rtAt, List.getD, h]
set_option maxRecDepth 100000 in
theorem vid (bx : Nat) (A : Option Addr) (c : Nat) (L : List Rt) (hn : L.length ≤ 900000) :
  Iter Tryz.prog 86 #[.pointer (some ⟨bx, 0, none⟩)] L.length (fun k => #[.int .i64 (k : Nat), roV (rtAt L k)]) (AllM bx A c L) := by
 intro l I Z W hI hZ hM hy h0
 have HI := Lib.hid hI
 have HM := Lib.hid hM
 have HY := Lib.hid hy
 have D0 := HM.out 0 W h0
 have c0 : W.cell? ⟨bx, 0, none⟩ = some (.slice A L.length c) := D0.bx.cell 0
 have H0 := Lib.hid h0
 clear hI hZ hM hy h0 D0
 go_enter Tryz.func86, Tryz.ntmps86
 go_wp2_with fail
 refine vab 0 rfl ?_
 go_wp2_with fail
 refine wp_label ?_
 go_wp2_with fail
 clear c0
 go_loopw [7] (fun i wr => ∃ k : Nat, k ≤ L.length ∧ i = .int .i64 k ∧ Hid (I k wr)) (fun i _ => L.length - (intOf i).toNat)
 case atStart => exact ⟨0, Nat.zero_le _, rfl, H0⟩
 case round =>
  obtain ⟨k, hk, rfl, hi⟩ := hrel
  by_cases hlt : k < L.length
  ·have hgi : (k : Int) < (L.length : Int) := by omega
   have hg0 : (0 : Int) ≤ (k : Int) := by omega
   have D := HM.out k wr hi.out
   obtain ⟨b, off, hA, s0, s1, s2, s3, s4, s5, s6, s7, s8⟩ := vhN D.rd hlt
   subst hA
   obtain ⟨r, hr⟩ : ∃ r, L[k] = r := ⟨_, rfl⟩
   rw [hr] at s0 s1 s2 s3 s4 s5 s6 s7 s8
   have Hr := Lib.hid (show rtAt L k = r by rw [vic hlt, hr])
   obtain ⟨V, hV, bV, kV⟩ : ∃ V, wr.alloc (.cells (roC r) 132) = V ∧ Blk V wr.heap.size 132 (roC r) ∧ Kp wr V := ⟨_, rfl, Blk.new _ _ _, (Kp.refl _).alloc _⟩
   obtain ⟨n, hn0⟩ : ∃ n, wr.heap.size = n := ⟨_, rfl⟩
   rw [hn0] at bV
   have r0 := Blk.f bV rfl
   unfold roC at hV
   obtain ⟨fn, tmps, asg, bd, hrun, hround⟩ := HY.out k V hlt (HI.out k _ _ hi.out kV)
   rw [Hr.out] at hrun
   have HRN := Lib.hid hrun
   have HRO := Lib.hid hround
   clear hrun hround hr D kV bV
   go_upto_region 3 with (fail)
   refine (wpIn_wide (n := 0)).1 ?_
   gi_wp2_with fail
   rw [HRN.out, Oper.uponIn_round]
   refine ⟨(fun h => by cases h), HRO.out.mono ?_⟩
   clear s0 s1 s2 s3 s4 s5 s6 s7 s8 r0 hV
   rintro e W' (⟨rfl, hi2⟩ | ⟨rfl, hz⟩)
   ·have Hi2 := Lib.hid hi2; clear hi2
    gi_wp2_with fail
    go_wp2_with fail
    go_roundw
    case rel => exact ⟨k + 1, by omega, by go_num, Hi2⟩
    case measure => simp [intOf]; omega
   ·have Hz := Lib.hid hz; clear hz
    gi_wp2_with fail
    go_wp2_with fail
    refine vfx ?_
    go_end0
    exact ⟨rfl, .inr ⟨k + 1, by omega, by omega, Hz.out⟩⟩
  ·obtain rfl : k = L.length := by omega
   go_wp2_with fail
   refine vfx ?_
   go_end0
   exact ⟨rfl, .inl hi.out⟩
end

section
open Go.RowKit Go.Maps Go.Shelf
def MpS (w0 w : World) (m n : Nat) (f : Tk → Option Nat) : Prop := w0.heap.size ≤ m ∧ m < w.heap.size ∧ MpT w m n f
theorem MpS.mk {w0 w : World} {m n : Nat} {f : Tk → Option Nat} (h0 : w0.heap.size ≤ m) (h1 : m < w.heap.size) (h2 : MpT w m n f) : MpS w0 w m n f := ⟨h0, h1, h2⟩
def QCopyP (l : List Tw) (w : World) (e : Ending) (w' : World) : Prop := ∃ a bs, e = .returned (.pointer (some ⟨a, 0, none⟩)) ∧ QuS w' w.heap.size a bs l ∧ Kp w w'
theorem QCopyP.mk {l : List Tw} {w w4 : World} {v : Value} {m : Nat} {f : Tk → Option Nat} (O : Own w4 w.heap.size 337 4 Tw.enc v l) (M : MpT w4 m l.length f) (P : PlOf f l) (hm : w.heap.size ≤ m ∧ m < w4.heap.size) (k : Kp w w4) (wf : ∀ t ∈ l, t.tk.wf ∧ wfI t.d) (hp : Heap ltT (fT l) l.length) (k3 : ∀ y ∈ l, y.k = 3) :
  QCopyP l w (.returned (.pointer (some ⟨w4.heap.size + 1, 0, none⟩))) ((w4.alloc (.cells #[v, .map (some m)] 214)).alloc (.cells #[.pointer (some ⟨w4.heap.size, 0, none⟩)] 216)) := by
 have al : Kp w4 ((w4.alloc (.cells #[v, .map (some m)] 214)).alloc (.cells #[.pointer (some ⟨w4.heap.size, 0, none⟩)] 216)) := ((Kp.refl _).alloc _).alloc _
 have hs := k.size
 refine ⟨w4.heap.size + 1, (w4.heap.size + 1) :: w4.heap.size :: m :: v.ownBlock.toList, rfl, ⟨⟨w4.heap.size, m, v, Blk.new1 _ _ _ _, ⟨(Blk.new _ _ _).alloc _, O.keep al, ⟨f, ?_, P⟩, wf⟩, by simp, by simp, by simp, fun g hg => by simp [hg]⟩, fun b hb => ?_, hp, k3⟩, k.trans al⟩
 ·obtain ⟨D, ⟨es', clock, g1, g2⟩, h2, h3⟩ := M
  exact ⟨D, ⟨es', clock, (al.heap hm.2).trans g1, g2⟩, h2, h3⟩
 ·simp only [World.size_alloc]
  simp only [List.mem_cons, Option.mem_toList] at hb
  rcases hb with rfl | rfl | rfl | hb
  ·omega
  ·omega
  ·omega
  ·have := World.ownsRow.lt O b hb
   omega
end

section
open Go.RowKit Go.Maps
def TCopyP (T : Tb) (w : World) (e : Ending) (w' : World) : Prop := ∃ t F, e = .returned (.pointer (some ⟨t, 0, none⟩)) ∧ TabM w' w.heap.size t F T ∧ Kp w w'
theorem TCopyP.mk {T : Tb} {w w4 : World} {q mp m : Nat} {A : Option Addr} {QF : List Nat} {l : List Tw} (S : QuS w4 w.heap.size q QF l) (O : Own w4 w.heap.size 39 2 PI.enc (.slice A T.c.own.length m) T.c.own) (M : MapR w4 mp T.l) (hm : w.heap.size ≤ mp) (pm : l.Perm (armL T.l))
  (hmq : mp ∉ QF) (han : ∀ a, A = some a → a.block ∉ QF ∧ a.block ≠ mp) (K : Kp w w4) (u : UpR T.l) (wf : ∀ r ∈ T.l, wfP r.p) (n : T.l.length ≤ 900000) : TCopyP T w (.returned (.pointer (some ⟨w4.heap.size, 0, none⟩))) (w4.alloc (.cells (tbC q T A m mp) 125)) := by
 have al : Kp w4 (w4.alloc (.cells (tbC q T A m mp) 125)) := (Kp.refl _).alloc _
 exact ⟨w4.heap.size, _, rfl, ⟨q, mp, m, A, QF, l, rfl, Blk.new _ _ _, S.keep al, pm, M.keep al, O.keep al, fun e => by have := (S.lo _ e).2; omega, hmq, fun e => by have := M.lt; omega, fun a e => ⟨(han a e).1, fun z => by have := (vdn O a e).2; omega, (han a e).2⟩, K.size, hm, u, wf, n⟩, K.trans al⟩
end

section
open Go.RowKit
set_option maxRecDepth 100000 in
theorem vjI (w : World) (a l b k : Int) : (binOp .neq 39 (.agg #[.int .u32 a, .int .i64 l]) (.agg #[.int .u32 b, .int .i64 k])).run Tryz.prog w = .ok (.bool (!(a == b && l == k))) w := by
 rw [run_neq_struct, run_equalIn_agg w 9999 _ _ _ Tryz.underlying39 (by kernel_rfl)]
 simp [Op.eqFields, part, go_sem, Tryz.underlying3, Tryz.underlying37]
 by_cases h1 : a = b <;> by_cases h2 : l = k <;> simp [h1, h2]
instance : DecidableEq Rt := fun a b => decidable_of_iff (a.p = b.p ∧ a.s = b.s ∧ a.m = b.m ∧ a.l = b.l ∧ a.f = b.f ∧ a.x = b.x ∧ a.d = b.d ∧ a.c = b.c) (by cases a; cases b; simp only [Rt.mk.injEq])
end

section
open Go.RowKit Go.Maps
set_option maxRecDepth 100000 in
theorem vie (B t : Nat) (F : List Nat) (T : Tb) (w : World) (h : TabM w B t F T) : Calls Tryz.prog 128 #[.pointer (some ⟨t, 0, none⟩), .pointer none] w fun e w' => e = .returned (.bool false) ∧ Kp w w' := by
 obtain ⟨mp, hm, _⟩ := h.cellm
 clear h
 go_enter Tryz.func128, Tryz.ntmps128
 go_wp2_with (first | (go_at_call 55; first | ((with_reducible refine (vct t mp _ hm).mono ?_); rintro e w' ⟨rfl, hw'⟩; rw [hw']; clear hw' w') | ((with_reducible refine (vjv _).mono ?_); rintro e w' ⟨rfl, hw'⟩; rw [hw']; clear hw' w')))
 go_ret
 exact ⟨rfl, Kp.refl _⟩
end

end Go.Proofs.YtgopnfacklmkaaaGreatDoor
