/- Lemmas and contracts for the theorem of this claim: ShR, SoE, SoF, SoG, SoH. -/
import Derived.Test.YtffckpkikdlbpaaGreatDoorZvBb
import Derived.Shelf.SlSortCmp.WholeK
import Derived.Shelf.SlMaps.Clone
import Derived.Shelf.SlMaps.Equal
import Derived.Test.YtffckpkikdlbpaaGreatDoorProg
import Derived.Shelf.SlSortCmp.NoneTotal
set_option linter.all false
set_option maxHeartbeats 16000000
namespace Go.Proofs.YtffckpkikdlbpaaGreatDoor
end Go.Proofs.YtffckpkikdlbpaaGreatDoor
namespace Go.Proofs
open Go.Shelf
def Tryz.sortH_ren : Go.Shelf.Ren := ⟨fun | 6 => 84 | 15 => 121 | 14 => 120 | 28 => 161 | 29 => 162 | 20 => 153 | 21 => 154 | 22 => 155 | 23 => 156 | 24 => 157 | 25 => 158 | 26 => 159 | 27 => 160 | 46 => 185 | 47 => 186 | 48 => 187 | 49 => 188 | 50 => 189 | 57 => 197 | n => n, fun | 22 => 83 | 24 => 87 | 25 => 135 | 3 => 3 | 39 => 125 | 0 => 0 | 53 => 26 | 55 => 219 | 4 => 4 | 46 => 211 | 45 => 210 | 50 => 215 | 5 => 5 | 9 => 9 | 66 => 244 | 70 => 248 | 76 => 264 | 77 => 265 | n => n, fun | n => n⟩
theorem Tryz.sortH : Go.Proofs.SlLaysF0.n6 Tryz.prog Tryz.sortH_ren := {
 mixed := by kernel_rfl
 f6 := ⟨Tryz.f84.name, by decide, Tryz.func84.trans (congrArg some (by kernel_rfl))⟩
 f14 := ⟨Tryz.f120.name, by decide, Tryz.func120.trans (congrArg some (by kernel_rfl))⟩
 f15 := Tryz.func121.trans (congrArg some (by kernel_rfl))
 f20 := ⟨Tryz.f153.name, by decide, Tryz.func153.trans (congrArg some (by kernel_rfl))⟩
 f21 := ⟨Tryz.f154.name, by decide, Tryz.func154.trans (congrArg some (by kernel_rfl))⟩
 f22 := ⟨Tryz.f155.name, by decide, Tryz.func155.trans (congrArg some (by kernel_rfl))⟩
 f23 := ⟨Tryz.f156.name, by decide, Tryz.func156.trans (congrArg some (by kernel_rfl))⟩
 f24 := ⟨Tryz.f157.name, by decide, Tryz.func157.trans (congrArg some (by kernel_rfl))⟩
 f25 := ⟨Tryz.f158.name, by decide, Tryz.func158.trans (congrArg some (by kernel_rfl))⟩
 f26 := ⟨Tryz.f159.name, by decide, Tryz.func159.trans (congrArg some (by kernel_rfl))⟩
 f27 := ⟨Tryz.f160.name, by decide, Tryz.func160.trans (congrArg some (by kernel_rfl))⟩
 f28 := Tryz.func161.trans (congrArg some (by kernel_rfl))
 f29 := Tryz.func162.trans (congrArg some (by kernel_rfl))
 f46 := ⟨Tryz.f185.name, by decide, Tryz.func185.trans (congrArg some (by kernel_rfl))⟩
 f47 := Tryz.func186.trans (congrArg some (by kernel_rfl))
 f48 := Tryz.func187.trans (congrArg some (by kernel_rfl))
 f49 := ⟨Tryz.f188.name, by decide, Tryz.func188.trans (congrArg some (by kernel_rfl))⟩
 f50 := ⟨Tryz.f189.name, by decide, Tryz.func189.trans (congrArg some (by kernel_rfl))⟩
 f57 := ⟨Tryz.f197.name, by decide, Tryz.func197.trans (congrArg some (by kernel_rfl))⟩
 t0 := Tryz.underlying0
 a0 := Tryz.isAgg0
 z0 := Tryz.sizeOf0
 v0 := Tryz.zeroValue0
 t3 := Tryz.underlying3
 a3 := Tryz.isAgg3
 z3 := Tryz.sizeOf3
 v3 := Tryz.zeroValue3
 t4 := Tryz.underlying4
 a4 := Tryz.isAgg4
 z4 := Tryz.sizeOf4
 v4 := Tryz.zeroValue4
 t5 := Tryz.underlying5
 a5 := Tryz.isAgg5
 z5 := Tryz.sizeOf5
 v5 := Tryz.zeroValue5
 t9 := Tryz.underlying9
 a9 := Tryz.isAgg9
 z9 := Tryz.sizeOf9
 v9 := Tryz.zeroValue9
 t22 := Tryz.underlying83
 a22 := Tryz.isAgg83
 z22 := Tryz.sizeOf83
 v22 := Tryz.zeroValue83
 t25 := Tryz.underlying135
 a25 := Tryz.isAgg135
 z25 := Tryz.sizeOf135
 v25 := Tryz.zeroValue135
 t39 := Tryz.underlying125
 a39 := Tryz.isAgg125
 z39 := Tryz.sizeOf125
 v39 := Tryz.zeroValue125
 t45 := Tryz.underlying210
 a45 := Tryz.isAgg210
 z45 := Tryz.sizeOf210
 v45 := Tryz.zeroValue210
 t46 := Tryz.underlying211
 a46 := Tryz.isAgg211
 z46 := Tryz.sizeOf211
 v46 := Tryz.zeroValue211
 t50 := Tryz.underlying215
 a50 := Tryz.isAgg215
 z50 := Tryz.sizeOf215
 v50 := Tryz.zeroValue215
 t53 := Tryz.underlying26
 a53 := Tryz.isAgg26
 z53 := Tryz.sizeOf26
 v53 := Tryz.zeroValue26
 t55 := Tryz.underlying219
 a55 := Tryz.isAgg219
 z55 := Tryz.sizeOf219
 v55 := Tryz.zeroValue219
 t66 := Tryz.underlying244
 a66 := Tryz.isAgg244
 z66 := Tryz.sizeOf244
 v66 := Tryz.zeroValue244
 t70 := Tryz.underlying248
 a70 := Tryz.isAgg248
 z70 := Tryz.sizeOf248
 v70 := Tryz.zeroValue248
 t76 := Tryz.underlying264
 a76 := Tryz.isAgg264
 z76 := Tryz.sizeOf264
 v76 := Tryz.zeroValue264
 t77 := Tryz.underlying265
 a77 := Tryz.isAgg265
 z77 := Tryz.sizeOf265
 v77 := Tryz.zeroValue265 }
def Tryz.cloneH_ren : Go.Shelf.Ren := ⟨fun | 5 => 58 | 7 => 103 | n => n, fun | 23 => 105 | 25 => 29 | 3 => 87 | 4 => 4 | 20 => 20 | n => n, fun | n => n⟩
theorem Tryz.cloneH : Go.Proofs.SlLaysW.n5 Tryz.prog Tryz.cloneH_ren := {
 mixed := by kernel_rfl
 f5 := ⟨Tryz.f58.name, by decide, Tryz.func58.trans (congrArg some (by kernel_rfl))⟩
 f7 := Tryz.func103.trans (congrArg some (by kernel_rfl))
 t4 := Tryz.underlying4
 a4 := Tryz.isAgg4
 z4 := Tryz.sizeOf4
 v4 := Tryz.zeroValue4
 t20 := Tryz.underlying20
 a20 := Tryz.isAgg20
 z20 := Tryz.sizeOf20
 v20 := Tryz.zeroValue20
 t23 := Tryz.underlying105
 a23 := Tryz.isAgg105
 z23 := Tryz.sizeOf105
 v23 := Tryz.zeroValue105 }
def Tryz.cloneT_ren : Go.Shelf.Ren := ⟨fun | 5 => 102 | 7 => 103 | n => n, fun | 23 => 147 | 25 => 158 | 3 => 3 | 4 => 4 | 20 => 20 | n => n, fun | n => n⟩
theorem Tryz.cloneT : Go.Proofs.SlLaysW.n5 Tryz.prog Tryz.cloneT_ren := {
 mixed := by kernel_rfl
 f5 := ⟨Tryz.f102.name, by decide, Tryz.func102.trans (congrArg some (by kernel_rfl))⟩
 f7 := Tryz.func103.trans (congrArg some (by kernel_rfl))
 t4 := Tryz.underlying4
 a4 := Tryz.isAgg4
 z4 := Tryz.sizeOf4
 v4 := Tryz.zeroValue4
 t20 := Tryz.underlying20
 a20 := Tryz.isAgg20
 z20 := Tryz.sizeOf20
 v20 := Tryz.zeroValue20
 t23 := Tryz.underlying147
 a23 := Tryz.isAgg147
 z23 := Tryz.sizeOf147
 v23 := Tryz.zeroValue147 }
end Go.Proofs
namespace Go.Proofs.YtffckpkikdlbpaaGreatDoor

section
open Go.RowKit Go.Sort Go.Shelf
theorem vgr {α : Type} {sz : Nat} {enc : α → List Value} (henc : ∀ x, (enc x).length = sz) : ∀ (xs : List α) (i : Nat) (hi : i < xs.length) (j : Nat) (u : Value), (enc (xs[i]'hi))[j]? = some u → (xs.flatMap enc)[i * sz + j]? = some u
 | [], i, hi, _, _, _ => absurd hi (by simp)
 | y :: ys, 0, _, j, u, hu => by
  rw [List.flatMap_cons]
  simp only [List.getElem_cons_zero] at hu
  rw [Nat.zero_mul, Nat.zero_add, List.getElem?_append_left (List.getElem?_eq_some_iff.1 hu).1]
  exact hu
 | y :: ys, i + 1, hi, j, u, hu => by
  rw [List.flatMap_cons]
  simp only [List.getElem_cons_succ] at hu
  rw [List.getElem?_append_right (by rw [henc, Nat.add_mul]; omega), henc]
  have e : (i + 1) * sz + j - sz = i * sz + j := by rw [Nat.add_mul]; omega
  rw [e]
  exact vgr henc ys i (by simpa using hi) j u hu
theorem vdQ (d : Array Rt) : (flatK Rt.enc 9 d).toList = d.toList.flatMap Rt.enc := by
 have hlen : (d.toList.flatMap Rt.enc).length = d.size * 9 := by rw [vbz Rt.len]; simp
 refine List.ext_getElem? (fun t => ?_)
 by_cases ht : t < d.size * 9
 ·have hd : t / 9 < d.toList.length := by rw [Array.length_toList]; omega
  have hm : t % 9 < (Rt.enc (d.toList[t / 9]'hd)).length := by rw [Rt.len]; omega
  have h1 := vgr Rt.len d.toList (t / 9) hd (t % 9) _ (List.getElem?_eq_getElem hm)
  rw [show t / 9 * 9 + t % 9 = t by omega] at h1
  rw [h1, List.getElem?_eq_getElem (by rw [Array.length_toList, size_flatK]; exact ht), Array.getElem_toList]
  have h2 := get_flatK Rt.enc 9 d t ht
  rw [getElem!_pos (flatK Rt.enc 9 d) t (by rw [size_flatK]; exact ht)] at h2
  rw [h2, getElem!_pos d (t / 9) (by omega), getElem!_pos _ _ (by rw [Rt.len]; omega)]
  rfl
 ·rw [List.getElem?_eq_none (by rw [Array.length_toList, size_flatK]; omega), List.getElem?_eq_none (by omega)]
theorem Own.holdsK {w : World} {base e g n c : Nat} {xs : List Rt} (h : Own w base e 9 Rt.enc (.slice (some ⟨g, 0, none⟩) n c) xs) : HoldsK Rt.enc 9 w g 0 xs.toArray ∧ g < w.heap.size := by
 have hlt := (World.ownsRow.lt h g rfl).2
 refine ⟨fun t ht => ?_, hlt⟩
 rw [size_flatK] at ht
 simp only [List.size_toArray] at ht
 have hf : (xs.flatMap Rt.enc)[t]? = some ((flatK Rt.enc 9 xs.toArray)[t]!) := by
  have := vdQ xs.toArray
  rw [← this, Array.getElem?_toList, getElem!_pos _ t (by rw [size_flatK]; simpa using ht)]
  exact Array.getElem?_eq_getElem _
 have hc := World.ownsRow.cells (g := g) h rfl t _ hf
 have hadd : (⟨g, 0, none⟩ : Addr).add t = ⟨g, 0 + t, none⟩ := by unfold Addr.add; split <;> simp_all
 rw [hadd] at hc
 refine ⟨hc, ?_⟩
 rcases h.2 with ⟨h2, _⟩ | ⟨g', cap, cur, hv, _, hb, _⟩
 ·cases h2
 ·injection hv with hv; injection hv with hv; injection hv with hv
  subst hv
  simp [World.frozen?, hb]
theorem Own.sorted {w : World} {base e g n c m : Nat} {xs ys : List Rt} {os : Array Obj} (h : Own w base e 9 Rt.enc (.slice (some ⟨g, 0, none⟩) n c) xs) (hy : ys.length = xs.length) :
  Own (sortWorldK Rt.enc 9 w g 0 m ys.toArray os) base e 9 Rt.enc (.slice (some ⟨g, 0, none⟩) n c) ys ∧ Only [g] w (sortWorldK Rt.enc 9 w g 0 m ys.toArray os) := by
 obtain ⟨h0, h2⟩ := h
 have hfs : (flatK Rt.enc 9 ys.toArray).size = ys.length * 9 := by rw [size_flatK]; simp
 have hho : ∀ k, k < w.heap.size → (sortWorldK Rt.enc 9 w g 0 m ys.toArray os).heap[k]? = if g = k then (w.heap[k]?).map (onCells (putCells id 0 (flatK Rt.enc 9 ys.toArray))) else w.heap[k]? := fun k hk => by
  show ((w.heap.modify g (onCells (putCells id 0 (flatK Rt.enc 9 ys.toArray)))) ++ os)[k]? = _
  rw [Array.getElem?_append_left (by simpa using hk), Array.getElem?_modify]
 refine ⟨⟨by rw [vbz Rt.len], ?_⟩, ⟨rfl, rfl, rfl, ?_, fun k hk hn => ?_⟩⟩
 ·rcases h2 with ⟨h3, _⟩ | ⟨g', cap, cur, hv, hg, hb, hc1, hc2, hc3, hc4⟩
  ·cases h3
  ·injection hv with hv1 hv2 hv3
   injection hv1 with hv1
   injection hv1 with hv1
   subst hv1 hv3
   have hlt : g < w.heap.size := (Array.getElem?_eq_some_iff.1 hb).1
   refine .inr ⟨g, c, putCells id 0 (flatK Rt.enc 9 ys.toArray) cur, by rw [hv2, hy], hg, ?_, by omega, hc2, by simp [putCells, hc3], ?_⟩
   ·rw [hho g hlt, if_pos rfl, hb]
    rfl
   ·rw [← vdQ]
    have hle : xs.length ≤ c := by omega
    refine List.ext_getElem? (fun t => ?_)
    by_cases ht : t < ys.length * 9
    ·rw [List.getElem?_take_of_lt ht, Array.getElem?_toList, Array.getElem?_toList]
     unfold putCells
     have q1 : t < cur.size := by omega
     have q2 : t < (flatK Rt.enc 9 ys.toArray).size := by omega
     rw [Array.getElem?_mapIdx, Array.getElem?_eq_getElem q1, Array.getElem?_eq_getElem q2]
     simp only [Option.map_some, hfs]
     rw [if_pos (by omega), getElem!_pos _ _ (by simp; omega)]
     simp
    ·have q1 : (List.take (ys.length * 9) (putCells id 0 (flatK Rt.enc 9 ys.toArray) cur).toList).length ≤ t := by rw [List.length_take]; omega
     have q2 : (flatK Rt.enc 9 ys.toArray).toList.length ≤ t := by rw [Array.length_toList]; omega
     rw [List.getElem?_eq_none q1, List.getElem?_eq_none q2]
 ·show w.heap.size ≤ ((w.heap.modify g _) ++ os).size
  simp
 ·rw [hho k hk, if_neg (fun e => hn (by simp [e]))]
theorem vjd (args : Array Value) (w : World) : (callFunc 85 args).run Tryz.prog w = .ok (.enter 85 args) w := by kernel_rfl
theorem vlh (w : World) : (isAgg 87).run Tryz.prog w = .ok true w := by kernel_rfl
theorem vmZ (w : World) : (Go.sizeOf 87).run Tryz.prog w = .ok 9 w := by kernel_rfl
theorem Rt.one (r : Rt) : ∀ v ∈ r.enc, v.oneCell' = true := by
 intro v hv
 simp only [Rt.enc, List.mem_cons, List.not_mem_nil, or_false] at hv
 rcases hv with h | h | h | h | h | h | h | h | h <;> subst h <;> rfl
def SortP (base g n c : Nat) (L : List Rt) (w : World) (e : Ending) (w' : World) : Prop := e = .returned (.tuple #[]) ∧ Own w' base 87 9 Rt.enc (.slice (some ⟨g, 0, none⟩) n c) L ∧ Only [g] w w'
theorem vje (base g n c : Nat) (xs L : List Rt) (u : UpR L) (hp : xs.Perm L) (hn : L.length ≤ 900000) (w : World) (h : Own w base 87 9 Rt.enc (.slice (some ⟨g, 0, none⟩) n c) xs) :
  Calls Tryz.prog 84 #[.slice (some ⟨g, 0, none⟩) n c, .func (.func 85) #[] #[]] w (SortP base g n c L w) := by
 have hlen := hp.length_eq
 have hsz : xs.toArray.size = n := by
  rcases h.2 with ⟨h2, _⟩ | ⟨g', cap, cur, hv, _⟩
  ·cases h2
  ·injection hv with _ hv; simp [hv]
 obtain ⟨hH, hlt⟩ := h.holdsK
 have hcmp : CmpLays Tryz.prog 85 #[] Rt.enc 9 cfR g 0 xs.toArray.size w := fun m os dk hs x y => by
  refine (vla x y _).mono ?_
  rintro e w' ⟨rfl, hk, hd⟩
  exact ⟨rfl, vho hk hd⟩
 have H := AnyQ.slices_SortFunc Tryz.sortH 9 vlh vmZ Rt.enc Rt.len Rt.one cfR swoR 85 #[] g 0 c xs.toArray w vjd hcmp hH hlt (by have h3 : xs.toArray.size = xs.length := List.size_toArray; omega)
 rw [hsz] at H
 refine Calls.mono H ?_
 rintro e w' ⟨rfl, d', m, os, h1, h2, rfl⟩
 have hd : d'.toList = L := viT u (by simpa using hp) (by rw [hsz]; exact h1) (by rw [hsz]; exact h2)
 have e2 : d' = L.toArray := by rw [← hd]
 subst e2
 exact ⟨rfl, h.sorted (by omega)⟩
end

section
open Go.RowKit Go.Shelf Go.Sort
set_option maxRecDepth 100000 in
theorem vjf (r : Rt) (w : World) : Calls Tryz.prog 41 #[roV r] w fun e w' => e = .returned (.bool true) ∧ Kp w w' := by
 go_enter Tryz.func41, Tryz.ntmps41
 go_wp2_with fail
 go_ret
 exact ⟨rfl, (Kp.refl _).alloc _⟩
set_option maxRecDepth 100000 in
theorem vct (r : Rt) (w : World) : Calls Tryz.prog 43 #[roV r] w fun e w' => e = .returned (.bool r.c) ∧ Kp w w' := by
 go_enter Tryz.func43, Tryz.ntmps43
 go_wp2_with fail
 go_ret
 exact ⟨rfl, (Kp.refl _).alloc _⟩
set_option maxRecDepth 100000 in
theorem vfL (r : Rt) (w : World) : Calls Tryz.prog 67 #[roV r] w fun e w' => e = .returned (.bool (r.s == 2)) ∧ Kp w w' := by
 go_enter Tryz.func67, Tryz.ntmps67
 go_wp2_with fail
 go_ret
 exact ⟨rfl, (Kp.refl _).alloc _⟩
theorem vhv (args : Array Value) (w : World) : (callFunc 41 args).run Tryz.prog w = .ok (.enter 41 args) w := by kernel_rfl
theorem vbM (args : Array Value) (w : World) : (callFunc 43 args).run Tryz.prog w = .ok (.enter 43 args) w := by kernel_rfl
theorem veX (args : Array Value) (w : World) : (callFunc 67 args).run Tryz.prog w = .ok (.enter 67 args) w := by kernel_rfl
def SortV (base : Nat) (v : Value) (L : List Rt) (w : World) (e : Ending) (w' : World) : Prop := e = .returned (.tuple #[]) ∧ Own w' base 87 9 Rt.enc v L ∧ ∃ bs, (∀ b ∈ bs, base ≤ b) ∧ Only bs w w'
theorem vjg (base : Nat) (A : Option Addr) (n c : Nat) (xs L : List Rt) (u : UpR L) (hp : xs.Perm L) (hn : L.length ≤ 900000) (w : World) (h : Own w base 87 9 Rt.enc (.slice A n c) xs) :
  Calls Tryz.prog 84 #[.slice A n c, .func (.func 85) #[] #[]] w (SortV base (.slice A n c) L w) := by
 cases A with
 | none =>
  have h0 : n = 0 ∧ c = 0 := by
   rcases h.2 with ⟨h2, h3⟩ | ⟨g, cap, cur, hv, _⟩
   ·injection h2 with h4 h5 h6; exact ⟨h5, h6⟩
   ·injection hv with hv; cases hv
  obtain ⟨rfl, rfl⟩ := h0
  have hx : xs = [] := by
   obtain ⟨A', c', hv⟩ := h.form
   injection hv with _ hv
   exact List.length_eq_zero_iff.1 hv.symm
  subst hx
  have hL : L = [] := hp.nil_eq.symm
  subst hL
  refine (AnyF.slices_SortFunc_none Tryz.sortH none 0 _ w).mono ?_
  rintro e w' ⟨rfl, rfl⟩
  exact ⟨rfl, h, [], by simp, Only.refl _ _⟩
 | some a =>
  obtain ⟨g, rfl⟩ : ∃ g, a = ⟨g, 0, none⟩ := by
   rcases h.2 with ⟨h2, _⟩ | ⟨g, cap, cur, hv, _⟩
   ·cases h2
   ·injection hv with hv; injection hv with hv; exact ⟨g, hv⟩
  have hg := (World.ownsRow.lt h g rfl).1
  refine (vje base g n c xs L u hp hn w h).mono ?_
  rintro e w' ⟨rfl, h1, h2⟩
  exact ⟨rfl, h1, [g], by simpa using hg, h2⟩
set_option maxRecDepth 100000 in
theorem vbF (B t : Nat) (F : List Nat) (T : Tb) (g : FuncId) (f : Rt → Bool) (eg : ∀ args w, (callFunc g args).run Tryz.prog w = .ok (.enter g args) w)
  (hg : ∀ (r : Rt) (W : World), Calls Tryz.prog g #[roV r] W fun e w' => e = .returned (.bool (f r)) ∧ Kp W w') (w : World) (h : TabM w B t F T) :
  Calls Tryz.prog 40 #[.pointer (some ⟨t, 0, none⟩), .func (.func g) #[] #[]] w (SiftP (T.l.filter f) w) := by
 obtain ⟨q, mp, m, A, QF, l, _, X⟩ := h
 have hm : w.cell? ⟨t, 10, none⟩ = some (.map (some mp)) := X.bk.cell 10
 obtain ⟨o, ho⟩ : ∃ o, w.heap[mp]? = some o := ⟨_, Array.getElem?_eq_getElem X.mr.lt⟩
 have hmr : ∀ V : World, V.heap[mp]? = some o → MapR V mp T.l := fun V hV => X.mr.lie (hV.trans ho.symm)
 have hu := X.u
 have hwf := X.wf
 have hn := X.n
 have hmp := X.mr.lt
 have HO := Lib.hid ho
 have HR := Lib.hid hmr
 have HU := Lib.hid hu
 have HW := Lib.hid hwf
 have HG := Lib.hid hg
 have HE := Lib.hid eg
 clear X ho hmr hu hwf hg eg
 go_enter Tryz.func40, Tryz.ntmps40
 go_upto_region 3 with (first | (go_at_call 56; refine (vah t mp _ hm).mono ?_; rintro e w' ⟨rfl, hw'⟩; rw [hw']; clear hw' w'))
 go_wp2_with fail
 refine (vlb mp w).mono ?_
 rintro e w1 ⟨rfl, hB1, K1⟩
 obtain ⟨mb, hmb⟩ : ∃ mb, w.heap.size = mb := ⟨_, rfl⟩
 rw [hmb] at hB1
 rw [hmb]
 have ho1 : w1.heap[mp]? = some o := (K1.heap hmp).trans HO.out
 have HC := Lib.hid (veW T.l mp mb o HU.out HW.out HR.out hn w1 hB1 ho1)
 obtain ⟨vv, hvv⟩ : ∃ vv, valsV mb = vv := ⟨_, rfl⟩
 rw [hvv] at HC ⊢
 clear ho1 hB1 hmb hvv
 go_wp2_with fail
 refine HC.out.mono ?_
 rintro e w2 ⟨A2, n2, c2, s, rfl, hO2, hP2, K2⟩
 obtain ⟨A', c', hv2, hR2⟩ := hO2.rd (by decide) Rt.len
 injection hv2 with ha2 hn2 hc2
 subst ha2 hn2 hc2
 have hsl : s.length ≤ 900000 := by have := hP2.length_eq; omega
 have HS := Lib.hid (vlc s A2 c2 g f HE.out HG.out w2 hR2 (by omega))
 clear hO2 hR2 HC
 go_wp2_with fail
 refine HS.out.mono ?_
 rintro e w3 ⟨v3, rfl, hO3, K3⟩
 obtain ⟨A3, c3, hv3⟩ := hO3.form
 subst hv3
 have K123 := (K1.trans K2).trans K3
 have hfl := List.length_filter_le f T.l
 have HT := Lib.hid (vjg w2.heap.size A3 (s.filter f).length c3 (s.filter f) (T.l.filter f) (HU.out.filter f) (hP2.filter f) (by omega) w3 hO3)
 have hle2 := (K1.trans K2).size
 clear hO3 HS
 go_wp2_with fail
 refine HT.out.mono ?_
 rintro e w4 ⟨rfl, hO4, bs, hbs, hK4⟩
 have HF := Lib.hid (show SiftP (T.l.filter f) w (.returned (.slice A3 (s.filter f).length c3)) w4 from ⟨_, rfl, hO4.mono hle2, hK4.kp K123 (fun b hb => Nat.le_trans hle2 (hbs b hb))⟩)
 clear hO4 hbs hK4 HT hsl hfl
 go_wp2_with fail
 go_ret
 exact HF.out
end

section
open Go.RowKit
theorem ERtR : ElemOf Tryz.prog 37 48 (.agg #[.int .u32 0, .int .i64 0, .int .i64 0, .int .i64 0, .int .i64 0, .int .i64 0, .int .u32 0, .int .i64 0, .bool false]) 9 72 := ⟨Tryz.underlying37, by kernel_rfl, rfl, by decide⟩
def NewsP (L : List Rt) (w : World) (e : Ending) (w' : World) : Prop := ∃ A c, e = .returned (.slice A L.length c) ∧ Own w' w.heap.size 48 9 Rt.enc (.slice A L.length c) L ∧ Kp w w'
def ChI (w1 : World) (L : List Rt) (i : Nat) (v : Value) (W : World) : Prop := Own W w1.heap.size 48 9 Rt.enc v (L.take i) ∧ Kp w1 W
set_option maxRecDepth 100000 in
theorem vds (B t : Nat) (F : List Nat) (T : Tb) (w : World) (h : TabM w B t F T) : Calls Tryz.prog 13 #[.pointer (some ⟨t, 0, none⟩)] w (NewsP (newsL T.l) w) := by
 have HS := Lib.hid (vbF B t F T 43 (fun r => r.c) vbM vct w h)
 obtain ⟨L, hL⟩ : ∃ L, newsL T.l = L := ⟨_, rfl⟩
 have hlen : L.length ≤ 900000 := by
  obtain ⟨q, mp, m, A, QF, l, _, X⟩ := h
  have h1 := List.length_filter_le (fun r : Rt => r.c) T.l
  have h2 := X.n
  have h3 : L.length = (T.l.filter (fun r => r.c)).length := by rw [← hL]; rfl
  omega
 have HS2 : Hid (Calls Tryz.prog 40 #[.pointer (some ⟨t, 0, none⟩), .func (.func 43) #[] #[]] w (SiftP L w)) := by rw [← hL]; exact HS
 rw [hL]
 clear HS hL h
 go_enter Tryz.func13, Tryz.ntmps13
 go_wp2_with fail
 refine HS2.out.mono ?_
 rintro e w1 ⟨v, rfl, hO, K1⟩
 obtain ⟨A, c, rfl, hR⟩ := hO.rd (by decide) Rt.len
 have HR := Lib.hid hR
 have hsz1 := K1.size
 have R0 : Hid (ChI w1 L 0 (.slice none 0 0) w1) := Lib.hid ⟨by rw [List.take_zero]; exact Own.nil _ _ _ _ _, Kp.refl _⟩
 clear hO hR HS2
 go_wp2_with fail
 go_loopw [3, 9] (fun v k wr => ∃ i : Nat, i ≤ L.length ∧ k = .int .i64 i ∧ Hid (ChI w1 L i v wr)) (fun _ k _ => L.length - (intOf k).toNat)
 case atStart => exact ⟨0, Nat.zero_le _, rfl, R0⟩
 case round =>
  obtain ⟨i, hi, rfl, R⟩ := hrel
  obtain ⟨A2, c2, hv⟩ := R.out.1.form
  subst hv
  by_cases hlt : i < L.length
  ·have hgi : (i : Int) < (L.length : Int) := by omega
   have hg0 : (0 : Int) ≤ (i : Int) := by omega
   obtain ⟨b, off, hA, s0, s1, s2, s3, s4, s5, s6, s7, s8⟩ := vaU (HR.out.keep R.out.2) hlt
   subst hA
   have HN := Lib.hid (List.take_succ_eq_append_getElem hlt)
   obtain ⟨r, hr⟩ : ∃ r, L[i] = r := ⟨_, rfl⟩
   have Hr := Lib.hid hr
   rw [hr] at s0 s1 s2 s3 s4 s5 s6 s7 s8
   have HL := Lib.hid (show (L.take i).length = i by rw [List.length_take]; omega)
   obtain ⟨V, hV, bV, kV⟩ : ∃ V, wr.alloc (.cells (roC r) 87) = V ∧ Blk V wr.heap.size 87 (roC r) ∧ Kp wr V := ⟨_, rfl, Blk.new _ _ _, (Kp.refl _).alloc _⟩
   obtain ⟨n, hn0⟩ : ∃ n, wr.heap.size = n := ⟨_, rfl⟩
   rw [hn0] at bV
   have r0 := Blk.f bV rfl
   unfold roC at hV
   have o1 := R.out.1.keep kV
   rw [HL.out] at o1
   have k1 := R.out.2.trans kV
   have sz1 := k1.size
   clear hr bV
   rw [HL.out]
   go_wp2_with (at_builtin; go_must (refine vau ERtR rfl _ _ rfl r rfl o1 k1 (Nat.le_refl _) sz1 rfl rfl rfl rfl rfl (by have := HL.out; omega) ?_); intro v3 w3 hown3 hK3 hg3; obtain ⟨A3, c3, hv3⟩ := hown3.form1; rw [HL.out] at hv3; subst hv3)
   have R1 : Hid (ChI w1 L (i + 1) (.slice A3 (i + 1) c3) w3) := Lib.hid ⟨by rw [HN.out, Hr.out]; exact hown3, hK3⟩
   clear hown3 hK3 hg3 o1
   go_wp2_with fail
   go_roundw
   case rel => exact ⟨i + 1, by omega, by go_num, R1⟩
   case measure => simp [intOf]; omega
  ·obtain rfl : i = L.length := by omega
   have hlast := R.out
   unfold ChI at hlast
   rw [List.take_length] at hlast
   have HE := Lib.hid hlast
   clear hlast
   rw [List.take_length]
   go_wp2_with fail
   go_ret
   exact ⟨_, _, rfl, HE.out.1.mono hsz1, K1.trans HE.out.2⟩
theorem vgs {l : Nat} {J : Act → World → Prop} {Q : Exit → Act → World → Prop} {a : Act} {w : World} (h : Q .normal a w) : Exit.jump l J Q .normal a w := h
def allV (bx : Nat) : Value := .func (.func 42) #[] #[.pointer (some ⟨bx, 0, none⟩)]
structure AllM (bx : Nat) (A : Option Addr) (c : Nat) (L : List Rt) (W : World) : Prop where
 bx : Blk W bx 83 #[.slice A L.length c]
 rd : Rd W 9 Rt.enc A L
def AllP (L : List Rt) (w : World) (e : Ending) (w' : World) : Prop := ∃ bx A c, e = .returned (allV bx) ∧ AllM bx A c L w' ∧ Kp w w' ∧ w.heap.size ≤ bx ∧ ∀ a, A = some a → w.heap.size ≤ a.block ∧ a.block < bx
theorem AllM.only {bx : Nat} {A : Option Addr} {c : Nat} {L : List Rt} {w w' : World} {bs : List Nat} (h : AllM bx A c L w) (k : Only bs w w') (hb : bx ∉ bs) (hA : ∀ a, A = some a → a.block ∉ bs) : AllM bx A c L w' :=
 ⟨h.bx.only k hb, fun i hi => by
  obtain ⟨b, off, e, hc⟩ := h.rd i hi
  exact ⟨b, off, e, fun j u hu => k.cell (hc j u hu) (show b ∉ bs from hA ⟨b, off, none⟩ e)⟩⟩
theorem AllM.keep {bx : Nat} {A : Option Addr} {c : Nat} {L : List Rt} {w w' : World} (h : AllM bx A c L w) (k : Kp w w') : AllM bx A c L w' := ⟨h.bx.keep k, h.rd.keep k⟩
theorem vgt {w : World} {B n c : Nat} {A : Option Addr} {rs : List Rt} (h : Own w B 87 9 Rt.enc (.slice A n c) rs) : ∀ a, A = some a → B ≤ a.block ∧ a.block < w.heap.size := by
 rintro a rfl
 exact World.ownsRow.lt h a.block rfl
set_option maxRecDepth 100000 in
theorem vna (B t : Nat) (F : List Nat) (T : Tb) (w : World) (h : TabM w B t F T) : Calls Tryz.prog 12 #[.pointer (some ⟨t, 0, none⟩)] w (AllP T.l w) := by
 have HS := vbF B t F T 41 (fun _ => true) vhv vjf w h
 rw [List.filter_eq_self.2 (fun _ _ => rfl)] at HS
 have HS2 := Lib.hid HS
 clear HS h
 have hmf := vcp
 obtain ⟨L, hL⟩ : ∃ L, T.l = L := ⟨_, rfl⟩
 rw [hL] at HS2 ⊢
 clear hL
 go_enter Tryz.func12, Tryz.ntmps12
 go_wp2_with fail
 refine HS2.out.mono ?_
 rintro e w1 ⟨v, rfl, hO, K1⟩
 obtain ⟨A, c, rfl, hR⟩ := hO.rd (by decide) Rt.len
 have hAl := Lib.hid (vgt hO)
 have HR := Lib.hid hR
 have hs := K1.size
 clear hO hR HS2
 go_wp2_with fail
 go_ret
 exact ⟨w1.heap.size, A, c, rfl, ⟨Blk.new w1 _ _, HR.out.keep ((Kp.refl _).alloc _)⟩, K1.alloc _, hs, hAl.out⟩
theorem vjh (args : Array Value) (w : World) : (callFunc 42 args).run Tryz.prog w = .ok (.enter 42 args) w := by kernel_rfl
def rtAt (L : List Rt) (k : Nat) : Rt := L.getD k zeroR
theorem vji {L : List Rt} {k : Nat} (h : k < L.length) : rtAt L k = L[k] := by simp [rtAt, List.getD, h]
set_option maxRecDepth 100000 in
theorem vjj (bx : Nat) (A : Option Addr) (c : Nat) (L : List Rt) (hn : L.length ≤ 900000) :
  Iter Tryz.prog 42 #[.pointer (some ⟨bx, 0, none⟩)] L.length (fun k => #[.int .i64 (k : Nat), roV (rtAt L k)]) (AllM bx A c L) := by
 intro l I Z W hI hZ hM hy h0
 have HI := Lib.hid hI
 have HM := Lib.hid hM
 have HY := Lib.hid hy
 have D0 := HM.out 0 W h0
 have c0 : W.cell? ⟨bx, 0, none⟩ = some (.slice A L.length c) := D0.bx.cell 0
 have H0 := Lib.hid h0
 clear hI hZ hM hy h0 D0
 go_enter Tryz.func42, Tryz.ntmps42
 go_wp2_with fail
 refine van 0 rfl ?_
 go_wp2_with fail
 refine wp_label ?_
 go_wp2_with fail
 clear c0
 go_loopw [7] (fun i wr => ∃ k : Nat, k ≤ L.length ∧ i = .int .i64 k ∧ Hid (I k wr)) (fun i _ => L.length - (intOf i).toNat)
 case atStart => exact ⟨0, Nat.zero_le _, rfl, H0⟩
 case round =>
  obtain ⟨k, hk, rfl, hi⟩ := hrel
  by_cases hlt : k < L.length
  ·have hgi : (k : Int) < (L.length : Int) := by omega
   have hg0 : (0 : Int) ≤ (k : Int) := by omega
   have D := HM.out k wr hi.out
   obtain ⟨b, off, hA, s0, s1, s2, s3, s4, s5, s6, s7, s8⟩ := vaU D.rd hlt
   subst hA
   obtain ⟨r, hr⟩ : ∃ r, L[k] = r := ⟨_, rfl⟩
   rw [hr] at s0 s1 s2 s3 s4 s5 s6 s7 s8
   have Hr := Lib.hid (show rtAt L k = r by rw [vji hlt, hr])
   obtain ⟨V, hV, bV, kV⟩ : ∃ V, wr.alloc (.cells (roC r) 87) = V ∧ Blk V wr.heap.size 87 (roC r) ∧ Kp wr V := ⟨_, rfl, Blk.new _ _ _, (Kp.refl _).alloc _⟩
   obtain ⟨n, hn0⟩ : ∃ n, wr.heap.size = n := ⟨_, rfl⟩
   rw [hn0] at bV
   have r0 := Blk.f bV rfl
   unfold roC at hV
   obtain ⟨fn, tmps, asg, bd, hrun, hround⟩ := HY.out k V hlt (HI.out k _ _ hi.out kV)
   rw [Hr.out] at hrun
   have HRN := Lib.hid hrun
   have HRO := Lib.hid hround
   clear hrun hround hr D kV bV
   go_upto_region 3 with (fail)
   refine (wpIn_wide (n := 0)).1 ?_
   gi_wp2_with fail
   rw [HRN.out, Oper.uponIn_round]
   refine ⟨(fun h => by cases h), HRO.out.mono ?_⟩
   clear s0 s1 s2 s3 s4 s5 s6 s7 s8 r0 hV
   rintro e W' (⟨rfl, hi2⟩ | ⟨rfl, hz⟩)
   ·have Hi2 := Lib.hid hi2; clear hi2
    gi_wp2_with fail
    go_wp2_with fail
    go_roundw
    case rel => exact ⟨k + 1, by omega, by go_num, Hi2⟩
    case measure => simp [intOf]; omega
   ·have Hz := Lib.hid hz; clear hz
    gi_wp2_with fail
    go_wp2_with fail
    refine vgs ?_
    go_end0
    exact ⟨rfl, .inr ⟨k + 1, by omega, by omega, Hz.out⟩⟩
  ·obtain rfl : k = L.length := by omega
   go_wp2_with fail
   refine vgs ?_
   go_end0
   exact ⟨rfl, .inl hi.out⟩
end

end Go.Proofs.YtffckpkikdlbpaaGreatDoor
