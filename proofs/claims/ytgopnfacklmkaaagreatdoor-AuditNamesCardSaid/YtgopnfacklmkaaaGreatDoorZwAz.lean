/- Lemmas and contracts for the theorem of this claim: AuC, AuD, AuE. -/
import Derived.Test.YtgopnfacklmkaaaGreatDoorZwAy
set_option linter.all false
set_option maxHeartbeats 16000000
namespace Go.Proofs.YtgopnfacklmkaaaGreatDoor
section
open Go.RowKit Go.Maps
def ruB (T : Tb) (fc c er : Int) (es : List En) : Nat → Bool
 | 0 => er != 0
 | 1 => (!respB c er) && (!asksB c es)
 | 2 => respB c er && ((es.length : Int) == 0)
 | 3 => respB c er && es.any badE
 | 4 => respB c er && es.any (unpE T fc)
 | _ => respB c er && es.any (unlE T fc)
def fltG (g : Nat → Bool) : Int := if g 0 then 1 else if g 1 then 2 else if g 2 then 3 else if g 3 then 4 else if g 4 then 5 else if g 5 then 6 else 0
theorem vkQ {g : Nat → Bool} {i : Nat} (hi : i < 6) (h : ∀ j < i, g j = false) (ht : g i = true) : fltG g = (i : Int) + 1 := by
 unfold fltG
 have hc : i = 0 ∨ i = 1 ∨ i = 2 ∨ i = 3 ∨ i = 4 ∨ i = 5 := by omega
 rcases hc with rfl | rfl | rfl | rfl | rfl | rfl
 ·simp [ht]
 ·simp [ht, h 0 (by omega)]
 ·simp [ht, h 0 (by omega), h 1 (by omega)]
 ·simp [ht, h 0 (by omega), h 1 (by omega), h 2 (by omega)]
 ·simp [ht, h 0 (by omega), h 1 (by omega), h 2 (by omega), h 3 (by omega)]
 ·simp [ht, h 0 (by omega), h 1 (by omega), h 2 (by omega), h 3 (by omega), h 4 (by omega)]
theorem vkR {g : Nat → Bool} (h : ∀ j < 6, g j = false) : fltG g = 0 := by
 simp [fltG, h 0 (by omega), h 1 (by omega), h 2 (by omega), h 3 (by omega), h 4 (by omega), h 5 (by omega)]
set_option maxRecDepth 100000 in
theorem viP (B t : Nat) (F : List Nat) (T : Tb) (fc : Int) (w : World) (hT : TabM w B t F T) (hn : T.c.own.length ≤ 1000000) : Calls Tryz.prog 92 #[lkP t, .int .i64 fc] w fun r w' => ∃ k, r = .returned (lkP k) ∧ w.heap.size ≤ k ∧ LkM w' k t fc 0 none 0 [] 0 ∧ Kp w w' := by
 have HC := Lib.hid (vgY B t F T w hT hn)
 clear hT
 go_enter Tryz.func92, Tryz.ntmps92
 go_wp2_with fail
 refine HC.out.mono ?_
 rintro r w1 ⟨t2, F2, rfl, _, K1⟩
 have HK := Lib.hid K1
 clear K1
 go_wp2_with fail
 go_ret
 exact ⟨_, rfl, HK.out.size, ⟨Blk.new _ _ _, Rd.nil _ _ _ _⟩, HK.out.alloc _⟩
set_option maxRecDepth 100000 in
theorem viC (k : Nat) (A : Option Addr) (m : Nat) (es : List En) (g : FuncId) (f : En → Bool) (eg : ∀ args w, (callFunc g args).run Tryz.prog w = .ok (.enter g args) w) (w : World)
  (hg : ∀ (e : En) (W : World), e.wf → Kp w W → Calls Tryz.prog g #[lkP k, enV e] W fun r w' => r = .returned (.bool (f e)) ∧ Kp W w') (hR : Rd w 6 En.enc A es) (hw : ∀ e ∈ es, e.wf) (hn : es.length ≤ 1000000) :
  Calls Tryz.prog 315 #[.slice A es.length m, .func (.func g) #[lkP k] #[]] w fun r w' => ∃ n : Int, r = .returned (.int .i64 n) ∧ decide (0 ≤ n) = es.any f ∧ Kp w w' := by
 have HG := Lib.hid hg
 have HR := Lib.hid hR
 have HF := Lib.hid hw
 clear hg hR hw
 go_enter Tryz.func315, Tryz.ntmps315
 go_wp2_with fail
 go_loopw [5, 8] (fun _ i wr => ∃ j : Nat, j ≤ es.length ∧ i = .int .i64 j ∧ Hid ((es.take j).any f = false) ∧ Kp w wr) (fun _ i _ => es.length - (intOf i).toNat)
 case atStart => exact ⟨0, Nat.zero_le _, rfl, rfl, Kp.refl _⟩
 case round =>
  obtain ⟨j, hk, rfl, hall, hK⟩ := hrel
  by_cases hlt : j < es.length
  ·have hki : (j : Int) < (es.length : Int) := by omega
   have hk0 : (0 : Int) ≤ (j : Int) := by omega
   obtain ⟨b, off, hA, x0, x1, x2, x3, x4, x5⟩ := en_at (HR.out.keep hK) hlt
   subst hA
   obtain ⟨e, he⟩ : ∃ e, es[j] = e := ⟨_, rfl⟩
   rw [he] at x0 x1 x2 x3 x4 x5
   have hc := HG.out e wr (show e.wf by rw [← he]; exact HF.out _ (List.getElem_mem hlt)) hK
   have HT : Hid ((es.take (j + 1)).any f = f e) := Lib.hid (by rw [List.take_succ_eq_append_getElem hlt, List.any_append, hall.out, he]; simp)
   have HT2 : Hid (f e = true → es.any f = true) := Lib.hid (fun h => List.any_eq_true.2 ⟨_, List.getElem_mem hlt, by rw [he]; exact h⟩)
   clear he
   cases ho : f e
   all_goals
    rw [ho] at hc
    have HC := Lib.hid hc
    clear hc
    go_wp2_with fail
    refine HC.out.mono ?_
    rintro r w3 ⟨rfl, K3⟩
    clear x0 x1 x2 x3 x4 x5
    go_wp2_with fail
   ·go_roundw
    case rel => exact ⟨j + 1, by omega, by go_num, Lib.hid (by rw [HT.out]; exact ho), hK.trans K3⟩
    case measure => simp [intOf]; omega
   ·go_ret
    exact ⟨j, rfl, by rw [HT2.out ho]; simp, hK.trans K3⟩
  ·obtain rfl : j = es.length := by omega
   have HT : Hid (es.any f = false) := Lib.hid (by have := hall.out; rwa [List.take_length] at this)
   go_wp2_with fail
   go_ret
   exact ⟨-1, rfl, by rw [HT.out]; rfl, hK⟩
set_option maxRecDepth 100000 in
theorem viD (k : Nat) (A : Option Addr) (m : Nat) (es : List En) (g : FuncId) (f : En → Bool) (eg : ∀ args w, (callFunc g args).run Tryz.prog w = .ok (.enter g args) w) (w : World)
  (hg : ∀ (e : En) (W : World), e.wf → Kp w W → Calls Tryz.prog g #[lkP k, enV e] W fun r w' => r = .returned (.bool (f e)) ∧ Kp W w') (hR : Rd w 6 En.enc A es) (hw : ∀ e ∈ es, e.wf) (hn : es.length ≤ 1000000) :
  Calls Tryz.prog 285 #[.slice A es.length m, .func (.func g) #[lkP k] #[]] w fun r w' => r = .returned (.bool (es.any f)) ∧ Kp w w' := by
 have HX := Lib.hid (viC k A m es g f eg w hg hR hw hn)
 clear hg hR hw eg
 go_enter Tryz.func285, Tryz.ntmps285
 go_wp2_with fail
 refine HX.out.mono ?_
 rintro r w1 ⟨n, rfl, h, K⟩
 have H := Lib.hid h
 clear h
 go_wp2_with fail
 go_ret
 exact ⟨by rw [← H.out]; rfl, K⟩
section
variable (k t : Nat) (fc c er : Int) (A : Option Addr) (m : Nat) (es : List En)
set_option maxRecDepth 100000 in
theorem vcs (g : FuncId) (f : En → Bool) (eg : ∀ args w, (callFunc g args).run Tryz.prog w = .ok (.enter g args) w) (w : World) (h : LkM w k t fc c A m es er)
  (hg : ∀ (e : En) (W : World), e.wf → Kp w W → Calls Tryz.prog g #[lkP k, enV e] W fun r w' => r = .returned (.bool (f e)) ∧ Kp W w') (hw : ∀ e ∈ es, e.wf) (hn : es.length ≤ 1000000) :
  Calls Tryz.prog 221 #[lkP k, .func (.func g) #[lkP k] #[]] w fun r w' => r = .returned (.bool (respB c er && es.any f)) ∧ Kp w w' := by
 have HR := Lib.hid (vbs k t fc c er A m es w h)
 have HX := Lib.hid (viD k A m es g f eg w hg h.rd hw hn)
 have u := Blk.f h.bk rfl
 clear hg hw eg h
 cases hr : respB c er
 all_goals
  rw [hr] at HR
  go_enter Tryz.func221, Tryz.ntmps221
  go_wp2_with (first | (go_at_call 95; refine HR.out.mono ?_; rintro r w1 ⟨rfl, hw1⟩; rw [hw1]; clear hw1 w1) | (go_at_call 285; refine HX.out.mono ?_; rintro r w1 ⟨rfl, K⟩; clear u))
  go_ret
  first
   | exact ⟨rfl, Kp.refl _⟩
   | exact ⟨rfl, K⟩
theorem vgZ (args : Array Value) (w : World) : (callFunc 222 args).run Tryz.prog w = .ok (.enter 222 args) w := by kernel_rfl
theorem vha (args : Array Value) (w : World) : (callFunc 224 args).run Tryz.prog w = .ok (.enter 224 args) w := by kernel_rfl
theorem vhb (args : Array Value) (w : World) : (callFunc 226 args).run Tryz.prog w = .ok (.enter 226 args) w := by kernel_rfl
def RuleP (b : Bool) (w : World) (r : Ending) (w' : World) : Prop := r = .returned (.bool b) ∧ Kp w w'
set_option maxRecDepth 100000 in
theorem vhc (w : World) (h : LkM w k t fc c A m es er) : Calls Tryz.prog 217 #[lkP k] w (RuleP (er != 0) w) := by
 have u := Blk.f h.bk rfl
 clear h
 go_enter Tryz.func217, Tryz.ntmps217
 go_wp2_with fail
 go_ret
 exact ⟨rfl, Kp.refl _⟩
set_option maxRecDepth 100000 in
theorem vhd (w : World) (h : LkM w k t fc c A m es er) (hn : es.length ≤ 1000000) : Calls Tryz.prog 218 #[lkP k] w (RuleP ((!respB c er) && (!asksB c es)) w) := by
 have HR := Lib.hid (vbs k t fc c er A m es w h)
 have HX := Lib.hid (vhC c A m es w h.rd hn)
 have u := Blk.f h.bk rfl
 clear h
 cases hr : respB c er
 all_goals
  rw [hr] at HR
  go_enter Tryz.func218, Tryz.ntmps218
  go_wp2_with (first | (go_at_call 95; refine HR.out.mono ?_; rintro r w1 ⟨rfl, hw1⟩; rw [hw1]; clear hw1 w1) | (go_at_call 46; refine HX.out.mono ?_; rintro r w1 ⟨rfl, K⟩; clear u))
  go_ret
  first
   | exact ⟨rfl, Kp.refl _⟩
   | exact ⟨rfl, K⟩
set_option maxRecDepth 100000 in
theorem vhe (w : World) (h : LkM w k t fc c A m es er) : Calls Tryz.prog 219 #[lkP k] w (RuleP (respB c er && ((es.length : Int) == 0)) w) := by
 have HR := Lib.hid (vbs k t fc c er A m es w h)
 have u := Blk.f h.bk rfl
 clear h
 cases hr : respB c er
 all_goals
  rw [hr] at HR
  go_enter Tryz.func219, Tryz.ntmps219
  go_wp2_with (first | (go_at_call 95; refine HR.out.mono ?_; rintro r w1 ⟨rfl, hw1⟩; rw [hw1]; clear hw1 w1))
  go_ret
  exact ⟨rfl, Kp.refl _⟩
variable (hw : ∀ e ∈ es, e.wf) (hn : es.length ≤ 1000000)
include hw hn
set_option maxRecDepth 100000 in
theorem vhf (w : World) (h : LkM w k t fc c A m es er) : Calls Tryz.prog 220 #[lkP k] w (RuleP (respB c er && es.any badE) w) := by
 have HX := Lib.hid (vcs k t fc c er A m es 222 badE vgZ w h (fun e W he _ => vkf k e W he) hw hn)
 clear h hw
 go_enter Tryz.func220, Tryz.ntmps220
 go_wp2_with fail
 refine HX.out.mono ?_
 rintro r w1 ⟨rfl, K⟩
 go_wp2_with fail
 go_ret
 exact ⟨rfl, K⟩
variable (B : Nat) (F : List Nat) (T : Tb)
set_option maxRecDepth 100000 in
theorem vhg (w : World) (h : LkM w k t fc c A m es er) (hT : TabM w B t F T) : Calls Tryz.prog 223 #[lkP k] w (RuleP (respB c er && es.any (unpE T fc)) w) := by
 have HX := Lib.hid (vcs k t fc c er A m es 224 (unpE T fc) vha w h (fun e W he hk => vkg k t fc c er A m es B F T e W (h.keep hk) (hT.keep hk) he) hw hn)
 clear h hT hw
 go_enter Tryz.func223, Tryz.ntmps223
 go_wp2_with fail
 refine HX.out.mono ?_
 rintro r w1 ⟨rfl, K⟩
 go_wp2_with fail
 go_ret
 exact ⟨rfl, K⟩
set_option maxRecDepth 100000 in
theorem vhh (w : World) (h : LkM w k t fc c A m es er) (hT : TabM w B t F T) : Calls Tryz.prog 225 #[lkP k] w (RuleP (respB c er && es.any (unlE T fc)) w) := by
 have HX := Lib.hid (vcs k t fc c er A m es 226 (unlE T fc) vhb w h (fun e W he hk => vkh k t fc c er A m es B F T e W (h.keep hk) (hT.keep hk) he) hw hn)
 clear h hT hw
 go_enter Tryz.func225, Tryz.ntmps225
 go_wp2_with fail
 refine HX.out.mono ?_
 rintro r w1 ⟨rfl, K⟩
 go_wp2_with fail
 go_ret
 exact ⟨rfl, K⟩
end
abbrev fnV (f : FuncId) : Value := .func (.func f) #[] #[]
def rowRu : List Value := [.int .i64 1, fnV 217, .int .i64 2, fnV 218, .int .i64 3, fnV 219, .int .i64 4, fnV 220, .int .i64 5, fnV 223, .int .i64 6, fnV 225]
set_option maxRecDepth 100000 in
theorem vfw (w : World) : Calls Tryz.prog 158 #[] w fun r w' => ∃ b, r = .returned (.slice (some ⟨b, 0, none⟩) 6 6) ∧ Blk w' b 279 rowRu.toArray ∧ Kp w w' := by
 go_enter Tryz.func158, Tryz.ntmps158
 go_wp2_with fail
 go_ret
 exact ⟨_, rfl, Blk.new _ _ _, (Kp.refl _).alloc _⟩
end

section
open Go.RowKit Go.Maps
theorem dec_n (l : List Nat) (h : l.length ≤ 1000000) : (decD l).2.1.length ≤ 1000000 := by
 unfold decD
 split
 ·simp only [vay]; omega
 ·simp
theorem viQ (l : List Nat) : ∀ e ∈ (decD l).2.1, e.wf := by
 unfold decD
 split
 ·intro e he
  obtain ⟨i, hi, rfl⟩ := List.mem_iff_getElem.1 he
  rw [vca]
  exact vfB _
 ·simp
def aruF : Nat → FuncId
 | 0 => 217
 | 1 => 218
 | 2 => 219
 | 3 => 220
 | 4 => 223
 | _ => 225
theorem vkS {w : World} {b : Nat} {ty : TypeId} (h : Blk w b ty rowRu.toArray) {j : Nat} (hj : j < 6) : w.cell? ⟨b, j * 2, none⟩ = some (.int .i64 ((j : Int) + 1)) ∧ w.cell? ⟨b, j * 2 + 1, none⟩ = some (fnV (aruF j)) := by
 have hc : j = 0 ∨ j = 1 ∨ j = 2 ∨ j = 3 ∨ j = 4 ∨ j = 5 := by omega
 rcases hc with rfl | rfl | rfl | rfl | rfl | rfl <;> exact ⟨h.cell _, h.cell _⟩
theorem vhi : ∀ j, j < 6 → ∀ (args : Array Value) (w : World), (callFunc (aruF j) args).run Tryz.prog w = .ok (.enter (aruF j) args) w
 | 0, _ => fun _ _ => by kernel_rfl
 | 1, _ => fun _ _ => by kernel_rfl
 | 2, _ => fun _ _ => by kernel_rfl
 | 3, _ => fun _ _ => by kernel_rfl
 | 4, _ => fun _ _ => by kernel_rfl
 | 5, _ => fun _ _ => by kernel_rfl
 | k + 6, h => by omega
section
variable (k t : Nat) (fc c er : Int) (A : Option Addr) (m : Nat) (es : List En) (B : Nat) (F : List Nat) (T : Tb)
theorem vkt {j : Nat} (hj : j < 6) (w : World) (h : LkM w k t fc c A m es er) (hT : TabM w B t F T) (hw : ∀ e ∈ es, e.wf) (hn : es.length ≤ 1000000) : Calls Tryz.prog (aruF j) #[lkP k] w (RuleP (ruB T fc c er es j) w) := by
 have hc : j = 0 ∨ j = 1 ∨ j = 2 ∨ j = 3 ∨ j = 4 ∨ j = 5 := by omega
 rcases hc with rfl | rfl | rfl | rfl | rfl | rfl
 ·exact vhc k t fc c er A m es w h
 ·exact vhd k t fc c er A m es w h hn
 ·exact vhe k t fc c er A m es w h
 ·exact vhf k t fc c er A m es hw hn w h
 ·exact vhg k t fc c er A m es hw hn B F T w h hT
 ·exact vhh k t fc c er A m es hw hn B F T w h hT
set_option maxRecDepth 100000 in
theorem vdL (Ab : Option Addr) (cb : Nat) (l : List Nat) (w : World) (h : LkM w k t fc c A m es er) (hT : TabM w B t F T) (hk : k ∉ F) (hB : ByS w Ab cb l) :
  Calls Tryz.prog 93 #[lkP k, .slice Ab l.length cb] w fun r w' => ∃ A2 m2, r = .returned (.int .i64 (fltG (ruB T fc (decD l).1 (decD l).2.2 (decD l).2.1))) ∧ LkM w' k t fc (decD l).1 A2 m2 (decD l).2.1 (decD l).2.2 ∧ Only [k] w w' := by
 have HD := Lib.hid (vcF Ab cb l w hB)
 unfold DecP at HD
 have HN := Lib.hid (dec_n l hB.n)
 have HWF := Lib.hid (viQ l)
 obtain ⟨c2, hc2⟩ : ∃ x, (decD l).1 = x := ⟨_, rfl⟩
 obtain ⟨es2, hes2⟩ : ∃ x, (decD l).2.1 = x := ⟨_, rfl⟩
 obtain ⟨e2, he2⟩ : ∃ x, (decD l).2.2 = x := ⟨_, rfl⟩
 rw [hes2] at HN HWF
 rw [hc2, hes2, he2] at HD
 rw [hc2, hes2, he2]
 clear hc2 hes2 he2
 have HH := Lib.hid h
 have HTT := Lib.hid hT
 have hkl := h.bk.lt
 clear h hT hB
 obtain ⟨G, hG⟩ : ∃ G, ruB T fc c2 e2 es2 = G := ⟨_, rfl⟩
 rw [hG]
 go_enter Tryz.func93, Tryz.ntmps93
 go_wp2_with fail
 refine HD.out.mono ?_
 rintro r w1 ⟨A2, m2, rfl, hR2, hA2, K1⟩
 have h1 := HH.out.bk.keep K1
 have y := Blk.f h1 rfl
 have f := Blk.frozen h1
 obtain ⟨W1, hW1, B1, O1⟩ : ∃ R, ((w1.setCell ⟨k, 2, none⟩ (.int .i64 c2)).setCell ⟨k, 3, none⟩ (.slice A2 es2.length m2)).setCell ⟨k, 4, none⟩ (.int .i64 e2) = R ∧ Blk R k 274 #[.pointer (some ⟨t, 0, none⟩), .int .i64 fc, .int .i64 c2, .slice A2 es2.length m2, .int .i64 e2] ∧ Only [k] w1 R :=
  ⟨_, rfl, ((h1.set_ 2 _).set_ 3 _).set_ 4 _, (((Only.refl [k] w1).setCell (p := ⟨k, 2, none⟩) (.inl (by simp)) _).setCell (p := ⟨k, 3, none⟩) (.inl (by simp)) _).setCell (p := ⟨k, 4, none⟩) (.inl (by simp)) _⟩
 have HL1 : Hid (LkM W1 k t fc c2 A2 m2 es2 e2) := Lib.hid ⟨B1, hR2.onlyB O1 (fun a e => by have := hA2 a e; simp only [List.mem_cons, List.not_mem_nil, or_false]; omega)⟩
 have HT1 : Hid (TabM W1 B t F T) := Lib.hid ((HTT.out.keep K1).turn O1 (fun b hb => by
  simp only [List.mem_cons, List.not_mem_nil, or_false] at hb
  subst hb
  exact ⟨hk, _, _, h1, by decide⟩))
 have HO1 : Hid (Only [k] w W1) := Lib.hid ((Only.of_kp K1).trans O1)
 clear h1 B1 O1 hR2 hA2 K1
 go_wp2_with (first | (go_at_call 158; refine (vfw _).mono ?_; rintro r w2 ⟨b, rfl, hb2, K2⟩))
 have HB2 := Lib.hid hb2
 have HK2 := Lib.hid K2
 have HRU : Hid (∀ j < 6, ∀ V, Kp W1 V → Calls Tryz.prog (aruF j) #[lkP k] V (RuleP (G j) V)) := Lib.hid (fun j hj V hV => by
  rw [← hG]
  exact vkt k t fc c2 e2 A2 m2 es2 B F T hj V (HL1.out.keep hV) (HT1.out.keep hV) HWF.out HN.out)
 clear hb2 K2 y f hG hW1
 go_loopw [20] (fun i wr => ∃ j : Nat, j ≤ 6 ∧ i = .int .i64 j ∧ Hid (∀ q < j, G q = false) ∧ Kp w2 wr) (fun i _ => 6 - (intOf i).toNat)
 case atStart => exact ⟨0, Nat.zero_le _, rfl, fun q hq => absurd hq (Nat.not_lt_zero _), Kp.refl _⟩
 case round =>
  obtain ⟨j, hj, rfl, hg, hK⟩ := hrel
  by_cases hlt : j < 6
  ·have hj1 : (j : Int) < 6 := by omega
   have hj0 : (0 : Int) ≤ (j : Int) := by omega
   obtain ⟨x0, x1⟩ := vkS (HB2.out.keep hK) hlt
   obtain ⟨V, hV, kV, BV⟩ := Blk.al1 (w := wr) rfl #[.int .i64 ((j : Int) + 1), fnV (aruF j)] 279
   have hc := HRU.out j hlt V (HK2.out.trans (hK.trans kV))
   have eg := vhi j hlt
   obtain ⟨g, hgg⟩ : ∃ g, aruF j = g := ⟨_, rfl⟩
   rw [hgg] at x1 hc BV hV
   simp only [hgg] at eg
   have y := Blk.f BV rfl
   have HBV := Lib.hid BV
   clear hgg BV
   obtain ⟨G1, hG1⟩ : ∃ x, G j = x := ⟨_, rfl⟩
   rw [hG1] at hc
   have HC := Lib.hid hc
   have HG1 := Lib.hid hG1
   clear hc hG1
   cases G1
   all_goals
    go_wp2_with fail
    refine HC.out.mono ?_
    rintro r w3 ⟨rfl, K3⟩
    have y3 := Blk.f (HBV.out.keep K3) rfl
    have HK3 := Lib.hid (hK.trans (kV.trans K3))
    clear x0 x1 y hV K3
    go_wp2_with fail
   ·go_roundw
    case rel => exact ⟨j + 1, by omega, by go_num, Lib.hid (fun q hq => by
     by_cases hq2 : q = j
     ·subst hq2; exact HG1.out
     ·exact hg.out q (by omega)), HK3.out⟩
    case measure => simp [intOf]; omega
   ·go_ret
    exact ⟨A2, m2, by rw [vkQ hlt hg.out HG1.out]; rfl, HL1.out.keep (HK2.out.trans HK3.out), HO1.out.trans (Only.of_kp (HK2.out.trans HK3.out))⟩
  ·obtain rfl : j = 6 := by omega
   go_wp2_with fail
   go_ret
   exact ⟨A2, m2, by rw [vkR hg.out]; rfl, HL1.out.keep (HK2.out.trans hK), HO1.out.trans (Only.of_kp (HK2.out.trans hK))⟩
end
theorem vhj (w : World) : (Instr.typeAssert .nilIface 20 183 true).run Tryz.prog w = .ok (.tuple #[.agg #[.int .i64 0], .bool false]) w := by kernel_rfl
set_option maxRecDepth 100000 in
theorem vfx (p0 p1 : Value) (w : World) :
  CallsD Tryz.prog 91 #[p0, p1] .returning w fun en u' w' => en = .returned (.tuple #[]) ∧ u' = .returning ∧ Kp w w' := by
 have hty := vhj
 refine vah _ _ vcm Tryz.func91 rfl rfl rfl ?_
 simp only [Tryz.ntmps91, Act.put, List.size_toArray, List.length_cons, List.length_nil, Nat.reduceAdd, Nat.reduceSub, Array.replicate_succ, Array.replicate_zero, List.push_toArray, List.append_toArray, List.nil_append, List.cons_append]
 go_wp2_with fail
 go_end0
 exact ⟨rfl, trivial, (Kp.refl _).alloc _⟩
def lookE (T : Tb) (fc : Int) (l : List Nat) : Int := fltG (ruB T fc (decD l).1 (decD l).2.2 (decD l).2.1)
set_option maxRecDepth 100000 in
theorem viE (B t : Nat) (F : List Nat) (T : Tb) (fc : Int) (Ab : Option Addr) (cb : Nat) (l : List Nat) (w : World) (hT : TabM w B t F T) (hn : T.c.own.length ≤ 1000000) (hB : ByS w Ab cb l) :
  Calls Tryz.prog 36 #[lkP t, .int .i64 fc, .slice Ab l.length cb] w fun r w' => r = .returned (.tuple #[.int .i64 (lookE T fc l), .int .i64 0]) ∧ Kp w w' := by
 obtain ⟨b, hb⟩ : ∃ b, w.heap.size = b := ⟨_, rfl⟩
 obtain ⟨W, hW, kW, B0, B1⟩ := Blk.al2 hb #[.int .i64 0] 22 #[.int .i64 0] 44
 have hlo : ∀ x ∈ F, x < w.heap.size := fun x hx => (hT.lo x hx).2
 have hbW : b + 1 < W.heap.size := B1.lt
 have HL := Lib.hid hlo
 have HTT := Lib.hid (hT.keep kW)
 have HBB := Lib.hid (hB.keep kW)
 have HKW := Lib.hid kW
 have HB0 := Lib.hid B0
 have HB1 := Lib.hid B1
 clear hT hB hlo B0 B1 kW
 go_enter_defers Tryz.func36, Tryz.ntmps36
 go_wp2_with fail
 refine (viP B t F T fc W HTT.out hn).mono ?_
 rintro r w1 ⟨k, rfl, hk, hL1, K1⟩
 have hwr := vdL k t fc 0 0 none 0 [] B F T Ab cb l w1 hL1 (HTT.out.keep K1) (fun z => by have := HL.out k z; have := HKW.out.size; omega) (HBB.out.keep K1)
 have HWR := Lib.hid hwr
 have HK1 := Lib.hid K1
 clear hwr K1 hL1
 go_wp2_with fail
 refine HWR.out.mono ?_
 rintro r w2 ⟨A2, m2, rfl, _, O2⟩
 have K2 : Kp W w2 := O2.kp HK1.out (fun x hx => by simp only [List.mem_cons, List.not_mem_nil, or_false] at hx; omega)
 have E0 := HB0.out.keep K2
 have E1 := HB1.out.keep K2
 have u0 := Blk.f E0 rfl
 have f0 := Blk.frozen E0
 have u1 := Blk.f E1 rfl
 have f1 := Blk.frozen E1
 obtain ⟨x, hx⟩ : ∃ x, lookE T fc l = x := ⟨_, rfl⟩
 rw [show fltG (ruB T fc (decD l).1 (decD l).2.2 (decD l).2.1) = x from hx]
 have HX := Lib.hid hx
 clear hx
 obtain ⟨Q, hQ, Q0, Q1, KQ⟩ : ∃ R, (w2.setCell ⟨b, 0, none⟩ (.int .i64 x)).setCell ⟨b + 1, 0, none⟩ (.int .i64 0) = R ∧ Blk R b 22 #[.int .i64 x] ∧ Blk R (b + 1) 44 #[.int .i64 0] ∧ Kp w R :=
  ⟨_, rfl, (E0.set_ 0 _).far (p := ⟨b + 1, 0, none⟩) (by show b ≠ b + 1; omega) _, (E1.far (p := ⟨b, 0, none⟩) (by show b + 1 ≠ b; omega) _).set_ 0 _, ((HKW.out.trans K2).setCell (p := ⟨b, 0, none⟩) (by show w.heap.size ≤ b; omega) _).setCell (p := ⟨b + 1, 0, none⟩) (by show w.heap.size ≤ b + 1; omega) _⟩
 clear E0 E1 K2 O2
 go_wp2_with fail
 refine leaves_cons (f := 91) (args := #[.pointer (some ⟨b, 0, none⟩), .pointer (some ⟨b + 1, 0, none⟩)]) (by simp) (by simp [go_sem]) ?_
 refine (vfx _ _ _).mono ?_
 rintro e u' wz ⟨rfl, rfl, KZ⟩
 have q0 : wz.cell? ⟨b, 0, none⟩ = some (.int .i64 x) := (Q0.keep KZ).cell 0
 have q1 : wz.cell? ⟨b + 1, 0, none⟩ = some (.int .i64 0) := (Q1.keep KZ).cell 0
 show Leaves _ _ _ _ [] .returning _
 exact ⟨.tuple #[.int .i64 x, .int .i64 0], by simp [results, Tryz.results36, go_sem, q0, q1], by rw [HX.out], KQ.trans KZ⟩
end

section
open Go.RowKit Go.Maps
attribute [local go_sem] Oper.semAt_some
def toldE (l : List Nat) : List PI := (decD l).2.1.map epP
theorem viR (l : List Nat) (h : l.length ≤ 1000000) : (decD l).2.1.length ≤ 50000 := by
 unfold decD
 split
 ·simp only [vay]; omega
 ·simp
theorem viS (l : List Nat) (h : l.length ≤ 1000000) : (toldE l).length ≤ 50000 := by
 unfold toldE
 rw [List.length_map]
 exact viR l h
def GthI (b n1 : Nat) (ps : List PI) (w1 : World) (k : Nat) (W : World) : Prop := ∃ v, Blk W b 47 #[v] ∧ Own W (n1 + 2) 39 2 PI.enc v (ps.take k) ∧ Only [b] w1 W
section
variable {b n1 k : Nat} {ps : List PI} {w1 W W' : World}
theorem GthI.turn (h : GthI b n1 ps w1 k W) (hO : Only [n1, n1 + 1] W W') (hn : w1.heap.size = n1) (hb : b < n1) : GthI b n1 ps w1 k W' := by
 obtain ⟨v, h0, h1, h2⟩ := h
 exact ⟨v, h0.only hO (by simp; omega), h1.only hO (by simp), hO.os.trans h2.os, hO.tape.trans h2.tape, hO.output.trans h2.output, Nat.le_trans h2.size hO.size, fun i hi hx => (hO.block i (Nat.lt_of_lt_of_le hi h2.size) (by simp; omega)).trans (h2.block i hi hx)⟩
theorem GthI.keep (h : GthI b n1 ps w1 k W) (K : Kp W W') : GthI b n1 ps w1 k W' := by
 obtain ⟨v, h0, h1, h2⟩ := h
 exact ⟨v, h0.keep K, h1.keep K, h2.trans (Only.of_kp K)⟩
theorem GthI.push {V W5 : World} {v v' : Value} {p : PI} (h0 : Blk W b 47 #[v]) (h1 : Own W (n1 + 2) 39 2 PI.enc v (ps.take k)) (h2 : Only [b] w1 W) (K : Kp W V) (hg : V.grownBy W5 v.ownBlock) (ho : Own W5 (n1 + 2) 39 2 PI.enc v' (ps.take k ++ [p]))
  (hk : k < ps.length) (hp : ps[k] = p) (hn : w1.heap.size = n1) (hb : b < n1) (hs : n1 + 1 < W.heap.size) :
  Kept2 w1 W (W5.setCell ⟨b, 0, none⟩ v') ∧ GthI b n1 ps w1 (k + 1) (W5.setCell ⟨b, 0, none⟩ v') := by
 have hw : W.heap.size ≤ V.heap.size := K.size
 have e : ∀ i, i < n1 + 2 → W5.heap[i]? = W.heap[i]? := fun i hi => (hg.block i (by omega) (fun z => h1.ne hi z)).trans (K.heap (by omega))
 have B5 : Blk W5 b 47 #[v] := (e b (by omega)).trans h0
 refine ⟨⟨?_, ?_⟩, v', by simpa using B5.set_ 0 v', ?_, ?_⟩
 ·rw [hn]
  exact (Below.heap_setCell _ _ _ _ (by show n1 ≠ b; omega)).trans (e n1 (by omega))
 ·rw [hn]
  exact (Below.heap_setCell _ _ _ _ (by show n1 + 1 ≠ b; omega)).trans (e (n1 + 1) (by omega))
 ·rw [List.take_succ_eq_append_getElem hk, hp]
  exact ho.setBelow (p := ⟨b, 0, none⟩) (by show b < n1 + 2; omega) _
 ·have k5 : Only [b] w1 W5 := (h2.trans (Only.of_kp K)).grown hg (fun r hr => by have := (World.ownsRow.lt h1 r hr).1; omega)
  exact k5.setCell (p := ⟨b, 0, none⟩) (.inl (by simp)) _
end
theorem vek (args : Array Value) (w : World) : (callFunc 159 args).run Tryz.prog w = .ok (.enter 159 args) w := by kernel_rfl
set_option maxRecDepth 100000 in
theorem vhk (Ab : Option Addr) (cb : Nat) (l : List Nat) (w : World) (hB : ByS w Ab cb l) :
  Calls Tryz.prog 97 #[.slice Ab l.length cb] w fun r w' => ∃ A m, r = .returned (.slice A (toldE l).length m) ∧ Own w' w.heap.size 39 2 PI.enc (.slice A (toldE l).length m) (toldE l) ∧ Kp w w' := by
 obtain ⟨b, hb⟩ : ∃ b, w.heap.size = b := ⟨_, rfl⟩
 obtain ⟨W, hW, kW, B0⟩ := Blk.al1 hb #[.slice none 0 0] 47
 have HP := Lib.hid (vgc Ab cb l W (hB.keep kW))
 have hn5 := viR l hB.n
 have HWF := Lib.hid (viQ l)
 have HKW := Lib.hid kW
 have HB0 := Lib.hid B0
 have hbl := B0.lt
 obtain ⟨ps, hps⟩ : ∃ ps, toldE l = ps := ⟨_, rfl⟩
 have hps2 : (decD l).2.1.map epP = ps := hps
 rw [hps]
 obtain ⟨es, hes⟩ : ∃ es, (decD l).2.1 = es := ⟨_, rfl⟩
 rw [hes] at HP hn5 HWF hps2
 have HPS := Lib.hid hps2
 clear hps hps2 hes B0 kW hB
 refine calls_of_wp_marks Tryz.func97 rfl ?_
 simp only [Tryz.ntmps97, List.size_toArray, List.length_cons, List.length_nil, Nat.reduceAdd, Nat.reduceSub, Array.replicate_succ, Array.replicate_zero, List.push_toArray, List.append_toArray, List.nil_append, List.cons_append]
 go_wp2_with fail
 refine HP.out.mono ?_
 rintro r w1 ⟨bx, A', m, rfl, hM, hbx, hA, K1⟩
 obtain ⟨n1, hn1⟩ : ∃ n1, w1.heap.size = n1 := ⟨_, rfl⟩
 have hbn : b < n1 := by have := K1.size; omega
 have HIT := Lib.hid (vdY bx (decD l).1 A' m es (by omega))
 have I0 : Hid (GthI b n1 ps w1 0 w1) := Lib.hid ⟨_, HB0.out.keep K1, by rw [List.take_zero]; exact Own.nil _ _ _ _ _, Only.refl _ _⟩
 have HMI : Hid (∀ k W, GthI b n1 ps w1 k W → PEachM bx (decD l).1 A' m es W) := Lib.hid (fun k V h => by
  obtain ⟨v, h0, h1, h2⟩ := h
  exact ⟨hM.bk.only h2 (by simp; omega), hM.rd.onlyB h2 (fun a ha => by have := hA a ha; simp; omega)⟩)
 have HK1 := Lib.hid (HKW.out.trans K1)
 clear hM hA K1 hW
 unfold peachV
 go_wp2_with fail
 refine vaP (N := es.length) rfl vek HIT.out (fun _ _ => rfl) (GthI b n1 ps w1) (fun _ _ => False) (GthI b n1 ps w1 es.length) ?_ (fun _ _ _ h => h.elim) HMI.out I0.out (fun _ h => h) (fun _ _ _ _ h => h.elim) ?_ ?_
 ·intro k V V' h hO
  rw [hn1] at hO
  exact h.turn hO hn1 hbn
 ·rintro lp k V hk h hsV
  rw [hn1] at hsV
  have HI := Lib.hid h
  rw [vgd hk]
  obtain ⟨e, he⟩ : ∃ e, es[k] = e := ⟨_, rfl⟩
  have hwf : e.wf := by rw [← he]; exact HWF.out _ (List.getElem_mem hk)
  have hkp : k < ps.length := by rw [← HPS.out, List.length_map]; exact hk
  have HPK : Hid (ps[k] = epP e) := Lib.hid (by rw [← he]; simp [← HPS.out])
  rw [he]
  have HBX := Lib.hid (Blk.new V 66 (enC e))
  have HJ := Lib.hid (h.keep ((Kp.refl V).alloc (.cells (enC e) 66)))
  unfold enC at HJ HBX
  clear h he
  gi_wp2_with fail
  refine ⟨⟨by rw [hn1]; exact Below.heap_alloc V _ _ (by omega), by rw [hn1]; exact Below.heap_alloc V _ _ (by omega)⟩, (fun V9 => GthI b n1 ps w1 k V9 ∧ Blk V9 V.heap.size 66 (enC e)), ⟨HJ.out, HBX.out⟩, ?_, ?_⟩
  ·rintro V8 V9 ⟨j1, j2⟩ hO
   rw [hn1] at hO
   exact ⟨j1.turn hO hn1 hbn, j2.only hO (by simp; omega)⟩
  rintro U ⟨⟨v, u0, u1, u2⟩, j2⟩ hU
  rw [hn1] at hU
  have y := Blk.f j2 rfl
  have HU0 := Lib.hid u0
  have HU1 := Lib.hid u1
  have HU2 := Lib.hid u2
  have hlen : (ps.take k).length = k := by rw [List.length_take]; omega
  clear u0 u1 u2 j2
  refine wpIn_block ?_
  gi_wp2_with fail
  refine ⟨trivial, rfl, vdS lp ((vbc e _ hwf).mono ?_)⟩
  rintro r w3 ⟨rfl, K3⟩
  obtain ⟨p, hp⟩ : ∃ p, epP e = p := ⟨_, rfl⟩
  rw [hp]
  rw [hp] at HPK
  obtain ⟨z3, hz3⟩ : ∃ z3, w3.heap.size = z3 := ⟨_, rfl⟩
  obtain ⟨U3, hU3, k3, B3⟩ := Blk.al1 hz3 #[.int .u32 (p.a : Int), .int .i64 p.l] 39
  have x0 := Blk.f ((HU0.out.keep K3).keep k3) rfl
  have x3 := Blk.f B3 rfl
  have HOU := Lib.hid ((HU1.out.keep K3).keep k3)
  have hbase : n1 + 2 ≤ U3.heap.size := by have := (K3.trans k3).size; omega
  have HK3 := Lib.hid (K3.trans k3)
  have hfit : ((ps.take k).length + 1) * (16 + 1) ≤ 140737488355328 := by rw [hlen]; omega
  have HPE : Hid ([Value.int .u32 (p.a : Int), .int .i64 p.l] = PI.enc p) := Lib.hid rfl
  clear y hp B3 K3 k3
  gi_wp2_with (gi_at_builtin; go_must (refine vbt EPfx PI.len PI.one rfl _ _ rfl p rfl HOU.out hbase rfl rfl rfl hfit ?_); intro v5 W5 hown5 hg5 hob5; obtain ⟨A5, c5, rfl⟩ := hown5.form1; have B5 := ((HU0.out.keep HK3.out).grown hg5 (HOU.out.ne (by omega))); have zz := Blk.frozen B5; have yy := Blk.f B5 rfl; have HG := Lib.hid hg5; have HO5 := Lib.hid hown5; clear hg5 hown5 hob5)
  have HO6 := HO5.out
  rw [hlen] at HO6
  exact GthI.push HU0.out HU1.out HU2.out HK3.out HG.out HO6 hkp HPK.out hn1 hbn hU
 ·rintro V ⟨v, h0, h1, h2⟩ hd
  rw [hn1] at hd
  rw [List.take_of_length_le (by rw [← HPS.out, List.length_map]; omega)] at h1
  obtain ⟨A5, c5, hv⟩ := h1.form
  subst hv
  have x0 := Blk.f h0 rfl
  have HD := Lib.hid hd
  have HO := Lib.hid h1
  have HKV : Hid (Kp w V) := Lib.hid (h2.kp HK1.out (fun x hx => by simp only [List.mem_cons, List.not_mem_nil, or_false] at hx; omega))
  clear h0 h1 h2 hd
  go_wp2_with fail
  rw [hn1]
  refine vby HD.out (fun W' hO => ?_)
  refine ⟨.slice A5 ps.length c5, ?_, A5, c5, rfl, (HO.out.only hO (by simp)).mono (by omega), hO.kp HKV.out (by simp; omega)⟩
  simp [results, Tryz.results97, go_sem]
def btE (x : Option Addr × Nat × List Nat) : List Value := [.slice x.1 x.2.2.length x.2.1]
theorem bt_at {w : World} {A : Option Addr} {xs : List (Option Addr × Nat × List Nat)} (h : Rd w 1 btE A xs) {k : Nat} (hk : k < xs.length) : ∃ b off, A = some ⟨b, off, none⟩ ∧ w.cell? ⟨b, off + k, none⟩ = some (.slice xs[k].1 xs[k].2.2.length xs[k].2.1) := by
 obtain ⟨b, off, e, hc⟩ := h k hk
 exact ⟨b, off, e, by simpa using hc 0 _ rfl⟩
def toldL (xs : List (Option Addr × Nat × List Nat)) : List PI := xs.flatMap (fun x => toldE x.2.2)
theorem vhl (xs : List (Option Addr × Nat × List Nat)) (h : ∀ x ∈ xs, x.2.2.length ≤ 1000000) : (toldL xs).length ≤ xs.length * 50000 := by
 induction xs with
 | nil => simp [toldL]
 | cons x xs ih =>
  have h1 := ih (fun y hy => h y (List.mem_cons_of_mem _ hy))
  have h2 := viS x.2.2 (h x List.mem_cons_self)
  unfold toldL at h1 ⊢
  rw [List.flatMap_cons, List.length_append, List.length_cons]
  omega
theorem vfy (args : Array Value) (w : World) : (callFunc 97 args).run Tryz.prog w = .ok (.enter 97 args) w := by kernel_rfl
set_option maxRecDepth 100000 in
theorem vhm (A : Option Addr) (m : Nat) (xs : List (Option Addr × Nat × List Nat)) (w : World) (hR : Rd w 1 btE A xs) (hB : ∀ x ∈ xs, ByS w x.1 x.2.1 x.2.2) (hn : xs.length ≤ 1000) :
  Calls Tryz.prog 96 #[.func (.func 97) #[] #[], .slice A xs.length m] w fun r w' => ∃ A2 m2, r = .returned (.slice A2 (toldL xs).length m2) ∧ Own w' w.heap.size 39 2 PI.enc (.slice A2 (toldL xs).length m2) (toldL xs) ∧ Kp w w' := by
 have HR := Lib.hid hR
 have HB := Lib.hid hB
 have hcall := vfy
 have R0 : Hid (Own w w.heap.size 39 2 PI.enc (.slice none 0 0) (toldL (xs.take 0)) ∧ Kp w w) := Lib.hid ⟨by rw [List.take_zero]; exact Own.nil _ _ _ _ _, Kp.refl _⟩
 clear hR hB
 go_enter Tryz.func96, Tryz.ntmps96
 go_wp2_with fail
 go_loopw [5, 7, 10] (fun v _ i wr => ∃ j : Nat, j ≤ xs.length ∧ i = .int .i64 j ∧ Hid (Own wr w.heap.size 39 2 PI.enc v (toldL (xs.take j)) ∧ Kp w wr)) (fun _ _ i _ => xs.length - (intOf i).toNat)
 case atStart => exact ⟨0, Nat.zero_le _, rfl, R0⟩
 case round =>
  obtain ⟨j, hj, rfl, R⟩ := hrel
  obtain ⟨Av, cv, hv⟩ := R.out.1.form
  subst hv
  by_cases hlt : j < xs.length
  ·have hj1 : (j : Int) < (xs.length : Int) := by omega
   have hj0 : (0 : Int) ≤ (j : Int) := by omega
   obtain ⟨g, off, hA, x0⟩ := bt_at (HR.out.keep R.out.2) hlt
   subst hA
   have hby := (HB.out _ (List.getElem_mem hlt)).keep R.out.2
   have hac : toldL (xs.take (j + 1)) = toldL (xs.take j) ++ toldE xs[j].2.2 := by
    unfold toldL
    rw [List.take_succ_eq_append_getElem hlt, List.flatMap_append, List.flatMap_cons, List.flatMap_nil, List.append_nil]
   have hl1 := vhl (xs.take j) (fun x hx => (HB.out x (List.mem_of_mem_take hx)).n)
   have hl2 := viS xs[j].2.2 hby.n
   have hl3 : (xs.take j).length ≤ 1000 := by rw [List.length_take]; omega
   obtain ⟨x, hx⟩ : ∃ x, xs[j] = x := ⟨_, rfl⟩
   rw [hx] at x0 hby hac hl2
   have HC := Lib.hid (vhk x.1 x.2.1 x.2.2 wr hby)
   have HAC := Lib.hid hac
   obtain ⟨acc, hacc⟩ : ∃ acc, toldL (xs.take j) = acc := ⟨_, rfl⟩
   rw [hacc] at hl1 R HAC
   rw [hacc]
   clear hx hby hac hacc
   go_wp2_with fail
   refine HC.out.mono ?_
   rintro r w3 ⟨A3, m3, rfl, hO3, K3⟩
   have HO := Lib.hid (R.out.1.keep K3)
   have HR3 := Lib.hid (hO3.rdAt (by decide) PI.len)
   have hfit : (acc.length + (toldE x.2.2).length) * (16 + 1) ≤ 140737488355328 := by omega
   have hbase : w.heap.size ≤ w3.heap.size := (R.out.2.trans K3).size
   have HK3 := Lib.hid (R.out.2.trans K3)
   clear x0 hO3 K3
   go_wp2_with (at_builtin; go_must (refine vap EPfx PI.len PI.one rfl _ _ rfl rfl rfl HO.out HR3.out hfit hbase ?_); intro v' w5 hown hg hat; obtain ⟨A5, c5, rfl⟩ := hown.form; have K5 := HK3.out.grown hg (fun q hq => (World.ownsRow.lt HO.out q hq).1); simp only [List.length_append] at hown; have HO5 := Lib.hid hown; clear hown hg hat)
   go_roundw
   case rel => exact ⟨j + 1, by omega, by go_num, Lib.hid ⟨by rw [HAC.out]; exact HO5.out, K5⟩⟩
   case measure => simp [intOf]; omega
  ·obtain rfl : j = xs.length := by omega
   have HF := R.out
   rw [List.take_length] at HF
   have HL := Lib.hid HF
   have hle : (toldL (xs.take xs.length)).length = (toldL xs).length := by rw [List.take_length]
   clear HF
   go_wp2_with fail
   go_ret
   exact ⟨_, _, by rw [hle]; rfl, HL.out.1, HL.out.2⟩
end

end Go.Proofs.YtgopnfacklmkaaaGreatDoor
