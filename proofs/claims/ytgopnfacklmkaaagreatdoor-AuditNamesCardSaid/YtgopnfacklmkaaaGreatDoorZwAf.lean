/- Lemmas and contracts for the theorem of this claim: EnD, PkA, PkB, PkC, RngD. -/
import Derived.Test.YtgopnfacklmkaaaGreatDoorZwAe
set_option linter.all false
set_option maxHeartbeats 16000000
namespace Go.Proofs.YtgopnfacklmkaaaGreatDoor
section
open Go.RowKit
theorem vbQ {l : Nat} {J : Act → World → Prop} {Q : Exit → Act → World → Prop} {a : Act} {w : World} (h : Q .normal a w) : Exit.jump l J Q .normal a w := h
def epP (e : En) : PI := if whyE e = 0 then ⟨e.a, lenM e.m⟩ else ⟨0, 0⟩
def epN (e : En) : Int := if whyE e = 0 then 0 else 140
theorem vfV {e : En} (h : whyE e = 0) : isM e.m = true := by
 unfold whyE at h
 cases h0 : rulB e 0 with
 | true => rw [h0] at h; simp at h
 | false =>
  cases h1 : rulB e 1 with
  | true => rw [h0, h1] at h; simp at h
  | false => simpa [rulB] using h1
theorem vjs (e : En) (h : ¬ whyE e = 0) : (whyE e != 0) = true := by simpa using h
set_option maxRecDepth 100000 in
theorem vbc (e : En) (w : World) (hw : e.wf) : Calls Tryz.prog 99 #[enV e] w fun r w' => r = .returned (.tuple #[.agg #[.int .u32 ((epP e).a : Int), .int .i64 (epP e).l], .int .i64 (epN e)]) ∧ Kp w w' := by
 obtain ⟨b, hb⟩ : ∃ b, w.heap.size = b := ⟨_, rfl⟩
 obtain ⟨W, hW, kW, B0, B1⟩ := Blk.al2 hb (enC e) 66 #[.int .u32 0, .int .i64 0] 39
 unfold enC at hW
 have HW := Lib.hid hw
 have u := Blk.f B0 rfl
 clear hw
 by_cases h0 : whyE e = 0
 ·have HP : Hid (epP e = ⟨e.a, lenM e.m⟩ ∧ epN e = 0) := Lib.hid (by unfold epP epN; rw [if_pos h0, if_pos h0]; exact ⟨rfl, rfl⟩)
  have HL : Hid (lenV e.m = .tuple #[.int .i64 (lenM e.m : Int), .int .i64 0]) := Lib.hid (by unfold lenV; rw [vfV h0]; rfl)
  have H0 := Lib.hid h0
  clear h0
  go_enter Tryz.func99, Tryz.ntmps99
  go_wp2_with fail
  refine (vbP e _ HW.out).mono ?_
  rintro r w1 ⟨rfl, K1⟩
  rw [H0.out]
  have C0 := B0.keep K1
  have C1 := B1.keep K1
  clear hW u
  have u := Blk.f C0 rfl
  go_wp2_with fail
  refine (vcZ e.m _ HW.out.2.1).mono ?_
  rw [HL.out]
  rintro r w2 ⟨rfl, rfl⟩
  have v := Blk.f C1 rfl
  have z := Blk.frozen C1
  obtain ⟨R, hR, BR, kR⟩ : ∃ R, (w1.setCell ⟨b + 1, 0, none⟩ (.int .u32 (e.a : Int))).setCell ⟨b + 1, 1, none⟩ (.int .i64 (lenM e.m : Int)) = R ∧ Blk R (b + 1) 39 #[.int .u32 (e.a : Int), .int .i64 (lenM e.m : Int)] ∧ Kp w R := ⟨_, rfl, (C1.set_ 0 _).set_ 1 _, ((kW.trans K1).setCell (p := ⟨b + 1, 0, none⟩) (by show w.heap.size ≤ b + 1; omega) _).setCell (p := ⟨b + 1, 1, none⟩) (by show w.heap.size ≤ b + 1; omega) _⟩
  go_wp2_with fail
  have r := Blk.f BR rfl
  exact bodyPost_ret (v := .tuple #[.agg #[.int .u32 (e.a : Int), .int .i64 (lenM e.m : Int)], .int .i64 0]) (by simp [results, Tryz.results99, go_sem, r]) rfl ⟨by rw [HP.out.1, HP.out.2], kR⟩
 ·have HP : Hid (epP e = ⟨0, 0⟩ ∧ epN e = 140) := Lib.hid (by unfold epP epN; rw [if_neg h0, if_neg h0]; exact ⟨rfl, rfl⟩)
  have hne := vjs e h0
  obtain ⟨y, hy⟩ : ∃ y, whyE e = y := ⟨_, rfl⟩
  rw [hy] at hne
  have HY := Lib.hid hy
  clear h0 hy
  go_enter Tryz.func99, Tryz.ntmps99
  go_wp2_with fail
  refine (vbP e _ HW.out).mono ?_
  rintro r w1 ⟨rfl, K1⟩
  rw [HY.out]
  have C1 := B1.keep K1
  clear hW u
  have v := Blk.f C1 rfl
  have z := Blk.frozen C1
  obtain ⟨R, hR, BR, kR⟩ : ∃ R, (w1.setCell ⟨b + 1, 0, none⟩ (.int .u32 0)).setCell ⟨b + 1, 1, none⟩ (.int .i64 0) = R ∧ Blk R (b + 1) 39 #[.int .u32 0, .int .i64 0] ∧ Kp w R := ⟨_, rfl, (C1.set_ 0 _).set_ 1 _, ((kW.trans K1).setCell (p := ⟨b + 1, 0, none⟩) (by show w.heap.size ≤ b + 1; omega) _).setCell (p := ⟨b + 1, 1, none⟩) (by show w.heap.size ≤ b + 1; omega) _⟩
  go_wp2_with fail
  have r := Blk.f BR rfl
  exact bodyPost_ret (v := .tuple #[.agg #[.int .u32 0, .int .i64 0], .int .i64 140]) (by simp [results, Tryz.results99, go_sem, r]) rfl ⟨by rw [HP.out.1, HP.out.2]; rfl, kR⟩
def allE : En := ⟨0, 0, 0, 0, 0, 16⟩
set_option maxRecDepth 100000 in
theorem vhx (w : World) : Calls Tryz.prog 113 #[] w fun r w' => r = .returned (enV allE) ∧ Kp w w' := by
 obtain ⟨b, hb⟩ : ∃ b, w.heap.size = b := ⟨_, rfl⟩
 obtain ⟨W, hW, kW, B0⟩ := Blk.al1 hb #[.int .i64 0, .int .i64 0, .int .u32 0, .int .u32 0, .int .u32 0, .int .u32 16] 66
 go_enter Tryz.func113, Tryz.ntmps113
 go_wp2_with fail
 have r := Blk.f B0 rfl
 exact bodyPost_ret (v := .agg #[.int .i64 0, .int .i64 0, .int .u32 0, .int .u32 0, .int .u32 0, .int .u32 16]) (by simp [results, Tryz.results113, go_sem, r]) rfl ⟨rfl, kW⟩
structure EachMem (bx : Nat) (A : Option Addr) (c : Nat) (l : List Nat) (W : World) : Prop where
 bk : Blk W bx 64 #[.slice A l.length c]
 rd : Rd W 1 byN A l
 cap : l.length ≤ c
 wd : WidAt W
def eachV (bx : Nat) : Value := .func (.func 134) #[] #[.pointer (some ⟨bx, 0, none⟩)]
theorem vfW {w : World} {g off : Nat} {l : List Nat} (h : Rd w 1 byN (some ⟨g, off, none⟩) l) (i : Nat) : Rd w 1 byN (some ⟨g, off + i, none⟩) (l.drop i) := by
 have := vdQ h i l.length
 rwa [List.take_of_length_le (by rw [List.length_drop]; omega)] at this
set_option maxRecDepth 100000 in
theorem vhy (g off c : Nat) (l : List Nat) (w : World) (hW : WidAt w) (hR : Rd w 1 byN (some ⟨g, off, none⟩) l) (hn : l.length ≤ 1000000) : Calls Tryz.prog 67 #[.slice (some ⟨g, off, none⟩) l.length c] w fun r w' => ∃ bx A c', r = .returned (eachV bx) ∧ EachMem bx A c' l w' ∧ w.heap.size ≤ bx ∧ (∀ a, A = some a → w.heap.size ≤ a.block ∧ a.block < bx) ∧ Kp w w' := by
 have HW := Lib.hid hW
 clear hW
 go_enter Tryz.func67, Tryz.ntmps67
 go_wp2_with fail
 refine (vcC g off c l _ hR hn).mono ?_
 rintro r w1 ⟨v, rfl, hO, K1⟩
 obtain ⟨A, c', e⟩ := hO.form
 subst e
 have hr := Own.rdAt (by decide) vaj hO
 have hcap : l.length ≤ c' := by
  rcases hO.2 with ⟨e, h0⟩ | ⟨g2, c2, cur, e, _, _, h1, _⟩
  ·omega
  ·injection e with _ _ e
   omega
 have hlt : ∀ a, A = some a → w.heap.size ≤ a.block ∧ a.block < w1.heap.size := fun a ha => World.ownsRow.lt hO a.block (by subst ha; rfl)
 clear hO
 go_wp2_with fail
 go_ret
 exact ⟨w1.heap.size, A, c', rfl, ⟨Blk.new w1 _ _, hr.keep ((Kp.refl _).alloc _), hcap, HW.out.keep (K1.alloc _)⟩, K1.size, hlt, K1.alloc _⟩
set_option maxRecDepth 100000 in
theorem veL (bx : Nat) (A : Option Addr) (c : Nat) (l : List Nat) (hl : ∀ x ∈ l, x < 256) (hn : l.length ≤ 1000000) :
  Iter Tryz.prog 134 #[.pointer (some ⟨bx, 0, none⟩)] (l.length / 20) (fun k => #[.int .i64 k, enV (readEn (l.drop (k * 20)))]) (EachMem bx A c l) := by
 intro lp I Z W hI hZ hM hy h0
 have HI := Lib.hid hI; clear hI
 have HZ := Lib.hid hZ; clear hZ
 have HM := Lib.hid hM; clear hM
 have HY := Lib.hid hy; clear hy
 have HL := Lib.hid hl; clear hl
 have c0 := Blk.f (HM.out 0 W h0).bk rfl
 have H0 := Lib.hid h0; clear h0
 obtain ⟨n, hn2⟩ : ∃ n, l.length = n := ⟨_, rfl⟩
 have HN := Lib.hid hn2
 obtain ⟨N, hN⟩ : ∃ N, n / 20 = N := ⟨_, rfl⟩
 rw [hn2] at hn c0 HY ⊢
 rw [hN] at HY ⊢
 have hq : (n : Int) / 20 = (N : Int) := by omega
 have hN20 : N * 20 ≤ n := by omega
 clear hn2 hN
 go_enter Tryz.func134, Tryz.ntmps134
 go_wp2_with fail
 refine vab 0 rfl ?_
 go_wp2_with fail
 refine wp_label ?_
 go_wp2_with fail
 go_loopw [9] (fun i wr => ∃ k : Nat, k ≤ N ∧ i = .int .i64 k ∧ Hid (I k wr)) (fun i _ => N - (intOf i).toNat)
 case atStart => exact ⟨0, Nat.zero_le _, rfl, H0⟩
 case round =>
  obtain ⟨k, hk, rfl, hi⟩ := hrel
  have D := HM.out k wr hi.out
  by_cases hlt : k < N
  ·have hki : (k : Int) < (N : Int) := by omega
   obtain ⟨g, off, e, _⟩ := D.rd 0 (by rw [HN.out]; omega)
   subst e
   have HD := Lib.hid D
   have c1 := Blk.f D.bk rfl
   rw [HN.out] at c1
   have HRR := Lib.hid (vfW D.rd (k * 20))
   have HLL : Hid (∀ x ∈ l.drop (k * 20), x < 256) := Lib.hid (fun x hx => HL.out x (List.mem_of_mem_drop hx))
   have HLN : Hid ((l.drop (k * 20)).length = n - k * 20) := Lib.hid (by rw [List.length_drop, HN.out])
   have hk20 : k * 20 + 20 ≤ n := by omega
   have hcap : n ≤ c := by have := D.cap; rw [HN.out] at this; exact this
   clear D
   go_wp2_with fail
   have HRd := vfU g (off + k * 20) (c - k * 20) (l.drop (k * 20)) wr HD.out.wd HRR.out HLL.out (by rw [HLN.out]; omega) (by rw [HLN.out]; omega) (by rw [HLN.out]; omega)
   rw [HLN.out] at HRd
   refine HRd.mono ?_
   clear HRd c0 c1
   rintro r w1 ⟨rfl, K1⟩
   obtain ⟨W2, hW2, k2, B2⟩ := Blk.al1 (w := w1) rfl (enC (readEn (l.drop (k * 20)))) 66
   have Hi2 : Hid (I k W2) := Lib.hid (HI.out k _ _ hi.out (K1.trans k2))
   obtain ⟨fn, tmps, asg, bd, hrun, hround⟩ := HY.out k _ hlt Hi2.out
   obtain ⟨x, hx⟩ : ∃ x, readEn (l.drop (k * 20)) = x := ⟨_, rfl⟩
   simp only [hx] at hrun hround hW2 B2 ⊢
   unfold enC at hW2
   have y := Blk.f B2 rfl
   clear hx K1
   go_upto_region 4 with (fail)
   clear hW2
   refine (wpIn_wide (n := 0)).1 ?_
   gi_wp2_with fail
   refine ⟨rfl, hround.mono ?_⟩
   clear hrun hround
   rintro e W' (⟨rfl, hi2⟩ | ⟨rfl, hz⟩)
   ·have Hi3 := Lib.hid hi2; clear hi2
    gi_wp2_with fail
    go_wp2_with fail
    go_roundw
    case rel => exact ⟨k + 1, by omega, by go_num, Hi3⟩
    case measure => simp [intOf]; omega
   ·have Hz := Lib.hid hz; clear hz
    gi_wp2_with fail
    go_wp2_with fail
    refine vbQ ?_
    go_end0
    exact ⟨rfl, .inr ⟨k + 1, by omega, by omega, Hz.out⟩⟩
  ·obtain rfl : k = N := by omega
   go_wp2_with fail
   refine vbQ ?_
   go_end0
   exact ⟨rfl, .inl hi.out⟩
def En.enc (e : En) : List Value := [.int .i64 e.f, .int .i64 e.t, .int .u32 (e.a : Int), .int .u32 (e.m : Int), .int .u32 (e.n : Int), .int .u32 (e.k : Int)]
theorem En.enc_len (e : En) : e.enc.length = 6 := rfl
theorem En.one (e : En) : ∀ u ∈ e.enc, u.oneCell' = true := by
 intro u h
 simp only [En.enc, List.mem_cons, List.not_mem_nil, or_false] at h
 rcases h with rfl | rfl | rfl | rfl | rfl | rfl <;> rfl
theorem EEn : ElemOf Tryz.prog 28 66 (.agg #[.int .i64 0, .int .i64 0, .int .u32 0, .int .u32 0, .int .u32 0, .int .u32 0]) 6 32 := ⟨Tryz.underlying28, by kernel_rfl, rfl, by decide⟩
theorem en_at {w : World} {A : Option Addr} {es : List En} (h : Rd w 6 En.enc A es) {k : Nat} (hk : k < es.length) : ∃ b off, A = some ⟨b, off, none⟩ ∧ w.cell? ⟨b, off + k * 6, none⟩ = some (.int .i64 es[k].f) ∧ w.cell? ⟨b, off + k * 6 + 1, none⟩ = some (.int .i64 es[k].t) ∧ w.cell? ⟨b, off + k * 6 + 2, none⟩ = some (.int .u32 (es[k].a : Int)) ∧ w.cell? ⟨b, off + k * 6 + 3, none⟩ = some (.int .u32 (es[k].m : Int)) ∧ w.cell? ⟨b, off + k * 6 + 4, none⟩ = some (.int .u32 (es[k].n : Int)) ∧ w.cell? ⟨b, off + k * 6 + 5, none⟩ = some (.int .u32 (es[k].k : Int)) := by
 obtain ⟨b, off, e, hc⟩ := h k hk
 exact ⟨b, off, e, hc 0 _ rfl, hc 1 _ rfl, hc 2 _ rfl, hc 3 _ rfl, hc 4 _ rfl, hc 5 _ rfl⟩
set_option maxRecDepth 100000 in
theorem vfX (c : Int) (w : World) : Calls Tryz.prog 165 #[.int .i64 c] w fun e w' => e = .returned (.bool (okC c)) ∧ w = w' := by
 by_cases h1 : c = 1
 ·subst h1
  go_enter Tryz.func165, Tryz.ntmps165
  go_wp2_with fail
  go_ret
  exact ⟨rfl, rfl⟩
 ·by_cases h2 : c = 2
  ·subst h2
   go_enter Tryz.func165, Tryz.ntmps165
   go_wp2_with fail
   go_ret
   exact ⟨rfl, rfl⟩
  ·have b1 : (c == 1) = false := by simpa using h1
   have b2 : (c == 2) = false := by simpa using h2
   have H : Hid (okC c = false) := Lib.hid (by unfold okC; rw [b1, b2]; rfl)
   clear h1 h2
   go_enter Tryz.func165, Tryz.ntmps165
   go_wp2_with fail
   go_ret
   exact ⟨by rw [H.out]; rfl, rfl⟩
set_option maxRecDepth 100000 in
theorem veM (g off c at_ j : Nat) (wd : Nat) (l : List Nat) (w : World) (hW : WidAt w) (hj : wid wd j) (hR : Rd w 1 byN (some ⟨g, off, none⟩) l) (hl : ∀ x ∈ l, x < 256) (h : at_ + wd ≤ l.length) (hc : l.length ≤ c) (hn : l.length ≤ 1000000) :
  Calls Tryz.prog 66 #[.slice (some ⟨g, off, none⟩) l.length c, .int .i64 at_, .int .i64 wd] w fun e w' => e = .returned (.int .i64 (atN l at_ wd : Int)) ∧ w = w' := by
 have hb : atN l at_ wd < 4294967296 := vam _
 go_enter Tryz.func66, Tryz.ntmps66
 go_wp2_with fail
 refine (vdo g off c at_ j wd l _ hW hj hR hl h hc hn).mono ?_
 rintro e w' ⟨rfl, rfl⟩
 go_wp2_with fail
 go_ret
 exact ⟨rfl, rfl⟩
set_option maxRecDepth 100000 in
theorem vbR (g off n c : Nat) (w : World) (h : 4 ≤ n) (hc : n ≤ c) (hn : n ≤ 1000000) : Calls Tryz.prog 68 #[.slice (some ⟨g, off, none⟩) n c] w fun e w' => (∃ off', (n = 4 ∨ off' = off + 4) ∧ e = .returned (.slice (some ⟨g, off', none⟩) (n - 4) (n - 4))) ∧ w = w' := by
 go_enter Tryz.func68, Tryz.ntmps68
 go_wp2_with fail
 ·go_ret
  exact ⟨⟨off, rfl⟩, rfl⟩
 ·go_ret
  exact ⟨rfl, rfl⟩
abbrev dgV (c : Int) (A : Option Addr) (n m : Nat) : Value := .agg #[.int .i64 c, .slice A n m]
def EncP (c : Int) (es : List En) (w : World) (e : Ending) (w' : World) : Prop := ∃ v, e = .returned (.tuple #[v, .int .i64 (encN c es)]) ∧ (encN c es = 0 → Own w' w.heap.size 5 1 byN v (bytesD c es)) ∧ (encN c es ≠ 0 → v = .slice none 0 0) ∧ Kp w w'
theorem EncP.no {c k : Int} {es : List En} {w w' : World} (h : encN c es = k) (h0 : k ≠ 0) (hk : Kp w w') : EncP c es w (.returned (.tuple #[.slice none 0 0, .int .i64 k])) w' := by
 subst h
 exact ⟨_, rfl, fun z => absurd z h0, fun _ => rfl, hk⟩
theorem veN {es : List En} {k : Nat} (hk : k < es.length) : (es.take (k + 1)).flatMap bytesE = (es.take k).flatMap bytesE ++ bytesE es[k] := by
 rw [List.take_succ_eq_append_getElem hk, List.flatMap_append]
 simp
theorem vfY {α : Type} {w : World} {g base e sz : Nat} {enc : α → List Value} {xs : List α} {cs : Array Value} (hB : Blk w g e cs) (hb : base ≤ g) (henc : ∀ x, (enc x).length = sz) (hm : xs.length ≤ maxLen) (hl : cs.toList = xs.flatMap enc) : Own w base e sz enc (.slice (some ⟨g, 0, none⟩) xs.length xs.length) xs := by
 have hlen := vaH henc xs
 refine ⟨hlen, .inr ⟨g, xs.length, cs, rfl, hb, hB, Nat.le_refl _, hm, ?_, ?_⟩⟩
 ·rw [← hlen, ← hl, Array.length_toList]
 ·rw [← hlen, ← hl, List.take_length]
abbrev rdrV (A : Option Addr) (n c : Nat) : Value := .agg #[.slice A n c]
def dmB (l : List Nat) : Nat → Bool
 | 0 => decide ((4 : Int) ≤ (l.length : Int))
 | 1 => decide ((l.length - 4) % 20 = 0 ∧ l.length - 4 ≤ 500)
 | 2 => (atN l 1 1 : Int) == 2
 | 3 => okC (atN l 0 1)
 | _ => (atN l 2 2 : Int) == 0
theorem vjt {l : List Nat} {k : Nat} (hk : k < 5) (h : ∀ j, j < k → dmB l j = true) (h1 : dmB l k = false) : chkD l = ((150 + k : Nat) : Int) := by
 have c : k = 0 ∨ k = 1 ∨ k = 2 ∨ k = 3 ∨ k = 4 := by omega
 have e0 : 0 < k → ¬ l.length < 4 := fun z => by have := h 0 z; simp only [dmB, decide_eq_true_eq] at this; omega
 have e1 : 1 < k → ¬ ((l.length - 4) % 20 ≠ 0 ∨ 500 < l.length - 4) := fun z => by have := h 1 z; simp only [dmB, decide_eq_true_eq] at this; omega
 have e2 : 2 < k → ¬ atN l 1 1 ≠ 2 := fun z => by have := h 2 z; simp only [dmB, beq_iff_eq] at this; omega
 have e3 : 3 < k → ¬ (atN l 0 1 ≠ 1 ∧ atN l 0 1 ≠ 2) := fun z => by have := h 3 z; simp only [dmB, okC, Bool.or_eq_true, beq_iff_eq] at this; omega
 unfold chkD
 rcases c with rfl | rfl | rfl | rfl | rfl
 ·simp only [dmB, decide_eq_false_iff_not] at h1
  rw [if_pos (by omega)]
  rfl
 ·simp only [dmB, decide_eq_false_iff_not] at h1
  rw [if_neg (e0 (by omega)), if_pos (by omega)]
  rfl
 ·simp only [dmB, beq_eq_false_iff_ne] at h1
  rw [if_neg (e0 (by omega)), if_neg (e1 (by omega)), if_pos (by omega)]
  rfl
 ·simp only [dmB, okC, Bool.or_eq_false_iff, beq_eq_false_iff_ne] at h1
  rw [if_neg (e0 (by omega)), if_neg (e1 (by omega)), if_neg (e2 (by omega)), if_pos (by omega)]
  rfl
 ·simp only [dmB, beq_eq_false_iff_ne] at h1
  rw [if_neg (e0 (by omega)), if_neg (e1 (by omega)), if_neg (e2 (by omega)), if_neg (e3 (by omega)), if_pos (by omega)]
  rfl
theorem vju {l : List Nat} (h : ∀ j, j < 5 → dmB l j = true) : chkD l = 0 := by
 have h0 := h 0 (by decide)
 have h1 := h 1 (by decide)
 have h2 := h 2 (by decide)
 have h3 := h 3 (by decide)
 have h4 := h 4 (by decide)
 simp only [dmB, decide_eq_true_eq, beq_iff_eq, okC, Bool.or_eq_true] at h0 h1 h2 h3 h4
 unfold chkD
 rw [if_neg (by omega), if_neg (by omega), if_neg (by omega), if_neg (by omega), if_neg (by omega)]
structure ByS (w : World) (A : Option Addr) (c : Nat) (l : List Nat) : Prop where
 rd : Rd w 1 byN A l
 lt : ∀ x ∈ l, x < 256
 cap : l.length ≤ c
 n : l.length ≤ 1000000
 wd : WidAt w
theorem ByS.keep {w w' : World} {A : Option Addr} {c : Nat} {l : List Nat} (h : ByS w A c l) (k : Kp w w') : ByS w' A c l := ⟨h.rd.keep k, h.lt, h.cap, h.n, h.wd.keep k⟩
theorem ByS.some {w : World} {A : Option Addr} {c : Nat} {l : List Nat} (h : ByS w A c l) (h4 : 4 ≤ l.length) : ∃ g off, A = some ⟨g, off, none⟩ := by
 obtain ⟨g, off, e, _⟩ := h.rd 0 (by omega)
 exact ⟨g, off, e⟩
set_option maxRecDepth 100000 in
theorem vjv (A : Option Addr) (c : Nat) (l : List Nat) (w : World) (hB : ByS w A c l) : Calls Tryz.prog 186 #[rdrV A l.length c] w fun e w' => e = .returned (.bool (dmB l 0)) ∧ Kp w w' := by
 go_enter Tryz.func186, Tryz.ntmps186
 go_wp2_with fail
 go_ret
 exact ⟨rfl, (Kp.refl _).alloc _⟩
set_option maxRecDepth 100000 in
theorem vjw (A : Option Addr) (c : Nat) (l : List Nat) (w : World) (hB : ByS w A c l) (h4 : 4 ≤ l.length) : Calls Tryz.prog 187 #[rdrV A l.length c] w fun e w' => e = .returned (.bool (dmB l 1)) ∧ Kp w w' := by
 obtain ⟨g, off, rfl⟩ := hB.some h4
 have HB := Lib.hid (hB.keep ((Kp.refl w).alloc (.cells #[.slice (some ⟨g, off, none⟩) l.length c] 148)))
 have hcap := hB.cap
 have hn := hB.n
 clear hB
 obtain ⟨n, hn2⟩ : ∃ n, l.length = n := ⟨_, rfl⟩
 have HQ : Hid (dmB l 1 = decide ((n - 4) % 20 = 0 ∧ n - 4 ≤ 500)) := Lib.hid (by rw [← hn2]; rfl)
 rw [hn2] at h4 hcap hn HB ⊢
 clear hn2
 by_cases h1 : (n - 4) % 20 = 0
 ·have e1 : (((n - 4 : Nat) : Int).tmod 20 == 0) = true := by rw [beq_iff_eq, Int.tmod_eq_emod_of_nonneg (by omega)]; omega
  by_cases h2 : n - 4 ≤ 500
  ·have e2 : decide (((n - 4 : Nat) : Int) ≤ 500) = true := decide_eq_true (by omega)
   have H : Hid (dmB l 1 = true) := Lib.hid (by rw [HQ.out]; exact decide_eq_true ⟨h1, h2⟩)
   go_enter Tryz.func187, Tryz.ntmps187
   go_wp2_with fail
   refine (vbR g off n c _ h4 hcap hn).mono ?_
   rintro e w' ⟨⟨off', -, rfl⟩, rfl⟩
   go_wp2_with fail
   go_ret
   exact ⟨by rw [H.out]; rfl, (Kp.refl _).alloc _⟩
  ·have e2 : decide (((n - 4 : Nat) : Int) ≤ 500) = false := decide_eq_false (by omega)
   have H : Hid (dmB l 1 = false) := Lib.hid (by rw [HQ.out]; exact decide_eq_false (fun z => h2 z.2))
   go_enter Tryz.func187, Tryz.ntmps187
   go_wp2_with fail
   refine (vbR g off n c _ h4 hcap hn).mono ?_
   rintro e w' ⟨⟨off', -, rfl⟩, rfl⟩
   go_wp2_with fail
   go_ret
   exact ⟨by rw [H.out]; rfl, (Kp.refl _).alloc _⟩
 ·have e1 : (((n - 4 : Nat) : Int).tmod 20 == 0) = false := by rw [beq_eq_false_iff_ne, Int.tmod_eq_emod_of_nonneg (by omega)]; omega
  have H : Hid (dmB l 1 = false) := Lib.hid (by rw [HQ.out]; exact decide_eq_false (fun z => h1 z.1))
  go_enter Tryz.func187, Tryz.ntmps187
  go_wp2_with fail
  refine (vbR g off n c _ h4 hcap hn).mono ?_
  rintro e w' ⟨⟨off', -, rfl⟩, rfl⟩
  go_wp2_with fail
  go_ret
  exact ⟨by rw [H.out]; rfl, (Kp.refl _).alloc _⟩
theorem numberI (a v : Int) (g off c at_ j : Nat) (wd : Nat) (ha : a = (at_ : Int)) (hv : v = (wd : Int)) (l : List Nat) (w : World) (hB : ByS w (some ⟨g, off, none⟩) c l) (hj : wid wd j) (h : at_ + wd ≤ l.length) : Calls Tryz.prog 66 #[.slice (some ⟨g, off, none⟩) l.length c, .int .i64 a, .int .i64 v] w fun e w' => e = .returned (.int .i64 (atN l at_ wd : Int)) ∧ w = w' := by
 subst ha hv
 exact veM g off c at_ j wd l w hB.wd hj hB.rd hB.lt h hB.cap hB.n
set_option maxRecDepth 100000 in
theorem vjx (A : Option Addr) (c : Nat) (l : List Nat) (w : World) (hB : ByS w A c l) (h4 : 4 ≤ l.length) : Calls Tryz.prog 188 #[rdrV A l.length c] w fun e w' => e = .returned (.bool (dmB l 2)) ∧ Kp w w' := by
 obtain ⟨g, off, rfl⟩ := hB.some h4
 have HB := Lib.hid (hB.keep ((Kp.refl w).alloc (.cells #[.slice (some ⟨g, off, none⟩) l.length c] 148)))
 have hcap := hB.cap
 have hn := hB.n
 clear hB
 go_enter Tryz.func188, Tryz.ntmps188
 go_wp2_with fail
 refine (numberI 1 1 g off c 1 0 1 rfl rfl l _ HB.out (.inl ⟨rfl, rfl⟩) (by omega)).mono ?_
 rintro e w' ⟨rfl, rfl⟩
 go_wp2_with fail
 go_ret
 exact ⟨rfl, (Kp.refl _).alloc _⟩
set_option maxRecDepth 100000 in
theorem vjy (A : Option Addr) (c : Nat) (l : List Nat) (w : World) (hB : ByS w A c l) (h4 : 4 ≤ l.length) : Calls Tryz.prog 189 #[rdrV A l.length c] w fun e w' => e = .returned (.bool (dmB l 3)) ∧ Kp w w' := by
 obtain ⟨g, off, rfl⟩ := hB.some h4
 have HB := Lib.hid (hB.keep ((Kp.refl w).alloc (.cells #[.slice (some ⟨g, off, none⟩) l.length c] 148)))
 have hcap := hB.cap
 have hn := hB.n
 clear hB
 go_enter Tryz.func189, Tryz.ntmps189
 go_wp2_with fail
 refine (numberI 0 1 g off c 0 0 1 rfl rfl l _ HB.out (.inl ⟨rfl, rfl⟩) (by omega)).mono ?_
 rintro e w' ⟨rfl, rfl⟩
 go_wp2_with fail
 refine (vfX _ _).mono ?_
 rintro e w' ⟨rfl, rfl⟩
 go_wp2_with fail
 go_ret
 exact ⟨rfl, (Kp.refl _).alloc _⟩
set_option maxRecDepth 100000 in
theorem vjz (A : Option Addr) (c : Nat) (l : List Nat) (w : World) (hB : ByS w A c l) (h4 : 4 ≤ l.length) : Calls Tryz.prog 190 #[rdrV A l.length c] w fun e w' => e = .returned (.bool (dmB l 4)) ∧ Kp w w' := by
 obtain ⟨g, off, rfl⟩ := hB.some h4
 have HB := Lib.hid (hB.keep ((Kp.refl w).alloc (.cells #[.slice (some ⟨g, off, none⟩) l.length c] 148)))
 have hcap := hB.cap
 have hn := hB.n
 clear hB
 go_enter Tryz.func190, Tryz.ntmps190
 go_wp2_with fail
 refine (numberI 2 2 g off c 2 1 2 rfl rfl l _ HB.out (.inr (.inl ⟨rfl, rfl⟩)) (by omega)).mono ?_
 rintro e w' ⟨rfl, rfl⟩
 go_wp2_with fail
 go_ret
 exact ⟨rfl, (Kp.refl _).alloc _⟩
def dmF : Nat → FuncId
 | 0 => 186
 | 1 => 187
 | 2 => 188
 | 3 => 189
 | _ => 190
theorem vkA (A : Option Addr) (c : Nat) (l : List Nat) : ∀ k, k < 5 → (0 < k → 4 ≤ l.length) → ∀ w, ByS w A c l → Calls Tryz.prog (dmF k) #[rdrV A l.length c] w fun e w' => e = .returned (.bool (dmB l k)) ∧ Kp w w'
 | 0, _, _ => fun w h => vjv A c l w h
 | 1, _, h4 => fun w h => vjw A c l w h (h4 (by decide))
 | 2, _, h4 => fun w h => vjx A c l w h (h4 (by decide))
 | 3, _, h4 => fun w h => vjy A c l w h (h4 (by decide))
 | 4, _, h4 => fun w h => vjz A c l w h (h4 (by decide))
 | k + 5, h, _ => by omega
def dmC : Array Value := #[.int .i64 150, .func (.func 186) #[] #[], .int .i64 151, .func (.func 187) #[] #[], .int .i64 152, .func (.func 188) #[] #[], .int .i64 153, .func (.func 189) #[] #[], .int .i64 154, .func (.func 190) #[] #[]]
theorem viI : ∀ k, k < 5 → dmC[k * 2]? = some (.int .i64 ((150 + k : Nat) : Int)) ∧ dmC[k * 2 + 1]? = some (.func (.func (dmF k)) #[] #[])
 | 0, _ => ⟨rfl, rfl⟩
 | 1, _ => ⟨rfl, rfl⟩
 | 2, _ => ⟨rfl, rfl⟩
 | 3, _ => ⟨rfl, rfl⟩
 | 4, _ => ⟨rfl, rfl⟩
 | k + 5, h => by omega
theorem vhz : ∀ k, k < 5 → ∀ (args : Array Value) (w : World), (callFunc (dmF k) args).run Tryz.prog w = .ok (.enter (dmF k) args) w
 | 0, _ => fun _ _ => by kernel_rfl
 | 1, _ => fun _ _ => by kernel_rfl
 | 2, _ => fun _ _ => by kernel_rfl
 | 3, _ => fun _ _ => by kernel_rfl
 | 4, _ => fun _ _ => by kernel_rfl
 | k + 5, h => by omega
theorem vdX (w : World) : Calls Tryz.prog 131 #[] w fun e w' => e = .returned (.slice (some ⟨w.heap.size, 0, none⟩) 5 5) ∧ Blk w' w.heap.size 237 dmC ∧ Kp w w' := by
 go_enter Tryz.func131, Tryz.ntmps131
 go_wp2_with fail
 go_ret
 exact ⟨rfl, Blk.new w _ _, (Kp.refl _).alloc _⟩
abbrev refV (e : Int) : Value := .iface 144 (.int .i64 e)
abbrev refE (e : Int) : Ending := .panicked [{ v := refV e, recovered := false }]
def MustP (l : List Nat) (w : World) (e : Ending) (w' : World) : Prop := (chkD l = 0 → e = .returned (.tuple #[])) ∧ (chkD l ≠ 0 → e = refE (chkD l)) ∧ Kp w w'
set_option maxRecDepth 100000 in
theorem vfZ (A : Option Addr) (c : Nat) (l : List Nat) (w : World) (hB : ByS w A c l) : Calls Tryz.prog 65 #[rdrV A l.length c] w (MustP l w) := by
 obtain ⟨W, hW, kW, B0⟩ := Blk.al1 (w := w) rfl #[.slice A l.length c] 148
 have HB := Lib.hid (hB.keep kW)
 clear hB
 go_enter Tryz.func65, Tryz.ntmps65
 go_wp2_with fail
 clear hW
 refine (vdX _).mono ?_
 obtain ⟨g, hg⟩ : ∃ g, W.heap.size = g := ⟨_, rfl⟩
 rw [hg]
 rintro r w1 ⟨rfl, hR, hK1⟩
 have hB := B0.keep hK1
 have HB1 := Lib.hid (HB.out.keep hK1)
 have hk1 : Kp w w1 := kW.trans hK1
 clear hK1 B0 kW hg
 go_wp2_with fail
 go_loopw [6] (fun i wr => ∃ k : Nat, k ≤ 5 ∧ i = .int .i64 k ∧ Hid (∀ j, j < k → dmB l j = true) ∧ Kp w1 wr) (fun i _ => 5 - (intOf i).toNat)
 case atStart => exact ⟨0, by omega, rfl, fun j h => absurd h (by omega), Kp.refl _⟩
 case round =>
  obtain ⟨k, hk, rfl, hall, hK⟩ := hrel
  have R := hR.keep hK
  have u := Blk.f (hB.keep hK) rfl
  have kw := hk1.trans hK
  have hlt := (hB.keep hK).lt
  by_cases hk5 : k < 5
  ·have hki : (k : Int) < 5 := by omega
   have hk0 : (0 : Int) ≤ (k : Int) := by omega
   have c0 : wr.cell? ⟨g, k * 2, none⟩ = some (.int .i64 ((150 + k : Nat) : Int)) := by rw [R.cell]; exact (viI k hk5).1
   have c1 : wr.cell? ⟨g, k * 2 + 1, none⟩ = some (.func (.func (dmF k)) #[] #[]) := by rw [R.cell]; exact (viI k hk5).2
   have hc := vhz k hk5
   obtain ⟨fk, hfk⟩ : ∃ fk, dmF k = fk := ⟨_, rfl⟩
   have HC := Lib.hid (vkA A c l k hk5 (fun z => by have := hall.out 0 z; simp only [dmB, decide_eq_true_eq] at this; omega))
   rw [hfk] at c1 hc HC
   obtain ⟨n, hn⟩ : ∃ n : Int, ((150 + k : Nat) : Int) = n := ⟨_, rfl⟩
   rw [hn] at c0
   have HN := Lib.hid hn
   have D := Blk.new wr 237 #[.int .i64 n, .func (.func fk) #[] #[]]
   have HBr := Lib.hid (HB1.out.keep (hK.alloc (.cells #[.int .i64 n, .func (.func fk) #[] #[]] 237)))
   clear hfk hn
   go_wp2_with fail
   refine (HC.out _ HBr.out).mono ?_
   rintro r w2 ⟨rfl, hK2⟩
   have D2 := D.keep hK2
   have k2 : Kp w1 w2 := (hK.alloc _).trans hK2
   have d0 : w2.cell? ⟨wr.heap.size, 0, none⟩ = some (.int .i64 n) := D2.cell 0
   cases hb : dmB l k with
   | false =>
    have H : Hid (chkD l = n) := Lib.hid ((vjt hk5 hall.out hb).trans HN.out)
    have H0 : Hid (chkD l ≠ 0) := Lib.hid (by have h1 := H.out; have h2 := HN.out; omega)
    clear hb
    go_wp2_with fail
    exact ⟨rfl, fun z => absurd z H0.out, fun _ => by rw [H.out], hk1.trans k2⟩
   | true =>
    have H : Hid (∀ j, j < k + 1 → dmB l j = true) := Lib.hid (fun j hj => by
     by_cases hjk : j < k
     ·exact hall.out j hjk
     ·obtain rfl : j = k := by omega
      exact hb)
    clear hb
    go_wp2_with fail
    go_roundw
    case rel => exact ⟨k + 1, by omega, by go_num, H, k2⟩
    case measure => simp [intOf] <;> omega
  ·obtain rfl : k = 5 := by omega
   have H := Lib.hid (vju hall.out)
   clear hall
   go_wp2_with fail
   go_end0
   exact ⟨fun _ => rfl, fun z => absurd H.out z, kw⟩
theorem vaO {P : Program} {K : World → Prop} : ∀ (ms ds : List Deferred) (fr : Frame) (cs : List Frame) (w : World), fr.mode = .returning → fr.defers = ms ++ ds → Takes ms w K →
  ∃ w', K w' ∧ Steps P (lone fr cs w) (lone { fr with defers := ds } cs w')
 | [], ds, fr, cs, w, _, hd, h => ⟨w, h, by
   have : ({ fr with defers := ds } : Frame) = fr := by cases fr; simp_all
   rw [this]; exact Steps.refl P _⟩
 | d :: ms, ds, fr, cs, w, hm, hd, ⟨r, ht, hr, h⟩ => by
  obtain ⟨w', hK, hs⟩ := vaO ms ds { fr with defers := [] ++ (ms ++ ds) } cs _ hm rfl h
  exact ⟨w', hK, Steps.head (step_collected (by rw [hm]; simp) hd ht (run_takeDeferred hr)) hs⟩
def bodyPostMD (P : Program) (fn : Func) (R : Ending → World → Prop) : Exit → Act → World → Prop
 | .normal, a, w | .ret, a, w => ∃ ms ds, a.defers = ms ++ ds ∧ Takes ms w (fun w' => Leaves P fn a.tmps R ds .returning w')
 | .panic chain, a, w => Leaves P fn a.tmps R a.defers (.panicking chain) w
 | .outgrown, _, w => R .outgrown w
 | _, _, _ => False
theorem vaC {P : Program} {f : FuncId} {fn : Func} {c : Code} {args : Array Value} {w : World} {R : Ending → World → Prop}
  (hf : P.funcs[f]? = some fn) (hb : fn.body = some c)
  (h : c.wp P (bodyPostMD P fn R) { tmps := args ++ Array.replicate (fn.ntmps - args.size) undef, defers := [] } w) : Calls P f args w R := by
 intro cs
 let b : Frame := { (default : Frame) with fn := f, kind := .normal }
 have henter : Frame.enter P f args .normal = b.at { tmps := args ++ Array.replicate (fn.ntmps - args.size) undef, defers := [] } [.code c] := by
  simp [Frame.enter, Frame.at, hf, hb, b]
 obtain ⟨e, a', w', hq, harr⟩ := h b [] cs
 rw [← henter] at harr
 cases e with
 | normal =>
  obtain ⟨ms, ds, hd, hT⟩ := hq
  obtain ⟨w1, hL, hs1⟩ := vaO (P := P) ms ds { b.at a' [] with mode := .returning } cs w' rfl hd hT
  obtain ⟨e', w'', fr', hR, hs, hfn, hl⟩ := leaves_steps ds .returning w1 { { b.at a' [] with mode := .returning } with defers := ds } cs rfl rfl rfl hf rfl hL
  exact ⟨e', w'', fr', hR, Comes.of_steps (Steps.trans (Steps.trans harr (.one step_end)) hs1) hs, hfn, hl⟩
 | ret =>
  obtain ⟨todo, hs₀⟩ := harr
  obtain ⟨ms, ds, hd, hT⟩ := hq
  obtain ⟨w1, hL, hs1⟩ := vaO (P := P) ms ds { b.at a' todo with mode := .returning } cs w' rfl hd hT
  obtain ⟨e', w'', fr', hR, hs, hfn, hl⟩ := leaves_steps ds .returning w1 { { b.at a' todo with mode := .returning } with defers := ds } cs rfl rfl rfl hf rfl hL
  exact ⟨e', w'', fr', hR, Comes.of_steps (Steps.trans hs₀ hs1) hs, hfn, hl⟩
 | panic chain =>
  obtain ⟨todo, hs₀⟩ := harr
  obtain ⟨e', w'', fr', hR, hs, hfn, hl⟩ := leaves_steps a'.defers (.panicking chain) w' { b.at a' todo with mode := .panicking chain } cs rfl rfl rfl hf rfl hq
  exact ⟨e', w'', fr', hR, Comes.of_steps hs₀ hs, hfn, hl⟩
 | exit id => exact hq.elim
 | goto l => exact hq.elim
 | outgrown => exact ⟨.outgrown, w', b, hq, harr.resolve_left (by simp [b]), rfl, trivial⟩
end

end Go.Proofs.YtgopnfacklmkaaaGreatDoor
