/- Lemmas and contracts for the theorem of this claim: EnD, PkA, PkB. -/
import Derived.Test.YtgopnfacklmkaaaGreatDoorZyAf
import Derived.LoopN
import Derived.RangeFuncCalls
set_option linter.all false
set_option maxHeartbeats 16000000
namespace Go.Proofs.YtgopnfacklmkaaaGreatDoor
section
open Go.RowKit
theorem vcf {l : Nat} {J : Act → World → Prop} {Q : Exit → Act → World → Prop} {a : Act} {w : World} (h : Q .normal a w) : Exit.jump l J Q .normal a w := h
def epP (e : En) : PI := if whyE e = 0 then ⟨e.a, lenM e.m⟩ else ⟨0, 0⟩
def epN (e : En) : Int := if whyE e = 0 then 0 else 140
theorem vgz {e : En} (h : whyE e = 0) : isM e.m = true := by
 unfold whyE at h
 cases h0 : rulB e 0 with
 | true => rw [h0] at h; simp at h
 | false =>
  cases h1 : rulB e 1 with
  | true => rw [h0, h1] at h; simp at h
  | false => simpa [rulB] using h1
theorem vkd (e : En) (h : ¬ whyE e = 0) : (whyE e != 0) = true := by simpa using h
set_option maxRecDepth 100000 in
theorem vev (e : En) (w : World) (hw : e.wf) : Calls Tryz.prog 99 #[enV e] w fun r w' => r = .returned (.tuple #[.agg #[.int .u32 ((epP e).a : Int), .int .i64 (epP e).l], .int .i64 (epN e)]) ∧ Kp w w' := by
 obtain ⟨b, hb⟩ : ∃ b, w.heap.size = b := ⟨_, rfl⟩
 obtain ⟨W, hW, kW, B0, B1⟩ := Blk.al2 hb (enC e) 66 #[.int .u32 0, .int .i64 0] 39
 unfold enC at hW
 have HW := Lib.hid hw
 have u := Blk.f B0 rfl
 clear hw
 by_cases h0 : whyE e = 0
 ·have HP : Hid (epP e = ⟨e.a, lenM e.m⟩ ∧ epN e = 0) := Lib.hid (by unfold epP epN; rw [if_pos h0, if_pos h0]; exact ⟨rfl, rfl⟩)
  have HL : Hid (lenV e.m = .tuple #[.int .i64 (lenM e.m : Int), .int .i64 0]) := Lib.hid (by unfold lenV; rw [vgz h0]; rfl)
  have H0 := Lib.hid h0
  clear h0
  go_enter Tryz.func99, Tryz.ntmps99
  go_wp2_with fail
  refine (vdr e _ HW.out).mono ?_
  rintro r w1 ⟨rfl, K1⟩
  rw [H0.out]
  have C0 := B0.keep K1
  have C1 := B1.keep K1
  clear hW u
  have u := Blk.f C0 rfl
  go_wp2_with fail
  refine (vdq e.m _ HW.out.2.1).mono ?_
  rw [HL.out]
  rintro r w2 ⟨rfl, rfl⟩
  have v := Blk.f C1 rfl
  have z := Blk.frozen C1
  obtain ⟨R, hR, BR, kR⟩ : ∃ R, (w1.setCell ⟨b + 1, 0, none⟩ (.int .u32 (e.a : Int))).setCell ⟨b + 1, 1, none⟩ (.int .i64 (lenM e.m : Int)) = R ∧ Blk R (b + 1) 39 #[.int .u32 (e.a : Int), .int .i64 (lenM e.m : Int)] ∧ Kp w R := ⟨_, rfl, (C1.set_ 0 _).set_ 1 _, ((kW.trans K1).setCell (p := ⟨b + 1, 0, none⟩) (by show w.heap.size ≤ b + 1; omega) _).setCell (p := ⟨b + 1, 1, none⟩) (by show w.heap.size ≤ b + 1; omega) _⟩
  go_wp2_with fail
  have r := Blk.f BR rfl
  exact bodyPost_ret (v := .tuple #[.agg #[.int .u32 (e.a : Int), .int .i64 (lenM e.m : Int)], .int .i64 0]) (by simp [results, Tryz.results99, go_sem, r]) rfl ⟨by rw [HP.out.1, HP.out.2], kR⟩
 ·have HP : Hid (epP e = ⟨0, 0⟩ ∧ epN e = 140) := Lib.hid (by unfold epP epN; rw [if_neg h0, if_neg h0]; exact ⟨rfl, rfl⟩)
  have hne := vkd e h0
  obtain ⟨y, hy⟩ : ∃ y, whyE e = y := ⟨_, rfl⟩
  rw [hy] at hne
  have HY := Lib.hid hy
  clear h0 hy
  go_enter Tryz.func99, Tryz.ntmps99
  go_wp2_with fail
  refine (vdr e _ HW.out).mono ?_
  rintro r w1 ⟨rfl, K1⟩
  rw [HY.out]
  have C1 := B1.keep K1
  clear hW u
  have v := Blk.f C1 rfl
  have z := Blk.frozen C1
  obtain ⟨R, hR, BR, kR⟩ : ∃ R, (w1.setCell ⟨b + 1, 0, none⟩ (.int .u32 0)).setCell ⟨b + 1, 1, none⟩ (.int .i64 0) = R ∧ Blk R (b + 1) 39 #[.int .u32 0, .int .i64 0] ∧ Kp w R := ⟨_, rfl, (C1.set_ 0 _).set_ 1 _, ((kW.trans K1).setCell (p := ⟨b + 1, 0, none⟩) (by show w.heap.size ≤ b + 1; omega) _).setCell (p := ⟨b + 1, 1, none⟩) (by show w.heap.size ≤ b + 1; omega) _⟩
  go_wp2_with fail
  have r := Blk.f BR rfl
  exact bodyPost_ret (v := .tuple #[.agg #[.int .u32 0, .int .i64 0], .int .i64 140]) (by simp [results, Tryz.results99, go_sem, r]) rfl ⟨by rw [HP.out.1, HP.out.2]; rfl, kR⟩
def allE : En := ⟨0, 0, 0, 0, 0, 16⟩
set_option maxRecDepth 100000 in
theorem vhZ (w : World) : Calls Tryz.prog 113 #[] w fun r w' => r = .returned (enV allE) ∧ Kp w w' := by
 obtain ⟨b, hb⟩ : ∃ b, w.heap.size = b := ⟨_, rfl⟩
 obtain ⟨W, hW, kW, B0⟩ := Blk.al1 hb #[.int .i64 0, .int .i64 0, .int .u32 0, .int .u32 0, .int .u32 0, .int .u32 16] 66
 go_enter Tryz.func113, Tryz.ntmps113
 go_wp2_with fail
 have r := Blk.f B0 rfl
 exact bodyPost_ret (v := .agg #[.int .i64 0, .int .i64 0, .int .u32 0, .int .u32 0, .int .u32 0, .int .u32 16]) (by simp [results, Tryz.results113, go_sem, r]) rfl ⟨rfl, kW⟩
structure EachMem (bx : Nat) (A : Option Addr) (c : Nat) (l : List Nat) (W : World) : Prop where
 bk : Blk W bx 64 #[.slice A l.length c]
 rd : Rd W 1 byN A l
 cap : l.length ≤ c
 wd : WidAt W
def eachV (bx : Nat) : Value := .func (.func 134) #[] #[.pointer (some ⟨bx, 0, none⟩)]
theorem vgA {w : World} {g off : Nat} {l : List Nat} (h : Rd w 1 byN (some ⟨g, off, none⟩) l) (i : Nat) : Rd w 1 byN (some ⟨g, off + i, none⟩) (l.drop i) := by
 have := veq h i l.length
 rwa [List.take_of_length_le (by rw [List.length_drop]; omega)] at this
set_option maxRecDepth 100000 in
theorem via (g off c : Nat) (l : List Nat) (w : World) (hW : WidAt w) (hR : Rd w 1 byN (some ⟨g, off, none⟩) l) (hn : l.length ≤ 1000000) : Calls Tryz.prog 67 #[.slice (some ⟨g, off, none⟩) l.length c] w fun r w' => ∃ bx A c', r = .returned (eachV bx) ∧ EachMem bx A c' l w' ∧ w.heap.size ≤ bx ∧ (∀ a, A = some a → w.heap.size ≤ a.block ∧ a.block < bx) ∧ Kp w w' := by
 have HW := Lib.hid hW
 clear hW
 go_enter Tryz.func67, Tryz.ntmps67
 go_wp2_with fail
 refine (vcQ g off c l _ hR hn).mono ?_
 rintro r w1 ⟨v, rfl, hO, K1⟩
 obtain ⟨A, c', e⟩ := hO.form
 subst e
 have hr := Own.rdAt (by decide) vaN hO
 have hcap : l.length ≤ c' := by
  rcases hO.2 with ⟨e, h0⟩ | ⟨g2, c2, cur, e, _, _, h1, _⟩
  ·omega
  ·injection e with _ _ e
   omega
 have hlt : ∀ a, A = some a → w.heap.size ≤ a.block ∧ a.block < w1.heap.size := fun a ha => World.ownsRow.lt hO a.block (by subst ha; rfl)
 clear hO
 go_wp2_with fail
 go_ret
 exact ⟨w1.heap.size, A, c', rfl, ⟨Blk.new w1 _ _, hr.keep ((Kp.refl _).alloc _), hcap, HW.out.keep (K1.alloc _)⟩, K1.size, hlt, K1.alloc _⟩
set_option maxRecDepth 100000 in
theorem vfs (bx : Nat) (A : Option Addr) (c : Nat) (l : List Nat) (hl : ∀ x ∈ l, x < 256) (hn : l.length ≤ 1000000) :
  Iter Tryz.prog 134 #[.pointer (some ⟨bx, 0, none⟩)] (l.length / 20) (fun k => #[.int .i64 k, enV (readEn (l.drop (k * 20)))]) (EachMem bx A c l) := by
 intro lp I Z W hI hZ hM hy h0
 have HI := Lib.hid hI; clear hI
 have HZ := Lib.hid hZ; clear hZ
 have HM := Lib.hid hM; clear hM
 have HY := Lib.hid hy; clear hy
 have HL := Lib.hid hl; clear hl
 have c0 := Blk.f (HM.out 0 W h0).bk rfl
 have H0 := Lib.hid h0; clear h0
 obtain ⟨n, hn2⟩ : ∃ n, l.length = n := ⟨_, rfl⟩
 have HN := Lib.hid hn2
 obtain ⟨N, hN⟩ : ∃ N, n / 20 = N := ⟨_, rfl⟩
 rw [hn2] at hn c0 HY ⊢
 rw [hN] at HY ⊢
 have hq : (n : Int) / 20 = (N : Int) := by omega
 have hN20 : N * 20 ≤ n := by omega
 clear hn2 hN
 go_enter Tryz.func134, Tryz.ntmps134
 go_wp2_with fail
 refine vaa 0 rfl ?_
 go_wp2_with fail
 refine wp_label ?_
 go_wp2_with fail
 go_loopw [9] (fun i wr => ∃ k : Nat, k ≤ N ∧ i = .int .i64 k ∧ Hid (I k wr)) (fun i _ => N - (intOf i).toNat)
 case atStart => exact ⟨0, Nat.zero_le _, rfl, H0⟩
 case round =>
  obtain ⟨k, hk, rfl, hi⟩ := hrel
  have D := HM.out k wr hi.out
  by_cases hlt : k < N
  ·have hki : (k : Int) < (N : Int) := by omega
   obtain ⟨g, off, e, _⟩ := D.rd 0 (by rw [HN.out]; omega)
   subst e
   have HD := Lib.hid D
   have c1 := Blk.f D.bk rfl
   rw [HN.out] at c1
   have HRR := Lib.hid (vgA D.rd (k * 20))
   have HLL : Hid (∀ x ∈ l.drop (k * 20), x < 256) := Lib.hid (fun x hx => HL.out x (List.mem_of_mem_drop hx))
   have HLN : Hid ((l.drop (k * 20)).length = n - k * 20) := Lib.hid (by rw [List.length_drop, HN.out])
   have hk20 : k * 20 + 20 ≤ n := by omega
   have hcap : n ≤ c := by have := D.cap; rw [HN.out] at this; exact this
   clear D
   go_wp2_with fail
   have HRd := vgv g (off + k * 20) (c - k * 20) (l.drop (k * 20)) wr HD.out.wd HRR.out HLL.out (by rw [HLN.out]; omega) (by rw [HLN.out]; omega) (by rw [HLN.out]; omega)
   rw [HLN.out] at HRd
   refine HRd.mono ?_
   clear HRd c0 c1
   rintro r w1 ⟨rfl, K1⟩
   obtain ⟨W2, hW2, k2, B2⟩ := Blk.al1 (w := w1) rfl (enC (readEn (l.drop (k * 20)))) 66
   have Hi2 : Hid (I k W2) := Lib.hid (HI.out k _ _ hi.out (K1.trans k2))
   obtain ⟨fn, tmps, asg, bd, hrun, hround⟩ := HY.out k _ hlt Hi2.out
   obtain ⟨x, hx⟩ : ∃ x, readEn (l.drop (k * 20)) = x := ⟨_, rfl⟩
   simp only [hx] at hrun hround hW2 B2 ⊢
   unfold enC at hW2
   have y := Blk.f B2 rfl
   clear hx K1
   go_upto_region 4 with (fail)
   clear hW2
   refine (wpIn_wide (n := 0)).1 ?_
   gi_wp2_with fail
   refine ⟨rfl, hround.mono ?_⟩
   clear hrun hround
   rintro e W' (⟨rfl, hi2⟩ | ⟨rfl, hz⟩)
   ·have Hi3 := Lib.hid hi2; clear hi2
    gi_wp2_with fail
    go_wp2_with fail
    go_roundw
    case rel => exact ⟨k + 1, by omega, by go_num, Hi3⟩
    case measure => simp [intOf]; omega
   ·have Hz := Lib.hid hz; clear hz
    gi_wp2_with fail
    go_wp2_with fail
    refine vcf ?_
    go_end0
    exact ⟨rfl, .inr ⟨k + 1, by omega, by omega, Hz.out⟩⟩
  ·obtain rfl : k = N := by omega
   go_wp2_with fail
   refine vcf ?_
   go_end0
   exact ⟨rfl, .inl hi.out⟩
def En.enc (e : En) : List Value := [.int .i64 e.f, .int .i64 e.t, .int .u32 (e.a : Int), .int .u32 (e.m : Int), .int .u32 (e.n : Int), .int .u32 (e.k : Int)]
theorem En.enc_len (e : En) : e.enc.length = 6 := rfl
theorem En.one (e : En) : ∀ u ∈ e.enc, u.oneCell' = true := by
 intro u h
 simp only [En.enc, List.mem_cons, List.not_mem_nil, or_false] at h
 rcases h with rfl | rfl | rfl | rfl | rfl | rfl <;> rfl
theorem EEn : ElemOf Tryz.prog 28 66 (.agg #[.int .i64 0, .int .i64 0, .int .u32 0, .int .u32 0, .int .u32 0, .int .u32 0]) 6 32 := ⟨Tryz.underlying28, by kernel_rfl, rfl, by decide⟩
theorem en_at {w : World} {A : Option Addr} {es : List En} (h : Rd w 6 En.enc A es) {k : Nat} (hk : k < es.length) : ∃ b off, A = some ⟨b, off, none⟩ ∧ w.cell? ⟨b, off + k * 6, none⟩ = some (.int .i64 es[k].f) ∧ w.cell? ⟨b, off + k * 6 + 1, none⟩ = some (.int .i64 es[k].t) ∧ w.cell? ⟨b, off + k * 6 + 2, none⟩ = some (.int .u32 (es[k].a : Int)) ∧ w.cell? ⟨b, off + k * 6 + 3, none⟩ = some (.int .u32 (es[k].m : Int)) ∧ w.cell? ⟨b, off + k * 6 + 4, none⟩ = some (.int .u32 (es[k].n : Int)) ∧ w.cell? ⟨b, off + k * 6 + 5, none⟩ = some (.int .u32 (es[k].k : Int)) := by
 obtain ⟨b, off, e, hc⟩ := h k hk
 exact ⟨b, off, e, hc 0 _ rfl, hc 1 _ rfl, hc 2 _ rfl, hc 3 _ rfl, hc 4 _ rfl, hc 5 _ rfl⟩
set_option maxRecDepth 100000 in
theorem vaJ (c : Int) (w : World) : Calls Tryz.prog 165 #[.int .i64 c] w fun e w' => e = .returned (.bool (okC c)) ∧ w = w' := by
 by_cases h1 : c = 1
 ·subst h1
  go_enter Tryz.func165, Tryz.ntmps165
  go_wp2_with fail
  go_ret
  exact ⟨rfl, rfl⟩
 ·by_cases h2 : c = 2
  ·subst h2
   go_enter Tryz.func165, Tryz.ntmps165
   go_wp2_with fail
   go_ret
   exact ⟨rfl, rfl⟩
  ·have b1 : (c == 1) = false := by simpa using h1
   have b2 : (c == 2) = false := by simpa using h2
   have H : Hid (okC c = false) := Lib.hid (by unfold okC; rw [b1, b2]; rfl)
   clear h1 h2
   go_enter Tryz.func165, Tryz.ntmps165
   go_wp2_with fail
   go_ret
   exact ⟨by rw [H.out]; rfl, rfl⟩
set_option maxRecDepth 100000 in
theorem vft (e : En) (w : World) (ho : okEn e = false) : Calls Tryz.prog 167 #[enV e] w fun r w' => r = .returned (.tuple #[.slice none 0 0, .int .i64 2]) ∧ Kp w w' := by
 obtain ⟨b, hb⟩ : ∃ b, w.heap.size = b := ⟨_, rfl⟩
 obtain ⟨W, hWq, kW, B0⟩ := Blk.al1 hb (enC e) 66
 unfold enC at hWq
 have u0 := Blk.f B0 rfl
 by_cases h1 : e.f < 0
 ·have d1 := decide_eq_true h1
  clear ho
  go_enter Tryz.func167, Tryz.ntmps167
  go_wp2_with fail
  go_ret2
  exact ⟨rfl, kW⟩
 have d1 := decide_eq_false h1
 by_cases h2 : 65535 < e.f
 ·have d2 := decide_eq_true h2
  clear ho
  go_enter Tryz.func167, Tryz.ntmps167
  go_wp2_with fail
  go_ret2
  exact ⟨rfl, kW⟩
 have d2 := decide_eq_false h2
 by_cases h3 : e.t < 0
 ·have d3 := decide_eq_true h3
  clear ho
  go_enter Tryz.func167, Tryz.ntmps167
  go_wp2_with fail
  go_ret2
  exact ⟨rfl, kW⟩
 have d3 := decide_eq_false h3
 have h4 : 65535 < e.t := by
  apply Classical.byContradiction
  intro h4
  rw [(vdj e).2 ⟨by omega, by omega, by omega, by omega⟩] at ho
  cases ho
 have d4 := decide_eq_true h4
 clear ho
 go_enter Tryz.func167, Tryz.ntmps167
 go_wp2_with fail
 go_ret2
 exact ⟨rfl, kW⟩
set_option maxRecDepth 100000 in
theorem vct (A : Option Addr) (c : Nat) (es : List En) (w : World) (hW : WidAt w) (hR : Rd w 6 En.enc A es) (hw : ∀ e ∈ es, e.wf) (hn : es.length ≤ 1000000) : Calls Tryz.prog 166 #[.slice A es.length c] w fun r w' => r = .returned (.bool (es.all okEn)) ∧ Kp w w' := by
 have HW := Lib.hid hW
 have HR := Lib.hid hR
 have HF := Lib.hid hw
 clear hW hR hw
 go_enter Tryz.func166, Tryz.ntmps166
 go_wp2_with fail
 go_loopw [9] (fun i wr => ∃ k : Nat, k ≤ es.length ∧ i = .int .i64 k ∧ Hid ((es.take k).all okEn = true) ∧ Kp w wr) (fun i _ => es.length - (intOf i).toNat)
 case atStart => exact ⟨0, Nat.zero_le _, rfl, rfl, Kp.refl _⟩
 case round =>
  obtain ⟨k, hk, rfl, hall, hK⟩ := hrel
  by_cases hlt : k < es.length
  ·have hki : (k : Int) < (es.length : Int) := by omega
   have hk0 : (0 : Int) ≤ (k : Int) := by omega
   obtain ⟨b, off, hA, x0, x1, x2, x3, x4, x5⟩ := en_at (HR.out.keep hK) hlt
   subst hA
   obtain ⟨e, he⟩ : ∃ e, es[k] = e := ⟨_, rfl⟩
   rw [he] at x0 x1 x2 x3 x4 x5
   have HE := Lib.hid (show e.wf by rw [← he]; exact HF.out _ (List.getElem_mem hlt))
   have HT : Hid ((es.take (k + 1)).all okEn = okEn e) := Lib.hid (by rw [List.take_succ_eq_append_getElem hlt, List.all_append, hall.out, he]; simp)
   have HT2 : Hid (okEn e = false → es.all okEn = false) := Lib.hid (fun h => by
    rw [← he] at h
    exact Bool.eq_false_iff.2 (fun z => by rw [List.all_eq_true.1 z _ (List.getElem_mem hlt)] at h; cases h))
   obtain ⟨W2, hW2, k2, B2⟩ := Blk.al1 (w := wr) rfl (enC e) 66
   unfold enC at hW2
   have y := Blk.f B2 rfl
   clear he
   cases ho : okEn e with
   | true =>
    have HO := Lib.hid ho
    clear ho
    go_wp2_with fail
    refine (vcS e _ (HW.out.keep (hK.trans k2)) HE.out HO.out).mono ?_
    rintro r w3 ⟨v, rfl, -, K3⟩
    have k3 := hK.trans (k2.trans K3)
    clear hW2 y
    go_wp2_with fail
    go_roundw
    case rel => exact ⟨k + 1, by omega, by go_num, Lib.hid (by rw [HT.out]; exact HO.out), k3⟩
    case measure => simp [intOf]; omega
   | false =>
    have HO := Lib.hid ho
    have HT3 := Lib.hid (HT2.out ho)
    clear ho
    go_wp2_with fail
    refine (vft e _ HO.out).mono ?_
    rintro r w3 ⟨rfl, K3⟩
    clear hW2 y
    go_wp2_with fail
    go_ret
    exact ⟨by rw [HT3.out]; rfl, hK.trans (k2.trans K3)⟩
  ·obtain rfl : k = es.length := by omega
   have HT : Hid (es.all okEn = true) := Lib.hid (by have := hall.out; rwa [List.take_length] at this)
   go_wp2_with fail
   go_ret
   exact ⟨by rw [HT.out]; rfl, hK⟩
set_option maxRecDepth 100000 in
theorem vfu (g off c at_ j : Nat) (wd : Nat) (l : List Nat) (w : World) (hW : WidAt w) (hj : wid wd j) (hR : Rd w 1 byN (some ⟨g, off, none⟩) l) (hl : ∀ x ∈ l, x < 256) (h : at_ + wd ≤ l.length) (hc : l.length ≤ c) (hn : l.length ≤ 1000000) :
  Calls Tryz.prog 66 #[.slice (some ⟨g, off, none⟩) l.length c, .int .i64 at_, .int .i64 wd] w fun e w' => e = .returned (.int .i64 (atN l at_ wd : Int)) ∧ w = w' := by
 have hb : atN l at_ wd < 4294967296 := vaL _
 go_enter Tryz.func66, Tryz.ntmps66
 go_wp2_with fail
 refine (vdP g off c at_ j wd l _ hW hj hR hl h hc hn).mono ?_
 rintro e w' ⟨rfl, rfl⟩
 go_wp2_with fail
 go_ret
 exact ⟨rfl, rfl⟩
set_option maxRecDepth 100000 in
theorem vcg (g off n c : Nat) (w : World) (h : 4 ≤ n) (hc : n ≤ c) (hn : n ≤ 1000000) : Calls Tryz.prog 68 #[.slice (some ⟨g, off, none⟩) n c] w fun e w' => (∃ off', (n = 4 ∨ off' = off + 4) ∧ e = .returned (.slice (some ⟨g, off', none⟩) (n - 4) (n - 4))) ∧ w = w' := by
 go_enter Tryz.func68, Tryz.ntmps68
 go_wp2_with fail
 ·go_ret
  exact ⟨⟨off, rfl⟩, rfl⟩
 ·go_ret
  exact ⟨rfl, rfl⟩
abbrev dgV (c : Int) (A : Option Addr) (n m : Nat) : Value := .agg #[.int .i64 c, .slice A n m]
def EncP (c : Int) (es : List En) (w : World) (e : Ending) (w' : World) : Prop := ∃ v, e = .returned (.tuple #[v, .int .i64 (encN c es)]) ∧ (encN c es = 0 → Own w' w.heap.size 5 1 byN v (bytesD c es)) ∧ (encN c es ≠ 0 → v = .slice none 0 0) ∧ Kp w w'
theorem EncP.no {c k : Int} {es : List En} {w w' : World} (h : encN c es = k) (h0 : k ≠ 0) (hk : Kp w w') : EncP c es w (.returned (.tuple #[.slice none 0 0, .int .i64 k])) w' := by
 subst h
 exact ⟨_, rfl, fun z => absurd z h0, fun _ => rfl, hk⟩
theorem vfv {es : List En} {k : Nat} (hk : k < es.length) : (es.take (k + 1)).flatMap bytesE = (es.take k).flatMap bytesE ++ bytesE es[k] := by
 rw [List.take_succ_eq_append_getElem hk, List.flatMap_append]
 simp
theorem vke {α : Type} {w : World} {g base e sz : Nat} {enc : α → List Value} {xs : List α} {cs : Array Value} (hB : Blk w g e cs) (hb : base ≤ g) (henc : ∀ x, (enc x).length = sz) (hm : xs.length ≤ maxLen) (hl : cs.toList = xs.flatMap enc) : Own w base e sz enc (.slice (some ⟨g, 0, none⟩) xs.length xs.length) xs := by
 have hlen := vaM henc xs
 refine ⟨hlen, .inr ⟨g, xs.length, cs, rfl, hb, hB, Nat.le_refl _, hm, ?_, ?_⟩⟩
 ·rw [← hlen, ← hl, Array.length_toList]
 ·rw [← hlen, ← hl, List.take_length]
set_option maxRecDepth 100000 in
theorem vcT (c : Int) (A : Option Addr) (m : Nat) (es : List En) (w : World) (hW : WidAt w) (hR : Rd w 6 En.enc A es) (hw : ∀ e ∈ es, e.wf) (hn : es.length ≤ 1000000) : Calls Tryz.prog 112 #[dgV c A es.length m] w (EncP c es w) := by
 obtain ⟨b, hb⟩ : ∃ b, w.heap.size = b := ⟨_, rfl⟩
 obtain ⟨W, hWq, kW, B0⟩ := Blk.al1 hb #[.int .i64 c, .slice A es.length m] 30
 have HB0 := Lib.hid B0
 have HW := Lib.hid (hW.keep kW)
 have HR := Lib.hid (hR.keep kW)
 have HWw := Lib.hid hW
 have HRw := Lib.hid hR
 have HF := Lib.hid hw
 have HkW := Lib.hid kW
 have u := Blk.f B0 rfl
 clear hW hR hw kW B0
 cases h1 : okC c with
 | false =>
  have HE : Hid (encN c es = 2) := Lib.hid (by unfold encN; rw [h1]; rfl)
  have H1 := Lib.hid h1
  clear h1
  go_enter Tryz.func112, Tryz.ntmps112
  go_wp2_with fail
  refine (vaJ c _).mono ?_
  rw [H1.out]
  rintro r w1 ⟨rfl, rfl⟩
  go_wp2_with fail
  go_ret2
  exact EncP.no HE.out (by decide) HkW.out
 | true =>
  have H1 := Lib.hid h1
  by_cases h2 : es.length ≤ 25
  ·have d2 : decide ((25 : Int) < (es.length : Int)) = false := decide_eq_false (by omega)
   cases h3 : es.all okEn with
   | false =>
    have HE : Hid (encN c es = 2) := Lib.hid (by unfold encN; rw [h1, if_pos h2, h3]; rfl)
    have H3 := Lib.hid h3
    clear h1 h3
    go_enter Tryz.func112, Tryz.ntmps112
    go_wp2_with fail
    refine (vaJ c _).mono ?_
    rw [H1.out]
    rintro r w1 ⟨rfl, rfl⟩
    go_wp2_with fail
    refine (vct A m es _ HW.out HR.out HF.out hn).mono ?_
    rw [H3.out]
    rintro r w1 ⟨rfl, K1⟩
    go_wp2_with fail
    go_ret2
    exact EncP.no HE.out (by decide) (HkW.out.trans K1)
   | true =>
    have HE : Hid (encN c es = 0) := Lib.hid (by unfold encN; rw [h1, if_pos h2, h3]; rfl)
    have H3 := Lib.hid h3
    have hc : c = 1 ∨ c = 2 := by simpa [okC] using h1
    have hcw : IntKind.u8.wrap c = c := by rcases hc with rfl | rfl <;> rfl
    have HC : Hid (c = ((c.toNat : Nat) : Int) ∧ c.toNat < 256) := Lib.hid (by omega)
    have HD : Hid (bytesD c es = [c.toNat, 2, 0, 0] ++ es.flatMap bytesE) := Lib.hid rfl
    clear h1 h3 hc
    go_enter Tryz.func112, Tryz.ntmps112
    go_wp2_with fail
    refine (vaJ c _).mono ?_
    rw [H1.out]
    rintro r w1 ⟨rfl, rfl⟩
    go_wp2_with fail
    refine (vct A m es _ HW.out HR.out HF.out hn).mono ?_
    rw [H3.out]
    rintro r w1 ⟨rfl, K1⟩
    have C0 := HB0.out.keep K1
    clear u hWq
    have u := Blk.f C0 rfl
    obtain ⟨W2, hW2, k2, B2⟩ := Blk.al1 (w := w1) rfl #[.int .u8 c, .int .u8 2, .int .u8 0, .int .u8 0] 5
    have u2 := Blk.f (C0.keep k2) rfl
    have hsz : w.heap.size ≤ w1.heap.size := (HkW.out.trans K1).size
    have R0 : Hid (Own W2 w.heap.size 5 1 byN (.slice (some ⟨w1.heap.size, 0, none⟩) 4 4) ([c.toNat, 2, 0, 0] ++ (es.take 0).flatMap bytesE)) := Lib.hid (vke (xs := [c.toNat, 2, 0, 0]) B2 hsz vaN (by simp [maxLen]) (by
     have h := HC.out.1
     simp only [List.flatMap_cons, List.flatMap_nil, byN, List.singleton_append]
     rw [← h]
     rfl))
    have K2 : Kp w W2 := HkW.out.trans (K1.trans k2)
    clear K1 C0 B2 k2 hsz
    go_wp2_with fail
    clear hW2 u2 u
    go_loopw [4, 28] (fun s i wr => ∃ k : Nat, k ≤ es.length ∧ i = .int .i64 k ∧ Hid (Own wr w.heap.size 5 1 byN s ([c.toNat, 2, 0, 0] ++ (es.take k).flatMap bytesE)) ∧ Kp w wr) (fun _ i _ => es.length - (intOf i).toNat)
    case atStart => exact ⟨0, Nat.zero_le _, rfl, R0, K2⟩
    case round =>
     obtain ⟨k, hk, rfl, HO, hK⟩ := hrel
     by_cases hlt : k < es.length
     ·have hki : (k : Int) < (es.length : Int) := by omega
      have hk0 : (0 : Int) ≤ (k : Int) := by omega
      obtain ⟨b9, off, hA, x0, x1, x2, x3, x4, x5⟩ := en_at (HRw.out.keep hK) hlt
      subst hA
      obtain ⟨e, he⟩ : ∃ e, es[k] = e := ⟨_, rfl⟩
      rw [he] at x0 x1 x2 x3 x4 x5
      have HE2 := Lib.hid (show e.wf by rw [← he]; exact HF.out _ (List.getElem_mem hlt))
      have HO2 : Hid (okEn e = true) := Lib.hid (by rw [← he]; exact List.all_eq_true.1 H3.out _ (List.getElem_mem hlt))
      have HT := Lib.hid (vfv hlt)
      rw [he] at HT
      obtain ⟨W3, hW3, k3, B3⟩ := Blk.al1 (w := wr) rfl (enC e) 66
      unfold enC at hW3
      have y := Blk.f B3 rfl
      clear he
      have hl9 : ([c.toNat, 2, 0, 0] ++ (es.take k).flatMap bytesE).length ≤ 1000 := by
       rw [List.length_append, vcp, List.length_take]
       simp only [List.length_cons, List.length_nil]
       omega
      have hfit : (([c.toNat, 2, 0, 0] ++ (es.take k).flatMap bytesE).length + (bytesE e).length) * (1 + 1) ≤ 140737488355328 := by rw [vaG]; omega
      have HBL := Lib.hid (vaG e)
      go_wp2_with fail
      refine (vcS e _ (HWw.out.keep (hK.trans k3)) HE2.out HO2.out).mono ?_
      rintro r w4 ⟨v4, rfl, hO4, K4⟩
      obtain ⟨A4, c4, e4⟩ := hO4.form
      subst e4
      have hr4 := Own.rdAt (by decide) vaN hO4
      have k4 : Kp wr w4 := k3.trans K4
      have HO4 := Lib.hid (HO.out.keep k4)
      have hsz := (hK.trans k4).size
      have hK4 := hK.trans k4
      clear hO4 K4 hW3 y k4
      go_wp2_with (at_builtin; go_loud (refine vat EByt vaN vep rfl _ _ rfl rfl rfl HO4.out hr4 hfit hsz ?_; intro v' w5 hown hg hat; have HN : Hid (Own w5 w.heap.size 5 1 byN v' ([c.toNat, 2, 0, 0] ++ (es.take (k + 1)).flatMap bytesE)) := Lib.hid (by rw [HT.out, ← List.append_assoc]; exact hown); have hK5 : Kp w w5 := hK4.grown hg (fun q hq => (World.ownsRow.lt HO4.out q hq).1); clear hown hg hat))
      go_roundw
      case rel => exact ⟨k + 1, by omega, by go_num, HN, hK5⟩
      case measure => simp [intOf]; omega
     ·obtain rfl : k = es.length := by omega
      have h1 := HO.out
      rw [List.take_length, ← HD.out] at h1
      go_wp2_with fail
      go_ret2
      exact ⟨_, by rw [HE.out]; rfl, fun _ => h1, fun z => absurd HE.out z, hK⟩
  ·have HE : Hid (encN c es = 3) := Lib.hid (by unfold encN; rw [h1, if_neg h2]; rfl)
   have d2 : decide ((25 : Int) < (es.length : Int)) = true := decide_eq_true (by omega)
   clear h1
   go_enter Tryz.func112, Tryz.ntmps112
   go_wp2_with fail
   refine (vaJ c _).mono ?_
   rw [H1.out]
   rintro r w1 ⟨rfl, rfl⟩
   go_wp2_with fail
   go_ret2
   exact EncP.no HE.out (by decide) HkW.out
end

end Go.Proofs.YtgopnfacklmkaaaGreatDoor
