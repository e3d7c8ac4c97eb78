/- Lemmas and contracts for the theorem of this claim: PkD, Ret. -/
import Derived.Test.YtgopnfacklmkaaaGreatDoorZyAh
import Derived.OwnWalkIn
set_option linter.all false
set_option maxHeartbeats 16000000
namespace Go.Proofs.YtgopnfacklmkaaaGreatDoor
section
open Go.RowKit
attribute [local go_sem] Oper.semAt_some
theorem vkm (e : Int) (w : World) : (Instr.typeAssert (refV e) 20 144 true).run Tryz.prog w = .ok (.tuple #[.int .i64 e, .bool true]) w := by kernel_rfl
theorem vkn (w : World) : (Instr.typeAssert .nilIface 20 144 true).run Tryz.prog w = .ok (.tuple #[.int .i64 0, .bool false]) w := by kernel_rfl
def upP (e : Int) : FrameMode := .panicking [{ v := refV e, recovered := false }]
def caughtP (e : Int) : FrameMode := .panicking [{ v := refV e, recovered := true }]
theorem vic (e : Int) : recM (upP e) = (refV e, caughtP e) := rfl
set_option maxRecDepth 100000 in
theorem vgC (p0 p1 : Nat) (v0 v1 y : Value) (e : Int) (w : World) (h0 : Blk w p0 30 #[v0, v1]) (h1 : Blk w p1 44 #[y]) (n01 : ¬ p0 = p1) :
  CallsD Tryz.prog 64 #[.pointer (some ⟨p0, 0, none⟩), .pointer (some ⟨p1, 0, none⟩)] (upP e) w fun en u' w' =>
   en = .returned (.tuple #[]) ∧ u' = caughtP e ∧ Blk w' p0 30 #[.int .i64 0, .slice none 0 0] ∧ Blk w' p1 44 #[.int .i64 e] ∧ Only [p0, p1] w w' := by
 have n10 : ¬ p1 = p0 := fun z => n01 z.symm
 have c0 := Blk.f h0 rfl
 have z0 := Blk.frozen h0
 have d0 := Blk.f h1 rfl
 have zd := Blk.frozen h1
 have hty := vkm
 obtain ⟨R, hR, BR, BE, hO⟩ : ∃ R, ((w.setCell ⟨p0, 0, none⟩ (.int .i64 0)).setCell ⟨p0, 1, none⟩ (.slice none 0 0)).setCell ⟨p1, 0, none⟩ (.int .i64 e) = R ∧ Blk R p0 30 #[.int .i64 0, .slice none 0 0] ∧ Blk R p1 44 #[.int .i64 e] ∧ Only [p0, p1] w R :=
  ⟨_, rfl, ((h0.set_ 0 _).set_ 1 _).far (p := ⟨p1, 0, none⟩) n01 _, ((h1.far (p := ⟨p0, 0, none⟩) n10 _).far (p := ⟨p0, 1, none⟩) n10 _).set_ 0 _, (((Only.refl _ w).setCell (p := ⟨p0, 0, none⟩) (.inl (by simp)) _).setCell (p := ⟨p0, 1, none⟩) (.inl (by simp)) _).setCell (p := ⟨p1, 0, none⟩) (.inl (by simp)) _⟩
 refine vah _ _ (vic e) Tryz.func64 rfl rfl rfl ?_
 simp only [Tryz.ntmps64, Act.put, List.size_toArray, List.length_cons, List.length_nil, Nat.reduceAdd, Nat.reduceSub, Array.replicate_succ, Array.replicate_zero, List.push_toArray, List.append_toArray, List.nil_append, List.cons_append]
 go_wp2_with fail
 go_end0
 exact ⟨rfl, trivial, BR, BE, hO⟩
set_option maxRecDepth 100000 in
theorem vid (p0 p1 : Value) (w : World) : CallsD Tryz.prog 64 #[p0, p1] .returning w fun en u' w' => en = .returned (.tuple #[]) ∧ u' = .returning ∧ w' = w := by
 have hty := vkn
 refine vah _ _ (rfl : recM .returning = (.nilIface, .returning)) Tryz.func64 rfl rfl rfl ?_
 simp only [Tryz.ntmps64, Act.put, List.size_toArray, List.length_cons, List.length_nil, Nat.reduceAdd, Nat.reduceSub, Array.replicate_succ, Array.replicate_zero, List.push_toArray, List.append_toArray, List.nil_append, List.cons_append]
 go_wp2_with fail
 go_end0
 exact ⟨rfl, trivial, rfl⟩
theorem vfw (args : Array Value) (w : World) : (callFunc 134 args).run Tryz.prog w = .ok (.enter 134 args) w := by kernel_rfl
def DecP (l : List Nat) (w : World) (e : Ending) (w' : World) : Prop := ∃ A m, e = .returned (.tuple #[dgV (decD l).1 A (decD l).2.1.length m, .int .i64 (decD l).2.2]) ∧ Rd w' 6 En.enc A (decD l).2.1 ∧ (∀ a, A = some a → w.heap.size ≤ a.block) ∧ Kp w w'
structure DecI (w : World) (b bx : Nat) (A : Option Addr) (c base : Nat) (cmd : Int) (l : List Nat) (es : List En) (k : Nat) (W : World) : Prop where
 o : ∃ v, Blk W b 30 #[.int .i64 cmd, v] ∧ Own W base 66 6 En.enc v (es.take k)
 e : Blk W (b + 1) 44 #[.int .i64 0]
 h : Blk W bx 64 #[.slice A l.length c]
 rd : Rd W 1 byN A l
 kp : Kp w W
theorem Rd.onlyB {α : Type} {w w' : World} {sz : Nat} {enc : α → List Value} {A : Option Addr} {xs : List α} {bs : List Nat} (h : Rd w sz enc A xs) (k : Only bs w w') (hA : ∀ a, A = some a → a.block ∉ bs) : Rd w' sz enc A xs := fun i hi => by
 obtain ⟨b, off, e, hc⟩ := h i hi
 exact ⟨b, off, e, fun j u hu => k.cell (hc j u hu) (show b ∉ bs from hA ⟨b, off, none⟩ e)⟩
theorem DecI.only {w W W' : World} {b bx c base n : Nat} {A : Option Addr} {cmd : Int} {l : List Nat} {es : List En} {k : Nat} (h : DecI w b bx A c base cmd l es k W) (hO : Only [n, n + 1] W W') (hb : b + 1 < n) (hx : bx < n) (hA : ∀ a, A = some a → a.block < n) (hw : w.heap.size ≤ n) (hbs : base = n + 1 + 1) : DecI w b bx A c base cmd l es k W' := by
 obtain ⟨v, o1, o2⟩ := h.o
 exact ⟨⟨v, o1.only hO (by simp; omega), o2.only hO (by simp; omega)⟩, h.e.only hO (by simp; omega), h.h.only hO (by simp; omega), h.rd.onlyB hO (fun a ha => by have := hA a ha; simp; omega), hO.kp h.kp (by simp; omega)⟩
theorem Rd.grownB {α : Type} {w w' : World} {sz : Nat} {enc : α → List Value} {A : Option Addr} {xs : List α} {row : Option Nat} (h : Rd w sz enc A xs) (hg : w.grownBy w' row) (hA : ∀ a, A = some a → some a.block ≠ row) : Rd w' sz enc A xs := fun i hi => by
 obtain ⟨b, off, e, hc⟩ := h i hi
 refine ⟨b, off, e, fun j u hu => ?_⟩
 have hcj := hc j u hu
 exact (World.cell?_of_block (w := w) (hg.block b (World.block_lt_of_cell? w _ hcj) (hA _ e))).trans hcj
theorem vbL {W : World} {r : Nat} (hd : W.heap[r]? = some (.deferred (some []))) {K : World → Prop} (h : ∀ W', Only [r] W W' → K W') : Takes [{ target := .collected r, args := #[] }] W K :=
 ⟨r, rfl, hd, h _ ((Only.refl [r] W).putObj (by simp) _)⟩
theorem vds {α : Type} {w : World} {base e sz n c : Nat} {enc : α → List Value} {A : Option Addr} {xs : List α} (h : Own w base e sz enc (.slice A n c) xs) : ∀ a, A = some a → base ≤ a.block := by
 rintro a rfl
 rcases h.2 with ⟨h2, _⟩ | ⟨g, cap, cur, hv, hg, _⟩
 ·cases h2
 ·injection hv with h1
  injection h1 with h1
  rw [h1]
  exact hg
theorem vgD {q : List Nat} {N k : Nat} (h : k < N) : (eachEn N q).take (k + 1) = (eachEn N q).take k ++ [readEn (q.drop (k * 20))] := by
 rw [List.take_succ_eq_append_getElem (by rw [vbb]; exact h), vdN]
set_option maxRecDepth 100000 in
theorem vcV (A : Option Addr) (c : Nat) (l : List Nat) (w : World) (hB : ByS w A c l) : Calls Tryz.prog 18 #[.slice A l.length c] w (DecP l w) := by
 obtain ⟨b, hb⟩ : ∃ b, w.heap.size = b := ⟨_, rfl⟩
 obtain ⟨W, hW, kW, B0, B1, B2⟩ := Blk.al3 hb #[.int .i64 0, .slice none 0 0] 30 #[.int .i64 0] 44 #[.slice A l.length c] 148
 have HB := Lib.hid (hB.keep kW)
 have HBw := Lib.hid hB
 have u9 := Blk.f B2 rfl
 clear hB
 refine vbw Tryz.func18 rfl ?_
 simp only [Tryz.ntmps18, List.size_toArray, List.length_cons, List.length_nil, Nat.reduceAdd, Nat.reduceSub, Array.replicate_succ, Array.replicate_zero, List.push_toArray, List.append_toArray, List.nil_append, List.cons_append]
 go_wp2_with fail
 refine (vgB A c l _ HB.out).mono ?_
 rintro e w1 ⟨hY, hN, K1⟩
 have C0 := B0.keep K1
 have C1 := B1.keep K1
 have C2 := B2.keep K1
 have k1 := kW.trans K1
 clear hW B0 B1 B2 kW K1 u9
 by_cases h0 : chkD l = 0
 ·obtain rfl := hY h0
  have HD : Hid (decD l = ((atN l 0 1 : Int), eachEn ((l.drop 4).length / 20) (l.drop 4), 0)) := Lib.hid (by unfold decD; rw [if_pos h0, List.length_drop])
  clear hY hN
  have h4 : 4 ≤ l.length := by
   unfold chkD at h0
   split at h0
   ·cases h0
   ·omega
  clear h0
  have u2 := Blk.f C2 rfl
  have u0 := Blk.f C0 rfl
  have z0 := Blk.frozen C0
  obtain ⟨g, off, e⟩ := HBw.out.some h4
  subst e
  have HBk := Lib.hid (HBw.out.keep k1)
  obtain ⟨cmd, hcmd⟩ : ∃ cmd : Int, (atN l 0 1 : Int) = cmd := ⟨_, rfl⟩
  have HCM := Lib.hid hcmd
  go_wp2_with fail
  refine (numberI 0 1 g off c 0 0 1 rfl rfl l _ HBk.out (.inl ⟨rfl, rfl⟩) (by omega)).mono ?_
  rintro e w2 ⟨rfl, rfl⟩
  rw [hcmd]
  obtain ⟨V, hV, D0, D1, D2, kV⟩ : ∃ V, w1.setCell ⟨b, 0, none⟩ (.int .i64 cmd) = V ∧ Blk V b 30 #[.int .i64 cmd, .slice none 0 0] ∧ Blk V (b + 1) 44 #[.int .i64 0] ∧ Blk V (b + 1 + 1) 148 #[.slice (some ⟨g, off, none⟩) l.length c] ∧ Kp w V := ⟨_, rfl, C0.set_ 0 _, C1.far (p := ⟨b, 0, none⟩) (by show b + 1 ≠ b; omega) _, C2.far (p := ⟨b, 0, none⟩) (by show b + 1 + 1 ≠ b; omega) _, k1.setCell (p := ⟨b, 0, none⟩) (by show w.heap.size ≤ b; omega) _⟩
  have v2 := Blk.f D2 rfl
  clear C0 C1 C2 hcmd
  have HBV := Lib.hid (HBw.out.keep kV)
  go_wp2_with fail
  clear hV u2 u0 z0 v2
  refine (vcg g off l.length c _ h4 HBw.out.cap HBw.out.n).mono ?_
  rintro e w3 ⟨⟨off', hoff, rfl⟩, rfl⟩
  have HRD : Hid (Rd V 1 byN (some ⟨g, off', none⟩) (l.drop 4)) := Lib.hid (by
   rcases hoff with h | h
   ·rw [List.drop_eq_nil_of_le (by omega)]
    exact Rd.nil _ _ _ _
   ·rw [h]
    exact vgA HBV.out.rd 4)
  clear hoff
  have HE := via g off' (l.length - 4) (l.drop 4) V HBV.out.wd HRD.out (by rw [List.length_drop]; have := HBw.out.n; omega)
  rw [List.length_drop] at HE
  go_wp2_with fail
  refine HE.mono ?_
  clear HE
  rintro e w4 ⟨bx, A9, c9, rfl, hM, hbx, hA9, K4⟩
  have E0 := D0.keep K4
  have E1 := D1.keep K4
  have k4 := kV.trans K4
  have hbV : b + 1 + 1 < V.heap.size := D2.lt
  have hbx4 : bx < w4.heap.size := hM.bk.lt
  clear D0 D1 D2 K4
  have HL2 : Hid (∀ x ∈ l.drop 4, x < 256) := Lib.hid (fun x hx => HBw.out.lt x (List.mem_of_mem_drop hx))
  have HN2 : Hid ((l.drop 4).length ≤ 1000000) := Lib.hid (by rw [List.length_drop]; have := HBw.out.n; omega)
  obtain ⟨q, hq⟩ : ∃ q, l.drop 4 = q := ⟨_, rfl⟩
  obtain ⟨N, hNq⟩ : ∃ N, q.length / 20 = N := ⟨_, rfl⟩
  rw [hq] at HL2 HN2 hM HD
  rw [hNq] at HD
  have HIT := vfs bx A9 c9 q HL2.out HN2.out
  rw [hNq] at HIT
  have hN1 : N ≤ 50000 := by have := HN2.out; omega
  clear hNq hq
  go_wp2_with fail
  obtain ⟨n4, hn4⟩ : ∃ n4, w4.heap.size = n4 := ⟨_, rfl⟩
  have hw4 : w.heap.size ≤ n4 := by rw [← hn4]; exact k4.size
  have HA9 : Hid (∀ a, A9 = some a → a.block < n4) := Lib.hid (fun a ha => by have := hA9 a ha; omega)
  have hb4 : b + 1 < n4 := by omega
  have hx4 : bx < n4 := by omega
  have HCAP := Lib.hid hM.cap
  have HBXB : Hid (bx ≠ b) := Lib.hid (by omega)
  have HAB : Hid (∀ a, A9 = some a → a.block ≠ b) := Lib.hid (fun a ha => by have := hA9 a ha; omega)
  have I0 : Hid (DecI w b bx A9 c9 (n4 + 1 + 1) cmd q (eachEn N q) 0 w4) := Lib.hid ⟨⟨_, E0, by rw [List.take_zero]; exact Own.nil _ _ _ _ _⟩, E1, hM.bk, hM.rd, k4⟩
  clear E0 E1 hM hA9 hbx hbx4 hbV
  refine vcU (N := N) rfl vfw HIT (fun _ _ => rfl) (DecI w b bx A9 c9 (n4 + 1 + 1) cmd q (eachEn N q)) (fun _ _ _ => False) ?_ (fun _ _ _ _ h => h.elim) (fun _ W h => ⟨h.h, h.rd, HCAP.out, HBw.out.wd.keep h.kp⟩) I0.out ?_ ?_ (fun _ _ _ _ _ h => h.elim)
  ·rintro k W' W'' h1 hO
   rw [hn4] at hO
   exact h1.only hO hb4 hx4 HA9.out hw4 rfl
  ·intro lp k W' hk hI hsz
   rw [hn4] at hsz
   obtain ⟨x, hx⟩ : ∃ x, readEn (q.drop (k * 20)) = x := ⟨_, rfl⟩
   simp only [hx]
   have HT := Lib.hid (vgD (q := q) hk)
   rw [hx] at HT
   have hJ : DecI w b bx A9 c9 (n4 + 1 + 1) cmd q (eachEn N q) k (W'.alloc (.cells (enC x) 66)) := by
    obtain ⟨v, o1, o2⟩ := hI.o
    exact ⟨⟨v, o1.alloc _, o2.alloc _⟩, hI.e.alloc _, hI.h.alloc _, hI.rd.keep ((Kp.refl _).alloc _), hI.kp.alloc _⟩
   have HJ := Lib.hid hJ
   have HBX := Lib.hid (Blk.new W' 66 (enC x))
   clear hJ hI hx
   unfold enC at HJ
   gi_wp2_with fail
   refine ⟨⟨Below.heap_alloc W' _ _ (by rw [hn4]; omega), Below.heap_alloc W' _ _ (by rw [hn4]; omega)⟩, (fun V9 => DecI w b bx A9 c9 (n4 + 1 + 1) cmd q (eachEn N q) k V9 ∧ Blk V9 W'.heap.size 66 (enC x)), ⟨HJ.out, HBX.out⟩, ?_, ?_⟩
   ·rintro V8 V9 ⟨j1, j2⟩ hO
    rw [hn4] at hO
    exact ⟨j1.only hO hb4 hx4 HA9.out hw4 rfl, j2.only hO (by simp; omega)⟩
   rintro U ⟨j1, j2⟩ hU
   rw [hn4] at hU
   obtain ⟨v, o1, o2⟩ := j1.o
   have hkp := j1.kp
   have HJ1 := Lib.hid j1
   have y := Blk.f j2 rfl
   have x1 := Blk.f o1 rfl
   have HO1 := Lib.hid o1
   have HO2 := Lib.hid o2
   have hlen : ((eachEn N q).take k).length = k := by rw [List.length_take, vbb]; omega
   have Hlen := Lib.hid hlen
   have hfit : (((eachEn N q).take k).length + [x].length) * (32 + 1) ≤ 140737488355328 := by rw [hlen]; simp only [List.length_cons, List.length_nil]; omega
   obtain ⟨U2, hU2, kU, D9⟩ := Blk.al1 (w := U) rfl (enC x) 66
   have hbx0 : bx ≠ b := HBXB.out
   have HRx : Hid (Rd U2 6 En.enc (some ⟨U.heap.size, 0, none⟩) [x]) := Lib.hid (Rd.of_blk D9 (by decide) En.enc_len (by simp [maxLen]) rfl)
   have HOU := Lib.hid (o2.keep kU)
   have hbase : n4 + 1 + 1 ≤ U2.heap.size := by have := kU.size; omega
   unfold enC at hU2
   have x2 := Blk.f (o1.keep kU) rfl
   clear o1 o2 j1 j2 hlen
   refine wpIn_block ?_
   refine vcP (by kernel_rfl) (vaR vbW) ?_
   go_wp2_with (at_builtin; go_must (refine vat EEn En.enc_len En.one rfl _ _ rfl rfl rfl HOU.out HRx.out hfit hbase ?_); intro v' w5 hown hg hat; obtain ⟨A5, c5, rfl⟩ := hown.form; have B5 := (HO1.out.keep kU).grown hg (HOU.out.ne (by omega)); have zz := Blk.frozen B5; have yy := Blk.f B5 rfl; have HG := Lib.hid hg; have HOW := Lib.hid hown; clear hg hown hat)
   have hg := HG.out
   have hne : ∀ g, g < n4 + 1 + 1 → some g ≠ v.ownBlock := fun g h => HOU.out.ne h
   have e1 : w5.heap[n4]? = U.heap[n4]? := (hg.block _ (by have := kU.size; omega) (hne _ (by omega))).trans (kU.heap (by omega))
   have e2 : w5.heap[n4 + 1]? = U.heap[n4 + 1]? := (hg.block _ (by have := kU.size; omega) (hne _ (by omega))).trans (kU.heap (by omega))
   have k5 : Kp w w5 := (hkp.trans kU).grown hg (fun r hr => by have := (World.ownsRow.lt HOU.out r hr).1; omega)
   refine ⟨⟨?_, ?_⟩, ⟨⟨_, B5.set_ 1 _, ?_⟩, ((HJ1.out.e.keep kU).grown hg (hne _ (by omega))).far (p := ⟨b, 1, none⟩) (by show b + 1 ≠ b; omega) _, ((HJ1.out.h.keep kU).grown hg (hne _ (by omega))).far (p := ⟨b, 1, none⟩) (by show bx ≠ b; omega) _, ?_, k5.setCell (p := ⟨b, 1, none⟩) (by show w.heap.size ≤ b; omega) _⟩⟩
   ·rw [hn4]
    exact (Below.heap_setCell _ _ _ _ (by show n4 ≠ b; omega)).trans e1
   ·rw [hn4]
    exact (Below.heap_setCell _ _ _ _ (by show n4 + 1 ≠ b; omega)).trans e2
   ·have h9 := HOW.out
    have e9 : min k (eachEn N q).length + 1 = ((eachEn N q).take k ++ [x]).length := by simp
    rw [e9, HT.out]
    exact h9.setBelow (p := ⟨b, 1, none⟩) (by show b < n4 + 1 + 1; omega) _
   ·have h9 := (HJ1.out.rd.keep kU).grownB hg (fun a ha => hne _ (by have := HA9.out a ha; omega))
    exact h9.onlyB (bs := [b]) ((Only.refl [b] w5).setCell (p := ⟨b, 1, none⟩) (.inl (by simp)) _) (fun a ha => by simpa using HAB.out a ha)
  ·rintro W' ⟨⟨v, o1, o2⟩, o3, o4, o5, o6⟩ hd
   rw [hn4] at hd
   rw [List.take_of_length_le (by rw [vbb]; omega)] at o2
   obtain ⟨A5, c5, e5⟩ := o2.form
   subst e5
   have y0 := Blk.f o1 rfl
   have z0 := Blk.frozen o1
   have y1 : ∀ u, (W'.setCell ⟨b, 0, none⟩ (.int .i64 cmd)).cell? ⟨b + 1, 0, none⟩ = some (.int .i64 0) ∧ u = u := fun u => ⟨(o3.far (p := ⟨b, 0, none⟩) (by show b + 1 ≠ b; omega) _).cell 0, rfl⟩
   have y2 := Blk.f o3 rfl
   have z2 := Blk.frozen o3
   obtain ⟨R, hR, P0, P1, P2, kR, hdR⟩ : ∃ R, ((W'.setCell ⟨b, 0, none⟩ (.int .i64 cmd)).setCell ⟨b, 1, none⟩ (.slice A5 (eachEn N q).length c5)).setCell ⟨b + 1, 0, none⟩ (.int .i64 0) = R ∧ Blk R b 30 #[.int .i64 cmd, .slice A5 (eachEn N q).length c5] ∧ Blk R (b + 1) 44 #[.int .i64 0] ∧ Own R (n4 + 1 + 1) 66 6 En.enc (.slice A5 (eachEn N q).length c5) (eachEn N q) ∧ Kp w R ∧ R.heap[n4]? = some (.deferred (some [])) :=
    ⟨_, rfl, ((o1.set_ 0 _).set_ 1 _).far (p := ⟨b + 1, 0, none⟩) (by show b ≠ b + 1; omega) _, ((o3.far (p := ⟨b, 0, none⟩) (by show b + 1 ≠ b; omega) _).far (p := ⟨b, 1, none⟩) (by show b + 1 ≠ b; omega) _).set_ 0 _,
     ((o2.setBelow (p := ⟨b, 0, none⟩) (by show b < n4 + 1 + 1; omega) _).setBelow (p := ⟨b, 1, none⟩) (by show b < n4 + 1 + 1; omega) _).setBelow (p := ⟨b + 1, 0, none⟩) (by show b + 1 < n4 + 1 + 1; omega) _,
     ((o6.setCell (p := ⟨b, 0, none⟩) (by show w.heap.size ≤ b; omega) _).setCell (p := ⟨b, 1, none⟩) (by show w.heap.size ≤ b; omega) _).setCell (p := ⟨b + 1, 0, none⟩) (by show w.heap.size ≤ b + 1; omega) _,
     (Below.heap_setCell _ _ _ _ (by show n4 ≠ b + 1; omega)).trans ((Below.heap_setCell _ _ _ _ (by show n4 ≠ b; omega)).trans ((Below.heap_setCell _ _ _ _ (by show n4 ≠ b; omega)).trans hd))⟩
   have HP0 := Lib.hid P0
   have HP1 := Lib.hid P1
   have HP2 := Lib.hid P2
   have HKR := Lib.hid kR
   have HDR := Lib.hid hdR
   clear o1 o2 o3 o4 o5 o6 P0 P1 P2 kR hdR
   go_wp2_with fail
   refine ⟨[{ target := .collected n4, args := #[] }], _, rfl, vbL HDR.out (fun W9 hO9 => ?_)⟩
   refine leaves_cons (f := 64) (args := #[.pointer (some ⟨b, 0, none⟩), .pointer (some ⟨b + 1, 0, none⟩)]) (by simp) (by simp [go_sem]) ?_
   refine (vid _ _ _).mono ?_
   rintro e u' wz ⟨rfl, rfl, rfl⟩
   have r0 := Blk.f (HP0.out.only hO9 (by simp; omega)) rfl
   have r1 := Blk.f (HP1.out.only hO9 (by simp; omega)) rfl
   have P9 := HP2.out.only hO9 (by simp; omega)
   show Leaves _ _ _ _ [] .returning _
   refine ⟨.tuple #[dgV cmd A5 (eachEn N q).length c5, .int .i64 0], by simp [results, Tryz.results18, go_sem, r0, r1], A5, c5, ?_, ?_, ?_, hO9.kp HKR.out (by simp; omega)⟩
   ·rw [HD.out, HCM.out]
   ·rw [HD.out]
    exact Own.rdAt (by decide) En.enc_len P9
   ·intro a ha
    have := vds P9 a ha
    omega
 ·obtain rfl := hN h0
  have HD : Hid (decD l = (0, [], chkD l)) := Lib.hid (by unfold decD; rw [if_neg h0])
  clear hY hN h0
  go_wp2_with fail
  show Leaves _ _ _ _ _ _ _
  refine leaves_cons (f := 64) (args := #[.pointer (some ⟨b, 0, none⟩), .pointer (some ⟨b + 1, 0, none⟩)]) (by simp) (by simp [go_sem]) ?_
  refine (vgC b (b + 1) _ _ _ (chkD l) _ C0 C1 (by omega)).mono ?_
  rintro e u' wz ⟨rfl, rfl, D0, D1, hO⟩
  have r0 := Blk.f D0 rfl
  have r1 := Blk.f D1 rfl
  show Leaves _ _ _ _ [] .returning _
  refine ⟨.tuple #[dgV 0 none 0 0, .int .i64 (chkD l)], by simp [results, Tryz.results18, go_sem, r0, r1], none, 0, ?_, ?_, (fun a h => by cases h), hO.kp k1 (by simp; omega)⟩
  ·rw [HD.out]
   rfl
  ·rw [HD.out]
   exact Rd.nil _ _ _ _
end

section
open Go.RowKit
section
variable {P : Program} {o : Oper} {a : Act} {w : World} {K : Act → World → Prop} {Q : Exit → Act → World → Prop} {T : TypeId}
end
structure RetG (V0 : World) (C : List (Nat × TypeId × Nat × Value × Value)) (F : List (Nat × Value)) (T : List (Nat × Nat × Value)) (D : List Deferred) (S : Nat) (L : Nat → Bool) (a : Act) (V : World) : Prop where
 only : Only (C.map (·.1)) V0 V
 df : a.defers = D
 sz : a.tmps.size = S
 fx : ∀ e ∈ F, a.tmps.getD e.1 undef = e.2
 tm : ∀ e ∈ T, L e.1 = true → a.tmps.getD e.2.1 undef = e.2.2
 cs : ∀ e ∈ C, Blk V e.1 e.2.1 #[if L e.2.2.1 = true then e.2.2.2.2 else e.2.2.2.1]
section
variable {V0 : World} {C : List (Nat × TypeId × Nat × Value × Value)} {F : List (Nat × Value)} {T : List (Nat × Nat × Value)} {D : List Deferred} {S : Nat} {L : Nat → Bool} {a : Act} {V : World}
theorem RetG.st (h : RetG V0 C F T D S L a V) {b t i : Nat} {v u : Value} (hm : (b, t, i, v, u) ∈ C) (hC : ∀ e ∈ C, e.2.2.1 = i → e = (b, t, i, v, u)) (hB : ∀ e ∈ C, e.2.2.1 ≠ i → e.1 ≠ b) (hT : ∀ e ∈ T, e.1 ≠ i) :
  RetG V0 C F T D S (fun j => j == i || L j) a (V.setCell ⟨b, 0, none⟩ u) := by
 refine ⟨h.only.setCell (.inl (List.mem_map.2 ⟨_, hm, rfl⟩)) u, h.df, h.sz, h.fx, fun e he hl => h.tm e he ?_, fun e he => ?_⟩
 ·have hn : (e.1 == i) = false := by simpa using hT e he
  simpa [hn] using hl
 ·by_cases hi : e.2.2.1 = i
  ·have he2 := hC e he hi
   subst he2
   have := (h.cs _ hm).set_ 0 u
   simpa using this
  ·have hn : (e.2.2.1 == i) = false := by simpa using hi
   have := (h.cs e he).far (p := ⟨b, 0, none⟩) (hB e he hi) u
   simpa [hn] using this
end
theorem vdt {α : Type} {enc : α → List Value} {F : Fence} {nn : Nat} {P : Program} {t e e' : TypeId} {z : Value} {size bytes : Nat} (E : ElemOf P t e z size bytes) (henc : ∀ x, (enc x).length = size) (hone : ∀ x, ∀ u ∈ enc x, u.oneCell' = true)
  {W : World} {ops : Array Oper} {rest : List Oper} {o : Oper} {a : Act} {Q : Exit → Act → World → Prop}
  (hgd : o.guard = none) (s x : Operand) (ho : o.op = .call { callee := .builtin .append, args := #[s, x], argTypes := #[t, t] })
  {base : Nat} {v : Value} {xs : List α} {news : List Value} (y : α) (hs : a.eval s = v) (hown : Own W base e size enc v xs) (hbase : base ≤ W.heap.size)
  {N : Nat} (hx : a.eval x = .slice (some ⟨N, 0, none⟩) 1 1) (hN : N = W.heap.size) (hnews : news = enc y) (hfit : (xs.length + 1) * (bytes + 1) ≤ 140737488355328)
  (h : ∀ v' w', Own w' base e size enc v' (xs ++ [y]) → W.grownBy w' v.ownBlock → (v'.ownBlock = v.ownBlock ∨ v'.ownBlock = some (W.heap.size + 1)) → wpListIn F nn P ops Q rest (a.put o.dst v') w') : wpListIn F nn P ops Q (o :: rest) a (W.alloc (.cells news.toArray e')) := by
 subst hN
 have hrd : Rd (W.alloc (.cells news.toArray e')) size enc (some ⟨W.heap.size, 0, none⟩) [y] :=
  Rd.of_blk (Blk.new W e' news.toArray) E.2.2.2 henc (by simp [maxLen]) (by simp [hnews])
 refine wpListIn_plain hgd fun K hK' => ?_
 obtain ⟨v', w', hrun, r1, r2, r3⟩ := vdl E o.type henc hone (hown.alloc (.cells news.toArray e')) hrd (by simpa using hfit) (by simp; omega)
 unfold Oper.wpIn
 refine ⟨?_, ?_⟩
 ·simp [Oper.about, ho, resolve, Target.leads, Sem.run_pure]
 ·rw [Oper.semAt_plain F _ _ (by rw [ho]; intro c hc'; cases hc')]
  have hx1 : a.eval x = .slice (some ⟨W.heap.size, 0, none⟩) [y].length 1 := hx
  simp [execOp, ho, resolve, invoke, builtin, hs, hx, Result.andThen]
  simp only [List.length_singleton] at hrun
  rw [hrun]
  refine hK' _ _ (h v' w' r1 (vbs r2) ?_)
  simpa using r3
theorem vcu {α : Type} {enc : α → List Value} {P : Program} {t e e' : TypeId} {z : Value} {size bytes : Nat} (E : ElemOf P t e z size bytes) (henc : ∀ x, (enc x).length = size) (hone : ∀ x, ∀ u ∈ enc x, u.oneCell' = true)
  {W : World} {ops : Array Oper} {rest : List Oper} {o : Oper} {a : Act} {Q : Exit → Act → World → Prop}
  (hgd : o.guard = none) (s x : Operand) (ho : o.op = .call { callee := .builtin .append, args := #[s, x], argTypes := #[t, t] })
  {base : Nat} {v : Value} {xs : List α} {news : List Value} (y : α) (hs : a.eval s = v) (hown : Own W base e size enc v xs) (hbase : base ≤ W.heap.size)
  {N : Nat} (hx : a.eval x = .slice (some ⟨N, 0, none⟩) 1 1) (hN : N = W.heap.size) (hnews : news = enc y) (hfit : (xs.length + 1) * (bytes + 1) ≤ 140737488355328)
  (h : ∀ v' w', Own w' base e size enc v' (xs ++ [y]) → W.grownBy w' v.ownBlock → (v'.ownBlock = v.ownBlock ∨ v'.ownBlock = some (W.heap.size + 1)) → wpList P ops Q rest (a.put o.dst v') w') : wpList P ops Q (o :: rest) a (W.alloc (.cells news.toArray e')) := by
 subst hN
 have hrd : Rd (W.alloc (.cells news.toArray e')) size enc (some ⟨W.heap.size, 0, none⟩) [y] :=
  Rd.of_blk (Blk.new W e' news.toArray) E.2.2.2 henc (by simp [maxLen]) (by simp [hnews])
 refine wpList_plain hgd fun K hK' => ?_
 obtain ⟨v', w', hrun, r1, r2, r3⟩ := vdl E o.type henc hone (hown.alloc (.cells news.toArray e')) hrd (by simpa using hfit) (by simp; omega)
 unfold Oper.wp
 have hx1 : a.eval x = .slice (some ⟨W.heap.size, 0, none⟩) [y].length 1 := hx
 simp [execOp, ho, resolve, invoke, builtin, hs, hx, Result.andThen]
 simp only [List.length_singleton] at hrun
 rw [hrun]
 refine hK' _ _ (h v' w' r1 (vbs r2) ?_)
 simpa using r3
end

end Go.Proofs.YtgopnfacklmkaaaGreatDoor
