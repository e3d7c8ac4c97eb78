/- Lemmas and contracts for the theorem of this claim: R12D, R12E. -/
import Derived.Test.YtffckpkikdlbpaaGreatDoorZvBc
set_option linter.all false
set_option maxHeartbeats 16000000
namespace Go.Proofs.YtffckpkikdlbpaaGreatDoor
section
open Go.RowKit
theorem Rt.one12 (r : Rt) : ∀ v ∈ r.enc, v.oneCell' = true := by
 intro v hv
 unfold Rt.enc at hv
 simp only [List.mem_cons, List.not_mem_nil, or_false] at hv
 rcases hv with rfl | rfl | rfl | rfl | rfl | rfl | rfl | rfl | rfl <;> rfl
theorem Rd.putC {W : World} {g : Nat} {cur : Array Value} {xs : List Rt} (hB : Blk W g 48 cur) (h : Rd W 9 Rt.enc (some ⟨g, 0, none⟩) xs) {k : Nat} (hk : k < xs.length) : Rd (W.setCell ⟨g, k * 9 + 8, none⟩ (.bool false)) 9 Rt.enc (some ⟨g, 0, none⟩) (xs.set k (seenR xs[k])) := by
 intro i hi
 rw [List.length_set] at hi
 obtain ⟨b, off, e, hc⟩ := h i hi
 injection e with e
 injection e with e1 e2
 subst e1 e2
 refine ⟨g, 0, rfl, fun j u hu => ?_⟩
 have hB2 := hB.set_ (k * 9 + 8) (.bool false)
 rw [hB2.cell, Array.getElem?_setIfInBounds]
 have h8 : cur[0 + k * 9 + 8]? = some (.bool xs[k].c) := by
  obtain ⟨b3, off3, e3, hc3⟩ := h k hk
  injection e3 with e3
  injection e3 with e4 e5
  subst e4 e5
  rw [← hB.cell]
  exact hc3 8 _ rfl
 rw [Nat.zero_add] at h8
 have hj : j < 9 := by
  obtain ⟨h1, _⟩ := List.getElem?_eq_some_iff.1 hu
  rw [Rt.len] at h1
  exact h1
 by_cases hik : i = k
 ·subst hik
  rw [List.getElem_set_self] at hu
  by_cases hj8 : j = 8
  ·subst hj8
   have : u = .bool false := by
    have h2 : (Rt.enc (seenR xs[i]))[8]? = some (.bool false) := rfl
    rw [h2] at hu
    exact (Option.some.inj hu).symm
   subst this
   rw [if_pos (by omega), if_pos (Array.getElem?_eq_some_iff.1 h8).1]
  ·rw [if_neg (by omega)]
   have h2 : (Rt.enc xs[i])[j]? = some u := by
    rw [← hu]
    have : j = 0 ∨ j = 1 ∨ j = 2 ∨ j = 3 ∨ j = 4 ∨ j = 5 ∨ j = 6 ∨ j = 7 := by omega
    rcases this with rfl | rfl | rfl | rfl | rfl | rfl | rfl | rfl <;> rfl
   rw [← hB.cell]
   exact hc j u h2
 ·rw [List.getElem_set_ne (fun z => hik z.symm)] at hu
  rw [if_neg (by omega)]
  rw [← hB.cell]
  exact hc j u hu
theorem vfG {fn : Func} {k j g : Nat} {ts : Array Value} {W : World} {T : Tb} {A E : Option Addr} {m n : Nat} {v : Value} (hf : fn.results = #[.cell k 39, .tmp j]) (hk : ts.getD k undef = .pointer (some ⟨g, 0, none⟩)) (hj : ts.getD j undef = v) (B : Blk W g 39 (tbR T A E m n)) : (results fn ts).run Tryz.prog W = .ok (.tuple #[tbV T A E m n, v]) W := by
 obtain ⟨u0, u1, u2, u3, u4, u5, u6, u7, u8, u9, u10, u11⟩ := vbj B
 rw [Array.getD_eq_getD_getElem?] at hk hj
 simp [results, hf, hk, hj, go_sem, u0, u1, u2, u3, u4, u5, u6, u7, u8, u9, u10, u11]
theorem Only.set12 {bs : List Nat} {w W : World} {g : Nat} {v0 v1 v2 v3 v4 v5 v6 v7 v8 v9 v10 v11 : Value} (k : Only bs w W) (h : g ∈ bs) : Only bs w ((((((((((((W.setCell ⟨g, 0, none⟩ v0).setCell ⟨g, 1, none⟩ v1).setCell ⟨g, 2, none⟩ v2).setCell ⟨g, 3, none⟩ v3).setCell ⟨g, 4, none⟩ v4).setCell ⟨g, 5, none⟩ v5).setCell ⟨g, 6, none⟩ v6).setCell ⟨g, 7, none⟩ v7).setCell ⟨g, 8, none⟩ v8).setCell ⟨g, 9, none⟩ v9).setCell ⟨g, 10, none⟩ v10).setCell ⟨g, 11, none⟩ v11) :=
 (((((((((((k.setCell (.inl h) _).setCell (.inl h) _).setCell (.inl h) _).setCell (.inl h) _).setCell (.inl h) _).setCell (.inl h) _).setCell (.inl h) _).setCell (.inl h) _).setCell (.inl h) _).setCell (.inl h) _).setCell (.inl h) _).setCell (.inl h) _
theorem Rd.set12 {α : Type} {W : World} {g sz : Nat} {enc : α → List Value} {A : Option Addr} {xs : List α} {v0 v1 v2 v3 v4 v5 v6 v7 v8 v9 v10 v11 : Value} (h : Rd W sz enc A xs) (hA : ∀ a, A = some a → a.block ≠ g) : Rd ((((((((((((W.setCell ⟨g, 0, none⟩ v0).setCell ⟨g, 1, none⟩ v1).setCell ⟨g, 2, none⟩ v2).setCell ⟨g, 3, none⟩ v3).setCell ⟨g, 4, none⟩ v4).setCell ⟨g, 5, none⟩ v5).setCell ⟨g, 6, none⟩ v6).setCell ⟨g, 7, none⟩ v7).setCell ⟨g, 8, none⟩ v8).setCell ⟨g, 9, none⟩ v9).setCell ⟨g, 10, none⟩ v10).setCell ⟨g, 11, none⟩ v11) sz enc A xs := fun i hi => by
 obtain ⟨b, off, e, hc⟩ := h i hi
 have hb : b ≠ g := hA ⟨b, off, none⟩ e
 exact ⟨b, off, e, fun j u hu => (Only.set12 (Only.refl [g] W) (by simp)).cell (hc j u hu) (by simpa using hb)⟩
def SeR (W : World) (L : List Rt) (A : Option Addr) (k : Nat) (V : World) : Prop := Rd V 9 Rt.enc A ((L.take k).map seenR ++ L.drop k) ∧ (∀ a, A = some a → a = ⟨a.block, 0, none⟩ ∧ W.heap.size ≤ a.block ∧ ∃ cur, Blk V a.block 48 cur) ∧ Kp W V
theorem viY {L : List Rt} {k : Nat} (hk : k < L.length) : ((L.take k).map seenR ++ L.drop k).set k (seenR L[k]) = (L.take (k + 1)).map seenR ++ L.drop (k + 1) := by
 rw [List.take_succ_eq_append_getElem hk, List.map_append, List.set_append_right _ _ (by rw [List.length_map, List.length_take]; omega)]
 have : k - ((L.take k).map seenR).length = 0 := by rw [List.length_map, List.length_take]; omega
 rw [this, List.drop_eq_getElem_cons hk, List.set_cons_zero]
 simp
theorem vlf {L : List Rt} {k : Nat} (hk : k < L.length) (h : k < ((L.take k).map seenR ++ L.drop k).length) : ((L.take k).map seenR ++ L.drop k)[k] = L[k] := by
 rw [List.getElem_append_right (by rw [List.length_map, List.length_take]; omega)]
 simp
 congr 1
 omega
theorem vgq (L : List Rt) (k : Nat) : ((L.take k).map seenR ++ L.drop k).length = L.length := by
 rw [List.length_append, List.length_map, List.length_take, List.length_drop]
 omega
set_option maxRecDepth 100000 in
theorem vfH (T : Tb) (A E : Option Addr) (m n : Nat) (w : World) (hR : Rd w 9 Rt.enc E T.l) (hn : T.l.length ≤ 900000) :
  Calls Tryz.prog 47 #[tbV T A E m n] w fun e w' => ∃ E2 n2, e = .returned (.tuple #[tbV (seenT T).1 A E2 m n2, .int .i64 (seenT T).2]) ∧ Stays w w' E T.l E2 (seenT T).1.l ∧ Kp w w' := by
 obtain ⟨b, hb⟩ : ∃ b, w.heap.size = b := ⟨_, rfl⟩
 obtain ⟨W, hW, kW, B0, B1⟩ : ∃ W, (w.alloc (.cells (tbR T A E m n) 39)).alloc (.cells zero12 39) = W ∧ Kp w W ∧ Blk W b 39 (tbR T A E m n) ∧ Blk W (b + 1) 39 (tbR zeroTb none none 0 0) := ⟨_, rfl, ((Kp.refl _).alloc _).alloc _, by rw [← hb]; exact (Blk.new _ _ _).alloc _, by rw [← hb]; exact Blk.new1 _ _ _ _⟩
 have HR := Lib.hid (hR.keep kW)
 have HB0 := Lib.hid B0
 have HB1 := Lib.hid B1
 have HkW := Lib.hid kW
 have Hb := Lib.hid hb
 have HN := Lib.hid hn
 have u0 := Blk.f B0 rfl
 unfold tbR zero12 at hW
 clear hR B0 B1 kW hn
 go_enter Tryz.func47, Tryz.ntmps47
 go_wp2_with fail
 clear hW
 refine (vbL T A E m n W HR.out HN.out).mono ?_
 rintro e w1 ⟨E1, n1, rfl, -, K1⟩
 have HK1 := Lib.hid K1
 have s9 : ∀ o, (w1.alloc o).cell? ⟨b, 9, none⟩ = some (.slice E T.l.length n) := fun o => ((HB0.out.keep K1).alloc o).cell 9
 have hE : Own (w1.alloc (.cells #[] 48)) w1.heap.size 48 9 Rt.enc (.slice (some ⟨w1.heap.size, 0, none⟩) 0 0) [] := Own.empty (Nat.le_refl _) (Blk.new w1 _ _)
 have hR1 := HR.out.keep K1
 have hnn := HN.out
 clear u0 K1
 obtain ⟨N, hN⟩ : ∃ N, (newsL T.l).length = N := ⟨_, rfl⟩
 rw [hN]
 have HNL := Lib.hid hN
 clear hN
 go_upto_region 3 with (at_builtin; go_loud (refine vbO ERt12 Rt.len Rt.one12 rfl _ _ rfl rfl rfl hE (hR1.keep ((Kp.refl _).alloc _)) (by simp; omega) (by simp) ?_; intro v' w2 hown hg hat; rw [List.nil_append] at hown; have hK2 : Kp w1 w2 := ((Kp.refl w1).alloc _).grown hg (fun q hq => (World.ownsRow.lt hE q hq).1); clear hg hat hE; obtain ⟨A3, c3, rfl⟩ := hown.form))
 have S0 : SeR w1 T.l A3 0 w2 := by
  refine ⟨by simpa using hown.rdAt (by decide) Rt.len, fun a ha => ?_, hK2⟩
  rcases hown.2 with ⟨h2, _⟩ | ⟨g, cap, cur, hv, hg, hc, _⟩
  ·injection h2 with e1; rw [ha] at e1; cases e1
  ·subst ha
   injection hv with e1
   injection e1 with e1
   subst e1
   exact ⟨rfl, hg, cur, hc⟩
 have HS0 := Lib.hid S0
 clear hown hK2 S0 s9 hR1
 go_wp2_with fail
 go_loopw [6] (fun i wr => ∃ k : Nat, k ≤ T.l.length ∧ i = .int .i64 k ∧ Hid (SeR w1 T.l A3 k wr)) (fun i _ => T.l.length - (intOf i).toNat)
 case atStart => exact ⟨0, Nat.zero_le _, rfl, HS0⟩
 case round =>
  obtain ⟨k, hk, rfl, HS⟩ := hrel
  by_cases hlt : k < T.l.length
  ·have hgi : (k : Int) < (T.l.length : Int) := by omega
   have hg0 : (0 : Int) ≤ (k : Int) := by omega
   obtain ⟨b2, off, hA, c0, c1, c2, c3', c4, c5, c6, c7, c8⟩ := vaU HS.out.1 (k := k) (by rw [vgq]; exact hlt)
   obtain ⟨ho0, hsz, cur, hB⟩ := HS.out.2.1 _ hA
   subst hA
   have ho0 : off = 0 := by injection ho0
   subst ho0
   rw [Nat.zero_add] at c8
   have zc := hB.frozen (k * 9 + 8)
   have R2 : Rd (wr.setCell ⟨b2, k * 9 + 8, none⟩ (.bool false)) 9 Rt.enc (some ⟨b2, 0, none⟩) ((T.l.take (k + 1)).map seenR ++ T.l.drop (k + 1)) := by
    have := Rd.putC hB HS.out.1 (k := k) (by rw [vgq]; exact hlt)
    rw [vlf hlt, viY hlt] at this
    exact this
   have HS1 : Hid (SeR w1 T.l (some ⟨b2, 0, none⟩) (k + 1) (wr.setCell ⟨b2, k * 9 + 8, none⟩ (.bool false))) := Lib.hid ⟨R2, fun a ha => by
    injection ha with ha
    subst ha
    exact ⟨rfl, hsz, _, hB.set_ _ _⟩, HS.out.2.2.setCell (p := ⟨b2, k * 9 + 8, none⟩) hsz _⟩
   clear c0 c1 c2 c3' c4 c5 c6 c7 hB R2 hsz
   go_wp2_with fail
   go_roundw
   case rel => exact ⟨k + 1, by omega, by go_num, HS1⟩
   case measure => simp [intOf]; omega
  ·obtain rfl : k = T.l.length := by omega
   obtain ⟨hrd, hno, hK⟩ := HS.out
   rw [List.take_length, List.drop_length, List.append_nil] at hrd
   have HK := Lib.hid (HK1.out.trans hK)
   have HRD := Lib.hid hrd
   have HNO := Lib.hid hno
   clear hrd hK hno HS
   have B0k := HB0.out.keep HK.out
   have B1k := HB1.out.keep HK.out
   have z9b := B0k.frozen 9
   have s9 : wr.cell? ⟨b, 9, none⟩ = some (.slice E T.l.length n) := B0k.cell 9
   obtain ⟨V, hV, B0t, B1t, KT, RT⟩ : ∃ V, wr.setCell ⟨b, 9, none⟩ (.slice A3 T.l.length c3) = V ∧ Blk V b 39 (tbR ⟨T.c, T.l.map seenR, T.now, T.rf⟩ A A3 m c3) ∧ Blk V (b + 1) 39 (tbR zeroTb none none 0 0) ∧ Kp w V ∧ Rd V 9 Rt.enc A3 (T.l.map seenR) := ⟨_, rfl, by have := B0k.set_ 9 (.slice A3 T.l.length c3); unfold tbR at this ⊢; simpa using this, B1k.far (by simp <;> omega) _, (HkW.out.trans HK.out).setCell (by have := Hb.out; simp <;> omega) _, fun i hi => by
    obtain ⟨b5, off5, e5, hc5⟩ := HRD.out i hi
    have hs := (HNO.out _ e5).2.1
    have h1 := HK1.out.size
    have h2 := HB1.out.lt
    exact ⟨b5, off5, e5, fun j u hu => (World.cell?_of_block (w := wr) (Below.heap_setCell wr ⟨b, 9, none⟩ _ b5 (show b5 ≠ b by have : w1.heap.size ≤ b5 := hs; omega))).trans (hc5 j u hu)⟩⟩
   have HRT := Lib.hid RT
   have HKT := Lib.hid KT
   clear B0k B1k KT RT
   go_upto_region 8 with (fail)
   clear s9 z9b hV
   have u0 := Blk.f B0t rfl
   have y0 := Blk.f B1t rfl
   have z0 := Blk.frozen B1t
   have HB1t := Lib.hid B1t
   clear B0t B1t
   go_wp2_with fail
   have hgw : w.heap.size ≤ b + 1 := by have := Hb.out; omega
   refine bodyPost_ret (vfG (T := ⟨T.c, T.l.map seenR, T.now, T.rf⟩) (A := A) (E := A3) (m := m) (n := c3) rfl rfl rfl ?_) rfl ?_
   ·unfold tbR
    simp only [List.length_map]
    exact Blk.set12 HB1t.out
   ·have h2 : (seenT T).2 = (N : Int) := by unfold seenT; simp only; rw [HNL.out]
    refine ⟨A3, ⟨c3, ?_⟩, ?_, Kp.set12 HKT.out hgw⟩
    ·rw [h2]
     unfold seenT tbV
     simp
    ·refine Stays.new (Rd.set12 HRT.out (fun a ha => ?_)) (fun a ha => ?_)
     ·have h3 := (HNO.out a ha).2.1
      have h4 := HK1.out.size
      have h5 := HB1.out.lt
      omega
     ·have h3 := (HNO.out a ha).2.1
      have h4 := HK1.out.size
      have h5 := HB1.out.lt
      omega
theorem vbk {fn : Func} {k i j g : Nat} {ts : Array Value} {W : World} {T : Tb} {A E : Option Addr} {m n : Nat} {u v : Value} (hf : fn.results = #[.cell k 39, .tmp i, .tmp j]) (hk : ts.getD k undef = .pointer (some ⟨g, 0, none⟩)) (hi : ts.getD i undef = u) (hj : ts.getD j undef = v) (B : Blk W g 39 (tbR T A E m n)) : (results fn ts).run Tryz.prog W = .ok (.tuple #[tbV T A E m n, u, v]) W := by
 obtain ⟨u0, u1, u2, u3, u4, u5, u6, u7, u8, u9, u10, u11⟩ := vbj B
 rw [Array.getD_eq_getD_getElem?] at hk hi hj
 simp [results, hf, hk, hi, hj, go_sem, u0, u1, u2, u3, u4, u5, u6, u7, u8, u9, u10, u11]
def FoR (b : Nat) (L : List Rt) (z : Option Addr × Nat) (W : World) : Prop := Rd W 9 Rt.enc z.1 L ∧ ∀ a, z.1 = some a → a.block ≠ b ∧ a.block ≠ b + 1 ∧ b ≤ a.block
theorem FoR.keep {b : Nat} {L : List Rt} {z : Option Addr × Nat} {W W' : World} (h : FoR b L z W) (k : Kp W W') : FoR b L z W' := ⟨h.1.keep k, h.2⟩
theorem Rd.only12 {α : Type} {w w' : World} {sz : Nat} {enc : α → List Value} {A : Option Addr} {xs : List α} {bs : List Nat} (h : Rd w sz enc A xs) (k : Only bs w w') (hA : ∀ a, A = some a → a.block ∉ bs) : Rd w' sz enc A xs := fun i hi => by
 obtain ⟨b, off, e, hc⟩ := h i hi
 exact ⟨b, off, e, fun j u hu => k.cell (hc j u hu) (show b ∉ bs from hA ⟨b, off, none⟩ e)⟩
def foldL (T : Tb) (f now : Int) (i : Nat) : List Rt × Int := (T.l.take i).foldl (loseG T.c f now) (T.l, 0)
theorem vdP {T : Tb} {f now : Int} {i : Nat} (h : i < T.l.length) : foldL T f now (i + 1) = loseG T.c f now (foldL T f now i) T.l[i] := by
 unfold foldL
 rw [List.take_succ_eq_append_getElem h, List.foldl_append, List.foldl_cons, List.foldl_nil]
theorem vlg {T : Tb} (h : TbOk T) (f now : Int) (ht : 0 ≤ now ∧ now ≤ 4611686018426387904) (i : Nat) : TbOk ⟨T.c, (foldL T f now i).1, now, T.rf⟩ :=
 vcT h f now ht (T.l.take i) T.l 0 (fun x hx => ⟨(h.r x (List.mem_of_mem_take hx)).1, x, vay h.u (List.mem_of_mem_take hx)⟩) ⟨h.c, h.u, h.r, h.n, ht, h.f⟩
theorem viZ (T : Tb) (f now : Int) : ∀ i, 0 ≤ (foldL T f now i).2 ∧ (foldL T f now i).2 ≤ i
 | 0 => ⟨Int.le_refl _, Int.le_refl _⟩
 | i + 1 => by
  have ih := viZ T f now i
  by_cases h : i < T.l.length
  ·rw [vdP h]
   unfold loseG
   split
   ·show 0 ≤ (foldL T f now i).2 + 1 ∧ (foldL T f now i).2 + 1 ≤ _
    omega
   ·omega
  ·have : foldL T f now (i + 1) = foldL T f now i := by unfold foldL; rw [List.take_of_length_le (by omega), List.take_of_length_le (by omega)]
   rw [this]
   omega
theorem vcr {T : Tb} (h : TbOk T) : T.l.length ≤ 256 := by
 have := h.n
 have := (vaw h.c).2.1
 omega
def LfR (w : World) (E : Option Addr) (L0 : List Rt) (W : World) (b : Nat) (T : Tb) (A : Option Addr) (m : Nat) (V : World) : Prop := ∃ E2 n2, Blk V b 39 (tbR T A E2 m n2) ∧ (∀ V', RowSt w E L0 b V V' → Rd V' 9 Rt.enc E2 T.l) ∧ Only [b] W V
set_option maxRecDepth 100000 in
theorem vfI (T : Tb) (A E : Option Addr) (m n : Nat) (f now : Int) (w : World) (hR : Rd w 9 Rt.enc E T.l) (ok : TbOk T) :
  Calls Tryz.prog 45 #[tbV T A E m n, .int .i64 f, .int .i64 now] w fun e w' => ∃ E2 n2, e = .returned (.tuple #[tbV (lostT T f now).1 A E2 m n2, .int .i64 (lostT T f now).2.1, .int .i64 (lostT T f now).2.2]) ∧ Stays w w' E T.l E2 (lostT T f now).1.l ∧ Kp w w' := by
 obtain ⟨b, hb⟩ : ∃ b, w.heap.size = b := ⟨_, rfl⟩
 obtain ⟨W, hW, kW, B0, B1⟩ : ∃ W, (w.alloc (.cells (tbR T A E m n) 39)).alloc (.cells zero12 39) = W ∧ Kp w W ∧ Blk W b 39 (tbR T A E m n) ∧ Blk W (b + 1) 39 (tbR zeroTb none none 0 0) := ⟨_, rfl, ((Kp.refl _).alloc _).alloc _, by rw [← hb]; exact (Blk.new _ _ _).alloc _, by rw [← hb]; exact Blk.new1 _ _ _ _⟩
 have HR := Lib.hid (hR.keep kW)
 have HB0 := Lib.hid B0
 have HB1 := Lib.hid B1
 have HkW := Lib.hid kW
 have Hb := Lib.hid hb
 have HOK := Lib.hid ok
 have HN := Lib.hid (vcr ok)
 have HR0 := Lib.hid hR
 have u0 := Blk.f B0 rfl
 have y0 := Blk.f B1 rfl
 have z0 := Blk.frozen B1
 unfold tbR zero12 at hW
 clear hR B0 B1 kW ok
 by_cases hf0 : f < 0
 ·have d0 : decide (f < 0) = true := decide_eq_true hf0
  have HE : Hid ((lostT T f now).1 = T ∧ (lostT T f now).2.1 = 0 ∧ (lostT T f now).2.2 = 2) := Lib.hid (by
   have : ¬ withB 0 15 f = true := by rw [vaa]; omega
   unfold lostT
   rw [if_neg this]
   exact ⟨rfl, rfl, rfl⟩)
  clear hf0
  go_enter Tryz.func45, Tryz.ntmps45
  go_wp2_with fail
  have hgw : w.heap.size ≤ b + 1 := by have := Hb.out; omega
  refine bodyPost_ret (vbk (T := T) (A := A) (E := E) (m := m) (n := n) rfl rfl rfl rfl (Blk.set12 HB1.out)) rfl ?_
  obtain ⟨h1, h2, h3⟩ := HE.out
  first
  | exact ⟨E, n, by rw [h1, h2, h3] <;> rfl, by rw [h1]; exact Stays.same, Kp.set12 HkW.out hgw⟩
  | exact ⟨E, ⟨n, by rw [h1, h2, h3] <;> rfl⟩, by rw [h1]; exact Stays.same, Kp.set12 HkW.out hgw⟩
 ·have d0 : decide (f < 0) = false := decide_eq_false hf0
  by_cases hf1 : 15 < f
  ·have d1 : decide (15 < f) = true := decide_eq_true hf1
   have HE : Hid ((lostT T f now).1 = T ∧ (lostT T f now).2.1 = 0 ∧ (lostT T f now).2.2 = 2) := Lib.hid (by
    have : ¬ withB 0 15 f = true := by rw [vaa]; omega
    unfold lostT
    rw [if_neg this]
    exact ⟨rfl, rfl, rfl⟩)
   clear hf0 hf1
   go_enter Tryz.func45, Tryz.ntmps45
   go_wp2_with fail
   have hgw : w.heap.size ≤ b + 1 := by have := Hb.out; omega
   refine bodyPost_ret (vbk (T := T) (A := A) (E := E) (m := m) (n := n) rfl rfl rfl rfl (Blk.set12 HB1.out)) rfl ?_
   obtain ⟨h1, h2, h3⟩ := HE.out
   first
   | exact ⟨E, n, by rw [h1, h2, h3] <;> rfl, by rw [h1]; exact Stays.same, Kp.set12 HkW.out hgw⟩
   | exact ⟨E, ⟨n, by rw [h1, h2, h3] <;> rfl⟩, by rw [h1]; exact Stays.same, Kp.set12 HkW.out hgw⟩
  ·have d1 : decide (15 < f) = false := decide_eq_false hf1
   have HW : Hid (withB 0 15 f = true) := Lib.hid (by rw [vaa]; omega)
   clear hf0 hf1
   cases ht : timely T now with
   | false =>
    have HE : Hid ((lostT T f now).1 = T ∧ (lostT T f now).2.1 = 0 ∧ (lostT T f now).2.2 = 170) := Lib.hid (by
     unfold lostT
     rw [if_pos HW.out, ht]
     exact ⟨rfl, rfl, rfl⟩)
    have HTM := Lib.hid ht
    clear ht
    go_enter Tryz.func45, Tryz.ntmps45
    go_wp2_with fail
    refine (vaJ T A E m n now W).mono ?_
    rintro e w1 ⟨rfl, K1⟩
    rw [HTM.out]
    simp only [Bool.false_eq_true, if_false]
    have u0 := Blk.f (HB0.out.keep K1) rfl
    have y0 := Blk.f (HB1.out.keep K1) rfl
    have z0 := Blk.frozen (HB1.out.keep K1)
    go_wp2_with fail
    have hgw : w.heap.size ≤ b + 1 := by have := Hb.out; omega
    refine bodyPost_ret (vbk (T := T) (A := A) (E := E) (m := m) (n := n) rfl rfl rfl rfl (Blk.set12 (HB1.out.keep K1))) rfl ?_
    obtain ⟨h1, h2, h3⟩ := HE.out
    first
    | exact ⟨E, n, by rw [h1, h2, h3] <;> rfl, by rw [h1]; exact Stays.same, Kp.set12 (HkW.out.trans K1) hgw⟩
    | exact ⟨E, ⟨n, by rw [h1, h2, h3] <;> rfl⟩, by rw [h1]; exact Stays.same, Kp.set12 (HkW.out.trans K1) hgw⟩
   | true =>
    have HTI := Lib.hid (vam.1 ht)
    have HE : Hid (lostT T f now = (⟨T.c, (foldL T f now T.l.length).1, now, T.rf⟩, (foldL T f now T.l.length).2, 0)) := Lib.hid (by
     unfold lostT foldL
     rw [if_pos HW.out, ht, List.take_length]
     rfl)
    have HTM := Lib.hid ht
    have HB : Hid (0 ≤ now ∧ now ≤ 4611686018426387904 ∧ 0 ≤ T.c.t3 ∧ T.c.t3 ≤ 1000000) := Lib.hid (by
     have h1 := vaN HOK.out.c 3 (by omega)
     simp only [leastS, Cf.t] at h1
     have h2 := HTI.out
     omega)
    clear ht
    go_enter Tryz.func45, Tryz.ntmps45
    go_wp2_with fail
    refine (vaJ T A E m n now W).mono ?_
    rintro e w1 ⟨rfl, K1⟩
    rw [HTM.out]
    simp only [if_true]
    clear hW
    have B0k := HB0.out.keep K1
    have u0 := Blk.f B0k rfl
    have z0 := Blk.frozen B0k
    obtain ⟨w2, hw2, k2, B2, L2⟩ : ∃ w2, w1.setCell ⟨b, 10, none⟩ (.int .i64 now) = w2 ∧ Only [b] W w2 ∧ Blk w2 b 39 (tbR ⟨T.c, (foldL T f now 0).1, now, T.rf⟩ A E m n) ∧ LfR w E T.l W b ⟨T.c, (foldL T f now 0).1, now, T.rf⟩ A m w2 := by
     have k : Only [b] W (w1.setCell ⟨b, 10, none⟩ (.int .i64 now)) := (Only.of_kp K1).setCell (.inl (by simp)) _
     have B : Blk (w1.setCell ⟨b, 10, none⟩ (.int .i64 now)) b 39 (tbR ⟨T.c, (foldL T f now 0).1, now, T.rf⟩ A E m n) := by have := B0k.set_ 10 (.int .i64 now); exact this
     refine ⟨_, rfl, k, B, E, n, B, ?_, k⟩
     exact fun V' hV' => hV'.1
    have HLf := Lib.hid L2
    have HK2 := Lib.hid k2
    have HB2 := Lib.hid B2
    clear B0k K1 k2 L2
    go_upto_region 7 with (fail)
    clear hw2 u0 z0
    have u0 := Blk.f B2 rfl
    clear B2
    have hnn := HN.out
    go_wp2_with fail
    clear u0
    go_loopw [10, 12] (fun s10 s12 wr => ∃ k : Nat, k ≤ T.l.length ∧ s10 = .int .i64 (foldL T f now k).2 ∧ s12 = .int .i64 k ∧ Hid (LfR w E T.l W b ⟨T.c, (foldL T f now k).1, now, T.rf⟩ A m wr)) (fun _ s _ => T.l.length - (intOf s).toNat)
    case atStart => exact ⟨0, Nat.zero_le _, rfl, rfl, HLf⟩
    case round =>
     obtain ⟨k, hk, rfl, rfl, HL⟩ := hrel
     obtain ⟨E2, n2, hBt, hRS, hO⟩ := HL.out
     have kr : Kp w wr := hO.kp HkW.out (fun b' hb' => by have := Hb.out; simp at hb'; omega)
     have hRM := hRS _ (RowSt.of (HR0.out.keep kr) (Only.refl [] _) (by simp))
     have HRS := Lib.hid hRS
     clear hRS
     have hM := vlg HOK.out f now (by have := HTI.out; omega) k
     have hFN := viZ T f now k
     by_cases hlt : k < T.l.length
     ·have hgi : (k : Int) < (T.l.length : Int) := by omega
      have hg0 : (0 : Int) ≤ (k : Int) := by omega
      have HNX := Lib.hid (vdP (f := f) (now := now) hlt)
      obtain ⟨b2, off, hE, c0, c1, c2, c3, c4, c5, c6, c7, c8⟩ := vaU (HR0.out.keep kr) hlt
      subst hE
      obtain ⟨x, hx⟩ : ∃ x, T.l[k] = x := ⟨_, rfl⟩
      rw [hx] at c0 c1 c2 c3 c4 c5 c6 c7 c8 HNX
      have HX := Lib.hid (And.intro c0 (And.intro c1 (And.intro c2 (And.intro c3 (And.intro c4 (And.intro c5 (And.intro c6 (And.intro c7 c8))))))))
      clear hx
      obtain ⟨⟨M, N⟩, hMN⟩ : ∃ z, foldL T f now k = z := ⟨_, rfl⟩
      rw [hMN] at hBt hRM hM hFN HNX HRS ⊢
      simp only at hBt hRM hM hFN HNX HRS ⊢
      have HBt := Lib.hid hBt
      have HRM := Lib.hid hRM
      have HLM : Hid (M.length ≤ 900000) := Lib.hid (by have := vcr hM; simp only at this; omega)
      have HO := Lib.hid hO
      have hm1 : -9223372036854775808 ≤ N + 1 := by omega
      have hm2 : N + 1 ≤ 9223372036854775807 := by omega
      clear hMN hBt hRM hM hO kr HL hFN
      by_cases h2 : x.s = 2
      ·have e2 : (x.s == 2) = true := by simp [h2]
       by_cases hf : x.f = f
       ·have ef : (x.f == f) = true := by simp [hf]
        obtain ⟨R, hR⟩ : ∃ R, loseR T.c x now = R := ⟨_, rfl⟩
        have HRr := Lib.hid hR
        have HE1 := Lib.hid (show foldL T f now (k + 1) = (setR R M, N + 1) by rw [HNX.out, ← hR]; unfold loseG; rw [if_pos ⟨h2, hf⟩])
        clear HNX h2 hf hR
        go_upto_region 13 with (fail)
        clear c0 c1 c2 c3 c4 c5 c6 c7 c8
        refine' vag (fun z L V9 => (L 10 = false → Kp wr V9) ∧ (L 9 = true → FoR b (setR R M) z V9) ∧ (L 10 = true → Only [b] wr V9 ∧ Blk V9 b 39 (tbR ⟨T.c, setR R M, now, T.rf⟩ A z.1 m z.2))) [52, 53, 54, 55, 56, 57, 58, 59, 60, 61, 10010] (fun z => [.agg #[.int .i64 T.c.t0, .int .i64 T.c.t1, .int .i64 T.c.t2, .int .i64 T.c.t3, .int .i64 T.c.t4, .int .i64 T.c.t5, .int .i64 T.c.t6, .int .i64 T.c.cap, .slice A T.c.own.length m, .slice E2 (M).length n2, .int .i64 now, .int .i64 T.rf], .pointer (some ⟨b, 0, none⟩), .agg #[.int .i64 T.c.t0, .int .i64 T.c.t1, .int .i64 T.c.t2, .int .i64 T.c.t3, .int .i64 T.c.t4, .int .i64 T.c.t5, .int .i64 T.c.t6, .int .i64 T.c.cap, .slice A T.c.own.length m], .slice (some ⟨b2, off, none⟩) T.l.length n, .int .i64 k, .pointer (some ⟨b2, off + k * 9, none⟩), .agg #[.int .u32 (x.p.a : Int), .int .i64 x.p.l, .int .i64 x.s, .int .i64 x.m, .int .i64 x.l, .int .i64 x.f, .int .u32 (x.x : Int), .int .i64 x.d, .bool x.c], .int .i64 now, .agg #[.int .u32 (R.p.a : Int), .int .i64 R.p.l, .int .i64 R.s, .int .i64 R.m, .int .i64 R.l, .int .i64 R.f, .int .u32 (R.x : Int), .int .i64 R.d, .bool R.c], .agg #[.int .i64 T.c.t0, .int .i64 T.c.t1, .int .i64 T.c.t2, .int .i64 T.c.t3, .int .i64 T.c.t4, .int .i64 T.c.t5, .int .i64 T.c.t6, .int .i64 T.c.cap, .slice A T.c.own.length m, .slice z.1 (setR R M).length z.2, .int .i64 now, .int .i64 T.rf], undef]) (List.replicate 11 true) [9, 10] (by kernel_rfl) (by kernel_rfl) (fun _ => rfl) (fun _ => rfl) (fun _ => rfl) (none, 0) ⟨fun _ => (Kp.refl wr).drew, fun h => (by cases h), fun h => (by cases h)⟩ (fun z L L' _ e h => by simpa only [e 9 (by simp), e 10 (by simp)] using h) ?_ ?_ ?_
        rotate_left
        ·intro z; simp only [List.zip_cons_cons, List.zip_nil_right, wrC, wrN, List.set_cons_zero, List.set_cons_succ, List.set_nil]; rfl
        ·repeat' (first | refine And.intro ?_ ?_ | exact trivial)
         all_goals intro z L a w9 hLi d hcl hM hO K hK
         all_goals try have nS : L 10 = false := vac _ hcl (i := 10) rfl (by rfl) hLi
         all_goals try have K := hM.1 nS
         all_goals try have u0 := Blk.f (HBt.out.keep K) rfl
         all_goals try obtain ⟨q0, q1, q2, q3, q4, q5, q6, q7, q8⟩ := HX.out
         all_goals try have x0 := K.cell q0
         all_goals try have x1 := K.cell q1
         all_goals try have x2 := K.cell q2
         all_goals try have x3 := K.cell q3
         all_goals try have x4 := K.cell q4
         all_goals try have x5 := K.cell q5
         all_goals try have x6 := K.cell q6
         all_goals try have x7 := K.cell q7
         all_goals try have x8 := K.cell q8
         all_goals try clear q0 q1 q2 q3 q4 q5 q6 q7 q8
         all_goals try (go_simp; exact hK z _ _ (hO rfl) (fun _ _ => rfl) rfl)
         ·have nC : L 9 = false := vac _ hcl (i := 9) rfl (by rfl) hLi
          go_simp
          refine (vbX T.c A T.c.own.length m x now w9 (by have := HB.out; omega) (by have := HB.out; omega) (by have := HB.out; omega) (by have := HB.out; omega)).mono ?_
          rintro e9 wb ⟨rfl, hKc⟩
          rw [HRr.out]
          exact hK z _ _ ⟨fun _ => K.trans hKc, fun h => absurd h (by simp [nC]), fun h => absurd h (by simp [nS])⟩ (fun _ _ => rfl) rfl
         ·go_simp
          refine (vaV ⟨T.c, M, now, T.rf⟩ A E2 m n2 R w9 (HRM.out.keep K) HLM.out).mono ?_
          rintro e9 wb ⟨E3, n3, rfl, hrd0, hna, hKc⟩
          exact hK (E3, n3) _ _ ⟨fun _ => K.trans hKc, fun _ => ⟨hrd0, fun a ha => by have h1 := hna a ha; have h2 := (HBt.out.keep K).lt; have h3 := HB1.out.lt; have h4 := HO.out.size; have h5 := K.size; omega⟩, fun h => absurd h (by simp [nS])⟩ (but1 hLi rfl) rfl
         ·have hp := hM.1 hLi
          have hR9 := hM.2.1 (d 9 rfl)
          have hBp := HBt.out.keep hp
          have u0 := Blk.f hBp rfl
          have z0 := Blk.frozen hBp
          go_simp
          exact hK z _ _ ⟨fun h => absurd h (by simp), fun _ => ⟨Rd.set12 hR9.1 (fun a ha => (hR9.2 a ha).1), hR9.2⟩, fun _ => ⟨Only.set12 (Only.of_kp hp) (by simp), Blk.set12 hBp⟩⟩ (fun _ _ => rfl) rfl
        intro z L w9 hL hM
        (try simp only [Exit.then])
        obtain ⟨hO9, hB9⟩ := hM.2.2 (hL 10 (by decide))
        have hR9 := hM.2.1 (hL 9 (by decide))
        have HS := Lib.hid (show LfR w (some ⟨b2, off, none⟩) T.l W b ⟨T.c, (foldL T f now (k + 1)).1, now, T.rf⟩ A m w9 from ⟨z.1, z.2, by rw [HE1.out]; exact hB9, by rw [HE1.out]; exact fun V' hV' => hV'.rd hR9.1 (fun a ha => by have := hR9.2 a ha; have := Hb.out; omega), HO.out.trans hO9⟩)
        clear hM hL hO9 hB9 hR9
        go_wp2_with fail
        go_roundw
        case rel => exact ⟨k + 1, by omega, by rw [HE1.out], by go_num, HS⟩
        case measure => simp [intOf]; omega
       ·have ef : (x.f == f) = false := by simp [hf]
        have HE1 := Lib.hid (show foldL T f now (k + 1) = (M, N) by rw [HNX.out]; unfold loseG; rw [if_neg (fun z => hf z.2)])
        clear HNX h2 hf
        go_wp2_with fail
        go_roundw
        case rel => exact ⟨k + 1, by omega, by rw [HE1.out], by go_num, Lib.hid ⟨E2, n2, by rw [HE1.out]; exact HBt.out, by rw [HE1.out]; exact HRS.out, HO.out⟩⟩
        case measure => simp [intOf]; omega
      ·have e2 : (x.s == 2) = false := by simp [h2]
       have HE1 := Lib.hid (show foldL T f now (k + 1) = (M, N) by rw [HNX.out]; unfold loseG; rw [if_neg (fun z => h2 z.1)])
       clear HNX h2
       go_wp2_with fail
       go_roundw
       case rel => exact ⟨k + 1, by omega, by rw [HE1.out], by go_num, Lib.hid ⟨E2, n2, by rw [HE1.out]; exact HBt.out, by rw [HE1.out]; exact HRS.out, HO.out⟩⟩
       case measure => simp [intOf]; omega
     ·obtain rfl : k = T.l.length := by omega
      have HB9 := Lib.hid hBt
      have HR9 := Lib.hid (HB1.out.only hO (by simp))
      have HK9 := Lib.hid kr
      have HRM := Lib.hid hRM
      clear hBt hRM hM hO kr HL hFN
      have u0 := Blk.f HB9.out rfl
      have y0 := Blk.f HR9.out rfl
      have z0 := Blk.frozen HR9.out
      go_wp2_with fail
      have hgw : w.heap.size ≤ b + 1 := by have := Hb.out; omega
      refine bodyPost_ret (vbk (T := ⟨T.c, (foldL T f now T.l.length).1, now, T.rf⟩) (A := A) (E := E2) (m := m) (n := n2) rfl rfl rfl rfl (Blk.set12 HR9.out)) rfl ?_
      rw [HE.out]
      first
      | exact ⟨E2, n2, rfl, RowSt.stays HRS.out (Only.set12 (Only.refl [b + 1] _) (by simp)) (by simp), Kp.set12 HK9.out hgw⟩
      | exact ⟨E2, ⟨n2, rfl⟩, RowSt.stays HRS.out (Only.set12 (Only.refl [b + 1] _) (by simp)) (by simp), Kp.set12 HK9.out hgw⟩
end

end Go.Proofs.YtffckpkikdlbpaaGreatDoor
