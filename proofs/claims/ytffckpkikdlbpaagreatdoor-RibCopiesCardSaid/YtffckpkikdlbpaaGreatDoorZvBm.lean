/- Lemmas and contracts for the theorem of this claim: LwD, LwE. -/
import Derived.Test.YtffckpkikdlbpaaGreatDoorZvBl
set_option linter.all false
set_option maxHeartbeats 16000000
namespace Go.Proofs.YtffckpkikdlbpaaGreatDoor
section
open Go.RowKit Go.Maps
def Wk3 (w W : World) (B t b3 : Nat) (T : Tb) (x : Rt) (n : Int) (bs : List Nat) (s4 s5 : Value) (wx : World) : Prop := ∃ d, s4 = .pointer (some ⟨d, 0, none⟩) ∧ s5 = .int .i64 n ∧ Blk wx d 48 (roC x) ∧ TS w wx B t T (d :: bs) ∧ Sm bs W wx
theorem Wk3.new {w W Y : World} {B t b3 : Nat} {T : Tb} {x : Rt} {n : Int} {bs : List Nat} (S : TS w Y B t T bs) (M : Sm bs W Y) : Wk3 w W B t b3 T x n bs (.pointer (some ⟨Y.heap.size, 0, none⟩)) (.int .i64 n) (Y.alloc (.cells (roC x) 48)) :=
 ⟨_, rfl, rfl, Blk.new _ _ _, S.add ((Kp.refl _).alloc _) (cs := [Y.heap.size]) (by simp), M.trans (Sm.of_kp ((Kp.refl _).alloc _) S.lt)⟩
theorem Wk3.old {w W Y : World} {B t b3 d : Nat} {T : Tb} {x : Rt} {n : Int} {bs : List Nat} (S : TS w Y B t T (d :: bs)) (M : Sm bs W Y) (hd : w.heap.size ≤ d) (hn : d ∉ bs) (E : Blk Y d 48 zero9) : Wk3 w W B t b3 T x n bs (.pointer (some ⟨d, 0, none⟩)) (.int .i64 n) (roSet Y d x) :=
 ⟨d, rfl, rfl, E.putRo x, S.other (cs := [d]) (fun b hb => by
  simp only [List.mem_cons, List.not_mem_nil, or_false] at hb
  subst hb
  exact ⟨List.mem_cons_self, hd, _, _, E, by decide⟩) ((Only.refl [d] Y).putRo (.inl (by simp)) x), fun b hb => by
  have hne : b ≠ d := fun e => hn (e ▸ hb)
  rw [((Only.refl [d] Y).putRo (g := d) (.inl (by simp)) x).block b (S.lt b (List.mem_cons_of_mem _ hb)) (by simpa using hne)]
  exact M b hb⟩
set_option maxRecDepth 100000 in
theorem vcw (w : World) (hC : CapAt w) (hF : FacAt w) : Calls Tryz.prog 10 #[] w fun e w' => e = .returned (.bool true) ∧ Kp w w' := by
 have HCA := Lib.hid hC
 have HFA := Lib.hid hF
 clear hC hF
 go_enter Tryz.func10, Tryz.ntmps10
 go_wp2_with fail
 refine (net_1 w).mono ?_
 rintro e w1 ⟨rfl, K1⟩
 obtain ⟨g, hg⟩ : ∃ g, w1.heap.size = g := ⟨_, rfl⟩
 obtain ⟨W1, hW1, k1, B1⟩ := Blk.al1 hg #[.int .u32 167837696, .int .i64 16] 29
 go_wp2_with fail
 try rw [hg]
 clear hW1 hg
 have kW1 := K1.trans k1
 have hSl : SlPI W1 (some ⟨g, 0, none⟩) 1 [netP 1] := ⟨Rd.of_blk B1 (by decide) PI.len (by decide) rfl, Nat.le_refl _, fun h => by cases h⟩
 refine (vgj wkC (some ⟨g, 0, none⟩) 1 W1 hSl (HCA.out.keep kW1) (by decide) wk_ok).mono ?_
 rintro e w2 ⟨t, F, rfl, hM, K2⟩
 have HT := Lib.hid (TS.new (bs := []) kW1 hM K2 (by simp) (Good.new wk_ok (by decide)) HCA.out HFA.out)
 rw [vnJ] at HT
 obtain ⟨B, hB⟩ : ∃ B, W1.heap.size = B := ⟨_, rfl⟩
 rw [hB] at HT
 clear hM hB hSl B1 K2
 go_wp2_with fail
 obtain ⟨b3, hb3⟩ : ∃ b3, w2.heap.size = b3 := ⟨_, rfl⟩
 obtain ⟨W, hW, kW, BH0⟩ := Blk.al1 hb3 #[.int .i64 0, .int .u32 167772418, .int .i64 2] 31
 rw [hW, hb3]
 have HS := Lib.hid (HT.out.add kW (cs := [b3]) (by simpa [hb3] using BH0.lt))
 rw [List.append_nil] at HS
 have BH := Lib.hid BH0
 obtain ⟨h0, h1, h2⟩ := Blk.v3 BH0 (.int .i64 0) (.int .u32 167772418) (.int .i64 2) rfl
 clear hW hb3 BH0 kW
 obtain ⟨x5, hx5⟩ : ∃ x, wk5 = x := ⟨_, rfl⟩
 obtain ⟨x0, hx0⟩ : ∃ x, zeroR = x := ⟨_, rfl⟩
 have H1 : Hid (∀ (V : World) (bs : List Nat), TS w V B t (wkT [ownR (netP 1)] 0 0) bs → Calls Tryz.prog 23 #[.pointer (some ⟨t, 0, none⟩), .agg #[.int .u32 168099840, .int .i64 16], .agg #[.int .i64 0, .int .u32 167772418, .int .i64 2], .int .i64 10] V (TurnP w V B t (wkT [ownR (netP 1), wk5] 10 0) bs (.tuple #[.agg #[.int .u32 (x5.p.a : Int), .int .i64 x5.p.l, .int .i64 x5.s, .int .i64 x5.m, .int .i64 x5.l, .int .i64 x5.f, .int .u32 (x5.x : Int), .int .i64 x5.d, .bool x5.c], .int .i64 0]))) := by
  refine Lib.hid (fun V bs S => ?_)
  have := vjn w V B t _ bs S (netP 5) wkH 10 ⟨by decide, by decide, by decide⟩ (by decide)
  rw [wk_1, hx5] at this
  rw [hx5]
  exact this
 have H2 : Hid (∀ (V : World) (bs : List Nat), TS w V B t (wkT [ownR (netP 1), wk5] 10 0) bs → Calls Tryz.prog 23 #[.pointer (some ⟨t, 0, none⟩), .agg #[.int .u32 168165376, .int .i64 16], .agg #[.int .i64 0, .int .u32 167772418, .int .i64 2], .int .i64 11] V (TurnP w V B t (wkT [ownR (netP 1), wk5] 11 1) bs (.tuple #[.agg #[.int .u32 (x0.p.a : Int), .int .i64 x0.p.l, .int .i64 x0.s, .int .i64 x0.m, .int .i64 x0.l, .int .i64 x0.f, .int .u32 (x0.x : Int), .int .i64 x0.d, .bool x0.c], .int .i64 200]))) := by
  refine Lib.hid (fun V bs S => ?_)
  have := vjn w V B t _ bs S (netP 6) wkH 11 ⟨by decide, by decide, by decide⟩ (by decide)
  rw [wk_2, hx0] at this
  exact this
 have HX5 := Lib.hid hx5
 have HX0 := Lib.hid hx0
 clear hx5 hx0
 go_cut [4, 5] from 29 (fun s4 s5 wx => Wk3 w W B t b3 (wkT [ownR (netP 1), wk5] 10 0) x5 0 [b3] s4 s5 wx)
 case first =>
  have hw0 := HS.out.kp.size
  have hlt := HS.out.lt
  have hb3l := hlt b3 (by simp)
  go_region_held3 (fun w' => w'.cell? ⟨b3, 0, none⟩ = some (.int .i64 0) ∧ w'.cell? ⟨b3, 1, none⟩ = some (.int .u32 167772418) ∧ w'.cell? ⟨b3, 2, none⟩ = some (.int .i64 2))
   (first | exact ⟨HR.cell 0, HR.cell 1, HR.cell 2⟩ | exact ⟨HY.cell 0, HY.cell 1, HY.cell 2⟩ | exact ⟨(HY.alloc _).cell 0, (HY.alloc _).cell 1, (HY.alloc _).cell 2⟩ | exact ⟨KN.cell h0, KN.cell h1, KN.cell h2⟩ | exact ⟨(KN.alloc _).cell h0, (KN.alloc _).cell h1, (KN.alloc _).cell h2⟩ | exact ⟨(Kp.refl W).drew.cell h0, (Kp.refl W).drew.cell h1, (Kp.refl W).drew.cell h2⟩ | exact ⟨((Kp.refl W).alloc _).drew.cell h0, ((Kp.refl W).alloc _).drew.cell h1, ((Kp.refl W).alloc _).drew.cell h2⟩ | exact ⟨((Kp.refl W).alloc _).cell h0, ((Kp.refl W).alloc _).cell h1, ((Kp.refl W).alloc _).cell h2⟩ | go_keep)
   (first | (go_at_call 38; refine (net_5 _).mono ?_; rintro e wn ⟨rfl, hKn⟩; have KN : Kp W wn := (show Kp W _ from (by first | exact (Kp.refl W).drew | exact ((Kp.refl W).alloc _).drew | exact (Kp.refl W).alloc _ | exact Kp.refl W)).trans hKn; (try (have EN : Blk wn W.heap.size 48 #[.int .u32 0, .int .i64 0, .int .i64 0, .int .i64 0, .int .i64 0, .int .i64 0, .int .u32 0, .int .i64 0, .bool false] := ((Blk.new W 48 #[.int .u32 0, .int .i64 0, .int .i64 0, .int .i64 0, .int .i64 0, .int .i64 0, .int .u32 0, .int .i64 0, .bool false]).drew).keep hKn))) | (go_at_call 23; first | (have hEl := EN.lt; have S1 : TS w wn B t _ (W.heap.size :: [b3]) := HS.out.add KN (cs := [W.heap.size]) (by simpa using hEl); ((with_reducible refine (H1.out wn _ S1).mono ?_)); rintro e Y ⟨rfl, SY, MY⟩; have EY := MY.blk List.mem_cons_self (EN); have HY := MY.blk (b := b3) (by simp) (BH.out.keep (KN)); have y0 : Y.cell? ⟨W.heap.size, 0, none⟩ = some (.int .u32 0) := EY.cell 0; have f0 := EY.frozen 0; have y1 : Y.cell? ⟨W.heap.size, 1, none⟩ = some (.int .i64 0) := EY.cell 1; have f1 := EY.frozen 1; have y2 : Y.cell? ⟨W.heap.size, 2, none⟩ = some (.int .i64 0) := EY.cell 2; have f2 := EY.frozen 2; have y3 : Y.cell? ⟨W.heap.size, 3, none⟩ = some (.int .i64 0) := EY.cell 3; have f3 := EY.frozen 3; have y4 : Y.cell? ⟨W.heap.size, 4, none⟩ = some (.int .i64 0) := EY.cell 4; have f4 := EY.frozen 4; have y5 : Y.cell? ⟨W.heap.size, 5, none⟩ = some (.int .i64 0) := EY.cell 5; have f5 := EY.frozen 5; have y6 : Y.cell? ⟨W.heap.size, 6, none⟩ = some (.int .u32 0) := EY.cell 6; have f6 := EY.frozen 6; have y7 : Y.cell? ⟨W.heap.size, 7, none⟩ = some (.int .i64 0) := EY.cell 7; have f7 := EY.frozen 7; have y8 : Y.cell? ⟨W.heap.size, 8, none⟩ = some (.bool false) := EY.cell 8; have f8 := EY.frozen 8; obtain ⟨R, hR, HR, HREL⟩ : ∃ R, roSet Y W.heap.size x5 = R ∧ Blk R b3 31 #[.int .i64 0, .int .u32 167772418, .int .i64 2] ∧ Wk3 w W B t b3 (wkT [ownR (netP 1), wk5] 10 0) x5 0 [b3] (.pointer (some ⟨W.heap.size, 0, none⟩)) (.int .i64 0) R := ⟨_, rfl, Blk.putRo_far HY (by omega) x5, Wk3.old SY ((Sm.of_kp (KN) HS.out.lt).trans (MY.cut (by simp))) (by omega) (by intro z; have := hlt _ z; omega) EY⟩; unfold roSet at hR) | (have hEl := KN.size; have S1 : TS w (wn.alloc (.cells #[.int .u32 0, .int .i64 0, .int .i64 0, .int .i64 0, .int .i64 0, .int .i64 0, .int .u32 0, .int .i64 0, .bool false] 48)) B t _ (wn.heap.size :: [b3]) := HS.out.add (KN.alloc _) (cs := [wn.heap.size]) (by simpa using hEl); ((with_reducible refine (H1.out (wn.alloc (.cells #[.int .u32 0, .int .i64 0, .int .i64 0, .int .i64 0, .int .i64 0, .int .i64 0, .int .u32 0, .int .i64 0, .bool false] 48)) _ S1).mono ?_)); rintro e Y ⟨rfl, SY, MY⟩; have EY := MY.blk List.mem_cons_self (Blk.new wn 48 #[.int .u32 0, .int .i64 0, .int .i64 0, .int .i64 0, .int .i64 0, .int .i64 0, .int .u32 0, .int .i64 0, .bool false]); have HY := MY.blk (b := b3) (by simp) (BH.out.keep (KN.alloc _)); have y0 : Y.cell? ⟨wn.heap.size, 0, none⟩ = some (.int .u32 0) := EY.cell 0; have f0 := EY.frozen 0; have y1 : Y.cell? ⟨wn.heap.size, 1, none⟩ = some (.int .i64 0) := EY.cell 1; have f1 := EY.frozen 1; have y2 : Y.cell? ⟨wn.heap.size, 2, none⟩ = some (.int .i64 0) := EY.cell 2; have f2 := EY.frozen 2; have y3 : Y.cell? ⟨wn.heap.size, 3, none⟩ = some (.int .i64 0) := EY.cell 3; have f3 := EY.frozen 3; have y4 : Y.cell? ⟨wn.heap.size, 4, none⟩ = some (.int .i64 0) := EY.cell 4; have f4 := EY.frozen 4; have y5 : Y.cell? ⟨wn.heap.size, 5, none⟩ = some (.int .i64 0) := EY.cell 5; have f5 := EY.frozen 5; have y6 : Y.cell? ⟨wn.heap.size, 6, none⟩ = some (.int .u32 0) := EY.cell 6; have f6 := EY.frozen 6; have y7 : Y.cell? ⟨wn.heap.size, 7, none⟩ = some (.int .i64 0) := EY.cell 7; have f7 := EY.frozen 7; have y8 : Y.cell? ⟨wn.heap.size, 8, none⟩ = some (.bool false) := EY.cell 8; have f8 := EY.frozen 8; obtain ⟨R, hR, HR, HREL⟩ : ∃ R, roSet Y wn.heap.size x5 = R ∧ Blk R b3 31 #[.int .i64 0, .int .u32 167772418, .int .i64 2] ∧ Wk3 w W B t b3 (wkT [ownR (netP 1), wk5] 10 0) x5 0 [b3] (.pointer (some ⟨wn.heap.size, 0, none⟩)) (.int .i64 0) R := ⟨_, rfl, Blk.putRo_far HY (by omega) x5, Wk3.old SY ((Sm.of_kp (KN.alloc _) HS.out.lt).trans (MY.cut (by simp))) (by omega) (by intro z; have := hlt _ z; omega) EY⟩; unfold roSet at hR) | (((with_reducible refine (H1.out wn [b3] (HS.out.keep KN)).mono ?_)); rintro e Y ⟨rfl, SY, MY⟩; have HY := MY.blk (b := b3) (by simp) (BH.out.keep KN); have MS := (Sm.of_kp KN HS.out.lt).trans MY)))
  all_goals
   go_wp2_with fail
   go_meet
   case rel => first | exact HREL | exact Wk3.new SY MS
 case rest =>
  obtain ⟨d4, rfl, rfl, B4, S4, M4⟩ := hcut
  have BH4 := Lib.hid (M4.blk (by simp) BH.out)
  have HB4 := Lib.hid B4
  have HS4 := Lib.hid S4
  clear h0 h1 h2 B4 S4 M4
  obtain ⟨h0, h1, h2⟩ := Blk.v3 BH4.out (.int .i64 0) (.int .u32 167772418) (.int .i64 2) rfl
  obtain ⟨X, hX⟩ : ∃ X, wc = X := ⟨_, rfl⟩
  subst hX
  go_upto_region 4 with (fail)
  go_cut [6, 7] from 36 (fun s4 s5 wx => Wk3 w wc B t b3 (wkT [ownR (netP 1), wk5] 11 1) x0 200 [d4, b3] s4 s5 wx)
  case first =>
   have hw0 := HS4.out.kp.size
   have hlt := HS4.out.lt
   have hb3l := hlt b3 (by simp)
   go_region_held3 (fun w' => w'.cell? ⟨b3, 0, none⟩ = some (.int .i64 0) ∧ w'.cell? ⟨b3, 1, none⟩ = some (.int .u32 167772418) ∧ w'.cell? ⟨b3, 2, none⟩ = some (.int .i64 2))
    (first | exact ⟨HR.cell 0, HR.cell 1, HR.cell 2⟩ | exact ⟨HY.cell 0, HY.cell 1, HY.cell 2⟩ | exact ⟨(HY.alloc _).cell 0, (HY.alloc _).cell 1, (HY.alloc _).cell 2⟩ | exact ⟨KN.cell h0, KN.cell h1, KN.cell h2⟩ | exact ⟨(KN.alloc _).cell h0, (KN.alloc _).cell h1, (KN.alloc _).cell h2⟩ | exact ⟨(Kp.refl wc).drew.cell h0, (Kp.refl wc).drew.cell h1, (Kp.refl wc).drew.cell h2⟩ | exact ⟨((Kp.refl wc).alloc _).drew.cell h0, ((Kp.refl wc).alloc _).drew.cell h1, ((Kp.refl wc).alloc _).drew.cell h2⟩ | exact ⟨((Kp.refl wc).alloc _).cell h0, ((Kp.refl wc).alloc _).cell h1, ((Kp.refl wc).alloc _).cell h2⟩ | go_keep)
    (first | (go_at_call 38; refine (net_6 _).mono ?_; rintro e wn ⟨rfl, hKn⟩; have KN : Kp wc wn := (show Kp wc _ from (by first | exact (Kp.refl wc).drew | exact ((Kp.refl wc).alloc _).drew | exact (Kp.refl wc).alloc _ | exact Kp.refl wc)).trans hKn; (try (have EN : Blk wn wc.heap.size 48 #[.int .u32 0, .int .i64 0, .int .i64 0, .int .i64 0, .int .i64 0, .int .i64 0, .int .u32 0, .int .i64 0, .bool false] := ((Blk.new wc 48 #[.int .u32 0, .int .i64 0, .int .i64 0, .int .i64 0, .int .i64 0, .int .i64 0, .int .u32 0, .int .i64 0, .bool false]).drew).keep hKn))) | (go_at_call 23; first | (have hEl := EN.lt; have S1 : TS w wn B t _ (wc.heap.size :: [d4, b3]) := HS4.out.add KN (cs := [wc.heap.size]) (by simpa using hEl); ((with_reducible refine (H2.out wn _ S1).mono ?_)); rintro e Y ⟨rfl, SY, MY⟩; have EY := MY.blk List.mem_cons_self (EN); have HY := MY.blk (b := b3) (by simp) (BH4.out.keep (KN)); have y0 : Y.cell? ⟨wc.heap.size, 0, none⟩ = some (.int .u32 0) := EY.cell 0; have f0 := EY.frozen 0; have y1 : Y.cell? ⟨wc.heap.size, 1, none⟩ = some (.int .i64 0) := EY.cell 1; have f1 := EY.frozen 1; have y2 : Y.cell? ⟨wc.heap.size, 2, none⟩ = some (.int .i64 0) := EY.cell 2; have f2 := EY.frozen 2; have y3 : Y.cell? ⟨wc.heap.size, 3, none⟩ = some (.int .i64 0) := EY.cell 3; have f3 := EY.frozen 3; have y4 : Y.cell? ⟨wc.heap.size, 4, none⟩ = some (.int .i64 0) := EY.cell 4; have f4 := EY.frozen 4; have y5 : Y.cell? ⟨wc.heap.size, 5, none⟩ = some (.int .i64 0) := EY.cell 5; have f5 := EY.frozen 5; have y6 : Y.cell? ⟨wc.heap.size, 6, none⟩ = some (.int .u32 0) := EY.cell 6; have f6 := EY.frozen 6; have y7 : Y.cell? ⟨wc.heap.size, 7, none⟩ = some (.int .i64 0) := EY.cell 7; have f7 := EY.frozen 7; have y8 : Y.cell? ⟨wc.heap.size, 8, none⟩ = some (.bool false) := EY.cell 8; have f8 := EY.frozen 8; obtain ⟨R, hR, HR, HREL⟩ : ∃ R, roSet Y wc.heap.size x0 = R ∧ Blk R b3 31 #[.int .i64 0, .int .u32 167772418, .int .i64 2] ∧ Wk3 w wc B t b3 (wkT [ownR (netP 1), wk5] 11 1) x0 200 [d4, b3] (.pointer (some ⟨wc.heap.size, 0, none⟩)) (.int .i64 200) R := ⟨_, rfl, Blk.putRo_far HY (by omega) x0, Wk3.old SY ((Sm.of_kp (KN) HS4.out.lt).trans (MY.cut (by simp))) (by omega) (by intro z; have := hlt _ z; omega) EY⟩; unfold roSet at hR) | (have hEl := KN.size; have S1 : TS w (wn.alloc (.cells #[.int .u32 0, .int .i64 0, .int .i64 0, .int .i64 0, .int .i64 0, .int .i64 0, .int .u32 0, .int .i64 0, .bool false] 48)) B t _ (wn.heap.size :: [d4, b3]) := HS4.out.add (KN.alloc _) (cs := [wn.heap.size]) (by simpa using hEl); ((with_reducible refine (H2.out (wn.alloc (.cells #[.int .u32 0, .int .i64 0, .int .i64 0, .int .i64 0, .int .i64 0, .int .i64 0, .int .u32 0, .int .i64 0, .bool false] 48)) _ S1).mono ?_)); rintro e Y ⟨rfl, SY, MY⟩; have EY := MY.blk List.mem_cons_self (Blk.new wn 48 #[.int .u32 0, .int .i64 0, .int .i64 0, .int .i64 0, .int .i64 0, .int .i64 0, .int .u32 0, .int .i64 0, .bool false]); have HY := MY.blk (b := b3) (by simp) (BH4.out.keep (KN.alloc _)); have y0 : Y.cell? ⟨wn.heap.size, 0, none⟩ = some (.int .u32 0) := EY.cell 0; have f0 := EY.frozen 0; have y1 : Y.cell? ⟨wn.heap.size, 1, none⟩ = some (.int .i64 0) := EY.cell 1; have f1 := EY.frozen 1; have y2 : Y.cell? ⟨wn.heap.size, 2, none⟩ = some (.int .i64 0) := EY.cell 2; have f2 := EY.frozen 2; have y3 : Y.cell? ⟨wn.heap.size, 3, none⟩ = some (.int .i64 0) := EY.cell 3; have f3 := EY.frozen 3; have y4 : Y.cell? ⟨wn.heap.size, 4, none⟩ = some (.int .i64 0) := EY.cell 4; have f4 := EY.frozen 4; have y5 : Y.cell? ⟨wn.heap.size, 5, none⟩ = some (.int .i64 0) := EY.cell 5; have f5 := EY.frozen 5; have y6 : Y.cell? ⟨wn.heap.size, 6, none⟩ = some (.int .u32 0) := EY.cell 6; have f6 := EY.frozen 6; have y7 : Y.cell? ⟨wn.heap.size, 7, none⟩ = some (.int .i64 0) := EY.cell 7; have f7 := EY.frozen 7; have y8 : Y.cell? ⟨wn.heap.size, 8, none⟩ = some (.bool false) := EY.cell 8; have f8 := EY.frozen 8; obtain ⟨R, hR, HR, HREL⟩ : ∃ R, roSet Y wn.heap.size x0 = R ∧ Blk R b3 31 #[.int .i64 0, .int .u32 167772418, .int .i64 2] ∧ Wk3 w wc B t b3 (wkT [ownR (netP 1), wk5] 11 1) x0 200 [d4, b3] (.pointer (some ⟨wn.heap.size, 0, none⟩)) (.int .i64 200) R := ⟨_, rfl, Blk.putRo_far HY (by omega) x0, Wk3.old SY ((Sm.of_kp (KN.alloc _) HS4.out.lt).trans (MY.cut (by simp))) (by omega) (by intro z; have := hlt _ z; omega) EY⟩; unfold roSet at hR) | (((with_reducible refine (H2.out wn [d4, b3] (HS4.out.keep KN)).mono ?_)); rintro e Y ⟨rfl, SY, MY⟩; have HY := MY.blk (b := b3) (by simp) (BH4.out.keep KN); have MS := (Sm.of_kp KN HS4.out.lt).trans MY)))
   all_goals
    go_wp2_with fail
    go_meet
    case rel => first | exact HREL | exact Wk3.new SY MS
  case rest =>
   obtain ⟨d6, rfl, rfl, B6, S6, M6⟩ := hcut
   have HB4b := Lib.hid (M6.blk (b := d4) (by simp) HB4.out)
   have HS6 := Lib.hid (S6.cut (cs := [d4]) (by simp))
   obtain ⟨F6, hT6, _⟩ := S6.tm
   clear h0 h1 h2 B6 S6 M6 HB4 HS4 HS BH BH4 H1 H2
   go_upto_region 6 with (first | (go_at_call 24; refine (vem B t F6 _ _ hT6).mono ?_; rintro e w' ⟨rfl, hw'⟩; rw [hw']; clear hw' w') | (go_at_call 20; refine (vdo B t F6 _ _ hT6).mono ?_; rintro e w' ⟨rfl, hw'⟩; rw [hw']; clear hw' w'))
   go_wp2_with fail
   refine (veS B t F6 _ _ hT6).mono ?_
   rintro e w7 ⟨rfl, K7⟩
   rw [show nextV (wkT [ownR (netP 1), wk5] 11 1).l = .tuple #[.int .i64 16, .bool true] from wk_n]
   have HB7 := Lib.hid (HB4b.out.keep K7)
   have HS7 := Lib.hid (HS6.out.keep K7)
   clear hT6 HB4b HS6 K7
   go_wp2_with fail
   refine (vjo w w7 B t _ _ HS7.out 16).mono ?_
   rw [wk_3]
   rintro e w8 ⟨rfl, S8, M8⟩
   have HB8 := Lib.hid (M8.blk (b := d4) (by simp) HB7.out)
   have HS8 := Lib.hid S8
   clear S8 M8 HB7 HS7
   go_wp2_with fail
   refine (net_5 _).mono ?_
   rintro e w9 ⟨rfl, K9⟩
   have HB9 := Lib.hid (HB8.out.keep K9)
   have HS9 := Lib.hid (HS8.out.keep K9)
   obtain ⟨F9, hT9, _⟩ := HS9.out.tm
   clear HB8 HS8 K9
   go_wp2_with fail
   refine (vkQ B t F9 _ (netP 5) w9 hT9 ⟨by decide, by decide, by decide⟩).mono ?_
   rintro e wA ⟨rfl, KA⟩
   rw [show getR (netP 5) (wkT [ownR (netP 1), wk6] 16 1).l = some wk6 from wk_g]
   obtain ⟨x6, hx6⟩ : ∃ x, wk6 = x := ⟨_, rfl⟩
   have HX6 := Lib.hid hx6
   simp only [Option.getD_some, Option.isSome_some, hx6]
   obtain ⟨dA, hdA⟩ : ∃ d, wA.heap.size = d := ⟨_, rfl⟩
   obtain ⟨WA, hWA, kWA, BA0⟩ := Blk.al1 hdA (roC x6) 48
   have HBA := Lib.hid ((HB9.out.keep KA).keep kWA)
   have HCA2 := Lib.hid BA0
   have HSA : Hid (TS w WA B t (wkT [ownR (netP 1), wk6] 16 1) [dA, d4]) := Lib.hid ((HS9.out.keep KA).add kWA (cs := [dA]) (by simpa [hdA] using BA0.lt))
   unfold roC at hWA
   clear hx6 BA0 kWA KA HB9 HS9 hT9
   go_wp2_with fail
   try rw [hWA]
   try rw [hdA]
   clear hWA hdA
   refine (vjo w WA B t _ _ HSA.out 20).mono ?_
   rw [wk_4]
   rintro e wB ⟨rfl, SB, MB⟩
   have HBB := Lib.hid (MB.blk (b := d4) (by simp) HBA.out)
   have HCB := Lib.hid (MB.blk (b := dA) (by simp) HCA2.out)
   have HSB := Lib.hid SB
   clear SB MB HBA HCA2 HSA
   go_wp2_with fail
   refine (vjo w wB B t _ _ HSB.out 23).mono ?_
   rw [wk_5]
   rintro e wC ⟨rfl, SC, MC⟩
   have HBC := Lib.hid (MC.blk (b := d4) (by simp) HBB.out)
   have HCC := Lib.hid (MC.blk (b := dA) (by simp) HCB.out)
   have HSC := Lib.hid SC
   obtain ⟨FC, hTC, _⟩ := HSC.out.tm
   have HTC := Lib.hid hTC
   clear SC MC HBB HCB HSB hTC
   go_wp2_with fail
   refine (vds B t FC _ wC HTC.out).mono ?_
   rw [show newsL (wkT [ownR (netP 1)] 23 1).l = [ownR (netP 1)] from wk_c]
   rintro e wD ⟨AD, cD, rfl, hOD, KD⟩
   obtain ⟨gD, rfl⟩ : ∃ g, AD = some ⟨g, 0, none⟩ := by
    rcases hOD.2 with ⟨h, _⟩ | ⟨g, _, _, hv, _⟩
    ·injection h with _ h; cases h
    ·injection hv with hv; exact ⟨g, hv⟩
   obtain ⟨_, _, hvD, hRD⟩ := hOD.rd (by decide) Rt.len
   injection hvD with e1 _ e3
   subst e1 e3
   have HRD := Lib.hid hRD
   have HBD := Lib.hid (HBC.out.keep KD)
   have HCD := Lib.hid (HCC.out.keep KD)
   have HTD := Lib.hid (HTC.out.keep KD)
   have HKD := Lib.hid ((HSC.out.keep KD).kp)
   have heq := fun u => vfl u 167837696 16 167837696 16
   rw [show ((167837696 : Int) == 167837696 && (16 : Int) == 16) = true by decide] at heq
   have HX5b := HX5.out
   have HX6b := HX6.out
   subst HX5b HX6b
   clear hOD hRD KD HBC HCC HSC HTC
   go_upto_region 12 with (fail)
   refine' vag (fun (_ : Unit) _ V9 => Kp _ V9) [75, 76, 77, 78, 79, 80, 81, 82, 83, 84, 85, 86, 87, 88, 89, 90, 91, 92, 93, 94, 95, 96, 97, 98, 99, 100, 101, 102, 103, 104, 105, 106, 107, 108, 109, 110, 111, 112, 113, 114, 115, 116, 117, 118, 119, 120, 121, 122, 123, 124, 125, 126, 127, 128, 129, 130, 131, 132, 133, 134, 135, 136, 137, 138, 139, 140, 141, 142, 143, 144, 145, 146, 147, 148, 149, 150, 151, 152, 153, 154, 155, 156, 157, 158, 159, 160, 161, 162, 0] (fun (_ : Unit) => [.int .i64 0, .int .i64 0, .int .i64 0, .int .i64 0, .int .i64 0, .int .i64 0, .int .i64 0, .int .i64 0, .int .i64 0, .int .i64 0, .int .i64 0, .int .i64 0, .int .i64 0, .int .i64 0, .bool true, .bool true, .pointer (some ⟨d4, 2, none⟩), .int .i64 2, .bool true, .bool true, .bool true, .pointer (some ⟨d4, 3, none⟩), .int .i64 3, .bool true, .bool true, .bool true, .int .i64 200, .int .i64 200, .bool true, .bool true, .bool true, .int .i64 2, .bool true, .bool true, .bool true, .int .i64 1, .bool true, .bool true, .bool true, .int .i64 16, .bool true, .bool true, .bool true, .bool true, .bool true, .bool true, .int .i64 1, .bool true, .bool true, .bool true, .bool true, .bool true, .bool true, .pointer (some ⟨dA, 2, none⟩), .int .i64 3, .bool true, .bool true, .bool true, .pointer (some ⟨dA, 3, none⟩), .int .i64 16, .bool true, .bool true, .bool true, .int .i64 1, .bool true, .bool true, .bool true, .int .i64 1, .bool true, .bool true, .bool true, .pointer (some ⟨t, 0, none⟩), .int .i64 1, .bool true, .bool true, .bool true, .slice (some ⟨gD, 0, none⟩) 1 cD, .int .i64 1, .bool true, .bool true, .bool true, .slice (some ⟨gD, 0, none⟩) 1 cD, .pointer (some ⟨gD, 0, none⟩), .pointer (some ⟨gD, 0, none⟩), .agg #[.int .u32 167837696, .int .i64 16], .agg #[.int .u32 167837696, .int .i64 16], .bool true, .bool true, .bool true]) (List.replicate 89 true) [] (by kernel_rfl) (by kernel_rfl) (fun _ => rfl) (fun _ => rfl) (fun _ => rfl) () (Kp.refl _).drew (fun _ _ _ _ _ h => h) ?_ ?_ ?_
   rotate_left
   ·intro z; simp only [List.zip_cons_cons, List.zip_nil_right, wrC, wrN, List.set_cons_zero, List.set_cons_succ, List.set_nil]; rfl
   ·repeat' (first | refine And.intro ?_ ?_ | exact trivial)
    all_goals intro z L a w9 hLi d hcl hM hO K hK
    all_goals try (go_simp; exact hK z _ _ (hO rfl) (fun _ _ => rfl) rfl)
    ·go_simp
     refine (vaP _ _).mono ?_
     rintro e wb ⟨rfl, rfl⟩
     have hKc := Kp.refl w9
     exact hK z _ _ (hM.trans hKc) (fun _ _ => rfl) rfl
    ·go_simp
     refine (vaP _ _).mono ?_
     rintro e wb ⟨rfl, rfl⟩
     have hKc := Kp.refl w9
     exact hK z _ _ (hM.trans hKc) (fun _ _ => rfl) rfl
    ·go_simp
     refine (vaP _ _).mono ?_
     rintro e wb ⟨rfl, rfl⟩
     have hKc := Kp.refl w9
     exact hK z _ _ (hM.trans hKc) (fun _ _ => rfl) rfl
    ·go_simp
     refine (vaP _ _).mono ?_
     rintro e wb ⟨rfl, rfl⟩
     have hKc := Kp.refl w9
     exact hK z _ _ (hM.trans hKc) (fun _ _ => rfl) rfl
    ·go_simp
     refine (vaP _ _).mono ?_
     rintro e wb ⟨rfl, rfl⟩
     have hKc := Kp.refl w9
     exact hK z _ _ (hM.trans hKc) (fun _ _ => rfl) rfl
    ·have c0 : w9.cell? ⟨d4, 2, none⟩ = some (.int .i64 2) := (HBD.out.keep hM).cell 2
     go_simp
     exact hK z _ _ (hO rfl) (fun _ _ => rfl) rfl
    ·have c0 : w9.cell? ⟨d4, 3, none⟩ = some (.int .i64 3) := (HBD.out.keep hM).cell 3
     go_simp
     exact hK z _ _ (hO rfl) (fun _ _ => rfl) rfl
    ·go_simp
     refine (vaP _ _).mono ?_
     rintro e wb ⟨rfl, rfl⟩
     have hKc := Kp.refl w9
     exact hK z _ _ (hM.trans hKc) (fun _ _ => rfl) rfl
    ·have c0 : w9.cell? ⟨dA, 2, none⟩ = some (.int .i64 3) := (HCD.out.keep hM).cell 2
     go_simp
     exact hK z _ _ (hO rfl) (fun _ _ => rfl) rfl
    ·have c0 : w9.cell? ⟨dA, 3, none⟩ = some (.int .i64 16) := (HCD.out.keep hM).cell 3
     go_simp
     exact hK z _ _ (hO rfl) (fun _ _ => rfl) rfl
    ·go_simp
     refine (vem B t FC _ w9 (HTD.out.keep hM)).mono ?_
     rintro e wb ⟨rfl, hwb⟩
     rw [hwb]
     have hKc := Kp.refl w9
     exact hK z _ _ (hM.trans hKc) (fun _ _ => rfl) rfl
    ·obtain ⟨b9, off9, e9, hc9⟩ := (HRD.out.keep hM) 0 (by simp)
     injection e9 with e9
     injection e9 with e9 e10
     subst e9 e10
     have c0 : w9.cell? ⟨gD, 0, none⟩ = some (.int .u32 167837696) := hc9 0 _ rfl
     have c1 : w9.cell? ⟨gD, 1, none⟩ = some (.int .i64 16) := hc9 1 _ rfl
     go_simp
     exact hK z _ _ (hO rfl) (fun _ _ => rfl) rfl
    ·go_simp
     refine (net_1 _).mono ?_
     rintro e wb ⟨rfl, hKc⟩
     exact hK z _ _ (hM.trans hKc) (fun _ _ => rfl) rfl
   intro z L w9 hL KV
   (try simp only [Exit.then])
   go_wp2_with fail
   go_ret
   exact ⟨rfl, HKD.out.trans KV⟩
attribute [local go_sem] Oper.semAt_some
theorem vff (bx : Nat) (w : World) : (binOp .eql 42 (.func (.func 42) #[] #[.pointer (some ⟨bx, 0, none⟩)]) .nilFunc).run Tryz.prog w = .ok (.bool false) w := by kernel_rfl
theorem vhz {W : World} {r : Nat} (hd : W.heap[r]? = some (.deferred (some []))) {K : World → Prop} (h : ∀ W', Only [r] W W' → K W') : Takes [{ target := .collected r, args := #[] }] W K :=
 ⟨r, rfl, hd, h _ ((Only.refl [r] W).putObj (by simp) _)⟩
structure RwS (w : World) (sl : Value) (m n : Int) (C : Prop) (W : World) : Prop where
 k : Kp w W
 s : Blk W w.heap.size 37 #[sl]
 m : Blk W (w.heap.size + 1) 3 #[.int .i64 m]
 o : Blk W (w.heap.size + 1 + 1) 4 #[.bool false]
 n : Blk W (w.heap.size + 1 + 1 + 1) 3 #[.int .i64 n]
 c : C
theorem RwS.only {w W W' : World} {sl : Value} {m n : Int} {C : Prop} {bs : List Nat} (h : RwS w sl m n C W) (hO : Only bs W W') (hb : ∀ b ∈ bs, w.heap.size + 1 + 1 + 1 < b) : RwS w sl m n C W' :=
 have far : ∀ x, x ≤ w.heap.size + 1 + 1 + 1 → x ∉ bs := fun x hx hm => by have := hb x hm; omega
 ⟨hO.kp h.k (fun b hm => by have := hb b hm; omega), h.s.only hO (far _ (by omega)), h.m.only hO (far _ (by omega)), h.o.only hO (far _ (by omega)), h.n.only hO (far _ (by omega)), h.c⟩
theorem RwS.keep {w W W' : World} {sl : Value} {m n : Int} {C : Prop} (h : RwS w sl m n C W) (k : Kp W W') : RwS w sl m n C W' := ⟨h.k.trans k, h.s.keep k, h.m.keep k, h.o.keep k, h.n.keep k, h.c⟩
theorem RwS.next {w W : World} {sl : Value} {m n : Int} {C : Prop} (h : RwS w sl m n C W) (n' : Int) {C' : Prop} (hC : C') : RwS w sl m n' C' (W.setCell ⟨w.heap.size + 1 + 1 + 1, 0, none⟩ (.int .i64 n')) :=
 ⟨h.k.setCell (by simp <;> omega) _, h.s.far (by simp <;> omega) _, h.m.far (by simp <;> omega) _, h.o.far (by simp <;> omega) _, by simpa using h.n.set_ 0 (.int .i64 n'), hC⟩
set_option maxRecDepth 100000 in
theorem vlq (bx : Nat) (A A2 : Option Addr) (c c2 : Nat) (L : List Rt) (m : Int) (w : World) (hM : AllM bx A c L w) (hR : Rd w 9 Rt.enc A2 L) (hn : L.length ≤ 900000) (hm : -9223372036854775808 ≤ m ∧ m < 9223372036854775808) :
  Calls Tryz.prog 15 #[allV bx, .slice A2 L.length c2, .int .i64 m] w fun e w' => e = .returned (.bool true) ∧ Kp w w' := by
 have HM := Lib.hid hM
 have HR := Lib.hid hR
 obtain ⟨hm0, hm1⟩ := hm
 clear hM hR
 unfold allV
 have hsn := vff bx
 refine calls_of_wp_marks Tryz.func15 rfl ?_; simp only [Tryz.ntmps15, List.size_toArray, List.length_cons, List.length_nil, Nat.reduceAdd, Nat.reduceSub, Array.replicate_succ, Array.replicate_zero, List.push_toArray, List.append_toArray, List.nil_append, List.cons_append]
 go_wp2_with fail
 clear hsn
 obtain ⟨ws, hws, S0, hsz0⟩ : ∃ ws, ((((w.alloc (.cells #[.slice A2 L.length c2] 37)).alloc (.cells #[.int .i64 m] 3)).alloc (.cells #[.bool false] 4)).alloc (.cells #[.int .i64 0] 3)) = ws ∧ RwS w (.slice A2 L.length c2) m 0 ((0 : Int) = 0 ∨ (0 : Int) < m) ws ∧ ws.heap.size = w.heap.size + 1 + 1 + 1 + 1 := by
  refine ⟨_, rfl, ⟨((((Kp.refl _).alloc _).alloc _).alloc _).alloc _, (((Blk.new w _ _).alloc _).alloc _).alloc _, ((Blk.new1 w _ _ _).alloc _).alloc _, (Blk.new2 w _ _ _ _).alloc _, Blk.new3 w _ _ _ _ _, .inl rfl⟩, by simp⟩
 rw [hws]
 have Hsz := Lib.hid hsz0
 clear hws hsz0
 refine vdq (N := L.length) rfl vjh (vjj bx A c L hn) (fun _ _ => rfl)
  (fun k W => RwS w (.slice A2 L.length c2) m k (k = 0 ∨ (k : Int) < m) W)
  (fun k W => RwS w (.slice A2 L.length c2) m k ((k : Int) = max 1 m) W)
  (fun W => RwS w (.slice A2 L.length c2) m (min L.length (max 1 m)) True W)
  ?_ ?_ (fun _ _ h => HM.out.keep h.k) ?_ ?_ ?_ ?_ ?_
 ·intro k W W' h hO
  rw [Hsz.out] at hO
  exact h.only hO (by simp)
 ·intro k W W' h hO
  rw [Hsz.out] at hO
  exact h.only hO (by simp)
 ·exact ⟨S0.k, S0.s, S0.m, S0.o, S0.n, .inl rfl⟩
 ·rintro W h
  have e : min (L.length : Int) (max 1 m) = (L.length : Int) := by have := h.c; omega
  exact ⟨h.k, h.s, h.m, h.o, by rw [e]; exact h.n, trivial⟩
 ·rintro k W hk0 hkN h
  have e : min (L.length : Int) (max 1 m) = (k : Int) := by have := h.c; omega
  exact ⟨h.k, h.s, h.m, h.o, by rw [e]; exact h.n, trivial⟩
 ·rintro l k W hk h hsW
  rw [Hsz.out] at hsW
  have HI := Lib.hid h
  rw [vji hk]
  obtain ⟨r, hr⟩ : ∃ r, L[k] = r := ⟨_, rfl⟩
  rw [hr]
  have HRK := Lib.hid hr
  clear h hr
  gi_wp2_with fail
  refine ⟨?_, fun U => Blk U W.heap.size 48 (roC r) ∧ RwS w (.slice A2 L.length c2) m k (k = 0 ∨ (k : Int) < m) U, ⟨Blk.new _ _ _, HI.out.keep ((Kp.refl _).alloc _)⟩, ?_, ?_⟩
  ·rw [Kept2, Hsz.out]
   exact ⟨Below.heap_alloc _ _ _ (by omega), Below.heap_alloc _ _ _ (by omega)⟩
  ·rintro V V' ⟨h0, h1⟩ hO
   rw [Hsz.out] at hO
   exact ⟨h0.only hO (by simp <;> omega), h1.only hO (by simp)⟩
  ·rintro W2 ⟨h0, h1⟩ hsz
   rw [Hsz.out] at hsz
   have HB := Lib.hid h0
   have HS := Lib.hid h1
   have hgi : (k : Int) < (L.length : Int) := by omega
   have hg0 : (0 : Int) ≤ (k : Int) := by omega
   have hne := vlM r r
   rw [decide_eq_true rfl] at hne
   clear h0 h1
   refine wpIn_block ?_
   repeat refine wpIn_seq ?_
   refine vgB 16 (by kernel_rfl) (by kernel_rfl) (by kernel_rfl) (vlz (vlz (vcK vez))) (fun V hV => ?_)
   have KV : Kp W2 V := by rw [hV]; exact (Kp.refl _).drew
   have BV := HB.out.keep KV
   have SV := HS.out.keep KV
   have r0 := Blk.f BV rfl
   have OV : Kept2 ws W2 V := by rw [hV]; exact ⟨rfl, rfl⟩
   obtain ⟨b, off, hA, x0, x1, x2, x3, x4, x5, x6, x7, x8⟩ := vaU (HR.out.keep SV.k) hk
   rw [HRK.out] at x0 x1 x2 x3 x4 x5 x6 x7 x8
   subst hA
   clear hV
   have g0 : V.cell? ⟨w.heap.size, 0, none⟩ = some (.slice (some ⟨b, off, none⟩) L.length c2) := SV.s.cell 0
   have g3 : V.cell? ⟨w.heap.size + 1 + 1 + 1, 0, none⟩ = some (.int .i64 k) := SV.n.cell 0
   simp only [List.take_succ_cons, List.take_zero, List.drop_succ_cons, List.drop_zero]
   repeat still_step
   refine wpStill_nil ?_
   go_wp2_with fail
   have z3 := Blk.frozen SV.n
   have g1 : V.cell? ⟨w.heap.size + 1, 0, none⟩ = some (.int .i64 m) := SV.m.cell 0
   have hlt := SV.m.lt
   have hvs := KV.size
   have kept : ∀ u, Kept2 ws W2 (V.setCell ⟨w.heap.size + 1 + 1 + 1, 0, none⟩ u) := fun u => ⟨(Below.heap_setCell _ _ _ _ (by simp [Hsz.out])).trans OV.1, (Below.heap_setCell _ _ _ _ (by simp [Hsz.out] <;> omega)).trans OV.2⟩
   have Hkept := Lib.hid kept
   have HK := Lib.hid SV.c
   have HN : ∀ C : Prop, C → RwS w (.slice (some ⟨b, off, none⟩) L.length c2) m (↑(k + 1)) C (V.setCell ⟨w.heap.size + 1 + 1 + 1, 0, none⟩ (.int .i64 (k + 1))) := fun C hC => by rw [show ((k + 1 : Nat) : Int) = (k : Int) + 1 from rfl]; exact SV.next _ hC
   have HNN := Lib.hid HN
   clear kept HN x0 x1 x2 x3 x4 x5 x6 x7 x8 r0 hne KV BV OV SV
   by_cases hm : m ≤ (k : Int) + 1
   ·gi_wp2_with fail
    exact ⟨Hkept.out _, rfl, HNN.out _ (by have := HK.out; omega)⟩
   ·gi_wp2_with fail
    exact ⟨Hkept.out _, HNN.out _ (by omega)⟩
 ·rintro W h hd
  rw [Hsz.out] at hd ⊢
  have g0 : W.cell? ⟨w.heap.size, 0, none⟩ = some (.slice A2 L.length c2) := h.s.cell 0
  have g1 : W.cell? ⟨w.heap.size + 1, 0, none⟩ = some (.int .i64 m) := h.m.cell 0
  have g2 : W.cell? ⟨w.heap.size + 1 + 1, 0, none⟩ = some (.bool false) := h.o.cell 0
  have z2 := Blk.frozen h.o
  have g3 : W.cell? ⟨w.heap.size + 1 + 1 + 1, 0, none⟩ = some (.int .i64 (min L.length (max 1 m))) := h.n.cell 0
  have KW := h.k
  have O2 := h.o.set_ 0 (.bool true)
  have K2 : Kp w (W.setCell ⟨w.heap.size + 1 + 1, 0, none⟩ (.bool true)) := KW.setCell (by simp <;> omega) _
  have hd2 : (W.setCell ⟨w.heap.size + 1 + 1, 0, none⟩ (.bool true)).heap[w.heap.size + 1 + 1 + 1 + 1]? = some (.deferred (some [])) := (Below.heap_setCell _ _ _ _ (by simp <;> omega)).trans hd
  have HD := Lib.hid hd2
  have HO2 := Lib.hid O2
  have HK2 := Lib.hid K2
  clear hd2 O2 K2 hd KW h
  obtain ⟨N, hN⟩ : ∃ N, min (L.length : Int) (max 1 m) = N := ⟨_, rfl⟩
  rw [hN] at g3
  go_wp2_with fail
  refine vhz HD.out (fun W' hO => ?_)
  have u0 : W'.cell? ⟨w.heap.size + 1 + 1, 0, none⟩ = some (.bool true) := (HO2.out.only hO (by simp)).cell 0
  refine ⟨.bool true, ?_, rfl, hO.kp HK2.out (by simp <;> omega)⟩
  simp [results, Tryz.results15, go_sem, u0]
end

end Go.Proofs.YtffckpkikdlbpaaGreatDoor
