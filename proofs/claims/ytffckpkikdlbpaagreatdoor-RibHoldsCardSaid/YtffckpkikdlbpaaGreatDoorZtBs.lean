/- Lemmas and contracts for the theorem of this claim: LwD. -/
import Derived.Test.YtffckpkikdlbpaaGreatDoorZtBr
set_option linter.unusedSimpArgs false
set_option linter.unusedVariables false
namespace Go.Proofs.YtffckpkikdlbpaaGreatDoor
open Go.RowKit Go.Maps
def Wk3 (w W : World) (B t b3 : Nat) (T : Tb) (x : Rt) (n : Int) (bs : List Nat) (s4 s5 : Value) (wx : World) : Prop := ∃ d, s4 = .pointer (some ⟨d, 0, none⟩) ∧ s5 = .int .i64 n ∧ Blk wx d 48 (roC x) ∧ TS w wx B t T (d :: bs) ∧ Sm bs W wx
theorem Wk3.new {w W Y : World} {B t b3 : Nat} {T : Tb} {x : Rt} {n : Int} {bs : List Nat} (S : TS w Y B t T bs) (M : Sm bs W Y) : Wk3 w W B t b3 T x n bs (.pointer (some ⟨Y.heap.size, 0, none⟩)) (.int .i64 n) (Y.alloc (.cells (roC x) 48)) :=
  ⟨_, rfl, rfl, Blk.new _ _ _, S.add ((Kp.refl _).alloc _) (cs := [Y.heap.size]) (by simp), M.trans (Sm.of_kp ((Kp.refl _).alloc _) S.lt)⟩
theorem Wk3.old {w W Y : World} {B t b3 d : Nat} {T : Tb} {x : Rt} {n : Int} {bs : List Nat} (S : TS w Y B t T (d :: bs)) (M : Sm bs W Y) (hd : w.heap.size ≤ d) (hn : d ∉ bs) (E : Blk Y d 48 zero9) : Wk3 w W B t b3 T x n bs (.pointer (some ⟨d, 0, none⟩)) (.int .i64 n) (roSet Y d x) :=
  ⟨d, rfl, rfl, E.putRo x, S.other (cs := [d]) (fun b hb => by
    simp only [List.mem_cons, List.not_mem_nil, or_false] at hb
    subst hb
    exact ⟨List.mem_cons_self, hd, _, _, E, by decide⟩) ((Only.refl [d] Y).putRo (.inl (by simp)) x), fun b hb => by
    have hne : b ≠ d := fun e => hn (e ▸ hb)
    rw [((Only.refl [d] Y).putRo (g := d) (.inl (by simp)) x).block b (S.lt b (List.mem_cons_of_mem _ hb)) (by simpa using hne)]
    exact M b hb⟩
set_option maxRecDepth 100000 in
set_option maxHeartbeats 16000000 in
theorem works_any (w : World) (hC : CapAt w) (hF : FacAt w) : Calls Tryz.prog 10 #[] w fun e w' => e = .returned (.bool true) ∧ Kp w w' := by
  have HCA := Lib.hid hC
  have HFA := Lib.hid hF
  clear hC hF
  go_enter Tryz.func10, Tryz.ntmps10
  go_wp2_with fail
  refine (net_1 w).mono ?_
  rintro e w1 ⟨rfl, K1⟩
  obtain ⟨g, hg⟩ : ∃ g, w1.heap.size = g := ⟨_, rfl⟩
  obtain ⟨W1, hW1, k1, B1⟩ : ∃ W, w1.alloc (.cells #[.int .u32 167837696, .int .i64 16] 29) = W ∧ Kp w1 W ∧ Blk W g 29 #[.int .u32 167837696, .int .i64 16] := ⟨_, rfl, (Kp.refl _).alloc _, by rw [← hg]; exact Blk.new _ _ _⟩
  go_wp2_with fail
  try rw [hg]
  clear hW1 hg
  have kW1 := K1.trans k1
  have hSl : SlPI W1 (some ⟨g, 0, none⟩) 1 [netP 1] := ⟨Rd.of_blk B1 (by decide) PI.len (by decide) rfl, Nat.le_refl _, fun h => by cases h⟩
  refine (rnew_any wkC (some ⟨g, 0, none⟩) 1 W1 hSl (HCA.out.keep kW1) (by decide) wk_ok).mono ?_
  rintro e w2 ⟨t, F, rfl, hM, K2⟩
  have HT := Lib.hid (TS.new (bs := []) kW1 hM K2 (by simp) (Good.new wk_ok (by decide)) HCA.out HFA.out)
  rw [wk_new] at HT
  obtain ⟨B, hB⟩ : ∃ B, W1.heap.size = B := ⟨_, rfl⟩
  rw [hB] at HT
  clear hM hB hSl B1 K2
  go_wp2_with fail
  obtain ⟨b3, hb3⟩ : ∃ b3, w2.heap.size = b3 := ⟨_, rfl⟩
  obtain ⟨W, hW, kW, BH0⟩ : ∃ W, w2.alloc (.cells #[.int .i64 0, .int .u32 167772418, .int .i64 2] 31) = W ∧ Kp w2 W ∧ Blk W b3 31 #[.int .i64 0, .int .u32 167772418, .int .i64 2] := ⟨_, rfl, (Kp.refl _).alloc _, by rw [← hb3]; exact Blk.new _ _ _⟩
  rw [hW, hb3]
  have HS := Lib.hid (HT.out.add kW (cs := [b3]) (by simpa [hb3] using BH0.lt))
  rw [List.append_nil] at HS
  have BH := Lib.hid BH0
  have h0 : W.cell? ⟨b3, 0, none⟩ = some (.int .i64 0) := BH0.cell 0
  have h1 : W.cell? ⟨b3, 1, none⟩ = some (.int .u32 167772418) := BH0.cell 1
  have h2 : W.cell? ⟨b3, 2, none⟩ = some (.int .i64 2) := BH0.cell 2
  clear hW hb3 BH0 kW
  obtain ⟨x5, hx5⟩ : ∃ x, wk5 = x := ⟨_, rfl⟩
  obtain ⟨x0, hx0⟩ : ∃ x, zeroR = x := ⟨_, rfl⟩
  have H1 : Hid (∀ (V : World) (bs : List Nat), TS w V B t (wkT [ownR (netP 1)] 0 0) bs → Calls Tryz.prog 23 #[.pointer (some ⟨t, 0, none⟩), .agg #[.int .u32 168099840, .int .i64 16], .agg #[.int .i64 0, .int .u32 167772418, .int .i64 2], .int .i64 10] V (TurnP w V B t (wkT [ownR (netP 1), wk5] 10 0) bs (.tuple #[.agg #[.int .u32 (x5.p.a : Int), .int .i64 x5.p.l, .int .i64 x5.s, .int .i64 x5.m, .int .i64 x5.l, .int .i64 x5.f, .int .u32 (x5.x : Int), .int .i64 x5.d, .bool x5.c], .int .i64 0]))) := by
    refine Lib.hid (fun V bs S => ?_)
    have := hear_TS w V B t _ bs S (netP 5) wkH 10 ⟨by decide, by decide, by decide⟩ (by decide)
    rw [wk_1, hx5] at this
    rw [hx5]
    exact this
  have H2 : Hid (∀ (V : World) (bs : List Nat), TS w V B t (wkT [ownR (netP 1), wk5] 10 0) bs → Calls Tryz.prog 23 #[.pointer (some ⟨t, 0, none⟩), .agg #[.int .u32 168165376, .int .i64 16], .agg #[.int .i64 0, .int .u32 167772418, .int .i64 2], .int .i64 11] V (TurnP w V B t (wkT [ownR (netP 1), wk5] 11 1) bs (.tuple #[.agg #[.int .u32 (x0.p.a : Int), .int .i64 x0.p.l, .int .i64 x0.s, .int .i64 x0.m, .int .i64 x0.l, .int .i64 x0.f, .int .u32 (x0.x : Int), .int .i64 x0.d, .bool x0.c], .int .i64 200]))) := by
    refine Lib.hid (fun V bs S => ?_)
    have := hear_TS w V B t _ bs S (netP 6) wkH 11 ⟨by decide, by decide, by decide⟩ (by decide)
    rw [wk_2, hx0] at this
    exact this
  have HX5 := Lib.hid hx5
  have HX0 := Lib.hid hx0
  clear hx5 hx0
  go_cut [4, 5] from 29 (fun s4 s5 wx => Wk3 w W B t b3 (wkT [ownR (netP 1), wk5] 10 0) x5 0 [b3] s4 s5 wx)
  case first =>
    have hw0 := HS.out.kp.size
    have hlt := HS.out.lt
    have hb3l := hlt b3 (by simp)
    go_region_held3 (fun w' => w'.cell? ⟨b3, 0, none⟩ = some (.int .i64 0) ∧ w'.cell? ⟨b3, 1, none⟩ = some (.int .u32 167772418) ∧ w'.cell? ⟨b3, 2, none⟩ = some (.int .i64 2))
      (first | exact ⟨HR.cell 0, HR.cell 1, HR.cell 2⟩ | exact ⟨HY.cell 0, HY.cell 1, HY.cell 2⟩ | exact ⟨(HY.alloc _).cell 0, (HY.alloc _).cell 1, (HY.alloc _).cell 2⟩ | exact ⟨KN.cell h0, KN.cell h1, KN.cell h2⟩ | exact ⟨(KN.alloc _).cell h0, (KN.alloc _).cell h1, (KN.alloc _).cell h2⟩ | exact ⟨(Kp.refl W).drew.cell h0, (Kp.refl W).drew.cell h1, (Kp.refl W).drew.cell h2⟩ | exact ⟨((Kp.refl W).alloc _).drew.cell h0, ((Kp.refl W).alloc _).drew.cell h1, ((Kp.refl W).alloc _).drew.cell h2⟩ | exact ⟨((Kp.refl W).alloc _).cell h0, ((Kp.refl W).alloc _).cell h1, ((Kp.refl W).alloc _).cell h2⟩ | go_keep)
      (first | (go_at_call 38; refine (net_5 _).mono ?_; rintro e wn ⟨rfl, hKn⟩; have KN : Kp W wn := (show Kp W _ from (by first | exact (Kp.refl W).drew | exact ((Kp.refl W).alloc _).drew | exact (Kp.refl W).alloc _ | exact Kp.refl W)).trans hKn; (try (have EN : Blk wn W.heap.size 48 #[.int .u32 0, .int .i64 0, .int .i64 0, .int .i64 0, .int .i64 0, .int .i64 0, .int .u32 0, .int .i64 0, .bool false] := ((Blk.new W 48 #[.int .u32 0, .int .i64 0, .int .i64 0, .int .i64 0, .int .i64 0, .int .i64 0, .int .u32 0, .int .i64 0, .bool false]).drew).keep hKn))) | (go_at_call 23; first | (have hEl := EN.lt; have S1 : TS w wn B t _ (W.heap.size :: [b3]) := HS.out.add KN (cs := [W.heap.size]) (by simpa using hEl); ((with_reducible refine (H1.out wn _ S1).mono ?_)); rintro e Y ⟨rfl, SY, MY⟩; have EY := MY.blk List.mem_cons_self (EN); have HY := MY.blk (b := b3) (by simp) (BH.out.keep (KN)); have y0 : Y.cell? ⟨W.heap.size, 0, none⟩ = some (.int .u32 0) := EY.cell 0; have f0 := EY.frozen 0; have y1 : Y.cell? ⟨W.heap.size, 1, none⟩ = some (.int .i64 0) := EY.cell 1; have f1 := EY.frozen 1; have y2 : Y.cell? ⟨W.heap.size, 2, none⟩ = some (.int .i64 0) := EY.cell 2; have f2 := EY.frozen 2; have y3 : Y.cell? ⟨W.heap.size, 3, none⟩ = some (.int .i64 0) := EY.cell 3; have f3 := EY.frozen 3; have y4 : Y.cell? ⟨W.heap.size, 4, none⟩ = some (.int .i64 0) := EY.cell 4; have f4 := EY.frozen 4; have y5 : Y.cell? ⟨W.heap.size, 5, none⟩ = some (.int .i64 0) := EY.cell 5; have f5 := EY.frozen 5; have y6 : Y.cell? ⟨W.heap.size, 6, none⟩ = some (.int .u32 0) := EY.cell 6; have f6 := EY.frozen 6; have y7 : Y.cell? ⟨W.heap.size, 7, none⟩ = some (.int .i64 0) := EY.cell 7; have f7 := EY.frozen 7; have y8 : Y.cell? ⟨W.heap.size, 8, none⟩ = some (.bool false) := EY.cell 8; have f8 := EY.frozen 8; obtain ⟨R, hR, HR, HREL⟩ : ∃ R, roSet Y W.heap.size x5 = R ∧ Blk R b3 31 #[.int .i64 0, .int .u32 167772418, .int .i64 2] ∧ Wk3 w W B t b3 (wkT [ownR (netP 1), wk5] 10 0) x5 0 [b3] (.pointer (some ⟨W.heap.size, 0, none⟩)) (.int .i64 0) R := ⟨_, rfl, Blk.putRo_far HY (by omega) x5, Wk3.old SY ((Sm.of_kp (KN) HS.out.lt).trans (MY.cut (by simp))) (by omega) (by intro z; have := hlt _ z; omega) EY⟩; unfold roSet at hR) | (have hEl := KN.size; have S1 : TS w (wn.alloc (.cells #[.int .u32 0, .int .i64 0, .int .i64 0, .int .i64 0, .int .i64 0, .int .i64 0, .int .u32 0, .int .i64 0, .bool false] 48)) B t _ (wn.heap.size :: [b3]) := HS.out.add (KN.alloc _) (cs := [wn.heap.size]) (by simpa using hEl); ((with_reducible refine (H1.out (wn.alloc (.cells #[.int .u32 0, .int .i64 0, .int .i64 0, .int .i64 0, .int .i64 0, .int .i64 0, .int .u32 0, .int .i64 0, .bool false] 48)) _ S1).mono ?_)); rintro e Y ⟨rfl, SY, MY⟩; have EY := MY.blk List.mem_cons_self (Blk.new wn 48 #[.int .u32 0, .int .i64 0, .int .i64 0, .int .i64 0, .int .i64 0, .int .i64 0, .int .u32 0, .int .i64 0, .bool false]); have HY := MY.blk (b := b3) (by simp) (BH.out.keep (KN.alloc _)); have y0 : Y.cell? ⟨wn.heap.size, 0, none⟩ = some (.int .u32 0) := EY.cell 0; have f0 := EY.frozen 0; have y1 : Y.cell? ⟨wn.heap.size, 1, none⟩ = some (.int .i64 0) := EY.cell 1; have f1 := EY.frozen 1; have y2 : Y.cell? ⟨wn.heap.size, 2, none⟩ = some (.int .i64 0) := EY.cell 2; have f2 := EY.frozen 2; have y3 : Y.cell? ⟨wn.heap.size, 3, none⟩ = some (.int .i64 0) := EY.cell 3; have f3 := EY.frozen 3; have y4 : Y.cell? ⟨wn.heap.size, 4, none⟩ = some (.int .i64 0) := EY.cell 4; have f4 := EY.frozen 4; have y5 : Y.cell? ⟨wn.heap.size, 5, none⟩ = some (.int .i64 0) := EY.cell 5; have f5 := EY.frozen 5; have y6 : Y.cell? ⟨wn.heap.size, 6, none⟩ = some (.int .u32 0) := EY.cell 6; have f6 := EY.frozen 6; have y7 : Y.cell? ⟨wn.heap.size, 7, none⟩ = some (.int .i64 0) := EY.cell 7; have f7 := EY.frozen 7; have y8 : Y.cell? ⟨wn.heap.size, 8, none⟩ = some (.bool false) := EY.cell 8; have f8 := EY.frozen 8; obtain ⟨R, hR, HR, HREL⟩ : ∃ R, roSet Y wn.heap.size x5 = R ∧ Blk R b3 31 #[.int .i64 0, .int .u32 167772418, .int .i64 2] ∧ Wk3 w W B t b3 (wkT [ownR (netP 1), wk5] 10 0) x5 0 [b3] (.pointer (some ⟨wn.heap.size, 0, none⟩)) (.int .i64 0) R := ⟨_, rfl, Blk.putRo_far HY (by omega) x5, Wk3.old SY ((Sm.of_kp (KN.alloc _) HS.out.lt).trans (MY.cut (by simp))) (by omega) (by intro z; have := hlt _ z; omega) EY⟩; unfold roSet at hR) | (((with_reducible refine (H1.out wn [b3] (HS.out.keep KN)).mono ?_)); rintro e Y ⟨rfl, SY, MY⟩; have HY := MY.blk (b := b3) (by simp) (BH.out.keep KN); have MS := (Sm.of_kp KN HS.out.lt).trans MY)))
    all_goals
      go_wp2_with fail
      go_meet
      case rel => first | exact HREL | exact Wk3.new SY MS
  case rest =>
    obtain ⟨d4, rfl, rfl, B4, S4, M4⟩ := hcut
    have BH4 := Lib.hid (M4.blk (by simp) BH.out)
    have HB4 := Lib.hid B4
    have HS4 := Lib.hid S4
    clear h0 h1 h2 B4 S4 M4
    have h0 : wc.cell? ⟨b3, 0, none⟩ = some (.int .i64 0) := BH4.out.cell 0
    have h1 : wc.cell? ⟨b3, 1, none⟩ = some (.int .u32 167772418) := BH4.out.cell 1
    have h2 : wc.cell? ⟨b3, 2, none⟩ = some (.int .i64 2) := BH4.out.cell 2
    obtain ⟨X, hX⟩ : ∃ X, wc = X := ⟨_, rfl⟩
    subst hX
    go_upto_region 4 with (fail)
    go_cut [6, 7] from 36 (fun s4 s5 wx => Wk3 w wc B t b3 (wkT [ownR (netP 1), wk5] 11 1) x0 200 [d4, b3] s4 s5 wx)
    case first =>
      have hw0 := HS4.out.kp.size
      have hlt := HS4.out.lt
      have hb3l := hlt b3 (by simp)
      go_region_held3 (fun w' => w'.cell? ⟨b3, 0, none⟩ = some (.int .i64 0) ∧ w'.cell? ⟨b3, 1, none⟩ = some (.int .u32 167772418) ∧ w'.cell? ⟨b3, 2, none⟩ = some (.int .i64 2))
        (first | exact ⟨HR.cell 0, HR.cell 1, HR.cell 2⟩ | exact ⟨HY.cell 0, HY.cell 1, HY.cell 2⟩ | exact ⟨(HY.alloc _).cell 0, (HY.alloc _).cell 1, (HY.alloc _).cell 2⟩ | exact ⟨KN.cell h0, KN.cell h1, KN.cell h2⟩ | exact ⟨(KN.alloc _).cell h0, (KN.alloc _).cell h1, (KN.alloc _).cell h2⟩ | exact ⟨(Kp.refl wc).drew.cell h0, (Kp.refl wc).drew.cell h1, (Kp.refl wc).drew.cell h2⟩ | exact ⟨((Kp.refl wc).alloc _).drew.cell h0, ((Kp.refl wc).alloc _).drew.cell h1, ((Kp.refl wc).alloc _).drew.cell h2⟩ | exact ⟨((Kp.refl wc).alloc _).cell h0, ((Kp.refl wc).alloc _).cell h1, ((Kp.refl wc).alloc _).cell h2⟩ | go_keep)
        (first | (go_at_call 38; refine (net_6 _).mono ?_; rintro e wn ⟨rfl, hKn⟩; have KN : Kp wc wn := (show Kp wc _ from (by first | exact (Kp.refl wc).drew | exact ((Kp.refl wc).alloc _).drew | exact (Kp.refl wc).alloc _ | exact Kp.refl wc)).trans hKn; (try (have EN : Blk wn wc.heap.size 48 #[.int .u32 0, .int .i64 0, .int .i64 0, .int .i64 0, .int .i64 0, .int .i64 0, .int .u32 0, .int .i64 0, .bool false] := ((Blk.new wc 48 #[.int .u32 0, .int .i64 0, .int .i64 0, .int .i64 0, .int .i64 0, .int .i64 0, .int .u32 0, .int .i64 0, .bool false]).drew).keep hKn))) | (go_at_call 23; first | (have hEl := EN.lt; have S1 : TS w wn B t _ (wc.heap.size :: [d4, b3]) := HS4.out.add KN (cs := [wc.heap.size]) (by simpa using hEl); ((with_reducible refine (H2.out wn _ S1).mono ?_)); rintro e Y ⟨rfl, SY, MY⟩; have EY := MY.blk List.mem_cons_self (EN); have HY := MY.blk (b := b3) (by simp) (BH4.out.keep (KN)); have y0 : Y.cell? ⟨wc.heap.size, 0, none⟩ = some (.int .u32 0) := EY.cell 0; have f0 := EY.frozen 0; have y1 : Y.cell? ⟨wc.heap.size, 1, none⟩ = some (.int .i64 0) := EY.cell 1; have f1 := EY.frozen 1; have y2 : Y.cell? ⟨wc.heap.size, 2, none⟩ = some (.int .i64 0) := EY.cell 2; have f2 := EY.frozen 2; have y3 : Y.cell? ⟨wc.heap.size, 3, none⟩ = some (.int .i64 0) := EY.cell 3; have f3 := EY.frozen 3; have y4 : Y.cell? ⟨wc.heap.size, 4, none⟩ = some (.int .i64 0) := EY.cell 4; have f4 := EY.frozen 4; have y5 : Y.cell? ⟨wc.heap.size, 5, none⟩ = some (.int .i64 0) := EY.cell 5; have f5 := EY.frozen 5; have y6 : Y.cell? ⟨wc.heap.size, 6, none⟩ = some (.int .u32 0) := EY.cell 6; have f6 := EY.frozen 6; have y7 : Y.cell? ⟨wc.heap.size, 7, none⟩ = some (.int .i64 0) := EY.cell 7; have f7 := EY.frozen 7; have y8 : Y.cell? ⟨wc.heap.size, 8, none⟩ = some (.bool false) := EY.cell 8; have f8 := EY.frozen 8; obtain ⟨R, hR, HR, HREL⟩ : ∃ R, roSet Y wc.heap.size x0 = R ∧ Blk R b3 31 #[.int .i64 0, .int .u32 167772418, .int .i64 2] ∧ Wk3 w wc B t b3 (wkT [ownR (netP 1), wk5] 11 1) x0 200 [d4, b3] (.pointer (some ⟨wc.heap.size, 0, none⟩)) (.int .i64 200) R := ⟨_, rfl, Blk.putRo_far HY (by omega) x0, Wk3.old SY ((Sm.of_kp (KN) HS4.out.lt).trans (MY.cut (by simp))) (by omega) (by intro z; have := hlt _ z; omega) EY⟩; unfold roSet at hR) | (have hEl := KN.size; have S1 : TS w (wn.alloc (.cells #[.int .u32 0, .int .i64 0, .int .i64 0, .int .i64 0, .int .i64 0, .int .i64 0, .int .u32 0, .int .i64 0, .bool false] 48)) B t _ (wn.heap.size :: [d4, b3]) := HS4.out.add (KN.alloc _) (cs := [wn.heap.size]) (by simpa using hEl); ((with_reducible refine (H2.out (wn.alloc (.cells #[.int .u32 0, .int .i64 0, .int .i64 0, .int .i64 0, .int .i64 0, .int .i64 0, .int .u32 0, .int .i64 0, .bool false] 48)) _ S1).mono ?_)); rintro e Y ⟨rfl, SY, MY⟩; have EY := MY.blk List.mem_cons_self (Blk.new wn 48 #[.int .u32 0, .int .i64 0, .int .i64 0, .int .i64 0, .int .i64 0, .int .i64 0, .int .u32 0, .int .i64 0, .bool false]); have HY := MY.blk (b := b3) (by simp) (BH4.out.keep (KN.alloc _)); have y0 : Y.cell? ⟨wn.heap.size, 0, none⟩ = some (.int .u32 0) := EY.cell 0; have f0 := EY.frozen 0; have y1 : Y.cell? ⟨wn.heap.size, 1, none⟩ = some (.int .i64 0) := EY.cell 1; have f1 := EY.frozen 1; have y2 : Y.cell? ⟨wn.heap.size, 2, none⟩ = some (.int .i64 0) := EY.cell 2; have f2 := EY.frozen 2; have y3 : Y.cell? ⟨wn.heap.size, 3, none⟩ = some (.int .i64 0) := EY.cell 3; have f3 := EY.frozen 3; have y4 : Y.cell? ⟨wn.heap.size, 4, none⟩ = some (.int .i64 0) := EY.cell 4; have f4 := EY.frozen 4; have y5 : Y.cell? ⟨wn.heap.size, 5, none⟩ = some (.int .i64 0) := EY.cell 5; have f5 := EY.frozen 5; have y6 : Y.cell? ⟨wn.heap.size, 6, none⟩ = some (.int .u32 0) := EY.cell 6; have f6 := EY.frozen 6; have y7 : Y.cell? ⟨wn.heap.size, 7, none⟩ = some (.int .i64 0) := EY.cell 7; have f7 := EY.frozen 7; have y8 : Y.cell? ⟨wn.heap.size, 8, none⟩ = some (.bool false) := EY.cell 8; have f8 := EY.frozen 8; obtain ⟨R, hR, HR, HREL⟩ : ∃ R, roSet Y wn.heap.size x0 = R ∧ Blk R b3 31 #[.int .i64 0, .int .u32 167772418, .int .i64 2] ∧ Wk3 w wc B t b3 (wkT [ownR (netP 1), wk5] 11 1) x0 200 [d4, b3] (.pointer (some ⟨wn.heap.size, 0, none⟩)) (.int .i64 200) R := ⟨_, rfl, Blk.putRo_far HY (by omega) x0, Wk3.old SY ((Sm.of_kp (KN.alloc _) HS4.out.lt).trans (MY.cut (by simp))) (by omega) (by intro z; have := hlt _ z; omega) EY⟩; unfold roSet at hR) | (((with_reducible refine (H2.out wn [d4, b3] (HS4.out.keep KN)).mono ?_)); rintro e Y ⟨rfl, SY, MY⟩; have HY := MY.blk (b := b3) (by simp) (BH4.out.keep KN); have MS := (Sm.of_kp KN HS4.out.lt).trans MY)))
      all_goals
        go_wp2_with fail
        go_meet
        case rel => first | exact HREL | exact Wk3.new SY MS
    case rest =>
      obtain ⟨d6, rfl, rfl, B6, S6, M6⟩ := hcut
      have HB4b := Lib.hid (M6.blk (b := d4) (by simp) HB4.out)
      have HS6 := Lib.hid (S6.cut (cs := [d4]) (by simp))
      obtain ⟨F6, hT6, _⟩ := S6.tm
      clear h0 h1 h2 B6 S6 M6 HB4 HS4 HS BH BH4 H1 H2
      go_upto_region 6 with (first | (go_at_call 24; refine (len_any_ B t F6 _ _ hT6).mono ?_; rintro e w' ⟨rfl, hw'⟩; rw [hw']; clear hw' w') | (go_at_call 20; refine (refused_any B t F6 _ _ hT6).mono ?_; rintro e w' ⟨rfl, hw'⟩; rw [hw']; clear hw' w'))
      go_wp2_with fail
      refine (next_any_ B t F6 _ _ hT6).mono ?_
      rintro e w7 ⟨rfl, K7⟩
      rw [show nextV (wkT [ownR (netP 1), wk5] 11 1).l = .tuple #[.int .i64 16, .bool true] from wk_n]
      have HB7 := Lib.hid (HB4b.out.keep K7)
      have HS7 := Lib.hid (HS6.out.keep K7)
      clear hT6 HB4b HS6 K7
      go_wp2_with fail
      refine (exp_TS w w7 B t _ _ HS7.out 16).mono ?_
      rw [wk_3]
      rintro e w8 ⟨rfl, S8, M8⟩
      have HB8 := Lib.hid (M8.blk (b := d4) (by simp) HB7.out)
      have HS8 := Lib.hid S8
      clear S8 M8 HB7 HS7
      go_wp2_with fail
      refine (net_5 _).mono ?_
      rintro e w9 ⟨rfl, K9⟩
      have HB9 := Lib.hid (HB8.out.keep K9)
      have HS9 := Lib.hid (HS8.out.keep K9)
      obtain ⟨F9, hT9, _⟩ := HS9.out.tm
      clear HB8 HS8 K9
      go_wp2_with fail
      refine (get_any_ B t F9 _ (netP 5) w9 hT9 ⟨by decide, by decide, by decide⟩).mono ?_
      rintro e wA ⟨rfl, KA⟩
      rw [show getR (netP 5) (wkT [ownR (netP 1), wk6] 16 1).l = some wk6 from wk_g]
      obtain ⟨x6, hx6⟩ : ∃ x, wk6 = x := ⟨_, rfl⟩
      have HX6 := Lib.hid hx6
      simp only [Option.getD_some, Option.isSome_some, hx6]
      obtain ⟨dA, hdA⟩ : ∃ d, wA.heap.size = d := ⟨_, rfl⟩
      obtain ⟨WA, hWA, kWA, BA0⟩ : ∃ W, wA.alloc (.cells (roC x6) 48) = W ∧ Kp wA W ∧ Blk W dA 48 (roC x6) := ⟨_, rfl, (Kp.refl _).alloc _, by rw [← hdA]; exact Blk.new _ _ _⟩
      have HBA := Lib.hid ((HB9.out.keep KA).keep kWA)
      have HCA2 := Lib.hid BA0
      have HSA : Hid (TS w WA B t (wkT [ownR (netP 1), wk6] 16 1) [dA, d4]) := Lib.hid ((HS9.out.keep KA).add kWA (cs := [dA]) (by simpa [hdA] using BA0.lt))
      unfold roC at hWA
      clear hx6 BA0 kWA KA HB9 HS9 hT9
      go_wp2_with fail
      try rw [hWA]
      try rw [hdA]
      clear hWA hdA
      refine (exp_TS w WA B t _ _ HSA.out 20).mono ?_
      rw [wk_4]
      rintro e wB ⟨rfl, SB, MB⟩
      have HBB := Lib.hid (MB.blk (b := d4) (by simp) HBA.out)
      have HCB := Lib.hid (MB.blk (b := dA) (by simp) HCA2.out)
      have HSB := Lib.hid SB
      clear SB MB HBA HCA2 HSA
      go_wp2_with fail
      refine (exp_TS w wB B t _ _ HSB.out 23).mono ?_
      rw [wk_5]
      rintro e wC ⟨rfl, SC, MC⟩
      have HBC := Lib.hid (MC.blk (b := d4) (by simp) HBB.out)
      have HCC := Lib.hid (MC.blk (b := dA) (by simp) HCB.out)
      have HSC := Lib.hid SC
      obtain ⟨FC, hTC, _⟩ := HSC.out.tm
      have HTC := Lib.hid hTC
      clear SC MC HBB HCB HSB hTC
      go_wp2_with fail
      refine (changed_any B t FC _ wC HTC.out).mono ?_
      rw [show newsL (wkT [ownR (netP 1)] 23 1).l = [ownR (netP 1)] from wk_c]
      rintro e wD ⟨AD, cD, rfl, hOD, KD⟩
      obtain ⟨gD, rfl⟩ : ∃ g, AD = some ⟨g, 0, none⟩ := by
        rcases hOD.2 with ⟨h, _⟩ | ⟨g, _, _, hv, _⟩
        · injection h with _ h; cases h
        · injection hv with hv; exact ⟨g, hv⟩
      obtain ⟨_, _, hvD, hRD⟩ := hOD.rd (by decide) Rt.len
      injection hvD with e1 _ e3
      subst e1 e3
      have HRD := Lib.hid hRD
      have HBD := Lib.hid (HBC.out.keep KD)
      have HCD := Lib.hid (HCC.out.keep KD)
      have HTD := Lib.hid (HTC.out.keep KD)
      have HKD := Lib.hid ((HSC.out.keep KD).kp)
      have heq := fun u => pfx_eqv u 167837696 16 167837696 16
      rw [show ((167837696 : Int) == 167837696 && (16 : Int) == 16) = true by decide] at heq
      have HX5b := HX5.out
      have HX6b := HX6.out
      subst HX5b HX6b
      clear hOD hRD KD HBC HCC HSC HTC
      go_upto_region 12 with (fail)
      refine wp_anyZ [75, 76, 77, 78, 79, 80, 81, 82, 83, 84, 85, 86, 87, 88, 89, 90, 91, 92, 93, 94, 95, 96, 97, 98, 99, 100, 101, 102, 103, 104, 105, 106, 107, 108, 109, 110, 111, 112, 113, 114, 115, 116, 117, 118, 119, 120, 121, 122, 123, 124, 125, 126, 127, 128, 129, 130, 131, 132, 133, 134, 135, 136, 137, 138, 139, 140, 141, 142, 143, 144, 145, 146, 147, 148, 149, 150, 151, 152, 153, 154, 155, 156, 157, 158, 159, 160, 161, 162, 0] [.int .i64 0, .int .i64 0, .int .i64 0, .int .i64 0, .int .i64 0, .int .i64 0, .int .i64 0, .int .i64 0, .int .i64 0, .int .i64 0, .int .i64 0, .int .i64 0, .int .i64 0, .int .i64 0, .bool true, .bool true, .pointer (some ⟨d4, 2, none⟩), .int .i64 2, .bool true, .bool true, .bool true, .pointer (some ⟨d4, 3, none⟩), .int .i64 3, .bool true, .bool true, .bool true, .int .i64 200, .int .i64 200, .bool true, .bool true, .bool true, .int .i64 2, .bool true, .bool true, .bool true, .int .i64 1, .bool true, .bool true, .bool true, .int .i64 16, .bool true, .bool true, .bool true, .bool true, .bool true, .bool true, .int .i64 1, .bool true, .bool true, .bool true, .bool true, .bool true, .bool true, .pointer (some ⟨dA, 2, none⟩), .int .i64 3, .bool true, .bool true, .bool true, .pointer (some ⟨dA, 3, none⟩), .int .i64 16, .bool true, .bool true, .bool true, .int .i64 1, .bool true, .bool true, .bool true, .int .i64 1, .bool true, .bool true, .bool true, .pointer (some ⟨t, 0, none⟩), .int .i64 1, .bool true, .bool true, .bool true, .slice (some ⟨gD, 0, none⟩) 1 cD, .int .i64 1, .bool true, .bool true, .bool true, .slice (some ⟨gD, 0, none⟩) 1 cD, .pointer (some ⟨gD, 0, none⟩), .pointer (some ⟨gD, 0, none⟩), .agg #[.int .u32 167837696, .int .i64 16], .agg #[.int .u32 167837696, .int .i64 16], .bool true, .bool true, .bool true] [true, true, true, true, true, true, true, true, true, true, true, true, true, true, true, true, true, true, true, true, true, true, true, true, true, true, true, true, true, true, true, true, true, true, true, true, true, true, true, true, true, true, true, true, true, true, true, true, true, true, true, true, true, true, true, true, true, true, true, true, true, true, true, true, true, true, true, true, true, true, true, true, true, true, true, true, true, true, true, true, true, true, true, true, true, true, true, true, true] (by kernel_rfl) (by kernel_rfl) (by kernel_rfl) rfl rfl (by decide) rfl rfl rfl ?_ ?_
      · intro i o a w9 ho hw f g hkp K hK
        have hi : i < 89 := by have := (List.getElem?_eq_some_iff.1 ho).1; simpa using this
        have hcs : i = 0 ∨ i = 1 ∨ i = 2 ∨ i = 3 ∨ i = 4 ∨ i = 5 ∨ i = 6 ∨ i = 7 ∨ i = 8 ∨ i = 9 ∨ i = 10 ∨ i = 11 ∨ i = 12 ∨ i = 13 ∨ i = 14 ∨ i = 15 ∨ i = 16 ∨ i = 17 ∨ i = 18 ∨ i = 19 ∨ i = 20 ∨ i = 21 ∨ i = 22 ∨ i = 23 ∨ i = 24 ∨ i = 25 ∨ i = 26 ∨ i = 27 ∨ i = 28 ∨ i = 29 ∨ i = 30 ∨ i = 31 ∨ i = 32 ∨ i = 33 ∨ i = 34 ∨ i = 35 ∨ i = 36 ∨ i = 37 ∨ i = 38 ∨ i = 39 ∨ i = 40 ∨ i = 41 ∨ i = 42 ∨ i = 43 ∨ i = 44 ∨ i = 45 ∨ i = 46 ∨ i = 47 ∨ i = 48 ∨ i = 49 ∨ i = 50 ∨ i = 51 ∨ i = 52 ∨ i = 53 ∨ i = 54 ∨ i = 55 ∨ i = 56 ∨ i = 57 ∨ i = 58 ∨ i = 59 ∨ i = 60 ∨ i = 61 ∨ i = 62 ∨ i = 63 ∨ i = 64 ∨ i = 65 ∨ i = 66 ∨ i = 67 ∨ i = 68 ∨ i = 69 ∨ i = 70 ∨ i = 71 ∨ i = 72 ∨ i = 73 ∨ i = 74 ∨ i = 75 ∨ i = 76 ∨ i = 77 ∨ i = 78 ∨ i = 79 ∨ i = 80 ∨ i = 81 ∨ i = 82 ∨ i = 83 ∨ i = 84 ∨ i = 85 ∨ i = 86 ∨ i = 87 ∨ i = 88 := by omega
        clear hi
        rcases hcs with rfl | rfl | rfl | rfl | rfl | rfl | rfl | rfl | rfl | rfl | rfl | rfl | rfl | rfl | rfl | rfl | rfl | rfl | rfl | rfl | rfl | rfl | rfl | rfl | rfl | rfl | rfl | rfl | rfl | rfl | rfl | rfl | rfl | rfl | rfl | rfl | rfl | rfl | rfl | rfl | rfl | rfl | rfl | rfl | rfl | rfl | rfl | rfl | rfl | rfl | rfl | rfl | rfl | rfl | rfl | rfl | rfl | rfl | rfl | rfl | rfl | rfl | rfl | rfl | rfl | rfl | rfl | rfl | rfl | rfl | rfl | rfl | rfl | rfl | rfl | rfl | rfl | rfl | rfl | rfl | rfl | rfl | rfl | rfl | rfl | rfl | rfl | rfl | rfl
        all_goals
          first | simp only [List.getElem?_cons_zero, List.getElem?_cons_succ, Option.some.injEq] at ho | replace ho := Option.some.inj ho
          subst ho
        · have t2 : a.tmps[2]?.getD undef = .int .i64 0 := g 2 (by decide)
          unfold Oper.wp
          simp only [execOp, Act.eval, Array.getD_eq_getD_getElem?]
          go_simp
          exact hK _ _ (Kp.refl _) rfl
        · have t75 : a.tmps[75]?.getD undef = .int .i64 0 := f 0 rfl
          unfold Oper.wp
          simp only [execOp, Act.eval, Array.getD_eq_getD_getElem?]
          go_simp
          refine (num_any _ _).mono ?_
          rintro e wb ⟨rfl, rfl⟩
          have hKc := Kp.refl w9
          exact hK _ _ hKc rfl
        · have t5 : a.tmps[5]?.getD undef = .int .i64 0 := g 5 (by decide)
          unfold Oper.wp
          simp only [execOp, Act.eval, Array.getD_eq_getD_getElem?]
          go_simp
          exact hK _ _ (Kp.refl _) rfl
        · have t77 : a.tmps[77]?.getD undef = .int .i64 0 := f 2 rfl
          unfold Oper.wp
          simp only [execOp, Act.eval, Array.getD_eq_getD_getElem?]
          go_simp
          refine (num_any _ _).mono ?_
          rintro e wb ⟨rfl, rfl⟩
          have hKc := Kp.refl w9
          exact hK _ _ hKc rfl
        · have t76 : a.tmps[76]?.getD undef = .int .i64 0 := f 1 rfl
          have t78 : a.tmps[78]?.getD undef = .int .i64 0 := f 3 rfl
          unfold Oper.wp
          simp only [execOp, Act.eval, Array.getD_eq_getD_getElem?]
          go_simp
          exact hK _ _ (Kp.refl _) rfl
        · have t13 : a.tmps[13]?.getD undef = .int .i64 0 := g 13 (by decide)
          unfold Oper.wp
          simp only [execOp, Act.eval, Array.getD_eq_getD_getElem?]
          go_simp
          exact hK _ _ (Kp.refl _) rfl
        · have t80 : a.tmps[80]?.getD undef = .int .i64 0 := f 5 rfl
          unfold Oper.wp
          simp only [execOp, Act.eval, Array.getD_eq_getD_getElem?]
          go_simp
          refine (num_any _ _).mono ?_
          rintro e wb ⟨rfl, rfl⟩
          have hKc := Kp.refl w9
          exact hK _ _ hKc rfl
        · have t79 : a.tmps[79]?.getD undef = .int .i64 0 := f 4 rfl
          have t81 : a.tmps[81]?.getD undef = .int .i64 0 := f 6 rfl
          unfold Oper.wp
          simp only [execOp, Act.eval, Array.getD_eq_getD_getElem?]
          go_simp
          exact hK _ _ (Kp.refl _) rfl
        · have t17 : a.tmps[17]?.getD undef = .int .i64 0 := g 17 (by decide)
          unfold Oper.wp
          simp only [execOp, Act.eval, Array.getD_eq_getD_getElem?]
          go_simp
          exact hK _ _ (Kp.refl _) rfl
        · have t83 : a.tmps[83]?.getD undef = .int .i64 0 := f 8 rfl
          unfold Oper.wp
          simp only [execOp, Act.eval, Array.getD_eq_getD_getElem?]
          go_simp
          refine (num_any _ _).mono ?_
          rintro e wb ⟨rfl, rfl⟩
          have hKc := Kp.refl w9
          exact hK _ _ hKc rfl
        · have t82 : a.tmps[82]?.getD undef = .int .i64 0 := f 7 rfl
          have t84 : a.tmps[84]?.getD undef = .int .i64 0 := f 9 rfl
          unfold Oper.wp
          simp only [execOp, Act.eval, Array.getD_eq_getD_getElem?]
          go_simp
          exact hK _ _ (Kp.refl _) rfl
        · have t19 : a.tmps[19]?.getD undef = .int .i64 0 := g 19 (by decide)
          unfold Oper.wp
          simp only [execOp, Act.eval, Array.getD_eq_getD_getElem?]
          go_simp
          exact hK _ _ (Kp.refl _) rfl
        · have t86 : a.tmps[86]?.getD undef = .int .i64 0 := f 11 rfl
          unfold Oper.wp
          simp only [execOp, Act.eval, Array.getD_eq_getD_getElem?]
          go_simp
          refine (num_any _ _).mono ?_
          rintro e wb ⟨rfl, rfl⟩
          have hKc := Kp.refl w9
          exact hK _ _ hKc rfl
        · have t85 : a.tmps[85]?.getD undef = .int .i64 0 := f 10 rfl
          have t87 : a.tmps[87]?.getD undef = .int .i64 0 := f 12 rfl
          unfold Oper.wp
          simp only [execOp, Act.eval, Array.getD_eq_getD_getElem?]
          go_simp
          exact hK _ _ (Kp.refl _) rfl
        · have t88 : a.tmps[88]?.getD undef = .int .i64 0 := f 13 rfl
          unfold Oper.wp
          simp only [execOp, Act.eval, Array.getD_eq_getD_getElem?]
          go_simp
          exact hK _ _ (Kp.refl _) rfl
        · have t89 : a.tmps[89]?.getD undef = .bool true := f 14 rfl
          unfold Oper.wp
          simp only [execOp, Act.eval, Array.getD_eq_getD_getElem?]
          go_simp
          exact hK _ _ (Kp.refl _) rfl
        · have t4 : a.tmps[4]?.getD undef = .pointer (some ⟨d4, 0, none⟩) := g 4 (by decide)
          unfold Oper.wp
          simp only [execOp, Act.eval, Array.getD_eq_getD_getElem?]
          go_simp
          exact hK _ _ (Kp.refl _) rfl
        · have t91 : a.tmps[91]?.getD undef = .pointer (some ⟨d4, 2, none⟩) := f 16 rfl
          have c0 : w9.cell? ⟨d4, 2, none⟩ = some (.int .i64 2) := (HBD.out.keep hkp).cell 2
          unfold Oper.wp
          simp only [execOp, Act.eval, Array.getD_eq_getD_getElem?]
          go_simp
          exact hK _ _ (Kp.refl _) rfl
        · have t92 : a.tmps[92]?.getD undef = .int .i64 2 := f 17 rfl
          unfold Oper.wp
          simp only [execOp, Act.eval, Array.getD_eq_getD_getElem?]
          go_simp
          exact hK _ _ (Kp.refl _) rfl
        · have t90 : a.tmps[90]?.getD undef = .bool true := f 15 rfl
          have t93 : a.tmps[93]?.getD undef = .bool true := f 18 rfl
          unfold Oper.wp
          simp only [execOp, Act.eval, Array.getD_eq_getD_getElem?]
          go_simp
          exact hK _ _ (Kp.refl _) rfl
        · have t94 : a.tmps[94]?.getD undef = .bool true := f 19 rfl
          unfold Oper.wp
          simp only [execOp, Act.eval, Array.getD_eq_getD_getElem?]
          go_simp
          exact hK _ _ (Kp.refl _) rfl
        · have t4 : a.tmps[4]?.getD undef = .pointer (some ⟨d4, 0, none⟩) := g 4 (by decide)
          unfold Oper.wp
          simp only [execOp, Act.eval, Array.getD_eq_getD_getElem?]
          go_simp
          exact hK _ _ (Kp.refl _) rfl
        · have t96 : a.tmps[96]?.getD undef = .pointer (some ⟨d4, 3, none⟩) := f 21 rfl
          have c0 : w9.cell? ⟨d4, 3, none⟩ = some (.int .i64 3) := (HBD.out.keep hkp).cell 3
          unfold Oper.wp
          simp only [execOp, Act.eval, Array.getD_eq_getD_getElem?]
          go_simp
          exact hK _ _ (Kp.refl _) rfl
        · have t97 : a.tmps[97]?.getD undef = .int .i64 3 := f 22 rfl
          unfold Oper.wp
          simp only [execOp, Act.eval, Array.getD_eq_getD_getElem?]
          go_simp
          exact hK _ _ (Kp.refl _) rfl
        · have t95 : a.tmps[95]?.getD undef = .bool true := f 20 rfl
          have t98 : a.tmps[98]?.getD undef = .bool true := f 23 rfl
          unfold Oper.wp
          simp only [execOp, Act.eval, Array.getD_eq_getD_getElem?]
          go_simp
          exact hK _ _ (Kp.refl _) rfl
        · have t99 : a.tmps[99]?.getD undef = .bool true := f 24 rfl
          unfold Oper.wp
          simp only [execOp, Act.eval, Array.getD_eq_getD_getElem?]
          go_simp
          exact hK _ _ (Kp.refl _) rfl
        · have t7 : a.tmps[7]?.getD undef = .int .i64 200 := g 7 (by decide)
          unfold Oper.wp
          simp only [execOp, Act.eval, Array.getD_eq_getD_getElem?]
          go_simp
          exact hK _ _ (Kp.refl _) rfl
        · have t101 : a.tmps[101]?.getD undef = .int .i64 200 := f 26 rfl
          unfold Oper.wp
          simp only [execOp, Act.eval, Array.getD_eq_getD_getElem?]
          go_simp
          refine (num_any _ _).mono ?_
          rintro e wb ⟨rfl, rfl⟩
          have hKc := Kp.refl w9
          exact hK _ _ hKc rfl
        · have t102 : a.tmps[102]?.getD undef = .int .i64 200 := f 27 rfl
          unfold Oper.wp
          simp only [execOp, Act.eval, Array.getD_eq_getD_getElem?]
          go_simp
          exact hK _ _ (Kp.refl _) rfl
        · have t100 : a.tmps[100]?.getD undef = .bool true := f 25 rfl
          have t103 : a.tmps[103]?.getD undef = .bool true := f 28 rfl
          unfold Oper.wp
          simp only [execOp, Act.eval, Array.getD_eq_getD_getElem?]
          go_simp
          exact hK _ _ (Kp.refl _) rfl
        · have t104 : a.tmps[104]?.getD undef = .bool true := f 29 rfl
          unfold Oper.wp
          simp only [execOp, Act.eval, Array.getD_eq_getD_getElem?]
          go_simp
          exact hK _ _ (Kp.refl _) rfl
        · have t8 : a.tmps[8]?.getD undef = .int .i64 2 := g 8 (by decide)
          unfold Oper.wp
          simp only [execOp, Act.eval, Array.getD_eq_getD_getElem?]
          go_simp
          exact hK _ _ (Kp.refl _) rfl
        · have t106 : a.tmps[106]?.getD undef = .int .i64 2 := f 31 rfl
          unfold Oper.wp
          simp only [execOp, Act.eval, Array.getD_eq_getD_getElem?]
          go_simp
          exact hK _ _ (Kp.refl _) rfl
        · have t105 : a.tmps[105]?.getD undef = .bool true := f 30 rfl
          have t107 : a.tmps[107]?.getD undef = .bool true := f 32 rfl
          unfold Oper.wp
          simp only [execOp, Act.eval, Array.getD_eq_getD_getElem?]
          go_simp
          exact hK _ _ (Kp.refl _) rfl
        · have t108 : a.tmps[108]?.getD undef = .bool true := f 33 rfl
          unfold Oper.wp
          simp only [execOp, Act.eval, Array.getD_eq_getD_getElem?]
          go_simp
          exact hK _ _ (Kp.refl _) rfl
        · have t9 : a.tmps[9]?.getD undef = .int .i64 1 := g 9 (by decide)
          unfold Oper.wp
          simp only [execOp, Act.eval, Array.getD_eq_getD_getElem?]
          go_simp
          exact hK _ _ (Kp.refl _) rfl
        · have t110 : a.tmps[110]?.getD undef = .int .i64 1 := f 35 rfl
          unfold Oper.wp
          simp only [execOp, Act.eval, Array.getD_eq_getD_getElem?]
          go_simp
          exact hK _ _ (Kp.refl _) rfl
        · have t109 : a.tmps[109]?.getD undef = .bool true := f 34 rfl
          have t111 : a.tmps[111]?.getD undef = .bool true := f 36 rfl
          unfold Oper.wp
          simp only [execOp, Act.eval, Array.getD_eq_getD_getElem?]
          go_simp
          exact hK _ _ (Kp.refl _) rfl
        · have t112 : a.tmps[112]?.getD undef = .bool true := f 37 rfl
          unfold Oper.wp
          simp only [execOp, Act.eval, Array.getD_eq_getD_getElem?]
          go_simp
          exact hK _ _ (Kp.refl _) rfl
        · have t10 : a.tmps[10]?.getD undef = .int .i64 16 := g 10 (by decide)
          unfold Oper.wp
          simp only [execOp, Act.eval, Array.getD_eq_getD_getElem?]
          go_simp
          exact hK _ _ (Kp.refl _) rfl
        · have t114 : a.tmps[114]?.getD undef = .int .i64 16 := f 39 rfl
          unfold Oper.wp
          simp only [execOp, Act.eval, Array.getD_eq_getD_getElem?]
          go_simp
          exact hK _ _ (Kp.refl _) rfl
        · have t113 : a.tmps[113]?.getD undef = .bool true := f 38 rfl
          have t115 : a.tmps[115]?.getD undef = .bool true := f 40 rfl
          unfold Oper.wp
          simp only [execOp, Act.eval, Array.getD_eq_getD_getElem?]
          go_simp
          exact hK _ _ (Kp.refl _) rfl
        · have t116 : a.tmps[116]?.getD undef = .bool true := f 41 rfl
          unfold Oper.wp
          simp only [execOp, Act.eval, Array.getD_eq_getD_getElem?]
          go_simp
          exact hK _ _ (Kp.refl _) rfl
        · have t11 : a.tmps[11]?.getD undef = .bool true := g 11 (by decide)
          unfold Oper.wp
          simp only [execOp, Act.eval, Array.getD_eq_getD_getElem?]
          go_simp
          exact hK _ _ (Kp.refl _) rfl
        · have t117 : a.tmps[117]?.getD undef = .bool true := f 42 rfl
          have t118 : a.tmps[118]?.getD undef = .bool true := f 43 rfl
          unfold Oper.wp
          simp only [execOp, Act.eval, Array.getD_eq_getD_getElem?]
          go_simp
          exact hK _ _ (Kp.refl _) rfl
        · have t119 : a.tmps[119]?.getD undef = .bool true := f 44 rfl
          unfold Oper.wp
          simp only [execOp, Act.eval, Array.getD_eq_getD_getElem?]
          go_simp
          exact hK _ _ (Kp.refl _) rfl
        · have t12 : a.tmps[12]?.getD undef = .int .i64 1 := g 12 (by decide)
          unfold Oper.wp
          simp only [execOp, Act.eval, Array.getD_eq_getD_getElem?]
          go_simp
          exact hK _ _ (Kp.refl _) rfl
        · have t121 : a.tmps[121]?.getD undef = .int .i64 1 := f 46 rfl
          unfold Oper.wp
          simp only [execOp, Act.eval, Array.getD_eq_getD_getElem?]
          go_simp
          exact hK _ _ (Kp.refl _) rfl
        · have t120 : a.tmps[120]?.getD undef = .bool true := f 45 rfl
          have t122 : a.tmps[122]?.getD undef = .bool true := f 47 rfl
          unfold Oper.wp
          simp only [execOp, Act.eval, Array.getD_eq_getD_getElem?]
          go_simp
          exact hK _ _ (Kp.refl _) rfl
        · have t123 : a.tmps[123]?.getD undef = .bool true := f 48 rfl
          unfold Oper.wp
          simp only [execOp, Act.eval, Array.getD_eq_getD_getElem?]
          go_simp
          exact hK _ _ (Kp.refl _) rfl
        · have t15 : a.tmps[15]?.getD undef = .bool true := g 15 (by decide)
          unfold Oper.wp
          simp only [execOp, Act.eval, Array.getD_eq_getD_getElem?]
          go_simp
          exact hK _ _ (Kp.refl _) rfl
        · have t124 : a.tmps[124]?.getD undef = .bool true := f 49 rfl
          have t125 : a.tmps[125]?.getD undef = .bool true := f 50 rfl
          unfold Oper.wp
          simp only [execOp, Act.eval, Array.getD_eq_getD_getElem?]
          go_simp
          exact hK _ _ (Kp.refl _) rfl
        · have t126 : a.tmps[126]?.getD undef = .bool true := f 51 rfl
          unfold Oper.wp
          simp only [execOp, Act.eval, Array.getD_eq_getD_getElem?]
          go_simp
          exact hK _ _ (Kp.refl _) rfl
        · have t14 : a.tmps[14]?.getD undef = .pointer (some ⟨dA, 0, none⟩) := g 14 (by decide)
          unfold Oper.wp
          simp only [execOp, Act.eval, Array.getD_eq_getD_getElem?]
          go_simp
          exact hK _ _ (Kp.refl _) rfl
        · have t128 : a.tmps[128]?.getD undef = .pointer (some ⟨dA, 2, none⟩) := f 53 rfl
          have c0 : w9.cell? ⟨dA, 2, none⟩ = some (.int .i64 3) := (HCD.out.keep hkp).cell 2
          unfold Oper.wp
          simp only [execOp, Act.eval, Array.getD_eq_getD_getElem?]
          go_simp
          exact hK _ _ (Kp.refl _) rfl
        · have t129 : a.tmps[129]?.getD undef = .int .i64 3 := f 54 rfl
          unfold Oper.wp
          simp only [execOp, Act.eval, Array.getD_eq_getD_getElem?]
          go_simp
          exact hK _ _ (Kp.refl _) rfl
        · have t127 : a.tmps[127]?.getD undef = .bool true := f 52 rfl
          have t130 : a.tmps[130]?.getD undef = .bool true := f 55 rfl
          unfold Oper.wp
          simp only [execOp, Act.eval, Array.getD_eq_getD_getElem?]
          go_simp
          exact hK _ _ (Kp.refl _) rfl
        · have t131 : a.tmps[131]?.getD undef = .bool true := f 56 rfl
          unfold Oper.wp
          simp only [execOp, Act.eval, Array.getD_eq_getD_getElem?]
          go_simp
          exact hK _ _ (Kp.refl _) rfl
        · have t14 : a.tmps[14]?.getD undef = .pointer (some ⟨dA, 0, none⟩) := g 14 (by decide)
          unfold Oper.wp
          simp only [execOp, Act.eval, Array.getD_eq_getD_getElem?]
          go_simp
          exact hK _ _ (Kp.refl _) rfl
        · have t133 : a.tmps[133]?.getD undef = .pointer (some ⟨dA, 3, none⟩) := f 58 rfl
          have c0 : w9.cell? ⟨dA, 3, none⟩ = some (.int .i64 16) := (HCD.out.keep hkp).cell 3
          unfold Oper.wp
          simp only [execOp, Act.eval, Array.getD_eq_getD_getElem?]
          go_simp
          exact hK _ _ (Kp.refl _) rfl
        · have t134 : a.tmps[134]?.getD undef = .int .i64 16 := f 59 rfl
          unfold Oper.wp
          simp only [execOp, Act.eval, Array.getD_eq_getD_getElem?]
          go_simp
          exact hK _ _ (Kp.refl _) rfl
        · have t132 : a.tmps[132]?.getD undef = .bool true := f 57 rfl
          have t135 : a.tmps[135]?.getD undef = .bool true := f 60 rfl
          unfold Oper.wp
          simp only [execOp, Act.eval, Array.getD_eq_getD_getElem?]
          go_simp
          exact hK _ _ (Kp.refl _) rfl
        · have t136 : a.tmps[136]?.getD undef = .bool true := f 61 rfl
          unfold Oper.wp
          simp only [execOp, Act.eval, Array.getD_eq_getD_getElem?]
          go_simp
          exact hK _ _ (Kp.refl _) rfl
        · have t16 : a.tmps[16]?.getD undef = .int .i64 1 := g 16 (by decide)
          unfold Oper.wp
          simp only [execOp, Act.eval, Array.getD_eq_getD_getElem?]
          go_simp
          exact hK _ _ (Kp.refl _) rfl
        · have t138 : a.tmps[138]?.getD undef = .int .i64 1 := f 63 rfl
          unfold Oper.wp
          simp only [execOp, Act.eval, Array.getD_eq_getD_getElem?]
          go_simp
          exact hK _ _ (Kp.refl _) rfl
        · have t137 : a.tmps[137]?.getD undef = .bool true := f 62 rfl
          have t139 : a.tmps[139]?.getD undef = .bool true := f 64 rfl
          unfold Oper.wp
          simp only [execOp, Act.eval, Array.getD_eq_getD_getElem?]
          go_simp
          exact hK _ _ (Kp.refl _) rfl
        · have t140 : a.tmps[140]?.getD undef = .bool true := f 65 rfl
          unfold Oper.wp
          simp only [execOp, Act.eval, Array.getD_eq_getD_getElem?]
          go_simp
          exact hK _ _ (Kp.refl _) rfl
        · have t18 : a.tmps[18]?.getD undef = .int .i64 1 := g 18 (by decide)
          unfold Oper.wp
          simp only [execOp, Act.eval, Array.getD_eq_getD_getElem?]
          go_simp
          exact hK _ _ (Kp.refl _) rfl
        · have t142 : a.tmps[142]?.getD undef = .int .i64 1 := f 67 rfl
          unfold Oper.wp
          simp only [execOp, Act.eval, Array.getD_eq_getD_getElem?]
          go_simp
          exact hK _ _ (Kp.refl _) rfl
        · have t141 : a.tmps[141]?.getD undef = .bool true := f 66 rfl
          have t143 : a.tmps[143]?.getD undef = .bool true := f 68 rfl
          unfold Oper.wp
          simp only [execOp, Act.eval, Array.getD_eq_getD_getElem?]
          go_simp
          exact hK _ _ (Kp.refl _) rfl
        · have t144 : a.tmps[144]?.getD undef = .bool true := f 69 rfl
          unfold Oper.wp
          simp only [execOp, Act.eval, Array.getD_eq_getD_getElem?]
          go_simp
          exact hK _ _ (Kp.refl _) rfl
        · have t1 : a.tmps[1]?.getD undef = .pointer (some ⟨t, 0, none⟩) := g 1 (by decide)
          unfold Oper.wp
          simp only [execOp, Act.eval, Array.getD_eq_getD_getElem?]
          go_simp
          exact hK _ _ (Kp.refl _) rfl
        · have t146 : a.tmps[146]?.getD undef = .pointer (some ⟨t, 0, none⟩) := f 71 rfl
          unfold Oper.wp
          simp only [execOp, Act.eval, Array.getD_eq_getD_getElem?]
          go_simp
          refine (len_any_ B t FC _ w9 (HTD.out.keep hkp)).mono ?_
          rintro e wb ⟨rfl, hwb⟩
          rw [hwb]
          have hKc := Kp.refl w9
          exact hK _ _ hKc rfl
        · have t147 : a.tmps[147]?.getD undef = .int .i64 1 := f 72 rfl
          unfold Oper.wp
          simp only [execOp, Act.eval, Array.getD_eq_getD_getElem?]
          go_simp
          exact hK _ _ (Kp.refl _) rfl
        · have t145 : a.tmps[145]?.getD undef = .bool true := f 70 rfl
          have t148 : a.tmps[148]?.getD undef = .bool true := f 73 rfl
          unfold Oper.wp
          simp only [execOp, Act.eval, Array.getD_eq_getD_getElem?]
          go_simp
          exact hK _ _ (Kp.refl _) rfl
        · have t149 : a.tmps[149]?.getD undef = .bool true := f 74 rfl
          unfold Oper.wp
          simp only [execOp, Act.eval, Array.getD_eq_getD_getElem?]
          go_simp
          exact hK _ _ (Kp.refl _) rfl
        · have t20 : a.tmps[20]?.getD undef = .slice (some ⟨gD, 0, none⟩) 1 cD := g 20 (by decide)
          unfold Oper.wp
          simp only [execOp, Act.eval, Array.getD_eq_getD_getElem?]
          go_simp
          exact hK _ _ (Kp.refl _) rfl
        · have t151 : a.tmps[151]?.getD undef = .slice (some ⟨gD, 0, none⟩) 1 cD := f 76 rfl
          unfold Oper.wp
          simp only [execOp, Act.eval, Array.getD_eq_getD_getElem?]
          go_simp
          exact hK _ _ (Kp.refl _) rfl
        · have t152 : a.tmps[152]?.getD undef = .int .i64 1 := f 77 rfl
          unfold Oper.wp
          simp only [execOp, Act.eval, Array.getD_eq_getD_getElem?]
          go_simp
          exact hK _ _ (Kp.refl _) rfl
        · have t150 : a.tmps[150]?.getD undef = .bool true := f 75 rfl
          have t153 : a.tmps[153]?.getD undef = .bool true := f 78 rfl
          unfold Oper.wp
          simp only [execOp, Act.eval, Array.getD_eq_getD_getElem?]
          go_simp
          exact hK _ _ (Kp.refl _) rfl
        · have t154 : a.tmps[154]?.getD undef = .bool true := f 79 rfl
          unfold Oper.wp
          simp only [execOp, Act.eval, Array.getD_eq_getD_getElem?]
          go_simp
          exact hK _ _ (Kp.refl _) rfl
        · have t20 : a.tmps[20]?.getD undef = .slice (some ⟨gD, 0, none⟩) 1 cD := g 20 (by decide)
          unfold Oper.wp
          simp only [execOp, Act.eval, Array.getD_eq_getD_getElem?]
          go_simp
          exact hK _ _ (Kp.refl _) rfl
        · have t156 : a.tmps[156]?.getD undef = .slice (some ⟨gD, 0, none⟩) 1 cD := f 81 rfl
          unfold Oper.wp
          simp only [execOp, Act.eval, Array.getD_eq_getD_getElem?]
          go_simp
          exact hK _ _ (Kp.refl _) rfl
        · have t157 : a.tmps[157]?.getD undef = .pointer (some ⟨gD, 0, none⟩) := f 82 rfl
          unfold Oper.wp
          simp only [execOp, Act.eval, Array.getD_eq_getD_getElem?]
          go_simp
          exact hK _ _ (Kp.refl _) rfl
        · have t158 : a.tmps[158]?.getD undef = .pointer (some ⟨gD, 0, none⟩) := f 83 rfl
          obtain ⟨b9, off9, e9, hc9⟩ := (HRD.out.keep hkp) 0 (by simp)
          injection e9 with e9
          injection e9 with e9 e10
          subst e9 e10
          have c0 : w9.cell? ⟨gD, 0, none⟩ = some (.int .u32 167837696) := hc9 0 _ rfl
          have c1 : w9.cell? ⟨gD, 1, none⟩ = some (.int .i64 16) := hc9 1 _ rfl
          unfold Oper.wp
          simp only [execOp, Act.eval, Array.getD_eq_getD_getElem?]
          go_simp
          exact hK _ _ (Kp.refl _) rfl
        · unfold Oper.wp
          simp only [execOp, Act.eval, Array.getD_eq_getD_getElem?]
          go_simp
          refine (net_1 _).mono ?_
          rintro e wb ⟨rfl, hKc⟩
          exact hK _ _ hKc rfl
        · have t159 : a.tmps[159]?.getD undef = .agg #[.int .u32 167837696, .int .i64 16] := f 84 rfl
          have t160 : a.tmps[160]?.getD undef = .agg #[.int .u32 167837696, .int .i64 16] := f 85 rfl
          unfold Oper.wp
          simp only [execOp, Act.eval, Array.getD_eq_getD_getElem?]
          go_simp
          exact hK _ _ (Kp.refl _) rfl
        · have t155 : a.tmps[155]?.getD undef = .bool true := f 80 rfl
          have t161 : a.tmps[161]?.getD undef = .bool true := f 86 rfl
          unfold Oper.wp
          simp only [execOp, Act.eval, Array.getD_eq_getD_getElem?]
          go_simp
          exact hK _ _ (Kp.refl _) rfl
        · have t162 : a.tmps[162]?.getD undef = .bool true := f 87 rfl
          unfold Oper.wp
          simp only [execOp, Act.eval, Array.getD_eq_getD_getElem?]
          go_simp
          exact hK _ _ (Kp.refl _) rfl
      intro w9 KV
      (try simp only [Exit.then])
      simp only [wrS, List.zip_cons_cons, List.zip_nil_right, List.foldl_cons, List.foldl_nil, List.setIfInBounds_toArray, List.set_cons_zero, List.set_cons_succ]
      go_wp2_with fail
      go_ret
      exact ⟨rfl, HKD.out.trans KV⟩
end Go.Proofs.YtffckpkikdlbpaaGreatDoor
