/- Proved here: THE TIED CARD of RespondMany of the package waywardenlaw14: for every input the law returns true, and each argument reads behind the call as it read before (Rows.RespondManyCardSaid). Conditions: the listed tables of widths and bounds start as the program's text lays them, which the card ties. -/
import Derived.Test.YtgopnfacklmkaaaGreatDoorZyBc
import Derived.Deep.CutBlock
import Derived.Test.YtgopnfacklmkaaaGreatDoorTie
import Derived.Test.YtgopnfacklmkaaaGreatDoorCards
import Derived.SevenTiedAt
import Derived.ChangeArms
set_option linter.all false
set_option maxHeartbeats 16000000
namespace Go.Proofs.YtgopnfacklmkaaaGreatDoor
section
open Go.RowKit Go.Maps
def manC : Cf := ⟨1, 0, 6, 0, 3, 0, 0, 256, []⟩
def manH (i : Nat) : Hd := ⟨(i : Int) % 3, 167772418, 1 + (i : Int) % 14⟩
def manR (i : Nat) : Rt := ⟨netQ i, 2, 2 + (i : Int) % 14, 0, (i : Int) % 3, 167772418, 7, true⟩
def manL (n : Nat) : List Rt := (List.range n).map manR
theorem vjy : okCf manC = true := by decide +kernel
theorem vlc : newT manC = ⟨manC, [], 0, 0⟩ := by kernel_rfl
theorem vld (n : Nat) : (manL n).length = n := by simp [manL]
theorem vjj : ∀ i < 256, (toldB (netQ i) && okHd (manH i)) = true := by decide +kernel
theorem vlG {i j : Nat} (h : j < i) : ltP (netQ j) (netQ i) := .inl (by show ((167772160 + j * 65536 : Nat) : Int) < ((167772160 + i * 65536 : Nat) : Int); omega)
theorem vle {i n : Nat} (h : n ≤ i) : getR (netQ i) (manL n) = none := by
 unfold getR
 rw [List.find?_eq_none]
 intro x hx
 unfold manL at hx
 obtain ⟨j, hj, rfl⟩ := List.mem_map.1 hx
 have hj2 := List.mem_range.1 hj
 simp only [decide_eq_true_eq]
 intro e
 have : (netQ j).a = (netQ i).a := congrArg PI.a e
 have h2 : 167772160 + j * 65536 = 167772160 + i * 65536 := this
 omega
theorem vjk (i : Nat) : hearR manC (noR (netQ i)) (manH i) 1 = manR i := by
 have h1 := Int.emod_nonneg (i : Int) (show (14 : Int) ≠ 0 by decide)
 have h2 := Int.emod_lt_of_pos (i : Int) (show (0 : Int) < 14 by decide)
 have e : min ((manH i).m + 1) 16 = 2 + (i : Int) % 14 := by
  show min (1 + (i : Int) % 14 + 1) 16 = _
  omega
 unfold hearR noR
 rw [if_neg (show ¬ (0 : Int) = 1 by decide), if_neg (show ¬ (0 : Int) = 2 by decide), if_neg (show ¬ (0 : Int) = 3 by decide), e, if_pos (by omega)]
 unfold newR manR
 rw [e]
 rfl
theorem vem (r : Rt) : ∀ L : List Rt, (∀ x ∈ L, (x.p.a : Int) < r.p.a) → withG r false L = L ++ [r]
 | [], _ => rfl
 | x :: t, h => by
  have hx := h x List.mem_cons_self
  have e1 : ordI r.p.a r.p.l x.p.a x.p.l = 1 := by
   unfold ordI
   rw [vkz hx, if_neg (by decide)]
  have e2 : x.p ≠ r.p := fun e => by rw [e] at hx; omega
  unfold withG
  rw [e1, if_neg e2]
  have := vem r t (fun y hy => h y (List.mem_cons_of_mem _ hy))
  simp [this]
theorem vlf (n : Nat) : setR (manR n) (manL n) = manL (n + 1) := by
 unfold setR
 rw [show decide ((manR n).s = 0) = false from rfl, vem]
 ·unfold manL
  rw [List.range_succ, List.map_append]
  rfl
 ·intro x hx
  unfold manL at hx
  obtain ⟨j, hj, rfl⟩ := List.mem_map.1 hx
  have hj2 := List.mem_range.1 hj
  show ((167772160 + j * 65536 : Nat) : Int) < ((167772160 + n * 65536 : Nat) : Int)
  omega
def manT (n : Nat) : Tb := ⟨manC, manL n, if n = 0 then 0 else 1, 0⟩
theorem vfi {n : Nat} (h : n < 256) : heardT (manT n) (netQ n) (manH n) 1 = (manT (n + 1), manR n, 0) := by
 unfold heardT
 rw [if_pos (vjj n h)]
 have ht : timely (manT n) 1 = true := by
  unfold timely manT
  by_cases h0 : n = 0
  ·rw [if_pos h0]; rfl
  ·rw [if_neg h0]; rfl
 rw [if_pos ht]
 have hw : wasR (netQ n) (manT n).l = noR (netQ n) := by
  unfold wasR
  rw [show (manT n).l = manL n from rfl, vle (Nat.le_refl n)]
  rfl
 have hh : hearR (manT n).c (wasR (netQ n) (manT n).l) (manH n) 1 = manR n := by
  rw [hw]
  exact vjk n
 rw [hh]
 have hf : fullB (manT n) (netQ n) (manR n) = false := by
  unfold fullB
  rw [show (manT n).l = manL n from rfl, vld, show (manT n).c.cap = 256 from rfl]
  have : decide ((256 : Int) ≤ (n : Int)) = false := by rw [decide_eq_false_iff_not]; omega
  rw [this, Bool.and_false, Bool.and_false]
 rw [hf]
 simp only [Bool.false_eq_true, if_false]
 rw [show (manT n).l = manL n from rfl, vlf]
 rfl
theorem vlg : ∀ n ≤ 256, TbOk (manT n) := by
 intro n
 induction n with
 | zero =>
  intro _
  have := vjx vjy
  rw [vlc] at this
  exact this
 | succ n ih =>
  intro h
  have := viP (ih (by omega)) (netQ n) (manH n) 1
  rw [vfi (by omega)] at this
  exact this
theorem man_x (n : Nat) : ∀ r ∈ (manT n).l, r.x < 4294967296 := by
 intro r hr
 obtain ⟨j, _, rfl⟩ := List.mem_map.1 (show r ∈ (List.range n).map manR from hr)
 exact (by decide : 167772418 < 4294967296)
theorem man_f {n : Nat} (h : n ≤ 256) : TabF (manT n) := by
 intro r hr
 obtain ⟨j, hj, rfl⟩ := List.mem_map.1 (show r ∈ (List.range n).map manR from hr)
 have hj2 := List.mem_range.1 hj
 exact ⟨by show 167772160 + j * 65536 < 4294967296; omega, (by decide : 167772418 < 4294967296), (by decide : (0 : Int) ≤ 16), (by decide : (16 : Int) ≤ 32)⟩
def manM (fc : Int) (i : Nat) : Int := if (i : Int) % 3 = fc then 16 else 2 + (i : Int) % 14
theorem man_c : ∀ i < 256, checkR (manR i) = 0 ∧ goodP (netQ i) = true := by decide +kernel
theorem vlh {i : Nat} (h : i < 256) (fc : Int) : entE fc (manR i) = oneE (netQ i) (manM fc i) := by
 have h1 := Int.emod_nonneg (i : Int) (show (14 : Int) ≠ 0 by decide)
 have h2 := Int.emod_lt_of_pos (i : Int) (show (0 : Int) < 14 by decide)
 have ht : toldR (manR i) fc = manM fc i := by
  unfold toldR manM
  rw [if_pos (man_c i h).1]
  by_cases h3 : (i : Int) % 3 = fc
  ·rw [if_pos h3, if_pos (by show (((2 : Int) == 2) && ((i : Int) % 3 == fc)) = true; simp [h3])]
  ·rw [if_neg h3, if_neg (by show ¬ (((2 : Int) == 2) && ((i : Int) % 3 == fc)) = true; simp [h3])]
   rfl
 unfold entE
 rw [ht]
 unfold ofE
 rw [if_pos]
 ·rfl
 ·unfold ofN
  rw [show (manR i).p = netQ i from rfl, (man_c i h).2]
  have hm : 1 ≤ manM fc i ∧ manM fc i ≤ 16 := by unfold manM; split <;> omega
  rw [if_pos (by simp [hm])]
def manE (fc : Int) (n : Nat) : List En := (List.range n).map (fun i => oneE (netQ i) (manM fc i))
theorem vli {n : Nat} (h : n ≤ 256) (fc : Int) : (manT n).l.map (entE fc) = manE fc n := by
 show ((List.range n).map manR).map (entE fc) = _
 unfold manE
 rw [List.map_map]
 apply List.map_congr_left
 intro i hi
 have := List.mem_range.1 hi
 exact vlh (by omega) fc
theorem vba (es : List En) : (piecesE es).length = (es.length + 24) / 25 := by
 by_cases h : es = []
 ·subst h
  rw [vaC]
  rfl
 ·have hp : 0 < es.length := List.length_pos_iff.2 h
  rw [van h, List.length_cons, vba (es.drop 25), List.length_drop]
  omega
termination_by es.length
decreasing_by
 rw [List.length_drop]
 omega
theorem ven (es : List En) : ∀ (i : Nat) (h : i < (piecesE es).length), (piecesE es)[i] = (es.drop (25 * i)).take 25 := by
 by_cases h : es = []
 ·subst h
  intro i hi
  rw [vba] at hi
  simp at hi
 ·have hp : 0 < es.length := List.length_pos_iff.2 h
  intro i hi
  have e := van h
  simp only [e]
  cases i with
  | zero => simp
  | succ i =>
   simp only [List.getElem_cons_succ]
   rw [ven (es.drop 25) i (by rw [e] at hi; simpa using hi), List.drop_drop]
   congr 1
   congr 1
   omega
termination_by es.length
decreasing_by
 rw [List.length_drop]
 omega
attribute [local go_sem] Oper.semAt_some
theorem vlE {B : Nat} {W : World} {v : Value} {qs : List Pc} {ls : List (List Nat)} (h : BsN B W v qs ls) (h0 : 0 < ls.length) : ∃ g c, v = .slice (some ⟨g, 0, none⟩) ls.length c ∧ ls.length ≤ c ∧ ∀ (i : Nat) (l : List Nat), ls[i]? = some l → ∃ A m, l.length ≤ m ∧ W.cell? ⟨g, i, none⟩ = some (.slice A l.length m) ∧ Rd W 1 byN A l := by
 have hl : qs.length = ls.length := h.len
 have hO := h.own
 rcases hO.2 with ⟨_, h2⟩ | ⟨g, cap, cur, hv, hg, hh, h3, h4⟩
 ·omega
 ·have hR : Rd W 1 Pc.encB (some ⟨g, 0, none⟩) qs := Own.rdAt (n := qs.length) (c := cap) (by decide) Pc.encB_len (by rw [hv] at hO; exact hO)
  refine ⟨g, cap, by rw [hv, hl], by omega, fun i l hi => ?_⟩
  have hil : i < ls.length := (List.getElem?_eq_some_iff.1 hi).1
  have hiq : i < qs.length := by omega
  obtain ⟨a1, a2, _⟩ := h.ent i qs[i] l (List.getElem?_eq_getElem hiq) hi
  obtain ⟨b, off, e, hc⟩ := hR i hiq
  injection e with e
  injection e with e1 e2
  subst e1 e2
  have h9 : W.cell? ⟨g, 0 + i * 1 + 0, none⟩ = some (.slice qs[i].A qs[i].n qs[i].m) := hc 0 _ rfl
  rw [a1.1, show 0 + i * 1 + 0 = i by omega] at h9
  exact ⟨_, _, a1.2, h9, a2⟩
theorem vhR (es : List En) : ∀ x ∈ bytesD 2 es, x < 256 := by
 intro x hx
 unfold bytesD at hx
 simp only [List.mem_cons, List.mem_flatMap] at hx
 rcases hx with rfl | rfl | rfl | rfl | ⟨e, _, he⟩
 ·decide
 ·decide
 ·decide
 ·decide
 ·exact vge e x he
def manP (fc : Int) (N q : Nat) : List En := ((manE fc N).drop (25 * q)).take 25
theorem man_m {fc : Int} (i : Nat) : 0 ≤ manM fc i ∧ manM fc i ≤ 16 := by
 have h1 := Int.emod_nonneg (i : Int) (show (14 : Int) ≠ 0 by decide)
 have h2 := Int.emod_lt_of_pos (i : Int) (show (0 : Int) < 14 by decide)
 unfold manM
 split <;> omega
theorem vdK (fc : Int) (N q : Nat) : (manP fc N q).length = min 25 (N - 25 * q) := by
 unfold manP manE
 rw [List.length_take, List.length_drop, List.length_map, List.length_range]
theorem vfj {fc : Int} {N q : Nat} (hN : N ≤ 256) : ∀ e ∈ manP fc N q, e.wf ∧ okEn e = true := by
 intro e he
 unfold manP manE at he
 obtain ⟨i, hi, rfl⟩ := List.mem_map.1 (List.mem_of_mem_drop (List.mem_of_mem_take he))
 have hi2 := List.mem_range.1 hi
 have hm := man_m (fc := fc) i
 exact ⟨⟨by show 167772160 + i * 65536 < 4294967296; omega, vbv _, (by decide : 0 < 4294967296), by show (manM fc i).toNat < 4294967296; omega⟩, rfl⟩
theorem vjl {fc : Int} {N q : Nat} (hN : N ≤ 256) : decD (bytesD 2 (manP fc N q)) = (2, manP fc N q, 0) :=
 vgf (fun e he => (vfj hN e he).1) (vhJ (by rw [vdK]; omega) (fun e he => (vfj hN e he).2))
theorem vlj {fc : Int} {N q j : Nat} (hj : j < (manP fc N q).length) : (manP fc N q)[j] = oneE (netQ (25 * q + j)) (manM fc (25 * q + j)) := by
 have hl := vdK fc N q
 have h : (manP fc N q)[j]? = some (oneE (netQ (25 * q + j)) (manM fc (25 * q + j))) := by
  unfold manP manE
  rw [List.getElem?_take_of_lt (by omega), List.getElem?_drop, List.getElem?_map, List.getElem?_range (by omega)]
  rfl
 rw [List.getElem?_eq_getElem hj] at h
 exact Option.some.inj h
theorem vgd {fc : Int} {N : Nat} (h : N ≤ 256) : ((piecesE ((manT N).l.map (entE fc))).map (bytesD 2)).length = (N + 24) / 25 ∧ ∀ q, q < (N + 24) / 25 → ((piecesE ((manT N).l.map (entE fc))).map (bytesD 2))[q]? = some (bytesD 2 (manP fc N q)) := by
 rw [vli h]
 have hl : (piecesE (manE fc N)).length = (N + 24) / 25 := by
  rw [vba]
  unfold manE
  rw [List.length_map, List.length_range]
 refine ⟨by rw [List.length_map, hl], fun q hq => ?_⟩
 rw [List.getElem?_map, List.getElem?_eq_getElem (by rw [hl]; exact hq), ven _ q (by rw [hl]; exact hq)]
 rfl
theorem veL (w : World) (hC : CapAt w) : Calls Tryz.prog 13 #[.agg #[.int .i64 1, .int .i64 0, .int .i64 6, .int .i64 0, .int .i64 3, .int .i64 0, .int .i64 0, .int .i64 256, .slice none 0 0]] w fun e w' => ∃ t F, e = .returned (.tuple #[.pointer (some ⟨t, 0, none⟩), .int .i64 0]) ∧ TabM w' w.heap.size t F (manT 0) ∧ Kp w w' :=
 vfc manC none 0 w ⟨Rd.nil _ _ _ _, Nat.le_refl _, fun _ => ⟨rfl, rfl⟩⟩ hC (fun k hk => absurd hk (Nat.not_lt_zero k)) vjy
set_option maxRecDepth 100000 in
theorem vcI (many fc : Int) (w : World) (hC : CapAt w) (hWd : WidAt w) (hFa : ReFac w) : Calls Tryz.prog 5 #[.int .i64 many, .int .i64 fc] w fun e w' => e = .returned (.bool true) ∧ Kp w w' := by
 have HWK : Hid (∀ V, Kp w V → Calls Tryz.prog 10 #[] V fun e w' => e = .returned (.bool true) ∧ Kp V w') := Lib.hid (fun V hV => vgc V ⟨hV.cell hC.1, hV.cell hC.2⟩ (hWd.keep hV) (hFa.keep hV))
 have HCA : Hid (∀ V, Kp w V → CapAt V) := Lib.hid (fun V hV => hC.keep hV)
 have HWD : Hid (∀ V, Kp w V → WidAt V) := Lib.hid (fun V hV => hWd.keep hV)
 have HFA : Hid (∀ V, Kp w V → ReFac V) := Lib.hid (fun V hV => hFa.keep hV)
 have HNW := Lib.hid (veL w hC)
 clear hC hWd hFa
 go_enter Tryz.func5, Tryz.ntmps5
 by_cases hbad : (many < 1 ∨ 256 < many) ∨ (fc < 0 ∨ 15 < fc)
 ·obtain ⟨b1, hb1⟩ : ∃ b, decide (many < 1) = b := ⟨_, rfl⟩
  obtain ⟨b2, hb2⟩ : ∃ b, decide (256 < many) = b := ⟨_, rfl⟩
  obtain ⟨b3, hb3⟩ : ∃ b, decide (fc < 0) = b := ⟨_, rfl⟩
  obtain ⟨b4, hb4⟩ : ∃ b, decide (15 < fc) = b := ⟨_, rfl⟩
  have hor : ((b1 || b2) || b3) || b4 = true := by
   rw [← hb1, ← hb2, ← hb3, ← hb4]
   simp only [Bool.or_eq_true, decide_eq_true_eq]
   omega
  clear hbad
  cases b1 <;> cases b2 <;> cases b3 <;> cases b4 <;> first | (exact absurd hor (by decide)) | skip
  all_goals
   clear hor
   go_wp2_with fail
   refine (HWK.out _ (Kp.refl _)).mono ?_
   rintro e w1 ⟨rfl, K1⟩
   go_wp2_with fail
   go_ret
   exact ⟨rfl, K1⟩
 have h1 : 1 ≤ many := by omega
 have h2 : many ≤ 256 := by omega
 have h3 : 0 ≤ fc := by omega
 have h4 : fc ≤ 15 := by omega
 clear hbad
 obtain ⟨N, rfl⟩ := Int.eq_ofNat_of_zero_le (show 0 ≤ many by omega)
 have hN0 : 0 < N := by omega
 have hN : N ≤ 256 := by omega
 have hd1 : decide ((N : Int) < 1) = false := by rw [decide_eq_false_iff_not]; omega
 have hd2 : decide ((256 : Int) < (N : Int)) = false := by rw [decide_eq_false_iff_not]; omega
 have hd3 : decide (fc < 0) = false := by rw [decide_eq_false_iff_not]; omega
 have hd4 : decide ((15 : Int) < fc) = false := by rw [decide_eq_false_iff_not]; omega
 have HN := Lib.hid (And.intro (And.intro hN0 hN) (And.intro h3 h4))
 clear h1 h2 h3 h4 hN0 hN
 go_wp2_with fail
 refine HNW.out.mono ?_
 rintro e w2 ⟨t, F0, rfl, hM, K2⟩
 have HM := Lib.hid hM
 have HK2 := Lib.hid K2
 obtain ⟨B, hB⟩ : ∃ B, w.heap.size = B := ⟨_, rfl⟩
 rw [hB] at HM
 have HB := Lib.hid hB
 clear hM K2 hB
 go_wp2_with fail
 go_loopw [7] (fun i wr => ∃ k : Nat, k ≤ N ∧ i = .int .i64 k ∧ Hid ((∃ F, TabM wr B t F (manT k)) ∧ Kp w wr)) (fun i _ => N - (intOf i).toNat)
 case atStart => exact ⟨0, Nat.zero_le _, rfl, Lib.hid ⟨⟨F0, HM.out⟩, HK2.out⟩⟩
 case round =>
  obtain ⟨k, hk, rfl, HR⟩ := hrel
  by_cases hlt : k < N
  ·have hlt1 : (k : Int) < (N : Int) := by omega
   obtain ⟨F, hMk⟩ := HR.out.1
   have hk256 : k < 256 := by have := HN.out.1.2; omega
   have hwr : IntKind.u32.wrap (k : Int) = (k : Int) := by show (k : Int) % 4294967296 = _; omega
   have hm3 : Int.tmod (k : Int) 3 = (k : Int) % 3 := by rw [Int.tmod_eq_emod_of_nonneg (by omega)]
   have hm14 : Int.tmod (k : Int) 14 = (k : Int) % 14 := by rw [Int.tmod_eq_emod_of_nonneg (by omega)]
   have HNN := Lib.hid (fun V => vak k hk256 V)
   have HHE : Hid (∀ V, Kp wr V → Calls Tryz.prog 14 #[.pointer (some ⟨t, 0, none⟩), pfV (netQ k), .agg #[.int .i64 (manH k).f, .int .u32 ((manH k).a : Int), .int .i64 (manH k).m], .int .i64 1] V (HearP B t F (manT k) (manT (k + 1), manR k, 0) V)) := Lib.hid (fun V hV => by
    have h := veh B t F (manT k) (netQ k) (manH k) 1 V (hMk.keep hV) (vlg k (by omega)) (man_x k) (fun j hj => absurd hj (Nat.not_lt_zero j)) (HCA.out V (HR.out.2.trans hV)) ⟨by show 167772160 + k * 65536 < 4294967296; omega, by show wfI 16; unfold wfI; omega⟩ (by show 167772418 < 4294967296; decide)
    rw [vfi hk256] at h
    exact h)
   have HMK := Lib.hid hMk
   clear hMk
   go_wp2_with fail
   refine (HNN.out _).mono ?_
   rintro e w3 ⟨rfl, K3⟩
   have HK3 := Lib.hid K3
   clear K3
   go_wp2_with fail
   refine (HHE.out w3 HK3.out).mono ?_
   rintro e w4 ⟨rfl, F4, hT4, hO4, hF4⟩
   have K4 : Kp w w4 := hO4.kp (HR.out.2.trans HK3.out) (fun x hx => by have := (HMK.out.lo x hx).1; have := HB.out; omega)
   obtain ⟨x5, hx5⟩ : ∃ x, manR k = x := ⟨_, rfl⟩
   rw [hx5]
   obtain ⟨Y0, hY0, kY0, _⟩ := Blk.al1 (w := w4) rfl (roC x5) 52
   unfold roC at hY0
   have HRel : Hid ((∃ F, TabM Y0 B t F (manT (k + 1))) ∧ Kp w Y0) := Lib.hid ⟨⟨F4, hT4.keep kY0⟩, K4.trans kY0⟩
   clear hT4 hO4 hF4 K4 hx5 kY0
   go_wp2_with (first | (go_at_call 16; refine (vbF _ _).mono ?_; rintro e wz ⟨rfl, rfl⟩))
   go_roundw
   case rel => exact ⟨k + 1, by omega, by go_num, HRel⟩
   case measure => simp [intOf]; omega
  ·obtain rfl : k = N := by omega
   obtain ⟨F, hMk⟩ := HR.out.1
   have hk256 : k ≤ 256 := HN.out.1.2
   have hDA := vbh B t F (manT k) fc wr hMk (HFA.out wr HR.out.2) (HWD.out wr HR.out.2) HN.out.2.1 HN.out.2.2 (man_f HN.out.1.2)
   have HDA := Lib.hid hDA
   clear hMk hDA
   obtain ⟨h0, h1⟩ := vgd (fc := fc) HN.out.1.2
   obtain ⟨LL, hLL⟩ : ∃ L, (piecesE ((manT k).l.map (entE fc))).map (bytesD 2) = L := ⟨_, rfl⟩
   rw [hLL] at HDA h0 h1
   obtain ⟨Q, hQ⟩ : ∃ Q, (k + 24) / 25 = Q := ⟨_, rfl⟩
   rw [hQ] at h0 h1
   have HQ := Lib.hid hQ
   have hq0 : 0 < Q := by have := HN.out.1.1; omega
   have hQ12 : Q ≤ 12 := by omega
   have hqd : Int.tdiv ((k : Int) + 24) 25 = (Q : Int) := by
    rw [Int.tdiv_eq_ediv_of_nonneg (by omega), ← hQ]
    omega
   have HPA := Lib.hid h1
   have HPL := Lib.hid h0
   clear hLL h1 h0 hQ
   go_wp2_with fail
   refine HDA.out.mono ?_
   rintro e w5 ⟨v, qs, rfl, hN5, K5⟩
   obtain ⟨g, c, hv, hc, hat⟩ := vlE hN5 (by rw [HPL.out]; exact hq0)
   rw [HPL.out] at hv
   subst hv
   have HAT := Lib.hid hat
   have HK5 := Lib.hid (HR.out.2.trans K5)
   clear hN5 K5 hat hc
   go_wp2_with (first | (go_at_call 16; refine (vbF _ _).mono ?_; rintro e wz ⟨rfl, rfl⟩))
   go_loopw [12, 13] (fun n i wo => ∃ q : Nat, q ≤ Q ∧ i = .int .i64 q ∧ n = .int .i64 (min k (25 * q) : Nat) ∧ Hid (Kp w5 wo)) (fun _ i _ => Q - (intOf i).toNat)
   case atStart => exact ⟨0, Nat.zero_le _, rfl, by simp, Lib.hid (Kp.refl _)⟩
   case round =>
    obtain ⟨q, hq, rfl, rfl, HKO⟩ := hrel
    by_cases hlq : q < Q
    ·have hlq1 : (q : Int) < (Q : Int) := by omega
     have hn25 : min k (25 * q) = 25 * q := by have := HQ.out; omega
     have hrem : 25 * q < k := by have := HQ.out; omega
     rw [hn25]
     obtain ⟨wo, rfl⟩ : ∃ x : World, x = wr := ⟨_, rfl⟩
     obtain ⟨A, m, hcap, hy, hrd⟩ := HAT.out q _ (HPA.out q hlq)
     have y := HKO.out.cell hy
     obtain ⟨es, hes⟩ : ∃ es, manP fc k q = es := ⟨_, rfl⟩
     have hlen := vdK fc k q
     have hdc := vjl (fc := fc) (q := q) hk256
     have hme := fun j hj => vlj (fc := fc) (N := k) (q := q) (j := j) hj
     rw [hes] at hcap y hrd hlen hdc
     have HME : Hid (∀ j (hj : j < es.length), es[j] = oneE (netQ (25 * q + j)) (manM fc (25 * q + j))) := Lib.hid (by subst hes; exact hme)
     clear hme
     obtain ⟨l, hl⟩ : ∃ l, bytesD 2 es = l := ⟨_, rfl⟩
     rw [hl] at hcap y hrd hdc
     obtain ⟨n0, hn0⟩ : ∃ n, 25 * q = n := ⟨_, rfl⟩
     rw [hn0] at hn25 hrem hlen HME ⊢
     have hes25 : es.length ≤ 25 := by omega
     have hes0 : 0 < es.length := by omega
     have hnk : n0 + es.length ≤ k := by omega
     have hmin : (if (k : Int) - (n0 : Int) < 25 then (k : Int) - (n0 : Int) else 25) = (es.length : Int) := by split <;> omega
     have hdec := vcV A m l wo ⟨hrd.keep HKO.out, by rw [← hl]; exact vhR _, hcap, by rw [← hl, vbI]; omega, HWD.out wo (HK5.out.trans HKO.out)⟩
     unfold DecP at hdec
     rw [hdc] at hdec
     have HDEC := Lib.hid hdec
     have HNX : Hid (n0 + es.length = min k (25 * (q + 1))) := Lib.hid (by omega)
     have HN0 := Lib.hid (And.intro hn0 hlen)
     clear hdec hdc hes hl hcap hrd hlen hn0 hn25
     go_wp2_with fail
     refine HDEC.out.mono ?_
     rintro e w6 ⟨Ao, mo, rfl, hro, -, K6⟩
     obtain ⟨bx, hbx⟩ : ∃ g, w6.heap.size = g := ⟨_, rfl⟩
     obtain ⟨w7, hw7, k7, BX⟩ := Blk.al1 hbx #[.int .i64 2, .slice Ao es.length mo] 30
     obtain ⟨ga, off, hA, _⟩ := en_at hro hes0
     subst hA
     have HBX := Lib.hid BX
     have HRO := Lib.hid (hro.keep k7)
     have HK7 := Lib.hid (HKO.out.trans (K6.trans k7))
     have u := Blk.f BX rfl
     clear y hro K6 k7 BX
     go_upto_region 20 with (first | (go_at_call 16; refine (vbF _ _).mono ?_; rintro e wz ⟨rfl, rfl⟩))
     clear u hmin hw7
     go_wp2_with fail
     go_loopw [12, 16] (fun n i wi => ∃ j : Nat, j ≤ es.length ∧ i = .int .i64 j ∧ n = .int .i64 (n0 + j : Nat) ∧ Hid (Kp w7 wi)) (fun _ i _ => es.length - (intOf i).toNat)
     case atStart => exact ⟨0, Nat.zero_le _, rfl, rfl, Lib.hid (Kp.refl _)⟩
     case round =>
      obtain ⟨j, hj, rfl, rfl, HKI⟩ := hrel
      obtain ⟨wi, rfl⟩ : ∃ x : World, x = wr := ⟨_, rfl⟩
      have u := Blk.f (HBX.out.keep HKI.out) rfl
      by_cases hlj : j < es.length
      ·have hlj1 : (j : Int) < (es.length : Int) := by omega
       have hj0 : (0 : Int) ≤ (j : Int) := by omega
       have hjl : decide (es.length ≤ j) = false := by rw [decide_eq_false_iff_not]; omega
       obtain ⟨i0, hi0⟩ : ∃ x, n0 + j = x := ⟨_, rfl⟩
       rw [hi0]
       have hib : i0 < 256 := by omega
       have hme := HME.out j hlj
       rw [hi0] at hme
       have hwr : IntKind.u32.wrap (i0 : Int) = (i0 : Int) := by show (i0 : Int) % 4294967296 = _; omega
       have hm3 : Int.tmod (i0 : Int) 3 = (i0 : Int) % 3 := by rw [Int.tmod_eq_emod_of_nonneg (by omega)]
       have hm14 : Int.tmod (i0 : Int) 14 = (i0 : Int) % 14 := by rw [Int.tmod_eq_emod_of_nonneg (by omega)]
       have hz := man_m (fc := fc) i0
       obtain ⟨ga', off', hA', z0, z1, z2, z3, z4, z5⟩ := en_at (HRO.out.keep HKI.out) hlj
       injection hA' with hA'
       injection hA' with h1 h2
       subst h1 h2
       have hone := fun V => vaw (netQ i0) (manM fc i0).toNat V ⟨by show (0 : Int) ≤ 16; decide, by show (16 : Int) ≤ 32; decide⟩ (by omega)
       rw [show (((manM fc i0).toNat : Nat) : Int) = manM fc i0 by omega, ← hme] at hone
       obtain ⟨x, hx⟩ : ∃ x, es[j] = x := ⟨_, rfl⟩
       rw [hx] at hone z0 z1 z2 z3 z4 z5
       have HC := Lib.hid (And.intro z0 (And.intro z1 (And.intro z2 (And.intro z3 (And.intro z4 z5)))))
       have HNN := Lib.hid (fun V => vak i0 hib V)
       have HHI := Lib.hid hi0
       clear z0 z1 z2 z3 z4 z5 hx hme hi0 hz
       by_cases h3 : (i0 : Int) % 3 = fc

       ·have HONE := Lib.hid hone
        rw [show manM fc i0 = 16 by unfold manM; rw [if_pos h3]] at HONE
        clear hone
        go_upto_region 26 with (fail)
        clear u
        refine' vau (fun (_ : Unit) _ V9 => Kp _ V9) [121, 122, 123, 124, 125, 126, 127, 128, 129, 130, 131] (fun (_ : Unit) => [.pointer (some ⟨bx, 1, none⟩), .slice (some ⟨ga, off, none⟩) es.length mo, .int .i64 (j : Nat), .pointer (some ⟨ga, off + j * 6, none⟩), enV x, .int .i64 (i0 : Nat), .int .u32 (i0 : Nat), .agg #[.int .u32 ((netQ i0).a : Int), .int .i64 (netQ i0).l], .int .i64 (16), enV x, .bool false]) (List.replicate 11 true) [] (by kernel_rfl) (by kernel_rfl) (fun _ => rfl) (fun _ => rfl) (fun _ => rfl) () (Kp.refl _).drew (fun _ _ _ _ _ h => h) ?_ ?_ ?_
        rotate_left
        ·intro z; simp only [List.zip_cons_cons, List.zip_nil_right, wrC, wrN, List.set_cons_zero, List.set_cons_succ, List.set_nil]; rfl
        ·repeat' (first | refine And.intro ?_ ?_ | exact trivial)
         all_goals intro z L a w9 hLi d hcl hM hO K hK
         all_goals try (go_simp; exact hK z _ _ (hO rfl) (fun _ _ => rfl) rfl)
         ·have u := Blk.f (HBX.out.keep (HKI.out.trans hM)) rfl
          go_simp
          exact hK z _ _ (hO rfl) (fun _ _ => rfl) rfl
         ·have z0 := hM.cell HC.out.1
          have z1 := hM.cell HC.out.2.1
          have z2 := hM.cell HC.out.2.2.1
          have z3 := hM.cell HC.out.2.2.2.1
          have z4 := hM.cell HC.out.2.2.2.2.1
          have z5 := hM.cell HC.out.2.2.2.2.2
          go_simp
          exact hK z _ _ (hO rfl) (fun _ _ => rfl) rfl
         ·go_simp
          refine (HNN.out _).mono ?_
          rintro e wb ⟨rfl, hKc⟩
          exact hK z _ _ (hM.trans hKc) (fun _ _ => rfl) rfl
         ·go_simp
          refine (HONE.out _).mono ?_
          rintro e wb ⟨rfl, hKc⟩
          exact hK z _ _ (hM.trans hKc) (fun _ _ => rfl) rfl
        intro z L w9 hL KV
        (try simp only [Exit.then])
        have HKN := Lib.hid (HKI.out.trans KV)
        clear KV
        go_wp2_with fail
        go_roundw
        case rel => exact ⟨j + 1, by omega, by go_num, by rw [← HHI.out]; go_num, HKN⟩
        case measure => simp [intOf]; omega
       ·have HONE := Lib.hid hone
        rw [show manM fc i0 = 2 + (i0 : Int) % 14 by unfold manM; rw [if_neg h3]] at HONE
        clear hone
        go_upto_region 26 with (fail)
        clear u
        refine' vau (fun (_ : Unit) _ V9 => Kp _ V9) [121, 122, 123, 124, 125, 126, 127, 128, 129, 130, 131] (fun (_ : Unit) => [.pointer (some ⟨bx, 1, none⟩), .slice (some ⟨ga, off, none⟩) es.length mo, .int .i64 (j : Nat), .pointer (some ⟨ga, off + j * 6, none⟩), enV x, .int .i64 (i0 : Nat), .int .u32 (i0 : Nat), .agg #[.int .u32 ((netQ i0).a : Int), .int .i64 (netQ i0).l], .int .i64 (2 + (i0 : Int) % 14), enV x, .bool false]) (List.replicate 11 true) [] (by kernel_rfl) (by kernel_rfl) (fun _ => rfl) (fun _ => rfl) (fun _ => rfl) () (Kp.refl _).drew (fun _ _ _ _ _ h => h) ?_ ?_ ?_
        rotate_left
        ·intro z; simp only [List.zip_cons_cons, List.zip_nil_right, wrC, wrN, List.set_cons_zero, List.set_cons_succ, List.set_nil]; rfl
        ·repeat' (first | refine And.intro ?_ ?_ | exact trivial)
         all_goals intro z L a w9 hLi d hcl hM hO K hK
         all_goals try (go_simp; exact hK z _ _ (hO rfl) (fun _ _ => rfl) rfl)
         ·have u := Blk.f (HBX.out.keep (HKI.out.trans hM)) rfl
          go_simp
          exact hK z _ _ (hO rfl) (fun _ _ => rfl) rfl
         ·have z0 := hM.cell HC.out.1
          have z1 := hM.cell HC.out.2.1
          have z2 := hM.cell HC.out.2.2.1
          have z3 := hM.cell HC.out.2.2.2.1
          have z4 := hM.cell HC.out.2.2.2.2.1
          have z5 := hM.cell HC.out.2.2.2.2.2
          go_simp
          exact hK z _ _ (hO rfl) (fun _ _ => rfl) rfl
         ·go_simp
          refine (HNN.out _).mono ?_
          rintro e wb ⟨rfl, hKc⟩
          exact hK z _ _ (hM.trans hKc) (fun _ _ => rfl) rfl
         ·go_simp
          refine (HONE.out _).mono ?_
          rintro e wb ⟨rfl, hKc⟩
          exact hK z _ _ (hM.trans hKc) (fun _ _ => rfl) rfl
        intro z L w9 hL KV
        (try simp only [Exit.then])
        have HKN := Lib.hid (HKI.out.trans KV)
        clear KV
        go_wp2_with fail
        go_roundw
        case rel => exact ⟨j + 1, by omega, by go_num, by rw [← HHI.out]; go_num, HKN⟩
        case measure => simp [intOf]; omega
      ·obtain rfl : j = es.length := by omega
       go_wp2_with fail
       go_roundw
       case rel => exact ⟨q + 1, by omega, by go_num, by rw [← HNX.out], Lib.hid (HK7.out.trans HKI.out)⟩
       case measure => simp [intOf]; omega
    ·obtain rfl : q = Q := by omega
     rw [show min k (25 * q) = k by have := HQ.out; omega]
     have HKE := Lib.hid (HK5.out.trans HKO.out)
     go_wp2_with fail
     refine (HWK.out _ HKE.out).mono ?_
     rintro e w8 ⟨rfl, K8⟩
     have HK8 := Lib.hid (HKE.out.trans K8)
     clear K8
     go_wp2_with fail
     go_ret
     exact ⟨rfl, HK8.out⟩
end

section
open Go.ChangeShapes Go.WideShapes Go.ChangeAt Go.RowKit
theorem gRFa : Tryz.prog.globalNamed "waywarden/respond.faceBounds" = some 0 := by kernel_rfl
theorem tRFa : (Tryz.prog.globals[0]?).map (·.type) = some 230 := by kernel_rfl
def reLaid : List (String × DataW Unit) := [("waywarden/octet.widths", Rows.laid_waywarden_octet_widths), ("waywarden/config.capBounds", Rows.laid_waywarden_config_capBounds), ("waywarden/respond.faceBounds", Rows.laid_waywarden_respond_faceBounds)]
set_option maxRecDepth 100000 in
theorem vbU {W : World} (h : laidMetH Tryz.prog reLaid W) : WidAt W ∧ CapAt W ∧ ReFac W := by
 unfold reLaid at h
 rw [MakeChecks.laidMetH_plain _ _ _ (by kernel_rfl)] at h
 obtain ⟨ps, ⟨g0, t0, cs0, f0, p0, q0, hg0, ht0, hv0, hd0, ⟨g1, t1, cs1, f1, p1, q1, hg1, ht1, hv1, hd1, ⟨g2, t2, cs2, f2, p2, q2, hg2, ht2, hv2, hd2, _, _⟩, _⟩, _⟩, _, _⟩ := h
 obtain rfl := Option.some.inj (gWid.symm.trans hg0)
 obtain rfl := Option.some.inj (tWid.symm.trans ht0)
 obtain rfl := Option.some.inj (gCap.symm.trans hg1)
 obtain rfl := Option.some.inj (tCap.symm.trans ht1)
 obtain rfl := Option.some.inj (gRFa.symm.trans hg2)
 obtain rfl := Option.some.inj (tRFa.symm.trans ht2)
 have d0 := World.var?_cell hg2 hv2 0
 have d1 := World.var?_cell hg2 hv2 1
 have a0 := World.var?_cell hg0 hv0 0
 have a1 := World.var?_cell hg0 hv0 1
 have a2 := World.var?_cell hg0 hv0 2
 have b0 := World.var?_cell hg1 hv1 0
 have b1 := World.var?_cell hg1 hv1 1
 have e0 := vkX (show DataW.trod _ Tryz.prog W _ _ _ _ _ _ = some (.agg [.lit (.int .i64 1), .lit (.int .i64 2), .lit (.int .i64 4)], _) from hd0)
 have e1 := vho (show DataW.trod _ Tryz.prog W _ _ _ _ _ _ = some (.agg [.lit (.int .i64 1), .lit (.int .i64 256)], _) from hd1)
 have e2 := vho (show DataW.trod _ Tryz.prog W _ _ _ _ _ _ = some (.agg [.lit (.int .i64 0), .lit (.int .i64 15)], _) from hd2)
 obtain ⟨l⟩ := cs0
 obtain ⟨m⟩ := cs1
 obtain ⟨k⟩ := cs2
 simp only at e0 e1 e2
 subst e0 e1 e2
 simp at a0 a1 a2 b0 b1 d0 d1
 exact ⟨⟨a0, a1, a2⟩, ⟨b0, b1⟩, ⟨d0, d1⟩⟩
theorem vlk (os : Os) (args : Array Value) : laidMetH Tryz.prog reLaid ((World.doorLaid Tryz.prog 400 os).forCall (fun _ _ => 0) ⟨#[], args, []⟩).memory :=
 laidMetH_of_parts3 (fuel := 8) (laidMet_of_run' 8 (by kernel_rfl) (by kernel_rfl)) (by kernel_rfl) (by kernel_rfl)
end

section
open Go Go.ChangeShapes Go.WideShapes Go.ChangeAt Go.RowKit Go.Joins Go.Deep
theorem vcc {H : Type} {enc : TypeId × Value → H} {P : Program} {W : World} {base : Nat} {spare : Nat → Bool} {held : Bool} {t0 t1 : TypeId} {args : Array Value} {ds : List (DataW H)} {ps : List MemPlace} (h : DataW.TrodAll enc P W base spare held [t0, t1] args.toList ds ps) :
  ∃ v0 v1 d0 d1 p0 p1, args = #[v0, v1] ∧ ds = [d0, d1] ∧ DataW.Trod enc P W base spare held t0 v0 d0 p0 ∧ DataW.Trod enc P W base spare held t1 v1 d1 p1 := by
 obtain ⟨v0, r0, d0, s0, p0, q0, e0, rfl, -, h0, k0⟩ := trodAll_cons h
 obtain ⟨v1, r1, d1, s1, p1, q1, rfl, rfl, -, h1, k1⟩ := trodAll_cons k0
 obtain ⟨rfl, rfl, -⟩ := trodAll_nil k1
 exact ⟨v0, v1, d0, d1, p0, p1, Array.ext' (by simpa using e0), rfl, h0, h1⟩
set_option maxRecDepth 100000 in
theorem vbG (os : Os) (started : os.Started) (H : Type) (enc : TypeId × Value → H) :
  ReturnsInHanded {} Tryz.checked os 5 .any (fun w args => (Rows.respondManySpec.pre enc Tryz.prog Tryz.f5 [] false w args ∧ laidMetH Tryz.prog reLaid w) ∧ sizedMet enc Tryz.prog Tryz.f5 (OpenSpec.ofChange Rows.respondManySpec) false w args)
   (Rows.respondManySpec.post enc Tryz.prog Tryz.f5 false true false false) := by
 refine returnsInHanded_of_change_and (C := Tryz.checked) (X := fun w _ => laidMetH Tryz.prog reLaid w) (fun _ _ _ hh h => h.of_heap hh) Tryz.own started (by kernel_rfl) Tryz.func5
  (ChangeSpec.witness_shaped (enc := enc) (C := Tryz.checked) (os := os) (X := fun w _ => laidMetH Tryz.prog reLaid w) false (World.doorLaid Tryz.prog 400 os) #[.int .i64 0, .int .i64 0] 8 rfl (World.shaped_of_RefB (by kernel_rfl) (by kernel_rfl)) (by kernel_rfl) (by kernel_rfl) (by kernel_rfl) (vlk os _)) ?_
 intro W base args ds gs before hval0 hW _ _ hL _
 have hval : ∀ (j : Nat) t v, Tryz.f5.params[j]? = some t → args[j]? = some v → Value.okWide Tryz.prog W .any base t v := hval0
 have hW' := hW
 obtain ⟨p, q, hA0, hV, rfl, hfz, hnd⟩ := hW
 have hA : DataW.TrodAll enc Tryz.prog W 0 (fun _ => true) true Tryz.f5.params.toList args.toList ds p := hA0
 rw [Tryz.params5] at hA hval
 obtain ⟨v0, v1, _, _, _, _, rfl, rfl, h0, h1⟩ := vcc hA
 obtain ⟨rfl, rfl⟩ := trodVars_none hV
 obtain ⟨n0, rfl, -, -, -⟩ := open_int Tryz.underlying3 (hval 0 _ v0 rfl rfl) h0
 obtain ⟨n1, rfl, -, -, -⟩ := open_int Tryz.underlying3 (hval 1 _ v1 rfl rfl) h1
 clear hA0 hval0
 refine (vcI n0 n1 W (vbU hL).2.1 (vbU hL).1 (vbU hL).2.2).mono fun e W' ⟨he, hK⟩ => ?_
 subst he
 refine ⟨_, rfl, viY hW' rfl rfl rfl rfl rfl ?_ hK⟩
 intro t ht
 rw [Tryz.params5] at ht
 simp only [List.mem_cons, List.not_mem_nil, or_false] at ht
 rcases ht with rfl | rfl <;> exact ⟨by kernel_rfl, of_decide_eq_true (by kernel_rfl)⟩
set_option maxRecDepth 100000 in
theorem vbH : joinedFacts Tryz.prog 5 Tryz.f5 Rows.respondManySpec Rows.respondManyRow = true := by
 unfold joinedFacts
 simp only [Bool.and_eq_true]
 repeat' refine And.intro ?_ ?_
 all_goals as_aux_lemma => kernel_rfl
theorem vbV : Rows.RespondManySaid :=
 OpenClaim.holds_of_wide 5 Tryz.f5 rfl rfl rfl rfl rfl rfl rfl ⟨rfl, rfl, rfl, rfl, rfl⟩ rfl rfl rfl rfl rfl (by kernel_rfl) Tryz.func5 vbH
  (of_decide_eq_true (by kernel_rfl)) (by unfold Func.isWrapper; first | (rw [if_pos (by decide +kernel)]; kernel_rfl) | (rw [if_neg (by decide +kernel)]; exact ⟨rfl, rfl⟩))
  (fun os started H enc _ => vbG os started H enc)
theorem respondMany_card_holds : Rows.RespondManyCardSaid :=
 Claim7.holds_tied_plain_at .later [] [.data, .data, .data] true (true, "c35284451049d566b3a081529b1b659d2ce9466078bb6e9d13e885aa30dfdeb3") true
  vbV (fun _ h => by cases h) (by kernel_rfl) (fun _ h => by cases h) respondMany_row_tie rfl ⟨rfl, rfl⟩ (by kernel_rfl) rfl
  (fun f fn hf hfn => by
   obtain rfl : f = 5 := Option.some.inj ((show Tryz.prog.funcNamed "waywarden/waywardenlaw14.RespondMany" = some 5 by kernel_rfl).symm.trans hf) |>.symm
   obtain rfl : fn = Tryz.f5 := (Option.some.inj (Tryz.func5.symm.trans hfn)).symm
   exact ⟨by kernel_rfl, fun j t ht => by
    rw [Tryz.params5] at ht
    have hm : t ∈ [3, 3] := by simpa using Array.mem_of_getElem? ht
    have hall : ([3, 3].all fun u => !Tryz.prog.wantsStandIn u) = true := by kernel_rfl
    exact (show Tryz.prog.wantsStandIn t = false by simpa using List.all_eq_true.1 hall t hm)⟩)
  (by kernel_rfl)
end

end Go.Proofs.YtgopnfacklmkaaaGreatDoor
