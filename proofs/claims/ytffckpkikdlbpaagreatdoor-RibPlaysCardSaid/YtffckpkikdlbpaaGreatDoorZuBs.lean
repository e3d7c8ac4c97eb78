/- Lemmas and contracts for the theorem of this claim: AllT, Op12b, Lay12, AlR. -/
import Derived.Test.YtffckpkikdlbpaaGreatDoorZuBr
import Derived.Deep.CutBlock
import Derived.Test.YtffckpkikdlbpaaGreatDoorRows
import Derived.ProofKit
import Derived.LaidMore
import Derived.OpenShut
import Derived.Stop.Joined
import Derived.Test.YtffckpkikdlbpaaGreatDoorTie
import Derived.Test.YtffckpkikdlbpaaGreatDoorCards
import Derived.SevenTiedAt
set_option linter.all false
set_option maxHeartbeats 16000000
namespace Go.Proofs.YtffckpkikdlbpaaGreatDoor
section
open Go.RowKit Go.Maps
def ChP (T : Tb) (A E : Option Addr) (m n b10 bx : Nat) (A4 : Option Addr) (c4 : Nat) (V : World) : Prop := (RfM V T A E ∧ Blk V b10 39 (tbR T A E m n)) ∧ AllM bx A4 c4 T.l V
def ChW (w1 : World) (t : Nat) (T : Tb) (A E : Option Addr) (m n b10 bx : Nat) (A4 : Option Addr) (c4 : Nat) (A5 : Option Addr) (N : Nat) (W : World) : Prop :=
 (N = 0 ∧ ∃ B, TQ w1 W B t T (ChP T A E m n b10 bx A4 c4)) ∨ ∃ g, A5 = some ⟨g, 0, none⟩ ∧ w1.heap.size ≤ g ∧ ∃ B, TQ w1 W B t T (fun V => (∃ cs, Blk V g 48 cs ∧ ∀ i < N, i * 9 + 3 < cs.size) ∧ ∀ V', Only [g] V V' → ChP T A E m n b10 bx A4 c4 V')
theorem ChW.start {w1 w4 w5 : World} {t : Nat} {T : Tb} {A E : Option Addr} {m n b10 bx : Nat} {A4 : Option Addr} {c4 : Nat} {A5 : Option Addr} {c5 B : Nat} {N : List Rt} (hO : Own w5 w4.heap.size 48 9 Rt.enc (.slice A5 N.length c5) N) (Q : TQ w1 w4 B t T (fun V => (RfM V T A E ∧ Blk V b10 39 (tbR T A E m n)) ∧ AllM bx A4 c4 T.l V)) (k : Kp w4 w5) : ChW w1 t T A E m n b10 bx A4 c4 A5 N.length w5 := by
 have hrd := Own.rdAt (by decide) Rt.len hO
 rcases hO.2 with ⟨h2, h0⟩ | ⟨g, cap, cur, hv, hg, hc, _⟩
 ·exact .inl ⟨by rw [h0], B, Q.keep k⟩
 ·injection hv with hv
  subst hv
  have hB : Blk w5 g 48 cur := hc
  have hsz : ∀ i < N.length, i * 9 + 3 < cur.size := fun i hi => by
   obtain ⟨b2, off, e2, hc2⟩ := hrd i hi
   injection e2 with e2
   injection e2 with e3 e4
   subst e3 e4
   have h3 := hc2 3 _ (show (Rt.enc N[i])[3]? = some (.int .i64 N[i].m) from rfl)
   rw [Nat.zero_add, hB.cell] at h3
   exact (Array.getElem?_eq_some_iff.1 h3).1
  obtain ⟨B2, hQ⟩ := (TQ.moves w1).wide (bs := [g]) ⟨B, Q⟩ k (by simpa using hg) (fun V => ∃ cs, Blk V g 48 cs ∧ ∀ i < N.length, i * 9 + 3 < cs.size) (fun V hV => ⟨cur, (hV g hg hB.lt).trans hB, hsz⟩)
  exact .inr ⟨g, rfl, Nat.le_trans Q.kp.size hg, B2, hQ.imp (fun V hV => ⟨hV.2, hV.1⟩)⟩
section
variable {w1 W : World} {t : Nat} {T : Tb} {A E : Option Addr} {m n b10 bx : Nat} {A4 : Option Addr} {c4 : Nat} {A5 : Option Addr} {N : Nat}
theorem ChW.cell (h : ChW w1 t T A E m n b10 bx A4 c4 A5 N W) {k : Nat} (hk : k < N) : ∃ g, A5 = some ⟨g, 0, none⟩ ∧ ∃ v, W.cell? ⟨g, k * 9 + 3, none⟩ = some v ∧ W.frozen? ⟨g, k * 9 + 3, none⟩ = false := by
 rcases h with ⟨h, _⟩ | ⟨g, e, _, B, Q⟩
 ·omega
 ·obtain ⟨⟨cs, hB, hs⟩, _⟩ := Q.p
  exact ⟨g, e, cs[k * 9 + 3]'(hs k hk), by rw [hB.cell]; exact Array.getElem?_eq_getElem _, hB.frozen _⟩
theorem ChW.next {g : Nat} (h : ChW w1 t T A E m n b10 bx A4 c4 A5 N W) (e : A5 = some ⟨g, 0, none⟩) {k : Nat} (hk : k < N) (v : Value) : ChW w1 t T A E m n b10 bx A4 c4 (some ⟨g, 0, none⟩) N (W.setCell ⟨g, k * 9 + 3, none⟩ v) := by
 rcases h with ⟨h, _⟩ | ⟨g2, e2, hg, B, Q⟩
 ·omega
 ·rw [e] at e2
  injection e2 with e2
  injection e2 with e2
  subst e2
  obtain ⟨⟨cs, hB, hs⟩, _⟩ := Q.p
  obtain ⟨B2, hQ⟩ := (TQ.moves w1).put (g := g) (Y := 48) (cs := cs.setIfInBounds (k * 9 + 3) v) (P2 := fun V => (∃ cs, Blk V g 48 cs ∧ ∀ i < N, i * 9 + 3 < cs.size) ∧ ∀ V', Only [g] V V' → ChP T A E m n b10 bx A4 c4 V') ⟨B, Q⟩ (by decide) hg (fun V hV => by
   obtain ⟨⟨cs2, h2, _⟩, _⟩ := hV
   exact ⟨cs2, h2⟩) (fun V V' hV k2 hB2 => ⟨⟨_, hB2, fun i hi => by rw [Array.size_setIfInBounds]; exact hs i hi⟩, fun V'' k3 => hV.2 V'' (k2.trans k3)⟩) ((Only.refl [g] W).setCell (.inl (by simp)) v) (hB.set_ _ _)
  exact .inr ⟨g, rfl, hg, B2, hQ⟩
theorem ChW.open_ (h : ChW w1 t T A E m n b10 bx A4 c4 A5 N W) : ∃ B P, TQ w1 W B t T P ∧ ∀ V, P V → ChP T A E m n b10 bx A4 c4 V := by
 rcases h with ⟨_, B, Q⟩ | ⟨g, _, _, B, Q⟩
 ·exact ⟨B, _, Q, fun V h => h⟩
 ·exact ⟨B, _, Q, fun V h => h.2 V (Only.refl _ _)⟩
end
set_option maxRecDepth 100000 in
theorem vhD (c : Cf) (A A2 : Option Addr) (m m2 : Nat) (l : List Ac) (many : Int) (x : Ac) (w : World) (hS : SlPI w A m c.own) (hw : ∀ k (hk : k < c.own.length), c.own[k].a < 4294967296) (hR : Rd w 9 Ac.enc A2 l) (hx : ∀ x ∈ l, x.fits) (hm : -9223372036854775808 ≤ many ∧ many < 9223372036854775808) (hf : x.fits) (hC : CapAt w) (hF : FacAt w) :
  Calls Tryz.prog 3 #[cfV c A c.own.length m, .slice A2 l.length m2, .int .i64 many, .agg (acC x)] w fun e w' => e = .returned (.bool true) ∧ Kp w w' := by
 have HM := Lib.hid hm
 have HXF := Lib.hid hf
 clear hm hf
 have HC := Lib.hid hC
 have HF := Lib.hid hF
 have HS := Lib.hid hS
 have HW := Lib.hid hw
 have HR := Lib.hid hR
 have HX := Lib.hid hx
 clear hC hF hS hw hR hx
 obtain ⟨b, hb⟩ : ∃ b, w.heap.size = b := ⟨_, rfl⟩
 obtain ⟨W, hW, kW, B0, B1⟩ := Blk.al2 hb (cfC c A c.own.length m) 24 (acC x) 33
 have HB0 := Lib.hid B0
 have HBa := Lib.hid B1
 have HKW := Lib.hid kW
 unfold cfC acC at hW
 unfold acC
 have r0 := Blk.f B0 rfl
 clear B0 B1 kW
 by_cases hf : (c.own.length : Int) ≤ 20
 ·have df : decide ((c.own.length : Int) ≤ 20) = true := decide_eq_true hf
  have HL20 := Lib.hid (show c.own.length ≤ 100000 by omega)
  clear hf
  by_cases h6 : l.length ≤ 25
  ·have d6 : decide (25 < (l.length : Int)) = false := decide_eq_false (by omega)
   have H25 := Lib.hid (show l.length ≤ 1000 by omega)
   clear h6
   cases ho : okCf c with
   | false =>
    have HO := Lib.hid ho
    clear ho
    go_enter Tryz.func3, Tryz.ntmps3
    go_wp2_with fail
    refine (vbB c A _ m _).mono ?_
    rintro e w1 ⟨rfl, K1⟩
    rw [df]
    have s0 := Blk.f (HB0.out.keep K1) rfl
    go_wp2_with fail
    clear hW s0
    refine (vfb c A A2 m m2 l.length _ (HS.out.keep (HKW.out.trans K1)) HW.out HL20.out (HC.out.keep (HKW.out.trans K1)) HO.out).mono ?_
    rintro e w2 ⟨rfl, K2⟩
    have HK2 := Lib.hid ((HKW.out.trans K1).trans K2)
    clear K1 K2
    go_wp2_with fail
    refine (vaP _ (HC.out.keep (HK2.out.alloc _)) (HF.out.keep (HK2.out.alloc _))).mono ?_
    rintro e w5 ⟨rfl, K5⟩
    go_wp2_with fail
    go_ret
    exact ⟨rfl, (HK2.out.alloc _).trans K5⟩
   | true =>
    have HO := Lib.hid ho
    clear ho
    go_enter Tryz.func3, Tryz.ntmps3
    go_wp2_with fail
    refine (vbB c A _ m _).mono ?_
    rintro e w1 ⟨rfl, K1⟩
    rw [df]
    have s0 := Blk.f (HB0.out.keep K1) rfl
    go_wp2_with fail
    clear hW s0
    have k1 := HKW.out.trans K1
    refine (vdO c A A2 m m2 l _ (HS.out.keep k1) HW.out HL20.out (HC.out.keep k1) (HF.out.keep k1) (HR.out.keep k1) HX.out H25.out HO.out).mono ?_
    rintro e w2 ⟨B, t, E, n, rfl, S2⟩
    have Hk1 := Lib.hid k1
    have HK1 := Lib.hid K1
    have S2 := Lib.hid S2
    clear k1 K1
    obtain ⟨T, hT⟩ : ∃ T, playT c l = T := ⟨_, rfl⟩
    have HTc : Hid (T.c = c) := Lib.hid (by rw [← hT]; exact vlB c l)
    rw [hT] at S2 ⊢
    clear hT
    obtain ⟨W3, hW3, kW3, B10⟩ := Blk.al1 (w := w2) rfl (tbR T A E m n) 39
    have S3 : Hid (∃ B, TQ w1 W3 B t T (fun V => RfM V T A E ∧ Blk V w2.heap.size 39 (tbR T A E m n))) := Lib.hid (by
     obtain ⟨B2, hQ⟩ := (TQ.moves w1).wide (bs := []) ⟨B, S2.out⟩ kW3 (by simp) (fun V => Blk V w2.heap.size 39 (tbR T A E m n)) (fun V hV => (hV _ (Nat.le_refl _) B10.lt).trans B10)
     exact ⟨B2, hQ.imp (fun V hV => ⟨hV.1 V (Only.refl _ _), hV.2⟩)⟩)
    unfold tbR at hW3
    clear kW3 B10 S2
    go_wp2_with fail
    clear hW3
    obtain ⟨b10, hb10⟩ : ∃ b10, w2.heap.size = b10 := ⟨_, rfl⟩
    rw [hb10] at S3 ⊢
    clear hb10
    obtain ⟨B3, Q3⟩ := S3.out
    obtain ⟨F3, hF3⟩ := Q3.tab
    have HLEN : Hid (T.l.length ≤ 256) := Lib.hid (vbA Q3.gd.ok)
    refine (viZ B3 t F3 T W3 hF3).mono ?_
    rintro e w4 ⟨bx, A4, c4, rfl, hA4, K4, hbx, hA4b⟩
    have S4 : Hid (∃ B, TQ w1 w4 B t T (fun V => (RfM V T A E ∧ Blk V b10 39 (tbR T A E m n)) ∧ AllM bx A4 c4 T.l V)) := Lib.hid (by
     obtain ⟨B2, hQ⟩ := (TQ.moves w1).wide (bs := []) ⟨B3, Q3⟩ K4 (by simp) (fun V => AllM bx A4 c4 T.l V) (fun V hV => ⟨(hV _ hbx hA4.bx.lt).trans hA4.bx, fun i hi => by
      obtain ⟨b2, off, e2, hc2⟩ := hA4.rd i hi
      exact ⟨b2, off, e2, fun j u hu => (World.cell?_of_block (w := w4) (hV b2 (hA4b _ e2).1 (World.block_lt_of_cell? w4 _ (hc2 j u hu)))).trans (hc2 j u hu)⟩⟩)
     exact ⟨B2, hQ.imp (fun V hV => ⟨hV.1 V (Only.refl _ _), hV.2⟩)⟩)
    clear S3 Q3 hF3 K4 hbx hA4b hA4
    go_wp2_with fail
    obtain ⟨B4, Q4⟩ := S4.out
    obtain ⟨F4, hF4⟩ := Q4.tab
    refine (vcc B4 t F4 T w4 hF4).mono ?_
    rintro e w5 ⟨A5, c5, rfl, hO5, K5⟩
    obtain ⟨N, hN⟩ : ∃ N, newsL T.l = N := ⟨_, rfl⟩
    rw [hN] at hO5 ⊢
    have HNL : Hid (N.length ≤ 256) := Lib.hid (by have := vfE T.l; rw [hN] at this; have := HLEN.out; omega)
    have S5 : Hid (ChW w1 t T A E m n b10 bx A4 c4 A5 N.length w5) := Lib.hid (ChW.start hO5 Q4 K5)
    clear S4 Q4 hF4 K5 hO5 hN
    have hnl := HNL.out
    go_wp2_with fail
    go_loopw [15] (fun s wr => ∃ k : Nat, k ≤ N.length ∧ s = .int .i64 k ∧ Hid (ChW w1 t T A E m n b10 bx A4 c4 A5 N.length wr)) (fun s _ => N.length - (intOf s).toNat)
    case atStart => exact ⟨0, Nat.zero_le _, rfl, S5⟩
    case round =>
     obtain ⟨k, hk, rfl, HS5⟩ := hrel
     by_cases hlt : k < N.length
     ·have hgi : (k : Int) < (N.length : Int) := by omega
      have hg0 : (0 : Int) ≤ (k : Int) := by omega
      obtain ⟨g9, hA5, v9, hc9, hz9⟩ := HS5.out.cell hlt
      have HSN := Lib.hid (HS5.out.next hA5 hlt (.int .i64 77))
      subst hA5
      go_wp2_with fail
      go_roundw
      case rel => exact ⟨k + 1, by omega, by go_num, HSN⟩
      case measure => simp [intOf]; omega
     ·obtain rfl : k = N.length := by omega
      have dgi : decide ((N.length : Int) < (N.length : Int)) = false := by simp
      obtain ⟨B6, P6, Q6, hP6⟩ := HS5.out.open_
      have hP6c := hP6 _ Q6.p
      have HBX := ((HBa.out.keep HK1.out).keep Q6.kp)
      have a0 := Blk.f (HBX) rfl
      have u0 := Blk.f hP6c.1.2 rfl
      have HQ6 := Lib.hid Q6
      have HP6 := Lib.hid hP6
      clear Q6 hP6 hP6c HBX
      go_wp2_with fail
      refine (vfM (TQ.moves w1) t T A E m n x P6 wr ⟨B6, HQ6.out⟩ (fun V hV => (HP6.out V hV).1.1) HXF.out).mono ?_
      rintro e w7 ⟨t2, E2, n2, w5', w6', rfl, -, -, S7⟩
      clear u0 a0
      obtain ⟨B7, Q7⟩ := S7
      have HQ7 := Lib.hid Q7
      have h7 := HP6.out _ Q7.p.1
      have H7 := Lib.hid h7
      have u9 := Blk.f h7.1.2 rfl
      clear h7 Q7
      go_wp2_with fail
      refine (vep bx A4 E c4 n T.l many w7 H7.out.2 H7.out.1.1.l (by have := HLEN.out; omega) HM.out).mono ?_
      rintro e w8 ⟨rfl, K8⟩
      have u9 := Blk.f (H7.out.1.2.keep K8) rfl
      go_wp2_with fail
      refine (vep bx A4 E c4 n T.l 999 w8 (H7.out.2.keep K8) (H7.out.1.1.l.keep K8) (by have := HLEN.out; omega) (by decide)).mono ?_
      rintro e w9 ⟨rfl, K9⟩
      have kk : Kp w w9 := ((Hk1.out.trans HQ7.out.kp).trans K8).trans K9
      have HKK := Lib.hid kk
      clear u9 K8 K9 kk
      go_wp2_with fail
      refine (vaP _ (HC.out.keep HKK.out) (HF.out.keep HKK.out)).mono ?_
      rintro e wa ⟨rfl, Ka⟩
      go_wp2_with fail
      go_ret
      exact ⟨rfl, HKK.out.trans Ka⟩
  ·have d6 : decide (25 < (l.length : Int)) = true := decide_eq_true (by omega)
   go_enter Tryz.func3, Tryz.ntmps3
   go_wp2_with fail
   refine (vbB c A _ m _).mono ?_
   rintro e w1 ⟨rfl, K1⟩
   rw [df]
   go_wp2_with fail
   refine (vaP _ (HC.out.keep (HKW.out.trans K1)) (HF.out.keep (HKW.out.trans K1))).mono ?_
   rintro e w5 ⟨rfl, K5⟩
   go_wp2_with fail
   go_ret
   exact ⟨rfl, (HKW.out.trans K1).trans K5⟩
 ·have df : decide ((c.own.length : Int) ≤ 20) = false := decide_eq_false hf
  go_enter Tryz.func3, Tryz.ntmps3
  go_wp2_with fail
  refine (vbB c A _ m _).mono ?_
  rintro e w1 ⟨rfl, K1⟩
  rw [df]
  go_wp2_with fail
  refine (vaP _ (HC.out.keep (HKW.out.trans K1)) (HF.out.keep (HKW.out.trans K1))).mono ?_
  rintro e w5 ⟨rfl, K5⟩
  go_wp2_with fail
  go_ret
  exact ⟨rfl, (HKW.out.trans K1).trans K5⟩
end

section
open Go.ChangeShapes Go.WideShapes Go.ChangeAt Go.RowKit Go.Joins Go.Deep
section
variable {H : Type} {enc : TypeId × Value → H}
theorem vfc {α : Type} {W : World} {fuel : Nat} {v : Value} {x : DataW H × List MemPlace} {t e sz : Nat} (enc' : α → List Value) (good : α → Prop) (henc : ∀ y, (enc' y).length = sz) (ht : Tryz.prog.underlying t = some (.slice e)) (hsz : Tryz.prog.cellsOf e = sz) (hs0 : 0 < sz)
  (hel : ∀ (cs : List Value) (n : Nat) (x : DataW H × List MemPlace), DataW.trod enc Tryz.prog W 0 (fun _ => true) true n e cs = some x → ∃ y, cs = enc' y ∧ good y)
  (h : DataW.trod enc Tryz.prog W 0 (fun _ => true) true fuel t [v] = some x) : ∃ A c ys, v = .slice A ys.length c ∧ ys.length ≤ c ∧ (A = none → ys = [] ∧ c = 0) ∧ Rd W sz enc' A ys ∧ ∀ y ∈ ys, good y := by
 obtain ⟨A, c, ys, rfl, _, hrd, hg⟩ := vdn enc' good henc ht hsz hs0 hel h
 rcases DataW.trod_slice ht h with ⟨hc, _⟩ | ⟨a, len, cap, elems, rest, n, _, hc, _, _, hl, _⟩
 ·simp only [List.cons.injEq, and_true, Value.slice.injEq] at hc
  obtain ⟨h1, h2, h3⟩ := hc
  exact ⟨A, c, ys, rfl, by omega, fun _ => ⟨List.eq_nil_of_length_eq_zero h2, h3⟩, hrd, hg⟩
 ·simp only [List.cons.injEq, and_true, Value.slice.injEq] at hc
  obtain ⟨h1, h2, h3⟩ := hc
  exact ⟨A, c, ys, rfl, by omega, (fun z => by rw [z] at h1; cases h1), hrd, hg⟩
set_option maxRecDepth 100000 in
theorem vjr {W : World} (cs : List Value) (n : Nat) (x : DataW H × List MemPlace) (h : DataW.trod enc Tryz.prog W 0 (fun _ => true) true n 24 cs = some x) : ∃ (c : Cf) (A : Option Addr) (m : Nat), cs = (cfC c A c.own.length m).toList ∧ SlPI W A m c.own ∧ ∀ p ∈ c.own, p.a < 4294967296 := by
 obtain ⟨xs, m, _, _, hl, hlen, hf⟩ := DataW.trod_struct Tryz.underlying24 h
 have hC : Tryz.prog.cellsOf 24 = 9 := by kernel_rfl
 have hC0 : Tryz.prog.cellsOf 2 = 1 := by kernel_rfl
 have hC1 : Tryz.prog.cellsOf 3 = 1 := by kernel_rfl
 have hC2 : Tryz.prog.cellsOf 22 = 1 := by kernel_rfl
 rw [hC] at hl
 obtain ⟨c0, c1, c2, c3, c4, c5, c6, c7, c8, rfl⟩ := lenL9 hl
 obtain ⟨y0, y1, y2, y3, y4, y5, y6, y7, y8, rfl⟩ := lenL9 hlen
 clear hl hlen hC h
 have e0 : DataW.trod enc Tryz.prog W 0 (fun _ => true) true m 2 [c0] = some y0 := by
  have this : DataW.trod enc Tryz.prog W 0 (fun _ => true) true m 2 (([c0, c1, c2, c3, c4, c5, c6, c7, c8].drop 0).take (Tryz.prog.cellsOf 2)) = some y0 := hf 0 _ rfl
  rw [hC0] at this; exact this
 have e1 : DataW.trod enc Tryz.prog W 0 (fun _ => true) true m 2 [c1] = some y1 := by
  have this : DataW.trod enc Tryz.prog W 0 (fun _ => true) true m 2 (([c0, c1, c2, c3, c4, c5, c6, c7, c8].drop 1).take (Tryz.prog.cellsOf 2)) = some y1 := hf 1 _ rfl
  rw [hC0] at this; exact this
 have e2 : DataW.trod enc Tryz.prog W 0 (fun _ => true) true m 2 [c2] = some y2 := by
  have this : DataW.trod enc Tryz.prog W 0 (fun _ => true) true m 2 (([c0, c1, c2, c3, c4, c5, c6, c7, c8].drop 2).take (Tryz.prog.cellsOf 2)) = some y2 := hf 2 _ rfl
  rw [hC0] at this; exact this
 have e3 : DataW.trod enc Tryz.prog W 0 (fun _ => true) true m 2 [c3] = some y3 := by
  have this : DataW.trod enc Tryz.prog W 0 (fun _ => true) true m 2 (([c0, c1, c2, c3, c4, c5, c6, c7, c8].drop 3).take (Tryz.prog.cellsOf 2)) = some y3 := hf 3 _ rfl
  rw [hC0] at this; exact this
 have e4 : DataW.trod enc Tryz.prog W 0 (fun _ => true) true m 2 [c4] = some y4 := by
  have this : DataW.trod enc Tryz.prog W 0 (fun _ => true) true m 2 (([c0, c1, c2, c3, c4, c5, c6, c7, c8].drop 4).take (Tryz.prog.cellsOf 2)) = some y4 := hf 4 _ rfl
  rw [hC0] at this; exact this
 have e5 : DataW.trod enc Tryz.prog W 0 (fun _ => true) true m 2 [c5] = some y5 := by
  have this : DataW.trod enc Tryz.prog W 0 (fun _ => true) true m 2 (([c0, c1, c2, c3, c4, c5, c6, c7, c8].drop 5).take (Tryz.prog.cellsOf 2)) = some y5 := hf 5 _ rfl
  rw [hC0] at this; exact this
 have e6 : DataW.trod enc Tryz.prog W 0 (fun _ => true) true m 2 [c6] = some y6 := by
  have this : DataW.trod enc Tryz.prog W 0 (fun _ => true) true m 2 (([c0, c1, c2, c3, c4, c5, c6, c7, c8].drop 6).take (Tryz.prog.cellsOf 2)) = some y6 := hf 6 _ rfl
  rw [hC0] at this; exact this
 have e7 : DataW.trod enc Tryz.prog W 0 (fun _ => true) true m 3 [c7] = some y7 := by
  have this : DataW.trod enc Tryz.prog W 0 (fun _ => true) true m 3 (([c0, c1, c2, c3, c4, c5, c6, c7, c8].drop 7).take (Tryz.prog.cellsOf 3)) = some y7 := hf 7 _ rfl
  rw [hC1] at this; exact this
 have e8 : DataW.trod enc Tryz.prog W 0 (fun _ => true) true m 22 [c8] = some y8 := by
  have this : DataW.trod enc Tryz.prog W 0 (fun _ => true) true m 22 (([c0, c1, c2, c3, c4, c5, c6, c7, c8].drop 8).take (Tryz.prog.cellsOf 22)) = some y8 := hf 8 _ rfl
  rw [hC2] at this; exact this
 clear hf
 obtain ⟨t0, h0, _, _⟩ := DataW.trod_int Tryz.underlying2 e0
 obtain ⟨t1, h1, _, _⟩ := DataW.trod_int Tryz.underlying2 e1
 obtain ⟨t2, h2, _, _⟩ := DataW.trod_int Tryz.underlying2 e2
 obtain ⟨t3, h3, _, _⟩ := DataW.trod_int Tryz.underlying2 e3
 obtain ⟨t4, h4, _, _⟩ := DataW.trod_int Tryz.underlying2 e4
 obtain ⟨t5, h5, _, _⟩ := DataW.trod_int Tryz.underlying2 e5
 obtain ⟨t6, h6, _, _⟩ := DataW.trod_int Tryz.underlying2 e6
 obtain ⟨t7, h7, _, _⟩ := DataW.trod_int Tryz.underlying3 e7
 obtain ⟨A, k, ps, h8, hle, hnil, hrd, hg⟩ := vfc (sz := 2) PI.enc (fun p => p.a < 4294967296) (fun _ => rfl) Tryz.underlying22 (by kernel_rfl) (by omega) (fun cs n x h => by
  obtain ⟨p, hp, ha, _⟩ := vly cs n x h
  exact ⟨p, hp, ha⟩) e8
 clear e0 e1 e2 e3 e4 e5 e6 e7 e8
 simp only [List.cons.injEq, and_true] at h0 h1 h2 h3 h4 h5 h6 h7
 subst h0 h1 h2 h3 h4 h5 h6 h7 h8
 exact ⟨⟨t0, t1, t2, t3, t4, t5, t6, t7, ps⟩, A, k, rfl, ⟨hrd, hle, hnil⟩, hg⟩
set_option maxRecDepth 100000 in
theorem vdo {W : World} {base : Nat} {v : Value} {d : DataW H} {p : List MemPlace} (hv : Value.okWide Tryz.prog W .any base 24 v) (h : DataW.Trod enc Tryz.prog W 0 (fun _ => true) true 24 v d p) : ∃ (c : Cf) (A : Option Addr) (m : Nat), v = cfV c A c.own.length m ∧ SlPI W A m c.own ∧ ∀ k (hk : k < c.own.length), c.own[k].a < 4294967296 := by
 obtain ⟨cs, rfl, hsz⟩ := okWide_struct Tryz.underlying24 hv
 obtain ⟨fuel, hf⟩ := h
 obtain ⟨c, A, m, hx, hS, hfit⟩ := vjr _ _ _ hf
 refine ⟨c, A, m, ?_, hS, fun k hk => hfit _ (List.getElem_mem hk)⟩
 have : cs = cfC c A c.own.length m := by
  apply Array.ext'
  simpa [Value.cells] using hx
 rw [this]
 rfl
set_option maxRecDepth 100000 in
theorem vfd {W : World} {base : Nat} {v : Value} {d : DataW H} {p : List MemPlace} (hv : Value.okWide Tryz.prog W .any base 25 v) (h : DataW.Trod enc Tryz.prog W 0 (fun _ => true) true 25 v d p) : ∃ A c ls, v = .slice A ls.length c ∧ Rd W 9 Ac.enc A ls ∧ ∀ x ∈ ls, x.fits := by
 obtain ⟨a, l, cp, rfl⟩ := okWide_slice Tryz.underlying25 hv
 obtain ⟨n, h⟩ := h
 obtain ⟨A, c, ls, hl, _, hrd, hg⟩ := vdn (sz := 9) Ac.enc Ac.fits (fun _ => rfl) Tryz.underlying25 (by kernel_rfl) (by omega) (fun cs n x h => by
  obtain ⟨y, hy, hf⟩ := vlz cs n x h
  exact ⟨y, hy, hf⟩) h
 exact ⟨A, c, ls, hl, hrd, hg⟩
end
end

section
open Go.ChangeShapes Go.WideShapes Go.ChangeAt Go.RowKit
theorem gCap : Tryz.prog.globalNamed "waywarden/config.capBounds" = some 1 := by kernel_rfl
theorem tCap : (Tryz.prog.globals[1]?).map (·.type) = some 118 := by kernel_rfl
theorem gFac : Tryz.prog.globalNamed "waywarden/rib.faceBounds" = some 0 := by kernel_rfl
theorem tFac : (Tryz.prog.globals[0]?).map (·.type) = some 118 := by kernel_rfl
def bndLaid : List (String × DataW Unit) := [("waywarden/config.capBounds", Rows.laid_waywarden_config_capBounds), ("waywarden/rib.faceBounds", Rows.laid_waywarden_rib_faceBounds)]
theorem vjs {H : Type} {enc : TypeId × Value → H} {W : World} {base fuel : Nat} {sp : Nat → Bool} {held : Bool} {c : List Value} {p : List MemPlace} {a : Int}
  (h : DataW.trod enc Tryz.prog W base sp held fuel 3 c = some (.lit (.int .i64 a), p)) : c = [.int .i64 a] := by
 obtain ⟨n, e1, e2, _⟩ := DataW.trod_int Tryz.underlying3 h
 simp only [Prod.mk.injEq, DataW.lit.injEq, Lit.int.injEq] at e2
 rw [e1, e2.1.2]
theorem len2b {l : List Value} (h : l.length = 2) : ∃ a b, l = [a, b] := by
 match l, h with
 | [a, b], _ => exact ⟨a, b, rfl⟩
set_option maxRecDepth 100000 in
theorem vjt {H : Type} {enc : TypeId × Value → H} {W : World} {base fuel : Nat} {sp : Nat → Bool} {held : Bool} {c : List Value} {p : List MemPlace} {a b : Int}
  (h : DataW.trod enc Tryz.prog W base sp held fuel 118 c = some (.agg [.lit (.int .i64 a), .lit (.int .i64 b)], p)) : c = [.int .i64 a, .int .i64 b] := by
 obtain ⟨xs, m, rfl, hx, hlen, hn, hel⟩ := DataW.trod_array Tryz.underlying118 h
 have c1 : Tryz.prog.cellsOf 3 = 1 := by kernel_rfl
 have c2 : Tryz.prog.cellsOf 118 = 2 := by kernel_rfl
 rw [c2] at hlen
 rw [c1] at hel
 have h0 := hel 0 (by decide)
 have h1 := hel 1 (by decide)
 match xs, hn, hx, h0, h1 with
 | [(x0, p0), (x1, p1)], _, hx, h0, h1 =>
  simp only [List.map_cons, List.map_nil, Prod.mk.injEq, DataW.agg.injEq, List.cons.injEq, and_true] at hx
  obtain ⟨⟨rfl, rfl⟩, _⟩ := hx
  have e0 := vjs (show DataW.trod _ Tryz.prog W _ _ _ m _ _ = some (_, p0) from h0)
  have e1 := vjs (show DataW.trod _ Tryz.prog W _ _ _ m _ _ = some (_, p1) from h1)
  obtain ⟨u, v, rfl⟩ := len2b hlen
  simp at e0 e1
  rw [e0, e1]
set_option maxRecDepth 100000 in
theorem vbm {W : World} (h : laidMetH Tryz.prog bndLaid W) : CapAt W ∧ FacAt W := by
 unfold bndLaid at h
 rw [MakeChecks.laidMetH_plain _ _ _ (by kernel_rfl)] at h
 obtain ⟨ps, ⟨g0, t0, cs0, f0, p0, q0, hg0, ht0, hv0, hd0, ⟨g1, t1, cs1, f1, p1, q1, hg1, ht1, hv1, hd1, _, _⟩, _⟩, _, _⟩ := h
 obtain rfl := Option.some.inj (gCap.symm.trans hg0)
 obtain rfl := Option.some.inj (tCap.symm.trans ht0)
 obtain rfl := Option.some.inj (gFac.symm.trans hg1)
 obtain rfl := Option.some.inj (tFac.symm.trans ht1)
 have a0 := World.var?_cell hg0 hv0 0
 have a1 := World.var?_cell hg0 hv0 1
 have b0 := World.var?_cell hg1 hv1 0
 have b1 := World.var?_cell hg1 hv1 1
 have e0 := vjt (show DataW.trod _ Tryz.prog W _ _ _ _ _ _ = some (.agg [.lit (.int .i64 1), .lit (.int .i64 256)], _) from hd0)
 have e1 := vjt (show DataW.trod _ Tryz.prog W _ _ _ _ _ _ = some (.agg [.lit (.int .i64 0), .lit (.int .i64 15)], _) from hd1)
 obtain ⟨l⟩ := cs0
 obtain ⟨m⟩ := cs1
 simp only at e0 e1
 subst e0 e1
 simp at a0 a1 b0 b1
 exact ⟨⟨a0, a1⟩, ⟨b0, b1⟩⟩
theorem vgx (os : Os) (args : Array Value) : laidMetH Tryz.prog bndLaid ((World.doorLaid Tryz.prog 400 os).forCall (fun _ _ => 0) ⟨#[], args, []⟩).memory :=
 laidMetH_of_parts3 (fuel := 8) (laidMet_of_run' 8 (by kernel_rfl) (by kernel_rfl)) (by kernel_rfl) (by kernel_rfl)
end

section
open Go Go.ChangeShapes Go.WideShapes Go.ChangeAt Go.RowKit Go.Joins Go.Deep
theorem vfP {H : Type} {enc : TypeId × Value → H} {P : Program} {W : World} {base : Nat} {spare : Nat → Bool} {held : Bool} {t0 t1 t2 t3 : TypeId} {args : Array Value} {ds : List (DataW H)} {ps : List MemPlace} (h : DataW.TrodAll enc P W base spare held [t0, t1, t2, t3] args.toList ds ps) :
  ∃ v0 v1 v2 v3 d0 d1 d2 d3 p0 p1 p2 p3, args = #[v0, v1, v2, v3] ∧ ds = [d0, d1, d2, d3] ∧ DataW.Trod enc P W base spare held t0 v0 d0 p0 ∧ DataW.Trod enc P W base spare held t1 v1 d1 p1 ∧ DataW.Trod enc P W base spare held t2 v2 d2 p2 ∧ DataW.Trod enc P W base spare held t3 v3 d3 p3 := by
 obtain ⟨v0, r0, d0, s0, p0, q0, e0, rfl, -, h0, k0⟩ := trodAll_cons h
 obtain ⟨v1, r1, d1, s1, p1, q1, rfl, rfl, -, h1, k1⟩ := trodAll_cons k0
 obtain ⟨v2, r2, d2, s2, p2, q2, rfl, rfl, -, h2, k2⟩ := trodAll_cons k1
 obtain ⟨v3, r3, d3, s3, p3, q3, rfl, rfl, -, h3, k3⟩ := trodAll_cons k2
 obtain ⟨rfl, rfl, -⟩ := trodAll_nil k3
 exact ⟨v0, v1, v2, v3, d0, d1, d2, d3, p0, p1, p2, p3, Array.ext' (by simpa using e0), rfl, h0, h1, h2, h3⟩
set_option maxRecDepth 100000 in
theorem ver (os : Os) (started : os.Started) (H : Type) (enc : TypeId × Value → H) :
  ReturnsInHanded {} Tryz.checked os 3 .any (fun w args => (Rows.ribAllSpec.pre enc Tryz.prog Tryz.f3 [] false w args ∧ laidMetH Tryz.prog bndLaid w) ∧ sizedMet enc Tryz.prog Tryz.f3 (OpenSpec.ofChange Rows.ribAllSpec) false w args)
   (Rows.ribAllSpec.post enc Tryz.prog Tryz.f3 false true false false) := by
 refine returnsInHanded_of_change_and (C := Tryz.checked) (X := fun w _ => laidMetH Tryz.prog bndLaid w) (fun _ _ _ hh h => h.of_heap hh) Tryz.own started (by kernel_rfl) Tryz.func3
  (ChangeSpec.witness_shaped (enc := enc) (C := Tryz.checked) (os := os) (X := fun w _ => laidMetH Tryz.prog bndLaid w) false (World.doorLaid Tryz.prog 400 os) #[.agg #[.int .i64 0, .int .i64 0, .int .i64 0, .int .i64 0, .int .i64 0, .int .i64 0, .int .i64 0, .int .i64 0, .slice none 0 0], .slice none 0 0, .int .i64 0, .agg #[.int .i64 0, .int .i64 0, .int .u32 0, .int .i64 0, .int .i64 0, .int .u32 0, .int .i64 0, .int .i64 0, .bool false]] 8 rfl (World.shaped_of_RefB (by kernel_rfl) (by kernel_rfl)) (by kernel_rfl) (by kernel_rfl) (by kernel_rfl) (vgx os _)) ?_
 intro W base args ds gs before hval0 hW _ _ hL _
 have hval : ∀ (j : Nat) t v, Tryz.f3.params[j]? = some t → args[j]? = some v → Value.okWide Tryz.prog W .any base t v := hval0
 have hW' := hW
 obtain ⟨p, q, hA0, hV, rfl, hfz, hnd⟩ := hW
 have hA : DataW.TrodAll enc Tryz.prog W 0 (fun _ => true) true Tryz.f3.params.toList args.toList ds p := hA0
 rw [Tryz.params3] at hA hval
 obtain ⟨v0, v1, v2, v3, _, _, _, _, _, _, _, _, rfl, rfl, h0, h1, h2, h3⟩ := vfP hA
 obtain ⟨rfl, rfl⟩ := trodVars_none hV
 obtain ⟨c, Ac, mc, rfl, hSc, hwc⟩ := vdo (hval 0 _ v0 rfl rfl) h0
 obtain ⟨Al, cl, ls, rfl, hRl, hxl⟩ := vfd (hval 1 _ v1 rfl rfl) h1
 obtain ⟨n2, rfl, -, -, wn2⟩ := open_int Tryz.underlying3 (hval 2 _ v2 rfl rfl) h2
 obtain ⟨x3, rfl, F3⟩ := vlf (hval 3 _ v3 rfl rfl) h3
 clear hA0 hval0
 refine (vhD c Ac Al mc cl ls n2 x3 W hSc hwc hRl hxl (by have := vcd wn2; unfold I64 at this; omega) F3 (vbm hL).1 (vbm hL).2).mono fun e W' ⟨he, hK⟩ => ?_
 subst he
 refine ⟨_, rfl, vgn hW' rfl rfl rfl rfl rfl ?_ hK⟩
 intro t ht
 rw [Tryz.params3] at ht
 simp only [List.mem_cons, List.not_mem_nil, or_false] at ht
 rcases ht with rfl | rfl | rfl | rfl <;> exact ⟨by kernel_rfl, of_decide_eq_true (by kernel_rfl)⟩
theorem vfe : Rows.RibAllSaid :=
 OpenClaim.holds_of_wide 3 Tryz.f3 rfl rfl rfl rfl rfl rfl rfl ⟨rfl, rfl, rfl, rfl, rfl⟩ rfl rfl rfl rfl rfl (by kernel_rfl) Tryz.func3 (by kernel_rfl)
  (of_decide_eq_true (by kernel_rfl)) (by unfold Func.isWrapper; first | (rw [if_pos (by decide +kernel)]; kernel_rfl) | (rw [if_neg (by decide +kernel)]; exact ⟨rfl, rfl⟩))
  (fun os started H enc _ => ver os started H enc)
theorem ribAll_card_holds : Rows.RibAllCardSaid :=
 Claim7.holds_tied_plain_at .later [] [.data, .data] true (true, "586ab27a9cc3d6bee9cbc77fec668b1b6cd7ac748da3f1b3c451dc07011a5134") true
  vfe (fun _ h => by cases h) (by kernel_rfl) (fun _ h => by cases h) ribAll_row_tie rfl ⟨rfl, rfl⟩ (by kernel_rfl) rfl
  (fun f fn hf hfn => by
   obtain rfl : f = 3 := Option.some.inj ((show Tryz.prog.funcNamed "waywarden/waywardenlaw12.RibAll" = some 3 by kernel_rfl).symm.trans hf) |>.symm
   obtain rfl : fn = Tryz.f3 := (Option.some.inj (Tryz.func3.symm.trans hfn)).symm
   exact ⟨by kernel_rfl, fun j t ht => by
    rw [Tryz.params3] at ht
    have hm : t ∈ [24, 25, 3, 33] := by simpa using Array.mem_of_getElem? ht
    have hall : ([24, 25, 3, 33].all fun u => !Tryz.prog.wantsStandIn u) = true := by kernel_rfl
    exact (show Tryz.prog.wantsStandIn t = false by simpa using List.all_eq_true.1 hall t hm)⟩)
  (by kernel_rfl)
end

end Go.Proofs.YtffckpkikdlbpaaGreatDoor
