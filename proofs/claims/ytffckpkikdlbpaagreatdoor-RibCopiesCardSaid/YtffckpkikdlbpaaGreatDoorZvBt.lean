/- Lemmas and contracts for the theorem of this claim: PlT. -/
import Derived.Test.YtffckpkikdlbpaaGreatDoorZvBo
import Derived.Test.YtffckpkikdlbpaaGreatDoorZvBs
import Derived.Deep.CutBlock
set_option linter.all false
set_option maxHeartbeats 16000000
namespace Go.Proofs.YtffckpkikdlbpaaGreatDoor
section
open Go.RowKit Go.Maps
def playT (c : Cf) (l : List Ac) : Tb := l.foldl actT (newT c)
theorem vhD (l : List Ac) : ∀ T : Tb, (l.foldl actT T).c = T.c := by
 induction l with
 | nil => exact fun _ => rfl
 | cons x l ih => exact fun T => (ih _).trans (act_c T x)
theorem vnN (c : Cf) (l : List Ac) : (playT c l).c = c := vhD l _
theorem vjw {c : Cf} {l : List Ac} {k : Nat} (h : k < l.length) : playT c (l.take (k + 1)) = actT (playT c (l.take k)) l[k] := by
 unfold playT
 rw [List.take_succ_eq_append_getElem h, List.foldl_append]
 rfl
theorem New.only {w5 w6 V V' : World} {gs : List Nat} (h : New w5 w6 V) (k : Only gs V V') (hg : ∀ g ∈ gs, g < w5.heap.size) : New w5 w6 V' := fun i h1 h2 => by
 have h3 := h i h1 h2
 have h4 : i < V.heap.size := by
  have h5 : w6.heap[i]? = some w6.heap[i] := Array.getElem?_eq_getElem h2
  rw [h5] at h3
  exact (Array.getElem?_eq_some_iff.1 h3).1
 rw [k.block i h4 (fun z => by have := hg i z; omega), h3]
structure PlI (g : Nat) (gs : List Nat) (X : World → Prop) (T : Tb) (A E : Option Addr) (m n : Nat) (V : World) : Prop where
 tb : Blk V g 39 (tbR T A E m n)
 x : X V
 cl : ∀ V', Only gs V V' → RfM V' T A E
theorem PlI.next {w0 : World} {S : Nat → Tb → (World → Prop) → World → Prop} (MS : Moves w0 S) {t g m n n2 : Nat} {gs : List Nat} {T T2 : Tb} {A E E2 : Option Addr} {X : World → Prop} {w5 w6 W W' : World} (h : S t T2 (fun V => PlI g gs X T A E m n V ∧ New w5 w6 V) W) (hg : g ∈ gs) (hgs : ∀ i ∈ gs, i < w5.heap.size) (hst : Stays w5 w6 E T.l E2 T2.l) (hc : T2.c = T.c) (hw : w0.heap.size ≤ g) (hX : ∀ V V', X V → Only [g] V V' → X V') (k : Only [g] W W') (hB : Blk W' g 39 (tbR T2 A E2 m n2)) : S t T2 (PlI g gs X T2 A E2 m n2) W' :=
  MS.put (g := g) (Y := 39) (cs := tbR T2 A E2 m n2) h (by decide) hw (fun V hV => ⟨_, hV.1.tb⟩) (fun V V' hV k2 hB2 => ⟨hB2, hX V V' hV.1.x k2, fun V'' k3 => by
    have k4 : Only gs V V'' := (k2.more (fun b hb => by have : b = g := by simpa using hb
                                                        subst this; exact hg)).trans k3
    have q := hV.1.cl V'' k4
    exact ⟨by rw [hc]; exact q.own, hst V'' q.l (hV.2.only k4 hgs)⟩⟩) k hB
structure PlM {w0 : World} (S : Nat → Tb → (World → Prop) → World → Prop) (g : Nat) (gs : List Nat) (X : World → Prop) (t : Nat) (T T2 : Tb) (A E : Option Addr) (m n : Nat) (i j : Nat) (z : Nat × Option Addr × Nat) (L : Nat → Bool) (V : World) : Prop where
 m0 : L i = false → S t T (PlI g gs X T A E m n) V
 m1 : L i = true → L j = false → ∃ w5 w6, (∀ q ∈ gs, q < w5.heap.size) ∧ Stays w5 w6 E T.l z.2.1 T2.l ∧ S z.1 T2 (fun V => PlI g gs X T A E m n V ∧ New w5 w6 V) V
 m2 : L j = true → S z.1 T2 (PlI g gs X T2 A z.2.1 m z.2.2) V
theorem vgz {fn : Func} {k i j q g : Nat} {ts : Array Value} {W : World} {T : Tb} {A E : Option Addr} {m n : Nat} {u v v2 : Value} (hf : fn.results = #[.tmp i, .cell k 39, .tmp j, .tmp q]) (hk : ts.getD k undef = .pointer (some ⟨g, 0, none⟩)) (hi : ts.getD i undef = u) (hj : ts.getD j undef = v) (hq : ts.getD q undef = v2) (B : Blk W g 39 (tbR T A E m n)) : (results fn ts).run Tryz.prog W = .ok (.tuple #[u, tbV T A E m n, v, v2]) W := by
 obtain ⟨u0, u1, u2, u3, u4, u5, u6, u7, u8, u9, u10, u11⟩ := vbj B
 rw [Array.getD_eq_getD_getElem?] at hk hi hj hq
 simp [results, hf, hk, hi, hj, hq, go_sem, u0, u1, u2, u3, u4, u5, u6, u7, u8, u9, u10, u11]
def PlR (w : World) (g gz : Nat) (c : Cf) (A : Option Addr) (m : Nat) (T : Tb) (t : Nat) (W : World) : Prop := ∃ B E n, TQ w W B t T (PlI g [g, gz] (fun V => Blk V gz 39 (tbR zeroTb none none 0 0)) T A E m n) ∧ T.c = c
def PlayedP (c : Cf) (l : List Ac) (A : Option Addr) (m : Nat) (w : World) (e : Ending) (w' : World) : Prop := ∃ B t E n, e = .returned (.tuple #[.pointer (some ⟨t, 0, none⟩), tbV (playT c l) A E m n, .bool true, .bool false]) ∧ TQ w w' B t (playT c l) (fun V => RfM V (playT c l) A E)
set_option maxRecDepth 100000 in
theorem vjx (c : Cf) (A A2 : Option Addr) (m m2 nl : Nat) (w : World) (hS : SlPI w A m c.own) (hw : ∀ k (hk : k < c.own.length), c.own[k].a < 4294967296) (hn : c.own.length ≤ 100000) (hC : CapAt w) (ho : okCf c = false) :
  Calls Tryz.prog 11 #[cfV c A c.own.length m, .slice A2 nl m2] w fun e w' => e = .returned (.tuple #[.pointer none, tbV zeroTb none none 0 0, .bool false, .bool true]) ∧ Kp w w' := by
 obtain ⟨b, hb⟩ : ∃ b, w.heap.size = b := ⟨_, rfl⟩
 obtain ⟨W, hW, kW, B0, B1⟩ : ∃ W, (w.alloc (.cells (cfC c A c.own.length m) 24)).alloc (.cells zero12 39) = W ∧ Kp w W ∧ Blk W b 24 (cfC c A c.own.length m) ∧ Blk W (b + 1) 39 (tbR zeroTb none none 0 0) := ⟨_, rfl, ((Kp.refl _).alloc _).alloc _, by rw [← hb]; exact (Blk.new _ _ _).alloc _, by rw [← hb]; exact Blk.new1 _ _ _ _⟩
 have HB0 := Lib.hid B0
 have HB1 := Lib.hid B1
 have HkW := Lib.hid kW
 have Hb := Lib.hid hb
 have HS := Lib.hid hS
 have HW := Lib.hid hw
 have HN := Lib.hid hn
 have HC := Lib.hid hC
 have HO := Lib.hid ho
 have s0 := Blk.f B0 rfl
 unfold cfC zero12 at hW
 clear hS hw hn hC ho B0 B1 kW
 go_enter Tryz.func11, Tryz.ntmps11
 go_wp2_with fail
 clear hW s0
 refine (vmQ c A m W (HS.out.keep HkW.out) (HC.out.keep HkW.out) HW.out HO.out).mono ?_
 rintro e w1 ⟨rfl, K1⟩
 have HB0 := Lib.hid (HB0.out.keep K1)
 have HB1 := Lib.hid (HB1.out.keep K1)
 have HkW := Lib.hid (HkW.out.trans K1)
 have s0 := Blk.f HB0.out rfl
 clear K1
 go_wp2_with fail
 refine (vdS c A m w1 (HS.out.keep HkW.out) HW.out HN.out).mono ?_
 rintro e w2 ⟨-, he, K2⟩
 have he := he HO.out
 subst he
 clear s0
 obtain ⟨W3, hW3, kW3, B10⟩ := Blk.al1 (w := w2) rfl (tbR zeroTb none none 0 0) 39
 have HB1w := HB1
 have HB1 := Lib.hid (HB1.out.keep (K2.trans kW3))
 have HkW := Lib.hid (HkW.out.trans (K2.trans kW3))
 have HB10 := Lib.hid B10
 have HNE : Hid (b + 1 < w2.heap.size) := Lib.hid (by have := HB1w.out.lt; have := K2.size; omega)
 have HW3 := Lib.hid hW3
 clear hW3
 clear K2 kW3 B10
 go_upto_region 4 with (fail)
 generalize hW4 : World.alloc w2 _ = W4
 obtain rfl : W4 = W3 := hW4.symm.trans HW3.out
 clear hW4
 obtain ⟨b10, hb10⟩ : ∃ b10, w2.heap.size = b10 := ⟨_, rfl⟩
 rw [hb10] at HB10 HNE ⊢
 clear hb10
 refine' vag (fun (_ : Unit) L V9 => Only [b + 1] W4 V9 ∧ (L 10 = false → Blk V9 (b + 1) 39 (tbR zeroTb none none 0 0)) ∧ (L 10 = true → Blk V9 (b + 1) 39 (tbR zeroTb none none 0 0))) [26, 27, 28, 29, 30, 31, 32, 33, 34, 4, 10010, 6, 7] (fun z => [.agg #[.int .i64 0, .int .i64 0, .int .i64 0, .int .i64 0, .int .i64 0, .int .i64 0, .int .i64 0, .int .i64 0, .slice none 0 0, .slice none 0 0, .int .i64 0, .int .i64 0], .int .i64 2, .int .i64 2, .int .i64 2, .bool true, .bool true, .pointer none, .bool true, .bool true, .pointer none, undef, .bool false, .bool true]) (List.replicate 13 true) [10] (by kernel_rfl) (by kernel_rfl) (fun _ => rfl) (fun _ => rfl) (fun _ => rfl) () ⟨(Only.refl _ _).drew, fun _ => HB1.out.drew, fun h => (by cases h)⟩ (fun _ L L' _ e h => by simpa only [e 10 (by simp)] using h) ?_ ?_ ?_
 rotate_left
 ·intro z; simp only [List.zip_cons_cons, List.zip_nil_right, wrC, wrN, List.set_cons_zero, List.set_cons_succ, List.set_nil]; rfl
 ·repeat' (first | refine And.intro ?_ ?_ | exact trivial)
  all_goals intro z L a w9 hLi d hcl hM hO K hK
  all_goals have u := Blk.f (HB10.out.only hM.1 (by have := HNE.out; simp; omega)) rfl
  all_goals simp only [zeroTb, List.length_nil] at u
  all_goals try (go_simp; exact hK z _ _ (hO rfl) (fun _ _ => rfl) rfl)
  ·go_simp
   refine (vaP _ _).mono ?_
   rintro e9 wb ⟨rfl, hwb⟩
   rw [← hwb]
   exact hK z _ _ (hO rfl) (fun _ _ => rfl) rfl
  ·have y := Blk.f (hM.2.1 hLi) rfl
   have f := Blk.frozen (hM.2.1 hLi)
   simp only [zeroTb, List.length_nil] at y
   go_simp
   exact hK z _ _ ⟨hM.1.set12 (by simp), fun h => absurd h (by simp), fun _ => Blk.set12 (T := zeroTb) (A := none) (E := none) (m := 0) (n := 0) (hM.2.1 hLi)⟩ (fun _ _ => rfl) rfl
 intro z L w9 hL hM
 (try simp only [Exit.then])
 have HBF := Lib.hid (hM.2.2 (hL 10 (by decide)))
 have HKF := Lib.hid hM.1
 clear hM hL
 go_wp2_with fail
 refine bodyPost_ret (vgz (T := zeroTb) (A := none) (E := none) (m := 0) (n := 0) rfl rfl rfl rfl rfl HBF.out) rfl ?_
 exact ⟨rfl, HKF.out.kp HkW.out (by have := Hb.out; simp; omega)⟩
set_option maxRecDepth 100000 in
theorem vhE (c : Cf) (A A2 : Option Addr) (m m2 : Nat) (l : List Ac) (w : World) (hS : SlPI w A m c.own) (hw : ∀ k (hk : k < c.own.length), c.own[k].a < 4294967296) (hn : c.own.length ≤ 100000) (hC : CapAt w) (hF : FacAt w) (hR : Rd w 9 Ac.enc A2 l) (hx : ∀ x ∈ l, x.fits) (hl : l.length ≤ 1000) (ho : okCf c = true) :
  Calls Tryz.prog 11 #[cfV c A c.own.length m, .slice A2 l.length m2] w (PlayedP c l A m w) := by
 have HF := Lib.hid hF
 have HR := Lib.hid hR
 have HX := Lib.hid hx
 have HLL := Lib.hid hl
 clear hF hR hx hl
 obtain ⟨b, hb⟩ : ∃ b, w.heap.size = b := ⟨_, rfl⟩
 obtain ⟨W, hW, kW, B0, B1⟩ : ∃ W, (w.alloc (.cells (cfC c A c.own.length m) 24)).alloc (.cells zero12 39) = W ∧ Kp w W ∧ Blk W b 24 (cfC c A c.own.length m) ∧ Blk W (b + 1) 39 (tbR zeroTb none none 0 0) := ⟨_, rfl, ((Kp.refl _).alloc _).alloc _, by rw [← hb]; exact (Blk.new _ _ _).alloc _, by rw [← hb]; exact Blk.new1 _ _ _ _⟩
 have HB0 := Lib.hid B0
 have HB1 := Lib.hid B1
 have HkW := Lib.hid kW
 have Hb := Lib.hid hb
 have HS := Lib.hid hS
 have HW := Lib.hid hw
 have HN := Lib.hid hn
 have HC := Lib.hid hC
 have HO := Lib.hid ho
 have s0 := Blk.f B0 rfl
 unfold cfC zero12 at hW
 clear hS hw hn hC ho B0 B1 kW
 go_enter Tryz.func11, Tryz.ntmps11
 go_wp2_with fail
 clear hW s0
 refine (vgj c A m W (HS.out.keep HkW.out) (HC.out.keep HkW.out) HW.out HO.out).mono ?_
 rintro e w1 ⟨t, F, rfl, hM, K1⟩
 have HT := Lib.hid (TQ.new (P := fun V => Rd V 2 PI.enc A c.own ∧ Blk V (b + 1) 39 (tbR zeroTb none none 0 0)) HkW.out hM K1 (fun V k => ⟨(HS.out.keep HkW.out).rd.keep k, HB1.out.keep k⟩) (Good.new HO.out HW.out) HC.out HF.out)
 obtain ⟨B, hB⟩ : ∃ B, W.heap.size = B := ⟨_, rfl⟩
 rw [hB] at HT
 have HB0 := Lib.hid (HB0.out.keep K1)
 have HB1 := Lib.hid (HB1.out.keep K1)
 have HkW := Lib.hid (HkW.out.trans K1)
 have s0 := Blk.f HB0.out rfl
 clear K1 hB hM
 go_wp2_with fail
 refine (vdS c A m w1 (HS.out.keep HkW.out) HW.out HN.out).mono ?_
 rintro e w2 ⟨he, -, K2⟩
 obtain ⟨E, n, he, hrd, hnew⟩ := he HO.out
 subst he
 clear s0
 obtain ⟨W3, hW3, kW3, B10⟩ := Blk.al1 (w := w2) rfl (tbR (newT c) A E m n) 39
 have hge : w1.heap.size ≤ w2.heap.size := K2.size
 have HNE : Hid (b + 1 < w2.heap.size) := Lib.hid (by have := HB1.out.lt; omega)
 have hlt3 : ∀ i, i < w2.heap.size → W3.heap[i]? = w2.heap[i]? := fun i hi => kW3.heap hi
 have hs3 : W3.heap.size = w2.heap.size + 1 := by rw [← hW3]; simp
 have HPL := Lib.hid (show PlR w w2.heap.size (b + 1) c A m (newT c) t W3 from by
  obtain ⟨B2, hQ⟩ := (TQ.moves w).wide (bs := [w2.heap.size]) ⟨B, HT.out⟩ (K2.trans kW3) (by simpa using hge) (fun V => Blk V w2.heap.size 39 (tbR (newT c) A E m n) ∧ ∀ V', Only [w2.heap.size, b + 1] V V' → Rd V' 9 Rt.enc E (newT c).l) (fun V hV => ⟨(hV _ hge B10.lt).trans B10, fun V' kV i hi => by
   obtain ⟨b2, off, e2, hc2⟩ := hrd i hi
   refine ⟨b2, off, e2, fun j u hu => ?_⟩
   have c0 := hc2 j u hu
   have hb2 := World.block_lt_of_cell? w2 _ c0
   have hb3 := hnew _ e2
   simp only at hb2 hb3
   have hV2 := hV b2 hb3 (by omega)
   have hb4 : b2 < V.heap.size := by
    have h5 : w2.heap[b2]? = some w2.heap[b2] := Array.getElem?_eq_getElem hb2
    rw [hlt3 b2 hb2, h5] at hV2
    exact (Array.getElem?_eq_some_iff.1 hV2).1
   have hne : b2 ∉ [w2.heap.size, b + 1] := by have := HB1.out.lt; simp; omega
   exact (World.cell?_of_block (w := w2) ((kV.block b2 hb4 hne).trans (hV2.trans (hlt3 b2 hb2)))).trans c0⟩)
  exact ⟨B2, E, n, hQ.imp (fun V hV => ⟨hV.2.1, (hV.1 V (Only.refl _ _)).2, fun V' kV => ⟨fun i hi => by
   obtain ⟨b2, off, e2, hc2⟩ := (hV.1 V (Only.refl _ _)).1 i hi
   obtain ⟨b3, off3, e3, hc3⟩ := HS.out.rd i hi
   have e4 := e2.symm.trans e3
   injection e4 with e4
   injection e4 with e4 e5
   subst e4 e5
   have hb3 := World.block_lt_of_cell? w _ (hc3 0 _ rfl)
   have hb4 := HkW.out.size
   have hb5 := Hb.out
   simp only at hb3
   exact ⟨b2, off, e2, fun j u hu => kV.cell (hc2 j u hu) (by simp; omega)⟩, hV.2.2 V' kV⟩⟩), rfl⟩)
 clear K2 kW3 hge hlt3 hs3 hrd hnew B10 HT
 unfold tbR at hW3
 go_wp2_with fail
 clear hW3
 obtain ⟨b10, hb10⟩ : ∃ b10, w2.heap.size = b10 := ⟨_, rfl⟩
 rw [hb10] at HPL HNE ⊢
 clear hb10
 refine (vaP 0 _).mono ?_
 rintro e w4 ⟨rfl, hw4⟩
 rw [← hw4]
 clear hw4 w4
 have hl2 := HLL.out
 go_wp2_with fail
 go_loopw [8, 12, 13] (fun s8 s12 s13 wr => ∃ (k t2 : Nat), k ≤ l.length ∧ s8 = .pointer (some ⟨t2, 0, none⟩) ∧ s12 = .bool true ∧ s13 = .int .i64 k ∧ Hid (PlR w b10 (b + 1) c A m (playT c (l.take k)) t2 wr)) (fun _ _ s _ => l.length - (intOf s).toNat)
 case atStart => exact ⟨0, t, Nat.zero_le _, rfl, rfl, rfl, HPL⟩
 case round =>
  obtain ⟨k, t2, hk, rfl, rfl, rfl, HP⟩ := hrel
  by_cases hlt : k < l.length
  ·have hgi : (k : Int) < (l.length : Int) := by omega
   have hg0 : (0 : Int) ≤ (k : Int) := by omega
   obtain ⟨B2, E, n, hQ, hTc⟩ := HP.out
   obtain ⟨b2, off, hA2, x0, x1, x2, x3, x4, x5, x6, x7, x8⟩ := ac_at (HR.out.keep hQ.kp) hlt
   have HXK := Lib.hid (HX.out _ (List.getElem_mem hlt))
   have HNX := Lib.hid (vjw (c := c) hlt)
   subst hA2
   obtain ⟨x, hx⟩ : ∃ x, l[k] = x := ⟨_, rfl⟩
   have HXE := Lib.hid hx
   rw [hx] at x0 x1 x2 x3 x4 x5 x6 x7 x8 HXK HNX
   have HLW : Hid (w.heap.size ≤ b10) := Lib.hid (by have := HNE.out; have := Hb.out; omega)
   obtain ⟨T, hT⟩ : ∃ T, playT c (l.take k) = T := ⟨_, rfl⟩
   rw [hT] at hQ hTc HNX
   have HXC := Lib.hid (show Rd wr 9 Ac.enc (some ⟨b2, off, none⟩) l from HR.out.keep hQ.kp)
   have HQ := Lib.hid hQ
   have HTC := Lib.hid hTc
   obtain ⟨T2, hT2⟩ : ∃ T2, actT T x = T2 := ⟨_, rfl⟩
   have HT2 := Lib.hid hT2
   have HC2 : Hid (T2.c = T.c) := Lib.hid (by rw [← hT2]; exact act_c T x)
   rw [hT2] at HNX
   have HX9 := Lib.hid (And.intro x0 (And.intro x1 (And.intro x2 (And.intro x3 (And.intro x4 (And.intro x5 (And.intro x6 (And.intro x7 x8))))))))
   clear hx hT hQ hTc hT2 x0 x1 x2 x3 x4 x5 x6 x7 x8
   go_upto_region 9 with (fail)
   refine vdU (PlM (w0 := w) (fun t T P W => ∃ B, TQ w W B t T P) b10 [b10, b + 1] (fun V => Blk V (b + 1) 39 (tbR zeroTb none none 0 0)) t2 T T2 A E m n 6 12) [48, 49, 50, 51, 52, 53, 54, 47, 55, 56, 57, 8, 10012, 12] (fun z => [.pointer (some ⟨t2, 0, none⟩), .agg #[.int .i64 T.c.t0, .int .i64 T.c.t1, .int .i64 T.c.t2, .int .i64 T.c.t3, .int .i64 T.c.t4, .int .i64 T.c.t5, .int .i64 T.c.t6, .int .i64 T.c.cap, .slice A T.c.own.length m, .slice E T.l.length n, .int .i64 T.now, .int .i64 T.rf], .slice (some ⟨b2, off, none⟩) l.length m2, .int .i64 k, .pointer (some ⟨b2, off + k * 9, none⟩), .agg #[.int .i64 x.wh, .int .i64 x.fc, .int .u32 (x.p.a : Int), .int .i64 x.p.l, .int .i64 x.h.f, .int .u32 (x.h.a : Int), .int .i64 x.h.m, .int .i64 x.more, .bool x.la], .tuple #[.pointer (some ⟨z.1, 0, none⟩), .agg #[.int .i64 T2.c.t0, .int .i64 T2.c.t1, .int .i64 T2.c.t2, .int .i64 T2.c.t3, .int .i64 T2.c.t4, .int .i64 T2.c.t5, .int .i64 T2.c.t6, .int .i64 T2.c.cap, .slice A T2.c.own.length m, .slice z.2.1 T2.l.length z.2.2, .int .i64 T2.now, .int .i64 T2.rf], .bool true], .tuple #[.pointer (some ⟨z.1, 0, none⟩), .agg #[.int .i64 T2.c.t0, .int .i64 T2.c.t1, .int .i64 T2.c.t2, .int .i64 T2.c.t3, .int .i64 T2.c.t4, .int .i64 T2.c.t5, .int .i64 T2.c.t6, .int .i64 T2.c.cap, .slice A T2.c.own.length m, .slice z.2.1 T2.l.length z.2.2, .int .i64 T2.now, .int .i64 T2.rf], .bool true], .pointer (some ⟨z.1, 0, none⟩), .agg #[.int .i64 T2.c.t0, .int .i64 T2.c.t1, .int .i64 T2.c.t2, .int .i64 T2.c.t3, .int .i64 T2.c.t4, .int .i64 T2.c.t5, .int .i64 T2.c.t6, .int .i64 T2.c.cap, .slice A T2.c.own.length m, .slice z.2.1 T2.l.length z.2.2, .int .i64 T2.now, .int .i64 T2.rf], .bool true, .pointer (some ⟨z.1, 0, none⟩), undef, .bool true]) [true, true, true, true, true, true, true, true, true, true, true, true, true, true] (by kernel_rfl) (by kernel_rfl) (by kernel_rfl) (by kernel_rfl) rfl (fun _ => rfl) (by decide) (fun _ => rfl) (fun _ => rfl) (t2, none, 0) ⟨fun _ => ⟨B2, HQ.out.keep (Kp.refl _).drew⟩, fun h => (by cases h), fun h => (by cases h)⟩ ?_ ?_ ?_
   ·intro z i L w9 hi hu hLi hM
    have hall : ∀ i, i < 14 → [true, true, true, true, true, true, true, true, true, true, true, true, true, true].getD i true = true := by decide
    rw [hall i hi] at hu
    cases hu
   ·intro z i o L a w9 ho hw hLi d hcl f hgo u hM K hK
    have hi : i < 14 := by have := (List.getElem?_eq_some_iff.1 ho).1; simpa using this
    have hcs : i = 0 ∨ i = 1 ∨ i = 2 ∨ i = 3 ∨ i = 4 ∨ i = 5 ∨ i = 6 ∨ i = 7 ∨ i = 8 ∨ i = 9 ∨ i = 10 ∨ i = 11 ∨ i = 12 ∨ i = 13 := by omega
    clear hi
    rcases hcs with rfl | rfl | rfl | rfl | rfl | rfl | rfl | rfl | rfl | rfl | rfl | rfl | rfl | rfl
    all_goals
     first | simp only [List.getElem?_cons_zero, List.getElem?_cons_succ, Option.some.injEq] at ho | replace ho := Option.some.inj ho
     subst ho
    ·have t8 : a.tmps[8]?.getD undef = .pointer (some ⟨t2, 0, none⟩) := u 11 (by decide) (vac _ hcl (i := 11) rfl rfl hLi)
     unfold Oper.wp
     simp only [execOp, Act.eval, Array.getD_eq_getD_getElem?]
     go_simp
     exact hK z _ _ (⟨fun h => hM.m0 (by simpa using h), fun h h2 => hM.m1 (by simpa using h) (by simpa using h2), fun h => hM.m2 (by simpa using h)⟩) (fun _ _ => rfl) rfl
    ·have t10 : a.tmps[10]?.getD undef = .pointer (some ⟨b10, 0, none⟩) := hgo 10 (by decide)
     have n6 : L 6 = false := vac _ hcl (i := 6) (j := 1) rfl rfl hLi
     have hS9 := hM.m0 n6
     have u0 := Blk.f (((TQ.moves w).p hS9).tb) rfl
     unfold Oper.wp
     simp only [execOp, Act.eval, Array.getD_eq_getD_getElem?]
     go_simp
     exact hK z _ _ (⟨fun h => hM.m0 (by simpa using h), fun h h2 => hM.m1 (by simpa using h) (by simpa using h2), fun h => hM.m2 (by simpa using h)⟩) (fun _ _ => rfl) rfl
    ·have t1 : a.tmps[1]?.getD undef = .slice (some ⟨b2, off, none⟩) l.length m2 := hgo 1 (by decide)
     unfold Oper.wp
     simp only [execOp, Act.eval, Array.getD_eq_getD_getElem?]
     go_simp
     exact hK z _ _ (⟨fun h => hM.m0 (by simpa using h), fun h h2 => hM.m1 (by simpa using h) (by simpa using h2), fun h => hM.m2 (by simpa using h)⟩) (fun _ _ => rfl) rfl
    ·have t13 : a.tmps[13]?.getD undef = .int .i64 k := hgo 13 (by decide)
     unfold Oper.wp
     simp only [execOp, Act.eval, Array.getD_eq_getD_getElem?]
     go_simp
     exact hK z _ _ (⟨fun h => hM.m0 (by simpa using h), fun h h2 => hM.m1 (by simpa using h) (by simpa using h2), fun h => hM.m2 (by simpa using h)⟩) (fun _ _ => rfl) rfl
    ·have t50 : a.tmps[50]?.getD undef = .slice (some ⟨b2, off, none⟩) l.length m2 := f 2 rfl
     have t51 : a.tmps[51]?.getD undef = .int .i64 k := f 3 rfl
     unfold Oper.wp
     simp only [execOp, Act.eval, Array.getD_eq_getD_getElem?]
     go_simp
     exact hK z _ _ (⟨fun h => hM.m0 (by simpa using h), fun h h2 => hM.m1 (by simpa using h) (by simpa using h2), fun h => hM.m2 (by simpa using h)⟩) (fun _ _ => rfl) rfl
    ·have t52 : a.tmps[52]?.getD undef = .pointer (some ⟨b2, off + k * 9, none⟩) := f 4 rfl
     have n6 : L 6 = false := vac _ hcl (i := 6) (j := 5) rfl rfl hLi
     obtain ⟨B8, hS8⟩ := hM.m0 n6
     obtain ⟨bq, oq, eq, q0, q1, q2, q3, q4, q5, q6, q7, q8⟩ := ac_at (HR.out.keep hS8.kp) hlt
     injection eq with eq
     injection eq with eq1 eq2
     subst eq1 eq2
     rw [HXE.out] at q0 q1 q2 q3 q4 q5 q6 q7 q8
     unfold Oper.wp
     simp only [execOp, Act.eval, Array.getD_eq_getD_getElem?]
     go_simp
     exact hK z _ _ (⟨fun h => hM.m0 (by simpa using h), fun h h2 => hM.m1 (by simpa using h) (by simpa using h2), fun h => hM.m2 (by simpa using h)⟩) (fun _ _ => rfl) rfl
    ·have t48 : a.tmps[48]?.getD undef = .pointer (some ⟨t2, 0, none⟩) := f 0 rfl
     have t49 : a.tmps[49]?.getD undef = .agg #[.int .i64 T.c.t0, .int .i64 T.c.t1, .int .i64 T.c.t2, .int .i64 T.c.t3, .int .i64 T.c.t4, .int .i64 T.c.t5, .int .i64 T.c.t6, .int .i64 T.c.cap, .slice A T.c.own.length m, .slice E T.l.length n, .int .i64 T.now, .int .i64 T.rf] := f 1 rfl
     have t53 : a.tmps[53]?.getD undef = .agg #[.int .i64 x.wh, .int .i64 x.fc, .int .u32 (x.p.a : Int), .int .i64 x.p.l, .int .i64 x.h.f, .int .u32 (x.h.a : Int), .int .i64 x.h.m, .int .i64 x.more, .bool x.la] := f 5 rfl
     have n7 : L 7 = false := vac _ hcl (i := 7) (j := 6) rfl rfl hLi
     unfold Oper.wp
     simp only [execOp, Act.eval, Array.getD_eq_getD_getElem?]
     go_simp
     have n8 : L 8 = false := vac _ hcl (i := 8) (j := 7) rfl rfl n7
     have n9 : L 9 = false := vac _ hcl (i := 9) (j := 7) rfl rfl n7
     have n11 : L 11 = false := vac _ hcl (i := 11) (j := 8) rfl rfl n8
     have n12 : L 12 = false := vac _ hcl (i := 12) (j := 9) rfl rfl n9
     have hS9 := hM.m0 hLi
     refine (vfN (TQ.moves w) t2 T A E m n x _ w9 hS9 (fun V hV => hV.cl V (Only.refl _ _)) HXK.out).mono ?_
     rintro e9 wb ⟨t9, E9, n9v, w5, w6, rfl, hsz, hst, hS6⟩
     rw [HT2.out] at hst hS6 ⊢
     have hgs : ∀ q ∈ [b10, b + 1], q < w5.heap.size := fun q hq => by
      have h1 := ((TQ.moves w).p hS9).tb.lt
      have h2 := ((TQ.moves w).p hS9).x.lt
      simp only [List.mem_cons, List.not_mem_nil, or_false] at hq
      rcases hq with rfl | rfl <;> omega
     exact hK (t9, E9, n9v) _ _ ⟨fun h => absurd h (by simp), fun _ _ => ⟨w5, w6, hgs, hst, hS6⟩, fun h => absurd (show L 12 = true by simpa using h) (by simp [n12])⟩ (fun j hj => by
     match j, hj with
     | 0, _ => rfl
     | 1, _ => rfl
     | 2, _ => rfl
     | 3, _ => rfl
     | 4, _ => rfl
     | 5, _ => rfl
     | 6, h => exact absurd h (by simp [hLi])
     | 7, h => exact absurd h (by simp [n7])
     | 8, h => exact absurd h (by simp [n8])
     | 9, h => exact absurd h (by simp [n9])
     | 10, _ => rfl
     | 11, h => exact absurd h (by simp [n11])
     | 12, _ => rfl
     | 13, _ => rfl
     | (q + 14), _ => rfl) rfl
    ·have t54 : a.tmps[54]?.getD undef = .tuple #[.pointer (some ⟨z.1, 0, none⟩), .agg #[.int .i64 T2.c.t0, .int .i64 T2.c.t1, .int .i64 T2.c.t2, .int .i64 T2.c.t3, .int .i64 T2.c.t4, .int .i64 T2.c.t5, .int .i64 T2.c.t6, .int .i64 T2.c.cap, .slice A T2.c.own.length m, .slice z.2.1 T2.l.length z.2.2, .int .i64 T2.now, .int .i64 T2.rf], .bool true] := f 6 rfl
     unfold Oper.wp
     simp only [execOp, Act.eval, Array.getD_eq_getD_getElem?]
     go_simp
     exact hK z _ _ (⟨fun h => hM.m0 (by simpa using h), fun h h2 => hM.m1 (by simpa using h) (by simpa using h2), fun h => hM.m2 (by simpa using h)⟩) (fun _ _ => rfl) rfl
    ·have t47 : a.tmps[47]?.getD undef = .tuple #[.pointer (some ⟨z.1, 0, none⟩), .agg #[.int .i64 T2.c.t0, .int .i64 T2.c.t1, .int .i64 T2.c.t2, .int .i64 T2.c.t3, .int .i64 T2.c.t4, .int .i64 T2.c.t5, .int .i64 T2.c.t6, .int .i64 T2.c.cap, .slice A T2.c.own.length m, .slice z.2.1 T2.l.length z.2.2, .int .i64 T2.now, .int .i64 T2.rf], .bool true] := f 7 rfl
     unfold Oper.wp
     simp only [execOp, Act.eval, Array.getD_eq_getD_getElem?]
     go_simp
     exact hK z _ _ (⟨fun h => hM.m0 (by simpa using h), fun h h2 => hM.m1 (by simpa using h) (by simpa using h2), fun h => hM.m2 (by simpa using h)⟩) (fun _ _ => rfl) rfl
    ·have t47 : a.tmps[47]?.getD undef = .tuple #[.pointer (some ⟨z.1, 0, none⟩), .agg #[.int .i64 T2.c.t0, .int .i64 T2.c.t1, .int .i64 T2.c.t2, .int .i64 T2.c.t3, .int .i64 T2.c.t4, .int .i64 T2.c.t5, .int .i64 T2.c.t6, .int .i64 T2.c.cap, .slice A T2.c.own.length m, .slice z.2.1 T2.l.length z.2.2, .int .i64 T2.now, .int .i64 T2.rf], .bool true] := f 7 rfl
     unfold Oper.wp
     simp only [execOp, Act.eval, Array.getD_eq_getD_getElem?]
     go_simp
     exact hK z _ _ (⟨fun h => hM.m0 (by simpa using h), fun h h2 => hM.m1 (by simpa using h) (by simpa using h2), fun h => hM.m2 (by simpa using h)⟩) (fun _ _ => rfl) rfl
    ·have t47 : a.tmps[47]?.getD undef = .tuple #[.pointer (some ⟨z.1, 0, none⟩), .agg #[.int .i64 T2.c.t0, .int .i64 T2.c.t1, .int .i64 T2.c.t2, .int .i64 T2.c.t3, .int .i64 T2.c.t4, .int .i64 T2.c.t5, .int .i64 T2.c.t6, .int .i64 T2.c.cap, .slice A T2.c.own.length m, .slice z.2.1 T2.l.length z.2.2, .int .i64 T2.now, .int .i64 T2.rf], .bool true] := f 7 rfl
     unfold Oper.wp
     simp only [execOp, Act.eval, Array.getD_eq_getD_getElem?]
     go_simp
     exact hK z _ _ (⟨fun h => hM.m0 (by simpa using h), fun h h2 => hM.m1 (by simpa using h) (by simpa using h2), fun h => hM.m2 (by simpa using h)⟩) (fun _ _ => rfl) rfl
    ·have t55 : a.tmps[55]?.getD undef = .pointer (some ⟨z.1, 0, none⟩) := f 8 rfl
     unfold Oper.wp
     simp only [execOp, Act.eval, Array.getD_eq_getD_getElem?]
     go_simp
     exact hK z _ _ (⟨fun h => hM.m0 (by simpa using h), fun h h2 => hM.m1 (by simpa using h) (by simpa using h2), fun h => hM.m2 (by simpa using h)⟩) (fun _ _ => rfl) rfl
    ·have t10 : a.tmps[10]?.getD undef = .pointer (some ⟨b10, 0, none⟩) := hgo 10 (by decide)
     have t56 : a.tmps[56]?.getD undef = .agg #[.int .i64 T2.c.t0, .int .i64 T2.c.t1, .int .i64 T2.c.t2, .int .i64 T2.c.t3, .int .i64 T2.c.t4, .int .i64 T2.c.t5, .int .i64 T2.c.t6, .int .i64 T2.c.cap, .slice A T2.c.own.length m, .slice z.2.1 T2.l.length z.2.2, .int .i64 T2.now, .int .i64 T2.rf] := f 9 rfl
     have d9 : L 9 = true := d 9 rfl
     have d7 : L 7 = true := hcl 9 _ 7 rfl d9 rfl
     have d6 : L 6 = true := hcl 7 _ 6 rfl d7 rfl
     obtain ⟨w5, w6, hgs, hst, hS9⟩ := hM.m1 d6 hLi
     have hBz := ((TQ.moves w).p hS9).1.tb
     have u0 := Blk.f (hBz) rfl
     have z0 := Blk.frozen (hBz)
     unfold Oper.wp
     simp only [execOp, Act.eval, Array.getD_eq_getD_getElem?]
     go_simp
     exact hK z _ _ ⟨fun h => absurd (show L 6 = false by simpa using h) (by simp [d6]), fun _ h => absurd h (by simp), fun _ => PlI.next (TQ.moves w) hS9 (by simp) hgs hst HC2.out HLW.out (fun V V' h k9 => h.only k9 (by have := HNE.out; simp; omega)) (Only.set12 (Only.refl [b10] w9) (by simp)) (Blk.set12 hBz)⟩ (fun _ _ => rfl) rfl
    ·have t57 : a.tmps[57]?.getD undef = .bool true := f 10 rfl
     unfold Oper.wp
     simp only [execOp, Act.eval, Array.getD_eq_getD_getElem?]
     go_simp
     exact hK z _ _ (⟨fun h => hM.m0 (by simpa using h), fun h h2 => hM.m1 (by simpa using h) (by simpa using h2), fun h => hM.m2 (by simpa using h)⟩) (fun _ _ => rfl) rfl
   intro z L w9 hL hM
   (try simp only [Exit.then])
   simp only [wrS, List.zip_cons_cons, List.zip_nil_right, List.foldl_cons, List.foldl_nil, List.setIfInBounds_toArray, List.set_cons_zero, List.set_cons_succ]
   obtain ⟨B9, hQ9⟩ := hM.m2 (hL 12 (by decide))
   have HPN : Hid (PlR w b10 (b + 1) c A m (playT c (l.take (k + 1))) z.1 w9) := Lib.hid (by rw [HNX.out]; exact ⟨B9, z.2.1, z.2.2, hQ9, HC2.out.trans HTC.out⟩)
   clear hM hL hQ9
   go_wp2_with fail
   go_roundw
   case rel => exact ⟨k + 1, z.1, by omega, rfl, rfl, by go_num, HPN⟩
   case measure => simp [intOf]; omega
  ·obtain rfl : k = l.length := by omega
   rw [List.take_length] at HP
   obtain ⟨B2, E, n, hQ, hTc⟩ := HP.out
   obtain ⟨T, hT⟩ : ∃ T, playT c l = T := ⟨_, rfl⟩
   have HTE := Lib.hid hT
   rw [hT] at hQ hTc
   have HQ := Lib.hid hQ
   have HLB : Hid (w.heap.size ≤ b + 1) := Lib.hid (by have := Hb.out; omega)
   have dgi : decide ((l.length : Int) < (l.length : Int)) = false := by simp
   clear hT hQ hTc HP
   go_upto_region 10 with (fail)
   refine' vag (fun (_ : Unit) L V9 => Only [b + 1] wr V9 ∧ (L 4 = false → Blk V9 (b + 1) 39 (tbR zeroTb none none 0 0)) ∧ (L 4 = true → Blk V9 (b + 1) 39 (tbR T A E m n))) [58, 59, 60, 4, 10004, 6, 7] (fun z => [.pointer (some ⟨t2, 0, none⟩), .agg #[.int .i64 T.c.t0, .int .i64 T.c.t1, .int .i64 T.c.t2, .int .i64 T.c.t3, .int .i64 T.c.t4, .int .i64 T.c.t5, .int .i64 T.c.t6, .int .i64 T.c.cap, .slice A T.c.own.length m, .slice E T.l.length n, .int .i64 T.now, .int .i64 T.rf], .bool true, .pointer (some ⟨t2, 0, none⟩), undef, .bool true, .bool false]) (List.replicate 7 true) [4] (by kernel_rfl) (by kernel_rfl) (fun _ => rfl) (fun _ => rfl) (fun _ => rfl) () ⟨(Only.refl _ _).drew, fun _ => HQ.out.p.x.drew, fun h => (by cases h)⟩ (fun _ L L' _ e h => by simpa only [e 4 (by simp)] using h) ?_ ?_ ?_
   rotate_left
   ·intro z; simp only [List.zip_cons_cons, List.zip_nil_right, wrC, wrN, List.set_cons_zero, List.set_cons_succ, List.set_nil]; rfl
   ·repeat' (first | refine And.intro ?_ ?_ | exact trivial)
    all_goals intro z L a w9 hLi d hcl hM hO K hK
    all_goals have u := Blk.f (HQ.out.p.tb.only hM.1 (by have := HNE.out; simp; omega)) rfl
    all_goals try (go_simp; exact hK z _ _ (hO rfl) (fun _ _ => rfl) rfl)
    ·have y := Blk.f (hM.2.1 hLi) rfl
     have f := Blk.frozen (hM.2.1 hLi)
     go_simp
     exact hK z _ _ ⟨hM.1.set12 (by simp), fun h => absurd h (by simp), fun _ => Blk.set12 (hM.2.1 hLi)⟩ (fun _ _ => rfl) rfl
   intro z L w9 hL hM
   (try simp only [Exit.then])
   have hM2 := hM
   have hB4 := hM.2.2 (hL 4 (by decide))
   obtain ⟨B9, hQ9⟩ := (TQ.moves w).put (g := b + 1) (Y := 39) (cs := tbR T A E m n) (P2 := fun V => RfM V T A E) ⟨B2, HQ.out⟩ (by decide) HLB.out (fun V hV => ⟨_, hV.x⟩) (fun V V' hV k2 _ => hV.cl V' (k2.more (by simp))) hM.1 hB4
   have HQ9 := Lib.hid hQ9
   have HB4 := Lib.hid hB4
   clear hM hL hM2 hQ9 hB4
   go_wp2_with fail
   refine bodyPost_ret (vgz (T := T) (A := A) (E := E) (m := m) (n := n) rfl rfl rfl rfl rfl HB4.out) rfl ?_
   exact ⟨B9, t2, E, n, by rw [HTE.out] <;> rfl, by rw [HTE.out]; exact HQ9.out⟩
end

end Go.Proofs.YtffckpkikdlbpaaGreatDoor
