/- Lemmas and contracts for the theorem of this claim: RqC, RqD, ShR. -/
import Derived.Test.YtgopnfacklmkaaaGreatDoorZxBa
import Derived.Shelf.SlSortCmp.WholeK
import Derived.Shelf.SlMaps.Clone
import Derived.Shelf.SlMaps.Equal
import Derived.Test.YtgopnfacklmkaaaGreatDoorProg
set_option linter.all false
set_option maxHeartbeats 16000000
namespace Go.Proofs.YtgopnfacklmkaaaGreatDoor
section
open Go.RowKit Go.Maps
def toldR (r : Rt) (fc : Int) : Int := if checkR r = 0 then (if (r.s == 2) && (r.f == fc) then 16 else r.m) else 0
theorem vhP (r : Rt) : checkR r = 0 ∨ checkR r = 2 := by unfold checkR; split <;> simp
set_option maxRecDepth 100000 in
theorem vjD (r : Rt) (fc : Int) (w : World) (ha : r.p.a < 4294967296) (hx : r.x < 4294967296) : Calls Tryz.prog 185 #[roV r, .int .i64 fc] w fun e w' => e = .returned (.int .i64 (toldR r fc)) ∧ Kp w w' := by
 obtain ⟨b, hb⟩ : ∃ b, w.heap.size = b := ⟨_, rfl⟩
 obtain ⟨W, hW, kW, B0⟩ := Blk.al1 hb (roC r) 52
 have HB0 := Lib.hid B0
 have HC := Lib.hid (vbS r W ha hx)
 have HkW := Lib.hid kW
 have u : ∀ i, W.cell? ⟨b, i, none⟩ = (List.toArray [.int .u32 (r.p.a : Int), .int .i64 r.p.l, .int .i64 r.s, .int .i64 r.m, .int .i64 r.l, .int .i64 r.f, .int .u32 (r.x : Int), .int .i64 r.d, .bool r.c])[i]? := Blk.f B0 rfl
 have h02 := vhP r
 obtain ⟨n, hn⟩ : ∃ n, toldR r fc = n := ⟨_, rfl⟩
 have HN := Lib.hid hn
 rw [hn]
 unfold toldR at hn
 obtain ⟨c, hc⟩ : ∃ c, checkR r = c := ⟨_, rfl⟩
 rw [hc] at hn h02 HC
 unfold roC at hW
 clear B0 kW ha hx hc
 rcases h02 with rfl | rfl
 ·rw [if_pos rfl] at hn
  cases h1 : (r.s == 2)
  ·rw [h1] at hn
   simp only [Bool.false_and, Bool.false_eq_true, if_false] at hn
   subst hn
   go_enter Tryz.func185, Tryz.ntmps185
   go_wp2_with (first | (go_at_call 118; refine HC.out.mono ?_; rintro e w1 ⟨rfl, K1⟩; have HK1 := Lib.hid K1; have v := Blk.f (l := [.int .u32 (r.p.a : Int), .int .i64 r.p.l, .int .i64 r.s, .int .i64 r.m, .int .i64 r.l, .int .i64 r.f, .int .u32 (r.x : Int), .int .i64 r.d, .bool r.c]) (HB0.out.keep K1) rfl; clear u K1 hW))
   go_ret
   exact ⟨rfl, HkW.out.trans HK1.out⟩
  ·cases h2 : (r.f == fc)
   all_goals
    rw [h1, h2] at hn
    simp only [Bool.and_false, Bool.and_self, Bool.false_eq_true, if_false, if_true] at hn
    subst hn
    go_enter Tryz.func185, Tryz.ntmps185
    go_wp2_with (first | (go_at_call 118; refine HC.out.mono ?_; rintro e w1 ⟨rfl, K1⟩; have HK1 := Lib.hid K1; have v := Blk.f (l := [.int .u32 (r.p.a : Int), .int .i64 r.p.l, .int .i64 r.s, .int .i64 r.m, .int .i64 r.l, .int .i64 r.f, .int .u32 (r.x : Int), .int .i64 r.d, .bool r.c]) (HB0.out.keep K1) rfl; clear u K1 hW))
    go_ret
    exact ⟨rfl, HkW.out.trans HK1.out⟩
 ·rw [if_neg (by decide)] at hn
  subst hn
  go_enter Tryz.func185, Tryz.ntmps185
  go_wp2_with (first | (go_at_call 118; refine HC.out.mono ?_; rintro e w1 ⟨rfl, K1⟩; have HK1 := Lib.hid K1; have v := Blk.f (l := [.int .u32 (r.p.a : Int), .int .i64 r.p.l, .int .i64 r.s, .int .i64 r.m, .int .i64 r.l, .int .i64 r.f, .int .u32 (r.x : Int), .int .i64 r.d, .bool r.c]) (HB0.out.keep K1) rfl; clear u K1 hW))
  go_ret
  exact ⟨rfl, HkW.out.trans HK1.out⟩
abbrev looV (t : Nat) (fc : Int) : Value := .agg #[.pointer (some ⟨t, 0, none⟩), .int .i64 fc]
def entE (fc : Int) (r : Rt) : En := ofE r.p (toldR r fc)
set_option maxRecDepth 100000 in
theorem vfv (t : Nat) (fc : Int) (r : Rt) (w : World) (ha : r.p.a < 4294967296) (hx : r.x < 4294967296) : Calls Tryz.prog 130 #[looV t fc, roV r] w fun e w' => e = .returned (enV (entE fc r)) ∧ Kp w w' := by
 obtain ⟨b, hb⟩ : ∃ b, w.heap.size = b := ⟨_, rfl⟩
 obtain ⟨W, hW, kW, B0, B1, B2⟩ := Blk.al3 hb #[.pointer (some ⟨t, 0, none⟩), .int .i64 fc] 141 (roC r) 52 zeroEC 66
 have HB0 := Lib.hid B0
 have HB1 := Lib.hid B1
 have HB2 := Lib.hid B2
 have HkW := Lib.hid kW
 have hbs : w.heap.size ≤ b + 1 + 1 := by omega
 have HT := Lib.hid (fun V => vjD r fc V ha hx)
 have HO := Lib.hid (fun V => of_g r.p (toldR r fc) V ha)
 unfold OfG at HO
 obtain ⟨m, hm⟩ : ∃ m, toldR r fc = m := ⟨_, rfl⟩
 have HE : Hid (entE fc r = ofE r.p m) := Lib.hid (by rw [← hm]; rfl)
 rw [hm] at HT HO
 obtain ⟨e, he⟩ : ∃ e, ofE r.p m = e := ⟨_, rfl⟩
 rw [he] at HO HE
 obtain ⟨n, hn⟩ : ∃ n, ofN r.p m = n := ⟨_, rfl⟩
 rw [hn] at HO
 unfold roC zeroEC at hW
 clear B0 B1 B2 kW ha hx hm he hn
 go_enter Tryz.func130, Tryz.ntmps130
 go_upto_region 1 with (fail)
 clear hW
 refine' vam (fun (z : Nat) L V9 => Kp W V9 ∧ (L 10 = true → W.heap.size ≤ z ∧ Blk V9 z 66 (bif L 11 then enC e else zeroEC))) [8, 9, 10, 11, 12, 13, 14, 7, 15, 16, 5, 10011, 6] (fun z => [.pointer (some ⟨b + 1, 0, none⟩), .agg #[.int .u32 (r.p.a : Int), .int .i64 r.p.l], .agg #[.int .u32 (r.p.a : Int), .int .i64 r.p.l, .int .i64 r.s, .int .i64 r.m, .int .i64 r.l, .int .i64 r.f, .int .u32 (r.x : Int), .int .i64 r.d, .bool r.c], .pointer (some ⟨b, 1, none⟩), .int .i64 fc, .int .i64 m, .tuple #[.agg #[.int .i64 e.f, .int .i64 e.t, .int .u32 (e.a : Int), .int .u32 (e.m : Int), .int .u32 (e.n : Int), .int .u32 (e.k : Int)], .int .i64 n], .tuple #[.agg #[.int .i64 e.f, .int .i64 e.t, .int .u32 (e.a : Int), .int .u32 (e.m : Int), .int .u32 (e.n : Int), .int .u32 (e.k : Int)], .int .i64 n], .agg #[.int .i64 e.f, .int .i64 e.t, .int .u32 (e.a : Int), .int .u32 (e.m : Int), .int .u32 (e.n : Int), .int .u32 (e.k : Int)], .int .i64 n, .pointer (some ⟨z, 0, none⟩), undef, .int .i64 n]) (List.replicate 13 true) [10, 11] (by kernel_rfl) (by kernel_rfl) (fun _ => rfl) (fun _ => rfl) (fun _ => rfl) 0 ⟨(Kp.refl _).drew, fun h => (by cases h)⟩ (fun _ L L' _ e h => by simpa only [e 10 (by simp), e 11 (by simp)] using h) ?_ ?_ ?_
 rotate_left
 ·intro z; simp only [List.zip_cons_cons, List.zip_nil_right, wrC, wrN, List.set_cons_zero, List.set_cons_succ, List.set_nil]; rfl
 ·repeat' (first | refine And.intro ?_ ?_ | exact trivial)
  all_goals intro z L a w9 hLi d hcl hM hO K hK
  all_goals have u := Blk.f (HB0.out.keep hM.1) rfl
  all_goals have c2 := Blk.f (l := [.int .u32 (r.p.a : Int), .int .i64 r.p.l, .int .i64 r.s, .int .i64 r.m, .int .i64 r.l, .int .i64 r.f, .int .u32 (r.x : Int), .int .i64 r.d, .bool r.c]) (HB1.out.keep hM.1) rfl
  all_goals try (go_simp; exact hK z _ _ (hO rfl) (fun _ _ => rfl) rfl)
  ·go_simp
   refine (HT.out _).mono ?_
   rintro e9 wb ⟨rfl, hKc⟩
   exact hK z _ _ ⟨hM.1.trans hKc, fun h => ⟨(hM.2 (by simpa using h)).1, by simpa using (hM.2 (by simpa using h)).2.keep hKc⟩⟩ (fun _ _ => rfl) rfl
  ·go_simp
   refine (HO.out _).mono ?_
   rintro e9 wb ⟨rfl, hKc⟩
   exact hK z _ _ ⟨hM.1.trans hKc, fun h => ⟨(hM.2 (by simpa using h)).1, by simpa using (hM.2 (by simpa using h)).2.keep hKc⟩⟩ (fun _ _ => rfl) rfl
  ·go_simp
   have n11 : L 11 = false := vaa _ hcl (i := 11) rfl (by rfl) hLi
   exact hK w9.heap.size _ _ ⟨hM.1.alloc _, fun _ => ⟨hM.1.size, by simp [n11]; exact Blk.new w9 66 #[.int .i64 0, .int .i64 0, .int .u32 0, .int .u32 0, .int .u32 0, .int .u32 0]⟩⟩ (but1 hLi rfl) rfl
  ·have h10 := hM.2 (d 10 rfl)
   rw [hLi] at h10
   simp only [cond_false] at h10
   have hB10 := h10.2
   unfold zeroEC at hB10
   have y := Blk.f (l := [.int .i64 0, .int .i64 0, .int .u32 0, .int .u32 0, .int .u32 0, .int .u32 0]) hB10 rfl
   have f := Blk.frozen hB10
   obtain ⟨_, rfl, B9, K9⟩ := Blk.putEn hB10 e hM.1 h10.1
   go_simp
   exact hK z _ _ ⟨K9, fun _ => ⟨h10.1, by simp; exact B9⟩⟩ (fun _ _ => rfl) rfl
 intro z L w9 hL hM
 (try simp only [Exit.then])
 rw [hL 11 (by decide)] at hM
 simp only [cond_true] at hM
 obtain ⟨hge, hBz⟩ := hM.2 (hL 10 (by decide))
 have u := Blk.f (l := [.int .i64 e.f, .int .i64 e.t, .int .u32 (e.a : Int), .int .u32 (e.m : Int), .int .u32 (e.n : Int), .int .u32 (e.k : Int)]) hBz rfl
 have hR := HB2.out.keep hM.1
 unfold zeroEC at hR
 have y := Blk.f (l := [.int .i64 0, .int .i64 0, .int .u32 0, .int .u32 0, .int .u32 0, .int .u32 0]) hR rfl
 have f := Blk.frozen hR
 obtain ⟨R9, hR9, B9, K9⟩ := Blk.putEn hR e (HkW.out.trans hM.1) hbs
 unfold enSet at hR9
 have HB9 := Lib.hid B9
 have HK9 := Lib.hid K9
 clear hM hL hR hBz B9 K9
 go_wp2_with fail
 have v := Blk.f (l := [.int .i64 e.f, .int .i64 e.t, .int .u32 (e.a : Int), .int .u32 (e.m : Int), .int .u32 (e.n : Int), .int .u32 (e.k : Int)]) HB9.out rfl
 exact bodyPost_ret (v := enV e) (by simp [results, Tryz.results130, go_sem, v]) rfl ⟨by rw [HE.out], HK9.out⟩
def ansE (T : Tb) (fc : Int) (p : PI) : En := match getR p T.l with | some r => entE fc r | none => ofE p 16
set_option maxRecDepth 100000 in
theorem vjE (B t : Nat) (F : List Nat) (T : Tb) (fc : Int) (p : PI) (w : World) (hT : TabM w B t F T) (hp : wfP p) (hx : ∀ r ∈ T.l, r.p.a < 4294967296 ∧ r.x < 4294967296) : Calls Tryz.prog 106 #[looV t fc, .agg #[.int .u32 (p.a : Int), .int .i64 p.l]] w fun e w' => e = .returned (enV (ansE T fc p)) ∧ Kp w w' := by
 obtain ⟨b, hb⟩ : ∃ b, w.heap.size = b := ⟨_, rfl⟩
 obtain ⟨W, hW, kW, B0, B1, B2⟩ := Blk.al3 hb #[.pointer (some ⟨t, 0, none⟩), .int .i64 fc] 141 #[.int .u32 (p.a : Int), .int .i64 p.l] 39 zeroEC 66
 have HB0 := Lib.hid B0
 have HB1 := Lib.hid B1
 have HB2 := Lib.hid B2
 have HkW := Lib.hid kW
 have hbs : w.heap.size ≤ b + 1 + 1 := by omega
 have hcr := vjw B t F T p W (hT.keep kW) hp
 unfold GetP at hcr
 have u := Blk.f B0 rfl
 have c2 := Blk.f B1 rfl
 have HOF := Lib.hid (fun V => of_g p 16 V hp.1)
 unfold OfG at HOF
 unfold zeroEC at hW
 have HANS : Hid (ansE T fc p = match getR p T.l with | some r => entE fc r | none => ofE p 16) := Lib.hid rfl
 have HXX : Hid (∀ r, getR p T.l = some r → r.p.a < 4294967296 ∧ r.x < 4294967296) := Lib.hid (fun r h => hx r (vaw h).1)
 clear hT B0 B1 B2 kW hp hx
 have fin : Hid (∀ (V : World) (e : En), Kp W V → ∃ R9, enSet V (b + 1 + 1) e = R9 ∧ Blk R9 (b + 1 + 1) 66 (enC e) ∧ Kp w R9) := Lib.hid (fun V e hV => by
  have hR := HB2.out.keep hV
  unfold zeroEC at hR
  exact Blk.putEn hR e (HkW.out.trans hV) hbs)
 obtain ⟨og, hog⟩ : ∃ og, getR p T.l = og := ⟨_, rfl⟩
 rw [hog] at hcr HANS HXX
 clear hog
 obtain ⟨r, hr⟩ : ∃ r, og.getD zeroR = r := ⟨_, rfl⟩
 rw [hr] at hcr
 cases og with
 | none =>
  have HG := Lib.hid hcr
  obtain ⟨e, he⟩ : ∃ e, ofE p 16 = e := ⟨_, rfl⟩
  have HA : Hid (ansE T fc p = e) := Lib.hid (by rw [HANS.out, he])
  rw [he] at HOF
  clear hcr he hr
  go_enter Tryz.func106, Tryz.ntmps106
  go_upto_region 4 with (first | (go_at_call 162; refine HG.out.mono ?_; rintro e1 w1 ⟨rfl, K1⟩; obtain ⟨p1, hp1⟩ : ∃ p1, w1.heap.size = p1 := ⟨_, rfl⟩; obtain ⟨W1, hW1, kW1, BX⟩ := Blk.al1 hp1 (roC r) 52; unfold roC at hW1; have HK1 := Lib.hid (K1.trans kW1); have HBX := Lib.hid BX; have d2 := Blk.f (HB1.out.keep HK1.out) rfl; have d1 := Blk.f (HB0.out.keep HK1.out) rfl; have d3 := Blk.f (l := [.int .u32 (r.p.a : Int), .int .i64 r.p.l, .int .i64 r.s, .int .i64 r.m, .int .i64 r.l, .int .i64 r.f, .int .u32 (r.x : Int), .int .i64 r.d, .bool r.c]) BX rfl; clear u c2 K1 kW1 BX hW))
  obtain ⟨n, hn⟩ : ∃ n, ofN p 16 = n := ⟨_, rfl⟩
  rw [hn] at HOF
  clear hn
  go_upto_region 5 with (first | (go_at_call 163; refine (HOF.out _).mono ?_; rintro e1 w2 ⟨rfl, K2⟩; obtain ⟨p2, hp2⟩ : ∃ p2, w2.heap.size = p2 := ⟨_, rfl⟩; obtain ⟨W2, hW2, kW2, BY⟩ := Blk.al1 hp2 (enC e) 66; unfold enC at hW2; have HK2 := Lib.hid (HK1.out.trans (K2.trans kW2)); have d4 := Blk.f (l := [.int .i64 e.f, .int .i64 e.t, .int .u32 (e.a : Int), .int .u32 (e.m : Int), .int .u32 (e.n : Int), .int .u32 (e.k : Int)]) BY rfl; clear K2 kW2 BY d1 d2 d3 hW1))
  obtain ⟨R9, hR9, B9, K9⟩ := fin.out W2 e HK2.out
  unfold enSet at hR9
  have hR := HB2.out.keep (HK2.out)
  unfold zeroEC at hR
  have y := Blk.f (l := [.int .i64 0, .int .i64 0, .int .u32 0, .int .u32 0, .int .u32 0, .int .u32 0]) hR rfl
  have f := Blk.frozen hR
  have HB9 := Lib.hid B9
  have HK9 := Lib.hid K9
  clear hR B9 K9
  go_wp2_with fail
  have v := Blk.f (l := [.int .i64 e.f, .int .i64 e.t, .int .u32 (e.a : Int), .int .u32 (e.m : Int), .int .u32 (e.n : Int), .int .u32 (e.k : Int)]) HB9.out rfl
  exact bodyPost_ret (v := enV e) (by simp [results, Tryz.results106, go_sem, v]) rfl ⟨by rw [HA.out], HK9.out⟩
 | some r0 =>
  obtain rfl : r0 = r := hr
  have HG := Lib.hid hcr
  have hxx := HXX.out r0 rfl
  have HEN := Lib.hid (fun V => vfv t fc r0 V hxx.1 hxx.2)
  obtain ⟨e, he⟩ : ∃ e, entE fc r0 = e := ⟨_, rfl⟩
  have HA : Hid (ansE T fc p = e) := Lib.hid (by rw [HANS.out]; exact he)
  rw [he] at HEN
  clear hcr he hxx
  go_enter Tryz.func106, Tryz.ntmps106
  go_upto_region 3 with (first | (go_at_call 162; refine HG.out.mono ?_; rintro e1 w1 ⟨rfl, K1⟩; obtain ⟨p1, hp1⟩ : ∃ p1, w1.heap.size = p1 := ⟨_, rfl⟩; obtain ⟨W1, hW1, kW1, BX⟩ := Blk.al1 hp1 (roC r0) 52; unfold roC at hW1; have HK1 := Lib.hid (K1.trans kW1); have HBX := Lib.hid BX; have d2 := Blk.f (HB1.out.keep HK1.out) rfl; have d1 := Blk.f (HB0.out.keep HK1.out) rfl; have d3 := Blk.f (l := [.int .u32 (r0.p.a : Int), .int .i64 r0.p.l, .int .i64 r0.s, .int .i64 r0.m, .int .i64 r0.l, .int .i64 r0.f, .int .u32 (r0.x : Int), .int .i64 r0.d, .bool r0.c]) BX rfl; clear u c2 K1 kW1 BX hW))
  go_wp2_with fail
  refine (HEN.out _).mono ?_
  rintro e1 w2 ⟨rfl, K2⟩
  have HK2 := Lib.hid (HK1.out.trans K2)
  clear K2 d1 d2 d3 hW1
  obtain ⟨R9, hR9, B9, K9⟩ := fin.out w2 e HK2.out
  unfold enSet at hR9
  have hR := HB2.out.keep (HK2.out)
  unfold zeroEC at hR
  have y := Blk.f (l := [.int .i64 0, .int .i64 0, .int .u32 0, .int .u32 0, .int .u32 0, .int .u32 0]) hR rfl
  have f := Blk.frozen hR
  have HB9 := Lib.hid B9
  have HK9 := Lib.hid K9
  clear hR B9 K9
  go_wp2_with fail
  have v := Blk.f (l := [.int .i64 e.f, .int .i64 e.t, .int .u32 (e.a : Int), .int .u32 (e.m : Int), .int .u32 (e.n : Int), .int .u32 (e.k : Int)]) HB9.out rfl
  exact bodyPost_ret (v := enV e) (by simp [results, Tryz.results106, go_sem, v]) rfl ⟨by rw [HA.out], HK9.out⟩
def akE (x : PI × Nat) : List Value := [.int .u32 (x.1.a : Int), .int .i64 x.1.l, .int .i64 (x.2 : Nat)]
theorem vhQ (x : PI × Nat) : (akE x).length = 3 := rfl
theorem ak_at {w : World} {A : Option Addr} {xs : List (PI × Nat)} (h : Rd w 3 akE A xs) {k : Nat} (hk : k < xs.length) : ∃ b off, A = some ⟨b, off, none⟩ ∧ w.cell? ⟨b, off + k * 3, none⟩ = some (.int .u32 (xs[k].1.a : Int)) ∧ w.cell? ⟨b, off + k * 3 + 1, none⟩ = some (.int .i64 xs[k].1.l) ∧ w.cell? ⟨b, off + k * 3 + 2, none⟩ = some (.int .i64 (xs[k].2 : Nat)) := by
 obtain ⟨b, off, e, hc⟩ := h k hk
 exact ⟨b, off, e, hc 0 _ rfl, hc 1 _ rfl, hc 2 _ rfl⟩
theorem dg_at {w : World} {A : Option Addr} {xs : List Pc} (h : Rd w 2 Pc.encD A xs) {k : Nat} (hk : k < xs.length) : ∃ b off, A = some ⟨b, off, none⟩ ∧ w.cell? ⟨b, off + k * 2, none⟩ = some (.int .i64 xs[k].c) ∧ w.cell? ⟨b, off + k * 2 + 1, none⟩ = some (.slice xs[k].A xs[k].n xs[k].m) := by
 obtain ⟨b, off, e, hc⟩ := h k hk
 exact ⟨b, off, e, hc 0 _ rfl, hc 1 _ rfl⟩
theorem vhR (args : Array Value) (w : World) : (callFunc 130 args).run Tryz.prog w = .ok (.enter 130 args) w := by kernel_rfl
theorem vhS (args : Array Value) (w : World) : (callFunc 106 args).run Tryz.prog w = .ok (.enter 106 args) w := by kernel_rfl
theorem vjF (args : Array Value) (w : World) : (callFunc 105 args).run Tryz.prog w = .ok (.enter 105 args) w := by kernel_rfl
theorem vgs (args : Array Value) (w : World) : (callFunc 127 args).run Tryz.prog w = .ok (.enter 127 args) w := by kernel_rfl
set_option maxRecDepth 100000 in
theorem vls (x : PI × Nat) (w : World) : Calls Tryz.prog 105 #[.agg #[.int .u32 (x.1.a : Int), .int .i64 x.1.l, .int .i64 (x.2 : Nat)]] w fun e w' => e = .returned (.agg #[.int .u32 (x.1.a : Int), .int .i64 x.1.l]) ∧ Kp w w' := by
 obtain ⟨b, hb⟩ : ∃ b, w.heap.size = b := ⟨_, rfl⟩
 obtain ⟨W, hW, kW, B0, B1⟩ := Blk.al2 hb #[.int .u32 (x.1.a : Int), .int .i64 x.1.l, .int .i64 (x.2 : Nat)] 116 #[.int .u32 0, .int .i64 0] 39
 have u := Blk.f B0 rfl
 have y := Blk.f B1 rfl
 have f := Blk.frozen B1
 have hbs : w.heap.size ≤ b + 1 := by omega
 have B9 := Lib.hid ((B1.set_ 0 (.int .u32 (x.1.a : Int))).set_ 1 (.int .i64 x.1.l))
 have HK := Lib.hid ((kW.setCell (p := ⟨b + 1, 0, none⟩) hbs (.int .u32 (x.1.a : Int))).setCell (p := ⟨b + 1, 1, none⟩) hbs (.int .i64 x.1.l))
 clear B0 B1 kW
 go_enter Tryz.func105, Tryz.ntmps105
 go_wp2_with fail
 have v := Blk.f (l := [.int .u32 (x.1.a : Int), .int .i64 x.1.l]) B9.out rfl
 exact bodyPost_ret (v := .agg #[.int .u32 (x.1.a : Int), .int .i64 x.1.l]) (by simp [results, Tryz.results105, go_sem, v]) rfl ⟨rfl, HK.out⟩
set_option maxRecDepth 100000 in
theorem vhT (t : Nat) (fc : Int) (h : Rt → En) (A : Option Addr) (m : Nat) (xs : List Rt) (w : World) (hR : Rd w 9 Rt.enc A xs) (hg : ∀ x ∈ xs, ∀ W, Kp w W → Calls Tryz.prog 130 #[looV t fc, roV x] W fun e w' => e = .returned (enV (h x)) ∧ Kp W w') (hn : xs.length ≤ 900000) :
  Calls Tryz.prog 129 #[.slice A xs.length m, .func (.func 130) #[looV t fc] #[]] w fun r w' => ∃ A2 m2, r = .returned (.slice A2 xs.length m2) ∧ Own w' w.heap.size 66 6 En.enc (.slice A2 xs.length m2) (xs.map h) ∧ Kp w w' := by
 have HG := Lib.hid hg
 have HR := Lib.hid hR
 have hcl := vhR
 have R0 : Hid (Own w w.heap.size 66 6 En.enc (.slice none 0 0) ((xs.take 0).map h) ∧ Kp w w) := Lib.hid ⟨by rw [List.take_zero]; exact Own.nil _ _ _ _ _, Kp.refl _⟩
 clear hg hR
 go_enter Tryz.func129, Tryz.ntmps129
 go_wp2_with fail
 go_loopw [5, 7, 10] (fun v _ i wr => ∃ j : Nat, j ≤ xs.length ∧ i = .int .i64 j ∧ Hid (Own wr w.heap.size 66 6 En.enc v ((xs.take j).map h) ∧ Kp w wr)) (fun _ _ i _ => xs.length - (intOf i).toNat)
 case atStart => exact ⟨0, Nat.zero_le _, rfl, R0⟩
 case round =>
  obtain ⟨j, hj, rfl, R⟩ := hrel
  obtain ⟨Av, cv, hv⟩ := R.out.1.form
  subst hv
  by_cases hlt : j < xs.length
  ·have hj1 : (j : Int) < (xs.length : Int) := by omega
   have hj0 : (0 : Int) ≤ (j : Int) := by omega
   obtain ⟨b, off, hA, s0, s1, s2, s3, s4, s5, s6, s7, s8⟩ := vhN (HR.out.keep R.out.2) hlt
   subst hA
   have hmap : (xs.take (j + 1)).map h = (xs.take j).map h ++ [h xs[j]] := by rw [List.take_succ_eq_append_getElem hlt, List.map_append]; rfl
   have hmem : xs[j] ∈ xs := List.getElem_mem hlt
   obtain ⟨x, hx⟩ : ∃ x, xs[j] = x := ⟨_, rfl⟩
   rw [hx] at s0 s1 s2 s3 s4 s5 s6 s7 s8 hmap hmem
   obtain ⟨V, hV, kV, BV⟩ := Blk.al1 (w := wr) rfl #[.int .u32 (x.p.a : Int), .int .i64 x.p.l, .int .i64 x.s, .int .i64 x.m, .int .i64 x.l, .int .i64 x.f, .int .u32 (x.x : Int), .int .i64 x.d, .bool x.c] 52
   have y := Blk.f BV rfl
   have hc := HG.out x hmem V (R.out.2.trans kV)
   obtain ⟨z, hz⟩ : ∃ z, h x = z := ⟨_, rfl⟩
   rw [hz] at hc hmap
   have HC := Lib.hid hc
   have HM := Lib.hid hmap
   have hl : ((xs.take j).map h).length = j := by rw [List.length_map, List.length_take]; omega
   have HOV := Lib.hid (R.out.1.keep kV)
   obtain ⟨acc, hacc⟩ : ∃ acc, (xs.take j).map h = acc := ⟨_, rfl⟩
   rw [hacc] at hl HOV HM
   rw [hacc]
   have HKV := Lib.hid (R.out.2.trans kV)
   have HLN := Lib.hid hl
   have hfit : (acc.length + 1) * (32 + 1) ≤ 140737488355328 := by omega
   clear hx hz hc hmap hmem hl kV BV hacc
   go_wp2_with fail
   refine HC.out.mono ?_
   rintro e w1 ⟨rfl, K1⟩
   have HO1 := Lib.hid (HOV.out.keep K1)
   have HK1 := Lib.hid (HKV.out.trans K1)
   have hbase : w.heap.size ≤ w1.heap.size := HK1.out.size
   clear s0 s1 s2 s3 s4 s5 s6 s7 s8 y hV K1
   go_wp2_with (at_builtin; go_must (refine vah EEn rfl _ _ rfl z rfl HO1.out HK1.out (Nat.le_refl _) hbase rfl rfl rfl rfl rfl hfit ?_); intro v3 w3 hown3 hK3 hg3; obtain ⟨A3, c3, rfl⟩ := hown3.form1; have HO3 := Lib.hid hown3; have HK3 := Lib.hid hK3; clear hown3 hK3 hg3)
   go_roundw
   case rel => exact ⟨j + 1, by omega, by go_num, Lib.hid ⟨by rw [HM.out]; exact HO3.out, HK3.out⟩⟩
   case measure => simp [intOf]; omega
  ·obtain rfl : j = xs.length := by omega
   have hlast := R.out
   rw [List.take_length] at hlast
   have hl : ((xs.take xs.length).map h).length = xs.length := by rw [List.take_length, List.length_map]
   rw [hl]
   rw [show (xs.map h).length = xs.length from List.length_map _] at hlast
   have HE := Lib.hid hlast
   clear hlast hl
   go_wp2_with fail
   go_ret
   exact ⟨Av, cv, rfl, by first | exact HE.out.1 | (rw [List.take_length] at HE; exact HE.out.1), HE.out.2⟩
set_option maxRecDepth 100000 in
theorem vhU (t : Nat) (fc : Int) (h : PI → En) (A : Option Addr) (m : Nat) (xs : List PI) (w : World) (hR : Rd w 2 PI.enc A xs) (hg : ∀ x ∈ xs, ∀ W, Kp w W → Calls Tryz.prog 106 #[looV t fc, .agg #[.int .u32 (x.a : Int), .int .i64 x.l]] W fun e w' => e = .returned (enV (h x)) ∧ Kp W w') (hn : xs.length ≤ 900000) :
  Calls Tryz.prog 103 #[.slice A xs.length m, .func (.func 106) #[looV t fc] #[]] w fun r w' => ∃ A2 m2, r = .returned (.slice A2 xs.length m2) ∧ Own w' w.heap.size 66 6 En.enc (.slice A2 xs.length m2) (xs.map h) ∧ Kp w w' := by
 have HG := Lib.hid hg
 have HR := Lib.hid hR
 have hcl := vhS
 have R0 : Hid (Own w w.heap.size 66 6 En.enc (.slice none 0 0) ((xs.take 0).map h) ∧ Kp w w) := Lib.hid ⟨by rw [List.take_zero]; exact Own.nil _ _ _ _ _, Kp.refl _⟩
 clear hg hR
 go_enter Tryz.func103, Tryz.ntmps103
 go_wp2_with fail
 go_loopw [5, 7, 10] (fun v _ i wr => ∃ j : Nat, j ≤ xs.length ∧ i = .int .i64 j ∧ Hid (Own wr w.heap.size 66 6 En.enc v ((xs.take j).map h) ∧ Kp w wr)) (fun _ _ i _ => xs.length - (intOf i).toNat)
 case atStart => exact ⟨0, Nat.zero_le _, rfl, R0⟩
 case round =>
  obtain ⟨j, hj, rfl, R⟩ := hrel
  obtain ⟨Av, cv, hv⟩ := R.out.1.form
  subst hv
  by_cases hlt : j < xs.length
  ·have hj1 : (j : Int) < (xs.length : Int) := by omega
   have hj0 : (0 : Int) ≤ (j : Int) := by omega
   obtain ⟨b, off, hA, s0, s1⟩ := pi_at (HR.out.keep R.out.2) hlt
   subst hA
   have hmap : (xs.take (j + 1)).map h = (xs.take j).map h ++ [h xs[j]] := by rw [List.take_succ_eq_append_getElem hlt, List.map_append]; rfl
   have hmem : xs[j] ∈ xs := List.getElem_mem hlt
   obtain ⟨x, hx⟩ : ∃ x, xs[j] = x := ⟨_, rfl⟩
   rw [hx] at s0 s1 hmap hmem
   obtain ⟨V, hV, kV, BV⟩ := Blk.al1 (w := wr) rfl #[.int .u32 (x.a : Int), .int .i64 x.l] 39
   have y := Blk.f BV rfl
   have hc := HG.out x hmem V (R.out.2.trans kV)
   obtain ⟨z, hz⟩ : ∃ z, h x = z := ⟨_, rfl⟩
   rw [hz] at hc hmap
   have HC := Lib.hid hc
   have HM := Lib.hid hmap
   have hl : ((xs.take j).map h).length = j := by rw [List.length_map, List.length_take]; omega
   have HOV := Lib.hid (R.out.1.keep kV)
   obtain ⟨acc, hacc⟩ : ∃ acc, (xs.take j).map h = acc := ⟨_, rfl⟩
   rw [hacc] at hl HOV HM
   rw [hacc]
   have HKV := Lib.hid (R.out.2.trans kV)
   have HLN := Lib.hid hl
   have hfit : (acc.length + 1) * (32 + 1) ≤ 140737488355328 := by omega
   clear hx hz hc hmap hmem hl kV BV hacc
   go_wp2_with fail
   refine HC.out.mono ?_
   rintro e w1 ⟨rfl, K1⟩
   have HO1 := Lib.hid (HOV.out.keep K1)
   have HK1 := Lib.hid (HKV.out.trans K1)
   have hbase : w.heap.size ≤ w1.heap.size := HK1.out.size
   clear s0 s1 y hV K1
   go_wp2_with (at_builtin; go_must (refine vah EEn rfl _ _ rfl z rfl HO1.out HK1.out (Nat.le_refl _) hbase rfl rfl rfl rfl rfl hfit ?_); intro v3 w3 hown3 hK3 hg3; obtain ⟨A3, c3, rfl⟩ := hown3.form1; have HO3 := Lib.hid hown3; have HK3 := Lib.hid hK3; clear hown3 hK3 hg3)
   go_roundw
   case rel => exact ⟨j + 1, by omega, by go_num, Lib.hid ⟨by rw [HM.out]; exact HO3.out, HK3.out⟩⟩
   case measure => simp [intOf]; omega
  ·obtain rfl : j = xs.length := by omega
   have hlast := R.out
   rw [List.take_length] at hlast
   have hl : ((xs.take xs.length).map h).length = xs.length := by rw [List.take_length, List.length_map]
   rw [hl]
   rw [show (xs.map h).length = xs.length from List.length_map _] at hlast
   have HE := Lib.hid hlast
   clear hlast hl
   go_wp2_with fail
   go_ret
   exact ⟨Av, cv, rfl, by first | exact HE.out.1 | (rw [List.take_length] at HE; exact HE.out.1), HE.out.2⟩
set_option maxRecDepth 100000 in
theorem vhV  (h : (PI × Nat) → PI) (A : Option Addr) (m : Nat) (xs : List (PI × Nat)) (w : World) (hR : Rd w 3 akE A xs) (hg : ∀ x ∈ xs, ∀ W, Kp w W → Calls Tryz.prog 105 #[.agg #[.int .u32 (x.1.a : Int), .int .i64 x.1.l, .int .i64 (x.2 : Nat)]] W fun e w' => e = .returned (.agg #[.int .u32 ((h x).a : Int), .int .i64 (h x).l]) ∧ Kp W w') (hn : xs.length ≤ 900000) :
  Calls Tryz.prog 104 #[.slice A xs.length m, .func (.func 105) #[] #[]] w fun r w' => ∃ A2 m2, r = .returned (.slice A2 xs.length m2) ∧ Own w' w.heap.size 39 2 PI.enc (.slice A2 xs.length m2) (xs.map h) ∧ Kp w w' := by
 have HG := Lib.hid hg
 have HR := Lib.hid hR
 have hcl := vjF
 have R0 : Hid (Own w w.heap.size 39 2 PI.enc (.slice none 0 0) ((xs.take 0).map h) ∧ Kp w w) := Lib.hid ⟨by rw [List.take_zero]; exact Own.nil _ _ _ _ _, Kp.refl _⟩
 clear hg hR
 go_enter Tryz.func104, Tryz.ntmps104
 go_wp2_with fail
 go_loopw [5, 7, 10] (fun v _ i wr => ∃ j : Nat, j ≤ xs.length ∧ i = .int .i64 j ∧ Hid (Own wr w.heap.size 39 2 PI.enc v ((xs.take j).map h) ∧ Kp w wr)) (fun _ _ i _ => xs.length - (intOf i).toNat)
 case atStart => exact ⟨0, Nat.zero_le _, rfl, R0⟩
 case round =>
  obtain ⟨j, hj, rfl, R⟩ := hrel
  obtain ⟨Av, cv, hv⟩ := R.out.1.form
  subst hv
  by_cases hlt : j < xs.length
  ·have hj1 : (j : Int) < (xs.length : Int) := by omega
   have hj0 : (0 : Int) ≤ (j : Int) := by omega
   obtain ⟨b, off, hA, s0, s1, s2⟩ := ak_at (HR.out.keep R.out.2) hlt
   subst hA
   have hmap : (xs.take (j + 1)).map h = (xs.take j).map h ++ [h xs[j]] := by rw [List.take_succ_eq_append_getElem hlt, List.map_append]; rfl
   have hmem : xs[j] ∈ xs := List.getElem_mem hlt
   obtain ⟨x, hx⟩ : ∃ x, xs[j] = x := ⟨_, rfl⟩
   rw [hx] at s0 s1 s2 hmap hmem
   obtain ⟨V, hV, kV, BV⟩ := Blk.al1 (w := wr) rfl #[.int .u32 (x.1.a : Int), .int .i64 x.1.l, .int .i64 (x.2 : Nat)] 116
   have y := Blk.f BV rfl
   have hc := HG.out x hmem V (R.out.2.trans kV)
   obtain ⟨z, hz⟩ : ∃ z, h x = z := ⟨_, rfl⟩
   rw [hz] at hc hmap
   have HC := Lib.hid hc
   have HM := Lib.hid hmap
   have hl : ((xs.take j).map h).length = j := by rw [List.length_map, List.length_take]; omega
   have HOV := Lib.hid (R.out.1.keep kV)
   obtain ⟨acc, hacc⟩ : ∃ acc, (xs.take j).map h = acc := ⟨_, rfl⟩
   rw [hacc] at hl HOV HM
   rw [hacc]
   have HKV := Lib.hid (R.out.2.trans kV)
   have HLN := Lib.hid hl
   have hfit : (acc.length + 1) * (16 + 1) ≤ 140737488355328 := by omega
   clear hx hz hc hmap hmem hl kV BV hacc
   go_wp2_with fail
   refine HC.out.mono ?_
   rintro e w1 ⟨rfl, K1⟩
   have HO1 := Lib.hid (HOV.out.keep K1)
   have HK1 := Lib.hid (HKV.out.trans K1)
   have hbase : w.heap.size ≤ w1.heap.size := HK1.out.size
   clear s0 s1 s2 y hV K1
   go_wp2_with (at_builtin; go_must (refine vah EPfx rfl _ _ rfl z rfl HO1.out HK1.out (Nat.le_refl _) hbase rfl rfl rfl rfl rfl hfit ?_); intro v3 w3 hown3 hK3 hg3; obtain ⟨A3, c3, rfl⟩ := hown3.form1; have HO3 := Lib.hid hown3; have HK3 := Lib.hid hK3; clear hown3 hK3 hg3)
   go_roundw
   case rel => exact ⟨j + 1, by omega, by go_num, Lib.hid ⟨by rw [HM.out]; exact HO3.out, HK3.out⟩⟩
   case measure => simp [intOf]; omega
  ·obtain rfl : j = xs.length := by omega
   have hlast := R.out
   rw [List.take_length] at hlast
   have hl : ((xs.take xs.length).map h).length = xs.length := by rw [List.take_length, List.length_map]
   rw [hl]
   rw [show (xs.map h).length = xs.length from List.length_map _] at hlast
   have HE := Lib.hid hlast
   clear hlast hl
   go_wp2_with fail
   go_ret
   exact ⟨Av, cv, rfl, by first | exact HE.out.1 | (rw [List.take_length] at HE; exact HE.out.1), HE.out.2⟩
theorem EBs : ElemOf Tryz.prog 59 64 (.slice none 0 0) 1 24 := ⟨Tryz.underlying59, by kernel_rfl, rfl, by decide⟩
set_option maxRecDepth 100000 in
theorem vhW (c : Int) (A : Option Addr) (m : Nat) (es : List En) (w : World) (hW : WidAt w) (hR : Rd w 6 En.enc A es) (hw : ∀ e ∈ es, e.wf) (hn : es.length ≤ 1000000) (he : encN c es = 0) :
  Calls Tryz.prog 127 #[dgV c A es.length m] w fun r w' => ∃ A2 m2, r = .returned (.slice A2 (bytesD c es).length m2) ∧ Own w' w.heap.size 5 1 byN (.slice A2 (bytesD c es).length m2) (bytesD c es) ∧ Kp w w' := by
 obtain ⟨b, hb⟩ : ∃ b, w.heap.size = b := ⟨_, rfl⟩
 obtain ⟨W, hWq, kW, B0⟩ := Blk.al1 hb #[.int .i64 c, .slice A es.length m] 30
 have u := Blk.f B0 rfl
 have HX := Lib.hid (vdc c A m es W (hW.keep kW) (hR.keep kW) hw hn)
 have HE := Lib.hid he
 have HK := Lib.hid kW
 unfold EncP at HX
 rw [he] at HX
 clear hW hR hw he B0 kW
 go_enter Tryz.func127, Tryz.ntmps127
 go_wp2_with fail
 refine HX.out.mono ?_
 rintro r w1 ⟨v, rfl, hO, -, K1⟩
 obtain ⟨A2, m2, hv⟩ := (hO trivial).form
 subst hv
 have HO := Lib.hid ((hO trivial).mono HK.out.size)
 have HK1 := Lib.hid (HK.out.trans K1)
 clear hO K1
 go_wp2_with fail
 go_ret
 exact ⟨A2, m2, rfl, HO.out, HK1.out⟩
end

end Go.Proofs.YtgopnfacklmkaaaGreatDoor
namespace Go.Proofs
open Go.Shelf
def Tryz.sortH_ren : Go.Shelf.Ren := ⟨fun | 6 => 150 | 15 => 207 | 14 => 206 | 28 => 273 | 29 => 274 | 20 => 265 | 21 => 266 | 22 => 267 | 23 => 268 | 24 => 269 | 25 => 270 | 26 => 271 | 27 => 272 | 46 => 305 | 47 => 306 | 48 => 307 | 49 => 308 | 50 => 309 | 57 => 328 | n => n, fun | 22 => 171 | 24 => 132 | 25 => 264 | 3 => 3 | 39 => 136 | 0 => 0 | 53 => 36 | 55 => 395 | 4 => 4 | 46 => 389 | 45 => 388 | 50 => 179 | 5 => 5 | 9 => 9 | 66 => 425 | 70 => 429 | 76 => 443 | 77 => 202 | n => n, fun | n => n⟩
theorem Tryz.sortH : Go.Proofs.SlLaysF0.n6 Tryz.prog Tryz.sortH_ren := {
 mixed := by kernel_rfl
 f6 := ⟨Tryz.f150.name, by decide, Tryz.func150.trans (congrArg some (by kernel_rfl))⟩
 f14 := ⟨Tryz.f206.name, by decide, Tryz.func206.trans (congrArg some (by kernel_rfl))⟩
 f15 := Tryz.func207.trans (congrArg some (by kernel_rfl))
 f20 := ⟨Tryz.f265.name, by decide, Tryz.func265.trans (congrArg some (by kernel_rfl))⟩
 f21 := ⟨Tryz.f266.name, by decide, Tryz.func266.trans (congrArg some (by kernel_rfl))⟩
 f22 := ⟨Tryz.f267.name, by decide, Tryz.func267.trans (congrArg some (by kernel_rfl))⟩
 f23 := ⟨Tryz.f268.name, by decide, Tryz.func268.trans (congrArg some (by kernel_rfl))⟩
 f24 := ⟨Tryz.f269.name, by decide, Tryz.func269.trans (congrArg some (by kernel_rfl))⟩
 f25 := ⟨Tryz.f270.name, by decide, Tryz.func270.trans (congrArg some (by kernel_rfl))⟩
 f26 := ⟨Tryz.f271.name, by decide, Tryz.func271.trans (congrArg some (by kernel_rfl))⟩
 f27 := ⟨Tryz.f272.name, by decide, Tryz.func272.trans (congrArg some (by kernel_rfl))⟩
 f28 := Tryz.func273.trans (congrArg some (by kernel_rfl))
 f29 := Tryz.func274.trans (congrArg some (by kernel_rfl))
 f46 := ⟨Tryz.f305.name, by decide, Tryz.func305.trans (congrArg some (by kernel_rfl))⟩
 f47 := Tryz.func306.trans (congrArg some (by kernel_rfl))
 f48 := Tryz.func307.trans (congrArg some (by kernel_rfl))
 f49 := ⟨Tryz.f308.name, by decide, Tryz.func308.trans (congrArg some (by kernel_rfl))⟩
 f50 := ⟨Tryz.f309.name, by decide, Tryz.func309.trans (congrArg some (by kernel_rfl))⟩
 f57 := ⟨Tryz.f328.name, by decide, Tryz.func328.trans (congrArg some (by kernel_rfl))⟩
 t0 := Tryz.underlying0
 a0 := Tryz.isAgg0
 z0 := Tryz.sizeOf0
 v0 := Tryz.zeroValue0
 t3 := Tryz.underlying3
 a3 := Tryz.isAgg3
 z3 := Tryz.sizeOf3
 v3 := Tryz.zeroValue3
 t4 := Tryz.underlying4
 a4 := Tryz.isAgg4
 z4 := Tryz.sizeOf4
 v4 := Tryz.zeroValue4
 t5 := Tryz.underlying5
 a5 := Tryz.isAgg5
 z5 := Tryz.sizeOf5
 v5 := Tryz.zeroValue5
 t9 := Tryz.underlying9
 a9 := Tryz.isAgg9
 z9 := Tryz.sizeOf9
 v9 := Tryz.zeroValue9
 t22 := Tryz.underlying171
 a22 := Tryz.isAgg171
 z22 := Tryz.sizeOf171
 v22 := Tryz.zeroValue171
 t25 := Tryz.underlying264
 a25 := Tryz.isAgg264
 z25 := Tryz.sizeOf264
 v25 := Tryz.zeroValue264
 t39 := Tryz.underlying136
 a39 := Tryz.isAgg136
 z39 := Tryz.sizeOf136
 v39 := Tryz.zeroValue136
 t45 := Tryz.underlying388
 a45 := Tryz.isAgg388
 z45 := Tryz.sizeOf388
 v45 := Tryz.zeroValue388
 t46 := Tryz.underlying389
 a46 := Tryz.isAgg389
 z46 := Tryz.sizeOf389
 v46 := Tryz.zeroValue389
 t50 := Tryz.underlying179
 a50 := Tryz.isAgg179
 z50 := Tryz.sizeOf179
 v50 := Tryz.zeroValue179
 t53 := Tryz.underlying36
 a53 := Tryz.isAgg36
 z53 := Tryz.sizeOf36
 v53 := Tryz.zeroValue36
 t55 := Tryz.underlying395
 a55 := Tryz.isAgg395
 z55 := Tryz.sizeOf395
 v55 := Tryz.zeroValue395
 t66 := Tryz.underlying425
 a66 := Tryz.isAgg425
 z66 := Tryz.sizeOf425
 v66 := Tryz.zeroValue425
 t70 := Tryz.underlying429
 a70 := Tryz.isAgg429
 z70 := Tryz.sizeOf429
 v70 := Tryz.zeroValue429
 t76 := Tryz.underlying443
 a76 := Tryz.isAgg443
 z76 := Tryz.sizeOf443
 v76 := Tryz.zeroValue443
 t77 := Tryz.underlying202
 a77 := Tryz.isAgg202
 z77 := Tryz.sizeOf202
 v77 := Tryz.zeroValue202 }
end Go.Proofs
namespace Go.Proofs.YtgopnfacklmkaaaGreatDoor

end Go.Proofs.YtgopnfacklmkaaaGreatDoor
