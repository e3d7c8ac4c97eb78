/- Lemmas and contracts for the theorem of this claim: LwF, LwG, HdA, AcM, Op12. -/
import Derived.Test.YtffckpkikdlbpaaGreatDoorZvBm
import Derived.ChangeArms
set_option linter.all false
set_option maxHeartbeats 16000000
namespace Go.Proofs.YtffckpkikdlbpaaGreatDoor
section
open Go.RowKit
set_option maxRecDepth 100000 in
theorem vhA (A B : Option Addr) (c d : Nat) (ps : List PI) (w : World) (hR : Rd w 2 PI.enc A ps) (hQ : Rd w 2 PI.enc B ps) (hn : ps.length ≤ 1000000) :
  Calls Tryz.prog 78 #[.slice A ps.length c, .slice B ps.length d] w fun e w' => e = .returned (.bool true) ∧ Kp w w' := by
 have HR := Lib.hid hR
 have HQ := Lib.hid hQ
 clear hR hQ
 go_enter Tryz.func78, Tryz.ntmps78
 go_wp2_with fail
 go_loopw [5] (fun i wr => ∃ k : Nat, k ≤ ps.length ∧ i = .int .i64 k ∧ Kp w wr) (fun i _ => ps.length - (intOf i).toNat)
 case atStart => exact ⟨0, Nat.zero_le _, rfl, Kp.refl _⟩
 case round =>
  obtain ⟨k, hk, rfl, hK⟩ := hrel
  by_cases hlt : k < ps.length
  ·have hgi : (k : Int) < (ps.length : Int) := by omega
   have hg0 : (0 : Int) ≤ (k : Int) := by omega
   obtain ⟨b, off, rfl, c0, c1⟩ := pi_at (HR.out.keep hK) hlt
   obtain ⟨b', off', rfl, d0, d1⟩ := pi_at (HQ.out.keep hK) hlt
   have hne := fun u => vgv u (ps[k].a : Int) ps[k].l (ps[k].a : Int) ps[k].l
   simp only [vgw, decide_true] at hne
   go_wp2_with fail
   go_quiet (fail)
   go_wp2_with fail
   go_roundw
   case rel => exact ⟨k + 1, by omega, by go_num, hK.drewN _⟩
   case measure => simp [intOf]; omega
  ·obtain rfl : k = ps.length := by omega
   go_wp2_with fail
   go_ret
   exact ⟨rfl, hK⟩
set_option maxRecDepth 100000 in
theorem vfg (c : Cf) (w : World) : (Op.equalIn 10000 95 (.agg #[.int .i64 c.t0, .int .i64 c.t1, .int .i64 c.t2, .int .i64 c.t3, .int .i64 c.t4, .int .i64 c.t5, .int .i64 c.t6]) (.agg #[.int .i64 c.t0, .int .i64 c.t1, .int .i64 c.t2, .int .i64 c.t3, .int .i64 c.t4, .int .i64 c.t5, .int .i64 c.t6])).run Tryz.prog w = .ok true w := by
 obtain ⟨i, hi⟩ : ∃ i, Tryz.prog.info? 2 = some i := Option.isSome_iff_exists.1 (by kernel_rfl)
 have hc : Tryz.prog.cellsOf 2 = 1 := by kernel_rfl
 rw [run_equalIn_array w 9999 _ _ Tryz.underlying95 hi, hc]
 simp [Op.eqItems, List.range_succ, part, go_sem, Tryz.underlying2]
set_option maxRecDepth 100000 in
theorem vjq (c : Cf) (w : World) : (binOp .eql 95 (.agg #[.int .i64 c.t0, .int .i64 c.t1, .int .i64 c.t2, .int .i64 c.t3, .int .i64 c.t4, .int .i64 c.t5, .int .i64 c.t6]) (.agg #[.int .i64 c.t0, .int .i64 c.t1, .int .i64 c.t2, .int .i64 c.t3, .int .i64 c.t4, .int .i64 c.t5, .int .i64 c.t6])).run Tryz.prog w = .ok (.bool true) w := by
 rw [run_eql_struct, vfg]
 rfl
set_option maxRecDepth 100000 in
theorem vcG (c : Cf) (A : Option Addr) (n m : Nat) (w : World) : Calls Tryz.prog 48 #[cfV c A n m] w fun e w' => e = .returned (.agg #[.int .i64 c.t0, .int .i64 c.t1, .int .i64 c.t2, .int .i64 c.t3, .int .i64 c.t4, .int .i64 c.t5, .int .i64 c.t6]) ∧ Kp w w' := by
 go_enter Tryz.func48, Tryz.ntmps48
 go_wp2_with fail
 have B1 := Blk.new1 w (.cells (cfC c A n m) 24) 95 #[.int .i64 c.t0, .int .i64 c.t1, .int .i64 c.t2, .int .i64 c.t3, .int .i64 c.t4, .int .i64 c.t5, .int .i64 c.t6]
 have K1 : Kp w ((w.alloc (.cells (cfC c A n m) 24)).alloc (.cells #[.int .i64 c.t0, .int .i64 c.t1, .int .i64 c.t2, .int .i64 c.t3, .int .i64 c.t4, .int .i64 c.t5, .int .i64 c.t6] 95)) := ((Kp.refl _).alloc _).alloc _
 unfold cfC at B1 K1
 revert B1 K1
 generalize (w.alloc (.cells _ 24)).alloc (.cells _ 95) = X
 intro B1 K1
 obtain ⟨y0, y1, y2, y3, y4, y5, y6⟩ := Blk.p7 B1
 refine bodyPost_ret (v := .agg #[.int .i64 c.t0, .int .i64 c.t1, .int .i64 c.t2, .int .i64 c.t3, .int .i64 c.t4, .int .i64 c.t5, .int .i64 c.t6]) ?_ rfl ⟨rfl, K1⟩
 clear B1 K1
 simp [results, Tryz.results48, go_sem, y0, y1, y2, y3, y4, y5, y6]
set_option maxRecDepth 100000 in
theorem vbJ (c : Cf) (A A2 : Option Addr) (m m2 : Nat) (w : World) (hS : Rd w 2 PI.enc A c.own) (hQ : Rd w 2 PI.enc A2 c.own) (hn : c.own.length ≤ 1000000) :
  Calls Tryz.prog 35 #[cfV c A c.own.length m, cfV c A2 c.own.length m2] w fun e w' => e = .returned (.bool true) ∧ Kp w w' := by
 obtain ⟨b, hb⟩ : ∃ b, w.heap.size = b := ⟨_, rfl⟩
 obtain ⟨W, hW, kW, B0, B1⟩ := Blk.al2 hb (cfC c A c.own.length m) 24 (cfC c A2 c.own.length m2) 24
 have HS := Lib.hid (hS.keep kW)
 have HQ := Lib.hid (hQ.keep kW)
 unfold cfC at hW
 clear hS hQ
 go_enter Tryz.func35, Tryz.ntmps35
 go_upto_region 1 with (fail)
 try rw [hb, hW]
 clear hW hb
 have B0 := Lib.hid B0
 have B1 := Lib.hid B1
 refine' vag (fun (_ : Unit) _ V9 => Kp _ V9) [5, 6, 7, 8, 9, 10, 11, 12, 13, 14, 15, 16, 17, 18, 19, 20, 21, 22, 23, 4] (fun (_ : Unit) => [.agg #[.int .i64 c.t0, .int .i64 c.t1, .int .i64 c.t2, .int .i64 c.t3, .int .i64 c.t4, .int .i64 c.t5, .int .i64 c.t6, .int .i64 c.cap, .slice A c.own.length m], .agg #[.int .i64 c.t0, .int .i64 c.t1, .int .i64 c.t2, .int .i64 c.t3, .int .i64 c.t4, .int .i64 c.t5, .int .i64 c.t6], .agg #[.int .i64 c.t0, .int .i64 c.t1, .int .i64 c.t2, .int .i64 c.t3, .int .i64 c.t4, .int .i64 c.t5, .int .i64 c.t6, .int .i64 c.cap, .slice A2 c.own.length m2], .agg #[.int .i64 c.t0, .int .i64 c.t1, .int .i64 c.t2, .int .i64 c.t3, .int .i64 c.t4, .int .i64 c.t5, .int .i64 c.t6], .bool true, .bool true, .pointer (some ⟨b, 7, none⟩), .int .i64 c.cap, .pointer (some ⟨b + 1, 7, none⟩), .int .i64 c.cap, .bool true, .bool true, .bool true, .pointer (some ⟨b, 8, none⟩), .slice A c.own.length m, .pointer (some ⟨b + 1, 8, none⟩), .slice A2 c.own.length m2, .bool true, .bool true, .bool true]) (List.replicate 20 true) [] (by kernel_rfl) (by kernel_rfl) (fun _ => rfl) (fun _ => rfl) (fun _ => rfl) () (Kp.refl _).drew (fun _ _ _ _ _ h => h) ?_ ?_ ?_
 rotate_left
 ·intro z; simp only [List.zip_cons_cons, List.zip_nil_right, wrC, wrN, List.set_cons_zero, List.set_cons_succ, List.set_nil]; rfl
 ·repeat' (first | refine And.intro ?_ ?_ | exact trivial)
  all_goals intro z L a w9 hLi d hcl hM hO K hK
  all_goals try (go_simp; exact hK z _ _ (hO rfl) (fun _ _ => rfl) rfl)
  ·have c0 := Blk.f (B0.out.keep hM) rfl
   go_simp
   exact hK z _ _ (hO rfl) (fun _ _ => rfl) rfl
  ·go_simp
   refine (vcG c A c.own.length m _).mono ?_
   rintro e wa ⟨rfl, hKc⟩
   exact hK z _ _ (hM.trans hKc) (fun _ _ => rfl) rfl
  ·have c0 := Blk.f (B1.out.keep hM) rfl
   go_simp
   exact hK z _ _ (hO rfl) (fun _ _ => rfl) rfl
  ·go_simp
   refine (vcG c A2 c.own.length m2 _).mono ?_
   rintro e wa ⟨rfl, hKc⟩
   exact hK z _ _ (hM.trans hKc) (fun _ _ => rfl) rfl
  ·have q9 := vjq c w9
   have q8 := vfg c w9
   go_simp
   exact hK z _ _ (hO rfl) (fun _ _ => rfl) rfl
  ·have c7 := Blk.f (B0.out.keep hM) rfl
   go_simp
   exact hK z _ _ (hO rfl) (fun _ _ => rfl) rfl
  ·have c7 := Blk.f (B1.out.keep hM) rfl
   go_simp
   exact hK z _ _ (hO rfl) (fun _ _ => rfl) rfl
  ·have c8 := Blk.f (B0.out.keep hM) rfl
   go_simp
   exact hK z _ _ (hO rfl) (fun _ _ => rfl) rfl
  ·have c8 := Blk.f (B1.out.keep hM) rfl
   go_simp
   exact hK z _ _ (hO rfl) (fun _ _ => rfl) rfl
  ·go_simp
   refine (vhA A A2 m m2 c.own _ (HS.out.keep hM) (HQ.out.keep hM) hn).mono ?_
   rintro e wa ⟨rfl, hKc⟩
   exact hK z _ _ (hM.trans hKc) (fun _ _ => rfl) rfl
 intro z L w9 hL KV
 (try simp only [Exit.then])
 go_wp2_with fail
 go_ret
 exact ⟨rfl, kW.trans KV⟩
end

section
open Go.RowKit Go.Maps
structure Ac where
 wh : Int
 fc : Int
 p : PI
 h : Hd
 more : Int
 la : Bool
def acC (x : Ac) : Array Value := #[.int .i64 x.wh, .int .i64 x.fc, .int .u32 (x.p.a : Int), .int .i64 x.p.l, .int .i64 x.h.f, .int .u32 (x.h.a : Int), .int .i64 x.h.m, .int .i64 x.more, .bool x.la]
attribute [local go_sem] Oper.semAt_some
theorem vet (c : Cf) (A : Option Addr) (n m : Nat) (w : World) : Calls Tryz.prog 9 #[cfV c A n m] w fun e w' => e = .returned (.bool (decide ((n : Int) ≤ 20))) ∧ Kp w w' := by
 have B := Blk.new w 24 (cfC c A n m)
 have s8 : (w.alloc (.cells (cfC c A n m) 24)).cell? ⟨w.heap.size, 8, none⟩ = some (.slice A n m) := B.cell 8
 unfold cfC at s8
 clear B
 go_enter Tryz.func9, Tryz.ntmps9
 go_wp2_with fail
 go_ret
 exact ⟨rfl, (Kp.refl _).alloc _⟩
def atV (x : Ac) (now : Int) : Int := if x.la = true ∧ 0 ≤ x.more ∧ x.more ≤ 1000 ∧ now < 2305843009213693952 then now + x.more else x.more
set_option maxRecDepth 100000 in
theorem vnK (x : Ac) (now : Int) (w : World) (hn : 0 ≤ now) : Calls Tryz.prog 21 #[.agg (acC x), .int .i64 now] w fun e w' => e = .returned (.int .i64 (atV x now)) ∧ Kp w w' := by
 have B := Blk.new w 33 (acC x)
 obtain ⟨b, hb⟩ : ∃ b, w.heap.size = b := ⟨_, rfl⟩
 obtain ⟨W, hW, kW, p7, p8⟩ : ∃ W, w.alloc (.cells (acC x) 33) = W ∧ Kp w W ∧ W.cell? ⟨b, 7, none⟩ = some (.int .i64 x.more) ∧ W.cell? ⟨b, 8, none⟩ = some (.bool x.la) := ⟨_, rfl, (Kp.refl _).alloc _, by rw [← hb]; exact B.cell 7, by rw [← hb]; exact B.cell 8⟩
 clear B
 unfold acC at hW ⊢
 have HN := Lib.hid hn
 clear hn
 cases hl : x.la with
 | false =>
  rw [hl] at p8 hW
  have H := Lib.hid (show atV x now = x.more by unfold atV; rw [hl, if_neg (by simp)])
  clear hl
  go_enter Tryz.func21, Tryz.ntmps21
  go_wp2_with fail
  go_ret
  exact ⟨by rw [H.out]; rfl, kW⟩
 | true =>
  rw [hl] at p8 hW
  by_cases h0 : 0 ≤ x.more
  ·have d0 : decide (0 ≤ x.more) = true := decide_eq_true h0
   by_cases h1 : x.more ≤ 1000
   ·have d1 : decide (x.more ≤ 1000) = true := decide_eq_true h1
    by_cases h2 : now < 2305843009213693952
    ·have d2 : decide (now < 2305843009213693952) = true := decide_eq_true h2
     have H := Lib.hid (show atV x now = now + x.more by unfold atV; rw [hl, if_pos ⟨rfl, h0, h1, h2⟩])
     have n1 : -9223372036854775808 ≤ now + x.more := by have := HN.out; omega
     have n2 : now + x.more ≤ 9223372036854775807 := by omega
     clear hl h0 h1 h2
     go_enter Tryz.func21, Tryz.ntmps21
     go_wp2_with fail
     go_ret
     exact ⟨by rw [H.out]; rfl, kW⟩
    ·have d2 : decide (now < 2305843009213693952) = false := decide_eq_false h2
     have H := Lib.hid (show atV x now = x.more by unfold atV; rw [if_neg (fun z => h2 z.2.2.2)])
     clear hl h0 h1 h2
     go_enter Tryz.func21, Tryz.ntmps21
     go_wp2_with fail
     go_ret
     exact ⟨by rw [H.out]; rfl, kW⟩
   ·have d1 : decide (x.more ≤ 1000) = false := decide_eq_false h1
    have H := Lib.hid (show atV x now = x.more by unfold atV; rw [if_neg (fun z => h1 z.2.2.1)])
    clear hl h0 h1
    go_enter Tryz.func21, Tryz.ntmps21
    go_wp2_with fail
    go_ret
    exact ⟨by rw [H.out]; rfl, kW⟩
  ·have d0 : decide (0 ≤ x.more) = false := decide_eq_false h0
   have H := Lib.hid (show atV x now = x.more by unfold atV; rw [if_neg (fun z => h0 z.2.1)])
   clear hl h0
   go_enter Tryz.func21, Tryz.ntmps21
   go_wp2_with fail
   go_ret
   exact ⟨by rw [H.out]; rfl, kW⟩
def GI (w0 ws : World) (s : Nat) (L : List Rt) (k : Nat) (W : World) : Prop := ∃ v, Blk W s 37 #[v] ∧ Own W (ws.heap.size + 1 + 1) 48 9 Rt.enc v (L.take k) ∧ Only [s] ws W ∧ Kp w0 W
theorem GI.only {w0 ws W W' : World} {s k : Nat} {L : List Rt} {bs : List Nat} (h : GI w0 ws s L k W) (k' : Only bs W W') (hb : ∀ b ∈ bs, ws.heap.size ≤ b ∧ b < ws.heap.size + 1 + 1) (hs : s < ws.heap.size) (h0 : w0.heap.size ≤ s) : GI w0 ws s L k W' := by
 obtain ⟨v, h1, h2, h3, h4⟩ := h
 exact ⟨v, h1.only k' (fun z => by have := hb s z; omega), h2.only k' (fun b z => (hb b z).2), h3.over (F1 := [s] ++ bs) (fun b z => by
  rcases List.mem_append.1 z with z | z
  ·exact .inl z
  ·exact .inr (hb b z).1) (k'.more (fun b z => List.mem_append.2 (.inr z))), k'.kp h4 (fun b z => by have := hb b z; omega)⟩
theorem GI.keep {w0 ws W W' : World} {s k : Nat} {L : List Rt} (h : GI w0 ws s L k W) (k' : Kp W W') (hs : s < ws.heap.size) (h0 : w0.heap.size ≤ s) : GI w0 ws s L k W' := h.only (bs := []) (Only.of_kp k') (by simp) hs h0
theorem vgx {F : List Nat} {W W' : World} {g : Nat} {Y : TypeId} {cs1 : Array Value} {P P2 : World → Prop} (h3 : ∀ V, Only F W V → P V) (hB : ∀ V, P V → ∃ cs, Blk V g Y cs) (hP : ∀ V V', P V → Only [g] V V' → Blk V' g Y cs1 → P2 V') (k : Only [g] W W') (B1 : Blk W' g Y cs1) : g ∉ F ∧ ∀ V, Only F W' V → P2 V := by
 obtain ⟨cs0, B0⟩ := hB W (h3 W (Only.refl _ _))
 have hg : g ∉ F := fun hg => by
  obtain ⟨cs, hb⟩ := hB _ (h3 (W.putObj g (.deferred none)) ((Only.refl F W).putObj hg _))
  have h2 : (W.putObj g (.deferred none)).heap[g]? = some (.deferred none) := World.putObj_heap_same B0.lt
  unfold Blk at hb
  rw [h2] at hb
  cases hb
 refine ⟨hg, fun V hV => ?_⟩
 have BV : Blk V g Y cs1 := (hV.block g B1.lt hg).trans B1
 have e0 : ∀ i, i ≠ g → (V.putObj g (.cells cs0 Y (0, 0))).heap[i]? = V.heap[i]? := fun i hi => World.putObj_heap_other hi
 have e1 : (V.putObj g (.cells cs0 Y (0, 0))).heap[g]? = some (.cells cs0 Y (0, 0)) := World.putObj_heap_same BV.lt
 have o1 : Only F W (V.putObj g (.cells cs0 Y (0, 0))) := by
  refine ⟨hV.os.trans k.os, hV.tape.trans k.tape, hV.output.trans k.output, ?_, fun i hi hn => ?_⟩
  ·have := hV.size
   have := k.size
   simp only [World.putObj, Array.size_setIfInBounds]
   omega
  ·by_cases e : i = g
   ·subst e
    exact e1.trans B0.symm
   ·rw [e0 i e, hV.block i (Nat.lt_of_lt_of_le hi k.size) hn]
    exact k.block i hi (by simpa using e)
 have o2 : Only [g] (V.putObj g (.cells cs0 Y (0, 0))) V := ⟨rfl, rfl, rfl, by simp [World.putObj], fun i _ hn => (e0 i (by simpa using hn)).symm⟩
 exact hP _ V (h3 _ o1) o2 BV
structure Moves (w0 : World) (S : Nat → Tb → (World → Prop) → World → Prop) : Prop where
 kp : ∀ {t T P W}, S t T P W → Kp w0 W
 good : ∀ {t T P W}, S t T P W → Good T
 tab : ∀ {t T P W}, S t T P W → ∃ B F, TabM W B t F T
 p : ∀ {t T P W}, S t T P W → P W
 keep : ∀ {t T P W W'}, S t T P W → Kp W W' → S t T P W'
 imp : ∀ {t T P Q W}, S t T P W → (∀ V, P V → Q V) → S t T Q W
 wide : ∀ {t T P W W' bs}, S t T P W → Kp W W' → (∀ b ∈ bs, W.heap.size ≤ b) → ∀ Q : World → Prop, (∀ V, (∀ b, W.heap.size ≤ b → b < W'.heap.size → V.heap[b]? = W'.heap[b]?) → Q V) → S t T (fun V => (∀ V', Only bs V V' → P V') ∧ Q V) W'
 put : ∀ {t T P P2 W W' g Y cs}, S t T P W → Y ≠ 29 → w0.heap.size ≤ g → (∀ V, P V → ∃ cs, Blk V g Y cs) → (∀ V V', P V → Only [g] V V' → Blk V' g Y cs → P2 V') → Only [g] W W' → Blk W' g Y cs → S t T P2 W'
 hear : ∀ {t T P W}, S t T P W → ∀ (p : PI) (h : Hd) (now : Int), wfP p → h.a < 4294967296 → Calls Tryz.prog 23 #[.pointer (some ⟨t, 0, none⟩), pfV p, .agg #[.int .i64 h.f, .int .u32 (h.a : Int), .int .i64 h.m], .int .i64 now] W fun e W' => e = .returned (.tuple #[roV (heardT T p h now).2.1, .int .i64 (heardT T p h now).2.2]) ∧ S t (heardT T p h now).1 P W'
 lose : ∀ {t T P W}, S t T P W → ∀ f now : Int, Calls Tryz.prog 26 #[.pointer (some ⟨t, 0, none⟩), .int .i64 f, .int .i64 now] W fun e W' => e = .returned (.tuple #[.int .i64 (lostT T f now).2.1, .int .i64 (lostT T f now).2.2]) ∧ S t (lostT T f now).1 P W'
 exp : ∀ {t T P W}, S t T P W → ∀ now : Int, Calls Tryz.prog 27 #[.pointer (some ⟨t, 0, none⟩), .int .i64 now] W fun e W' => e = .returned (.tuple #[.int .i64 (expT T now).2.1, .int .i64 (expT T now).2.2]) ∧ S t (expT T now).1 P W'
 seen : ∀ {t T P W}, S t T P W → Calls Tryz.prog 29 #[.pointer (some ⟨t, 0, none⟩)] W fun e W' => e = .returned (.int .i64 (seenT T).2) ∧ S t (seenT T).1 P W'
 copy : ∀ {t T P W}, S t T P W → Calls Tryz.prog 19 #[.pointer (some ⟨t, 0, none⟩)] W fun e W' => ∃ u, e = .returned (.pointer (some ⟨u, 0, none⟩)) ∧ S u T P W'
theorem Only.over2 {F bs : List Nat} {w w1 w2 w3 : World} (k : Kp w w1) (h : Only F w1 w2) (h2 : Only bs w2 w3) (hb : ∀ b ∈ bs, w.heap.size ≤ b) : Only F w w3 := by
 have h1 : Only F w w2 := (Only.of_kp k).over (fun b hb => .inl hb) h
 exact h1.over (fun b z => .inr (hb b z)) h2
theorem TQ.moves (w0 : World) : Moves w0 (fun t T P W => ∃ B, TQ w0 W B t T P) where
 kp := fun ⟨_, S⟩ => S.kp
 good := fun ⟨_, S⟩ => S.gd
 tab := fun ⟨B, S⟩ => ⟨B, S.tab⟩
 p := fun ⟨_, S⟩ => S.p
 keep := fun ⟨B, S⟩ k => ⟨B, S.keep k⟩
 imp := fun ⟨B, S⟩ h => ⟨B, S.imp h⟩
 wide := fun ⟨B, S⟩ k hb Q hQ => by
  obtain ⟨F, h1, h2, h3⟩ := S.tm
  refine ⟨B, S.kp.trans k, S.lb, ⟨F, h1.keep k, h2.keep k, fun V hV => ⟨fun V' hV' => h3 V' (Only.over2 k hV hV' hb), hQ V (fun b hb hl => hV.block b hl (fun z => ?_))⟩⟩, S.gd, S.ca, S.fa⟩
  have := (h1.lo b z).2
  omega
 put := fun {t T P P2 W W' g Y cs0} ⟨B, S⟩ hY hg hB hP k hB' => by
  obtain ⟨F, h1, h2, h3⟩ := S.tm
  obtain ⟨hn, h4⟩ := vgx h3 hB hP k hB'
  obtain ⟨cs, B0⟩ := hB _ (h3 _ (Only.refl _ _))
  refine ⟨B, k.kp S.kp (by simpa using hg), S.lb, ⟨F, h1.by_ k (by simpa using hn) (fun b hb => ?_), h2.only k (fun b hb z => hn ?_), h4⟩, S.gd, S.ca, S.fa⟩
  ·have e : b = g := by simpa using hb
   subst e
   exact NoPre.of_blk B0 hY
  ·have e : b = g := by simpa using z
   subst e
   exact hb
 hear := fun ⟨B, S⟩ p h now hp hh => (vng w0 _ B _ _ _ S p h now hp hh).mono (fun _ _ z => ⟨z.1, B, z.2⟩)
 lose := fun ⟨B, S⟩ f now => (vnh w0 _ B _ _ _ S f now).mono (fun _ _ z => ⟨z.1, B, z.2⟩)
 exp := fun ⟨B, S⟩ now => (vnH w0 _ B _ _ _ S now).mono (fun _ _ z => ⟨z.1, B, z.2⟩)
 seen := fun ⟨B, S⟩ => (vni w0 _ B _ _ _ S).mono (fun _ _ z => ⟨z.1, B, z.2⟩)
 copy := fun ⟨B, S⟩ => (vjp w0 _ B _ _ _ S).mono (fun _ _ ⟨u, e, h, _⟩ => ⟨u, e, _, h.snd⟩)
theorem TT.moves (w0 : World) (C u : Nat) (U : Tb) : Moves w0 (fun t T P W => ∃ B, TT w0 W B t T C u U P) where
 kp := fun ⟨_, S⟩ => S.kp
 good := fun ⟨_, S⟩ => S.gt
 tab := fun ⟨B, S⟩ => ⟨B, S.fst.tab⟩
 p := fun ⟨_, S⟩ => S.p
 keep := fun ⟨B, S⟩ k => ⟨B, S.keep k⟩
 imp := fun ⟨B, S⟩ h => ⟨B, S.imp h⟩
 wide := fun ⟨B, S⟩ k hb Q hQ => by
  obtain ⟨F, G, h1, h2, h3, h4, h5, h6⟩ := S.tm
  refine ⟨B, S.kp.trans k, S.lb, S.lc, ⟨F, G, h1.keep k, h2.keep k, h3.keep k, h4.keep k, h5, fun V hV => ⟨fun V' hV' => h6 V' (Only.over2 k hV hV' hb), hQ V (fun b hb hl => hV.block b hl (fun z => ?_))⟩⟩, S.gt, S.gu, S.ca, S.fa⟩
  rcases List.mem_append.1 z with z | z
  ·have := (h1.lo b z).2
   omega
  ·have := (h2.lo b z).2
   omega
 put := fun {t T P P2 W W' g Y cs0} ⟨B, S⟩ hY hg hB hP k hB' => by
  obtain ⟨F, G, h1, h2, h3, h4, h5, h6⟩ := S.tm
  obtain ⟨hn, h7⟩ := vgx h6 hB hP k hB'
  obtain ⟨cs, B0⟩ := hB _ (h6 _ (Only.refl _ _))
  have hN : NoPre W [g] := fun b hb => by
   have e : b = g := by simpa using hb
   subst e
   exact NoPre.of_blk B0 hY
  have hf : ∀ b ∈ [g], b ∉ F := fun b hb z => by
   have e : b = g := by simpa using hb
   subst e
   exact hn (List.mem_append.2 (.inl z))
  have hg2 : ∀ b ∈ [g], b ∉ G := fun b hb z => by
   have e : b = g := by simpa using hb
   subst e
   exact hn (List.mem_append.2 (.inr z))
  exact ⟨B, k.kp S.kp (by simpa using hg), S.lb, S.lc, ⟨F, G, h1.by_ k hf hN, h2.by_ k hg2 hN, h3.only k (fun b hb z => hf b z hb), h4.only k (fun b hb z => hg2 b z hb), h5, h7⟩, S.gt, S.gu, S.ca, S.fa⟩
 hear := fun ⟨B, S⟩ p h now hp hh => (vnj w0 _ B _ C u _ U _ S p h now hp hh).mono (fun _ _ z => ⟨z.1, B, z.2⟩)
 lose := fun ⟨B, S⟩ f now => (vnk w0 _ B _ C u _ U _ S f now).mono (fun _ _ z => ⟨z.1, B, z.2⟩)
 exp := fun ⟨B, S⟩ now => (vnI w0 _ B _ C u _ U _ S now).mono (fun _ _ z => ⟨z.1, B, z.2⟩)
 seen := fun ⟨B, S⟩ => (vnl w0 _ B _ C u _ U _ S).mono (fun _ _ z => ⟨z.1, B, z.2⟩)
 copy := fun {t T P W} ⟨B, S⟩ => by
  have hl := S.fst.len_own
  have gt := S.gt
  have S2 := S.snd
  obtain ⟨F, hT⟩ := S.fst.tab
  refine (vfc B t F T W hT (by omega)).mono ?_
  rintro e W' ⟨v, G, rfl, hM, k⟩
  exact ⟨v, rfl, _, (S2.pair hM (Nat.le_refl _) k gt).swap⟩
def actT (T : Tb) (x : Ac) : Tb :=
 if 0 ≤ x.wh ∧ x.wh ≤ 4 then (heardT T x.p x.h (atV x T.now)).1
 else if x.wh = 5 then (lostT T x.fc (atV x T.now)).1
 else if x.wh = 6 ∨ x.wh = 7 then (expT T (atV x T.now)).1
 else if x.wh = 8 then (seenT T).1
 else T
theorem act_c (T : Tb) (x : Ac) : (actT T x).c = T.c := by
 unfold actT
 split
 ·exact viQ _ _ _ _
 ·split
  ·exact vlI _ _ _
  ·split
   ·exact exp_c _ _
   ·split <;> rfl
end

section
open Go.ChangeShapes Go.WideShapes Go.ChangeAt Go.RowKit Go.Joins Go.Deep
theorem lenL2 {α : Type} {l : List α} (h : l.length = 2) : ∃ c0 c1, l = [c0, c1] := by
 match l, h with
 | [c0, c1], _ => exact ⟨c0, c1, rfl⟩
theorem lenL3 {α : Type} {l : List α} (h : l.length = 3) : ∃ c0 c1 c2, l = [c0, c1, c2] := by
 match l, h with
 | [c0, c1, c2], _ => exact ⟨c0, c1, c2, rfl⟩
theorem lenL6 {α : Type} {l : List α} (h : l.length = 6) : ∃ c0 c1 c2 c3 c4 c5, l = [c0, c1, c2, c3, c4, c5] := by
 match l, h with
 | [c0, c1, c2, c3, c4, c5], _ => exact ⟨c0, c1, c2, c3, c4, c5, rfl⟩
theorem lenL9 {α : Type} {l : List α} (h : l.length = 9) : ∃ c0 c1 c2 c3 c4 c5 c6 c7 c8, l = [c0, c1, c2, c3, c4, c5, c6, c7, c8] := by
 match l, h with
 | [c0, c1, c2, c3, c4, c5, c6, c7, c8], _ => exact ⟨c0, c1, c2, c3, c4, c5, c6, c7, c8, rfl⟩
theorem vjr {n : Int} (h : (Lit.int .u32 n).wf = true) : ∃ a : Nat, n = (a : Int) ∧ a < 4294967296 := by
 simp [Lit.wf, IntKind.min, IntKind.max, IntKind.bits, IntKind.signed] at h
 exact ⟨n.toNat, by omega, by omega⟩
def I64 (n : Int) : Prop := -9223372036854775808 ≤ n ∧ n ≤ 9223372036854775807
theorem vcH {n : Int} (h : (Lit.int .i64 n).wf = true) : I64 n := by
 simp [Lit.wf, IntKind.min, IntKind.max, IntKind.bits, IntKind.signed] at h
 exact ⟨by omega, by omega⟩
structure Ac.fits (x : Ac) : Prop where
 wh : I64 x.wh
 fc : I64 x.fc
 pa : x.p.a < 4294967296
 pl : I64 x.p.l
 hf : I64 x.h.f
 ha : x.h.a < 4294967296
 hm : I64 x.h.m
 more : I64 x.more
section
variable {H : Type} {enc : TypeId × Value → H}
set_option maxRecDepth 100000 in
theorem vlO {W : World} {base : Nat} {sp : Nat → Bool} {held : Bool} (cs : List Value) (n : Nat) (x : DataW H × List MemPlace) (h : DataW.trod enc Tryz.prog W base sp held n 29 cs = some x) : ∃ p : PI, cs = [.int .u32 (p.a : Int), .int .i64 p.l] ∧ p.a < 4294967296 ∧ I64 p.l := by
 obtain ⟨xs, m, _, _, hl, hlen, hf⟩ := DataW.trod_struct Tryz.underlying29 h
 have hC : Tryz.prog.cellsOf 29 = 2 := by kernel_rfl
 have hC0 : Tryz.prog.cellsOf 27 = 1 := by kernel_rfl
 have hC1 : Tryz.prog.cellsOf 3 = 1 := by kernel_rfl
 rw [hC] at hl
 obtain ⟨c0, c1, rfl⟩ := lenL2 hl
 obtain ⟨y0, y1, rfl⟩ := lenL2 hlen
 clear hl hlen hC h
 have e0 : DataW.trod enc Tryz.prog W base sp held m 27 [c0] = some y0 := by
  have this : DataW.trod enc Tryz.prog W base sp held m 27 (([c0, c1].drop 0).take (Tryz.prog.cellsOf 27)) = some y0 := hf 0 _ rfl
  rw [hC0] at this; exact this
 have e1 : DataW.trod enc Tryz.prog W base sp held m 3 [c1] = some y1 := by
  have this : DataW.trod enc Tryz.prog W base sp held m 3 (([c0, c1].drop 1).take (Tryz.prog.cellsOf 3)) = some y1 := hf 1 _ rfl
  rw [hC1] at this; exact this
 clear hf
 obtain ⟨a, ha, _, hw⟩ := DataW.trod_int Tryz.underlying27 e0
 obtain ⟨b, hb, _, hw1⟩ := DataW.trod_int Tryz.underlying3 e1
 simp only [List.cons.injEq, and_true] at ha hb
 subst ha hb
 obtain ⟨a, rfl, hlt⟩ := vjr hw
 exact ⟨⟨a, b⟩, rfl, hlt, vcH hw1⟩
set_option maxRecDepth 100000 in
theorem vlr {W : World} {base : Nat} {sp : Nat → Bool} {held : Bool} (cs : List Value) (n : Nat) (x : DataW H × List MemPlace) (h : DataW.trod enc Tryz.prog W base sp held n 31 cs = some x) : ∃ h : Hd, cs = [.int .i64 h.f, .int .u32 (h.a : Int), .int .i64 h.m] ∧ h.a < 4294967296 ∧ I64 h.f ∧ I64 h.m := by
 obtain ⟨xs, m, _, _, hl, hlen, hf⟩ := DataW.trod_struct Tryz.underlying31 h
 have hC : Tryz.prog.cellsOf 31 = 3 := by kernel_rfl
 have hC0 : Tryz.prog.cellsOf 3 = 1 := by kernel_rfl
 have hC1 : Tryz.prog.cellsOf 27 = 1 := by kernel_rfl
 rw [hC] at hl
 obtain ⟨c0, c1, c2, rfl⟩ := lenL3 hl
 obtain ⟨y0, y1, y2, rfl⟩ := lenL3 hlen
 clear hl hlen hC h
 have e0 : DataW.trod enc Tryz.prog W base sp held m 3 [c0] = some y0 := by
  have this : DataW.trod enc Tryz.prog W base sp held m 3 (([c0, c1, c2].drop 0).take (Tryz.prog.cellsOf 3)) = some y0 := hf 0 _ rfl
  rw [hC0] at this; exact this
 have e1 : DataW.trod enc Tryz.prog W base sp held m 27 [c1] = some y1 := by
  have this : DataW.trod enc Tryz.prog W base sp held m 27 (([c0, c1, c2].drop 1).take (Tryz.prog.cellsOf 27)) = some y1 := hf 1 _ rfl
  rw [hC1] at this; exact this
 have e2 : DataW.trod enc Tryz.prog W base sp held m 3 [c2] = some y2 := by
  have this : DataW.trod enc Tryz.prog W base sp held m 3 (([c0, c1, c2].drop 2).take (Tryz.prog.cellsOf 3)) = some y2 := hf 2 _ rfl
  rw [hC0] at this; exact this
 clear hf
 obtain ⟨f, hf, _, w0⟩ := DataW.trod_int Tryz.underlying3 e0
 obtain ⟨a, ha, _, w1⟩ := DataW.trod_int Tryz.underlying27 e1
 obtain ⟨m, hm, _, w2⟩ := DataW.trod_int Tryz.underlying3 e2
 simp only [List.cons.injEq, and_true] at hf ha hm
 subst hf ha hm
 obtain ⟨a, rfl, hlt⟩ := vjr w1
 exact ⟨⟨f, a, m⟩, rfl, hlt, vcH w0, vcH w2⟩
set_option maxRecDepth 100000 in
theorem vlP {W : World} {base : Nat} {sp : Nat → Bool} {held : Bool} (cs : List Value) (n : Nat) (x : DataW H × List MemPlace) (h : DataW.trod enc Tryz.prog W base sp held n 33 cs = some x) : ∃ x : Ac, cs = (acC x).toList ∧ x.fits := by
 obtain ⟨xs, m, _, _, hl, hlen, hf⟩ := DataW.trod_struct Tryz.underlying33 h
 have hC : Tryz.prog.cellsOf 33 = 9 := by kernel_rfl
 have hC0 : Tryz.prog.cellsOf 3 = 1 := by kernel_rfl
 have hC1 : Tryz.prog.cellsOf 29 = 2 := by kernel_rfl
 have hC2 : Tryz.prog.cellsOf 31 = 3 := by kernel_rfl
 have hC3 : Tryz.prog.cellsOf 2 = 1 := by kernel_rfl
 have hC4 : Tryz.prog.cellsOf 4 = 1 := by kernel_rfl
 rw [hC] at hl
 obtain ⟨c0, c1, c2, c3, c4, c5, c6, c7, c8, rfl⟩ := lenL9 hl
 obtain ⟨y0, y1, y2, y3, y4, y5, rfl⟩ := lenL6 hlen
 clear hl hlen hC h
 have e0 : DataW.trod enc Tryz.prog W base sp held m 3 [c0] = some y0 := by
  have this : DataW.trod enc Tryz.prog W base sp held m 3 (([c0, c1, c2, c3, c4, c5, c6, c7, c8].drop 0).take (Tryz.prog.cellsOf 3)) = some y0 := hf 0 _ rfl
  rw [hC0] at this; exact this
 have e1 : DataW.trod enc Tryz.prog W base sp held m 3 [c1] = some y1 := by
  have this : DataW.trod enc Tryz.prog W base sp held m 3 (([c0, c1, c2, c3, c4, c5, c6, c7, c8].drop 1).take (Tryz.prog.cellsOf 3)) = some y1 := hf 1 _ rfl
  rw [hC0] at this; exact this
 have e2 : DataW.trod enc Tryz.prog W base sp held m 29 [c2, c3] = some y2 := by
  have this : DataW.trod enc Tryz.prog W base sp held m 29 (([c0, c1, c2, c3, c4, c5, c6, c7, c8].drop 2).take (Tryz.prog.cellsOf 29)) = some y2 := hf 2 _ rfl
  rw [hC1] at this; exact this
 have e3 : DataW.trod enc Tryz.prog W base sp held m 31 [c4, c5, c6] = some y3 := by
  have this : DataW.trod enc Tryz.prog W base sp held m 31 (([c0, c1, c2, c3, c4, c5, c6, c7, c8].drop 4).take (Tryz.prog.cellsOf 31)) = some y3 := hf 3 _ rfl
  rw [hC2] at this; exact this
 have e4 : DataW.trod enc Tryz.prog W base sp held m 2 [c7] = some y4 := by
  have this : DataW.trod enc Tryz.prog W base sp held m 2 (([c0, c1, c2, c3, c4, c5, c6, c7, c8].drop 7).take (Tryz.prog.cellsOf 2)) = some y4 := hf 4 _ rfl
  rw [hC3] at this; exact this
 have e5 : DataW.trod enc Tryz.prog W base sp held m 4 [c8] = some y5 := by
  have this : DataW.trod enc Tryz.prog W base sp held m 4 (([c0, c1, c2, c3, c4, c5, c6, c7, c8].drop 8).take (Tryz.prog.cellsOf 4)) = some y5 := hf 5 _ rfl
  rw [hC4] at this; exact this
 clear hf
 obtain ⟨wh, hw, _, w0⟩ := DataW.trod_int Tryz.underlying3 e0
 obtain ⟨fc, hfc, _, w1⟩ := DataW.trod_int Tryz.underlying3 e1
 obtain ⟨p, hp, wp, wl⟩ := vlO _ _ _ e2
 obtain ⟨hd, hh, wa, wf, wm⟩ := vlr _ _ _ e3
 obtain ⟨mo, hmo, _, w4⟩ := DataW.trod_int Tryz.underlying2 e4
 obtain ⟨la, hla, _⟩ := DataW.trod_bool Tryz.underlying4 e5
 clear e0 e1 e2 e3 e4 e5
 simp only [List.cons.injEq, and_true] at hw hfc hp hh hmo hla
 obtain ⟨rfl, rfl⟩ := hp
 obtain ⟨rfl, rfl, rfl⟩ := hh
 subst hw hfc hmo hla
 exact ⟨⟨wh, fc, p, hd, mo, la⟩, rfl, ⟨vcH w0, vcH w1, wp, wl, wf, wa, wm, vcH w4⟩⟩
set_option maxRecDepth 100000 in
theorem vgy {W : World} {base : Nat} {v : Value} {d : DataW H} {p : List MemPlace} (hv : Value.okWide Tryz.prog W .any base 33 v) (h : DataW.Trod enc Tryz.prog W 0 (fun _ => true) true 33 v d p) : ∃ x : Ac, v = .agg (acC x) ∧ x.fits := by
 obtain ⟨cs, rfl, hsz⟩ := okWide_struct Tryz.underlying33 hv
 obtain ⟨fuel, hf⟩ := h
 obtain ⟨x, hx, hfit⟩ := vlP _ _ _ hf
 refine ⟨x, ?_, hfit⟩
 have : cs = acC x := by
  apply Array.ext'
  simpa [Value.cells] using hx
 rw [this]
end
end

end Go.Proofs.YtffckpkikdlbpaaGreatDoor
