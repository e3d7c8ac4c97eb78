/- Lemmas and contracts for the theorem of this claim: LwE, LwF, LwG, HdA, Law, Op12, AcR, VGen3. -/
import Derived.Test.YtffckpkikdlbpaaGreatDoorZsBs
import Derived.LoopN
import Derived.RangeFuncCalls
import Derived.Test.YtffckpkikdlbpaaGreatDoorRows
import Derived.ProofKit
import Derived.Lib.SmallJoins
import Derived.Deep.Slices
import Derived.Deep.Fields
import Derived.ChangeSame
import Derived.ChangeArms
set_option linter.unusedSimpArgs false
set_option linter.unusedVariables false
namespace Go.Proofs.YtffckpkikdlbpaaGreatDoor
open Go.RowKit Go.Maps
attribute [local go_sem] Oper.semAt_some
structure RwS (w : World) (sl : Value) (m n : Int) (C : Prop) (W : World) : Prop where
  k : Kp w W
  s : Blk W w.heap.size 37 #[sl]
  m : Blk W (w.heap.size + 1) 3 #[.int .i64 m]
  o : Blk W (w.heap.size + 1 + 1) 4 #[.bool false]
  n : Blk W (w.heap.size + 1 + 1 + 1) 3 #[.int .i64 n]
  c : C
theorem RwS.only {w W W' : World} {sl : Value} {m n : Int} {C : Prop} {bs : List Nat} (h : RwS w sl m n C W) (hO : Only bs W W') (hb : ∀ b ∈ bs, w.heap.size + 1 + 1 + 1 < b) : RwS w sl m n C W' :=
  have far : ∀ x, x ≤ w.heap.size + 1 + 1 + 1 → x ∉ bs := fun x hx hm => by have := hb x hm; omega
  ⟨hO.kp h.k (fun b hm => by have := hb b hm; omega), h.s.only hO (far _ (by omega)), h.m.only hO (far _ (by omega)), h.o.only hO (far _ (by omega)), h.n.only hO (far _ (by omega)), h.c⟩
end Go.Proofs.YtffckpkikdlbpaaGreatDoor

namespace Go.Proofs.YtffckpkikdlbpaaGreatDoor
open Go.RowKit
set_option maxRecDepth 100000 in
theorem rspans_any (c : Cf) (A : Option Addr) (n m : Nat) (w : World) : Calls Tryz.prog 48 #[cfV c A n m] w fun e w' => e = .returned (.agg #[.int .i64 c.t0, .int .i64 c.t1, .int .i64 c.t2, .int .i64 c.t3, .int .i64 c.t4, .int .i64 c.t5, .int .i64 c.t6]) ∧ Kp w w' := by
  go_enter Tryz.func48, Tryz.ntmps48
  go_wp2_with fail
  have B1 := Blk.new1 w (.cells (cfC c A n m) 24) 95 #[.int .i64 c.t0, .int .i64 c.t1, .int .i64 c.t2, .int .i64 c.t3, .int .i64 c.t4, .int .i64 c.t5, .int .i64 c.t6]
  have K1 : Kp w ((w.alloc (.cells (cfC c A n m) 24)).alloc (.cells #[.int .i64 c.t0, .int .i64 c.t1, .int .i64 c.t2, .int .i64 c.t3, .int .i64 c.t4, .int .i64 c.t5, .int .i64 c.t6] 95)) := ((Kp.refl _).alloc _).alloc _
  unfold cfC at B1 K1
  revert B1 K1
  generalize (w.alloc (.cells _ 24)).alloc (.cells _ 95) = X
  intro B1 K1
  have y0 : X.cell? ⟨w.heap.size + 1, 0, none⟩ = some (.int .i64 c.t0) := B1.cell 0
  have y1 : X.cell? ⟨w.heap.size + 1, 1, none⟩ = some (.int .i64 c.t1) := B1.cell 1
  have y2 : X.cell? ⟨w.heap.size + 1, 2, none⟩ = some (.int .i64 c.t2) := B1.cell 2
  have y3 : X.cell? ⟨w.heap.size + 1, 3, none⟩ = some (.int .i64 c.t3) := B1.cell 3
  have y4 : X.cell? ⟨w.heap.size + 1, 4, none⟩ = some (.int .i64 c.t4) := B1.cell 4
  have y5 : X.cell? ⟨w.heap.size + 1, 5, none⟩ = some (.int .i64 c.t5) := B1.cell 5
  have y6 : X.cell? ⟨w.heap.size + 1, 6, none⟩ = some (.int .i64 c.t6) := B1.cell 6
  refine bodyPost_ret (v := .agg #[.int .i64 c.t0, .int .i64 c.t1, .int .i64 c.t2, .int .i64 c.t3, .int .i64 c.t4, .int .i64 c.t5, .int .i64 c.t6]) ?_ rfl ⟨rfl, K1⟩
  clear B1 K1
  simp [results, Tryz.results48, go_sem, y0, y1, y2, y3, y4, y5, y6]
end Go.Proofs.YtffckpkikdlbpaaGreatDoor

namespace Go.Proofs.YtffckpkikdlbpaaGreatDoor
open Go.RowKit Go.Maps
structure Ac where
  wh : Int
  fc : Int
  p : PI
  h : Hd
  more : Int
  la : Bool
def acC (x : Ac) : Array Value := #[.int .i64 x.wh, .int .i64 x.fc, .int .u32 (x.p.a : Int), .int .i64 x.p.l, .int .i64 x.h.f, .int .u32 (x.h.a : Int), .int .i64 x.h.m, .int .i64 x.more, .bool x.la]
end Go.Proofs.YtffckpkikdlbpaaGreatDoor

namespace Go.Proofs.YtffckpkikdlbpaaGreatDoor
open Go.RowKit Go.Maps
attribute [local go_sem] Oper.semAt_some
theorem few_any (c : Cf) (A : Option Addr) (n m : Nat) (w : World) : Calls Tryz.prog 9 #[cfV c A n m] w fun e w' => e = .returned (.bool (decide ((n : Int) ≤ 20))) ∧ Kp w w' := by
  have B := Blk.new w 24 (cfC c A n m)
  have s8 : (w.alloc (.cells (cfC c A n m) 24)).cell? ⟨w.heap.size, 8, none⟩ = some (.slice A n m) := B.cell 8
  unfold cfC at s8
  clear B
  go_enter Tryz.func9, Tryz.ntmps9
  go_wp2_with fail
  go_ret
  exact ⟨rfl, (Kp.refl _).alloc _⟩
def atV (x : Ac) (now : Int) : Int := if x.la = true ∧ 0 ≤ x.more ∧ x.more ≤ 1000 ∧ now < 2305843009213693952 then now + x.more else x.more
set_option maxRecDepth 100000 in
set_option maxHeartbeats 2000000 in
theorem at_any (x : Ac) (now : Int) (w : World) (hn : 0 ≤ now) : Calls Tryz.prog 21 #[.agg (acC x), .int .i64 now] w fun e w' => e = .returned (.int .i64 (atV x now)) ∧ Kp w w' := by
  have B := Blk.new w 33 (acC x)
  obtain ⟨b, hb⟩ : ∃ b, w.heap.size = b := ⟨_, rfl⟩
  obtain ⟨W, hW, kW, p7, p8⟩ : ∃ W, w.alloc (.cells (acC x) 33) = W ∧ Kp w W ∧ W.cell? ⟨b, 7, none⟩ = some (.int .i64 x.more) ∧ W.cell? ⟨b, 8, none⟩ = some (.bool x.la) := ⟨_, rfl, (Kp.refl _).alloc _, by rw [← hb]; exact B.cell 7, by rw [← hb]; exact B.cell 8⟩
  clear B
  unfold acC at hW ⊢
  have HN := Lib.hid hn
  clear hn
  cases hl : x.la with
  | false =>
    rw [hl] at p8 hW
    have H := Lib.hid (show atV x now = x.more by unfold atV; rw [hl, if_neg (by simp)])
    clear hl
    go_enter Tryz.func21, Tryz.ntmps21
    go_wp2_with fail
    go_ret
    exact ⟨by rw [H.out]; rfl, kW⟩
  | true =>
    rw [hl] at p8 hW
    by_cases h0 : 0 ≤ x.more
    · have d0 : decide (0 ≤ x.more) = true := decide_eq_true h0
      by_cases h1 : x.more ≤ 1000
      · have d1 : decide (x.more ≤ 1000) = true := decide_eq_true h1
        by_cases h2 : now < 2305843009213693952
        · have d2 : decide (now < 2305843009213693952) = true := decide_eq_true h2
          have H := Lib.hid (show atV x now = now + x.more by unfold atV; rw [hl, if_pos ⟨rfl, h0, h1, h2⟩])
          have n1 : -9223372036854775808 ≤ now + x.more := by have := HN.out; omega
          have n2 : now + x.more ≤ 9223372036854775807 := by omega
          clear hl h0 h1 h2
          go_enter Tryz.func21, Tryz.ntmps21
          go_wp2_with fail
          go_ret
          exact ⟨by rw [H.out]; rfl, kW⟩
        · have d2 : decide (now < 2305843009213693952) = false := decide_eq_false h2
          have H := Lib.hid (show atV x now = x.more by unfold atV; rw [if_neg (fun z => h2 z.2.2.2)])
          clear hl h0 h1 h2
          go_enter Tryz.func21, Tryz.ntmps21
          go_wp2_with fail
          go_ret
          exact ⟨by rw [H.out]; rfl, kW⟩
      · have d1 : decide (x.more ≤ 1000) = false := decide_eq_false h1
        have H := Lib.hid (show atV x now = x.more by unfold atV; rw [if_neg (fun z => h1 z.2.2.1)])
        clear hl h0 h1
        go_enter Tryz.func21, Tryz.ntmps21
        go_wp2_with fail
        go_ret
        exact ⟨by rw [H.out]; rfl, kW⟩
    · have d0 : decide (0 ≤ x.more) = false := decide_eq_false h0
      have H := Lib.hid (show atV x now = x.more by unfold atV; rw [if_neg (fun z => h0 z.2.1)])
      clear hl h0
      go_enter Tryz.func21, Tryz.ntmps21
      go_wp2_with fail
      go_ret
      exact ⟨by rw [H.out]; rfl, kW⟩
def GI (w0 ws : World) (s : Nat) (L : List Rt) (k : Nat) (W : World) : Prop := ∃ v, Blk W s 37 #[v] ∧ Own W (ws.heap.size + 1 + 1) 48 9 Rt.enc v (L.take k) ∧ Only [s] ws W ∧ Kp w0 W
theorem GI.only {w0 ws W W' : World} {s k : Nat} {L : List Rt} {bs : List Nat} (h : GI w0 ws s L k W) (k' : Only bs W W') (hb : ∀ b ∈ bs, ws.heap.size ≤ b ∧ b < ws.heap.size + 1 + 1) (hs : s < ws.heap.size) (h0 : w0.heap.size ≤ s) : GI w0 ws s L k W' := by
  obtain ⟨v, h1, h2, h3, h4⟩ := h
  exact ⟨v, h1.only k' (fun z => by have := hb s z; omega), h2.only k' (fun b z => (hb b z).2), h3.over (F1 := [s] ++ bs) (fun b z => by
    rcases List.mem_append.1 z with z | z
    · exact .inl z
    · exact .inr (hb b z).1) (k'.more (fun b z => List.mem_append.2 (.inr z))), k'.kp h4 (fun b z => by have := hb b z; omega)⟩
end Go.Proofs.YtffckpkikdlbpaaGreatDoor

namespace Go.Proofs.YtffckpkikdlbpaaGreatDoor
open Go.ChangeShapes Go.WideShapes Go.ChangeAt Go.RowKit Go.Joins Go.Deep
theorem Tryz.own : ownKnob Tryz.prog.godebug = none := by kernel_rfl
theorem Tryz.laidOut : laidOutB Tryz.prog = true := by kernel_rfl
section
variable {H : Type} {enc : TypeId × Value → H}
theorem trodAll_kp {W W' : World} (hK : Kp W W') {sp : Nat → Bool} : ∀ {ts : List TypeId} {vs : List Value} {ds : List (DataW H)} {ps : List MemPlace},
    (∀ t ∈ ts, Tryz.prog.readableRec t = true ∧ t < Tryz.prog.types.size) → (∀ p ∈ ps, p.block < W.heap.size) → (∀ p ∈ ps, sp p.block = true) →
    DataW.TrodAll enc Tryz.prog W 0 (fun _ => true) true ts vs ds ps → DataW.TrodAll enc Tryz.prog W' 0 sp true ts vs ds ps
  | [], [], [], _, _, _, _, h => h
  | [], _ :: _, _, _, _, _, _, h => h.elim
  | [], [], _ :: _, _, _, _, _, h => h.elim
  | _ :: _, [], _, _, _, _, _, h => h.elim
  | _ :: _, _ :: _, [], _, _, _, _, h => h.elim
  | t :: ts, v :: vs, d :: ds, ps, hr, hlt, hsp, ⟨p, q, h1, h2, e⟩ => by
    subst e
    refine ⟨p, q, ?_, trodAll_kp hK (fun t ht => hr t (by simp [ht])) (fun x hx => hlt x (by simp [hx])) (fun x hx => hsp x (by simp [hx])) h2, rfl⟩
    exact WideElems.Trod_stays Tryz.laidOut (hr t (by simp)).1 (hr t (by simp)).2 h1 (fun x hx => Below.same hK (hlt x (by simp [hx]))) (fun x hx => hsp x (by simp [hx]))
set_option maxRecDepth 100000 in
theorem law_post {f : Func} {s : ChangeSpec} {apart fresh handsOn again : Bool} {W W' : World} {args : Array Value} {ds : List (DataW H)} {before : List MemPlace}
    (hW : DataW.Whole enc Tryz.prog f.params.toList s.vars apart W args.toList ds [] before) (hv : s.vars = []) (hres : f.resultTypes = #[4])
    (h1 : (s.fn H (ds ++ [])).results = [.lit (.bool true)]) (h2 : (s.fn H (ds ++ [])).args = ds) (h3 : (s.fn H (ds ++ [])).vars = [])
    (hr : ∀ t ∈ f.params.toList, Tryz.prog.readableRec t = true ∧ t < Tryz.prog.types.size) (hK : Kp W W') :
    s.post enc Tryz.prog f apart fresh handsOn again W args (.bool true) W' := by
  have hW' := hW
  obtain ⟨p, q, hA, hV, he, hz, hn⟩ := hW'
  rw [hv] at hV
  obtain ⟨_, rfl⟩ := trodVars_none hV
  rw [List.append_nil] at he
  obtain rfl : p = before := he.symm
  have hlt : ∀ x ∈ p, x.block < W.heap.size := fun x hx => hW.lt x (by simpa using hx)
  have hold : ∀ x ∈ p, (fun b => decide (b < W.heap.size)) x.block = true := fun x hx => by simpa using hlt x hx
  have hresults : ∀ (b : Nat) (sp : Nat → Bool) (hd : Bool), DataW.TrodAll enc Tryz.prog W' b sp hd f.resultTypes.toList ((Value.bool true).resultList f.resultTypes.size) (s.fn H (ds ++ [])).results [] := by
    intro b sp hd
    rw [hres, h1]
    exact trodAll_mk1 (shut_bool Tryz.underlying4 true)
  have hargs : ∀ sp : Nat → Bool, (∀ x ∈ p, sp x.block = true) → DataW.TrodAll enc Tryz.prog W' 0 sp true f.params.toList args.toList (s.fn H (ds ++ [])).args p := by
    intro sp hsp
    rw [h2]
    exact trodAll_kp hK hr hlt hsp hA
  have hvars : ∀ sp : Nat → Bool, DataW.TrodVars enc Tryz.prog W' sp s.vars (s.fn H (ds ++ [])).vars [] := by
    intro sp; rw [hv, h3]; rfl
  refine ⟨ds, [], p, [], p, [], hW, hresults _ _ _, hargs _ hold, hvars _, World.keptBut_mono (fun x hx => ⟨hx, ?_⟩) (Below.frame hK (· ∈ p)), fun _ => ?_⟩
  · exact Or.inr (by simpa using hx)
  · refine ⟨?_, _, _, ([] ++ p) ++ [], ⟨[] ++ p, [], trodAll_append (hargs _ (fun _ _ => rfl)) (hresults _ _ _), hvars _, rfl, ?_, ?_⟩, ?_⟩
    · exact ok_one hres rfl (okWide_bool_mk Tryz.underlying4 true)
    · intro b off hp
      have hin : MemPlace.cell b off ∈ p := by simpa using hp
      rw [Below.frozen hK (hlt _ hin)]
      exact hz b off (by simpa using hin)
    · intro ha
      simpa using hn ha
    · intro x hx _
      simpa using hx
theorem rd_of_slice {α : Type} {W : World} {fuel : Nat} {v : Value} {x : DataW H × List MemPlace} {t e sz : Nat} (enc' : α → List Value) (good : α → Prop) (henc : ∀ y, (enc' y).length = sz) (ht : Tryz.prog.underlying t = some (.slice e)) (hsz : Tryz.prog.cellsOf e = sz) (hs0 : 0 < sz)
    (hel : ∀ (cs : List Value) (n : Nat) (x : DataW H × List MemPlace), DataW.trod enc Tryz.prog W 0 (fun _ => true) true n e cs = some x → ∃ y, cs = enc' y ∧ good y)
    (h : DataW.trod enc Tryz.prog W 0 (fun _ => true) true fuel t [v] = some x) : ∃ A c ys, v = .slice A ys.length c ∧ ys.length ≤ maxLen ∧ Rd W sz enc' A ys ∧ ∀ y ∈ ys, good y := by
  rcases open_slice ht h with ⟨hc, _⟩ | ⟨a, len, cap, m, n, D, Pl, hc, _, hl, hm, hmm, _, hi⟩
  · exact ⟨none, 0, [], by simpa using hc, by simp, Rd.nil _ _ _ _, by simp⟩
  · simp only [if_true] at hmm
    subst hmm
    rw [hsz] at hi
    by_cases h0 : len = 0
    · subst h0
      exact ⟨some a, m, [], by simpa using hc, by simp, Rd.nil _ _ _ _, by simp⟩
    have key : ∀ i, i < len → ∃ y, good y ∧ ∀ j u, (enc' y)[j]? = some u → W.cell? (a.add (i * sz + j)) = some u := by
      intro i hi'
      obtain ⟨cs', hcs, htr⟩ := hi i (by omega)
      obtain ⟨y, rfl, hg⟩ := hel cs' n _ htr
      obtain ⟨_, hlen, hat⟩ := World.cells?_some hcs
      refine ⟨y, hg, fun j u hu => ?_⟩
      have hj : j < sz := by have := (List.getElem?_eq_some_iff.1 hu).1; rw [henc] at this; exact this
      have := hat j hj
      rw [Go.Deep.add_add] at this
      rw [this, hu]
    obtain ⟨y0, hg0, hy0⟩ := key 0 (by omega)
    have hf : ∃ f : Nat → α, ∀ i, i < len → good (f i) ∧ ∀ j u, (enc' (f i))[j]? = some u → W.cell? (a.add (i * sz + j)) = some u := by
      refine ⟨fun i => if hi' : i < len then Classical.choose (key i hi') else y0, fun i hi' => ?_⟩
      simp only [hi', dif_pos]
      exact Classical.choose_spec (key i hi')
    obtain ⟨f, hf⟩ := hf
    have hsp : ∃ b off, a = ⟨b, off, none⟩ := by
      have h1 : 0 < (enc' (f 0)).length := by rw [henc]; exact hs0
      have := (hf 0 (by omega)).2 0 _ (List.getElem?_eq_getElem h1)
      simp only [Nat.zero_mul, Nat.add_zero] at this
      have h2 := World.cell?_spot this
      obtain ⟨b, off, spot⟩ := a
      simp [Addr.add] at h2
      subst h2
      exact ⟨b, off, rfl⟩
    obtain ⟨b, off, rfl⟩ := hsp
    refine ⟨some ⟨b, off, none⟩, m, (List.range len).map f, by simpa using hc, by simp; omega, ?_, ?_⟩
    · intro i hi'
      have hi2 : i < len := by simpa using hi'
      refine ⟨b, off, rfl, fun j u hu => ?_⟩
      have := (hf i hi2).2 j u (by simpa using hu)
      have hadd : (⟨b, off, none⟩ : Addr).add (i * sz + j) = ⟨b, off + i * sz + j, none⟩ := by
        unfold Addr.add; split <;> simp_all [Nat.add_assoc]
      rw [hadd] at this
      exact this
    · intro y hy
      obtain ⟨i, hi', rfl⟩ := List.mem_map.1 hy
      exact (hf i (by simpa using hi')).1
end
end Go.Proofs.YtffckpkikdlbpaaGreatDoor

namespace Go.Proofs.YtffckpkikdlbpaaGreatDoor
open Go.ChangeShapes Go.WideShapes Go.ChangeAt Go.RowKit Go.Joins Go.Deep
theorem lenL2 {α : Type} {l : List α} (h : l.length = 2) : ∃ c0 c1, l = [c0, c1] := by
  match l, h with
  | [c0, c1], _ => exact ⟨c0, c1, rfl⟩
theorem lenL3 {α : Type} {l : List α} (h : l.length = 3) : ∃ c0 c1 c2, l = [c0, c1, c2] := by
  match l, h with
  | [c0, c1, c2], _ => exact ⟨c0, c1, c2, rfl⟩
theorem lenL6 {α : Type} {l : List α} (h : l.length = 6) : ∃ c0 c1 c2 c3 c4 c5, l = [c0, c1, c2, c3, c4, c5] := by
  match l, h with
  | [c0, c1, c2, c3, c4, c5], _ => exact ⟨c0, c1, c2, c3, c4, c5, rfl⟩
theorem lenL9 {α : Type} {l : List α} (h : l.length = 9) : ∃ c0 c1 c2 c3 c4 c5 c6 c7 c8, l = [c0, c1, c2, c3, c4, c5, c6, c7, c8] := by
  match l, h with
  | [c0, c1, c2, c3, c4, c5, c6, c7, c8], _ => exact ⟨c0, c1, c2, c3, c4, c5, c6, c7, c8, rfl⟩
theorem nat_u32 {n : Int} (h : (Lit.int .u32 n).wf = true) : ∃ a : Nat, n = (a : Int) ∧ a < 4294967296 := by
  simp [Lit.wf, IntKind.min, IntKind.max, IntKind.bits, IntKind.signed] at h
  exact ⟨n.toNat, by omega, by omega⟩
def I64 (n : Int) : Prop := -9223372036854775808 ≤ n ∧ n ≤ 9223372036854775807
theorem int_i64 {n : Int} (h : (Lit.int .i64 n).wf = true) : I64 n := by
  simp [Lit.wf, IntKind.min, IntKind.max, IntKind.bits, IntKind.signed] at h
  exact ⟨by omega, by omega⟩
structure Ac.fits (x : Ac) : Prop where
  wh : I64 x.wh
  fc : I64 x.fc
  pa : x.p.a < 4294967296
  pl : I64 x.p.l
  hf : I64 x.h.f
  ha : x.h.a < 4294967296
  hm : I64 x.h.m
  more : I64 x.more
section
variable {H : Type} {enc : TypeId × Value → H}
set_option maxRecDepth 100000 in
theorem pfx_of {W : World} {base : Nat} {sp : Nat → Bool} {held : Bool} (cs : List Value) (n : Nat) (x : DataW H × List MemPlace) (h : DataW.trod enc Tryz.prog W base sp held n 29 cs = some x) : ∃ p : PI, cs = [.int .u32 (p.a : Int), .int .i64 p.l] ∧ p.a < 4294967296 ∧ I64 p.l := by
  obtain ⟨xs, m, _, _, hl, hlen, hf⟩ := DataW.trod_struct Tryz.underlying29 h
  have hC : Tryz.prog.cellsOf 29 = 2 := by kernel_rfl
  have hC0 : Tryz.prog.cellsOf 27 = 1 := by kernel_rfl
  have hC1 : Tryz.prog.cellsOf 3 = 1 := by kernel_rfl
  rw [hC] at hl
  obtain ⟨c0, c1, rfl⟩ := lenL2 hl
  obtain ⟨y0, y1, rfl⟩ := lenL2 hlen
  clear hl hlen hC h
  have e0 : DataW.trod enc Tryz.prog W base sp held m 27 [c0] = some y0 := by
    have this : DataW.trod enc Tryz.prog W base sp held m 27 (([c0, c1].drop 0).take (Tryz.prog.cellsOf 27)) = some y0 := hf 0 _ rfl
    rw [hC0] at this; exact this
  have e1 : DataW.trod enc Tryz.prog W base sp held m 3 [c1] = some y1 := by
    have this : DataW.trod enc Tryz.prog W base sp held m 3 (([c0, c1].drop 1).take (Tryz.prog.cellsOf 3)) = some y1 := hf 1 _ rfl
    rw [hC1] at this; exact this
  clear hf
  obtain ⟨a, ha, _, hw⟩ := DataW.trod_int Tryz.underlying27 e0
  obtain ⟨b, hb, _, hw1⟩ := DataW.trod_int Tryz.underlying3 e1
  simp only [List.cons.injEq, and_true] at ha hb
  subst ha hb
  obtain ⟨a, rfl, hlt⟩ := nat_u32 hw
  exact ⟨⟨a, b⟩, rfl, hlt, int_i64 hw1⟩
set_option maxRecDepth 100000 in
theorem heard_of {W : World} {base : Nat} {sp : Nat → Bool} {held : Bool} (cs : List Value) (n : Nat) (x : DataW H × List MemPlace) (h : DataW.trod enc Tryz.prog W base sp held n 31 cs = some x) : ∃ h : Hd, cs = [.int .i64 h.f, .int .u32 (h.a : Int), .int .i64 h.m] ∧ h.a < 4294967296 ∧ I64 h.f ∧ I64 h.m := by
  obtain ⟨xs, m, _, _, hl, hlen, hf⟩ := DataW.trod_struct Tryz.underlying31 h
  have hC : Tryz.prog.cellsOf 31 = 3 := by kernel_rfl
  have hC0 : Tryz.prog.cellsOf 3 = 1 := by kernel_rfl
  have hC1 : Tryz.prog.cellsOf 27 = 1 := by kernel_rfl
  rw [hC] at hl
  obtain ⟨c0, c1, c2, rfl⟩ := lenL3 hl
  obtain ⟨y0, y1, y2, rfl⟩ := lenL3 hlen
  clear hl hlen hC h
  have e0 : DataW.trod enc Tryz.prog W base sp held m 3 [c0] = some y0 := by
    have this : DataW.trod enc Tryz.prog W base sp held m 3 (([c0, c1, c2].drop 0).take (Tryz.prog.cellsOf 3)) = some y0 := hf 0 _ rfl
    rw [hC0] at this; exact this
  have e1 : DataW.trod enc Tryz.prog W base sp held m 27 [c1] = some y1 := by
    have this : DataW.trod enc Tryz.prog W base sp held m 27 (([c0, c1, c2].drop 1).take (Tryz.prog.cellsOf 27)) = some y1 := hf 1 _ rfl
    rw [hC1] at this; exact this
  have e2 : DataW.trod enc Tryz.prog W base sp held m 3 [c2] = some y2 := by
    have this : DataW.trod enc Tryz.prog W base sp held m 3 (([c0, c1, c2].drop 2).take (Tryz.prog.cellsOf 3)) = some y2 := hf 2 _ rfl
    rw [hC0] at this; exact this
  clear hf
  obtain ⟨f, hf, _, w0⟩ := DataW.trod_int Tryz.underlying3 e0
  obtain ⟨a, ha, _, w1⟩ := DataW.trod_int Tryz.underlying27 e1
  obtain ⟨m, hm, _, w2⟩ := DataW.trod_int Tryz.underlying3 e2
  simp only [List.cons.injEq, and_true] at hf ha hm
  subst hf ha hm
  obtain ⟨a, rfl, hlt⟩ := nat_u32 w1
  exact ⟨⟨f, a, m⟩, rfl, hlt, int_i64 w0, int_i64 w2⟩
set_option maxRecDepth 100000 in
theorem act_of {W : World} {base : Nat} {sp : Nat → Bool} {held : Bool} (cs : List Value) (n : Nat) (x : DataW H × List MemPlace) (h : DataW.trod enc Tryz.prog W base sp held n 33 cs = some x) : ∃ x : Ac, cs = (acC x).toList ∧ x.fits := by
  obtain ⟨xs, m, _, _, hl, hlen, hf⟩ := DataW.trod_struct Tryz.underlying33 h
  have hC : Tryz.prog.cellsOf 33 = 9 := by kernel_rfl
  have hC0 : Tryz.prog.cellsOf 3 = 1 := by kernel_rfl
  have hC1 : Tryz.prog.cellsOf 29 = 2 := by kernel_rfl
  have hC2 : Tryz.prog.cellsOf 31 = 3 := by kernel_rfl
  have hC3 : Tryz.prog.cellsOf 2 = 1 := by kernel_rfl
  have hC4 : Tryz.prog.cellsOf 4 = 1 := by kernel_rfl
  rw [hC] at hl
  obtain ⟨c0, c1, c2, c3, c4, c5, c6, c7, c8, rfl⟩ := lenL9 hl
  obtain ⟨y0, y1, y2, y3, y4, y5, rfl⟩ := lenL6 hlen
  clear hl hlen hC h
  have e0 : DataW.trod enc Tryz.prog W base sp held m 3 [c0] = some y0 := by
    have this : DataW.trod enc Tryz.prog W base sp held m 3 (([c0, c1, c2, c3, c4, c5, c6, c7, c8].drop 0).take (Tryz.prog.cellsOf 3)) = some y0 := hf 0 _ rfl
    rw [hC0] at this; exact this
  have e1 : DataW.trod enc Tryz.prog W base sp held m 3 [c1] = some y1 := by
    have this : DataW.trod enc Tryz.prog W base sp held m 3 (([c0, c1, c2, c3, c4, c5, c6, c7, c8].drop 1).take (Tryz.prog.cellsOf 3)) = some y1 := hf 1 _ rfl
    rw [hC0] at this; exact this
  have e2 : DataW.trod enc Tryz.prog W base sp held m 29 [c2, c3] = some y2 := by
    have this : DataW.trod enc Tryz.prog W base sp held m 29 (([c0, c1, c2, c3, c4, c5, c6, c7, c8].drop 2).take (Tryz.prog.cellsOf 29)) = some y2 := hf 2 _ rfl
    rw [hC1] at this; exact this
  have e3 : DataW.trod enc Tryz.prog W base sp held m 31 [c4, c5, c6] = some y3 := by
    have this : DataW.trod enc Tryz.prog W base sp held m 31 (([c0, c1, c2, c3, c4, c5, c6, c7, c8].drop 4).take (Tryz.prog.cellsOf 31)) = some y3 := hf 3 _ rfl
    rw [hC2] at this; exact this
  have e4 : DataW.trod enc Tryz.prog W base sp held m 2 [c7] = some y4 := by
    have this : DataW.trod enc Tryz.prog W base sp held m 2 (([c0, c1, c2, c3, c4, c5, c6, c7, c8].drop 7).take (Tryz.prog.cellsOf 2)) = some y4 := hf 4 _ rfl
    rw [hC3] at this; exact this
  have e5 : DataW.trod enc Tryz.prog W base sp held m 4 [c8] = some y5 := by
    have this : DataW.trod enc Tryz.prog W base sp held m 4 (([c0, c1, c2, c3, c4, c5, c6, c7, c8].drop 8).take (Tryz.prog.cellsOf 4)) = some y5 := hf 5 _ rfl
    rw [hC4] at this; exact this
  clear hf
  obtain ⟨wh, hw, _, w0⟩ := DataW.trod_int Tryz.underlying3 e0
  obtain ⟨fc, hfc, _, w1⟩ := DataW.trod_int Tryz.underlying3 e1
  obtain ⟨p, hp, wp, wl⟩ := pfx_of _ _ _ e2
  obtain ⟨hd, hh, wa, wf, wm⟩ := heard_of _ _ _ e3
  obtain ⟨mo, hmo, _, w4⟩ := DataW.trod_int Tryz.underlying2 e4
  obtain ⟨la, hla, _⟩ := DataW.trod_bool Tryz.underlying4 e5
  clear e0 e1 e2 e3 e4 e5
  simp only [List.cons.injEq, and_true] at hw hfc hp hh hmo hla
  obtain ⟨rfl, rfl⟩ := hp
  obtain ⟨rfl, rfl, rfl⟩ := hh
  subst hw hfc hmo hla
  exact ⟨⟨wh, fc, p, hd, mo, la⟩, rfl, ⟨int_i64 w0, int_i64 w1, wp, wl, wf, wa, wm, int_i64 w4⟩⟩
end
end Go.Proofs.YtffckpkikdlbpaaGreatDoor

namespace Go.Proofs.YtffckpkikdlbpaaGreatDoor
open Go.RowKit Go.Maps
def Ac.enc (x : Ac) : List Value := [.int .i64 x.wh, .int .i64 x.fc, .int .u32 (x.p.a : Int), .int .i64 x.p.l, .int .i64 x.h.f, .int .u32 (x.h.a : Int), .int .i64 x.h.m, .int .i64 x.more, .bool x.la]
theorem ac_at {w : World} {A : Option Addr} {xs : List Ac} (h : Rd w 9 Ac.enc A xs) {k : Nat} (hk : k < xs.length) : ∃ b off : Nat, A = some ⟨b, off, none⟩ ∧ w.cell? ⟨b, off + k * 9, none⟩ = some (.int .i64 xs[k].wh) ∧ w.cell? ⟨b, off + k * 9 + 1, none⟩ = some (.int .i64 xs[k].fc) ∧ w.cell? ⟨b, off + k * 9 + 2, none⟩ = some (.int .u32 (xs[k].p.a : Int)) ∧ w.cell? ⟨b, off + k * 9 + 3, none⟩ = some (.int .i64 xs[k].p.l) ∧ w.cell? ⟨b, off + k * 9 + 4, none⟩ = some (.int .i64 xs[k].h.f) ∧ w.cell? ⟨b, off + k * 9 + 5, none⟩ = some (.int .u32 (xs[k].h.a : Int)) ∧ w.cell? ⟨b, off + k * 9 + 6, none⟩ = some (.int .i64 xs[k].h.m) ∧ w.cell? ⟨b, off + k * 9 + 7, none⟩ = some (.int .i64 xs[k].more) ∧ w.cell? ⟨b, off + k * 9 + 8, none⟩ = some (.bool xs[k].la) := by
  obtain ⟨b, off, e, hc⟩ := h k hk
  exact ⟨b, off, e, by simpa using hc 0 _ rfl, by simpa using hc 1 _ rfl, by simpa using hc 2 _ rfl, by simpa using hc 3 _ rfl, by simpa using hc 4 _ rfl, by simpa using hc 5 _ rfl, by simpa using hc 6 _ rfl, by simpa using hc 7 _ rfl, by simpa using hc 8 _ rfl⟩
end Go.Proofs.YtffckpkikdlbpaaGreatDoor

namespace Go.Proofs.YtffckpkikdlbpaaGreatDoor
def mskN (n i : Nat) : Nat := (2 ^ min i n - 1) * 2 ^ (i - min i n)
theorem msk_zero (n : Nat) : mskN n 0 = 0 := by simp [mskN]
theorem msk_lt (n i : Nat) : mskN n i < 2 ^ i := by
  unfold mskN
  have h1 : 2 ^ i = 2 ^ min i n * 2 ^ (i - min i n) := by rw [← Nat.pow_add]; congr 1; omega
  have h2 : 0 < 2 ^ min i n := Nat.pow_pos (by decide)
  have h3 : 0 < 2 ^ (i - min i n) := Nat.pow_pos (by decide)
  rw [h1]
  exact Nat.mul_lt_mul_of_pos_right (by omega) h3
theorem msk_less {n i : Nat} (h : i < n) : mskN n (i + 1) = 2 * mskN n i + 1 := by
  unfold mskN
  have e1 : min (i + 1) n = i + 1 := by omega
  have e2 : min i n = i := by omega
  rw [e1, e2]
  have h2 : 0 < 2 ^ i := Nat.pow_pos (by decide)
  simp only [Nat.sub_self, Nat.pow_zero, Nat.mul_one, Nat.pow_succ]
  omega
theorem msk_more {n i : Nat} (h : ¬ i < n) : mskN n (i + 1) = 2 * mskN n i := by
  unfold mskN
  have e1 : min (i + 1) n = n := by omega
  have e2 : min i n = n := by omega
  rw [e1, e2, show i + 1 - n = (i - n) + 1 by omega, Nat.pow_succ]
  generalize 2 ^ (i - n) = x
  generalize 2 ^ n - 1 = y
  rw [Nat.mul_comm x 2, Nat.mul_left_comm]
theorem msk_all {n : Nat} (h : n ≤ 32) : mskN n 32 = maskN n := by
  unfold mskN maskN
  have e1 : min 32 n = n := by omega
  rw [e1, Nat.sub_mul, ← Nat.pow_add, show n + (32 - n) = 32 by omega]
  simp
theorem half_step (a k : Nat) : a / 2 ^ k / 2 = a / 2 ^ (k + 1) := by rw [Nat.div_div_eq_div_mul, ← Nat.pow_succ]
theorem bit_of {a i : Nat} (h : i < 32) : a / 2 ^ (31 - i) % 2 = bitN a i := by unfold bitN; rw [if_pos h]
theorem wp_anyW {id : Nat} {P : Program} {Q : Exit → Act → World → Prop} {a : Act} {w : World} {l : List Oper} (hm : P.follows .mixedOrders = true)
    (h : ∀ W, W = w.drew → wpAny P .any l.toArray Q l.toArray.size (Array.replicate l.toArray.size false) a W) : (Code.region id l.toArray true).wp P Q a w := wp_region_any hm (h _ rfl)
end Go.Proofs.YtffckpkikdlbpaaGreatDoor
