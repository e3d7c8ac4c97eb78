/- Proved here: THE TIED CARD of ViewRoutes of the package waywardenlaw25: for every input the law returns true, and each argument reads behind the call as it read before (Rows.ViewRoutesCardSaid). Conditions: the listed variables of the library start as the program's text lays them, which the card ties. -/
import Derived.Test.YtbfimimhgdkpaaaGreatDoorZhI
import Derived.Test.YtbfimimhgdkpaaaGreatDoorRows
import Derived.ProofKit
import Derived.Lib.SmallJoins
import Derived.Deep.Slices
import Derived.Deep.Fields
import Derived.ChangeSame
import Derived.LaidMore
import Derived.OpenShut
import Derived.Stop.Joined
import Derived.Lib.LaidTab
import Derived.ChangeArms
import Derived.Carry
import Derived.ChangeMaps5
import Derived.Test.YtbfimimhgdkpaaaGreatDoorTie
import Derived.Test.YtbfimimhgdkpaaaGreatDoorCards
import Derived.SevenTiedAt
set_option linter.unusedSimpArgs false
set_option linter.unusedVariables false
/- The row of a law: what its walk gives, closed as the row asks it. No condition. -/
namespace Go.Proofs.YtbfimimhgdkpaaaGreatDoor
open Go.ChangeShapes Go.WideShapes Go.ChangeAt Go.RowKit Go.Joins Go.Deep

theorem Tryz.own : ownKnob Tryz.prog.godebug = none := by kernel_rfl
theorem Tryz.laidOut : laidOutB Tryz.prog = true := by kernel_rfl

section
variable {H : Type} {enc : TypeId × Value → H}

theorem trodAll_kp {W W' : World} (hK : Kp W W') {sp : Nat → Bool} : ∀ {ts : List TypeId} {vs : List Value} {ds : List (DataW H)} {ps : List MemPlace},
    (∀ t ∈ ts, Tryz.prog.readableRec t = true ∧ t < Tryz.prog.types.size) → (∀ p ∈ ps, p.block < W.heap.size) → (∀ p ∈ ps, sp p.block = true) →
    DataW.TrodAll enc Tryz.prog W 0 (fun _ => true) true ts vs ds ps → DataW.TrodAll enc Tryz.prog W' 0 sp true ts vs ds ps
  | [], [], [], _, _, _, _, h => h
  | [], _ :: _, _, _, _, _, _, h => h.elim
  | [], [], _ :: _, _, _, _, _, h => h.elim
  | _ :: _, [], _, _, _, _, _, h => h.elim
  | _ :: _, _ :: _, [], _, _, _, _, h => h.elim
  | t :: ts, v :: vs, d :: ds, ps, hr, hlt, hsp, ⟨p, q, h1, h2, e⟩ => by
    subst e
    refine ⟨p, q, ?_, trodAll_kp hK (fun t ht => hr t (by simp [ht])) (fun x hx => hlt x (by simp [hx])) (fun x hx => hsp x (by simp [hx])) h2, rfl⟩
    exact WideElems.Trod_stays Tryz.laidOut (hr t (by simp)).1 (hr t (by simp)).2 h1 (fun x hx => Below.same hK (hlt x (by simp [hx]))) (fun x hx => hsp x (by simp [hx]))

set_option maxRecDepth 100000 in
/-- A law's walk has come to true, and what was there stands: the row's post. -/
theorem law_post {f : Func} {s : ChangeSpec} {apart fresh handsOn again : Bool} {W W' : World} {args : Array Value} {ds : List (DataW H)} {before : List MemPlace}
    (hW : DataW.Whole enc Tryz.prog f.params.toList s.vars apart W args.toList ds [] before) (hv : s.vars = []) (hres : f.resultTypes = #[4])
    (h1 : (s.fn H (ds ++ [])).results = [.lit (.bool true)]) (h2 : (s.fn H (ds ++ [])).args = ds) (h3 : (s.fn H (ds ++ [])).vars = [])
    (hr : ∀ t ∈ f.params.toList, Tryz.prog.readableRec t = true ∧ t < Tryz.prog.types.size) (hK : Kp W W') :
    s.post enc Tryz.prog f apart fresh handsOn again W args (.bool true) W' := by
  have hW' := hW
  obtain ⟨p, q, hA, hV, he, hz, hn⟩ := hW'
  rw [hv] at hV
  obtain ⟨_, rfl⟩ := trodVars_none hV
  rw [List.append_nil] at he
  obtain rfl : p = before := he.symm
  have hlt : ∀ x ∈ p, x.block < W.heap.size := fun x hx => hW.lt x (by simpa using hx)
  have hold : ∀ x ∈ p, (fun b => decide (b < W.heap.size)) x.block = true := fun x hx => by simpa using hlt x hx
  have hresults : ∀ (b : Nat) (sp : Nat → Bool) (hd : Bool), DataW.TrodAll enc Tryz.prog W' b sp hd f.resultTypes.toList ((Value.bool true).resultList f.resultTypes.size) (s.fn H (ds ++ [])).results [] := by
    intro b sp hd
    rw [hres, h1]
    exact trodAll_mk1 (shut_bool Tryz.underlying4 true)
  have hargs : ∀ sp : Nat → Bool, (∀ x ∈ p, sp x.block = true) → DataW.TrodAll enc Tryz.prog W' 0 sp true f.params.toList args.toList (s.fn H (ds ++ [])).args p := by
    intro sp hsp
    rw [h2]
    exact trodAll_kp hK hr hlt hsp hA
  have hvars : ∀ sp : Nat → Bool, DataW.TrodVars enc Tryz.prog W' sp s.vars (s.fn H (ds ++ [])).vars [] := by
    intro sp; rw [hv, h3]; rfl
  refine ⟨ds, [], p, [], p, [], hW, hresults _ _ _, hargs _ hold, hvars _, World.keptBut_mono (fun x hx => ⟨hx, ?_⟩) (Below.frame hK (· ∈ p)), fun _ => ?_⟩
  · exact Or.inr (by simpa using hx)
  · refine ⟨?_, _, _, ([] ++ p) ++ [], ⟨[] ++ p, [], trodAll_append (hargs _ (fun _ _ => rfl)) (hresults _ _ _), hvars _, rfl, ?_, ?_⟩, ?_⟩
    · exact ok_one hres rfl (okWide_bool_mk Tryz.underlying4 true)
    · intro b off hp
      have hin : MemPlace.cell b off ∈ p := by simpa using hp
      rw [Below.frozen hK (hlt _ hin)]
      exact hz b off (by simpa using hin)
    · intro ha
      simpa using hn ha
    · intro x hx _
      simpa using hx

/-- A slice that came in, read as a list. -/
theorem rd_of_slice {α : Type} {W : World} {fuel : Nat} {v : Value} {x : DataW H × List MemPlace} {t e sz : Nat} (enc' : α → List Value) (good : α → Prop) (henc : ∀ y, (enc' y).length = sz) (ht : Tryz.prog.underlying t = some (.slice e)) (hsz : Tryz.prog.cellsOf e = sz) (hs0 : 0 < sz)
    (hel : ∀ (cs : List Value) (n : Nat) (x : DataW H × List MemPlace), DataW.trod enc Tryz.prog W 0 (fun _ => true) true n e cs = some x → ∃ y, cs = enc' y ∧ good y)
    (h : DataW.trod enc Tryz.prog W 0 (fun _ => true) true fuel t [v] = some x) : ∃ A c ys, v = .slice A ys.length c ∧ ys.length ≤ maxLen ∧ Rd W sz enc' A ys ∧ ∀ y ∈ ys, good y := by
  rcases open_slice ht h with ⟨hc, _⟩ | ⟨a, len, cap, m, n, D, Pl, hc, _, hl, hm, hmm, _, hi⟩
  · exact ⟨none, 0, [], by simpa using hc, by simp, Rd.nil _ _ _ _, by simp⟩
  · simp only [if_true] at hmm
    subst hmm
    rw [hsz] at hi
    by_cases h0 : len = 0
    · subst h0
      exact ⟨some a, m, [], by simpa using hc, by simp, Rd.nil _ _ _ _, by simp⟩
    have key : ∀ i, i < len → ∃ y, good y ∧ ∀ j u, (enc' y)[j]? = some u → W.cell? (a.add (i * sz + j)) = some u := by
      intro i hi'
      obtain ⟨cs', hcs, htr⟩ := hi i (by omega)
      obtain ⟨y, rfl, hg⟩ := hel cs' n _ htr
      obtain ⟨_, hlen, hat⟩ := World.cells?_some hcs
      refine ⟨y, hg, fun j u hu => ?_⟩
      have hj : j < sz := by have := (List.getElem?_eq_some_iff.1 hu).1; rw [henc] at this; exact this
      have := hat j hj
      rw [Go.Deep.add_add] at this
      rw [this, hu]
    obtain ⟨y0, hg0, hy0⟩ := key 0 (by omega)
    have hf : ∃ f : Nat → α, ∀ i, i < len → good (f i) ∧ ∀ j u, (enc' (f i))[j]? = some u → W.cell? (a.add (i * sz + j)) = some u := by
      refine ⟨fun i => if hi' : i < len then Classical.choose (key i hi') else y0, fun i hi' => ?_⟩
      simp only [hi', dif_pos]
      exact Classical.choose_spec (key i hi')
    obtain ⟨f, hf⟩ := hf
    have hsp : ∃ b off, a = ⟨b, off, none⟩ := by
      have h1 : 0 < (enc' (f 0)).length := by rw [henc]; exact hs0
      have := (hf 0 (by omega)).2 0 _ (List.getElem?_eq_getElem h1)
      simp only [Nat.zero_mul, Nat.add_zero] at this
      have h2 := World.cell?_spot this
      obtain ⟨b, off, spot⟩ := a
      simp [Addr.add] at h2
      subst h2
      exact ⟨b, off, rfl⟩
    obtain ⟨b, off, rfl⟩ := hsp
    refine ⟨some ⟨b, off, none⟩, m, (List.range len).map f, by simpa using hc, by simp; omega, ?_, ?_⟩
    · intro i hi'
      have hi2 : i < len := by simpa using hi'
      refine ⟨b, off, rfl, fun j u hu => ?_⟩
      have := (hf i hi2).2 j u (by simpa using hu)
      have hadd : (⟨b, off, none⟩ : Addr).add (i * sz + j) = ⟨b, off + i * sz + j, none⟩ := by
        unfold Addr.add; split <;> simp_all [Nat.add_assoc]
      rw [hadd] at this
      exact this
    · intro y hy
      obtain ⟨i, hi', rfl⟩ := List.mem_map.1 hy
      exact (hf i (by simpa using hi')).1
end
end Go.Proofs.YtbfimimhgdkpaaaGreatDoor

/- What the listed variables of the library give the walks of layers 25 and 26. -/
namespace Go.Proofs.YtbfimimhgdkpaaaGreatDoor
open Go.ChangeShapes Go.WideShapes Go.ChangeAt Go.RowKit

def libLaid : List (String × DataW Unit) := [("math/bits.deBruijn32tab", Rows.laid_math_bits_deBruijn32tab), ("math/bits.deBruijn64tab", Rows.laid_math_bits_deBruijn64tab), ("internal/strconv.uint64pow10", Rows.laid_internal_strconv_uint64pow10), ("strconv.ErrRange", Rows.laid_strconv_ErrRange), ("strconv.ErrSyntax", Rows.laid_strconv_ErrSyntax)]
theorem gPow : Tryz.prog.globalNamed "internal/strconv.uint64pow10" = some 0 := by kernel_rfl
theorem tPow : (Tryz.prog.globals[0]?).map (·.type) = some 240 := by kernel_rfl
theorem gRange : Tryz.prog.globalNamed "strconv.ErrRange" = some 3 := by kernel_rfl
theorem tRange : (Tryz.prog.globals[3]?).map (·.type) = some 141 := by kernel_rfl
theorem gSyntax : Tryz.prog.globalNamed "strconv.ErrSyntax" = some 2 := by kernel_rfl
theorem tSyntax : (Tryz.prog.globals[2]?).map (·.type) = some 141 := by kernel_rfl
theorem pow_tab : (Rows.laid_internal_strconv_uint64pow10 : DataW Unit) = Lib.tabData .u64 Lib.pow10Tab := by kernel_rfl
theorem iface_of_trod {H : Type} {enc : TypeId × Value → H} {P : Program} {W : World} {base fuel : Nat} {sp : Nat → Bool} {t : TypeId} {cs : List Value} {d : DataW H} {p : List MemPlace} {nm : String}
    (ht : ∃ ms, P.underlying t = some (.interface ms)) (h : DataW.trod enc P W base sp false fuel t cs = some (.iface nm d, p)) : ∃ u v, cs = [.iface u v] := by
  obtain ⟨ms, ht⟩ := ht
  cases fuel with
  | zero => simp [DataW.trod] at h
  | succ n =>
    unfold DataW.trod at h
    rw [ht] at h
    match cs, h with
    | [.iface u v], _ => exact ⟨u, v, rfl⟩
    | [.nilIface], h => simp at h
    | [], h => simp at h
    | _ :: _ :: _, h => simp at h
    | [.int ..], h => simp at h
    | [.bool _], h => simp at h
    | [.string _], h => simp at h
    | [.float ..], h => simp at h
    | [.complex ..], h => simp at h
    | [.pointer _], h => simp at h
    | [.slice ..], h => simp at h
    | [.agg _], h => simp at h
    | [.tuple _], h => simp at h
    | [.map _], h => simp at h
    | [.nilFunc], h => simp at h
    | [.chan _], h => simp at h
    | [.func ..], h => simp at h
set_option maxRecDepth 100000 in
theorem lib_of_laid {W : World} (h : laidMetH Tryz.prog libLaid W) : LibOk W := by
  unfold libLaid at h
  rw [MakeChecks.laidMetH_plain _ _ _ (by kernel_rfl)] at h
  obtain ⟨ps, ⟨g0, t0, cs0, f0, p0, q0, _, _, _, _, ⟨g1, t1, cs1, f1, p1, q1, _, _, _, _, ⟨g2, t2, cs2, f2, p2, q2, hg2, ht2, hv2, hd2, ⟨g3, t3, cs3, f3, p3, q3, hg3, ht3, hv3, hd3, ⟨g4, t4, cs4, f4, p4, q4, hg4, ht4, hv4, hd4, _, _⟩, _⟩, _⟩, _⟩, _⟩, _, _⟩ := h
  obtain rfl := Option.some.inj (gPow.symm.trans hg2)
  obtain rfl := Option.some.inj (tPow.symm.trans ht2)
  obtain rfl := Option.some.inj (gRange.symm.trans hg3)
  obtain rfl := Option.some.inj (tRange.symm.trans ht3)
  obtain rfl := Option.some.inj (gSyntax.symm.trans hg4)
  obtain rfl := Option.some.inj (tSyntax.symm.trans ht4)
  rw [pow_tab] at hd2
  refine ⟨?_, ?_, ?_⟩
  · unfold Lib.TabIs
    rw [hv2, ← Lib.cells_of_tab Tryz.underlying240 Tryz.underlying175 (by kernel_rfl) (by kernel_rfl) hd2]
  · obtain ⟨u, v, e⟩ := iface_of_trod ⟨_, Tryz.underlying141⟩ hd4
    obtain ⟨l⟩ := cs4
    simp only at e
    subst e
    exact ⟨u, v, hv4⟩
  · obtain ⟨u, v, e⟩ := iface_of_trod ⟨_, Tryz.underlying141⟩ hd3
    obtain ⟨l⟩ := cs3
    simp only at e
    subst e
    exact ⟨u, v, hv3⟩
theorem door_met (os : Os) (args : Array Value) : laidMetH Tryz.prog libLaid ((World.doorLaid Tryz.prog 400 os).forCall (fun _ _ => 0) ⟨#[], args, []⟩).memory :=
  laidMetH_of_parts3 (fuel := 8) (laidMet_of_run' 8 (by kernel_rfl) (by kernel_rfl)) (by kernel_rfl) (by kernel_rfl)
end Go.Proofs.YtbfimimhgdkpaaaGreatDoor

/- Events among a law's arguments, opened. -/
namespace Go.Proofs.YtbfimimhgdkpaaaGreatDoor
open Go.ChangeShapes Go.WideShapes Go.ChangeAt Go.RowKit Go.Joins Go.Deep

theorem len7 {α : Type} {l : List α} (h : l.length = 7) : ∃ c0 c1 c2 c3 c4 c5 c6, l = [c0, c1, c2, c3, c4, c5, c6] := by
  match l, h with
  | [c0, c1, c2, c3, c4, c5, c6], _ => exact ⟨c0, c1, c2, c3, c4, c5, c6, rfl⟩
theorem nat_u32 {n : Int} (h : (Lit.int .u32 n).wf = true) : ∃ a : Nat, n = (a : Int) ∧ a < 4294967296 := by
  simp [Lit.wf, IntKind.min, IntKind.max, IntKind.bits, IntKind.signed] at h
  exact ⟨n.toNat, by omega, by omega⟩
theorem byte_u8 {n : Int} (h : (Lit.int .u8 n).wf = true) : ∃ b : UInt8, n = (b.toNat : Int) := by
  simp [Lit.wf, IntKind.min, IntKind.max, IntKind.bits, IntKind.signed] at h
  exact ⟨UInt8.ofNat n.toNat, by simp; omega⟩
theorem int_i64 {n : Int} (h : (Lit.int .i64 n).wf = true) : -9223372036854775808 ≤ n ∧ n ≤ 9223372036854775807 := by
  simp [Lit.wf, IntKind.min, IntKind.max, IntKind.bits, IntKind.signed] at h
  exact ⟨by omega, by omega⟩
/-- The numbers of an event are what their types hold, its kind and its turn too. -/
structure EvFits (e : Ev) : Prop where
  ok : EvOk e
  k0 : -9223372036854775808 ≤ e.kind
  k1 : e.kind ≤ 9223372036854775807
  c0 : -9223372036854775808 ≤ e.c
  c1 : e.c ≤ 9223372036854775807

section
variable {H : Type} {enc : TypeId × Value → H}
theorem bytes_of {W : World} {v : Value} {x : DataW H × List MemPlace} {n : Nat} (h : DataW.trod enc Tryz.prog W 0 (fun _ => true) true n 25 [v] = some x) : ∃ A c ys, v = .slice A ys.length c ∧ ys.length ≤ maxLen ∧ Rd W 1 byteE A ys := by
  obtain ⟨A, c, ys, e, hm, hR, _⟩ := rd_of_slice (sz := 1) byteE (fun _ => True) (fun _ => rfl) Tryz.underlying25 (by kernel_rfl) (by omega) (fun cs n x hx => by
    obtain ⟨a, ha, _, hw⟩ := DataW.trod_int Tryz.underlying5 hx
    obtain ⟨b, rfl⟩ := byte_u8 hw
    exact ⟨b, ha, trivial⟩) h
  exact ⟨A, c, ys, e, hm, hR⟩
set_option maxRecDepth 100000 in
theorem event_of {W : World} (cs : List Value) (n : Nat) (x : DataW H × List MemPlace) (h : DataW.trod enc Tryz.prog W 0 (fun _ => true) true n 27 cs = some x) : ∃ (e : Ev) (A : Option Addr) (c : Nat), cs = (evC e (.slice A e.bytes.length c)).toList ∧ EvFits e ∧ e.bytes.length ≤ maxLen ∧ Rd W 1 byteE A e.bytes := by
  obtain ⟨xs, m, _, _, hl, hlen, hf⟩ := DataW.trod_struct Tryz.underlying27 h
  have hC : Tryz.prog.cellsOf 27 = 7 := by kernel_rfl
  have hC0 : Tryz.prog.cellsOf 22 = 1 := by kernel_rfl
  have hC1 : Tryz.prog.cellsOf 3 = 1 := by kernel_rfl
  have hC2 : Tryz.prog.cellsOf 2 = 1 := by kernel_rfl
  have hC3 : Tryz.prog.cellsOf 24 = 1 := by kernel_rfl
  have hC4 : Tryz.prog.cellsOf 25 = 1 := by kernel_rfl
  rw [hC] at hl
  obtain ⟨c0, c1, c2, c3, c4, c5, c6, rfl⟩ := len7 hl
  obtain ⟨y0, y1, y2, y3, y4, y5, y6, rfl⟩ := len7 hlen
  clear hl hlen hC h
  have e0 : DataW.trod enc Tryz.prog W 0 (fun _ => true) true m 22 [c0] = some y0 := by
    have this : DataW.trod enc Tryz.prog W 0 (fun _ => true) true m 22 (([c0, c1, c2, c3, c4, c5, c6].drop 0).take (Tryz.prog.cellsOf 22)) = some y0 := hf 0 _ rfl
    rw [hC0] at this; exact this
  have e1 : DataW.trod enc Tryz.prog W 0 (fun _ => true) true m 3 [c1] = some y1 := by
    have this : DataW.trod enc Tryz.prog W 0 (fun _ => true) true m 3 (([c0, c1, c2, c3, c4, c5, c6].drop 1).take (Tryz.prog.cellsOf 3)) = some y1 := hf 1 _ rfl
    rw [hC1] at this; exact this
  have e2 : DataW.trod enc Tryz.prog W 0 (fun _ => true) true m 3 [c2] = some y2 := by
    have this : DataW.trod enc Tryz.prog W 0 (fun _ => true) true m 3 (([c0, c1, c2, c3, c4, c5, c6].drop 2).take (Tryz.prog.cellsOf 3)) = some y2 := hf 2 _ rfl
    rw [hC1] at this; exact this
  have e3 : DataW.trod enc Tryz.prog W 0 (fun _ => true) true m 3 [c3] = some y3 := by
    have this : DataW.trod enc Tryz.prog W 0 (fun _ => true) true m 3 (([c0, c1, c2, c3, c4, c5, c6].drop 3).take (Tryz.prog.cellsOf 3)) = some y3 := hf 3 _ rfl
    rw [hC1] at this; exact this
  have e4 : DataW.trod enc Tryz.prog W 0 (fun _ => true) true m 2 [c4] = some y4 := by
    have this : DataW.trod enc Tryz.prog W 0 (fun _ => true) true m 2 (([c0, c1, c2, c3, c4, c5, c6].drop 4).take (Tryz.prog.cellsOf 2)) = some y4 := hf 4 _ rfl
    rw [hC2] at this; exact this
  have e5 : DataW.trod enc Tryz.prog W 0 (fun _ => true) true m 24 [c5] = some y5 := by
    have this : DataW.trod enc Tryz.prog W 0 (fun _ => true) true m 24 (([c0, c1, c2, c3, c4, c5, c6].drop 5).take (Tryz.prog.cellsOf 24)) = some y5 := hf 5 _ rfl
    rw [hC3] at this; exact this
  have e6 : DataW.trod enc Tryz.prog W 0 (fun _ => true) true m 25 [c6] = some y6 := by
    have this : DataW.trod enc Tryz.prog W 0 (fun _ => true) true m 25 (([c0, c1, c2, c3, c4, c5, c6].drop 6).take (Tryz.prog.cellsOf 25)) = some y6 := hf 6 _ rfl
    rw [hC4] at this; exact this
  clear hf
  obtain ⟨n0, h0, _, w0⟩ := DataW.trod_int Tryz.underlying22 e0
  obtain ⟨n1, h1, _, w1⟩ := DataW.trod_int Tryz.underlying3 e1
  obtain ⟨n2, h2, _, w2⟩ := DataW.trod_int Tryz.underlying3 e2
  obtain ⟨n3, h3, _, w3⟩ := DataW.trod_int Tryz.underlying3 e3
  obtain ⟨n4, h4, _, w4⟩ := DataW.trod_int Tryz.underlying2 e4
  obtain ⟨n5, h5, _, w5⟩ := DataW.trod_int Tryz.underlying24 e5
  obtain ⟨A, c, ys, h6, hm, hR⟩ := bytes_of e6
  clear e0 e1 e2 e3 e4 e5 e6
  simp only [List.cons.injEq, and_true] at h0 h1 h2 h3 h4 h5
  obtain ⟨s, rfl, hs⟩ := nat_u32 w5
  subst h0 h1 h2 h3 h4 h5 h6
  obtain ⟨k0, k1⟩ := int_i64 w0
  obtain ⟨a0, a1⟩ := int_i64 w1
  obtain ⟨b0, b1⟩ := int_i64 w2
  obtain ⟨t0, t1⟩ := int_i64 w3
  obtain ⟨d0, d1⟩ := int_i64 w4
  exact ⟨⟨n0, n1, n2, n3, n4, s, ys⟩, A, c, rfl, ⟨⟨a0, a1, b0, b1, d0, d1, hs⟩, k0, k1, t0, t1⟩, hm, hR⟩
set_option maxRecDepth 100000 in
theorem open_event {W : World} {base : Nat} {v : Value} {d : DataW H} {p : List MemPlace} (hv : Value.okWide Tryz.prog W .any base 27 v) (h : DataW.Trod enc Tryz.prog W 0 (fun _ => true) true 27 v d p) :
    ∃ (e : Ev) (A : Option Addr) (c : Nat), v = evV e (.slice A e.bytes.length c) ∧ EvFits e ∧ e.bytes.length ≤ maxLen ∧ Rd W 1 byteE A e.bytes := by
  obtain ⟨cs, rfl, hsz⟩ := okWide_struct Tryz.underlying27 hv
  obtain ⟨fuel, hf⟩ := h
  obtain ⟨e, A, c, hr, hfit, hm, hR⟩ := event_of _ _ _ hf
  refine ⟨e, A, c, ?_, hfit, hm, hR⟩
  have : cs = evC e (.slice A e.bytes.length c) := by
    apply Array.ext'
    simpa [Value.cells] using hr
  rw [this]
  rfl
end
end Go.Proofs.YtbfimimhgdkpaaaGreatDoor

/- Routes among a law's arguments, opened (layer 25). -/
namespace Go.Proofs.YtbfimimhgdkpaaaGreatDoor
open Go.ChangeShapes Go.WideShapes Go.ChangeAt Go.RowKit Go.Joins Go.Deep

theorem len9 {l : List Value} (h : l.length = 9) : ∃ c0 c1 c2 c3 c4 c5 c6 c7 c8, l = [c0, c1, c2, c3, c4, c5, c6, c7, c8] := by
  match l, h with
  | [c0, c1, c2, c3, c4, c5, c6, c7, c8], _ => exact ⟨c0, c1, c2, c3, c4, c5, c6, c7, c8, rfl⟩
theorem len8 {α : Type} {l : List α} (h : l.length = 8) : ∃ c0 c1 c2 c3 c4 c5 c6 c7, l = [c0, c1, c2, c3, c4, c5, c6, c7] := by
  match l, h with
  | [c0, c1, c2, c3, c4, c5, c6, c7], _ => exact ⟨c0, c1, c2, c3, c4, c5, c6, c7, rfl⟩
theorem two_of {α : Type} {l : List α} (h : l.length = 2) : ∃ a b, l = [a, b] := by
  match l, h with
  | [a, b], _ => exact ⟨a, b, rfl⟩
theorem nat_of_u32 {n : Int} (h : (Lit.int .u32 n).wf = true) : ∃ a : Nat, n = (a : Int) ∧ a < 4294967296 := by
  simp [Lit.wf, IntKind.min, IntKind.max, IntKind.bits, IntKind.signed] at h
  exact ⟨n.toNat, by omega, by omega⟩

section
variable {H : Type} {enc : TypeId × Value → H}
set_option maxRecDepth 100000 in
theorem pfx_of {W : World} {base : Nat} {sp : Nat → Bool} {held : Bool} (cs : List Value) (n : Nat) (x : DataW H × List MemPlace) (h : DataW.trod enc Tryz.prog W base sp held n 42 cs = some x) : ∃ (a : Nat) (l : Int), cs = [.int .u32 a, .int .i64 l] ∧ a < 4294967296 ∧ -9223372036854775808 ≤ l ∧ l ≤ 9223372036854775807 := by
  obtain ⟨xs, m, _, _, hl, hlen, hf⟩ := DataW.trod_struct Tryz.underlying42 h
  have hC : Tryz.prog.cellsOf 42 = 2 := by kernel_rfl
  have hCi : Tryz.prog.cellsOf 3 = 1 := by kernel_rfl
  have hCa : Tryz.prog.cellsOf 24 = 1 := by kernel_rfl
  rw [hC] at hl
  obtain ⟨c0, c1, rfl⟩ := two_of hl
  obtain ⟨y0, y1, rfl⟩ := two_of hlen
  have e0 : DataW.trod enc Tryz.prog W base sp held m 24 [c0] = some y0 := by
    have this : DataW.trod enc Tryz.prog W base sp held m 24 (([c0, c1].drop 0).take (Tryz.prog.cellsOf 24)) = some y0 := hf 0 _ rfl
    rw [hCa] at this; exact this
  have e1 : DataW.trod enc Tryz.prog W base sp held m 3 [c1] = some y1 := by
    have this : DataW.trod enc Tryz.prog W base sp held m 3 (([c0, c1].drop 1).take (Tryz.prog.cellsOf 3)) = some y1 := hf 1 _ rfl
    rw [hCi] at this; exact this
  obtain ⟨a, ha, _, hw⟩ := DataW.trod_int Tryz.underlying24 e0
  obtain ⟨b, hb, _, hw1⟩ := DataW.trod_int Tryz.underlying3 e1
  simp at ha hb
  subst ha hb
  obtain ⟨a', rfl, hlt⟩ := nat_of_u32 hw
  exact ⟨a', b, rfl, hlt, int_i64 hw1⟩

set_option maxRecDepth 100000 in
theorem route_of {W : World} {base : Nat} {sp : Nat → Bool} {held : Bool} (cs : List Value) (n : Nat) (x : DataW H × List MemPlace) (h : DataW.trod enc Tryz.prog W base sp held n 45 cs = some x) : ∃ y : Rt, cs = y.enc ∧ RtOk y := by
  obtain ⟨xs, m, _, _, hl, hlen, hf⟩ := DataW.trod_struct Tryz.underlying45 h
  have hC : Tryz.prog.cellsOf 45 = 9 := by kernel_rfl
  have hCp : Tryz.prog.cellsOf 42 = 2 := by kernel_rfl
  have hCs : Tryz.prog.cellsOf 43 = 1 := by kernel_rfl
  have hCi : Tryz.prog.cellsOf 3 = 1 := by kernel_rfl
  have hCl : Tryz.prog.cellsOf 2 = 1 := by kernel_rfl
  have hCa : Tryz.prog.cellsOf 24 = 1 := by kernel_rfl
  have hCb : Tryz.prog.cellsOf 4 = 1 := by kernel_rfl
  rw [hC] at hl
  obtain ⟨c0, c1, c2, c3, c4, c5, c6, c7, c8, rfl⟩ := len9 hl
  obtain ⟨y0, y1, y2, y3, y4, y5, y6, y7, rfl⟩ := len8 hlen
  clear hl hlen hC h
  have e0 : DataW.trod enc Tryz.prog W base sp held m 42 [c0, c1] = some y0 := by
    have this : DataW.trod enc Tryz.prog W base sp held m 42 (([c0, c1, c2, c3, c4, c5, c6, c7, c8].drop 0).take (Tryz.prog.cellsOf 42)) = some y0 := hf 0 _ rfl
    rw [hCp] at this; exact this
  have e1 : DataW.trod enc Tryz.prog W base sp held m 43 [c2] = some y1 := by
    have this : DataW.trod enc Tryz.prog W base sp held m 43 (([c0, c1, c2, c3, c4, c5, c6, c7, c8].drop 2).take (Tryz.prog.cellsOf 43)) = some y1 := hf 1 _ rfl
    rw [hCs] at this; exact this
  have e2 : DataW.trod enc Tryz.prog W base sp held m 3 [c3] = some y2 := by
    have this : DataW.trod enc Tryz.prog W base sp held m 3 (([c0, c1, c2, c3, c4, c5, c6, c7, c8].drop 3).take (Tryz.prog.cellsOf 3)) = some y2 := hf 2 _ rfl
    rw [hCi] at this; exact this
  have e3 : DataW.trod enc Tryz.prog W base sp held m 3 [c4] = some y3 := by
    have this : DataW.trod enc Tryz.prog W base sp held m 3 (([c0, c1, c2, c3, c4, c5, c6, c7, c8].drop 4).take (Tryz.prog.cellsOf 3)) = some y3 := hf 3 _ rfl
    rw [hCi] at this; exact this
  have e4 : DataW.trod enc Tryz.prog W base sp held m 3 [c5] = some y4 := by
    have this : DataW.trod enc Tryz.prog W base sp held m 3 (([c0, c1, c2, c3, c4, c5, c6, c7, c8].drop 5).take (Tryz.prog.cellsOf 3)) = some y4 := hf 4 _ rfl
    rw [hCi] at this; exact this
  have e5 : DataW.trod enc Tryz.prog W base sp held m 24 [c6] = some y5 := by
    have this : DataW.trod enc Tryz.prog W base sp held m 24 (([c0, c1, c2, c3, c4, c5, c6, c7, c8].drop 6).take (Tryz.prog.cellsOf 24)) = some y5 := hf 5 _ rfl
    rw [hCa] at this; exact this
  have e6 : DataW.trod enc Tryz.prog W base sp held m 2 [c7] = some y6 := by
    have this : DataW.trod enc Tryz.prog W base sp held m 2 (([c0, c1, c2, c3, c4, c5, c6, c7, c8].drop 7).take (Tryz.prog.cellsOf 2)) = some y6 := hf 6 _ rfl
    rw [hCl] at this; exact this
  have e7 : DataW.trod enc Tryz.prog W base sp held m 4 [c8] = some y7 := by
    have this : DataW.trod enc Tryz.prog W base sp held m 4 (([c0, c1, c2, c3, c4, c5, c6, c7, c8].drop 8).take (Tryz.prog.cellsOf 4)) = some y7 := hf 7 _ rfl
    rw [hCb] at this; exact this
  clear hf
  obtain ⟨a, l, hp, hpl, hl0, hl1⟩ := pfx_of _ _ _ e0
  obtain ⟨s, hs, _, w1⟩ := DataW.trod_int Tryz.underlying43 e1
  obtain ⟨mm, hm, _, w2⟩ := DataW.trod_int Tryz.underlying3 e2
  obtain ⟨ll, hll, _, w3⟩ := DataW.trod_int Tryz.underlying3 e3
  obtain ⟨f, hff, _, w4⟩ := DataW.trod_int Tryz.underlying3 e4
  obtain ⟨xx, hx, _, hw⟩ := DataW.trod_int Tryz.underlying24 e5
  obtain ⟨d, hd, _, w6⟩ := DataW.trod_int Tryz.underlying2 e6
  obtain ⟨b, hb, _⟩ := DataW.trod_bool Tryz.underlying4 e7
  clear e0 e1 e2 e3 e4 e5 e6 e7
  simp only [List.cons.injEq, and_true] at hp hs hm hll hff hx hd hb
  obtain ⟨x', rfl, hlt⟩ := nat_of_u32 hw
  obtain ⟨rfl, rfl⟩ := hp
  subst hs hm hll hff hx hd hb
  obtain ⟨s0, s1⟩ := int_i64 w1
  obtain ⟨m0, m1⟩ := int_i64 w2
  obtain ⟨t0, t1⟩ := int_i64 w3
  obtain ⟨f0, f1⟩ := int_i64 w4
  obtain ⟨d0, d1⟩ := int_i64 w6
  exact ⟨⟨⟨a, l⟩, s, mm, ll, f, x', d, b⟩, rfl, ⟨hpl, hl0, hl1, s0, s1, m0, m1, t0, t1, f0, f1, hlt, d0, d1⟩⟩

set_option maxRecDepth 100000 in
theorem open_route {W : World} {base : Nat} {v : Value} {d : DataW H} {p : List MemPlace} (hv : Value.okWide Tryz.prog W .any base 45 v) (h : DataW.Trod enc Tryz.prog W 0 (fun _ => true) true 45 v d p) : ∃ r : Rt, v = .agg (rtA r) ∧ RtOk r := by
  obtain ⟨cs, rfl, hsz⟩ := okWide_struct Tryz.underlying45 hv
  obtain ⟨fuel, hf⟩ := h
  obtain ⟨r, hr, hfit⟩ := route_of _ _ _ hf
  refine ⟨r, ?_, hfit⟩
  have : cs = r.enc.toArray := by
    apply Array.ext'
    simpa [Value.cells] using hr
  rw [this]
  rfl
end
end Go.Proofs.YtbfimimhgdkpaaaGreatDoor

/- prefix.Order and ref02.Order over layer 25's seat. No condition. -/
namespace Go.Proofs.YtbfimimhgdkpaaaGreatDoor
open Go.RowKit

def cmpI (x y : Int) : Int := if x < y then -1 else if y < x then 1 else 0
def ordI (a l b k : Int) : Int := if cmpI a b = 0 then cmpI l k else cmpI a b

theorem nanA_any (x : Int) (w : World) : Calls Tryz.prog 170 #[.int .u32 x] w fun e w' => e = .returned (.bool false) ∧ w = w' := by
  go_enter Tryz.func170, Tryz.ntmps170
  go_wp2_with fail
  go_ret
  exact ⟨rfl, rfl⟩
theorem nanI_any (x : Int) (w : World) : Calls Tryz.prog 171 #[.int .i64 x] w fun e w' => e = .returned (.bool false) ∧ w = w' := by
  go_enter Tryz.func171, Tryz.ntmps171
  go_wp2_with fail
  go_ret
  exact ⟨rfl, rfl⟩
set_option maxHeartbeats 400000 in
theorem cmpA_any (x y : Int) (w : World) : Calls Tryz.prog 117 #[.int .u32 x, .int .u32 y] w fun e w' => e = .returned (.int .i64 (cmpI x y)) ∧ w = w' := by
  obtain ⟨r, hr⟩ : ∃ r, cmpI x y = r := ⟨_, rfl⟩
  rw [hr]
  have Hr := Lib.hid hr; clear hr
  by_cases h1 : x < y
  · have d1 : decide (x < y) = true := by simpa using h1
    have e : r = -1 := by rw [← Hr.out]; simp [cmpI, h1]
    subst e
    clear h1 Hr
    go_enter Tryz.func117, Tryz.ntmps117
    go_wp2_with (go_at_call 170; refine (nanA_any _ _).mono ?_; rintro e w' ⟨rfl, rfl⟩)
    go_ret
    exact ⟨rfl, rfl⟩
  · have d1 : decide (x < y) = false := by simpa using h1
    by_cases h2 : y < x
    · have d2 : decide (y < x) = true := by simpa using h2
      have e : r = 1 := by rw [← Hr.out]; simp [cmpI, h1, h2]
      subst e
      clear h1 h2 Hr
      go_enter Tryz.func117, Tryz.ntmps117
      go_wp2_with (go_at_call 170; refine (nanA_any _ _).mono ?_; rintro e w' ⟨rfl, rfl⟩)
      go_ret
      exact ⟨rfl, rfl⟩
    · have d2 : decide (y < x) = false := by simpa using h2
      have e : r = 0 := by rw [← Hr.out]; simp [cmpI, h1, h2]
      subst e
      clear h1 h2 Hr
      go_enter Tryz.func117, Tryz.ntmps117
      go_wp2_with (go_at_call 170; refine (nanA_any _ _).mono ?_; rintro e w' ⟨rfl, rfl⟩)
      go_ret
      exact ⟨rfl, rfl⟩
set_option maxHeartbeats 400000 in
theorem cmpL_any (x y : Int) (w : World) : Calls Tryz.prog 118 #[.int .i64 x, .int .i64 y] w fun e w' => e = .returned (.int .i64 (cmpI x y)) ∧ w = w' := by
  obtain ⟨r, hr⟩ : ∃ r, cmpI x y = r := ⟨_, rfl⟩
  rw [hr]
  have Hr := Lib.hid hr; clear hr
  by_cases h1 : x < y
  · have d1 : decide (x < y) = true := by simpa using h1
    have e : r = -1 := by rw [← Hr.out]; simp [cmpI, h1]
    subst e
    clear h1 Hr
    go_enter Tryz.func118, Tryz.ntmps118
    go_wp2_with (go_at_call 171; refine (nanI_any _ _).mono ?_; rintro e w' ⟨rfl, rfl⟩)
    go_ret
    exact ⟨rfl, rfl⟩
  · have d1 : decide (x < y) = false := by simpa using h1
    by_cases h2 : y < x
    · have d2 : decide (y < x) = true := by simpa using h2
      have e : r = 1 := by rw [← Hr.out]; simp [cmpI, h1, h2]
      subst e
      clear h1 h2 Hr
      go_enter Tryz.func118, Tryz.ntmps118
      go_wp2_with (go_at_call 171; refine (nanI_any _ _).mono ?_; rintro e w' ⟨rfl, rfl⟩)
      go_ret
      exact ⟨rfl, rfl⟩
    · have d2 : decide (y < x) = false := by simpa using h2
      have e : r = 0 := by rw [← Hr.out]; simp [cmpI, h1, h2]
      subst e
      clear h1 h2 Hr
      go_enter Tryz.func118, Tryz.ntmps118
      go_wp2_with (go_at_call 171; refine (nanI_any _ _).mono ?_; rintro e w' ⟨rfl, rfl⟩)
      go_ret
      exact ⟨rfl, rfl⟩

set_option maxRecDepth 100000 in
set_option maxHeartbeats 1000000 in
theorem cor_any (x y : Int) (g : Nat) (w : World) (hB : Blk w g 3 #[.int .i64 x, .int .i64 y]) : Calls Tryz.prog 116 #[.slice (some ⟨g, 0, none⟩) 2 2] w fun e w' => e = .returned (.int .i64 (if x = 0 then y else x)) ∧ w = w' := by
  have c0 : w.cell? ⟨g, 0, none⟩ = some (.int .i64 x) := hB.cell 0
  have c1 : w.cell? ⟨g, 1, none⟩ = some (.int .i64 y) := hB.cell 1
  clear hB
  obtain ⟨r, hr⟩ : ∃ r, (if x = 0 then y else x) = r := ⟨_, rfl⟩
  rw [hr]
  have Hr := Lib.hid hr; clear hr
  go_enter Tryz.func116, Tryz.ntmps116
  go_wp2_with fail
  go_loop [8] (fun i => ∃ k : Nat, k ≤ 2 ∧ i = .int .i64 k ∧ Hid (0 < k → x = 0) ∧ Hid (1 < k → y = 0)) (fun i => 2 - (intOf i).toNat)
  case atStart => exact ⟨0, by omega, rfl, fun h => absurd h (by omega), fun h => absurd h (by omega)⟩
  case round =>
    obtain ⟨k, hk, rfl, h0, h1⟩ := hrel
    have hc3 : k = 0 ∨ k = 1 ∨ k = 2 := by omega
    rcases hc3 with rfl | rfl | rfl
    · by_cases hx : x = 0
      · subst hx
        go_wp2_with fail
        go_round
        case rel => exact ⟨1, by omega, by go_num, fun _ => by trivial, fun h => absurd h (by omega)⟩
        case measure => simp [intOf]
      · have hx1 : (x != 0) = true := by simpa using hx
        have e : r = x := by rw [← Hr.out, if_neg hx]
        subst e
        clear hx Hr
        go_wp2_with fail
        go_ret
        exact ⟨rfl, rfl⟩
    · have hx : x = 0 := h0.out (by omega)
      subst hx
      have e : r = y := by rw [← Hr.out, if_pos rfl]
      subst e
      clear Hr h0 h1
      by_cases hy : r = 0
      · subst hy
        go_wp2_with fail
        go_round
        case rel => exact ⟨2, by omega, by go_num, fun _ => by trivial, fun _ => by trivial⟩
        case measure => simp [intOf]
      · have hy1 : (r != 0) = true := by simpa using hy
        clear hy
        go_wp2_with fail
        go_ret
        exact ⟨rfl, rfl⟩
    · have hx : x = 0 := h0.out (by omega)
      have hy : y = 0 := h1.out (by omega)
      subst hx hy
      have e : r = 0 := by rw [← Hr.out, if_pos rfl]
      subst e
      clear Hr h0 h1
      go_wp2_with fail
      go_ret
      exact ⟨rfl, rfl⟩

set_option maxRecDepth 100000 in
set_option maxHeartbeats 1000000 in
theorem order_any (a l b k : Int) (w : World) : Calls Tryz.prog 77 #[.agg #[.int .u32 a, .int .i64 l], .agg #[.int .u32 b, .int .i64 k]] w fun e w' => e = .returned (.int .i64 (ordI a l b k)) ∧ Kp w w' := by
  obtain ⟨W, hW, kW, B0, B1⟩ : ∃ W, (w.alloc (.cells #[.int .u32 a, .int .i64 l] 42)).alloc (.cells #[.int .u32 b, .int .i64 k] 42) = W ∧ Kp w W ∧ Blk W w.heap.size 42 #[.int .u32 a, .int .i64 l] ∧ Blk W (w.heap.size + 1) 42 #[.int .u32 b, .int .i64 k] := ⟨_, rfl, ((Kp.refl _).alloc _).alloc _, (Blk.new w _ _).alloc _, Blk.new1 w _ _ _⟩
  obtain ⟨x, hx⟩ : ∃ x, cmpI a b = x := ⟨_, rfl⟩
  obtain ⟨y, hy⟩ : ∃ y, cmpI l k = y := ⟨_, rfl⟩
  have Hx := Lib.hid hx
  have Hy := Lib.hid hy
  have Hr : Hid (ordI a l b k = if x = 0 then y else x) := by rw [← hx, ← hy]; exact Lib.hid rfl
  clear hx hy
  go_enter Tryz.func77, Tryz.ntmps77
  go_wp2_with fail
  refine wp_tail 10 (by kernel_rfl) (by kernel_rfl) (fun V hV => ?_)
  have KV : Kp W V := by rw [hV]; exact (Kp.refl _).drew
  have p0 : V.cell? ⟨w.heap.size, 0, none⟩ = some (.int .u32 a) := (B0.keep KV).cell 0
  have p1 : V.cell? ⟨w.heap.size, 1, none⟩ = some (.int .i64 l) := (B0.keep KV).cell 1
  have q0 : V.cell? ⟨w.heap.size + 1, 0, none⟩ = some (.int .u32 b) := (B1.keep KV).cell 0
  have q1 : V.cell? ⟨w.heap.size + 1, 1, none⟩ = some (.int .i64 k) := (B1.keep KV).cell 1
  clear hV hW
  simp only [List.take_succ_cons, List.take_zero, List.drop_succ_cons, List.drop_zero]
  still_step
  still_step
  still_step
  still_step
  still_call (by refine (cmpA_any a b _).mono ?_; rintro e w' ⟨rfl, rfl⟩; rw [Hx.out]; exact ⟨rfl, rfl⟩)
  still_step
  still_step
  still_step
  still_step
  still_call (by refine (cmpL_any l k _).mono ?_; rintro e w' ⟨rfl, rfl⟩; rw [Hy.out]; exact ⟨rfl, rfl⟩)
  refine wpStill_nil ?_
  clear p0 p1 q0 q1
  go_wp2_with fail
  refine (cor_any x y V.heap.size _ (Blk.new V _ _)).mono ?_
  rintro e w' ⟨rfl, rfl⟩
  rw [← Hr.out]
  go_wp2_with fail
  go_ret
  exact ⟨rfl, (kW.trans KV).alloc _⟩
set_option maxRecDepth 100000 in
theorem pfx_eqv (w : World) (a l b k : Int) : (binOp .eql 42 (.agg #[.int .u32 a, .int .i64 l]) (.agg #[.int .u32 b, .int .i64 k])).run Tryz.prog w = .ok (.bool (a == b && l == k)) w := by
  rw [run_eql_struct, run_equalIn_agg w 9999 _ _ _ Tryz.underlying42 (by kernel_rfl)]
  simp [Op.eqFields, part, go_sem, Tryz.underlying3, Tryz.underlying24]
  by_cases h1 : a = b <;> by_cases h2 : l = k <;> simp [h1, h2]
theorem cmpI_lt {x y : Int} (h : x < y) : cmpI x y = -1 := by unfold cmpI; rw [if_pos h]
theorem cmpI_gt {x y : Int} (h : y < x) : cmpI x y = 1 := by unfold cmpI; rw [if_neg (by omega), if_pos h]
theorem cmpI_eq (x : Int) : cmpI x x = 0 := by unfold cmpI; rw [if_neg (by omega), if_neg (by omega)]
set_option maxRecDepth 100000 in
set_option maxHeartbeats 1000000 in
theorem rorder25_any (a l b k : Int) (w : World) : Calls Tryz.prog 78 #[.agg #[.int .u32 a, .int .i64 l], .agg #[.int .u32 b, .int .i64 k]] w fun e w' => e = .returned (.int .i64 (ordI a l b k)) ∧ Kp w w' := by
  have k2 : Kp w ((w.alloc (.cells #[.int .u32 a, .int .i64 l] 42)).alloc (.cells #[.int .u32 b, .int .i64 k] 42)) := ((Kp.refl _).alloc _).alloc _
  have hf := pfx_eqv
  rcases Int.lt_trichotomy a b with h1 | h1 | h1
  · have e : ordI a l b k = -1 := by unfold ordI; rw [cmpI_lt h1, if_neg (by decide)]
    rw [e]
    have d0 : (a == b) = false := by rw [beq_eq_false_iff_ne]; omega
    have d1 : decide (a < b) = true := by simpa using h1
    clear e
    go_enter Tryz.func78, Tryz.ntmps78
    go_wp2_with fail
    all_goals first
      | (go_ret; exact ⟨rfl, k2⟩)
      | omega
  · subst h1
    have d0 : (a == a) = true := by simp
    have d1 : decide (a < a) = false := by simp
    rcases Int.lt_trichotomy l k with h2 | h2 | h2
    · have e : ordI a l a k = -1 := by unfold ordI; rw [cmpI_eq, if_pos rfl, cmpI_lt h2]
      rw [e]
      have d2 : (l == k) = false := by rw [beq_eq_false_iff_ne]; omega
      have d3 : decide (l < k) = true := by simpa using h2
      clear e
      go_enter Tryz.func78, Tryz.ntmps78
      go_wp2_with fail
      all_goals first
        | (go_ret; exact ⟨rfl, k2⟩)
        | omega
    · subst h2
      have e : ordI a l a l = 0 := by unfold ordI; rw [cmpI_eq, if_pos rfl, cmpI_eq]
      rw [e]
      have d2 : (l == l) = true := by simp
      clear e
      go_enter Tryz.func78, Tryz.ntmps78
      go_wp2_with fail
      all_goals first
        | (go_ret; exact ⟨rfl, k2⟩)
        | omega
    · have e : ordI a l a k = 1 := by unfold ordI; rw [cmpI_eq, if_pos rfl, cmpI_gt h2]
      rw [e]
      have d2 : (l == k) = false := by rw [beq_eq_false_iff_ne]; omega
      have d3 : decide (l < k) = false := by rw [decide_eq_false_iff_not]; omega
      clear e
      go_enter Tryz.func78, Tryz.ntmps78
      go_wp2_with fail
      all_goals first
        | (go_ret; exact ⟨rfl, k2⟩)
        | omega
  · have e : ordI a l b k = 1 := by unfold ordI; rw [cmpI_gt h1, if_neg (by decide)]
    rw [e]
    have d0 : (a == b) = false := by rw [beq_eq_false_iff_ne]; omega
    have d1 : decide (a < b) = false := by rw [decide_eq_false_iff_not]; omega
    clear e
    go_enter Tryz.func78, Tryz.ntmps78
    go_wp2_with fail
    all_goals first
      | (go_ret; exact ⟨rfl, k2⟩)
      | omega
end Go.Proofs.YtbfimimhgdkpaaaGreatDoor

/- Routes of lines, by the program and by the reference. No condition but the library's variables and the stated bounds. -/
namespace Go.Proofs.YtbfimimhgdkpaaaGreatDoor
open Go.RowKit
theorem ERt : ElemOf Tryz.prog 69 45 (.agg #[.int .u32 0, .int .i64 0, .int .i64 0, .int .i64 0, .int .i64 0, .int .i64 0, .int .u32 0, .int .i64 0, .bool false]) 9 72 := ⟨Tryz.underlying69, by kernel_rfl, rfl, by decide⟩
/-- May a route stand behind others? -/
def okNext (acc : List Rt) (x : Rt) : Bool := match acc.getLast? with
  | none => true
  | some y => decide (ordI y.p.a y.p.l x.p.a x.p.l < 0)
/-- The routes of lines, how many lines were read, an error. -/
def rtsL (acc : List Rt) : List (List UInt8) → List Rt × Nat × Int
  | [] => (acc, acc.length, 0)
  | s :: t => match parseV s with
    | none => ([], acc.length, 250)
    | some r => if okNext acc r = true then rtsL (acc ++ [r]) t else ([], acc.length, 250)
theorem okNext_nil (x : Rt) : okNext [] x = true := rfl
theorem okNext_at {acc : List Rt} {x : Rt} {m : Nat} (h : acc.length = m + 1) : okNext acc x = decide (ordI (acc[m]'(by omega)).p.a (acc[m]'(by omega)).p.l x.p.a x.p.l < 0) := by
  have e : acc.getLast? = some (acc[m]'(by omega)) := by
    have h2 : acc.length - 1 = m := by omega
    rw [List.getLast?_eq_getElem?, h2, List.getElem?_eq_getElem (by omega)]
  unfold okNext
  rw [e]
theorem rtsL_none {acc : List Rt} {l : List (List UInt8)} {i : Nat} (hi : i < l.length) (h : parseV l[i] = none) : rtsL acc (l.drop i) = ([], acc.length, 250) := by
  rw [List.drop_eq_getElem_cons hi, rtsL, h]
theorem rtsL_bad {acc : List Rt} {l : List (List UInt8)} {i : Nat} {r : Rt} (hi : i < l.length) (h : parseV l[i] = some r) (hn : okNext acc r = false) : rtsL acc (l.drop i) = ([], acc.length, 250) := by
  rw [List.drop_eq_getElem_cons hi, rtsL, h]
  simp only
  rw [if_neg (by rw [hn]; decide)]
theorem rtsL_next {acc : List Rt} {l : List (List UInt8)} {i : Nat} {r : Rt} (hi : i < l.length) (h : parseV l[i] = some r) (hn : okNext acc r = true) : rtsL acc (l.drop i) = rtsL (acc ++ [r]) (l.drop (i + 1)) := by
  rw [List.drop_eq_getElem_cons hi, rtsL, h]
  simp only
  rw [if_pos hn]
theorem rtsL_end {acc : List Rt} {l : List (List UInt8)} {i : Nat} (hi : i = l.length) : rtsL acc (l.drop i) = (acc, acc.length, 0) := by
  rw [List.drop_eq_nil_of_le (by omega), rtsL]
structure RtsR (w : World) (ls : List (List UInt8)) (i : Nat) (v : Value) (acc : List Rt) (wr : World) : Prop where
  kp : Kp w wr
  own : Own wr w.heap.size 45 9 Rt.enc v acc
  len : acc.length = i
  more : rtsL [] ls = rtsL acc (ls.drop i)
def RtsP (ls : List (List UInt8)) (w : World) (e : Ending) (w' : World) : Prop :=
  Kp w w' ∧ ∃ A c, e = .returned (.tuple #[.slice A (rtsL [] ls).1.length c, .int .i64 ((rtsL [] ls).2.1 : Int), .int .i64 (rtsL [] ls).2.2]) ∧ Rd w' 9 Rt.enc A (rtsL [] ls).1
theorem rt_at {w : World} {A : Option Addr} {xs : List Rt} (h : Rd w 9 Rt.enc A xs) {k : Nat} (hk : k < xs.length) : ∃ b off : Nat, A = some ⟨b, off, none⟩ ∧ w.cell? ⟨b, off + k * 9, none⟩ = some (.int .u32 (xs[k].p.a : Int)) ∧ w.cell? ⟨b, off + k * 9 + 1, none⟩ = some (.int .i64 xs[k].p.l) := by
  obtain ⟨b, off, e, hc⟩ := h k hk
  exact ⟨b, off, e, by simpa using hc 0 _ rfl, by simpa using hc 1 _ rfl⟩
set_option maxRecDepth 100000 in
set_option maxHeartbeats 4000000 in
theorem vroutes_any (ls : List (List UInt8)) (A : Option Addr) (c : Nat) (w : World) (L : LibOk w) (hR : Rd w 1 strE A ls) (hl : ls.length ≤ 1000) (hle : ∀ u ∈ ls, u.length ≤ 200) : Calls Tryz.prog 31 #[.slice A ls.length c] w (RtsP ls w) := by
  have HR := Lib.hid hR
  have Hle := Lib.hid (show ∀ i (h : i < ls.length), (ls[i]'h).length ≤ 200 from fun i h => hle _ (List.getElem_mem h))
  have R0 : Hid (RtsR w ls 0 (.slice none 0 0) [] w) := Lib.hid ⟨Kp.refl _, Own.nil _ _ _ _ _, rfl, rfl⟩
  clear hR hle
  go_enter Tryz.func31, Tryz.ntmps31
  go_wp2_with fail
  go_loopw [2, 11] (fun v k wr => ∃ (i : Nat) (acc : List Rt), i ≤ ls.length ∧ k = .int .i64 i ∧ Hid (RtsR w ls i v acc wr)) (fun _ k _ => ls.length - (intOf k).toNat)
  case atStart => exact ⟨0, [], by omega, rfl, R0⟩
  case round =>
    obtain ⟨i, acc, hi, rfl, R⟩ := hrel
    have hlen := R.out.len
    have Hlen := Lib.hid hlen
    have hO := R.out.own
    obtain ⟨A2, c2, hv⟩ := hO.form
    subst hv
    have hsz := R.out.kp.size
    rw [hlen] at hO
    by_cases hlt : i < ls.length
    · have hgi : (i : Int) < (ls.length : Int) := by omega
      have hg0 : (0 : Int) ≤ (i : Int) := by omega
      obtain ⟨b, off, hA, hcw⟩ := str_at (HR.out.keep R.out.kp) hlt
      subst hA
      obtain ⟨u, hu⟩ : ∃ u, ls[i] = u := ⟨_, rfl⟩
      rw [hu] at hcw
      have Hu := Lib.hid hu
      have hul : u.length ≤ 200 := by rw [← hu]; exact Hle.out i hlt
      clear hu hlen
      rw [Hlen.out]
      go_wp2_with fail
      refine (vparse_any (strB u) (by rw [sz_strB]; omega) _ (L.keep R.out.kp)).mono ?_
      rintro e w1 ⟨K1, hY, hN⟩
      rw [strB_list] at hY hN
      obtain ⟨g, hg⟩ : ∃ g, w1.heap.size = g := ⟨_, rfl⟩
      have hO1 := hO.keep K1
      have kw1 := R.out.kp.trans K1
      have hwg : w.heap.size ≤ g := by rw [← hg]; exact kw1.size
      cases hp : parseV u with
      | none =>
        obtain rfl := hN hp
        have Hn := Lib.hid (show rtsL [] ls = ([], i, 250) by rw [R.out.more, rtsL_none hlt (by rw [Hu.out, hp]), Hlen.out])
        clear hY hN hp
        go_wp2_with fail
        try rw [hg]
        go_upto_region 5 with (fail)
        go_quiet (fail)
        go_wp2_with fail
        exact bodyPost_ret (v := .tuple #[.slice none 0 0, .int .i64 (i : Int), .int .i64 250]) (by simp [results, Tryz.results31, go_sem]) rfl ⟨(kw1.alloc _).drewN _, none, 0, by rw [Hn.out]; rfl, by rw [Hn.out]; exact Rd.nil _ _ _ _⟩
      | some r =>
        obtain rfl := hY r hp
        have Hp := Lib.hid (show parseV ls[i] = some r by rw [Hu.out, hp])
        clear hY hN hp
        obtain ⟨W2, hW2, K2, B2⟩ : ∃ W2, w1.alloc (.cells #[.int .u32 r.p.a, .int .i64 r.p.l, .int .i64 r.s, .int .i64 r.m, .int .i64 r.l, .int .i64 r.f, .int .u32 r.x, .int .i64 r.d, .bool r.c] 45) = W2 ∧ Kp w1 W2 ∧ Blk W2 g 45 (rtA r) := ⟨_, rfl, (Kp.refl _).alloc _, by rw [← hg]; exact Blk.new _ _ _⟩
        have hO2 := hO1.keep K2
        have kw2 := kw1.trans K2
        obtain ⟨q0, q1, q2, q3, q4, q5, q6, q7, q8⟩ := rt_cells B2
        have hszW := kw2.size
        go_upto_region 5 with (fail)
        try rw [hW2]
        try rw [hg]
        clear hW2 hg K1 hO hO1 kw1 K2
        rcases Nat.eq_zero_or_pos i with h0 | h0
        · subst h0
          have Hn := Lib.hid (show rtsL [] ls = rtsL (acc ++ [r]) (ls.drop (0 + 1)) by
            rw [R.out.more]
            exact rtsL_next hlt Hp.out (by rw [List.length_eq_zero_iff.1 Hlen.out]; rfl))
          go_quiet (fail)
          obtain ⟨W3, hW3, k3, O3, p0, p1, p2, p3, p4, p5, p6, p7, p8, sz3⟩ : ∃ W3, W2.drewN nq = W3 ∧ Kp w W3 ∧ Own W3 w.heap.size 45 9 Rt.enc (.slice A2 0 c2) acc ∧ W3.cell? ⟨g, 0, none⟩ = some (.int .u32 (r.p.a : Int)) ∧ W3.cell? ⟨g, 1, none⟩ = some (.int .i64 r.p.l) ∧ W3.cell? ⟨g, 2, none⟩ = some (.int .i64 r.s) ∧ W3.cell? ⟨g, 3, none⟩ = some (.int .i64 r.m) ∧ W3.cell? ⟨g, 4, none⟩ = some (.int .i64 r.l) ∧ W3.cell? ⟨g, 5, none⟩ = some (.int .i64 r.f) ∧ W3.cell? ⟨g, 6, none⟩ = some (.int .u32 (r.x : Int)) ∧ W3.cell? ⟨g, 7, none⟩ = some (.int .i64 r.d) ∧ W3.cell? ⟨g, 8, none⟩ = some (.bool r.c) ∧ w.heap.size ≤ W3.heap.size :=
            ⟨_, rfl, kw2.drewN nq, hO2.keep ((Kp.refl W2).drewN nq), ((Kp.refl W2).drewN nq).cell q0, ((Kp.refl W2).drewN nq).cell q1, ((Kp.refl W2).drewN nq).cell q2, ((Kp.refl W2).drewN nq).cell q3, ((Kp.refl W2).drewN nq).cell q4, ((Kp.refl W2).drewN nq).cell q5, ((Kp.refl W2).drewN nq).cell q6, ((Kp.refl W2).drewN nq).cell q7, ((Kp.refl W2).drewN nq).cell q8, (kw2.drewN nq).size⟩
          rw [hW3]
          clear hW3 hO2 q0 q1 q2 q3 q4 q5 q6 q7 q8
          go_wp2_with (at_builtin; go_must (refine wpList_appx ERt (w0 := bare W3) rfl _ _ rfl r rfl O3 (bare_kp _) (Nat.zero_le _) sz3 rfl rfl rfl rfl rfl (by have := Hlen.out; omega) ?_); intro v3 w3 hown3 hK3 hg3; obtain ⟨A3, c3, rfl⟩ := hown3.form1)
          have R3 : Hid (RtsR w ls (0 + 1) (.slice A3 (acc.length + 1) c3) (acc ++ [r]) w3) := Lib.hid ⟨k3.grown hg3 (fun q hq => (World.ownsRow.lt O3 q hq).1), hown3, by simp [Hlen.out], Hn.out⟩
          clear hown3 hK3 hg3 O3
          go_wp2_with fail
          go_roundw
          case rel => exact ⟨0 + 1, _, by omega, by go_num, R3⟩
          case measure => simp [intOf]; omega
        · obtain ⟨m, rfl⟩ : ∃ m, i = m + 1 := ⟨i - 1, by omega⟩
          have hm : m < acc.length := by have := Hlen.out; omega
          have hRa := hO2.rdAt (by decide) Rt.len
          obtain ⟨b', off', hA2, x0, x1⟩ := rt_at hRa hm
          subst hA2
          have hpos : (0 : Int) < (m : Int) + 1 := by omega
          have hm1 : ((m : Int) + 1 - 1) = (m : Int) := by omega
          have hmn : (m : Int).toNat = m := by omega
          have hm0 : (0 : Int) ≤ (m : Int) := by omega
          have hml : (m : Int) < (m : Int) + 1 := by omega
          have hmw : IntKind.i64.wrap (m : Int) = (m : Int) := IntWalk.i64_in _ (by omega)
          have hmw2 : IntKind.i64.wrap ((m : Int) + 1 - 1) = (m : Int) := by rw [hm1]; exact hmw
          have hok := okNext_at (x := r) Hlen.out
          obtain ⟨y, hy⟩ : ∃ y, acc[m]'hm = y := ⟨_, rfl⟩
          rw [hy] at x0 x1 hok
          clear hy hRa
          obtain ⟨od, hod⟩ : ∃ od, ordI y.p.a y.p.l r.p.a r.p.l = od := ⟨_, rfl⟩
          rw [hod] at hok
          have K : Kp W2 W2.drew := (Kp.refl W2).drew
          by_cases hd : od < 0
          · have hge : ¬ (0 : Int) ≤ od := by omega
            have hgb : decide ((0 : Int) ≤ od) = false := decide_eq_false hge
            have Hn := Lib.hid (show rtsL [] ls = rtsL (acc ++ [r]) (ls.drop (m + 1 + 1)) by
              rw [R.out.more]
              exact rtsL_next hlt Hp.out (by rw [hok, decide_eq_true hd]))
            clear hok hd
            go_region_held3 (fun w' => w'.cell? ⟨b', off' + m * 9, none⟩ = some (.int .u32 (y.p.a : Int)) ∧ w'.cell? ⟨b', off' + m * 9 + 1, none⟩ = some (.int .i64 y.p.l) ∧ w'.cell? ⟨g, 0, none⟩ = some (.int .u32 (r.p.a : Int)) ∧ w'.cell? ⟨g, 1, none⟩ = some (.int .i64 r.p.l))
              (first | exact ⟨K.cell x0, K.cell x1, K.cell q0, K.cell q1⟩ | go_keep)
              (first | (go_at_call 77; refine (order_any y.p.a y.p.l r.p.a r.p.l _).mono ?_; rintro e wv ⟨rfl, hKv⟩; rw [hod]; have K := K.trans hKv; clear hKv))
            obtain ⟨W3, hW3, k3, O3, p0, p1, p2, p3, p4, p5, p6, p7, p8, sz3⟩ : ∃ W3, wv = W3 ∧ Kp w W3 ∧ Own W3 w.heap.size 45 9 Rt.enc (.slice (some ⟨b', off', none⟩) (m + 1) c2) acc ∧ W3.cell? ⟨g, 0, none⟩ = some (.int .u32 (r.p.a : Int)) ∧ W3.cell? ⟨g, 1, none⟩ = some (.int .i64 r.p.l) ∧ W3.cell? ⟨g, 2, none⟩ = some (.int .i64 r.s) ∧ W3.cell? ⟨g, 3, none⟩ = some (.int .i64 r.m) ∧ W3.cell? ⟨g, 4, none⟩ = some (.int .i64 r.l) ∧ W3.cell? ⟨g, 5, none⟩ = some (.int .i64 r.f) ∧ W3.cell? ⟨g, 6, none⟩ = some (.int .u32 (r.x : Int)) ∧ W3.cell? ⟨g, 7, none⟩ = some (.int .i64 r.d) ∧ W3.cell? ⟨g, 8, none⟩ = some (.bool r.c) ∧ w.heap.size ≤ W3.heap.size :=
              ⟨_, rfl, kw2.trans K, hO2.keep K, K.cell q0, K.cell q1, K.cell q2, K.cell q3, K.cell q4, K.cell q5, K.cell q6, K.cell q7, K.cell q8, (kw2.trans K).size⟩
            rw [hW3]
            clear hW3 hO2 q0 q1 q2 q3 q4 q5 q6 q7 q8
            go_wp2_with (at_builtin; go_must (refine wpList_appx ERt (w0 := bare W3) rfl _ _ rfl r rfl O3 (bare_kp _) (Nat.zero_le _) sz3 rfl rfl rfl rfl rfl (by have := Hlen.out; omega) ?_); intro v3 w3 hown3 hK3 hg3; obtain ⟨A3, c3, rfl⟩ := hown3.form1)
            have R3 : Hid (RtsR w ls (m + 1 + 1) (.slice A3 (acc.length + 1) c3) (acc ++ [r]) w3) := Lib.hid ⟨k3.grown hg3 (fun q hq => (World.ownsRow.lt O3 q hq).1), hown3, by simp [Hlen.out], Hn.out⟩
            clear hown3 hK3 hg3 O3
            go_wp2_with fail
            go_roundw
            case rel => exact ⟨m + 1 + 1, _, by omega, by go_num, R3⟩
            case measure => simp [intOf]; omega
          · have hge : (0 : Int) ≤ od := by omega
            have hgb : decide ((0 : Int) ≤ od) = true := decide_eq_true hge
            have Hn := Lib.hid (show rtsL [] ls = ([], m + 1, 250) by
              rw [R.out.more, rtsL_bad hlt Hp.out (by rw [hok, decide_eq_false hd]), Hlen.out])
            clear hok hd
            go_region_held3 (fun w' => w'.cell? ⟨b', off' + m * 9, none⟩ = some (.int .u32 (y.p.a : Int)) ∧ w'.cell? ⟨b', off' + m * 9 + 1, none⟩ = some (.int .i64 y.p.l) ∧ w'.cell? ⟨g, 0, none⟩ = some (.int .u32 (r.p.a : Int)) ∧ w'.cell? ⟨g, 1, none⟩ = some (.int .i64 r.p.l))
              (first | exact ⟨K.cell x0, K.cell x1, K.cell q0, K.cell q1⟩ | go_keep)
              (first | (go_at_call 77; refine (order_any y.p.a y.p.l r.p.a r.p.l _).mono ?_; rintro e wv ⟨rfl, hKv⟩; rw [hod]; have K := K.trans hKv; clear hKv))
            go_wp2_with fail
            exact bodyPost_ret (v := .tuple #[.slice none 0 0, .int .i64 ((m : Int) + 1), .int .i64 250]) (by simp [results, Tryz.results31, go_sem]) rfl ⟨kw2.trans K, none, 0, by rw [Hn.out]; rfl, by rw [Hn.out]; exact Rd.nil _ _ _ _⟩
    · obtain rfl : i = ls.length := by omega
      have Hn := Lib.hid (show rtsL [] ls = (acc, ls.length, 0) by rw [R.out.more, rtsL_end rfl, Hlen.out])
      have hgi : ¬ (ls.length : Int) < (ls.length : Int) := by omega
      have hRa := R.out.own.rdAt (by decide) Rt.len
      have kwr := R.out.kp
      clear hO hlen
      go_wp2_with fail
      exact bodyPost_ret (v := .tuple #[.slice A2 acc.length c2, .int .i64 (ls.length : Int), .int .i64 0]) (by simp [results, Tryz.results31, go_sem]) rfl ⟨kwr, A2, c2, by rw [Hn.out], by rw [Hn.out]; exact hRa⟩
end Go.Proofs.YtbfimimhgdkpaaaGreatDoor

/- Routes of lines by the reference, and routes compared. No condition but the library's variables and the stated bounds. -/
namespace Go.Proofs.YtbfimimhgdkpaaaGreatDoor
open Go.RowKit
set_option maxRecDepth 100000 in
set_option maxHeartbeats 4000000 in
theorem rroutes_any (ls : List (List UInt8)) (A : Option Addr) (c : Nat) (w : World) (L : LibOk w) (hR : Rd w 1 strE A ls) (hl : ls.length ≤ 1000) (hle : ∀ u ∈ ls, u.length ≤ 200) : Calls Tryz.prog 32 #[.slice A ls.length c] w (RtsP ls w) := by
  have HR := Lib.hid hR
  have Hle := Lib.hid (show ∀ i (h : i < ls.length), (ls[i]'h).length ≤ 200 from fun i h => hle _ (List.getElem_mem h))
  have R0 : Hid (RtsR w ls 0 (.slice none 0 0) [] w) := Lib.hid ⟨Kp.refl _, Own.nil _ _ _ _ _, rfl, rfl⟩
  clear hR hle
  go_enter Tryz.func32, Tryz.ntmps32
  go_wp2_with fail
  go_loopw [5, 6] (fun v k wr => ∃ (i : Nat) (acc : List Rt), i ≤ ls.length ∧ k = .int .i64 i ∧ Hid (RtsR w ls i v acc wr)) (fun _ k _ => ls.length - (intOf k).toNat)
  case atStart => exact ⟨0, [], by omega, rfl, R0⟩
  case round =>
    obtain ⟨i, acc, hi, rfl, R⟩ := hrel
    have hlen := R.out.len
    have Hlen := Lib.hid hlen
    have hO := R.out.own
    obtain ⟨A2, c2, hv⟩ := hO.form
    subst hv
    have hsz := R.out.kp.size
    rw [hlen] at hO
    by_cases hlt : i < ls.length
    · have hgi : (i : Int) < (ls.length : Int) := by omega
      have hg0 : (0 : Int) ≤ (i : Int) := by omega
      obtain ⟨b, off, hA, hcw⟩ := str_at (HR.out.keep R.out.kp) hlt
      subst hA
      obtain ⟨u, hu⟩ : ∃ u, ls[i] = u := ⟨_, rfl⟩
      rw [hu] at hcw
      have Hu := Lib.hid hu
      have hul : u.length ≤ 200 := by rw [← hu]; exact Hle.out i hlt
      clear hu hlen
      rw [Hlen.out]
      go_wp2_with fail
      refine (refparse_any (strB u) (by rw [sz_strB]; exact hul) _ (L.keep R.out.kp)).mono ?_
      rintro e w1 ⟨K1, hY, hN⟩
      rw [strB_list] at hY hN
      obtain ⟨g, hg⟩ : ∃ g, w1.heap.size = g := ⟨_, rfl⟩
      have hO1 := hO.keep K1
      have kw1 := R.out.kp.trans K1
      have hwg : w.heap.size ≤ g := by rw [← hg]; exact kw1.size
      cases hp : parseV u with
      | none =>
        obtain rfl := hN (by rw [← parse_same]; exact hp)
        have Hn := Lib.hid (show rtsL [] ls = ([], i, 250) by rw [R.out.more, rtsL_none hlt (by rw [Hu.out, hp]), Hlen.out])
        clear hY hN hp
        go_wp2_with fail
        try rw [hg]
        go_upto_region 6 with (fail)
        go_quiet (fail)
        go_wp2_with fail
        exact bodyPost_ret (v := .tuple #[.slice none 0 0, .int .i64 (i : Int), .int .i64 250]) (by simp [results, Tryz.results32, go_sem]) rfl ⟨(kw1.alloc _).drewN _, none, 0, by rw [Hn.out]; rfl, by rw [Hn.out]; exact Rd.nil _ _ _ _⟩
      | some r =>
        obtain rfl := hY r (by rw [← parse_same]; exact hp)
        have Hp := Lib.hid (show parseV ls[i] = some r by rw [Hu.out, hp])
        clear hY hN hp
        obtain ⟨W2, hW2, K2, B2⟩ : ∃ W2, w1.alloc (.cells #[.int .u32 r.p.a, .int .i64 r.p.l, .int .i64 r.s, .int .i64 r.m, .int .i64 r.l, .int .i64 r.f, .int .u32 r.x, .int .i64 r.d, .bool r.c] 45) = W2 ∧ Kp w1 W2 ∧ Blk W2 g 45 (rtA r) := ⟨_, rfl, (Kp.refl _).alloc _, by rw [← hg]; exact Blk.new _ _ _⟩
        have hO2 := hO1.keep K2
        have kw2 := kw1.trans K2
        obtain ⟨q0, q1, q2, q3, q4, q5, q6, q7, q8⟩ := rt_cells B2
        have hszW := kw2.size
        go_upto_region 6 with (fail)
        try rw [hW2]
        try rw [hg]
        clear hW2 hg K1 hO hO1 kw1 K2
        rcases Nat.eq_zero_or_pos i with h0 | h0
        · subst h0
          have Hn := Lib.hid (show rtsL [] ls = rtsL (acc ++ [r]) (ls.drop (0 + 1)) by
            rw [R.out.more]
            exact rtsL_next hlt Hp.out (by rw [List.length_eq_zero_iff.1 Hlen.out]; rfl))
          go_quiet (fail)
          obtain ⟨W3, hW3, k3, O3, p0, p1, p2, p3, p4, p5, p6, p7, p8, sz3⟩ : ∃ W3, W2.drewN nq = W3 ∧ Kp w W3 ∧ Own W3 w.heap.size 45 9 Rt.enc (.slice A2 0 c2) acc ∧ W3.cell? ⟨g, 0, none⟩ = some (.int .u32 (r.p.a : Int)) ∧ W3.cell? ⟨g, 1, none⟩ = some (.int .i64 r.p.l) ∧ W3.cell? ⟨g, 2, none⟩ = some (.int .i64 r.s) ∧ W3.cell? ⟨g, 3, none⟩ = some (.int .i64 r.m) ∧ W3.cell? ⟨g, 4, none⟩ = some (.int .i64 r.l) ∧ W3.cell? ⟨g, 5, none⟩ = some (.int .i64 r.f) ∧ W3.cell? ⟨g, 6, none⟩ = some (.int .u32 (r.x : Int)) ∧ W3.cell? ⟨g, 7, none⟩ = some (.int .i64 r.d) ∧ W3.cell? ⟨g, 8, none⟩ = some (.bool r.c) ∧ w.heap.size ≤ W3.heap.size :=
            ⟨_, rfl, kw2.drewN nq, hO2.keep ((Kp.refl W2).drewN nq), ((Kp.refl W2).drewN nq).cell q0, ((Kp.refl W2).drewN nq).cell q1, ((Kp.refl W2).drewN nq).cell q2, ((Kp.refl W2).drewN nq).cell q3, ((Kp.refl W2).drewN nq).cell q4, ((Kp.refl W2).drewN nq).cell q5, ((Kp.refl W2).drewN nq).cell q6, ((Kp.refl W2).drewN nq).cell q7, ((Kp.refl W2).drewN nq).cell q8, (kw2.drewN nq).size⟩
          rw [hW3]
          clear hW3 hO2 q0 q1 q2 q3 q4 q5 q6 q7 q8
          go_wp2_with (at_builtin; go_must (refine wpList_appx ERt (w0 := bare W3) rfl _ _ rfl r rfl O3 (bare_kp _) (Nat.zero_le _) sz3 rfl rfl rfl rfl rfl (by have := Hlen.out; omega) ?_); intro v3 w3 hown3 hK3 hg3; obtain ⟨A3, c3, rfl⟩ := hown3.form1)
          have R3 : Hid (RtsR w ls (0 + 1) (.slice A3 (acc.length + 1) c3) (acc ++ [r]) w3) := Lib.hid ⟨k3.grown hg3 (fun q hq => (World.ownsRow.lt O3 q hq).1), hown3, by simp [Hlen.out], Hn.out⟩
          clear hown3 hK3 hg3 O3
          go_wp2_with fail
          go_roundw
          case rel => exact ⟨0 + 1, _, by omega, by go_num, R3⟩
          case measure => simp [intOf]; omega
        · obtain ⟨m, rfl⟩ : ∃ m, i = m + 1 := ⟨i - 1, by omega⟩
          have hm : m < acc.length := by have := Hlen.out; omega
          have hRa := hO2.rdAt (by decide) Rt.len
          obtain ⟨b', off', hA2, x0, x1⟩ := rt_at hRa hm
          subst hA2
          have hpos : (0 : Int) < (m : Int) + 1 := by omega
          have hm1 : ((m : Int) + 1 - 1) = (m : Int) := by omega
          have hmn : (m : Int).toNat = m := by omega
          have hm0 : (0 : Int) ≤ (m : Int) := by omega
          have hml : (m : Int) < (m : Int) + 1 := by omega
          have hmw : IntKind.i64.wrap (m : Int) = (m : Int) := IntWalk.i64_in _ (by omega)
          have hmw2 : IntKind.i64.wrap ((m : Int) + 1 - 1) = (m : Int) := by rw [hm1]; exact hmw
          have hok := okNext_at (x := r) Hlen.out
          obtain ⟨y, hy⟩ : ∃ y, acc[m]'hm = y := ⟨_, rfl⟩
          rw [hy] at x0 x1 hok
          clear hy hRa
          obtain ⟨od, hod⟩ : ∃ od, ordI y.p.a y.p.l r.p.a r.p.l = od := ⟨_, rfl⟩
          rw [hod] at hok
          have K : Kp W2 W2.drew := (Kp.refl W2).drew
          by_cases hd : od < 0
          · have hge : ¬ (0 : Int) ≤ od := by omega
            have hgb : decide ((0 : Int) ≤ od) = false := decide_eq_false hge
            have Hn := Lib.hid (show rtsL [] ls = rtsL (acc ++ [r]) (ls.drop (m + 1 + 1)) by
              rw [R.out.more]
              exact rtsL_next hlt Hp.out (by rw [hok, decide_eq_true hd]))
            clear hok hd
            go_region_held3 (fun w' => w'.cell? ⟨b', off' + m * 9, none⟩ = some (.int .u32 (y.p.a : Int)) ∧ w'.cell? ⟨b', off' + m * 9 + 1, none⟩ = some (.int .i64 y.p.l) ∧ w'.cell? ⟨g, 0, none⟩ = some (.int .u32 (r.p.a : Int)) ∧ w'.cell? ⟨g, 1, none⟩ = some (.int .i64 r.p.l))
              (first | exact ⟨K.cell x0, K.cell x1, K.cell q0, K.cell q1⟩ | go_keep)
              (first | (go_at_call 78; refine (rorder25_any y.p.a y.p.l r.p.a r.p.l _).mono ?_; rintro e wv ⟨rfl, hKv⟩; rw [hod]; have K := K.trans hKv; clear hKv))
            obtain ⟨W3, hW3, k3, O3, p0, p1, p2, p3, p4, p5, p6, p7, p8, sz3⟩ : ∃ W3, wv = W3 ∧ Kp w W3 ∧ Own W3 w.heap.size 45 9 Rt.enc (.slice (some ⟨b', off', none⟩) (m + 1) c2) acc ∧ W3.cell? ⟨g, 0, none⟩ = some (.int .u32 (r.p.a : Int)) ∧ W3.cell? ⟨g, 1, none⟩ = some (.int .i64 r.p.l) ∧ W3.cell? ⟨g, 2, none⟩ = some (.int .i64 r.s) ∧ W3.cell? ⟨g, 3, none⟩ = some (.int .i64 r.m) ∧ W3.cell? ⟨g, 4, none⟩ = some (.int .i64 r.l) ∧ W3.cell? ⟨g, 5, none⟩ = some (.int .i64 r.f) ∧ W3.cell? ⟨g, 6, none⟩ = some (.int .u32 (r.x : Int)) ∧ W3.cell? ⟨g, 7, none⟩ = some (.int .i64 r.d) ∧ W3.cell? ⟨g, 8, none⟩ = some (.bool r.c) ∧ w.heap.size ≤ W3.heap.size :=
              ⟨_, rfl, kw2.trans K, hO2.keep K, K.cell q0, K.cell q1, K.cell q2, K.cell q3, K.cell q4, K.cell q5, K.cell q6, K.cell q7, K.cell q8, (kw2.trans K).size⟩
            rw [hW3]
            clear hW3 hO2 q0 q1 q2 q3 q4 q5 q6 q7 q8
            go_wp2_with (at_builtin; go_must (refine wpList_appx ERt (w0 := bare W3) rfl _ _ rfl r rfl O3 (bare_kp _) (Nat.zero_le _) sz3 rfl rfl rfl rfl rfl (by have := Hlen.out; omega) ?_); intro v3 w3 hown3 hK3 hg3; obtain ⟨A3, c3, rfl⟩ := hown3.form1)
            have R3 : Hid (RtsR w ls (m + 1 + 1) (.slice A3 (acc.length + 1) c3) (acc ++ [r]) w3) := Lib.hid ⟨k3.grown hg3 (fun q hq => (World.ownsRow.lt O3 q hq).1), hown3, by simp [Hlen.out], Hn.out⟩
            clear hown3 hK3 hg3 O3
            go_wp2_with fail
            go_roundw
            case rel => exact ⟨m + 1 + 1, _, by omega, by go_num, R3⟩
            case measure => simp [intOf]; omega
          · have hge : (0 : Int) ≤ od := by omega
            have hgb : decide ((0 : Int) ≤ od) = true := decide_eq_true hge
            have Hn := Lib.hid (show rtsL [] ls = ([], m + 1, 250) by
              rw [R.out.more, rtsL_bad hlt Hp.out (by rw [hok, decide_eq_false hd]), Hlen.out])
            clear hok hd
            go_region_held3 (fun w' => w'.cell? ⟨b', off' + m * 9, none⟩ = some (.int .u32 (y.p.a : Int)) ∧ w'.cell? ⟨b', off' + m * 9 + 1, none⟩ = some (.int .i64 y.p.l) ∧ w'.cell? ⟨g, 0, none⟩ = some (.int .u32 (r.p.a : Int)) ∧ w'.cell? ⟨g, 1, none⟩ = some (.int .i64 r.p.l))
              (first | exact ⟨K.cell x0, K.cell x1, K.cell q0, K.cell q1⟩ | go_keep)
              (first | (go_at_call 78; refine (rorder25_any y.p.a y.p.l r.p.a r.p.l _).mono ?_; rintro e wv ⟨rfl, hKv⟩; rw [hod]; have K := K.trans hKv; clear hKv))
            go_wp2_with fail
            exact bodyPost_ret (v := .tuple #[.slice none 0 0, .int .i64 ((m : Int) + 1), .int .i64 250]) (by simp [results, Tryz.results32, go_sem]) rfl ⟨kw2.trans K, none, 0, by rw [Hn.out]; rfl, by rw [Hn.out]; exact Rd.nil _ _ _ _⟩
    · obtain rfl : i = ls.length := by omega
      have Hn := Lib.hid (show rtsL [] ls = (acc, ls.length, 0) by rw [R.out.more, rtsL_end rfl, Hlen.out])
      have hgi : ¬ (ls.length : Int) < (ls.length : Int) := by omega
      have hRa := R.out.own.rdAt (by decide) Rt.len
      have kwr := R.out.kp
      clear hO hlen
      go_wp2_with fail
      exact bodyPost_ret (v := .tuple #[.slice A2 acc.length c2, .int .i64 (ls.length : Int), .int .i64 0]) (by simp [results, Tryz.results32, go_sem]) rfl ⟨kwr, A2, c2, by rw [Hn.out], by rw [Hn.out]; exact hRa⟩
theorem rt_at9 {w : World} {A : Option Addr} {xs : List Rt} (h : Rd w 9 Rt.enc A xs) {k : Nat} (hk : k < xs.length) : ∃ b off : Nat, A = some ⟨b, off, none⟩ ∧ w.cell? ⟨b, off + k * 9, none⟩ = some (.int .u32 (xs[k].p.a : Int)) ∧ w.cell? ⟨b, off + k * 9 + 1, none⟩ = some (.int .i64 xs[k].p.l) ∧ w.cell? ⟨b, off + k * 9 + 2, none⟩ = some (.int .i64 xs[k].s) ∧ w.cell? ⟨b, off + k * 9 + 3, none⟩ = some (.int .i64 xs[k].m) ∧ w.cell? ⟨b, off + k * 9 + 4, none⟩ = some (.int .i64 xs[k].l) ∧ w.cell? ⟨b, off + k * 9 + 5, none⟩ = some (.int .i64 xs[k].f) ∧ w.cell? ⟨b, off + k * 9 + 6, none⟩ = some (.int .u32 (xs[k].x : Int)) ∧ w.cell? ⟨b, off + k * 9 + 7, none⟩ = some (.int .i64 xs[k].d) ∧ w.cell? ⟨b, off + k * 9 + 8, none⟩ = some (.bool xs[k].c) := by
  obtain ⟨b, off, e, hc⟩ := h k hk
  exact ⟨b, off, e, by simpa using hc 0 _ rfl, by simpa using hc 1 _ rfl, by simpa using hc 2 _ rfl, by simpa using hc 3 _ rfl, by simpa using hc 4 _ rfl, by simpa using hc 5 _ rfl, by simpa using hc 6 _ rfl, by simpa using hc 7 _ rfl, by simpa using hc 8 _ rfl⟩
set_option maxRecDepth 100000 in
set_option maxHeartbeats 4000000 in
theorem rsame12_any (rs : List Rt) (A1 A2 : Option Addr) (c1 c2 : Nat) (w : World) (h1 : Rd w 9 Rt.enc A1 rs) (h2 : Rd w 9 Rt.enc A2 rs) (hl : rs.length ≤ 1000000) :
    Calls Tryz.prog 33 #[.slice A1 rs.length c1, .slice A2 rs.length c2] w fun e w' => e = .returned (.bool true) ∧ Kp w w' := by
  have H1 := Lib.hid h1
  have H2 := Lib.hid h2
  clear h1 h2
  go_enter Tryz.func33, Tryz.ntmps33
  go_wp2_with fail
  go_loopw [5] (fun k wr => ∃ i : Nat, i ≤ rs.length ∧ k = .int .i64 i ∧ Hid (Kp w wr)) (fun k _ => rs.length - (intOf k).toNat)
  case atStart => exact ⟨0, by omega, rfl, Lib.hid (Kp.refl _)⟩
  case round =>
    obtain ⟨i, hi, rfl, K⟩ := hrel
    by_cases hlt : i < rs.length
    · have hgi : (i : Int) < (rs.length : Int) := by omega
      have hg0 : (0 : Int) ≤ (i : Int) := by omega
      obtain ⟨b, off, hA1, x0, x1, x2, x3, x4, x5, x6, x7, x8⟩ := rt_at9 (H1.out.keep K.out) hlt
      obtain ⟨b', off', hA2, y0, y1, y2, y3, y4, y5, y6, y7, y8⟩ := rt_at9 (H2.out.keep K.out) hlt
      obtain ⟨r, hr⟩ : ∃ r, rs[i] = r := ⟨_, rfl⟩
      rw [hr] at x0 x1 x2 x3 x4 x5 x6 x7 x8 y0 y1 y2 y3 y4 y5 y6 y7 y8
      clear hr
      subst hA1
      subst hA2
      have hne := route_unlike r
      go_wp2_with fail
      go_quiet (fail)
      have KN : Hid (Kp w (wr.drewN nq)) := Lib.hid (K.out.drewN nq)
      clear x0 x1 x2 x3 x4 x5 x6 x7 x8 y0 y1 y2 y3 y4 y5 y6 y7 y8 hne
      go_wp2_with fail
      go_roundw
      case rel => exact ⟨i + 1, by omega, by go_num, KN⟩
      case measure => simp [intOf]; omega
    · obtain rfl : i = rs.length := by omega
      have hgi : ¬ (rs.length : Int) < (rs.length : Int) := by omega
      go_wp2_with fail
      go_ret
      exact ⟨rfl, K.out⟩
end Go.Proofs.YtbfimimhgdkpaaaGreatDoor

/- Layer 25: ViewRoutes, walked. No condition but the library's variables. -/
namespace Go.Proofs.YtbfimimhgdkpaaaGreatDoor
open Go.RowKit Go.ChangeShapes Go.WideShapes Go.ChangeAt Go.Joins Go.Deep

theorem rtsL_len : ∀ (l : List (List UInt8)) (acc : List Rt), (rtsL acc l).1.length ≤ acc.length + l.length
  | [], acc => by simp [rtsL]
  | s :: t, acc => by
    rw [rtsL]
    split
    · simp
    · rename_i r _
      split
      · have := rtsL_len t (acc ++ [r]); simp at this ⊢; omega
      · simp
section
variable {H : Type} {enc : TypeId × Value → H}
set_option maxRecDepth 100000 in
theorem open_strs {W : World} {base : Nat} {v : Value} {d : DataW H} {p : List MemPlace} (hv : Value.okWide Tryz.prog W .any base 68 v) (h : DataW.Trod enc Tryz.prog W 0 (fun _ => true) true 68 v d p) : ∃ A c ls, v = .slice A ls.length c ∧ Rd W 1 strE A ls := by
  obtain ⟨a, l, cp, rfl⟩ := okWide_slice Tryz.underlying68 hv
  obtain ⟨n, h⟩ := h
  obtain ⟨A, c, ls, hl, _, hrd, _⟩ := rd_of_slice (sz := 1) strE (fun _ => True) (fun _ => rfl) Tryz.underlying68 (by kernel_rfl) (by omega) (fun cs n x hx => by
    obtain ⟨s, hs, _⟩ := DataW.trod_string Tryz.underlying9 hx
    exact ⟨s.data.toList, by rw [hs, strE, strB_of], trivial⟩) h
  exact ⟨A, c, ls, hl, hrd⟩
end
set_option maxRecDepth 100000 in
set_option maxHeartbeats 4000000 in
theorem vroutes_walk (ls : List (List UInt8)) (A : Option Addr) (c : Nat) (w : World) (L : LibOk w) (hR : Rd w 1 strE A ls) : Calls Tryz.prog 8 #[.slice A ls.length c] w fun en w' => en = .returned (.bool true) ∧ Kp w w' := by
  have HL := Lib.hid L
  have HR := Lib.hid hR
  clear L hR
  by_cases hlong : 12 < ls.length
  · have hi : (12 : Int) < (ls.length : Int) := by omega
    go_enter Tryz.func8, Tryz.ntmps8
    go_wp2_with fail
    refine (works25_any w HL.out).mono ?_
    rintro en w' ⟨rfl, hK⟩
    go_wp2_with fail
    go_ret
    exact ⟨rfl, hK⟩
  · have hi : ¬ (12 : Int) < (ls.length : Int) := by omega
    have hl12 : ls.length ≤ 12 := by omega
    go_enter Tryz.func8, Tryz.ntmps8
    go_wp2_with fail
    go_loopw [3] (fun k wr => ∃ i : Nat, i ≤ ls.length ∧ k = .int .i64 i ∧ Hid (∀ j (h : j < ls.length), j < i → (ls[j]'h).length ≤ 200) ∧ Hid (Kp w wr)) (fun k _ => ls.length - (intOf k).toNat)
    case atStart => exact ⟨0, by omega, rfl, Lib.hid (fun j h h2 => absurd h2 (by omega)), Lib.hid (Kp.refl _)⟩
    case round =>
      obtain ⟨i, hi', rfl, Hj, Kr⟩ := hrel
      by_cases hlt : i < ls.length
      · have hgi : (i : Int) < (ls.length : Int) := by omega
        have hg0 : (0 : Int) ≤ (i : Int) := by omega
        obtain ⟨b, off, hA, hcw⟩ := str_at (HR.out.keep Kr.out) hlt
        subst hA
        obtain ⟨S, hS⟩ : ∃ S, strB ls[i] = S := ⟨_, rfl⟩
        rw [hS] at hcw
        have hsz : S.size = (ls[i]).length := by rw [← hS, sz_strB]
        by_cases h2 : 200 < (ls[i]).length
        · have g2 : (200 : Int) < (S.size : Int) := by omega
          clear hsz h2 hS
          go_wp2_with fail
          refine (works25_any wr (HL.out.keep Kr.out)).mono ?_
          rintro en w' ⟨rfl, hK⟩
          go_wp2_with fail
          go_ret
          exact ⟨rfl, Kr.out.trans hK⟩
        · have g2 : ¬ (200 : Int) < (S.size : Int) := by omega
          have Hn := Lib.hid (show ∀ j (h : j < ls.length), j < i + 1 → (ls[j]'h).length ≤ 200 from fun j h hj => by
            rcases Nat.lt_succ_iff_lt_or_eq.1 hj with h3 | h3
            · exact Hj.out j h h3
            · subst h3; omega)
          clear hsz h2 hS
          go_wp2_with fail
          go_roundw
          case rel => exact ⟨i + 1, by omega, by go_num, Hn, Kr⟩
          case measure => simp [intOf]; omega
      · obtain rfl : i = ls.length := by omega
        have hgi : ¬ (ls.length : Int) < (ls.length : Int) := by omega
        have Hall := Lib.hid (show ∀ u ∈ ls, u.length ≤ 200 from fun u hu => by
          obtain ⟨j, hj, e⟩ := List.getElem_of_mem hu
          rw [← e]
          exact Hj.out j hj hj)
        have hE : Own (wr.alloc (.cells #[] 9)) wr.heap.size 9 1 strE (.slice (some ⟨wr.heap.size, 0, none⟩) 0 0) [] := Own.empty (Nat.le_refl _) (Blk.new _ _ _)
        have hRr := HR.out.keep (Kr.out.alloc (.cells #[] 9))
        go_wp2_with (at_builtin; go_must (refine wpList_appl EStr strE_len strE_one rfl _ _ rfl (ys := ls) rfl rfl hE hRr (by simp; omega) (by simp) ?_); intro v1 w1 hown hg hat; rw [List.nil_append] at hown; have hK1 : Kp wr w1 := ((Kp.refl wr).alloc _).grown hg (fun q hq => (World.ownsRow.lt hE q hq).1); obtain ⟨A1, c1, rfl⟩ := hown.form; clear hg hat hE hRr)
        have R1 := Lib.hid (hown.rdAt (by decide) strE_len)
        have kw1 := Kr.out.trans hK1
        clear hown hK1
        obtain ⟨rs, n, er, hrt⟩ : ∃ rs n er, rtsL [] ls = (rs, n, er) := ⟨_, _, _, rfl⟩
        have hrl : rs.length ≤ 12 := by have := rtsL_len ls []; rw [hrt] at this; simp at this; omega
        have Hrt := Lib.hid hrt
        clear hrt
        refine (vroutes_any ls A1 c1 w1 (HL.out.keep kw1) R1.out (by omega) Hall.out).mono ?_
        rintro en w2 ⟨K2, A2, c2, he, R2⟩
        rw [Hrt.out] at he R2
        simp only at he R2
        subst he
        have kw2 := kw1.trans K2
        have R2 := Lib.hid R2
        have R1 := Lib.hid (R1.out.keep K2)
        clear K2 kw1
        go_wp2_with fail
        refine (rroutes_any ls A c w2 (HL.out.keep kw2) (HR.out.keep kw2) (by omega) Hall.out).mono ?_
        rintro en w3 ⟨K3, A3, c3, he, R3⟩
        rw [Hrt.out] at he R3
        simp only at he R3
        subst he
        have kw3 := Lib.hid (kw2.trans K3)
        have R3 := Lib.hid R3
        have R2 := Lib.hid (R2.out.keep K3)
        have R1 := Lib.hid (R1.out.keep K3)
        clear K3 kw2
        go_wp2_with fail
        go_loopw [11] (fun k wx => ∃ i : Nat, i ≤ ls.length ∧ k = .int .i64 i ∧ Hid (Kp w3 wx)) (fun k _ => ls.length - (intOf k).toNat)
        case atStart => exact ⟨0, by omega, rfl, Lib.hid (Kp.refl _)⟩
        case round =>
          obtain ⟨i, hi', rfl, Kx⟩ := hrel
          by_cases hlt : i < ls.length
          · have hgi2 : (i : Int) < (ls.length : Int) := by omega
            have hg0 : (0 : Int) ≤ (i : Int) := by omega
            obtain ⟨b, off, hA, hcw⟩ := str_at (HR.out.keep (kw3.out.trans Kx.out)) hlt
            obtain ⟨b', off', hA', hcw'⟩ := str_at (R1.out.keep Kx.out) hlt
            subst hA
            subst hA'
            obtain ⟨S, hS⟩ : ∃ S, strB ls[i] = S := ⟨_, rfl⟩
            rw [hS] at hcw hcw'
            clear hS
            go_wp2_with fail
            go_quiet (fail)
            have KN : Hid (Kp w3 (wr.drewN nq)) := Lib.hid (Kx.out.drewN nq)
            clear hcw hcw'
            go_wp2_with fail
            go_roundw
            case rel => exact ⟨i + 1, by omega, by go_num, KN⟩
            case measure => simp [intOf]; omega
          · obtain rfl : i = ls.length := by omega
            have kwx := kw3.out.trans Kx.out
            go_wp2_with fail
            refine (rsame12_any rs A2 A3 c2 c3 _ (R2.out.keep Kx.out) (R3.out.keep Kx.out) (by omega)).mono ?_
            rintro en w5 ⟨rfl, K5⟩
            have kw5 := kwx.trans K5
            clear kwx K5
            go_wp2_with (first | (go_at_call 21; refine (num25_any _ _).mono ?_; rintro en w' ⟨rfl, rfl⟩) | (go_at_call 22; refine (works25_any _ (HL.out.keep kw5)).mono ?_; rintro en w9 ⟨rfl, K9⟩))
            go_ret
            exact ⟨rfl, kw5.trans K9⟩
end Go.Proofs.YtbfimimhgdkpaaaGreatDoor

namespace Go.Proofs.YtbfimimhgdkpaaaGreatDoor
open Go Go.ChangeMaps Go.ChangeShapes Go.WideShapes Go.ChangeAt Go.RowKit Go.Joins Go.Deep

set_option maxRecDepth 100000 in
theorem viewRoutes_lifted (os : Os) (started : os.Started) (H : Type) (enc : TypeId × Value → H) :
    ReturnsInHanded {} Tryz.checked os 8 .any (fun w args => (Rows.viewRoutesSpec.pre enc Tryz.prog Tryz.f8 [] false w args ∧ laidMetH Tryz.prog libLaid w) ∧ sizedMet enc Tryz.prog Tryz.f8 (OpenSpec.ofChange Rows.viewRoutesSpec) false w args)
      (Rows.viewRoutesSpec.post enc Tryz.prog Tryz.f8 false true false false) := by
  refine returnsInHanded_of_change_and (C := Tryz.checked) (X := fun w _ => laidMetH Tryz.prog libLaid w) (fun _ _ _ hh h => h.of_heap hh) Tryz.own started (by kernel_rfl) Tryz.func8
    (ChangeSpec.witness_shaped (enc := enc) (C := Tryz.checked) (os := os) (X := fun w _ => laidMetH Tryz.prog libLaid w) false (World.doorLaid Tryz.prog 400 os) #[.slice none 0 0] 8 rfl (World.shaped_of_RefB (by kernel_rfl) (by kernel_rfl)) (by kernel_rfl) (by kernel_rfl) (by kernel_rfl) (door_met os _)) ?_
  intro W base args ds gs before hval0 hW _ _ hL _
  have hval : ∀ (j : Nat) t v, Tryz.f8.params[j]? = some t → args[j]? = some v → Value.okWide Tryz.prog W .any base t v := hval0
  have hW' := hW
  obtain ⟨p, q, hA0, hV, rfl, hfz, hnd⟩ := hW
  have hA : DataW.TrodAll enc Tryz.prog W 0 (fun _ => true) true Tryz.f8.params.toList args.toList ds p := hA0
  rw [Tryz.params8] at hA hval
  obtain ⟨v0, d0, rfl, rfl, h0⟩ := trodAll_one hA
  obtain ⟨rfl, rfl⟩ := trodVars_none hV
  obtain ⟨A0, c0, ls0, rfl, hR0⟩ := open_strs (hval 0 _ v0 rfl rfl) h0
  clear hA0 hval0
  refine (vroutes_walk ls0 A0 c0 W (lib_of_laid hL) hR0).mono fun e W' ⟨he, hK⟩ => ?_
  subst he
  refine ⟨_, rfl, law_post hW' rfl rfl rfl rfl rfl ?_ hK⟩
  intro t ht
  rw [Tryz.params8] at ht
  simp only [List.mem_cons, List.not_mem_nil, or_false] at ht
  subst ht
  exact ⟨by kernel_rfl, of_decide_eq_true (by kernel_rfl)⟩

theorem viewRoutes_holds : Rows.ViewRoutesSaid :=
  OpenClaim.holds_of_wide 8 Tryz.f8 rfl rfl rfl rfl rfl rfl rfl ⟨rfl, rfl, rfl, rfl, rfl⟩ rfl rfl rfl rfl rfl (by kernel_rfl) Tryz.func8 (by kernel_rfl)
    (of_decide_eq_true (by kernel_rfl)) (by unfold Func.isWrapper; first | (rw [if_pos (by decide +kernel)]; kernel_rfl) | (rw [if_neg (by decide +kernel)]; exact ⟨rfl, rfl⟩))
    (fun os started H enc _ => viewRoutes_lifted os started H enc)

theorem viewRoutes_card_holds : Rows.ViewRoutesCardSaid :=
  Claim7.holds_tied_plain_at .later [] [.data, .data, .data, .sentinel, .sentinel] true (true, "1aea2c8cef665afaa4649297a74689a0df77dd72ec979528462e8733c892845e") true
    viewRoutes_holds (fun _ h => by cases h) (by kernel_rfl) (fun _ h => by cases h) viewRoutes_row_tie rfl ⟨rfl, rfl⟩ (by kernel_rfl) rfl
    (fun f fn hf hfn => by
      obtain rfl : f = 8 := Option.some.inj ((show Tryz.prog.funcNamed "waywarden/waywardenlaw25.ViewRoutes" = some 8 by kernel_rfl).symm.trans hf) |>.symm
      obtain rfl : fn = Tryz.f8 := (Option.some.inj (Tryz.func8.symm.trans hfn)).symm
      exact ⟨by kernel_rfl, fun j t ht => by
        rw [Tryz.params8] at ht
        have hm : t ∈ [68] := by simpa using Array.mem_of_getElem? ht
        have hall : ([68].all fun u => !Tryz.prog.wantsStandIn u) = true := by kernel_rfl
        exact (show Tryz.prog.wantsStandIn t = false by simpa using List.all_eq_true.1 hall t hm)⟩)
    (by kernel_rfl)
end Go.Proofs.YtbfimimhgdkpaaaGreatDoor
