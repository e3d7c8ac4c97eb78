/- Proved here: THE TIED CARD of FibCopies of the package waywardenlaw13: for every input the law returns true, and each argument reads behind the call as it read before (Rows.FibCopiesCardSaid). Conditions: the variable prefix.rels starts as the program's text lays it, which the card ties. -/
import Derived.Test.YtfaiponmjjbgoaaGreatDoorZbF
import Derived.Test.YtfaiponmjjbgoaaGreatDoorRows
import Derived.ProofKit
import Derived.Lib.SmallJoins
import Derived.Deep.Slices
import Derived.Deep.Fields
import Derived.ChangeSame
import Derived.ChangeArms
import Derived.LaidMore
import Derived.OpenShut
import Derived.Stop.Joined
import Derived.Carry
import Derived.Test.YtfaiponmjjbgoaaGreatDoorTie
import Derived.Test.YtfaiponmjjbgoaaGreatDoorCards
import Derived.SevenTiedAt
set_option linter.unusedSimpArgs false
set_option linter.unusedVariables false
/- The row of a law: what its walk gives, closed as the row asks it. No condition. -/
namespace Go.Proofs.YtfaiponmjjbgoaaGreatDoor
open Go.ChangeShapes Go.WideShapes Go.ChangeAt Go.RowKit Go.Joins Go.Deep

theorem Tryz.own : ownKnob Tryz.prog.godebug = none := by kernel_rfl
theorem Tryz.laidOut : laidOutB Tryz.prog = true := by kernel_rfl

section
variable {H : Type} {enc : TypeId × Value → H}

theorem trodAll_kp {W W' : World} (hK : Kp W W') {sp : Nat → Bool} : ∀ {ts : List TypeId} {vs : List Value} {ds : List (DataW H)} {ps : List MemPlace},
    (∀ t ∈ ts, Tryz.prog.readableRec t = true ∧ t < Tryz.prog.types.size) → (∀ p ∈ ps, p.block < W.heap.size) → (∀ p ∈ ps, sp p.block = true) →
    DataW.TrodAll enc Tryz.prog W 0 (fun _ => true) true ts vs ds ps → DataW.TrodAll enc Tryz.prog W' 0 sp true ts vs ds ps
  | [], [], [], _, _, _, _, h => h
  | [], _ :: _, _, _, _, _, _, h => h.elim
  | [], [], _ :: _, _, _, _, _, h => h.elim
  | _ :: _, [], _, _, _, _, _, h => h.elim
  | _ :: _, _ :: _, [], _, _, _, _, h => h.elim
  | t :: ts, v :: vs, d :: ds, ps, hr, hlt, hsp, ⟨p, q, h1, h2, e⟩ => by
    subst e
    refine ⟨p, q, ?_, trodAll_kp hK (fun t ht => hr t (by simp [ht])) (fun x hx => hlt x (by simp [hx])) (fun x hx => hsp x (by simp [hx])) h2, rfl⟩
    exact WideElems.Trod_stays Tryz.laidOut (hr t (by simp)).1 (hr t (by simp)).2 h1 (fun x hx => Below.same hK (hlt x (by simp [hx]))) (fun x hx => hsp x (by simp [hx]))

set_option maxRecDepth 100000 in
/-- A law's walk has come to true, and what was there stands: the row's post. -/
theorem law_post {f : Func} {s : ChangeSpec} {apart fresh handsOn again : Bool} {W W' : World} {args : Array Value} {ds : List (DataW H)} {before : List MemPlace}
    (hW : DataW.Whole enc Tryz.prog f.params.toList s.vars apart W args.toList ds [] before) (hv : s.vars = []) (hres : f.resultTypes = #[4])
    (h1 : (s.fn H (ds ++ [])).results = [.lit (.bool true)]) (h2 : (s.fn H (ds ++ [])).args = ds) (h3 : (s.fn H (ds ++ [])).vars = [])
    (hr : ∀ t ∈ f.params.toList, Tryz.prog.readableRec t = true ∧ t < Tryz.prog.types.size) (hK : Kp W W') :
    s.post enc Tryz.prog f apart fresh handsOn again W args (.bool true) W' := by
  have hW' := hW
  obtain ⟨p, q, hA, hV, he, hz, hn⟩ := hW'
  rw [hv] at hV
  obtain ⟨_, rfl⟩ := trodVars_none hV
  rw [List.append_nil] at he
  obtain rfl : p = before := he.symm
  have hlt : ∀ x ∈ p, x.block < W.heap.size := fun x hx => hW.lt x (by simpa using hx)
  have hold : ∀ x ∈ p, (fun b => decide (b < W.heap.size)) x.block = true := fun x hx => by simpa using hlt x hx
  have hresults : ∀ (b : Nat) (sp : Nat → Bool) (hd : Bool), DataW.TrodAll enc Tryz.prog W' b sp hd f.resultTypes.toList ((Value.bool true).resultList f.resultTypes.size) (s.fn H (ds ++ [])).results [] := by
    intro b sp hd
    rw [hres, h1]
    exact trodAll_mk1 (shut_bool Tryz.underlying4 true)
  have hargs : ∀ sp : Nat → Bool, (∀ x ∈ p, sp x.block = true) → DataW.TrodAll enc Tryz.prog W' 0 sp true f.params.toList args.toList (s.fn H (ds ++ [])).args p := by
    intro sp hsp
    rw [h2]
    exact trodAll_kp hK hr hlt hsp hA
  have hvars : ∀ sp : Nat → Bool, DataW.TrodVars enc Tryz.prog W' sp s.vars (s.fn H (ds ++ [])).vars [] := by
    intro sp; rw [hv, h3]; rfl
  refine ⟨ds, [], p, [], p, [], hW, hresults _ _ _, hargs _ hold, hvars _, World.keptBut_mono (fun x hx => ⟨hx, ?_⟩) (Below.frame hK (· ∈ p)), fun _ => ?_⟩
  · exact Or.inr (by simpa using hx)
  · refine ⟨?_, _, _, ([] ++ p) ++ [], ⟨[] ++ p, [], trodAll_append (hargs _ (fun _ _ => rfl)) (hresults _ _ _), hvars _, rfl, ?_, ?_⟩, ?_⟩
    · exact ok_one hres rfl (okWide_bool_mk Tryz.underlying4 true)
    · intro b off hp
      have hin : MemPlace.cell b off ∈ p := by simpa using hp
      rw [Below.frozen hK (hlt _ hin)]
      exact hz b off (by simpa using hin)
    · intro ha
      simpa using hn ha
    · intro x hx _
      simpa using hx

/-- A slice that came in, read as a list. -/
theorem rd_of_slice {α : Type} {W : World} {fuel : Nat} {v : Value} {x : DataW H × List MemPlace} {t e sz : Nat} (enc' : α → List Value) (good : α → Prop) (henc : ∀ y, (enc' y).length = sz) (ht : Tryz.prog.underlying t = some (.slice e)) (hsz : Tryz.prog.cellsOf e = sz) (hs0 : 0 < sz)
    (hel : ∀ (cs : List Value) (n : Nat) (x : DataW H × List MemPlace), DataW.trod enc Tryz.prog W 0 (fun _ => true) true n e cs = some x → ∃ y, cs = enc' y ∧ good y)
    (h : DataW.trod enc Tryz.prog W 0 (fun _ => true) true fuel t [v] = some x) : ∃ A c ys, v = .slice A ys.length c ∧ ys.length ≤ maxLen ∧ Rd W sz enc' A ys ∧ ∀ y ∈ ys, good y := by
  rcases open_slice ht h with ⟨hc, _⟩ | ⟨a, len, cap, m, n, D, Pl, hc, _, hl, hm, hmm, _, hi⟩
  · exact ⟨none, 0, [], by simpa using hc, by simp, Rd.nil _ _ _ _, by simp⟩
  · simp only [if_true] at hmm
    subst hmm
    rw [hsz] at hi
    by_cases h0 : len = 0
    · subst h0
      exact ⟨some a, m, [], by simpa using hc, by simp, Rd.nil _ _ _ _, by simp⟩
    have key : ∀ i, i < len → ∃ y, good y ∧ ∀ j u, (enc' y)[j]? = some u → W.cell? (a.add (i * sz + j)) = some u := by
      intro i hi'
      obtain ⟨cs', hcs, htr⟩ := hi i (by omega)
      obtain ⟨y, rfl, hg⟩ := hel cs' n _ htr
      obtain ⟨_, hlen, hat⟩ := World.cells?_some hcs
      refine ⟨y, hg, fun j u hu => ?_⟩
      have hj : j < sz := by have := (List.getElem?_eq_some_iff.1 hu).1; rw [henc] at this; exact this
      have := hat j hj
      rw [Go.Deep.add_add] at this
      rw [this, hu]
    obtain ⟨y0, hg0, hy0⟩ := key 0 (by omega)
    have hf : ∃ f : Nat → α, ∀ i, i < len → good (f i) ∧ ∀ j u, (enc' (f i))[j]? = some u → W.cell? (a.add (i * sz + j)) = some u := by
      refine ⟨fun i => if hi' : i < len then Classical.choose (key i hi') else y0, fun i hi' => ?_⟩
      simp only [hi', dif_pos]
      exact Classical.choose_spec (key i hi')
    obtain ⟨f, hf⟩ := hf
    have hsp : ∃ b off, a = ⟨b, off, none⟩ := by
      have h1 : 0 < (enc' (f 0)).length := by rw [henc]; exact hs0
      have := (hf 0 (by omega)).2 0 _ (List.getElem?_eq_getElem h1)
      simp only [Nat.zero_mul, Nat.add_zero] at this
      have h2 := World.cell?_spot this
      obtain ⟨b, off, spot⟩ := a
      simp [Addr.add] at h2
      subst h2
      exact ⟨b, off, rfl⟩
    obtain ⟨b, off, rfl⟩ := hsp
    refine ⟨some ⟨b, off, none⟩, m, (List.range len).map f, by simpa using hc, by simp; omega, ?_, ?_⟩
    · intro i hi'
      have hi2 : i < len := by simpa using hi'
      refine ⟨b, off, rfl, fun j u hu => ?_⟩
      have := (hf i hi2).2 j u (by simpa using hu)
      have hadd : (⟨b, off, none⟩ : Addr).add (i * sz + j) = ⟨b, off + i * sz + j, none⟩ := by
        unfold Addr.add; split <;> simp_all [Nat.add_assoc]
      rw [hadd] at this
      exact this
    · intro y hy
      obtain ⟨i, hi', rfl⟩ := List.mem_map.1 hy
      exact (hf i (by simpa using hi')).1
end
end Go.Proofs.YtfaiponmjjbgoaaGreatDoor

/- layer 13's works. -/
namespace Go.Proofs.YtfaiponmjjbgoaaGreatDoor
open Go.RowKit
attribute [local go_sem] Oper.semAt_some

def wr1 : Rt := ⟨⟨167772160, 8⟩, 1, 1, 0, 0, 0, 0, true⟩
def wr2 : Rt := ⟨⟨167837696, 16⟩, 2, 3, 0, 1, 167772674, 9, false⟩
def wr3 : Rt := ⟨⟨167837696, 16⟩, 3, 16, 3, 1, 167772674, 9, false⟩
def wh1 : Hp := ⟨⟨167772160, 8⟩, true, 0, 0, 1⟩
def wh2 : Hp := ⟨⟨167837696, 16⟩, false, 1, 167772674, 3⟩
theorem wl1 : runL [wr1, wr2] [] = [wh1, wh2] := by decide +kernel
theorem wn1 : runN [wr1, wr2] [] = 2 := by decide +kernel
theorem we1 : runE [wr1, wr2] [] = 0 := by decide +kernel
theorem wf1 : foundH 167838211 [wh1, wh2] = (wh2, true) := by decide +kernel
theorem wf2 : foundH 167903232 [wh1, wh2] = (wh1, true) := by decide +kernel
theorem wf3 : foundH 184549376 [wh1, wh2] = (hop0, false) := by decide +kernel
theorem wl3 : runL [wr3] [wh1, wh2] = [wh1] := by decide +kernel
theorem wn3 : runN [wr3] [wh1, wh2] = 1 := by decide +kernel
theorem we3 : runE [wr3] [wh1, wh2] = 0 := by decide +kernel
theorem wf4 : foundH 167838211 [wh1] = (wh1, true) := by decide +kernel

set_option maxRecDepth 100000 in
theorem own_any (q l : Int) (w : World) : Calls Tryz.prog 24 #[.agg #[.int .u32 q, .int .i64 l]] w fun e w' => e = .returned (.agg #[.int .u32 q, .int .i64 l, .int .i64 1, .int .i64 1, .int .i64 0, .int .i64 0, .int .u32 0, .int .i64 0, .bool true]) ∧ Kp w w' := by
  go_enter Tryz.func24, Tryz.ntmps24
  go_wp2_with fail
  refine bodyPost_ret (v := .agg #[.int .u32 q, .int .i64 l, .int .i64 1, .int .i64 1, .int .i64 0, .int .i64 0, .int .u32 0, .int .i64 0, .bool true]) (by simp [results, Tryz.results24, go_sem]) rfl ⟨rfl, ?_⟩
  exact ((Kp.refl _).alloc _).alloc _
theorem num_any (n : Int) (w : World) : Calls Tryz.prog 13 #[.int .i64 n] w fun e w' => e = .returned (.int .i64 n) ∧ w = w' := by
  go_enter Tryz.func13, Tryz.ntmps13
  go_wp2_with fail
  go_ret
  exact ⟨rfl, rfl⟩

theorem wq1 (w : World) : (binOp .eql 53 (.agg #[.int .u32 167837696, .int .i64 16, .bool false, .int .i64 1, .int .u32 167772674, .int .i64 3]) (.agg #[.int .u32 167837696, .int .i64 16, .bool false, .int .i64 1, .int .u32 167772674, .int .i64 3])).run Tryz.prog w = .ok (.bool true) w := by kernel_rfl
theorem wq2 (w : World) : (binOp .eql 53 (.agg #[.int .u32 167772160, .int .i64 8, .bool true, .int .i64 0, .int .u32 0, .int .i64 1]) (.agg #[.int .u32 167772160, .int .i64 8, .bool true, .int .i64 0, .int .u32 0, .int .i64 1])).run Tryz.prog w = .ok (.bool true) w := by kernel_rfl

theorem hv1 : hopV wh1 = .agg #[.int .u32 167772160, .int .i64 8, .bool true, .int .i64 0, .int .u32 0, .int .i64 1] := rfl
theorem hv2 : hopV wh2 = .agg #[.int .u32 167837696, .int .i64 16, .bool false, .int .i64 1, .int .u32 167772674, .int .i64 3] := rfl
theorem hv0 : hopV hop0 = .agg #[.int .u32 0, .int .i64 0, .bool false, .int .i64 0, .int .u32 0, .int .i64 0] := rfl
theorem FT.open {w w' : World} {f : Nat} {F : List Nat} {L : List Hp} (h : FT w w' f F L) (hG : RelsAt w) (hGn : 0 ∉ F) : ∃ F', FM w' f F' L ∧ Only F w w' ∧ (∀ b ∈ F', b ∈ F ∨ w.heap.size ≤ b) ∧ RelsAt w' ∧ 0 ∉ F' := by
  obtain ⟨F', h1, h2, h3⟩ := h
  refine ⟨F', h1, h2, h3, hG.only h2 hGn, fun hc => ?_⟩
  rcases h3 _ hc with e | e
  · exact hGn e
  · have := rels_lt hG; omega
theorem Rd.one (w : World) (r : Rt) : Rd (w.alloc (.cells r.enc.toArray 29)) 9 Rt.enc (some ⟨w.heap.size, 0, none⟩) [r] := Rd.of_blk (Blk.new w _ _) (by omega) Rt.len (by unfold maxLen; simp) (by simp)
theorem Rd.one1 (w : World) (o : Obj) (r : Rt) : Rd ((w.alloc o).alloc (.cells r.enc.toArray 29)) 9 Rt.enc (some ⟨w.heap.size + 1, 0, none⟩) [r] := Rd.of_blk (Blk.new1 w _ _ _) (by omega) Rt.len (by unfold maxLen; simp) (by simp)
theorem Rd.two (w : World) (r s : Rt) : Rd (w.alloc (.cells (r.enc ++ s.enc).toArray 29)) 9 Rt.enc (some ⟨w.heap.size, 0, none⟩) [r, s] := Rd.of_blk (Blk.new w _ _) (by omega) Rt.len (by unfold maxLen; simp) (by simp)

set_option maxRecDepth 100000 in
set_option maxHeartbeats 4000000 in
theorem works_any (w : World) (hG : RelsAt w) : Calls Tryz.prog 6 #[] w fun e w' => e = .returned (.bool true) ∧ Kp w w' := by
  have HG := Lib.hid hG
  clear hG
  go_enter Tryz.func6, Tryz.ntmps6
  go_wp2_with fail
  refine (fnew_any w).mono ?_
  rintro e w1 ⟨f, F, rfl, hM, hK, hF⟩
  have hlF := hM.lt
  have hGn : 0 ∉ F := fun hc => by have := hF _ hc; have := rels_lt HG.out; omega
  obtain ⟨W, hW, kW, B0, B1⟩ : ∃ W, (w1.alloc (.cells #[.int .u32 167772160, .int .i64 8] 26)).alloc (.cells #[.int .u32 167837696, .int .i64 16] 26) = W ∧ Kp w1 W ∧ Blk W w1.heap.size 26 #[.int .u32 167772160, .int .i64 8] ∧ Blk W (w1.heap.size + 1) 26 #[.int .u32 167837696, .int .i64 16] := ⟨_, rfl, ((Kp.refl _).alloc _).alloc _, (Blk.new w1 _ _).alloc _, Blk.new1 w1 _ _ _⟩
  have a0 : W.cell? ⟨w1.heap.size, 0, none⟩ = some (.int .u32 167772160) := B0.cell 0
  have a1 : W.cell? ⟨w1.heap.size, 1, none⟩ = some (.int .i64 8) := B0.cell 1
  have a2 : W.cell? ⟨w1.heap.size + 1, 0, none⟩ = some (.int .u32 167837696) := B1.cell 0
  have a3 : W.cell? ⟨w1.heap.size + 1, 1, none⟩ = some (.int .i64 16) := B1.cell 1
  have HM := Lib.hid (hM.keep kW)
  have HGW := Lib.hid (HG.out.keep (hK.trans kW))
  have HGn := Lib.hid hGn
  have HlF := Lib.hid hlF
  have HF := Lib.hid hF
  clear hM hGn hlF hF
  go_wp2_with fail
  have hb0 : w1.heap.size ∉ F := fun hc => by have := HlF.out _ hc; omega
  have hb1 : w1.heap.size + 1 ∉ F := fun hc => by have := HlF.out _ hc; omega
  have Hb0 := Lib.hid hb0
  have Hb1 := Lib.hid hb1
  clear hb0 hb1
  go_region_held3 (fun w' => w'.cell? ⟨w1.heap.size, 0, none⟩ = some (.int .u32 167772160) ∧ w'.cell? ⟨w1.heap.size, 1, none⟩ = some (.int .i64 8) ∧ w'.cell? ⟨w1.heap.size + 1, 0, none⟩ = some (.int .u32 167837696) ∧ w'.cell? ⟨w1.heap.size + 1, 1, none⟩ = some (.int .i64 16))
    (first | exact ⟨Ob.cell a0 Hb0.out, Ob.cell a1 Hb0.out, Ob.cell a2 Hb1.out, Ob.cell a3 Hb1.out⟩ | exact ⟨Ka.cell a0, Ka.cell a1, Ka.cell a2, Ka.cell a3⟩ | exact ⟨(Ka.alloc _).cell a0, (Ka.alloc _).cell a1, (Ka.alloc _).cell a2, (Ka.alloc _).cell a3⟩ | go_keep)
    (first | (go_at_call 24; refine (own_any 167772160 8 _).mono ?_; rintro e wa ⟨rfl, hKa⟩; have Ka : Kp W wa := (Kp.refl W).drew.trans hKa) | (go_at_call 8; refine (Come_any f F [] [wr1, wr2] (some ⟨wa.heap.size, 0, none⟩) 2 _ (HGW.out.keep (Ka.alloc _)) HGn.out (HM.out.keep (Ka.alloc _)) (Rd.two wa wr1 wr2) (fun _ a ha hc => by injection ha with ha; subst ha; have h9 : wa.heap.size < w1.heap.size := HlF.out _ hc; have := kW.size; have := Ka.size; omega) (by simp) (by simp [Rt.fits, wr1, wr2])).mono ?_; rintro e wb ⟨rfl, hT⟩; rw [wn1, we1]; rw [wl1] at hT; obtain ⟨F2, hM2, hO2, hs2, hG2, hGn2⟩ := hT.open (HGW.out.keep (Ka.alloc _)) HGn.out; have Ob : Only F W wb := (Only.of_kp (Ka.alloc _)).trans hO2))
  have B0b := B0.only Ob Hb0.out
  have B1b := B1.only Ob Hb1.out
  have kwb : Kp w wb := hO2.kp (((hK.trans kW).trans Ka).alloc _) HF.out
  have hs2' : ∀ b ∈ F2, w.heap.size ≤ b := fun b hb => by
    rcases hs2 b hb with e | e
    · exact HF.out b e
    · exact Nat.le_trans ((((hK.trans kW).trans Ka).alloc _).size) e
  have Hs2 := Lib.hid hs2'
  have hl1 := B1.lt
  have hn0 : w1.heap.size ∉ F2 := fun hc => by
    rcases hs2 _ hc with e | e
    · exact Hb0.out e
    · have := Ka.size; simp at e; omega
  have hn1 : w1.heap.size + 1 ∉ F2 := fun hc => by
    rcases hs2 _ hc with e | e
    · exact Hb1.out e
    · have := Ka.size; simp at e; omega
  have Hn0 := Lib.hid hn0
  have Hn1 := Lib.hid hn1
  have Hl2 := Lib.hid hM2.lt
  clear hn0 hn1 hl1
  clear a0 a1 a2 a3 hs2 hs2' hO2 hT hW
  go_wp2_with fail
  refine (fFind_any f F2 [wh1, wh2] 167838211 _ (hG2) (hM2) (by omega)).mono ?_
  rintro e x2 ⟨rfl, hK2⟩
  rw [wf1]
  obtain ⟨V2, hV2, kV2, BV2⟩ : ∃ V, x2.alloc (.cells #[.int .u32 167837696, .int .i64 16, .bool false, .int .i64 1, .int .u32 167772674, .int .i64 3] 53) = V ∧ Kp x2 V ∧ Blk V x2.heap.size 53 #[.int .u32 167837696, .int .i64 16, .bool false, .int .i64 1, .int .u32 167772674, .int .i64 3] := ⟨_, rfl, (Kp.refl _).alloc _, Blk.new x2 _ _⟩
  have K2 := hK2.trans kV2
  simp only [hv2]
  have hG3 := hG2.keep K2
  have hM3 := hM2.keep K2
  have hkx2 := hK2
  clear hK2 kV2 hG2 hM2
  go_wp2_with fail
  refine (fFind_any f F2 [wh1, wh2] 167903232 _ (hG3) (hM3) (by omega)).mono ?_
  rintro e x3 ⟨rfl, hK3⟩
  rw [wf2]
  obtain ⟨V3, hV3, kV3, BV3⟩ : ∃ V, x3.alloc (.cells #[.int .u32 167772160, .int .i64 8, .bool true, .int .i64 0, .int .u32 0, .int .i64 1] 53) = V ∧ Kp x3 V ∧ Blk V x3.heap.size 53 #[.int .u32 167772160, .int .i64 8, .bool true, .int .i64 0, .int .u32 0, .int .i64 1] := ⟨_, rfl, (Kp.refl _).alloc _, Blk.new x3 _ _⟩
  have K3 := hK3.trans kV3
  simp only [hv1]
  have hG4 := hG3.keep K3
  have hM4 := hM3.keep K3
  have hkx3 := K2.trans hK3
  clear hK3 kV3 hG3 hM3 hV2
  go_wp2_with fail
  refine (fFind_any f F2 [wh1, wh2] 184549376 _ (hG4) (hM4) (by omega)).mono ?_
  rintro e x4 ⟨rfl, hK4⟩
  rw [wf3]
  simp only [hv0]
  have K4 : Kp V3 (x4.alloc (.cells #[.int .u32 0, .int .i64 0, .bool false, .int .i64 0, .int .u32 0, .int .i64 0] 53)) := hK4.alloc _
  have hG5 := hG4.keep K4
  have hM5 := hM4.keep K4
  have B1c := B1b.keep ((K2.trans K3).trans K4)
  have B1d := B1b.keep ((K2.trans K3).trans hK4)
  have a2 : ∀ o, (x4.alloc o).cell? ⟨w1.heap.size + 1, 0, none⟩ = some (.int .u32 167837696) := fun o => (B1d.alloc o).cell 0
  have a3 : ∀ o, (x4.alloc o).cell? ⟨w1.heap.size + 1, 1, none⟩ = some (.int .i64 16) := fun o => (B1d.alloc o).cell 1
  clear hK4 hG4 hM4 hV3 B1d
  have HM5 := Lib.hid hM5
  have HG5 := Lib.hid hG5
  have HGn2 := Lib.hid hGn2
  have hl5 := hM5.lt
  have Hl5 := Lib.hid hl5
  clear hM5 hG5 hGn2 hl5
  go_wp2_with fail
  have k5 : ∀ o, Kp (x4.alloc (.cells #[.int .u32 0, .int .i64 0, .bool false, .int .i64 0, .int .u32 0, .int .i64 0] 53)) ((x4.alloc (.cells #[.int .u32 0, .int .i64 0, .bool false, .int .i64 0, .int .u32 0, .int .i64 0] 53)).alloc o) := fun o => (Kp.refl _).alloc o
  refine (Come_any f F2 [wh1, wh2] [wr3] (some ⟨x4.heap.size + 1, 0, none⟩) 1 _ (HG5.out.keep (k5 _)) HGn2.out (HM5.out.keep (k5 _)) (Rd.one1 x4 _ wr3) (fun _ a ha hc => by injection ha with ha; subst ha; have h9 := Hl5.out _ hc; simp at h9) (by simp) (by simp [Rt.fits, wr3])).mono ?_
  rintro e wc ⟨rfl, hT⟩
  rw [wn3, we3]
  rw [wl3] at hT
  obtain ⟨F6, hM6, hO6, hs6, hG6, hGn6⟩ := hT.open (HG5.out.keep (k5 _)) HGn2.out
  have O6 : Only F2 (x4.alloc (.cells #[.int .u32 0, .int .i64 0, .bool false, .int .i64 0, .int .u32 0, .int .i64 0] 53)) wc := (Only.of_kp (k5 _)).trans hO6
  have kwv : Kp w (x4.alloc (.cells #[.int .u32 0, .int .i64 0, .bool false, .int .i64 0, .int .u32 0, .int .i64 0] 53)) := ((kwb.trans K2).trans K3).trans K4
  have kwc : Kp w wc := O6.kp kwv Hs2.out
  clear hT hO6 a2 a3 hs6
  go_wp2_with fail
  refine (fFind_any f F6 [wh1] 167838211 _ (hG6) (hM6) (by omega)).mono ?_
  rintro e x6 ⟨rfl, hK6⟩
  rw [wf4]
  obtain ⟨V6, hV6, kV6, BV6⟩ : ∃ V, x6.alloc (.cells #[.int .u32 167772160, .int .i64 8, .bool true, .int .i64 0, .int .u32 0, .int .i64 1] 53) = V ∧ Kp x6 V ∧ Blk V x6.heap.size 53 #[.int .u32 167772160, .int .i64 8, .bool true, .int .i64 0, .int .u32 0, .int .i64 1] := ⟨_, rfl, (Kp.refl _).alloc _, Blk.new x6 _ _⟩
  have K6 := hK6.trans kV6
  simp only [hv1]
  have kz := kwc.trans K6
  have D0 := ((B0b.keep ((K2.trans K3).trans K4)).only O6 Hn0.out).keep K6
  have D1 := ((B1b.keep ((K2.trans K3).trans K4)).only O6 Hn1.out).keep K6
  have D2 := ((BV2.keep (K3.trans K4)).only O6 (fun hc => by have h1 := Hl2.out _ hc; have := hkx2.size; omega)).keep K6
  have D3 := ((BV3.keep K4).only O6 (fun hc => by have h1 := Hl2.out _ hc; have := hkx3.size; omega)).keep K6
  have hM7 := hM6.keep K6
  have HM7 := Lib.hid hM7
  have d0 : V6.cell? ⟨w1.heap.size, 0, none⟩ = some (.int .u32 167772160) := D0.cell 0
  have d1 : V6.cell? ⟨w1.heap.size, 1, none⟩ = some (.int .i64 8) := D0.cell 1
  have g0 : V6.cell? ⟨w1.heap.size + 1, 0, none⟩ = some (.int .u32 167837696) := D1.cell 0
  have g1 : V6.cell? ⟨w1.heap.size + 1, 1, none⟩ = some (.int .i64 16) := D1.cell 1
  have p0 : V6.cell? ⟨x2.heap.size, 0, none⟩ = some (.int .u32 167837696) := D2.cell 0
  have p1 : V6.cell? ⟨x2.heap.size, 1, none⟩ = some (.int .i64 16) := D2.cell 1
  have p2 : V6.cell? ⟨x2.heap.size, 2, none⟩ = some (.bool false) := D2.cell 2
  have p3 : V6.cell? ⟨x2.heap.size, 3, none⟩ = some (.int .i64 1) := D2.cell 3
  have p4 : V6.cell? ⟨x2.heap.size, 4, none⟩ = some (.int .u32 167772674) := D2.cell 4
  have p5 : V6.cell? ⟨x2.heap.size, 5, none⟩ = some (.int .i64 3) := D2.cell 5
  have q0 : V6.cell? ⟨x3.heap.size, 0, none⟩ = some (.int .u32 167772160) := D3.cell 0
  have q1 : V6.cell? ⟨x3.heap.size, 1, none⟩ = some (.int .i64 8) := D3.cell 1
  have q2 : V6.cell? ⟨x3.heap.size, 2, none⟩ = some (.bool true) := D3.cell 2
  have q3 : V6.cell? ⟨x3.heap.size, 3, none⟩ = some (.int .i64 0) := D3.cell 3
  have q4 : V6.cell? ⟨x3.heap.size, 4, none⟩ = some (.int .u32 0) := D3.cell 4
  have q5 : V6.cell? ⟨x3.heap.size, 5, none⟩ = some (.int .i64 1) := D3.cell 5
  have r0 : V6.cell? ⟨x6.heap.size, 0, none⟩ = some (.int .u32 167772160) := BV6.cell 0
  have r1 : V6.cell? ⟨x6.heap.size, 1, none⟩ = some (.int .i64 8) := BV6.cell 1
  have r2 : V6.cell? ⟨x6.heap.size, 2, none⟩ = some (.bool true) := BV6.cell 2
  have r3 : V6.cell? ⟨x6.heap.size, 3, none⟩ = some (.int .i64 0) := BV6.cell 3
  have r4 : V6.cell? ⟨x6.heap.size, 4, none⟩ = some (.int .u32 0) := BV6.cell 4
  have r5 : V6.cell? ⟨x6.heap.size, 5, none⟩ = some (.int .i64 1) := BV6.cell 5
  have e1 := wq1
  have e2 := wq2
  clear hK6 kV6 hM7 hM6 D0 D1 D2 D3 BV6 BV2 BV3 K2 K3 K4 K6 O6 kwv kwc HM5 HG5 Hl5 k5 B1c kwb Ob Ka hKa HM HGW
  go_wp2_with fail
  refine (num_any 0 _).mono ?_
  rintro e w' ⟨rfl, rfl⟩
  go_wp2_with fail
  refine (num_any 0 _).mono ?_
  rintro e w' ⟨rfl, rfl⟩
  go_wp2_with fail
  refine (flen_any f F6 [wh1] _ HM7.out).mono ?_
  rintro e w' ⟨rfl, rfl⟩
  go_wp2_with fail
  go_ret
  exact ⟨rfl, kz⟩
end Go.Proofs.YtfaiponmjjbgoaaGreatDoor

/- FibAll's table and the reference's list, side by side. -/
namespace Go.Proofs.YtfaiponmjjbgoaaGreatDoor
open Go.RowKit

theorem runL_one (r : Rt) (L : List Hp) : runL [r] L = comeL r L := by
  simp only [runL]
  by_cases h : comeE r L = 0
  · rw [if_pos h]
  · rw [if_neg h, come_err h]
theorem FM.up {w : World} {f : Nat} {F : List Nat} {L : List Hp} (h : FM w f F L) : Up L ∧ L.length ≤ 512 := by
  obtain ⟨tr, t, A, c, H, _, m, u, pm⟩ := h
  exact ⟨u, by rw [← pm.length_eq]; exact m.room⟩

/-- A table of hops, and the reference's list of the same hops in a block of its own. -/
structure AlI (w : World) (f u : Nat) (W : World) (F : List Nat) (L : List Hp) (A : Option Addr) (c : Nat) : Prop where
  fm : FM W f F L
  new : ∀ b ∈ F, w.heap.size ≤ b
  rels : RelsAt W
  gn : 0 ∉ F
  kp : Kp w W
  ub : Blk W u 35 #[.slice A L.length c]
  un : u ∉ F
  uw : w.heap.size ≤ u
  ug : u ≠ 0
  rd : Rd W 6 Hp.enc A L
  an : ∀ a, A = some a → a.block < W.heap.size ∧ a.block ∉ F ∧ a.block ≠ u

section
variable {w : World} {f u : Nat} {W W' : World} {F : List Nat} {L L' : List Hp} {A A' : Option Addr} {c c' : Nat}
theorem AlI.keep (h : AlI w f u W F L A c) (k : Kp W W') : AlI w f u W' F L A c :=
  ⟨h.fm.keep k, h.new, h.rels.keep k, h.gn, h.kp.trans k, h.ub.keep k, h.un, h.uw, h.ug, h.rd.keep k, fun a ha => ⟨Nat.lt_of_lt_of_le (h.an a ha).1 k.size, (h.an a ha).2⟩⟩
/-- Routes came to the table alone: the reference's list stands. -/
structure AlJ (w : World) (f u : Nat) (W : World) (F : List Nat) (L0 L : List Hp) (A : Option Addr) (c : Nat) : Prop where
  fm : FM W f F L
  new : ∀ b ∈ F, w.heap.size ≤ b
  rels : RelsAt W
  gn : 0 ∉ F
  kp : Kp w W
  ub : Blk W u 35 #[.slice A L0.length c]
  un : u ∉ F
  uw : w.heap.size ≤ u
  ug : u ≠ 0
  rd : Rd W 6 Hp.enc A L0
  an : ∀ a, A = some a → a.block < W.heap.size ∧ a.block ∉ F ∧ a.block ≠ u
theorem AlI.come (h : AlI w f u W F L A c) (hT : FT W W' f F L') : ∃ F', AlJ w f u W' F' L L' A c ∧ Only F W W' ∧ ∀ b ∈ F', b ∈ F ∨ W.heap.size ≤ b := by
  obtain ⟨F', fm, O, s5, r5, gn5⟩ := hT.open h.rels h.gn
  have hub := h.ub.lt
  refine ⟨F', ⟨fm, fun b hb => ?_, r5, gn5, O.kp h.kp h.new, h.ub.only O h.un, fun hc => ?_, h.uw, h.ug, h.rd.only O (fun a ha => (h.an a ha).2.1), fun a ha => ⟨Nat.lt_of_lt_of_le (h.an a ha).1 O.size, fun hc => ?_, (h.an a ha).2.2⟩⟩, O, s5⟩
  · rcases s5 b hb with e | e
    · exact h.new b e
    · exact Nat.le_trans h.kp.size e
  · rcases s5 _ hc with e | e
    · exact h.un e
    · omega
  · have := (h.an a ha).1
    rcases s5 _ hc with e | e
    · exact (h.an a ha).2.1 e
    · omega
theorem AlJ.keep {L0 : List Hp} (h : AlJ w f u W F L0 L A c) (k : Kp W W') : AlJ w f u W' F L0 L A c :=
  ⟨h.fm.keep k, h.new, h.rels.keep k, h.gn, h.kp.trans k, h.ub.keep k, h.un, h.uw, h.ug, h.rd.keep k, fun a ha => ⟨Nat.lt_of_lt_of_le (h.an a ha).1 k.size, (h.an a ha).2⟩⟩
/-- The reference's list is set to the table's. -/
theorem AlJ.set {L0 : List Hp} (h : AlJ w f u W F L0 L A c) (k : Kp W W') (hR : Rd W' 6 Hp.enc A' L) (hA : A' = A ∨ ∀ a, A' = some a → W.heap.size ≤ a.block ∧ a.block < W'.heap.size) : AlI w f u (W'.setCell ⟨u, 0, none⟩ (.slice A' L.length c')) F L A' c' := by
  have g := h.keep k
  have hub := h.ub.lt
  have O : Only [u] W' (W'.setCell ⟨u, 0, none⟩ (.slice A' L.length c')) := (Only.refl _ _).setCell (.inl (by simp)) _
  have hall : ∀ a, A' = some a → a.block < W'.heap.size ∧ a.block ∉ F ∧ a.block ≠ u := fun a ha => by
    rcases hA with rfl | hA
    · exact g.an a ha
    · have h1 := hA a ha
      exact ⟨h1.2, fun hc => by have := h.fm.lt _ hc; omega, by omega⟩
  refine ⟨g.fm.only O (fun b hb => by simp; intro e; subst e; exact g.un hb), g.new, g.rels.only O ?_, g.gn, O.kp g.kp (by simp; exact g.uw), g.ub.set_ 0 _, g.un, g.uw, g.ug, hR.only O (fun a ha => by simp; exact (hall a ha).2.2), fun a ha => ⟨?_, (hall a ha).2⟩⟩
  · simp only [List.mem_singleton]
    exact fun e => g.ug e.symm
  · simpa [World.setCell] using (hall a ha).1
end
end Go.Proofs.YtfaiponmjjbgoaaGreatDoor

/- FibAll: whatever the routes, the law returns true, and what was there stands. -/
namespace Go.Proofs.YtfaiponmjjbgoaaGreatDoor
open Go.RowKit
attribute [local go_sem] Oper.semAt_some

def rtA (r : Rt) : Array Value := #[.int .u32 r.p.a, .int .i64 r.p.l, .int .i64 r.s, .int .i64 r.m, .int .i64 r.l, .int .i64 r.f, .int .u32 r.x, .int .i64 r.d, .bool r.c]
def AlAll (w : World) (f u : Nat) (W : World) : Prop := ∃ F L A c, AlI w f u W F L A c
theorem AllMem.only {bx : Nat} {A : Option Addr} {c : Nat} {l : List Hp} {W W' : World} {bs : List Nat} (h : AllMem bx A c l W) (k : Only bs W W') (h1 : bx ∉ bs) (h2 : ∀ a, A = some a → a.block ∉ bs) : AllMem bx A c l W' := ⟨h.bx.only k h1, h.rd.only k h2⟩
theorem AllMem.keep {bx : Nat} {A : Option Addr} {c : Nat} {l : List Hp} {W W' : World} (h : AllMem bx A c l W) (k : Kp W W') : AllMem bx A c l W' := ⟨h.bx.keep k, h.rd.keep k⟩

set_option maxRecDepth 100000 in
set_option maxHeartbeats 8000000 in
theorem all_walk (A : Option Addr) (c : Nat) (rs : List Rt) (many : Int) (r : Rt) (w : World) (hG : RelsAt w) (hR : Rd w 9 Rt.enc A rs) (hn : rs.length ≤ 20) (hfit : ∀ r ∈ rs, r.fits) (hr : r.fits) :
    Calls Tryz.prog 3 #[.slice A rs.length c, .int .i64 many, .agg (rtA r)] w fun e w' => e = .returned (.bool true) ∧ Kp w w' := by
  obtain ⟨W, hW, kW, B0⟩ : ∃ W, w.alloc (.cells (rtA r) 29) = W ∧ Kp w W ∧ Blk W w.heap.size 29 (rtA r) := ⟨_, rfl, (Kp.refl _).alloc _, Blk.new w _ _⟩
  have HG := Lib.hid (hG.keep kW)
  have HR := Lib.hid (hR.keep kW)
  have Hfit := Lib.hid hfit
  have Hr := Lib.hid hr
  clear hG hR hfit hr
  have hd : decide ((20 : Int) < rs.length) = false := by simp; omega
  have hd' : decide (20 < rs.length) = false := by simp; omega
  unfold rtA at hW B0 ⊢
  go_enter Tryz.func3, Tryz.ntmps3
  go_wp2_with fail
  refine (fnew_any W).mono ?_
  rintro e w1 ⟨f, F0, rfl, hM, hK, hF⟩
  have hlF := hM.lt
  have hgl := rels_lt HG.out
  have hI : AlAll W f w1.heap.size (w1.alloc (.cells #[.slice none 0 0] 35)) :=
    ⟨F0, [], none, 0, ⟨hM.keep ((Kp.refl _).alloc _), hF, HG.out.keep (hK.alloc _), fun hc => by have := hF _ hc; omega, hK.alloc _, Blk.new w1 _ _, fun hc => by have := hlF _ hc; omega, hK.size, by have := hK.size; omega, Rd.nil _ _ _ _, fun a ha => by cases ha⟩⟩
  have HI := Lib.hid hI
  clear hM hK hF hlF hI hgl
  go_wp2_with fail
  go_loopw [9] (fun i wr => ∃ k : Nat, k ≤ rs.length ∧ i = .int .i64 k ∧ Hid (AlAll W f w1.heap.size wr)) (fun i _ => rs.length - (intOf i).toNat)
  case atStart => exact ⟨0, Nat.zero_le _, rfl, HI⟩
  case round =>
    obtain ⟨k, hk, rfl, hA⟩ := hrel
    obtain ⟨F, L, A1, c1, I⟩ := hA.out
    have HII := Lib.hid I
    by_cases hlt : k < rs.length
    · obtain ⟨b, off, hb, x0, x1, x2, x3, x4, x5, x6, x7, x8⟩ := rt_at (HR.out.keep I.kp) hlt
      subst hb
      obtain ⟨q, hq⟩ : ∃ q, rs[k] = q := ⟨_, rfl⟩
      rw [hq] at x0 x1 x2 x3 x4 x5 x6 x7 x8
      have hqf := Hfit.out q (by rw [← hq]; exact List.getElem_mem _)
      have Hq := Lib.hid hqf
      have Hqe := Lib.hid hq
      clear hq hqf I
      go_wp2_with fail
      have ha : ∀ o, Kp wr (wr.alloc o) := fun o => (Kp.refl _).alloc o
      have hlF := HII.out.fm.lt
      refine (Come_any f F L [q] (some ⟨wr.heap.size, 0, none⟩) 1 _ (HII.out.rels.keep (ha _)) HII.out.gn (HII.out.fm.keep (ha _)) (Rd.one wr q) (fun _ a ha hc => by injection ha with ha; subst ha; have h9 : wr.heap.size < wr.heap.size := hlF _ hc; omega) (by simp) (by simpa using Hq.out)).mono ?_
      rintro e w5 ⟨rfl, hT⟩
      obtain ⟨F5, hJ, hO, hS⟩ := (HII.out.keep (ha _)).come hT
      rw [runL_one] at hJ
      have HJ := Lib.hid hJ
      have hRk := rt_at (HR.out.keep hJ.kp) hlt
      rw [Hqe.out] at hRk
      obtain ⟨b2, off2, hb2, y0, y1, y2, y3, y4, y5, y6, y7, y8⟩ := hRk
      injection hb2 with hb2
      injection hb2 with hb3 hb4
      subst hb3 hb4
      have u0 : w5.cell? ⟨w1.heap.size, 0, none⟩ = some (.slice A1 L.length c1) := hJ.ub.cell 0
      have z0 := hJ.ub.frozen 0
      have hLu := HII.out.fm.up
      have HLu := Lib.hid hLu
      clear hT hJ hO hS hlF ha x0 x1 x2 x3 x4 x5 x6 x7 x8 hLu
      go_wp2_with fail
      go_region_with (go_at_call 9; refine (one_any A1 c1 L q _ (HJ.out.rd.keep (Kp.refl _).drew) HLu.out.2 Hq.out.1 Hq.out.2 HLu.out.1).mono ?_; rintro e w6 ⟨A2, c2, rfl, hR2, hK2, hA2⟩; have v0 : w6.cell? ⟨w1.heap.size, 0, none⟩ = some (.slice A1 L.length c1) := ((Kp.refl w5).drew.trans hK2).cell u0; have zz0 : w6.frozen? ⟨w1.heap.size, 0, none⟩ = false := (((Kp.refl w5).drew.trans hK2).frozen u0).trans z0; have HR2 := Lib.hid hR2; have HA2 := Lib.hid hA2; clear hR2 hA2)
      all_goals
        go_wp2_with fail
        go_roundw
        case rel => exact ⟨k + 1, by omega, by go_num, Lib.hid ⟨_, _, _, _, HJ.out.set ((Kp.refl w5).drew.trans hK2) HR2.out HA2.out⟩⟩
        case measure => simp [intOf]; omega
    · obtain rfl : k = rs.length := by omega
      clear hA I
      go_wp2_with fail
      refine (all_any f F L wr HII.out.fm).mono ?_
      rintro e w3 ⟨bx, A2, c2, rfl, hD, hK3, hbx, hA2⟩
      have HI3 := Lib.hid (HII.out.keep hK3)
      have HD := Lib.hid hD
      have Hbx := Lib.hid hbx
      have HA2 := Lib.hid hA2
      clear hD hbx hA2
      have B3 := B0.keep (HII.out.kp.trans hK3)
      have y0 : w3.cell? ⟨w.heap.size, 0, none⟩ = some (.int .u32 r.p.a) := B3.cell 0
      have y1 : w3.cell? ⟨w.heap.size, 1, none⟩ = some (.int .i64 r.p.l) := B3.cell 1
      have y2 : w3.cell? ⟨w.heap.size, 2, none⟩ = some (.int .i64 r.s) := B3.cell 2
      have y3 : w3.cell? ⟨w.heap.size, 3, none⟩ = some (.int .i64 r.m) := B3.cell 3
      have y4 : w3.cell? ⟨w.heap.size, 4, none⟩ = some (.int .i64 r.l) := B3.cell 4
      have y5 : w3.cell? ⟨w.heap.size, 5, none⟩ = some (.int .i64 r.f) := B3.cell 5
      have y6 : w3.cell? ⟨w.heap.size, 6, none⟩ = some (.int .u32 r.x) := B3.cell 6
      have y7 : w3.cell? ⟨w.heap.size, 7, none⟩ = some (.int .i64 r.d) := B3.cell 7
      have y8 : w3.cell? ⟨w.heap.size, 8, none⟩ = some (.bool r.c) := B3.cell 8
      clear B3
      unfold allV
      go_wp2_with fail
      have ha : ∀ o, Kp w3 (w3.alloc o) := fun o => (Kp.refl _).alloc o
      have hlF := HII.out.fm.lt
      have hlF3 := HI3.out.fm.lt
      refine (Come_any f F L [r] (some ⟨w3.heap.size, 0, none⟩) 1 _ (HI3.out.rels.keep (ha _)) HI3.out.gn (HI3.out.fm.keep (ha _)) (Rd.one w3 r) (fun _ a ha hc => by injection ha with ha; subst ha; have h9 : w3.heap.size < w3.heap.size := hlF3 _ hc; omega) (by simp) (by simpa using Hr.out)).mono ?_
      rintro e w5 ⟨rfl, hT⟩
      obtain ⟨F5, hJ, hO, hS⟩ := (HI3.out.keep (ha _)).come hT
      have HJ := Lib.hid hJ
      have hD5 : AllMem bx A2 c2 L w5 := (HD.out.keep (ha _)).only hO (fun hc => by have := hlF _ hc; have := Hbx.out; omega) (fun a ha hc => by have := hlF _ hc; have := HA2.out a ha; omega)
      have HD5 := Lib.hid hD5
      have u0 : w5.cell? ⟨w1.heap.size, 0, none⟩ = some (.slice A1 L.length c1) := hJ.ub.cell 0
      have hLu := HII.out.fm.up.2
      clear hT hJ hO hS hlF hlF3 ha y0 y1 y2 y3 y4 y5 y6 y7 y8 hD5
      go_wp2_with fail
      refine (rows_any bx A2 c2 A1 c1 L many w5 HD5.out HJ.out.rd hLu).mono ?_
      rintro e w6 ⟨rfl, hK6⟩
      have u6 : w6.cell? ⟨w1.heap.size, 0, none⟩ = some (.slice A1 L.length c1) := hK6.cell u0
      clear u0
      go_wp2_with fail
      refine (rows_any bx A2 c2 A1 c1 L 999 w6 (HD5.out.keep hK6) (HJ.out.rd.keep hK6) hLu).mono ?_
      rintro e w7 ⟨rfl, hK7⟩
      go_wp2_with fail
      refine (works_any _ (HJ.out.rels.keep (hK6.trans hK7))).mono ?_
      rintro e w8 ⟨rfl, hK8⟩
      go_wp2_with fail
      go_ret
      exact ⟨rfl, (((kW.trans HJ.out.kp).trans hK6).trans hK7).trans hK8⟩

set_option maxRecDepth 100000 in
set_option maxHeartbeats 2000000 in
theorem all_law (A : Option Addr) (c : Nat) (rs : List Rt) (many : Int) (r : Rt) (w : World) (hG : RelsAt w) (hR : Rd w 9 Rt.enc A rs) (hfit : ∀ r ∈ rs, r.fits) (hr : r.fits) :
    Calls Tryz.prog 3 #[.slice A rs.length c, .int .i64 many, .agg (rtA r)] w fun e w' => e = .returned (.bool true) ∧ Kp w w' := by
  by_cases hn : rs.length ≤ 20
  · exact all_walk A c rs many r w hG hR hn hfit hr
  · have hd : decide ((20 : Int) < rs.length) = true := by simp; omega
    have hd' : decide (20 < rs.length) = true := by simp; omega
    have kW : Kp w (w.alloc (.cells (rtA r) 29)) := (Kp.refl _).alloc _
    have HG := Lib.hid (hG.keep kW)
    clear hG hR hfit hr hn
    unfold rtA at kW HG ⊢
    go_enter Tryz.func3, Tryz.ntmps3
    go_wp2_with fail
    refine (works_any _ HG.out).mono ?_
    rintro e w' ⟨rfl, hK⟩
    go_wp2_with fail
    go_ret
    exact ⟨rfl, kW.trans hK⟩
end Go.Proofs.YtfaiponmjjbgoaaGreatDoor

/- Routes among a law's arguments, opened. -/
namespace Go.Proofs.YtfaiponmjjbgoaaGreatDoor
open Go.ChangeShapes Go.WideShapes Go.ChangeAt Go.RowKit Go.Joins Go.Deep

theorem len9 {l : List Value} (h : l.length = 9) : ∃ c0 c1 c2 c3 c4 c5 c6 c7 c8, l = [c0, c1, c2, c3, c4, c5, c6, c7, c8] := by
  match l, h with
  | [c0, c1, c2, c3, c4, c5, c6, c7, c8], _ => exact ⟨c0, c1, c2, c3, c4, c5, c6, c7, c8, rfl⟩
theorem len8 {α : Type} {l : List α} (h : l.length = 8) : ∃ c0 c1 c2 c3 c4 c5 c6 c7, l = [c0, c1, c2, c3, c4, c5, c6, c7] := by
  match l, h with
  | [c0, c1, c2, c3, c4, c5, c6, c7], _ => exact ⟨c0, c1, c2, c3, c4, c5, c6, c7, rfl⟩
theorem two_of {α : Type} {l : List α} (h : l.length = 2) : ∃ a b, l = [a, b] := by
  match l, h with
  | [a, b], _ => exact ⟨a, b, rfl⟩
theorem nat_of_u32 {n : Int} (h : (Lit.int .u32 n).wf = true) : ∃ a : Nat, n = (a : Int) ∧ a < 4294967296 := by
  simp [Lit.wf, IntKind.min, IntKind.max, IntKind.bits, IntKind.signed] at h
  exact ⟨n.toNat, by omega, by omega⟩

section
variable {H : Type} {enc : TypeId × Value → H}
set_option maxRecDepth 100000 in
theorem pfx_of {W : World} {base : Nat} {sp : Nat → Bool} {held : Bool} (cs : List Value) (n : Nat) (x : DataW H × List MemPlace) (h : DataW.trod enc Tryz.prog W base sp held n 26 cs = some x) : ∃ (a : Nat) (l : Int), cs = [.int .u32 a, .int .i64 l] ∧ a < 4294967296 := by
  obtain ⟨xs, m, _, _, hl, hlen, hf⟩ := DataW.trod_struct Tryz.underlying26 h
  have hC : Tryz.prog.cellsOf 26 = 2 := by kernel_rfl
  have hCi : Tryz.prog.cellsOf 3 = 1 := by kernel_rfl
  have hCa : Tryz.prog.cellsOf 24 = 1 := by kernel_rfl
  rw [hC] at hl
  obtain ⟨c0, c1, rfl⟩ := two_of hl
  obtain ⟨y0, y1, rfl⟩ := two_of hlen
  have e0 : DataW.trod enc Tryz.prog W base sp held m 24 [c0] = some y0 := by
    have this : DataW.trod enc Tryz.prog W base sp held m 24 (([c0, c1].drop 0).take (Tryz.prog.cellsOf 24)) = some y0 := hf 0 _ rfl
    rw [hCa] at this; exact this
  have e1 : DataW.trod enc Tryz.prog W base sp held m 3 [c1] = some y1 := by
    have this : DataW.trod enc Tryz.prog W base sp held m 3 (([c0, c1].drop 1).take (Tryz.prog.cellsOf 3)) = some y1 := hf 1 _ rfl
    rw [hCi] at this; exact this
  obtain ⟨a, ha, _, hw⟩ := DataW.trod_int Tryz.underlying24 e0
  obtain ⟨b, hb, _⟩ := DataW.trod_int Tryz.underlying3 e1
  simp at ha hb
  subst ha hb
  obtain ⟨a', rfl, hlt⟩ := nat_of_u32 hw
  exact ⟨a', b, rfl, hlt⟩

set_option maxRecDepth 100000 in
theorem route_of {W : World} {base : Nat} {sp : Nat → Bool} {held : Bool} (cs : List Value) (n : Nat) (x : DataW H × List MemPlace) (h : DataW.trod enc Tryz.prog W base sp held n 29 cs = some x) : ∃ y : Rt, cs = y.enc ∧ y.fits := by
  obtain ⟨xs, m, _, _, hl, hlen, hf⟩ := DataW.trod_struct Tryz.underlying29 h
  have hC : Tryz.prog.cellsOf 29 = 9 := by kernel_rfl
  have hCp : Tryz.prog.cellsOf 26 = 2 := by kernel_rfl
  have hCs : Tryz.prog.cellsOf 27 = 1 := by kernel_rfl
  have hCi : Tryz.prog.cellsOf 3 = 1 := by kernel_rfl
  have hCl : Tryz.prog.cellsOf 2 = 1 := by kernel_rfl
  have hCa : Tryz.prog.cellsOf 24 = 1 := by kernel_rfl
  have hCb : Tryz.prog.cellsOf 4 = 1 := by kernel_rfl
  rw [hC] at hl
  obtain ⟨c0, c1, c2, c3, c4, c5, c6, c7, c8, rfl⟩ := len9 hl
  obtain ⟨y0, y1, y2, y3, y4, y5, y6, y7, rfl⟩ := len8 hlen
  clear hl hlen hC h
  have e0 : DataW.trod enc Tryz.prog W base sp held m 26 [c0, c1] = some y0 := by
    have this : DataW.trod enc Tryz.prog W base sp held m 26 (([c0, c1, c2, c3, c4, c5, c6, c7, c8].drop 0).take (Tryz.prog.cellsOf 26)) = some y0 := hf 0 _ rfl
    rw [hCp] at this; exact this
  have e1 : DataW.trod enc Tryz.prog W base sp held m 27 [c2] = some y1 := by
    have this : DataW.trod enc Tryz.prog W base sp held m 27 (([c0, c1, c2, c3, c4, c5, c6, c7, c8].drop 2).take (Tryz.prog.cellsOf 27)) = some y1 := hf 1 _ rfl
    rw [hCs] at this; exact this
  have e2 : DataW.trod enc Tryz.prog W base sp held m 3 [c3] = some y2 := by
    have this : DataW.trod enc Tryz.prog W base sp held m 3 (([c0, c1, c2, c3, c4, c5, c6, c7, c8].drop 3).take (Tryz.prog.cellsOf 3)) = some y2 := hf 2 _ rfl
    rw [hCi] at this; exact this
  have e3 : DataW.trod enc Tryz.prog W base sp held m 3 [c4] = some y3 := by
    have this : DataW.trod enc Tryz.prog W base sp held m 3 (([c0, c1, c2, c3, c4, c5, c6, c7, c8].drop 4).take (Tryz.prog.cellsOf 3)) = some y3 := hf 3 _ rfl
    rw [hCi] at this; exact this
  have e4 : DataW.trod enc Tryz.prog W base sp held m 3 [c5] = some y4 := by
    have this : DataW.trod enc Tryz.prog W base sp held m 3 (([c0, c1, c2, c3, c4, c5, c6, c7, c8].drop 5).take (Tryz.prog.cellsOf 3)) = some y4 := hf 4 _ rfl
    rw [hCi] at this; exact this
  have e5 : DataW.trod enc Tryz.prog W base sp held m 24 [c6] = some y5 := by
    have this : DataW.trod enc Tryz.prog W base sp held m 24 (([c0, c1, c2, c3, c4, c5, c6, c7, c8].drop 6).take (Tryz.prog.cellsOf 24)) = some y5 := hf 5 _ rfl
    rw [hCa] at this; exact this
  have e6 : DataW.trod enc Tryz.prog W base sp held m 2 [c7] = some y6 := by
    have this : DataW.trod enc Tryz.prog W base sp held m 2 (([c0, c1, c2, c3, c4, c5, c6, c7, c8].drop 7).take (Tryz.prog.cellsOf 2)) = some y6 := hf 6 _ rfl
    rw [hCl] at this; exact this
  have e7 : DataW.trod enc Tryz.prog W base sp held m 4 [c8] = some y7 := by
    have this : DataW.trod enc Tryz.prog W base sp held m 4 (([c0, c1, c2, c3, c4, c5, c6, c7, c8].drop 8).take (Tryz.prog.cellsOf 4)) = some y7 := hf 7 _ rfl
    rw [hCb] at this; exact this
  clear hf
  obtain ⟨a, l, hp, hpl⟩ := pfx_of _ _ _ e0
  obtain ⟨s, hs, _⟩ := DataW.trod_int Tryz.underlying27 e1
  obtain ⟨mm, hm, _⟩ := DataW.trod_int Tryz.underlying3 e2
  obtain ⟨ll, hll, _⟩ := DataW.trod_int Tryz.underlying3 e3
  obtain ⟨f, hff, _⟩ := DataW.trod_int Tryz.underlying3 e4
  obtain ⟨xx, hx, _, hw⟩ := DataW.trod_int Tryz.underlying24 e5
  obtain ⟨d, hd, _⟩ := DataW.trod_int Tryz.underlying2 e6
  obtain ⟨b, hb, _⟩ := DataW.trod_bool Tryz.underlying4 e7
  clear e0 e1 e2 e3 e4 e5 e6 e7
  simp only [List.cons.injEq, and_true] at hp hs hm hll hff hx hd hb
  obtain ⟨x', rfl, hlt⟩ := nat_of_u32 hw
  obtain ⟨rfl, rfl⟩ := hp
  subst hs hm hll hff hx hd hb
  exact ⟨⟨⟨a, l⟩, s, mm, ll, f, x', d, b⟩, rfl, hpl, hlt⟩

set_option maxRecDepth 100000 in
theorem open_route {W : World} {base : Nat} {v : Value} {d : DataW H} {p : List MemPlace} (hv : Value.okWide Tryz.prog W .any base 29 v) (h : DataW.Trod enc Tryz.prog W 0 (fun _ => true) true 29 v d p) : ∃ r : Rt, v = .agg (rtA r) ∧ r.fits := by
  obtain ⟨cs, rfl, hsz⟩ := okWide_struct Tryz.underlying29 hv
  obtain ⟨fuel, hf⟩ := h
  obtain ⟨r, hr, hfit⟩ := route_of _ _ _ hf
  refine ⟨r, ?_, hfit⟩
  have : cs = r.enc.toArray := by
    apply Array.ext'
    simpa [Value.cells] using hr
  rw [this]
  rfl
set_option maxRecDepth 100000 in
theorem open_routes {W : World} {base : Nat} {v : Value} {d : DataW H} {p : List MemPlace} (hv : Value.okWide Tryz.prog W .any base 22 v) (h : DataW.Trod enc Tryz.prog W 0 (fun _ => true) true 22 v d p) : ∃ A c rs, v = .slice A rs.length c ∧ Rd W 9 Rt.enc A rs ∧ ∀ r ∈ rs, r.fits := by
  obtain ⟨a, l, cp, rfl⟩ := okWide_slice Tryz.underlying22 hv
  obtain ⟨n, h⟩ := h
  obtain ⟨A, c, ls, hl, _, hrd, hg⟩ := rd_of_slice (sz := 9) Rt.enc Rt.fits (fun _ => rfl) Tryz.underlying22 (by kernel_rfl) (by omega) route_of h
  exact ⟨A, c, ls, hl, hrd, hg⟩
end
end Go.Proofs.YtfaiponmjjbgoaaGreatDoor

/- fib's Get of any prefix; layer 13's is. -/
namespace Go.Proofs.YtfaiponmjjbgoaaGreatDoor
open Go.RowKit
attribute [local go_sem] Oper.semAt_some

set_option maxRecDepth 100000 in
set_option maxHeartbeats 1000000 in
theorem get_bad (tr : Nat) (p : PI) (many : Int) (t : Tr) (w : World) (hT : Blk w tr 87 #[t.ptr, .int .i64 many, .bool true]) (ha : p.a < 4294967296) (hp : p.okB = false) :
    Calls Tryz.prog 53 #[.pointer (some ⟨tr, 0, none⟩), .agg #[.int .u32 p.a, .int .i64 p.l]] w fun e w' => e = .returned (.tuple #[.int .i64 0, .bool false]) ∧ Kp w w' := by
  have Hck := Lib.hid (show checkP p = 2 by simp [checkP, hp])
  have kW : Kp w (w.alloc (.cells #[.int .u32 p.a, .int .i64 p.l] 26)) := (Kp.refl _).alloc _
  have HT := Lib.hid (hT.keep kW)
  clear hT hp
  go_enter Tryz.func53, Tryz.ntmps53
  go_wp2_with fail
  refine (none_any tr _ many _ HT.out).mono ?_
  rintro e w' ⟨rfl, rfl⟩
  go_wp2_with fail
  refine (check_any p _ ha).mono ?_
  rintro e w1 ⟨rfl, hK1⟩
  rw [Hck.out]
  go_wp2_with fail
  go_ret2
  exact ⟨rfl, kW.trans hK1⟩
set_option maxRecDepth 100000 in
set_option maxHeartbeats 1000000 in
theorem kplace_bad (tr : Nat) (p : PI) (many : Int) (t : Tr) (w : World) (hT : TrieM w tr t many) (ha : p.a < 4294967296) (hp : p.okB = false) :
    Calls Tryz.prog 35 #[.agg #[.pointer (some ⟨tr, 0, none⟩)], .agg #[.int .u32 p.a, .int .i64 p.l]] w fun e w' => e = .returned (.tuple #[.int .i64 0, .bool false]) ∧ Kp w w' := by
  have HT := Lib.hid hT
  have Hp := Lib.hid hp
  clear hT hp
  go_enter Tryz.func35, Tryz.ntmps35
  go_wp2_with fail
  have k1 : Kp w ((w.alloc (.cells #[.pointer (some ⟨tr, 0, none⟩)] 67)).alloc (.cells #[.int .u32 p.a, .int .i64 p.l] 26)) := ((Kp.refl _).alloc _).alloc _
  refine (get_bad tr p many t _ (HT.out.blk.keep k1) ha Hp.out).mono ?_
  rintro e w1 ⟨rfl, hK⟩
  go_wp2_with fail
  go_ret2
  exact ⟨rfl, k1.trans hK⟩

/-- What place answers of any prefix. -/
def placeR (t : Tr) (p : PI) : Int × Bool := if p.okB then (t.look p.pn).got p.pn else (0, false)
theorem getI_mem {p : PI} {L : List Hp} (u : Up L) {h : Hp} (hm : h ∈ L) (hp : isP p h = true) : getI p L = (h, true) := by
  obtain ⟨k, hk, rfl⟩ := List.getElem_of_mem hm
  refine getI_at hk (fun j hj hjk => ?_) hp
  cases h1 : isP p L[j] with
  | false => rfl
  | true =>
    exfalso
    unfold isP at h1 hp
    simp only [Bool.and_eq_true, beq_iff_eq] at h1 hp
    have e : L[j].p = L[k].p := by
      have h2 : L[j].p.a = L[k].p.a := by omega
      have h3 : L[j].p.l = L[k].p.l := by omega
      cases hh : L[j].p; cases hh2 : L[k].p; rw [hh, hh2] at h2 h3; simp at h2 h3; simp [h2, h3]
    have := List.pairwise_iff_getElem.1 u j k hj hk hjk
    rw [e] at this
    exact lt_irrefl _ this
theorem kplace_all (tr : Nat) (p : PI) (many : Int) (t : Tr) (w : World) (hG : RelsAt w) (hT : TrieM w tr t many) (ha : p.a < 4294967296) :
    Calls Tryz.prog 35 #[.agg #[.pointer (some ⟨tr, 0, none⟩)], .agg #[.int .u32 p.a, .int .i64 p.l]] w fun e w' => e = .returned (.tuple #[.int .i64 (placeR t p).1, .bool (placeR t p).2]) ∧ Kp w w' := by
  cases hp : p.okB with
  | false =>
    have e : placeR t p = (0, false) := by simp [placeR, hp]
    rw [e]
    exact kplace_bad tr p _ t w hT ha hp
  | true =>
    obtain ⟨hq, hl⟩ := pn_ok hp ha
    have ep : p = p.pn.pi := by cases p; simp only [Pn.pi, PI.pn] at *; rw [hl]; simp
    have e : placeR t p = (t.look p.pn).got p.pn := by simp [placeR, hp]
    rw [e]
    have := kplace_any tr p.pn many t w hG hT hq
    rw [← hl] at this
    exact this
theorem place_case {t : Tr} {H L : List Hp} {p : PI} (hfi : FI t H) (hu : Up L) (hpm : H.Perm L) (hoks : ∀ h ∈ H, h.p.ok) (ha : p.a < 4294967296) : (placeR t p = (0, false) ∧ getI p L = (hop0, false)) ∨ ∃ (k : Nat) (hk : k < H.length), placeR t p = ((k : Int), true) ∧ getI p L = (H[k], true) := by
  cases hp : p.okB with
  | false =>
    refine .inl ⟨by simp [placeR, hp], getI_no (fun j hj => ?_)⟩
    cases h1 : isP p L[j] with
    | false => rfl
    | true =>
      exfalso
      unfold isP at h1
      simp only [Bool.and_eq_true, beq_iff_eq] at h1
      have hok := hoks L[j] (hpm.mem_iff.2 (List.getElem_mem hj))
      have e : p = (L[j].p).pi := by cases p; simp only [Pn.pi] at *; simp; omega
      rw [e, pi_ok hok] at hp
      cases hp
  | true =>
    obtain ⟨hq, hl⟩ := pn_ok hp ha
    have ep : p = p.pn.pi := by cases p; simp only [Pn.pi, PI.pn] at *; rw [hl]; simp
    have e : placeR t p = (t.look p.pn).got p.pn := by simp [placeR, hp]
    rw [e]
    rcases got_at hfi hq with ⟨k, hk, hpk, hgot, _⟩ | ⟨hno, hgot, _⟩
    · right
      refine ⟨k, hk, hgot, ?_⟩
      exact getI_mem hu (hpm.mem_iff.1 (List.getElem_mem hk)) (by rw [ep, isP_pi]; simp [hpk])
    · left
      refine ⟨hgot, getI_no (fun j hj => ?_)⟩
      rw [ep, isP_pi]
      simp only [decide_eq_false_iff_not]
      exact hno _ (hpm.mem_iff.2 (List.getElem_mem hj))

set_option maxRecDepth 100000 in
set_option maxHeartbeats 2000000 in
theorem fGet_any (f : Nat) (F : List Nat) (L : List Hp) (p : PI) (w : World) (hG : RelsAt w) (hM : FM w f F L) (ha : p.a < 4294967296) :
    Calls Tryz.prog 17 #[.pointer (some ⟨f, 0, none⟩), .agg #[.int .u32 p.a, .int .i64 p.l]] w (FindP w (getI p L)) := by
  obtain ⟨tr, t, A, c, H, rfl, m, u, pm⟩ := hM
  have hcase := place_case m.fi u pm m.oks ha
  have hroom := m.room
  obtain ⟨W, hW, kW, B1, B0⟩ : ∃ W, (w.alloc (.cells #[.int .u32 p.a, .int .i64 p.l] 26)).alloc (.cells #[.int .u32 0, .int .i64 0, .bool false, .int .i64 0, .int .u32 0, .int .i64 0] 53) = W ∧ Kp w W ∧ Blk W w.heap.size 26 #[.int .u32 p.a, .int .i64 p.l] ∧ Blk W (w.heap.size + 1) 53 #[.int .u32 0, .int .i64 0, .bool false, .int .i64 0, .int .u32 0, .int .i64 0] := ⟨_, rfl, ((Kp.refl _).alloc _).alloc _, (Blk.new w _ _).alloc _, Blk.new1 w _ _ _⟩
  have HM := Lib.hid (m.keep kW)
  have HG := Lib.hid (hG.keep kW)
  clear m hG u pm
  obtain ⟨R, hR⟩ : ∃ R, getI p L = R := ⟨_, rfl⟩
  obtain ⟨pr, hpr⟩ : ∃ pr, placeR t p = pr := ⟨_, rfl⟩
  rw [hR, hpr] at hcase
  rw [hR]
  have Hpr := Lib.hid hpr
  have Hcase := Lib.hid hcase
  clear hR hpr hcase
  have p0 : W.cell? ⟨w.heap.size, 0, none⟩ = some (.int .u32 p.a) := B1.cell 0
  have p1 : W.cell? ⟨w.heap.size, 1, none⟩ = some (.int .i64 p.l) := B1.cell 1
  have f0 : W.cell? ⟨f, 0, none⟩ = some (.pointer (some ⟨tr, 0, none⟩)) := HM.out.blk.cell 0
  have fin : Hid (∀ (V : World) (y : Hp), Kp W V → Blk (set6 V (w.heap.size + 1) 0 y) (w.heap.size + 1) 53 #[.int .u32 y.p.a, .int .i64 y.p.l, .bool y.d, .int .i64 y.f, .int .u32 y.x, .int .i64 y.m] ∧ Kp w (set6 V (w.heap.size + 1) 0 y)) := fun V y hK =>
    ⟨(B0.keep hK).set6 0 y rfl, ((Only.refl [w.heap.size + 1] _).set6 (by simp) _ _).kp (kW.trans hK) (by simp)⟩
  go_enter Tryz.func17, Tryz.ntmps17
  go_wp2_with fail
  refine (fnone_any f tr _ _ HM.out.blk).mono ?_
  rintro e w' ⟨rfl, rfl⟩
  go_wp2_with fail
  go_region_held3 (fun w' => w'.cell? ⟨f, 0, none⟩ = some (.pointer (some ⟨tr, 0, none⟩)) ∧ w'.cell? ⟨w.heap.size, 0, none⟩ = some (.int .u32 p.a) ∧ w'.cell? ⟨w.heap.size, 1, none⟩ = some (.int .i64 p.l)) (first | exact ⟨Ka.cell f0, Ka.cell p0, Ka.cell p1⟩ | go_keep) (first | (go_at_call 35; refine (kplace_all tr p _ t _ (HG.out.keep (Kp.refl W).drew) (HM.out.trie.keep (Kp.refl W).drew) ha).mono ?_; rintro e wa ⟨rfl, hKa⟩; rw [Hpr.out]; have Ka : Kp W wa := (Kp.refl W).drew.trans hKa))
  have M1 := HM.out.keep Ka
  have D0 := B0.keep Ka
  have r0 : wa.cell? ⟨w.heap.size + 1, 0, none⟩ = some (.int .u32 0) := D0.cell 0
  have r1 : wa.cell? ⟨w.heap.size + 1, 1, none⟩ = some (.int .i64 0) := D0.cell 1
  have r2 : wa.cell? ⟨w.heap.size + 1, 2, none⟩ = some (.bool false) := D0.cell 2
  have r3 : wa.cell? ⟨w.heap.size + 1, 3, none⟩ = some (.int .i64 0) := D0.cell 3
  have r4 : wa.cell? ⟨w.heap.size + 1, 4, none⟩ = some (.int .u32 0) := D0.cell 4
  have r5 : wa.cell? ⟨w.heap.size + 1, 5, none⟩ = some (.int .i64 0) := D0.cell 5
  have z0 := D0.frozen 0
  have z1 := D0.frozen 1
  have z2 := D0.frozen 2
  have z3 := D0.frozen 3
  have z4 := D0.frozen 4
  have z5 := D0.frozen 5
  clear p0 p1 f0 hW
  rcases Hcase.out with ⟨rfl, rfl⟩ | ⟨k, hk, rfl, rfl⟩
  · go_wp2_with fail
    change bodyPost _ _ _ _ _ (set6 wa (w.heap.size + 1) 0 hop0)
    obtain ⟨R1, kz⟩ := fin.out wa hop0 Ka
    generalize set6 wa (w.heap.size + 1) 0 hop0 = Z at R1 kz ⊢
    have d0 := R1.cell 0
    have d1 := R1.cell 1
    have d2 := R1.cell 2
    have d3 := R1.cell 3
    have d4 := R1.cell 4
    have d5 := R1.cell 5
    simp at d0 d1 d2 d3 d4 d5
    exact bodyPost_ret (v := .tuple #[hopV hop0, .bool false]) (by simp [results, Tryz.results17, go_sem, d0, d1, d2, d3, d4, d5, hopV]) rfl ⟨rfl, kz⟩
  · obtain ⟨y, hy⟩ : ∃ y, H[k] = y := ⟨_, rfl⟩
    obtain ⟨b, off, rfl, g0, g1, g2, g3, g4, g5⟩ := hop_at (M1.own.rdAt (by decide) Hp.len) hk
    have f1 : wa.cell? ⟨f, 1, none⟩ = some (.slice (some ⟨b, off, none⟩) H.length c) := M1.blk.cell 1
    rw [hy] at g0 g1 g2 g3 g4 g5
    have Hy := Lib.hid hy
    clear hy M1 Hcase
    go_wp2_with fail
    change bodyPost _ _ _ _ _ (set6 wa (w.heap.size + 1) 0 y)
    obtain ⟨R1, kz⟩ := fin.out wa y Ka
    generalize set6 wa (w.heap.size + 1) 0 y = Z at R1 kz ⊢
    have d0 := R1.cell 0
    have d1 := R1.cell 1
    have d2 := R1.cell 2
    have d3 := R1.cell 3
    have d4 := R1.cell 4
    have d5 := R1.cell 5
    simp at d0 d1 d2 d3 d4 d5
    exact bodyPost_ret (v := .tuple #[hopV y, .bool true]) (by simp [results, Tryz.results17, go_sem, d0, d1, d2, d3, d4, d5, hopV]) rfl ⟨by rw [Hy.out], kz⟩
end Go.Proofs.YtfaiponmjjbgoaaGreatDoor

/- Layer 13's is; the reference's Come. -/
namespace Go.Proofs.YtfaiponmjjbgoaaGreatDoor
open Go.RowKit
attribute [local go_sem] Oper.semAt_some

set_option maxRecDepth 100000 in
set_option maxHeartbeats 2000000 in
theorem is_any (f : Nat) (F : List Nat) (L : List Hp) (A : Option Addr) (c : Nat) (w : World) (hM : FM w f F L) (hR : Rd w 6 Hp.enc A L) :
    Calls Tryz.prog 14 #[.pointer (some ⟨f, 0, none⟩), .agg #[.slice A L.length c]] w fun e w' => e = .returned (.bool true) ∧ Kp w w' := by
  obtain ⟨W, hW, kW, B0⟩ : ∃ W, w.alloc (.cells #[.slice A L.length c] 35) = W ∧ Kp w W ∧ Blk W w.heap.size 35 #[.slice A L.length c] := ⟨_, rfl, (Kp.refl _).alloc _, Blk.new w _ _⟩
  have hn := hM.up.2
  have HM := Lib.hid (hM.keep kW)
  have HR := Lib.hid (hR.keep kW)
  have u0 : W.cell? ⟨w.heap.size, 0, none⟩ = some (.slice A L.length c) := B0.cell 0
  clear hM hR
  go_enter Tryz.func14, Tryz.ntmps14
  go_wp2_with fail
  go_region_held3 (fun w' => w'.cell? ⟨w.heap.size, 0, none⟩ = some (.slice A L.length c)) (first | exact (Ka.trans Kb).cell u0 | exact Ka.cell u0 | go_keep) (first | (go_at_call 10; refine (all_any f F L _ (HM.out.keep (Kp.refl W).drew)).mono ?_; rintro e wa ⟨bx, A', c', rfl, hD, hKa, hb, hA'⟩; have Ka : Kp W wa := (Kp.refl W).drew.trans hKa; have HD := Lib.hid hD; clear hD hA') | (go_at_call 11; refine (rows_any bx A' c' A c L 999 _ HD.out (HR.out.keep Ka) hn).mono ?_; rintro e wb ⟨rfl, Kb⟩) | (go_at_call 19; refine (flen_any f F L _ (HM.out.keep (Ka.trans Kb))).mono ?_; rintro e w' ⟨rfl, rfl⟩))
  go_wp2_with fail
  go_ret
  exact ⟨rfl, (kW.trans Ka).trans Kb⟩
end Go.Proofs.YtfaiponmjjbgoaaGreatDoor

/- What is told of no table of hops, and a table of hops of no table. -/
namespace Go.Proofs.YtfaiponmjjbgoaaGreatDoor
open Go.RowKit
attribute [local go_sem] Oper.semAt_some

theorem fib_is_nil (w : World) : (binOp .eql 31 (.pointer none) (.pointer none)).run Tryz.prog w = .ok (.bool true) w := by kernel_rfl
theorem fnone_nil (w : World) : Calls Tryz.prog 26 #[.pointer none] w fun e w' => e = .returned (.bool true) ∧ w = w' := by
  have h1 := fib_is_nil
  go_enter Tryz.func26, Tryz.ntmps26
  go_wp2_with fail
  go_ret
  exact ⟨rfl, rfl⟩
set_option maxHeartbeats 400000 in
theorem flen_nil (w : World) : Calls Tryz.prog 19 #[.pointer none] w fun e w' => e = .returned (.int .i64 0) ∧ w = w' := by
  go_enter Tryz.func19, Tryz.ntmps19
  go_wp2_with fail
  refine (fnone_nil _).mono ?_
  rintro e w' ⟨rfl, rfl⟩
  go_wp2_with fail
  go_ret
  exact ⟨rfl, rfl⟩
set_option maxHeartbeats 400000 in
theorem fcopy_nil (w : World) : Calls Tryz.prog 20 #[.pointer none] w fun e w' => e = .returned (.pointer none) ∧ w = w' := by
  go_enter Tryz.func20, Tryz.ntmps20
  go_wp2_with fail
  refine (fnone_nil _).mono ?_
  rintro e w' ⟨rfl, rfl⟩
  go_wp2_with fail
  go_ret
  exact ⟨rfl, rfl⟩
set_option maxHeartbeats 400000 in
theorem fsort_nil (w : World) : Calls Tryz.prog 31 #[.pointer none] w fun e w' => e = .returned (.slice none 0 0) ∧ w = w' := by
  go_enter Tryz.func31, Tryz.ntmps31
  go_wp2_with fail
  refine (fnone_nil _).mono ?_
  rintro e w' ⟨rfl, rfl⟩
  go_wp2_with fail
  go_ret
  exact ⟨rfl, rfl⟩
set_option maxHeartbeats 400000 in
theorem all_nil (w : World) : Calls Tryz.prog 10 #[.pointer none] w (AllP w []) := by
  have hmf := makeFunc_run
  go_enter Tryz.func10, Tryz.ntmps10
  go_wp2_with fail
  refine (fsort_nil w).mono ?_
  rintro e w' ⟨rfl, rfl⟩
  go_wp2_with fail
  go_ret
  exact ⟨w.heap.size, none, 0, rfl, ⟨Blk.new w _ _, Rd.nil _ _ _ _⟩, (Kp.refl _).alloc _, Nat.le_refl _, fun a ha => by cases ha⟩
set_option maxRecDepth 100000 in
set_option maxHeartbeats 1000000 in
theorem Come_nil (A : Option Addr) (n c : Nat) (w : World) : Calls Tryz.prog 8 #[.pointer none, .slice A n c] w fun e w' => e = .returned (.tuple #[.int .i64 0, .int .i64 1]) ∧ w = w' := by
  go_enter Tryz.func8, Tryz.ntmps8
  go_wp2_with fail
  refine wp_scope_fwd 0 rfl ?_
  go_wp2_with fail
  refine (fnone_nil _).mono ?_
  rintro e w' ⟨rfl, rfl⟩
  go_wp2_with fail
  go_step3
  refine ⟨rfl, ?_⟩
  go_wp2_with fail
  refine noGoto_ret ?_
  exact bodyPost_ret (v := .tuple #[.int .i64 0, .int .i64 1]) (by simp [results, Tryz.results8, go_sem]) rfl ⟨rfl, rfl⟩
theorem six_zero {w : World} {g : Nat} (hB : Blk w g 53 #[.int .u32 0, .int .i64 0, .bool false, .int .i64 0, .int .u32 0, .int .i64 0]) : Blk (set6 w g 0 hop0) g 53 #[.int .u32 0, .int .i64 0, .bool false, .int .i64 0, .int .u32 0, .int .i64 0] := hB.set6 0 hop0 rfl
set_option maxRecDepth 100000 in
set_option maxHeartbeats 1000000 in
theorem fFind_nil (a : Int) (w : World) : Calls Tryz.prog 15 #[.pointer none, .int .u32 a] w (FindP w (hop0, false)) := by
  obtain ⟨W, hW, kW, B0⟩ : ∃ W, w.alloc (.cells #[.int .u32 0, .int .i64 0, .bool false, .int .i64 0, .int .u32 0, .int .i64 0] 53) = W ∧ Kp w W ∧ Blk W w.heap.size 53 #[.int .u32 0, .int .i64 0, .bool false, .int .i64 0, .int .u32 0, .int .i64 0] := ⟨_, rfl, (Kp.refl _).alloc _, Blk.new w _ _⟩
  have r0 : W.cell? ⟨w.heap.size, 0, none⟩ = some (.int .u32 0) := B0.cell 0
  have r1 : W.cell? ⟨w.heap.size, 1, none⟩ = some (.int .i64 0) := B0.cell 1
  have r2 : W.cell? ⟨w.heap.size, 2, none⟩ = some (.bool false) := B0.cell 2
  have r3 : W.cell? ⟨w.heap.size, 3, none⟩ = some (.int .i64 0) := B0.cell 3
  have r4 : W.cell? ⟨w.heap.size, 4, none⟩ = some (.int .u32 0) := B0.cell 4
  have r5 : W.cell? ⟨w.heap.size, 5, none⟩ = some (.int .i64 0) := B0.cell 5
  have z0 := B0.frozen 0
  have z1 := B0.frozen 1
  have z2 := B0.frozen 2
  have z3 := B0.frozen 3
  have z4 := B0.frozen 4
  have z5 := B0.frozen 5
  go_enter Tryz.func15, Tryz.ntmps15
  go_wp2_with fail
  refine (fnone_nil _).mono ?_
  rintro e w' ⟨rfl, rfl⟩
  go_wp2_with fail
  change bodyPost _ _ _ _ _ (set6 W w.heap.size 0 hop0)
  have R := six_zero B0
  have kz : Kp w (set6 W w.heap.size 0 hop0) := kW.set6 _ _
  generalize set6 W w.heap.size 0 hop0 = Z at R kz ⊢
  have c0 : Z.cell? ⟨w.heap.size, 0, none⟩ = some (.int .u32 0) := R.cell 0
  have c1 : Z.cell? ⟨w.heap.size, 1, none⟩ = some (.int .i64 0) := R.cell 1
  have c2 : Z.cell? ⟨w.heap.size, 2, none⟩ = some (.bool false) := R.cell 2
  have c3 : Z.cell? ⟨w.heap.size, 3, none⟩ = some (.int .i64 0) := R.cell 3
  have c4 : Z.cell? ⟨w.heap.size, 4, none⟩ = some (.int .u32 0) := R.cell 4
  have c5 : Z.cell? ⟨w.heap.size, 5, none⟩ = some (.int .i64 0) := R.cell 5
  exact bodyPost_ret (v := .tuple #[hopV hop0, .bool false]) (by simp [results, Tryz.results15, go_sem, c0, c1, c2, c3, c4, c5, hopV, hop0]) rfl ⟨rfl, kz⟩
set_option maxRecDepth 100000 in
set_option maxHeartbeats 1000000 in
theorem fGet_nil (a l : Int) (w : World) : Calls Tryz.prog 17 #[.pointer none, .agg #[.int .u32 a, .int .i64 l]] w (FindP w (hop0, false)) := by
  obtain ⟨W, hW, kW, B0⟩ : ∃ W, (w.alloc (.cells #[.int .u32 a, .int .i64 l] 26)).alloc (.cells #[.int .u32 0, .int .i64 0, .bool false, .int .i64 0, .int .u32 0, .int .i64 0] 53) = W ∧ Kp w W ∧ Blk W (w.heap.size + 1) 53 #[.int .u32 0, .int .i64 0, .bool false, .int .i64 0, .int .u32 0, .int .i64 0] := ⟨_, rfl, ((Kp.refl _).alloc _).alloc _, Blk.new1 w _ _ _⟩
  have r0 : W.cell? ⟨w.heap.size + 1, 0, none⟩ = some (.int .u32 0) := B0.cell 0
  have r1 : W.cell? ⟨w.heap.size + 1, 1, none⟩ = some (.int .i64 0) := B0.cell 1
  have r2 : W.cell? ⟨w.heap.size + 1, 2, none⟩ = some (.bool false) := B0.cell 2
  have r3 : W.cell? ⟨w.heap.size + 1, 3, none⟩ = some (.int .i64 0) := B0.cell 3
  have r4 : W.cell? ⟨w.heap.size + 1, 4, none⟩ = some (.int .u32 0) := B0.cell 4
  have r5 : W.cell? ⟨w.heap.size + 1, 5, none⟩ = some (.int .i64 0) := B0.cell 5
  have z0 := B0.frozen 0
  have z1 := B0.frozen 1
  have z2 := B0.frozen 2
  have z3 := B0.frozen 3
  have z4 := B0.frozen 4
  have z5 := B0.frozen 5
  go_enter Tryz.func17, Tryz.ntmps17
  go_wp2_with fail
  refine (fnone_nil _).mono ?_
  rintro e w' ⟨rfl, rfl⟩
  go_wp2_with fail
  change bodyPost _ _ _ _ _ (set6 W (w.heap.size + 1) 0 hop0)
  have R := six_zero B0
  have kz : Kp w (set6 W (w.heap.size + 1) 0 hop0) := ((Only.refl [w.heap.size + 1] _).set6 (by simp) _ _).kp kW (by simp)
  generalize set6 W (w.heap.size + 1) 0 hop0 = Z at R kz ⊢
  have c0 : Z.cell? ⟨w.heap.size + 1, 0, none⟩ = some (.int .u32 0) := R.cell 0
  have c1 : Z.cell? ⟨w.heap.size + 1, 1, none⟩ = some (.int .i64 0) := R.cell 1
  have c2 : Z.cell? ⟨w.heap.size + 1, 2, none⟩ = some (.bool false) := R.cell 2
  have c3 : Z.cell? ⟨w.heap.size + 1, 3, none⟩ = some (.int .i64 0) := R.cell 3
  have c4 : Z.cell? ⟨w.heap.size + 1, 4, none⟩ = some (.int .u32 0) := R.cell 4
  have c5 : Z.cell? ⟨w.heap.size + 1, 5, none⟩ = some (.int .i64 0) := R.cell 5
  exact bodyPost_ret (v := .tuple #[hopV hop0, .bool false]) (by simp [results, Tryz.results17, go_sem, c0, c1, c2, c3, c4, c5, hopV, hop0]) rfl ⟨rfl, kz⟩

theorem rib_is_nil (w : World) : (binOp .eql 81 (.pointer none) (.pointer none)).run Tryz.prog w = .ok (.bool true) w := by kernel_rfl
theorem rnone_nil (w : World) : Calls Tryz.prog 72 #[.pointer none] w fun e w' => e = .returned (.bool true) ∧ w = w' := by
  have h1 := rib_is_nil
  go_enter Tryz.func72, Tryz.ntmps72
  go_wp2_with fail
  go_ret
  exact ⟨rfl, rfl⟩
set_option maxHeartbeats 400000 in
theorem rsort_nil (v : Value) (w : World) : Calls Tryz.prog 57 #[.pointer none, v] w fun e w' => e = .returned (.slice none 0 0) ∧ w = w' := by
  go_enter Tryz.func57, Tryz.ntmps57
  go_wp2_with fail
  refine (rnone_nil _).mono ?_
  rintro e w' ⟨rfl, rfl⟩
  go_wp2_with fail
  go_ret
  exact ⟨rfl, rfl⟩
set_option maxHeartbeats 400000 in
theorem rall_nil (w : World) : Calls Tryz.prog 39 #[.pointer none] w fun e w' => e = .returned (.func (.func 59) #[] #[.pointer (some ⟨w.heap.size, 0, none⟩)]) ∧ Blk w' w.heap.size 108 #[.slice none 0 0] ∧ Kp w w' := by
  have hmf := makeFunc_run
  go_enter Tryz.func39, Tryz.ntmps39
  go_wp2_with fail
  refine (rsort_nil _ w).mono ?_
  rintro e w' ⟨rfl, rfl⟩
  go_wp2_with fail
  go_ret
  exact ⟨rfl, Blk.new w _ _, (Kp.refl _).alloc _⟩
theorem call_rall1 (args : Array Value) (w : World) : (callFunc 59 args).run Tryz.prog w = .ok (.enter 59 args) w := by kernel_rfl
set_option maxRecDepth 100000 in
set_option maxHeartbeats 1000000 in
theorem rall1_iter (bx : Nat) : Iter Tryz.prog 59 #[.pointer (some ⟨bx, 0, none⟩)] 0 (fun _ => #[.int .i64 0, .int .i64 0]) (fun W => Blk W bx 108 #[.slice none 0 0]) := by
  intro l I Z W hI hZ hM hy h0
  have c0 : W.cell? ⟨bx, 0, none⟩ = some (.slice none 0 0) := (hM 0 W h0).cell 0
  have H0 := Lib.hid h0
  clear h0 hy hI hZ hM
  go_enter Tryz.func59, Tryz.ntmps59
  go_wp2_with fail
  refine wp_scope_fwd 0 rfl ?_
  go_wp2_with fail
  refine wp_label ?_
  go_wp2_with fail
  go_loopw [7] (fun i wr => i = .int .i64 0 ∧ W = wr) (fun _ _ => 0)
  case atStart => exact ⟨rfl, rfl⟩
  case round =>
    obtain ⟨rfl, rfl⟩ := hrel
    go_wp2_with fail
    refine jump_normal ?_
    go_end0
    exact ⟨rfl, .inl H0.out⟩

set_option maxRecDepth 100000 in
set_option maxHeartbeats 1000000 in
theorem of_nil (w : World) : Calls Tryz.prog 22 #[.pointer none] w (NewPost2 w) := by
  refine calls_of_wp_marks Tryz.func22 rfl ?_; simp only [Tryz.ntmps22, List.size_toArray, List.length_cons, List.length_nil, Nat.reduceAdd, Nat.reduceSub, Array.replicate_succ, Array.replicate_zero, List.push_toArray, List.append_toArray, List.nil_append, List.cons_append]
  go_wp2_with fail
  refine (fnew_any w).mono ?_
  rintro e w1 ⟨f, F, rfl, hM, hK, hF⟩
  have HM := Lib.hid hM
  have HF := Lib.hid hF
  clear hM hF
  go_wp2_with fail
  refine (rall_nil _).mono ?_
  simp only [World.size_alloc]
  rintro e w2 ⟨rfl, hB, hK2⟩
  have k2 : Kp w w2 := (hK.alloc _).trans hK2
  have HM2 := Lib.hid (HM.out.keep (((Kp.refl w1).alloc _).trans hK2))
  have B3 : Blk w2 w1.heap.size 31 #[.pointer (some ⟨f, 0, none⟩)] := (Blk.new w1 _ _).keep hK2
  have HB := Lib.hid hB
  have HB3 := Lib.hid B3
  have hlt := hB.lt
  clear hK2 hB B3
  go_wp2_with fail
  refine wp_range (N := 0) rfl call_rall1 (rall1_iter (w1.heap.size + 1)) (fun k hk => absurd hk (by omega)) (fun _ W => Only [w2.heap.size, w2.heap.size + 1] w2 W) (fun _ _ _ => False) (fun _ _ _ h hO => h.trans hO) (fun _ _ _ _ h => h.elim) ?_ (Only.refl _ _) (fun _ k _ hk => absurd hk (by omega)) ?_ (fun _ _ _ _ _ h => h.elim)
  · intro k W h
    exact HB.out.only h (by simp; omega)
  · intro W h hd
    have hls := HM2.out.lt
    have B4 := HB3.out.only h (by simp; omega)
    have M4 := HM2.out.only h (fun b hb hc => by have := hls b hb; simp at hc; omega)
    have k4 : Kp w W := h.kp k2 (by simp; have := k2.size; omega)
    have x0 : W.cell? ⟨w1.heap.size, 0, none⟩ = some (.pointer (some ⟨f, 0, none⟩)) := B4.cell 0
    have HM4 := Lib.hid M4
    clear M4 B4
    go_wp2_with fail
    refine takes_one hd (fun W' hO => ?_)
    refine ⟨.pointer (some ⟨f, 0, none⟩), by simp [results, Tryz.results22, go_sem], f, F, rfl, HM4.out.only hO (fun b hb hc => by have := hls b hb; simp at hc; omega), hO.kp k4 (by simp; have := k2.size; omega), HF.out⟩
end Go.Proofs.YtfaiponmjjbgoaaGreatDoor

/- Lists of hops compared: slices.Equal, the reference's Same; fib's Same. -/
namespace Go.Proofs.YtfaiponmjjbgoaaGreatDoor
open Go.RowKit
attribute [local go_sem] Oper.semAt_some

def sameL (L M : List Hp) : Bool := decide (L = M)
theorem same_len {L M : List Hp} (h : ¬ L.length = M.length) : sameL L M = false := by
  unfold sameL; simp only [decide_eq_false_iff_not]; intro e; exact h (by rw [e])
theorem same_all {L M : List Hp} (hl : L.length = M.length) (h : ∀ j (h1 : j < L.length) (h2 : j < M.length), L[j] = M[j]) : sameL L M = true := by
  unfold sameL; simp only [decide_eq_true_eq]; exact List.ext_getElem hl h
theorem same_no {L M : List Hp} {j : Nat} (h1 : j < L.length) (h2 : j < M.length) (h : ¬ L[j] = M[j]) : sameL L M = false := by
  unfold sameL; simp only [decide_eq_false_iff_not]; intro e; subst e; exact h rfl

set_option maxRecDepth 100000 in
set_option maxHeartbeats 2000000 in
theorem eqh_any (A1 : Option Addr) (c1 : Nat) (L : List Hp) (A2 : Option Addr) (c2 : Nat) (M : List Hp) (w : World) (h1 : Rd w 6 Hp.enc A1 L) (h2 : Rd w 6 Hp.enc A2 M) (hn1 : L.length ≤ 1000000) (hn2 : M.length ≤ 1000000) :
    Calls Tryz.prog 38 #[.slice A1 L.length c1, .slice A2 M.length c2] w fun e w' => e = .returned (.bool (sameL L M)) ∧ Kp w w' := by
  have H1 := Lib.hid h1
  have H2 := Lib.hid h2
  clear h1 h2
  obtain ⟨R, hR⟩ : ∃ R, sameL L M = R := ⟨_, rfl⟩
  rw [hR]
  have HR := Lib.hid hR; clear hR
  by_cases hl : L.length = M.length
  · have Hl := Lib.hid hl
    rw [← hl]
    clear hl
    go_enter Tryz.func38, Tryz.ntmps38
    go_wp2_with fail
    go_loopw [13] (fun i wr => ∃ k : Nat, k ≤ L.length ∧ i = .int .i64 k ∧ Hid (Kp w wr) ∧ Hid (∀ j (h1 : j < L.length) (h2 : j < M.length), j < k → L[j] = M[j])) (fun i _ => L.length - (intOf i).toNat)
    case atStart => exact ⟨0, Nat.zero_le _, rfl, Kp.refl _, fun _ _ _ h => absurd h (by omega)⟩
    case round =>
      obtain ⟨k, hk, rfl, hK, hall⟩ := hrel
      by_cases hlt : k < L.length
      · have hlt2 : k < M.length := by rw [← Hl.out]; exact hlt
        obtain ⟨b, off, hA, g0, g1, g2, g3, g4, g5⟩ := hop_at (H1.out.keep hK.out) hlt
        obtain ⟨b', off', hA', k0, k1, k2, k3, k4, k5⟩ := hop_at (H2.out.keep hK.out) hlt2
        subst hA hA'
        have hne0 := fun w => hopV_ne w L[k] M[k]
        have Hno := Lib.hid (same_no hlt hlt2)
        obtain ⟨x, hx⟩ : ∃ x, L[k] = x := ⟨_, rfl⟩
        obtain ⟨y, hy⟩ : ∃ y, M[k] = y := ⟨_, rfl⟩
        rw [hx] at g0 g1 g2 g3 g4 g5
        rw [hy] at k0 k1 k2 k3 k4 k5
        rw [hx, hy] at hne0 Hno
        unfold hopV at hne0
        by_cases he : x = y
        · have hne : ∀ w, (binOp .neq 53 (.agg #[.int .u32 x.p.a, .int .i64 x.p.l, .bool x.d, .int .i64 x.f, .int .u32 x.x, .int .i64 x.m]) (.agg #[.int .u32 y.p.a, .int .i64 y.p.l, .bool y.d, .int .i64 y.f, .int .u32 y.x, .int .i64 y.m])).run Tryz.prog w = .ok (.bool false) w := fun w => by rw [hne0]; simp [he]
          have Hnx : Hid (∀ j (h1 : j < L.length) (h2 : j < M.length), j < k + 1 → L[j] = M[j]) := fun j h1 h2 h3 => by
            rcases Nat.lt_or_ge j k with h4 | h4
            · exact hall.out j h1 h2 h4
            · obtain rfl : j = k := by omega
              rw [hx, hy]; exact he
          clear he hne0 hx hy
          go_wp2_with fail
          go_quiet (fail)
          go_wp2_with fail
          go_roundw
          case rel => exact ⟨k + 1, by omega, by go_num, hK.out.drewN _, Hnx⟩
          case measure => simp [intOf]; omega
        · have hne : ∀ w, (binOp .neq 53 (.agg #[.int .u32 x.p.a, .int .i64 x.p.l, .bool x.d, .int .i64 x.f, .int .u32 x.x, .int .i64 x.m]) (.agg #[.int .u32 y.p.a, .int .i64 y.p.l, .bool y.d, .int .i64 y.f, .int .u32 y.x, .int .i64 y.m])).run Tryz.prog w = .ok (.bool true) w := fun w => by rw [hne0]; simp [he]
          obtain rfl : R = false := by rw [← HR.out]; exact Hno.out he
          clear he hne0 hx hy
          go_wp2_with fail
          go_quiet (fail)
          go_wp2_with fail
          go_ret
          exact ⟨rfl, hK.out.drewN _⟩
      · obtain rfl : k = L.length := by omega
        obtain rfl : R = true := by rw [← HR.out]; exact same_all Hl.out (fun j h1 h2 => hall.out j h1 h2 h1)
        go_wp2_with fail
        go_ret
        exact ⟨rfl, hK.out⟩
  · obtain rfl : R = false := by rw [← HR.out]; exact same_len hl
    have hne : ((L.length : Int) != (M.length : Int)) = true := by simp; omega
    clear hl HR
    go_enter Tryz.func38, Tryz.ntmps38
    go_wp2_with fail
    go_ret
    exact ⟨rfl, Kp.refl _⟩

set_option maxRecDepth 100000 in
set_option maxHeartbeats 2000000 in
theorem rsame_any (A1 : Option Addr) (c1 : Nat) (L : List Hp) (A2 : Option Addr) (c2 : Nat) (M : List Hp) (w : World) (h1 : Rd w 6 Hp.enc A1 L) (h2 : Rd w 6 Hp.enc A2 M) (hn1 : L.length ≤ 1000000) (hn2 : M.length ≤ 1000000) :
    Calls Tryz.prog 23 #[.slice A1 L.length c1, .slice A2 M.length c2] w fun e w' => e = .returned (.bool (sameL L M)) ∧ Kp w w' := by
  have H1 := Lib.hid h1
  have H2 := Lib.hid h2
  clear h1 h2
  obtain ⟨R, hR⟩ : ∃ R, sameL L M = R := ⟨_, rfl⟩
  rw [hR]
  have HR := Lib.hid hR; clear hR
  by_cases hl : L.length = M.length
  · have Hl := Lib.hid hl
    rw [← hl]
    clear hl
    go_enter Tryz.func23, Tryz.ntmps23
    go_wp2_with fail
    go_loopw [5] (fun i wr => ∃ k : Nat, k ≤ L.length ∧ i = .int .i64 k ∧ Hid (Kp w wr) ∧ Hid (∀ j (h1 : j < L.length) (h2 : j < M.length), j < k → L[j] = M[j])) (fun i _ => L.length - (intOf i).toNat)
    case atStart => exact ⟨0, Nat.zero_le _, rfl, Kp.refl _, fun _ _ _ h => absurd h (by omega)⟩
    case round =>
      obtain ⟨k, hk, rfl, hK, hall⟩ := hrel
      by_cases hlt : k < L.length
      · have hlt2 : k < M.length := by rw [← Hl.out]; exact hlt
        obtain ⟨b, off, hA, g0, g1, g2, g3, g4, g5⟩ := hop_at (H1.out.keep hK.out) hlt
        obtain ⟨b', off', hA', k0, k1, k2, k3, k4, k5⟩ := hop_at (H2.out.keep hK.out) hlt2
        subst hA hA'
        have hne0 := fun w => hopV_ne w L[k] M[k]
        have Hno := Lib.hid (same_no hlt hlt2)
        obtain ⟨x, hx⟩ : ∃ x, L[k] = x := ⟨_, rfl⟩
        obtain ⟨y, hy⟩ : ∃ y, M[k] = y := ⟨_, rfl⟩
        rw [hx] at g0 g1 g2 g3 g4 g5
        rw [hy] at k0 k1 k2 k3 k4 k5
        rw [hx, hy] at hne0 Hno
        unfold hopV at hne0
        by_cases he : x = y
        · have hne : ∀ w, (binOp .neq 53 (.agg #[.int .u32 x.p.a, .int .i64 x.p.l, .bool x.d, .int .i64 x.f, .int .u32 x.x, .int .i64 x.m]) (.agg #[.int .u32 y.p.a, .int .i64 y.p.l, .bool y.d, .int .i64 y.f, .int .u32 y.x, .int .i64 y.m])).run Tryz.prog w = .ok (.bool false) w := fun w => by rw [hne0]; simp [he]
          have Hnx : Hid (∀ j (h1 : j < L.length) (h2 : j < M.length), j < k + 1 → L[j] = M[j]) := fun j h1 h2 h3 => by
            rcases Nat.lt_or_ge j k with h4 | h4
            · exact hall.out j h1 h2 h4
            · obtain rfl : j = k := by omega
              rw [hx, hy]; exact he
          clear he hne0 hx hy
          go_wp2_with fail
          go_quiet (fail)
          go_wp2_with fail
          go_roundw
          case rel => exact ⟨k + 1, by omega, by go_num, hK.out.drewN _, Hnx⟩
          case measure => simp [intOf]; omega
        · have hne : ∀ w, (binOp .neq 53 (.agg #[.int .u32 x.p.a, .int .i64 x.p.l, .bool x.d, .int .i64 x.f, .int .u32 x.x, .int .i64 x.m]) (.agg #[.int .u32 y.p.a, .int .i64 y.p.l, .bool y.d, .int .i64 y.f, .int .u32 y.x, .int .i64 y.m])).run Tryz.prog w = .ok (.bool true) w := fun w => by rw [hne0]; simp [he]
          obtain rfl : R = false := by rw [← HR.out]; exact Hno.out he
          clear he hne0 hx hy
          go_wp2_with fail
          go_quiet (fail)
          go_wp2_with fail
          go_ret
          exact ⟨rfl, hK.out.drewN _⟩
      · obtain rfl : k = L.length := by omega
        obtain rfl : R = true := by rw [← HR.out]; exact same_all Hl.out (fun j h1 h2 => hall.out j h1 h2 h1)
        go_wp2_with fail
        go_ret
        exact ⟨rfl, hK.out⟩
  · obtain rfl : R = false := by rw [← HR.out]; exact same_len hl
    have hne : ((L.length : Int) != (M.length : Int)) = true := by simp; omega
    clear hl HR
    go_enter Tryz.func23, Tryz.ntmps23
    go_wp2_with fail
    go_ret
    exact ⟨rfl, Kp.refl _⟩

set_option maxRecDepth 100000 in
set_option maxHeartbeats 1000000 in
theorem fsame_any (f : Nat) (F : List Nat) (L : List Hp) (g : Nat) (G : List Nat) (M : List Hp) (w : World) (hM : FM w f F L) (hN : FM w g G M) :
    Calls Tryz.prog 21 #[.pointer (some ⟨f, 0, none⟩), .pointer (some ⟨g, 0, none⟩)] w fun e w' => e = .returned (.bool (sameL L M)) ∧ Kp w w' := by
  obtain ⟨tr, x, hB⟩ := hM.none
  obtain ⟨tr2, x2, hB2⟩ := hN.none
  have hl1 := hM.up.2
  have hl2 := hN.up.2
  have HM := Lib.hid hM
  have HN := Lib.hid hN
  have HB := Lib.hid hB
  have HB2 := Lib.hid hB2
  clear hM hN hB hB2
  obtain ⟨R, hR⟩ : ∃ R, sameL L M = R := ⟨_, rfl⟩
  rw [hR]
  have HR := Lib.hid hR; clear hR
  go_enter Tryz.func21, Tryz.ntmps21
  go_wp2_with fail
  refine (fnone_any f tr x _ HB.out).mono ?_
  rintro e w' ⟨rfl, rfl⟩
  go_wp2_with fail
  refine (fnone_any g tr2 x2 _ HB2.out).mono ?_
  rintro e w' ⟨rfl, rfl⟩
  go_wp2_with fail
  refine (fsort_any f F L w HM.out).mono ?_
  rintro e w1 ⟨A1, c1, rfl, hR1, hK1, _⟩
  have HR1 := Lib.hid hR1; clear hR1
  go_wp2_with fail
  refine (fsort_any g G M w1 (HN.out.keep hK1)).mono ?_
  rintro e w2 ⟨A2, c2, rfl, hR2, hK2, _⟩
  have HR2 := Lib.hid hR2; clear hR2
  go_wp2_with fail
  refine (eqh_any A1 c1 L A2 c2 M w2 (HR1.out.keep hK2) HR2.out (by omega) (by omega)).mono ?_
  rintro e w3 ⟨rfl, hK3⟩
  rw [HR.out]
  go_wp2_with fail
  go_ret
  exact ⟨rfl, (hK1.trans hK2).trans hK3⟩
set_option maxHeartbeats 400000 in
theorem fsame_nils (w : World) : Calls Tryz.prog 21 #[.pointer none, .pointer none] w fun e w' => e = .returned (.bool true) ∧ w = w' := by
  go_enter Tryz.func21, Tryz.ntmps21
  go_wp2_with (go_at_call 26; refine (fnone_nil _).mono ?_; rintro e w' ⟨rfl, rfl⟩)
  go_ret
  exact ⟨rfl, rfl⟩
set_option maxHeartbeats 400000 in
theorem fsame_nil (f : Nat) (F : List Nat) (L : List Hp) (w : World) (hM : FM w f F L) : Calls Tryz.prog 21 #[.pointer (some ⟨f, 0, none⟩), .pointer none] w fun e w' => e = .returned (.bool false) ∧ w = w' := by
  obtain ⟨tr, x, hB⟩ := hM.none
  have HB := Lib.hid hB
  clear hM hB
  go_enter Tryz.func21, Tryz.ntmps21
  go_wp2_with fail
  refine (fnone_any f tr x _ HB.out).mono ?_
  rintro e w' ⟨rfl, rfl⟩
  go_wp2_with fail
  refine (fnone_nil _).mono ?_
  rintro e w' ⟨rfl, rfl⟩
  go_wp2_with fail
  refine (fnone_any f tr x _ HB.out).mono ?_
  rintro e w' ⟨rfl, rfl⟩
  go_wp2_with fail
  go_ret
  exact ⟨rfl, rfl⟩
end Go.Proofs.YtfaiponmjjbgoaaGreatDoor

/- The trie's Copy: a tree of the same rows in blocks of its own. -/
namespace Go.Proofs.YtfaiponmjjbgoaaGreatDoor
open Go.RowKit
attribute [local go_sem] Oper.semAt_some

/-- The same tree, wherever its nodes lie. -/
def Tr.like : Tr → Tr → Prop
  | .nil, .nil => True
  | .node _ p v h x y, .node _ p' v' h' x' y' => p = p' ∧ v = v' ∧ h = h' ∧ x.like x' ∧ y.like y'
  | _, _ => False
theorem like_rows : ∀ {t t' : Tr}, t.like t' → t'.rows = t.rows ∧ t'.pfx = t.pfx
  | .nil, .nil, _ => ⟨rfl, rfl⟩
  | .node _ p v h x y, .node _ p' v' h' x' y', ⟨e1, e2, e3, e4, e5⟩ => by
    subst e1 e2 e3
    obtain ⟨a1, a2⟩ := like_rows e4
    obtain ⟨b1, b2⟩ := like_rows e5
    exact ⟨by simp only [Tr.rows, a1, b1], by simp only [Tr.pfx, a2, b2]⟩
  | .nil, .node .., h => h.elim
  | .node .., .nil, h => h.elim
theorem like_wf : ∀ {t t' : Tr}, t.like t' → t.Wf → t'.Wf
  | .nil, .nil, _, _ => trivial
  | .node _ p v h x y, .node _ p' v' h' x' y', ⟨e1, e2, e3, e4, e5⟩, ⟨hp, h0, h1, hx, hy⟩ => by
    subst e1 e2 e3
    exact ⟨hp, by rw [(like_rows e4).2]; exact h0, by rw [(like_rows e5).2]; exact h1, like_wf e4 hx, like_wf e5 hy⟩
  | .nil, .node .., h, _ => h.elim
  | .node .., .nil, h, _ => h.elim

def FoldP (w : World) (t : Tr) (e : Ending) (w' : World) : Prop := ∃ t' o, e = .returned (.pointer o) ∧ Tr.ptr t' = .pointer o ∧ t.like t' ∧ TM w' t' ∧ t'.bs.Nodup ∧ (∀ b ∈ t'.bs, w.heap.size ≤ b) ∧ Kp w w'
def oneV : Value := .func (.func 56) #[] #[]
def foldV (ob fb : Nat) : Value := .func (.func 71) #[] #[.pointer (some ⟨ob, 0, none⟩), .pointer (some ⟨fb, 0, none⟩)]
theorem call_fold1 (args : Array Value) (w : World) : (callFunc 71 args).run Tryz.prog w = .ok (.enter 71 args) w := by kernel_rfl
theorem call_copy1 (args : Array Value) (w : World) : (callFunc 56 args).run Tryz.prog w = .ok (.enter 56 args) w := by kernel_rfl

theorem arr_at (w : World) (g : Nat) : (Instr.arrayAt 104 (.slice (some ⟨g, 0, none⟩) 2 2)).run Tryz.prog w = .ok (.pointer (some ⟨g, 0, none⟩)) w := by kernel_rfl
set_option maxRecDepth 100000 in
set_option maxHeartbeats 2000000 in
theorem copy1_any (b g : Nat) (p : Pn) (v : Int) (h : Bool) (x y x' y' : Value) (w : World) (hB : Blk w b 106 #[.int .u32 p.a, .int .i64 p.l, .int .i64 v, .bool h, x, y]) (hG : Blk w g 85 #[x', y']) :
    Calls Tryz.prog 56 #[.pointer (some ⟨b, 0, none⟩), .slice (some ⟨g, 0, none⟩) 2 2] w fun e w' => ∃ V, Kp w V ∧ e = .returned (.pointer (some ⟨V.heap.size, 0, none⟩)) ∧ w' = V.alloc (.cells #[.int .u32 p.a, .int .i64 p.l, .int .i64 v, .bool h, x', y'] 106) := by
  go_enter Tryz.func56, Tryz.ntmps56
  go_wp2_with fail
  refine wp_tail 16 (by kernel_rfl) (by kernel_rfl) (fun V hV => ?_)
  have KV : Kp w V := by rw [hV]; exact (Kp.refl _).drew
  clear hV
  have B1 := hB.keep KV
  have G1 := hG.keep KV
  have c0 : V.cell? ⟨b, 0, none⟩ = some (.int .u32 p.a) := B1.cell 0
  have c1 : V.cell? ⟨b, 1, none⟩ = some (.int .i64 p.l) := B1.cell 1
  have c2 : V.cell? ⟨b, 2, none⟩ = some (.int .i64 v) := B1.cell 2
  have c3 : V.cell? ⟨b, 3, none⟩ = some (.bool h) := B1.cell 3
  have d0 : V.cell? ⟨g, 0, none⟩ = some x' := G1.cell 0
  have d1 : V.cell? ⟨g, 1, none⟩ = some y' := G1.cell 1
  simp only [List.take_succ_cons, List.take_zero, List.drop_succ_cons, List.drop_zero]
  have ha := arr_at
  repeat still_step
  refine wpStill_nil ?_
  clear ha c0 c1 c2 c3 d0 d1
  go_wp2_with fail
  go_ret
  exact ⟨V, KV, rfl, rfl⟩

set_option maxRecDepth 100000 in
set_option maxHeartbeats 4000000 in
theorem fold1_any (ob fb : Nat) : ∀ (t : Tr) (w : World), TM w t → Blk w ob 107 #[oneV] → Blk w fb 132 #[foldV ob fb] →
    Calls Tryz.prog 71 #[t.ptr, .pointer (some ⟨ob, 0, none⟩), .pointer (some ⟨fb, 0, none⟩)] w (FoldP w t)
  | .nil, w, _, _, _ => by
    have h1 := ptr_is_nil
    simp only [Tr.ptr]
    go_enter Tryz.func71, Tryz.ntmps71
    go_wp2_with fail
    go_ret
    exact ⟨.nil, none, rfl, rfl, trivial, trivial, by simp [Tr.bs], by simp [Tr.bs], Kp.refl _⟩
  | .node b p v h x y, w, hT, hO, hF => by
    have h1 := ptr_not_nil
    have hc1 := call_fold1
    have hc2 := call_copy1
    obtain ⟨hB0, hTx, hTy⟩ := hT
    have Ihx := Lib.hid (fold1_any ob fb x)
    have Ihy := Lib.hid (fold1_any ob fb y)
    have HB := Lib.hid hB0
    have HX := Lib.hid hTx
    have HY := Lib.hid hTy
    have HO := Lib.hid hO
    have HF := Lib.hid hF
    have n4 : w.cell? ⟨b, 4, none⟩ = some x.ptr := hB0.cell 4
    have n5 : w.cell? ⟨b, 5, none⟩ = some y.ptr := hB0.cell 5
    have o0 : w.cell? ⟨ob, 0, none⟩ = some oneV := hO.cell 0
    have f0 : w.cell? ⟨fb, 0, none⟩ = some (foldV ob fb) := hF.cell 0
    unfold oneV at o0
    unfold foldV at f0
    clear hB0 hTx hTy hO hF
    simp only [Tr.ptr]
    go_enter Tryz.func71, Tryz.ntmps71
    go_wp2_with fail
    go_region_held3 (fun w' => w'.cell? ⟨b, 4, none⟩ = some x.ptr ∧ w'.cell? ⟨b, 5, none⟩ = some y.ptr ∧ w'.cell? ⟨ob, 0, none⟩ = some (.func (.func 56) #[] #[]) ∧ w'.cell? ⟨fb, 0, none⟩ = some (.func (.func 71) #[] #[.pointer (some ⟨ob, 0, none⟩), .pointer (some ⟨fb, 0, none⟩)])) (first | exact ⟨Kd.cell n4, Kd.cell n5, Kd.cell o0, Kd.cell f0⟩ | exact ⟨(Kab.alloc _).cell n4, (Kab.alloc _).cell n5, (Kab.alloc _).cell o0, (Kab.alloc _).cell f0⟩ | exact ⟨Kab.cell n4, Kab.cell n5, Kab.cell o0, Kab.cell f0⟩ | exact ⟨Ka.cell n4, Ka.cell n5, Ka.cell o0, Ka.cell f0⟩ | go_keep) (first | (go_at_call 71; (with_reducible refine (Ihx.out _ (HX.out.keep (Kp.refl w).drew) (HO.out.keep (Kp.refl w).drew) (HF.out.keep (Kp.refl w).drew)).mono ?_); rintro e wa ⟨tx, ox, rfl, px, lx, mx, nx, bx, hKa⟩; have Px := Lib.hid px; have Ka : Kp w wa := (Kp.refl w).drew.trans hKa; have Lx := Lib.hid lx; have Mx := Lib.hid mx; have Nx := Lib.hid nx; have Bx := Lib.hid bx; clear lx mx nx bx px) | (go_at_call 71; (with_reducible refine (Ihy.out _ (HY.out.keep Ka) (HO.out.keep Ka) (HF.out.keep Ka)).mono ?_); rintro e wb ⟨ty, oy, rfl, py, ly, my, ny, by_, hKb⟩; have Py := Lib.hid py; have Kab : Kp w wb := Ka.trans hKb; have Ly := Lib.hid ly; have My := Lib.hid my; have Ny := Lib.hid ny; have By := Lib.hid by_; clear ly my ny by_ py) | (go_at_call 56; (refine (copy1_any b wb.heap.size p v h x.ptr y.ptr (.pointer ox) (.pointer oy) _ (HB.out.keep (Kab.alloc _)) (Blk.new wb _ _)).mono ?_); rintro e wd ⟨V, hKV, rfl, hwd⟩; have Kd : Kp w wd := (by rw [hwd]; exact ((Kab.alloc _).trans hKV).alloc _); have Hwd := Lib.hid hwd; clear hwd))
    go_wp2_with fail
    go_ret
    have hlV := ((Kab.alloc (.cells #[.pointer ox, .pointer oy] 85)).trans hKV).size
    have hsb := Kab.size
    have hVb : wb.heap.size < V.heap.size := by have := hKV.size; simp at this; omega
    have mxV : TM wd tx := by rw [Hwd.out]; exact (Mx.out.keep hKb).keep ((((Kp.refl wb).alloc _).trans hKV).alloc _)
    have myV : TM wd ty := by rw [Hwd.out]; exact My.out.keep ((((Kp.refl wb).alloc _).trans hKV).alloc _)
    have ltx : ∀ c ∈ tx.bs, c < wa.heap.size := Mx.out.lt
    have lty : ∀ c ∈ ty.bs, c < wb.heap.size := My.out.lt
    have hab := hKb.size
    refine ⟨.node V.heap.size p v h tx ty, some ⟨V.heap.size, 0, none⟩, rfl, rfl, ⟨rfl, rfl, rfl, Lx.out, Ly.out⟩, ⟨?_, mxV, myV⟩, ?_, ?_, Kd⟩
    · rw [Hwd.out, Px.out, Py.out]; exact Blk.new V _ _
    · simp only [Tr.bs, List.cons_append, List.nodup_cons, List.mem_append, not_or, List.nodup_append]
      refine ⟨⟨fun hc => by have := ltx _ hc; omega, fun hc => by have := lty _ hc; omega⟩, Nx.out, Ny.out, fun c hc c' hc' e => ?_⟩
      subst e
      have := ltx _ hc
      have := By.out _ hc'
      omega
    · intro c hc
      simp only [Tr.bs, List.cons_append, List.mem_cons, List.mem_append] at hc
      rcases hc with rfl | hc | hc
      · exact hlV
      · exact Bx.out c hc
      · exact Nat.le_trans (Ka.size) (By.out c hc)

set_option maxRecDepth 100000 in
set_option maxHeartbeats 1000000 in
theorem folded_any (t : Tr) (w : World) (hM : TM w t) :
    Calls Tryz.prog 55 #[t.ptr, oneV] w (FoldP w t) := by
  have hmf := makeFunc_run
  have hc1 := call_fold1
  have HM := Lib.hid hM
  clear hM
  unfold oneV
  go_enter Tryz.func55, Tryz.ntmps55
  go_upto_region 3 with (fail)
  obtain ⟨W, hW, kW, B0, B1⟩ : ∃ W, (w.alloc (.cells #[oneV] 107)).alloc (.cells #[foldV w.heap.size (w.heap.size + 1)] 132) = W ∧ Kp w W ∧ Blk W w.heap.size 107 #[oneV] ∧ Blk W (w.heap.size + 1) 132 #[foldV w.heap.size (w.heap.size + 1)] := ⟨_, rfl, ((Kp.refl _).alloc _).alloc _, (Blk.new w _ _).alloc _, Blk.new1 w _ _ _⟩
  have f0 : W.cell? ⟨w.heap.size + 1, 0, none⟩ = some (foldV w.heap.size (w.heap.size + 1)) := B1.cell 0
  unfold oneV foldV at hW
  unfold foldV at f0
  rw [hW]
  have HB0 := Lib.hid B0
  have HB1 := Lib.hid B1
  clear hW B0 B1
  go_wp2_with fail
  refine (fold1_any w.heap.size (w.heap.size + 1) t W (HM.out.keep kW) HB0.out HB1.out).mono ?_
  rintro e w2 ⟨t', o, rfl, h1, h2, h3, h4, h5, hK⟩
  have H1 := Lib.hid h1
  have H2 := Lib.hid h2
  have H3 := Lib.hid h3
  have H4 := Lib.hid h4
  have H5 := Lib.hid h5
  clear h1 h2 h3 h4 h5 f0
  go_wp2_with fail
  go_ret
  exact ⟨t', o, rfl, H1.out, H2.out, H3.out, H4.out, fun b hb => Nat.le_trans kW.size (H5.out b hb), kW.trans hK⟩

def TCopyP (w : World) (t : Tr) (many : Int) (e : Ending) (w' : World) : Prop := ∃ tr' t', e = .returned (.pointer (some ⟨tr', 0, none⟩)) ∧ t.like t' ∧ TrieM w' tr' t' many ∧ (∀ b ∈ tr' :: t'.bs, w.heap.size ≤ b) ∧ Kp w w'
set_option maxRecDepth 100000 in
set_option maxHeartbeats 1000000 in
theorem tcopy_any (tr : Nat) (many : Int) (t : Tr) (w : World) (hT : TrieM w tr t many) :
    Calls Tryz.prog 36 #[.pointer (some ⟨tr, 0, none⟩)] w (TCopyP w t many) := by
  have HT := Lib.hid hT
  have c0 : w.cell? ⟨tr, 0, none⟩ = some t.ptr := hT.blk.cell 0
  clear hT
  go_enter Tryz.func36, Tryz.ntmps36
  go_wp2_with fail
  refine (none_any tr _ many _ HT.out.blk).mono ?_
  rintro e w' ⟨rfl, rfl⟩
  go_wp2_with fail
  refine (folded_any t w HT.out.tm).mono ?_
  rintro e w2 ⟨t', o, rfl, h1, h2, h3, h4, h5, hK⟩
  have H1 := Lib.hid h1
  have H2 := Lib.hid h2
  have H3 := Lib.hid h3
  have H4 := Lib.hid h4
  have H5 := Lib.hid h5
  clear h1 h2 h3 h4 h5 c0
  have c1 : w2.cell? ⟨tr, 1, none⟩ = some (.int .i64 many) := (HT.out.blk.keep hK).cell 1
  go_wp2_with fail
  go_ret
  have hlt := H3.out.lt
  refine ⟨w2.heap.size, t', rfl, H2.out, ⟨?_, H3.out.keep ((Kp.refl _).alloc _), like_wf H2.out HT.out.wf, H4.out, fun hc => by have := hlt _ hc; omega⟩, ?_, hK.alloc _⟩
  · rw [H1.out]; exact Blk.new w2 _ _
  · intro b hb
    rcases List.mem_cons.1 hb with rfl | hb
    · exact hK.size
    · exact H5.out b hb
end Go.Proofs.YtfaiponmjjbgoaaGreatDoor

/- slices.Clone of hops; fib's Copy. -/
namespace Go.Proofs.YtfaiponmjjbgoaaGreatDoor
open Go.RowKit
attribute [local go_sem] Oper.semAt_some

def ClonP (w : World) (H : List Hp) (e : Ending) (w' : World) : Prop := ∃ A c, e = .returned (.slice A H.length c) ∧ Own w' w.heap.size 53 6 Hp.enc (.slice A H.length c) H ∧ Kp w w'
theorem hops_nil (w : World) : (binOp .eql 33 (.slice none 0 0) (.slice none 0 0)).run Tryz.prog w = .ok (.bool true) w := by kernel_rfl
set_option maxRecDepth 100000 in
set_option maxHeartbeats 1000000 in
theorem hclone_any (A : Option Addr) (c : Nat) (H : List Hp) (w : World) (ho : Own w 0 53 6 Hp.enc (.slice A H.length c) H) (hn : H.length ≤ 512) :
    Calls Tryz.prog 37 #[.slice A H.length c] w (ClonP w H) := by
  rcases ho.2 with ⟨hv, h0⟩ | ⟨g, cap, cur, hv, hg, _⟩
  · obtain rfl : H = [] := List.length_eq_zero_iff.1 h0
    injection hv with e1 e2 e3
    subst e1 e3
    clear ho h0
    have h1 := hops_nil
    simp only [List.length_nil]
    go_enter Tryz.func37, Tryz.ntmps37
    go_wp2_with fail
    go_ret
    exact ⟨none, 0, rfl, Own.nil _ _ _ _ _, Kp.refl _⟩
  · injection hv with e1 e2 e3
    subst e1 e3
    clear e2
    have hR := ho.rdAt (by decide) Hp.len
    clear ho hg
    have hE : Own (w.alloc (.cells #[] 53)) w.heap.size 53 6 Hp.enc (.slice (some ⟨w.heap.size, 0, none⟩) 0 0) [] := Own.empty (Nat.le_refl _) (Blk.new w _ _)
    have hnil : ∀ w : World, (binOp .eql 33 (.slice (some ⟨g, 0, none⟩) H.length c) (.slice none 0 0)).run Tryz.prog w = .ok (.bool false) w := fun _ => by kernel_rfl
    go_enter Tryz.func37, Tryz.ntmps37
    go_wp2_with (at_builtin; go_loud (refine wpList_appl EHop Hp.len Hp.one rfl _ _ rfl rfl rfl hE (hR.keep ((Kp.refl _).alloc _)) (by simp; omega) (by simp) ?_; intro v' w1 hown hg hat; rw [List.nil_append] at hown; have hK1 : Kp w w1 := ((Kp.refl w).alloc _).grown hg (fun q hq => (World.ownsRow.lt hE q hq).1); clear hg hat hE; obtain ⟨A', c', rfl⟩ := hown.form))
    go_ret
    exact ⟨_, _, rfl, hown, hK1⟩

def FCopyP (w : World) (L : List Hp) (e : Ending) (w' : World) : Prop := ∃ g G, e = .returned (.pointer (some ⟨g, 0, none⟩)) ∧ FM w' g G L ∧ Kp w w' ∧ ∀ b ∈ G, w.heap.size ≤ b
theorem FI.like {t t' : Tr} {H : List Hp} (h : FI t H) (l : t.like t') : FI t' H := ⟨like_wf l h.wf, by rw [(like_rows l).1]; exact h.rows, by rw [(like_rows l).1]; exact h.len⟩
theorem Own.to0 {α : Type} {w : World} {base e sz : Nat} {enc : α → List Value} {v : Value} {xs : List α} (h : Own w base e sz enc v xs) : Own w 0 e sz enc v xs := h.mono (Nat.zero_le _)

set_option maxRecDepth 100000 in
set_option maxHeartbeats 2000000 in
theorem fcopy_any (f : Nat) (F : List Nat) (L : List Hp) (w : World) (hM : FM w f F L) :
    Calls Tryz.prog 20 #[.pointer (some ⟨f, 0, none⟩)] w (FCopyP w L) := by
  obtain ⟨tr, t, A, c, H, rfl, m, u, pm⟩ := hM
  have HM := Lib.hid m
  have Hu := Lib.hid u
  have Hpm := Lib.hid pm
  have hroom := m.room
  have f0 : w.cell? ⟨f, 0, none⟩ = some (.pointer (some ⟨tr, 0, none⟩)) := m.blk.cell 0
  have f1 : w.cell? ⟨f, 1, none⟩ = some (.slice A H.length c) := m.blk.cell 1
  clear m u pm
  go_enter Tryz.func20, Tryz.ntmps20
  go_wp2_with fail
  refine (fnone_any f tr _ _ HM.out.blk).mono ?_
  rintro e w' ⟨rfl, rfl⟩
  go_wp2_with fail
  go_region_held3 (fun w' => w'.cell? ⟨f, 0, none⟩ = some (.pointer (some ⟨tr, 0, none⟩)) ∧ w'.cell? ⟨f, 1, none⟩ = some (.slice A H.length c)) (first | exact ⟨(Kab.alloc _).cell f0, (Kab.alloc _).cell f1⟩ | exact ⟨Kab.cell f0, Kab.cell f1⟩ | exact ⟨Ka.cell f0, Ka.cell f1⟩ | go_keep) (first | (go_at_call 36; refine (tcopy_any tr _ t _ (HM.out.trie.keep (Kp.refl w).drew)).mono ?_; rintro e wa ⟨tr', t', rfl, hl, hT, hb, hKa⟩; have Ka : Kp w wa := (Kp.refl w).drew.trans hKa; have Hl := Lib.hid hl; have HT := Lib.hid hT; have Hb := Lib.hid hb; clear hl hT hb) | (go_at_call 37; refine (hclone_any A c H _ (HM.out.own.keep Ka) hroom).mono ?_; rintro e wb ⟨A2, c2, rfl, hO2, hKb⟩; have Kab : Kp w wb := Ka.trans hKb; have HO2 := Lib.hid hO2; clear hO2))
  go_wp2_with fail
  go_ret
  have hlt := (HT.out.keep hKb).tm.lt
  have hlT := (HT.out.keep hKb).blk.lt
  have hsz := hKb.size
  have hbn := HO2.out.newA
  have hbl := HO2.out.lt_
  have hts := HT.out.tm.lt
  have htr := HT.out.blk.lt
  refine ⟨wb.heap.size, Fp wb.heap.size tr' t' A2, rfl, ⟨tr', t', A2, c2, H, rfl, ⟨Blk.new wb _ _, (HT.out.keep hKb).keep ((Kp.refl _).alloc _), (HO2.out.to0).keep ((Kp.refl _).alloc _), HM.out.fi.like Hl.out, by omega, fun hc => by have := hlt _ hc; omega, fun a ha => ?_, hroom, HM.out.oks⟩, Hu.out, Hpm.out⟩, Kab.alloc _, ?_⟩
  · have h1 := hbn a ha
    have h2 := hbl a ha
    exact ⟨by omega, by omega, fun hc => by have := hts _ hc; omega⟩
  · intro b hb
    simp only [Fp, List.mem_cons, List.mem_append] at hb
    rcases hb with rfl | rfl | hb | hb
    · exact Kab.size
    · exact Hb.out _ (by simp)
    · exact Hb.out _ (by simp [hb])
    · cases A2 with
      | none => cases hb
      | some a =>
        simp only [rowB, List.mem_singleton] at hb
        rw [hb]
        exact Nat.le_trans Ka.size (hbn a rfl)
end Go.Proofs.YtfaiponmjjbgoaaGreatDoor

/- FibCopies: whatever the routes and the address, the law returns true, and what was there stands. -/
namespace Go.Proofs.YtfaiponmjjbgoaaGreatDoor
open Go.RowKit
attribute [local go_sem] Oper.semAt_some

theorem same_comm (L M : List Hp) : sameL M L = sameL L M := by unfold sameL; congr 1; simp only [eq_iff_iff]; exact ⟨fun h => h.symm, fun h => h.symm⟩
theorem same_self (L : List Hp) : sameL L L = true := by simp [sameL]
theorem fib_ne_nil (w : World) : (binOp .neq 31 (.pointer none) (.pointer none)).run Tryz.prog w = .ok (.bool false) w := by kernel_rfl

/-- What is told of no table: the first half of the law, up to the table of its own. -/
def CopAll (w : World) (f u : Nat) (W : World) : Prop := ∃ F L A c, AlI w f u W F L A c

set_option maxRecDepth 100000 in
set_option maxHeartbeats 8000000 in
theorem copies_walk (A : Option Addr) (c : Nat) (rs : List Rt) (ra rb : Rt) (tt : Nat) (w : World) (hG : RelsAt w) (hR : Rd w 9 Rt.enc A rs) (hn : rs.length ≤ 20) (hfit : ∀ r ∈ rs, r.fits) (hra : ra.fits) (hrb : rb.fits) :
    Calls Tryz.prog 5 #[.slice A rs.length c, .agg (rtA ra), .agg (rtA rb), .int .u32 tt] w fun e w' => e = .returned (.bool true) ∧ Kp w w' := by
  obtain ⟨W, hW, kW, B0, B1⟩ : ∃ W, (w.alloc (.cells (rtA ra) 29)).alloc (.cells (rtA rb) 29) = W ∧ Kp w W ∧ Blk W w.heap.size 29 (rtA ra) ∧ Blk W (w.heap.size + 1) 29 (rtA rb) := ⟨_, rfl, ((Kp.refl _).alloc _).alloc _, (Blk.new w _ _).alloc _, Blk.new1 w _ _ _⟩
  have HG := Lib.hid (hG.keep kW)
  have HR := Lib.hid (hR.keep kW)
  have Hfit := Lib.hid hfit
  have Hra := Lib.hid hra
  have Hrb := Lib.hid hrb
  clear hG hR hfit hra hrb
  have hd : decide ((20 : Int) < rs.length) = false := by simp; omega
  have hd' : decide (20 < rs.length) = false := by simp; omega
  unfold rtA at hW B0 B1 ⊢
  have a0 : W.cell? ⟨w.heap.size, 0, none⟩ = some (.int .u32 ra.p.a) := B0.cell 0
  have a1 : W.cell? ⟨w.heap.size, 1, none⟩ = some (.int .i64 ra.p.l) := B0.cell 1
  have a2 : W.cell? ⟨w.heap.size, 2, none⟩ = some (.int .i64 ra.s) := B0.cell 2
  have a3 : W.cell? ⟨w.heap.size, 3, none⟩ = some (.int .i64 ra.m) := B0.cell 3
  have a4 : W.cell? ⟨w.heap.size, 4, none⟩ = some (.int .i64 ra.l) := B0.cell 4
  have a5 : W.cell? ⟨w.heap.size, 5, none⟩ = some (.int .i64 ra.f) := B0.cell 5
  have a6 : W.cell? ⟨w.heap.size, 6, none⟩ = some (.int .u32 ra.x) := B0.cell 6
  have a7 : W.cell? ⟨w.heap.size, 7, none⟩ = some (.int .i64 ra.d) := B0.cell 7
  have a8 : W.cell? ⟨w.heap.size, 8, none⟩ = some (.bool ra.c) := B0.cell 8
  go_enter Tryz.func5, Tryz.ntmps5
  go_wp2_with fail
  refine (Come_nil _ _ _ _).mono ?_
  rintro e w' ⟨rfl, rfl⟩
  obtain ⟨W1, hW1, kW1⟩ : ∃ W1, W.alloc (.cells #[.int .u32 ra.p.a, .int .i64 ra.p.l, .int .i64 ra.s, .int .i64 ra.m, .int .i64 ra.l, .int .i64 ra.f, .int .u32 ra.x, .int .i64 ra.d, .bool ra.c] 29) = W1 ∧ Kp W W1 := ⟨_, rfl, (Kp.refl _).alloc _⟩
  go_wp2_with fail
  refine (fFind_nil _ W1).mono ?_
  rintro e w2 ⟨rfl, hK2⟩
  unfold hopV hop0
  have k2 := kW1.trans hK2
  clear hW1 a0 a1 a2 a3 a4 a5 a6 a7 a8
  have q0 : ∀ o, (w2.alloc o).cell? ⟨w.heap.size, 0, none⟩ = some (.int .u32 ra.p.a) := fun o => ((B0.keep k2).alloc o).cell 0
  have q1 : ∀ o, (w2.alloc o).cell? ⟨w.heap.size, 1, none⟩ = some (.int .i64 ra.p.l) := fun o => ((B0.keep k2).alloc o).cell 1
  go_wp2_with fail
  refine (fGet_nil _ _ _).mono ?_
  rintro e w3 ⟨rfl, hK3⟩
  unfold hopV hop0
  have k3 : Kp W w3 := (k2.alloc _).trans hK3
  clear q0 q1 hK3
  go_wp2_with fail
  refine (num_any 1 _).mono ?_
  rintro e w' ⟨rfl, rfl⟩
  obtain ⟨w4, hw4, k4⟩ : ∃ w4, w3.alloc (.cells #[.int .u32 0, .int .i64 0, .bool false, .int .i64 0, .int .u32 0, .int .i64 0] 53) = w4 ∧ Kp W w4 := ⟨_, rfl, k3.alloc _⟩
  have hne0 := fib_ne_nil
  go_wp2_with fail
  refine (all_nil w4).mono ?_
  rintro e w5 ⟨bx, A5, c5, rfl, hD5, hK5, _, _⟩
  have HD5 := Lib.hid hD5
  clear hD5
  unfold allV
  go_wp2_with fail
  refine (rows_any bx A5 c5 none 0 [] 1 w5 HD5.out (Rd.nil _ _ _ _) (by simp)).mono ?_
  rintro e w6 ⟨rfl, hK6⟩
  go_wp2_with fail
  refine (flen_nil _).mono ?_
  rintro e w' ⟨rfl, rfl⟩
  go_wp2_with fail
  refine (fcopy_nil _).mono ?_
  rintro e w' ⟨rfl, rfl⟩
  go_wp2_with fail
  refine (fsame_nils _).mono ?_
  rintro e w' ⟨rfl, rfl⟩
  go_wp2_with fail
  refine (fnew_any w6).mono ?_
  rintro e w7 ⟨f1, F1, rfl, hM7, hK7, _⟩
  have HM7 := Lib.hid hM7
  clear hM7
  go_wp2_with fail
  refine (fsame_nil f1 F1 [] w7 HM7.out).mono ?_
  rintro e w' ⟨rfl, rfl⟩
  go_wp2_with fail
  refine (of_nil w7).mono ?_
  rintro e w8 ⟨f2, F2, rfl, hM8, hK8, _⟩
  have HM8 := Lib.hid hM8
  clear hM8
  go_wp2_with fail
  refine (flen_any f2 F2 [] w8 HM8.out).mono ?_
  rintro e w' ⟨rfl, rfl⟩
  go_wp2_with fail
  refine (of_nil w8).mono ?_
  rintro e w9 ⟨f3, F3, rfl, hM9, hK9, _⟩
  have HM9 := Lib.hid hM9
  clear hM9
  go_wp2_with fail
  refine (fnew_any w9).mono ?_
  rintro e wA ⟨f4, F4, rfl, hMA, hKA, _⟩
  have HMA := Lib.hid hMA
  clear hMA
  go_wp2_with fail
  refine (fsame_any f3 F3 [] f4 F4 [] wA (HM9.out.keep hKA) HMA.out).mono ?_
  rintro e wB ⟨rfl, hKB⟩
  rw [same_self]
  have kB : Kp W wB := (((((k4.trans hK5).trans hK6).trans hK7).trans hK8).trans hK9).trans (hKA.trans hKB)
  clear HM7 HM8 HM9 HMA HD5 hK5 hK6 hK7 hK8 hK9 hKA hKB k4 k3 hw4 hne0
  go_wp2_with fail
  refine (fnew_any wB).mono ?_
  rintro e w1 ⟨f, F0, rfl, hM, hK, hF⟩
  have hlF := hM.lt
  have hgl := rels_lt (HG.out.keep kB)
  have hI : CopAll wB f w1.heap.size (w1.alloc (.cells #[.slice none 0 0] 35)) :=
    ⟨F0, [], none, 0, ⟨hM.keep ((Kp.refl _).alloc _), hF, (HG.out.keep kB).keep (hK.alloc _), fun hc => by have := hF _ hc; omega, hK.alloc _, Blk.new w1 _ _, fun hc => by have := hlF _ hc; omega, hK.size, by have := hK.size; omega, Rd.nil _ _ _ _, fun a ha => by cases ha⟩⟩
  have HI := Lib.hid hI
  clear hM hK hF hlF hI hgl
  go_wp2_with fail
  go_loopw [18] (fun i wr => ∃ k : Nat, k ≤ rs.length ∧ i = .int .i64 k ∧ Hid (CopAll wB f w1.heap.size wr)) (fun i _ => rs.length - (intOf i).toNat)
  case atStart => exact ⟨0, Nat.zero_le _, rfl, HI⟩
  case round =>
    obtain ⟨k, hk, rfl, hA⟩ := hrel
    obtain ⟨F, L, A1, c1, I⟩ := hA.out
    have HII := Lib.hid I
    by_cases hlt : k < rs.length
    · obtain ⟨b, off, hb, x0, x1, x2, x3, x4, x5, x6, x7, x8⟩ := rt_at (HR.out.keep (kB.trans I.kp)) hlt
      subst hb
      obtain ⟨q, hq⟩ : ∃ q, rs[k] = q := ⟨_, rfl⟩
      rw [hq] at x0 x1 x2 x3 x4 x5 x6 x7 x8
      have hqf := Hfit.out q (by rw [← hq]; exact List.getElem_mem _)
      have Hq := Lib.hid hqf
      have Hqe := Lib.hid hq
      clear hq hqf I
      go_wp2_with fail
      have ha : ∀ o, Kp wr (wr.alloc o) := fun o => (Kp.refl _).alloc o
      have hlF := HII.out.fm.lt
      refine (Come_any f F L [q] (some ⟨wr.heap.size, 0, none⟩) 1 _ (HII.out.rels.keep (ha _)) HII.out.gn (HII.out.fm.keep (ha _)) (Rd.one wr q) (fun _ a ha hc => by injection ha with ha; subst ha; have h9 : wr.heap.size < wr.heap.size := hlF _ hc; omega) (by simp) (by simpa using Hq.out)).mono ?_
      rintro e w5 ⟨rfl, hT⟩
      obtain ⟨F5, hJ, hO, hS⟩ := (HII.out.keep (ha _)).come hT
      rw [runL_one] at hJ
      have HJ := Lib.hid hJ
      have hRk := rt_at (HR.out.keep (kB.trans hJ.kp)) hlt
      rw [Hqe.out] at hRk
      obtain ⟨b2, off2, hb2, y0, y1, y2, y3, y4, y5, y6, y7, y8⟩ := hRk
      injection hb2 with hb2
      injection hb2 with hb3 hb4
      subst hb3 hb4
      have u0 : w5.cell? ⟨w1.heap.size, 0, none⟩ = some (.slice A1 L.length c1) := hJ.ub.cell 0
      have z0 := hJ.ub.frozen 0
      have hLu := HII.out.fm.up
      have HLu := Lib.hid hLu
      clear hT hJ hO hS hlF ha x0 x1 x2 x3 x4 x5 x6 x7 x8 hLu
      go_wp2_with fail
      go_region_with (go_at_call 9; refine (one_any A1 c1 L q _ (HJ.out.rd.keep (Kp.refl _).drew) HLu.out.2 Hq.out.1 Hq.out.2 HLu.out.1).mono ?_; rintro e w6 ⟨A2, c2, rfl, hR2, hK2, hA2⟩; have v0 : w6.cell? ⟨w1.heap.size, 0, none⟩ = some (.slice A1 L.length c1) := ((Kp.refl w5).drew.trans hK2).cell u0; have zz0 : w6.frozen? ⟨w1.heap.size, 0, none⟩ = false := (((Kp.refl w5).drew.trans hK2).frozen u0).trans z0; have HR2 := Lib.hid hR2; have HA2 := Lib.hid hA2; clear hR2 hA2)
      all_goals
        go_wp2_with fail
        go_roundw
        case rel => exact ⟨k + 1, by omega, by go_num, Lib.hid ⟨_, _, _, _, HJ.out.set ((Kp.refl w5).drew.trans hK2) HR2.out HA2.out⟩⟩
        case measure => simp [intOf]; omega
    · obtain rfl : k = rs.length := by omega
      clear hA I
      have hlF := HII.out.fm.lt
      have HlF := Lib.hid hlF
      have huL := HII.out.ub.lt
      obtain ⟨hupL, hlnL⟩ := HII.out.fm.up
      have HupL := Lib.hid hupL
      clear hlF hupL
      go_wp2_with fail
      refine (fcopy_any f F L wr HII.out.fm).mono ?_
      rintro e w3 ⟨g, G, rfl, hMg, hK3, hGn⟩
      have I3 := Lib.hid (HII.out.keep hK3)
      have HMg := Lib.hid hMg
      have HGn := Lib.hid hGn
      have hlG := hMg.lt
      have HlG := Lib.hid hlG
      have hs3 := hK3.size
      clear hMg hGn hlG
      have kW3 := kB.trans I3.out.kp
      have ya0 : w3.cell? ⟨w.heap.size, 0, none⟩ = some (.int .u32 ra.p.a) := (B0.keep kW3).cell 0
      have ya1 : w3.cell? ⟨w.heap.size, 1, none⟩ = some (.int .i64 ra.p.l) := (B0.keep kW3).cell 1
      have ya2 : w3.cell? ⟨w.heap.size, 2, none⟩ = some (.int .i64 ra.s) := (B0.keep kW3).cell 2
      have ya3 : w3.cell? ⟨w.heap.size, 3, none⟩ = some (.int .i64 ra.m) := (B0.keep kW3).cell 3
      have ya4 : w3.cell? ⟨w.heap.size, 4, none⟩ = some (.int .i64 ra.l) := (B0.keep kW3).cell 4
      have ya5 : w3.cell? ⟨w.heap.size, 5, none⟩ = some (.int .i64 ra.f) := (B0.keep kW3).cell 5
      have ya6 : w3.cell? ⟨w.heap.size, 6, none⟩ = some (.int .u32 ra.x) := (B0.keep kW3).cell 6
      have ya7 : w3.cell? ⟨w.heap.size, 7, none⟩ = some (.int .i64 ra.d) := (B0.keep kW3).cell 7
      have ya8 : w3.cell? ⟨w.heap.size, 8, none⟩ = some (.bool ra.c) := (B0.keep kW3).cell 8
      go_wp2_with fail
      have ha : ∀ o, Kp w3 (w3.alloc o) := fun o => (Kp.refl _).alloc o
      refine (Come_any f F L [ra] (some ⟨w3.heap.size, 0, none⟩) 1 _ (I3.out.rels.keep (ha _)) I3.out.gn (I3.out.fm.keep (ha _)) (Rd.one w3 ra) (fun _ a ha hc => by injection ha with ha; subst ha; have h9 : w3.heap.size < wr.heap.size := HlF.out _ hc; omega) (by simp) (by simpa using Hra.out)).mono ?_
      rintro e w5 ⟨rfl, hT⟩
      obtain ⟨F5, hJ, hO, hS⟩ := (I3.out.keep (ha _)).come hT
      rw [runL_one] at hJ
      have HJ := Lib.hid hJ
      have hs5 := hO.size
      have hs5' : w3.heap.size < w5.heap.size := by simp at hs5; omega
      have hGF : ∀ b ∈ G, b ∉ F := fun b hb hc => by have := HGn.out b hb; have := HlF.out b hc; omega
      have M5 := Lib.hid ((HMg.out.keep (ha _)).only hO hGF)
      have kW5 := kB.trans hJ.kp
      have hgG : Hid (0 ∉ G) := fun hc => by have := HGn.out _ hc; have := rels_lt HII.out.rels; omega
      have hF5 : Hid (∀ b ∈ F5, b ∈ F ∨ w3.heap.size + 1 ≤ b) := fun b hb => by have := hS b hb; simpa using this
      clear hT hJ hO hS hGF ha hs5 ya0 ya1 ya2 ya3 ya4 ya5 ya6 ya7 ya8
      have yb0 : w5.cell? ⟨w.heap.size + 1, 0, none⟩ = some (.int .u32 rb.p.a) := (B1.keep kW5).cell 0
      have yb1 : w5.cell? ⟨w.heap.size + 1, 1, none⟩ = some (.int .i64 rb.p.l) := (B1.keep kW5).cell 1
      have yb2 : w5.cell? ⟨w.heap.size + 1, 2, none⟩ = some (.int .i64 rb.s) := (B1.keep kW5).cell 2
      have yb3 : w5.cell? ⟨w.heap.size + 1, 3, none⟩ = some (.int .i64 rb.m) := (B1.keep kW5).cell 3
      have yb4 : w5.cell? ⟨w.heap.size + 1, 4, none⟩ = some (.int .i64 rb.l) := (B1.keep kW5).cell 4
      have yb5 : w5.cell? ⟨w.heap.size + 1, 5, none⟩ = some (.int .i64 rb.f) := (B1.keep kW5).cell 5
      have yb6 : w5.cell? ⟨w.heap.size + 1, 6, none⟩ = some (.int .u32 rb.x) := (B1.keep kW5).cell 6
      have yb7 : w5.cell? ⟨w.heap.size + 1, 7, none⟩ = some (.int .i64 rb.d) := (B1.keep kW5).cell 7
      have yb8 : w5.cell? ⟨w.heap.size + 1, 8, none⟩ = some (.bool rb.c) := (B1.keep kW5).cell 8
      go_wp2_with fail
      have ha : ∀ o, Kp w5 (w5.alloc o) := fun o => (Kp.refl _).alloc o
      refine (Come_any g G L [rb] (some ⟨w5.heap.size, 0, none⟩) 1 _ (HJ.out.rels.keep (ha _)) hgG.out (M5.out.keep (ha _)) (Rd.one w5 rb) (fun _ a ha hc => by injection ha with ha; subst ha; have h9 : w5.heap.size < w3.heap.size := HlG.out _ hc; omega) (by simp) (by simpa using Hrb.out)).mono ?_
      rintro e w6 ⟨rfl, hT⟩
      obtain ⟨G6, fm6, O6, s6, r6, gn6⟩ := hT.open (HJ.out.rels.keep (ha _)) hgG.out
      rw [runL_one] at fm6
      have hFG : ∀ b ∈ F5, b ∉ G := fun b hb hc => by
        rcases hF5.out b hb with e | e
        · have := HlF.out b e; have := HGn.out b hc; omega
        · have := HlG.out b hc; omega
      have ff6 := Lib.hid ((HJ.out.fm.keep (ha _)).only O6 hFG)
      have fg6 := Lib.hid fm6
      have huG : w1.heap.size ∉ G := fun hc => by have := HGn.out _ hc; omega
      have ub6 := (HJ.out.ub.keep (ha _)).only O6 huG
      have rd6 := Lib.hid ((HJ.out.rd.keep (ha _)).only O6 (fun a ha hc => by have := (HII.out.an a ha).1; have := HGn.out _ hc; omega))
      have hwr := HII.out.kp.size
      have kW6 : Kp W w6 := O6.kp (kW5.trans (ha _)) (fun b hb => by have := HGn.out b hb; have := kB.size; omega)
      have hr6 := Lib.hid r6
      have u6 : w6.cell? ⟨w1.heap.size, 0, none⟩ = some (.slice A1 L.length c1) := ub6.cell 0
      clear hT O6 s6 r6 gn6 hFG huG fm6 ha ub6 yb0 yb1 yb2 yb3 yb4 yb5 yb6 yb7 yb8
      have yc0 : w6.cell? ⟨w.heap.size, 0, none⟩ = some (.int .u32 ra.p.a) := (B0.keep kW6).cell 0
      have yc1 : w6.cell? ⟨w.heap.size, 1, none⟩ = some (.int .i64 ra.p.l) := (B0.keep kW6).cell 1
      have yc2 : w6.cell? ⟨w.heap.size, 2, none⟩ = some (.int .i64 ra.s) := (B0.keep kW6).cell 2
      have yc3 : w6.cell? ⟨w.heap.size, 3, none⟩ = some (.int .i64 ra.m) := (B0.keep kW6).cell 3
      have yc4 : w6.cell? ⟨w.heap.size, 4, none⟩ = some (.int .i64 ra.l) := (B0.keep kW6).cell 4
      have yc5 : w6.cell? ⟨w.heap.size, 5, none⟩ = some (.int .i64 ra.f) := (B0.keep kW6).cell 5
      have yc6 : w6.cell? ⟨w.heap.size, 6, none⟩ = some (.int .u32 ra.x) := (B0.keep kW6).cell 6
      have yc7 : w6.cell? ⟨w.heap.size, 7, none⟩ = some (.int .i64 ra.d) := (B0.keep kW6).cell 7
      have yc8 : w6.cell? ⟨w.heap.size, 8, none⟩ = some (.bool ra.c) := (B0.keep kW6).cell 8
      go_wp2_with fail
      refine (one_any A1 c1 L ra w6 rd6.out hlnL Hra.out.1 Hra.out.2 HupL.out).mono ?_
      rintro e w7 ⟨A7, c7, rfl, hR7, hK7, _⟩
      have HR7 := Lib.hid hR7
      clear hR7 yc0 yc1 yc2 yc3 yc4 yc5 yc6 yc7 yc8
      obtain ⟨L1, hL1⟩ : ∃ L1, comeL ra L = L1 := ⟨_, rfl⟩
      rw [hL1] at HR7 ff6 ⊢
      clear hL1
      obtain ⟨w8, hw8, k8, B8⟩ : ∃ w8, w7.alloc (.cells #[.slice A7 L1.length c7] 35) = w8 ∧ Kp w7 w8 ∧ Blk w8 w7.heap.size 35 #[.slice A7 L1.length c7] := ⟨_, rfl, (Kp.refl _).alloc _, Blk.new w7 _ _⟩
      have k68 := hK7.trans k8
      have u8 := k68.cell u6
      have kW8 := kW6.trans k68
      have yd0 : w8.cell? ⟨w.heap.size + 1, 0, none⟩ = some (.int .u32 rb.p.a) := (B1.keep kW8).cell 0
      have yd1 : w8.cell? ⟨w.heap.size + 1, 1, none⟩ = some (.int .i64 rb.p.l) := (B1.keep kW8).cell 1
      have yd2 : w8.cell? ⟨w.heap.size + 1, 2, none⟩ = some (.int .i64 rb.s) := (B1.keep kW8).cell 2
      have yd3 : w8.cell? ⟨w.heap.size + 1, 3, none⟩ = some (.int .i64 rb.m) := (B1.keep kW8).cell 3
      have yd4 : w8.cell? ⟨w.heap.size + 1, 4, none⟩ = some (.int .i64 rb.l) := (B1.keep kW8).cell 4
      have yd5 : w8.cell? ⟨w.heap.size + 1, 5, none⟩ = some (.int .i64 rb.f) := (B1.keep kW8).cell 5
      have yd6 : w8.cell? ⟨w.heap.size + 1, 6, none⟩ = some (.int .u32 rb.x) := (B1.keep kW8).cell 6
      have yd7 : w8.cell? ⟨w.heap.size + 1, 7, none⟩ = some (.int .i64 rb.d) := (B1.keep kW8).cell 7
      have yd8 : w8.cell? ⟨w.heap.size + 1, 8, none⟩ = some (.bool rb.c) := (B1.keep kW8).cell 8
      go_wp2_with fail
      refine (one_any A1 c1 L rb w8 (rd6.out.keep k68) hlnL Hrb.out.1 Hrb.out.2 HupL.out).mono ?_
      rintro e w9 ⟨A9, c9, rfl, hR9, hK9, _⟩
      have HR9 := Lib.hid hR9
      clear hR9 hw8 u6 u8 yd0 yd1 yd2 yd3 yd4 yd5 yd6 yd7 yd8
      obtain ⟨L2, hL2⟩ : ∃ L2, comeL rb L = L2 := ⟨_, rfl⟩
      rw [hL2] at HR9 fg6 ⊢
      clear hL2
      obtain ⟨wD, hwD, kD, BD⟩ : ∃ wD, w9.alloc (.cells #[.slice A9 L2.length c9] 35) = wD ∧ Kp w9 wD ∧ Blk wD w9.heap.size 35 #[.slice A9 L2.length c9] := ⟨_, rfl, (Kp.refl _).alloc _, Blk.new w9 _ _⟩
      have k8D := hK9.trans kD
      have p1 : wD.cell? ⟨w7.heap.size, 0, none⟩ = some (.slice A7 L1.length c7) := (B8.keep k8D).cell 0
      have p2 : wD.cell? ⟨w9.heap.size, 0, none⟩ = some (.slice A9 L2.length c9) := BD.cell 0
      have k6D := k68.trans k8D
      have ffD := Lib.hid (ff6.out.keep k6D)
      have fgD := Lib.hid (fg6.out.keep k6D)
      have R7D := Lib.hid (HR7.out.keep (k8.trans k8D))
      have R9D := Lib.hid (HR9.out.keep kD)
      have hl1 := ffD.out.up.2
      have hl2 := fgD.out.up.2
      have kWD := kW6.trans k6D
      have hrD := Lib.hid (hr6.out.keep k6D)
      obtain ⟨sm, hsm⟩ : ∃ sm, sameL L1 L2 = sm := ⟨_, rfl⟩
      have Hsm := Lib.hid hsm
      have Hsm2 : Hid (sameL L2 L1 = sm) := by rw [same_comm]; exact Lib.hid hsm
      clear hsm
      go_wp2_with fail
      refine (rsame_any A7 c7 L1 A9 c9 L2 wD R7D.out R9D.out (by omega) (by omega)).mono ?_
      rintro e wE ⟨rfl, hKE⟩
      rw [Hsm.out]
      have e1 := hKE.cell p1
      have e2 := hKE.cell p2
      clear p1 p2 hwD
      go_wp2_with fail
      refine (is_any f F5 L1 A7 c7 wE (ffD.out.keep hKE) (R7D.out.keep hKE)).mono ?_
      rintro e wF ⟨rfl, hKF⟩
      have kF := hKE.trans hKF
      have g2 := hKF.cell e2
      clear e1 e2
      go_wp2_with fail
      refine (is_any g G6 L2 A9 c9 wF (fgD.out.keep kF) (R9D.out.keep kF)).mono ?_
      rintro e wH ⟨rfl, hKH⟩
      have kH := kF.trans hKH
      clear g2
      go_wp2_with fail
      refine (fsame_any f F5 L1 g G6 L2 wH (ffD.out.keep kH) (fgD.out.keep kH)).mono ?_
      rintro e wI ⟨rfl, hKI⟩
      rw [Hsm.out]
      have kI := kH.trans hKI
      cases sm
      all_goals
        go_wp2_with fail
        refine (fsame_any g G6 L2 f F5 L1 wI (fgD.out.keep kI) (ffD.out.keep kI)).mono ?_
        rintro e wJ ⟨rfl, hKJ⟩
        rw [Hsm2.out]
        have kJ := kI.trans hKJ
        go_wp2_with fail
        refine (works_any _ (hrD.out.keep kJ)).mono ?_
        rintro e wK ⟨rfl, hKK⟩
        go_wp2_with fail
        go_ret
        exact ⟨rfl, ((kW.trans kWD).trans kJ).trans hKK⟩
end Go.Proofs.YtfaiponmjjbgoaaGreatDoor

/- What the listed variable gives the walks. -/
namespace Go.Proofs.YtfaiponmjjbgoaaGreatDoor
open Go.ChangeShapes Go.WideShapes Go.ChangeAt Go.RowKit

theorem gRels : Tryz.prog.globalNamed "waywarden/prefix.rels" = some 0 := by kernel_rfl
theorem tRels : (Tryz.prog.globals[0]?).map (·.type) = some 232 := by kernel_rfl
def relsLaid : List (String × DataW Unit) := [("waywarden/prefix.rels", Rows.laid_waywarden_prefix_rels)]

theorem rel_one {H : Type} {enc : TypeId × Value → H} {W : World} {base fuel : Nat} {sp : Nat → Bool} {held : Bool} {c : List Value} {p : List MemPlace} {a : Int}
    (h : DataW.trod enc Tryz.prog W base sp held fuel 216 c = some (.lit (.int .i64 a), p)) : c = [.int .i64 a] := by
  obtain ⟨n, e1, e2, _⟩ := DataW.trod_int Tryz.underlying216 h
  simp only [Prod.mk.injEq, DataW.lit.injEq, Lit.int.injEq] at e2
  rw [e1, e2.1.2]
theorem len2 {l : List Value} (h : l.length = 2) : ∃ a b, l = [a, b] := by
  match l, h with
  | [a, b], _ => exact ⟨a, b, rfl⟩
theorem len4 {l : List Value} (h : l.length = 4) : ∃ a b c d, l = [a, b, c, d] := by
  match l, h with
  | [a, b, c, d], _ => exact ⟨a, b, c, d, rfl⟩
set_option maxRecDepth 100000 in
theorem rel_row {H : Type} {enc : TypeId × Value → H} {W : World} {base fuel : Nat} {sp : Nat → Bool} {held : Bool} {c : List Value} {p : List MemPlace} {a b : Int}
    (h : DataW.trod enc Tryz.prog W base sp held fuel 231 c = some (.agg [.lit (.int .i64 a), .lit (.int .i64 b)], p)) : c = [.int .i64 a, .int .i64 b] := by
  obtain ⟨xs, m, rfl, hx, hlen, hn, hel⟩ := DataW.trod_array Tryz.underlying231 h
  have c1 : Tryz.prog.cellsOf 216 = 1 := by kernel_rfl
  have c2 : Tryz.prog.cellsOf 231 = 2 := by kernel_rfl
  rw [c2] at hlen
  rw [c1] at hel
  have h0 := hel 0 (by decide)
  have h1 := hel 1 (by decide)
  match xs, hn, hx, h0, h1 with
  | [(x0, p0), (x1, p1)], _, hx, h0, h1 =>
    simp only [List.map_cons, List.map_nil, Prod.mk.injEq, DataW.agg.injEq, List.cons.injEq, and_true] at hx
    obtain ⟨⟨rfl, rfl⟩, _⟩ := hx
    have e0 := rel_one (show DataW.trod _ Tryz.prog W _ _ _ m _ _ = some (_, p0) from h0)
    have e1 := rel_one (show DataW.trod _ Tryz.prog W _ _ _ m _ _ = some (_, p1) from h1)
    obtain ⟨u, v, rfl⟩ := len2 hlen
    simp at e0 e1
    rw [e0, e1]
set_option maxRecDepth 100000 in
theorem rels_of_laid {W : World} (h : laidMetH Tryz.prog relsLaid W) : RelsAt W := by
  unfold relsLaid at h
  rw [MakeChecks.laidMetH_plain _ _ _ (by kernel_rfl)] at h
  obtain ⟨ps, ⟨g0, t0, cs0, f0, p0, q0, hg0, ht0, hv0, hd0, _, _⟩, _, _⟩ := h
  obtain rfl := Option.some.inj (gRels.symm.trans hg0)
  obtain rfl := Option.some.inj (tRels.symm.trans ht0)
  obtain ⟨xs, m, rfl, hx, hlen, hn, hel⟩ := DataW.trod_array Tryz.underlying232 hd0
  have c2 : Tryz.prog.cellsOf 231 = 2 := by kernel_rfl
  have c4 : Tryz.prog.cellsOf 232 = 4 := by kernel_rfl
  rw [c4] at hlen
  rw [c2] at hel
  have h0 := hel 0 (by decide)
  have h1 := hel 1 (by decide)
  have r0 := World.var?_cell hg0 hv0 0
  have r1 := World.var?_cell hg0 hv0 1
  have r2 := World.var?_cell hg0 hv0 2
  have r3 := World.var?_cell hg0 hv0 3
  match xs, hn, hx, h0, h1 with
  | [(x0, p0), (x1, p1)], _, hx, h0, h1 =>
    simp only [Rows.laid_waywarden_prefix_rels, List.map_cons, List.map_nil, Prod.mk.injEq, DataW.agg.injEq, List.cons.injEq, and_true] at hx
    obtain ⟨⟨rfl, rfl⟩, _⟩ := hx
    have e0 := rel_row (show DataW.trod _ Tryz.prog W _ _ _ m _ _ = some (_, p0) from h0)
    have e1 := rel_row (show DataW.trod _ Tryz.prog W _ _ _ m _ _ = some (_, p1) from h1)
    obtain ⟨l⟩ := cs0
    obtain ⟨a, b, c, d, rfl⟩ := len4 hlen
    simp at e0 e1 r0 r1 r2 r3
    obtain ⟨rfl, rfl⟩ := e0
    obtain ⟨rfl, rfl⟩ := e1
    exact ⟨r0, r1, r2, r3⟩
theorem door_met (os : Os) (args : Array Value) : laidMetH Tryz.prog relsLaid ((World.doorLaid Tryz.prog 400 os).forCall (fun _ _ => 0) ⟨#[], args, []⟩).memory :=
  laidMetH_of_parts3 (fuel := 8) (laidMet_of_run' 8 (by kernel_rfl) (by kernel_rfl)) (by kernel_rfl) (by kernel_rfl)
end Go.Proofs.YtfaiponmjjbgoaaGreatDoor

namespace Go.Proofs.YtfaiponmjjbgoaaGreatDoor
open Go Go.ChangeShapes Go.WideShapes Go.ChangeAt Go.RowKit Go.Joins Go.Deep

set_option maxRecDepth 100000 in
set_option maxHeartbeats 2000000 in
theorem copies_law (A : Option Addr) (c : Nat) (rs : List Rt) (ra rb : Rt) (tt : Nat) (w : World) (hG : RelsAt w) (hR : Rd w 9 Rt.enc A rs) (hfit : ∀ r ∈ rs, r.fits) (hra : ra.fits) (hrb : rb.fits) :
    Calls Tryz.prog 5 #[.slice A rs.length c, .agg (rtA ra), .agg (rtA rb), .int .u32 tt] w fun e w' => e = .returned (.bool true) ∧ Kp w w' := by
  by_cases hn : rs.length ≤ 20
  · exact copies_walk A c rs ra rb tt w hG hR hn hfit hra hrb
  · have hd : decide ((20 : Int) < rs.length) = true := by simp; omega
    have hd' : decide (20 < rs.length) = true := by simp; omega
    have kW : Kp w ((w.alloc (.cells (rtA ra) 29)).alloc (.cells (rtA rb) 29)) := ((Kp.refl _).alloc _).alloc _
    have HG := Lib.hid (hG.keep kW)
    clear hG hR hfit hra hrb hn
    unfold rtA at kW HG ⊢
    go_enter Tryz.func5, Tryz.ntmps5
    go_wp2_with fail
    refine (works_any _ HG.out).mono ?_
    rintro e w' ⟨rfl, hK⟩
    go_wp2_with fail
    go_ret
    exact ⟨rfl, kW.trans hK⟩

set_option maxRecDepth 100000 in
theorem fibCopies_lifted (os : Os) (started : os.Started) (H : Type) (enc : TypeId × Value → H) :
    ReturnsInHanded {} Tryz.checked os 5 .any (fun w args => (Rows.fibCopiesSpec.pre enc Tryz.prog Tryz.f5 [] false w args ∧ laidMetH Tryz.prog relsLaid w) ∧ sizedMet enc Tryz.prog Tryz.f5 (OpenSpec.ofChange Rows.fibCopiesSpec) false w args)
      (Rows.fibCopiesSpec.post enc Tryz.prog Tryz.f5 false true false false) := by
  refine returnsInHanded_of_change_and (C := Tryz.checked) (X := fun w _ => laidMetH Tryz.prog relsLaid w) (fun _ _ _ hh h => h.of_heap hh) Tryz.own started (by kernel_rfl) Tryz.func5
    (ChangeSpec.witness_shaped (enc := enc) (C := Tryz.checked) (os := os) (X := fun w _ => laidMetH Tryz.prog relsLaid w) false (World.doorLaid Tryz.prog 400 os) #[.slice none 0 0, .agg (rtA ⟨⟨0, 0⟩, 0, 0, 0, 0, 0, 0, false⟩), .agg (rtA ⟨⟨0, 0⟩, 0, 0, 0, 0, 0, 0, false⟩), .int .u32 0] 8 rfl (World.shaped_of_RefB (by kernel_rfl) (by kernel_rfl)) (by kernel_rfl) (by kernel_rfl) (by kernel_rfl) (door_met os _)) ?_
  intro W base args ds gs before hval0 hW _ _ hL _
  have hval : ∀ (j : Nat) t v, Tryz.f5.params[j]? = some t → args[j]? = some v → Value.okWide Tryz.prog W .any base t v := hval0
  have hW' := hW
  obtain ⟨p, q, hA0, hV, rfl, hfz, hnd⟩ := hW
  have hA : DataW.TrodAll enc Tryz.prog W 0 (fun _ => true) true Tryz.f5.params.toList args.toList ds p := hA0
  rw [Tryz.params5] at hA hval
  obtain ⟨v0, v1, v2, v3, d0, d1, d2, d3, p0, p1, p2, p3, rfl, rfl, rfl, h0, h1, h2, h3⟩ := trodAll_four hA
  obtain ⟨rfl, rfl⟩ := trodVars_none hV
  obtain ⟨A, c, rs, rfl, hrd, hfit⟩ := open_routes (hval 0 _ v0 rfl rfl) h0
  obtain ⟨ra, rfl, hra⟩ := open_route (hval 1 _ v1 rfl rfl) h1
  obtain ⟨rb, rfl, hrb⟩ := open_route (hval 2 _ v2 rfl rfl) h2
  obtain ⟨a3, rfl, rfl, rfl, wf3⟩ := open_int Tryz.underlying24 (hval 3 _ v3 rfl rfl) h3
  obtain ⟨tt, rfl, _⟩ := nat_of_u32 wf3
  clear hA0 hval0
  refine (copies_law A c rs ra rb tt W (rels_of_laid hL) hrd hfit hra hrb).mono fun e W' ⟨he, hK⟩ => ?_
  subst he
  refine ⟨_, rfl, law_post hW' rfl rfl rfl rfl rfl ?_ hK⟩
  intro t ht
  rw [Tryz.params5] at ht
  simp only [List.mem_cons, List.not_mem_nil, or_false] at ht
  rcases ht with rfl | rfl | rfl | rfl <;> exact ⟨by kernel_rfl, of_decide_eq_true (by kernel_rfl)⟩

theorem fibCopies_holds : Rows.FibCopiesSaid :=
  OpenClaim.holds_of_wide 5 Tryz.f5 rfl rfl rfl rfl rfl rfl rfl ⟨rfl, rfl, rfl, rfl, rfl⟩ rfl rfl rfl rfl rfl (by kernel_rfl) Tryz.func5 (by kernel_rfl)
    (of_decide_eq_true (by kernel_rfl)) (by unfold Func.isWrapper; first | (rw [if_pos (by decide +kernel)]; kernel_rfl) | (rw [if_neg (by decide +kernel)]; exact ⟨rfl, rfl⟩))
    (fun os started H enc _ => fibCopies_lifted os started H enc)

theorem fibCopies_card_holds : Rows.FibCopiesCardSaid :=
  Claim7.holds_tied_plain_at .later [] [.data] true (true, "89544b4481af1fe2b1dcb90f9884f3ae7a5bb5c016065a8cb0c8ddfef58b9e85") true
    fibCopies_holds (fun _ h => by cases h) (by kernel_rfl) (fun _ h => by cases h) fibCopies_row_tie rfl ⟨rfl, rfl⟩ (by kernel_rfl) rfl
    (fun f fn hf hfn => by
      obtain rfl : f = 5 := Option.some.inj ((show Tryz.prog.funcNamed "waywarden/waywardenlaw13.FibCopies" = some 5 by kernel_rfl).symm.trans hf) |>.symm
      obtain rfl : fn = Tryz.f5 := (Option.some.inj (Tryz.func5.symm.trans hfn)).symm
      exact ⟨by kernel_rfl, fun j t ht => by
        rw [Tryz.params5] at ht
        have hm : t ∈ [22, 29, 29, 24] := by simpa using Array.mem_of_getElem? ht
        have hall : ([22, 29, 29, 24].all fun u => !Tryz.prog.wantsStandIn u) = true := by kernel_rfl
        exact (show Tryz.prog.wantsStandIn t = false by simpa using List.all_eq_true.1 hall t hm)⟩)
    (by kernel_rfl)
end Go.Proofs.YtfaiponmjjbgoaaGreatDoor
