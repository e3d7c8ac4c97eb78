/- Lemmas and contracts for the theorem of this claim: Px2, VPfA, VPfB, Range, Round, VGen, VKdA. -/
import Derived.Test.YtffckpkikdlbpaaGreatDoorZtAb
import Derived.Test.YtffckpkikdlbpaaGreatDoorRows
import Derived.Deep.RegionHeld3
import Derived.RangeFuncOwn
import Derived.RangeFuncLeaves
import Derived.Sort.QuietTacIn
import Derived.LoopN
import Derived.RangeFuncCalls
import Derived.BigFrameIn
import Derived.BigGuardIn
import Derived.TacticsIn
import Derived.TacticsInMore
import Derived.Deep.Cut
import Derived.OwnWalkIn
import Derived.Deep.LoopGhost
import Derived.Deep.DeepCutAuto
import Derived.RegionTactic
set_option linter.unusedSimpArgs false
set_option linter.unusedVariables false
namespace Go.Proofs.YtffckpkikdlbpaaGreatDoor
theorem cut_up (a : Nat) {n m : Nat} (h : n ≤ m) (hm : m ≤ 32) : cut a n ≤ cut a m := by
  rw [← cut_cut a h hm]; exact cut_le _ _
theorem bits_zero {a n : Nat} (hn : n ≤ 32) : (∀ i, n ≤ i → i < 32 → bitN a i = 0) ↔ cut a n = a := by
  constructor
  · intro h
    have key : ∀ k, k ≤ 32 - n → cut a (n + k) = cut a n := by
      intro k
      induction k with
      | zero => intro _; rfl
      | succ k ih =>
        intro hk
        rw [show n + (k + 1) = (n + k) + 1 by omega, cut_succ a (by omega), h (n + k) (by omega) (by omega), ih (by omega)]
        omega
    have := key (32 - n) (Nat.le_refl _)
    rw [show n + (32 - n) = 32 by omega, cut_32] at this
    exact this.symm
  · intro h i hi h32
    have h1 := cut_up a hi (by omega)
    have h2 := cut_le a (i + 1)
    rw [cut_succ a h32] at h2
    have h3 := bit_lt a i
    rw [h] at h1
    have h4 : 0 < 2 ^ (31 - i) := Nat.two_pow_pos _
    rcases Nat.eq_zero_or_pos (bitN a i) with h5 | h5
    · exact h5
    · have : 2 ^ (31 - i) ≤ bitN a i * 2 ^ (31 - i) := Nat.le_mul_of_pos_left _ h5
      omega
def maskN (n : Nat) : Nat := 4294967296 - 2 ^ (32 - n)
theorem pow_le32 (n : Nat) : 2 ^ (32 - n) ≤ 4294967296 := by
  have := Nat.pow_le_pow_right (show 0 < 2 by omega) (show 32 - n ≤ 32 by omega)
  simpa using this
theorem andnot_mask {a n : Nat} (ha : a < 4294967296) (hn : n ≤ 32) : a &&& (4294967295 - maskN n) = a - cut a n := by
  have hm : 4294967295 - maskN n = 2 ^ (32 - n) - 1 := by have := pow_le32 n; have := Nat.two_pow_pos (32 - n); unfold maskN; omega
  rw [hm, Nat.and_two_pow_sub_one_eq_mod]
  unfold cut
  have := Nat.div_add_mod a (2 ^ (32 - n))
  rw [Nat.mul_comm] at this
  omega
end Go.Proofs.YtffckpkikdlbpaaGreatDoor

namespace Go.Proofs.YtffckpkikdlbpaaGreatDoor
open Go.RowKit
theorem mask_eq {n : Nat} (h : n ≤ 32) : (4294967295 : Int) * 2 ^ (32 - n) % 4294967296 = (maskN n : Int) := by
  have h1 := pow_le32 n
  have h2 : 0 < 2 ^ (32 - n) := Nat.two_pow_pos _
  unfold maskN
  generalize hs : 2 ^ (32 - n) = s at *
  have hc : ((2 : Int) ^ (32 - n)) = (s : Int) := by rw [← hs]; simp
  rw [hc]
  omega
theorem andnot_u32 (a b : Nat) (ha : a < 4294967296) (hb : b < 4294967296) : bits .andNot .u32 (a : Int) (b : Int) = ((a &&& (4294967295 - b) : Nat) : Int) := by
  have hx : a &&& (4294967295 - b) < 2 ^ 32 := Nat.and_lt_two_pow _ (by omega)
  have h1 : (BitVec.ofInt 32 (a : Int)).toNat = a := by
    rw [BitVec.ofInt_natCast, BitVec.toNat_ofNat]; exact Nat.mod_eq_of_lt (by omega)
  have h2 : (BitVec.ofInt 32 (b : Int)).toNat = b := by
    rw [BitVec.ofInt_natCast, BitVec.toNat_ofNat]; exact Nat.mod_eq_of_lt (by omega)
  show IntKind.u32.wrap ((BitVec.ofInt 32 (a : Int) &&& ~~~ BitVec.ofInt 32 (b : Int)).toNat : Int) = _
  rw [BitVec.toNat_and, BitVec.toNat_not, h1, h2]
  show ((a &&& (2 ^ 32 - 1 - b) : Nat) : Int) % 4294967296 = _
  rw [show (2 ^ 32 - 1 - b) = 4294967295 - b by omega]
  omega
theorem maskN_lt (n : Nat) : maskN n < 4294967296 := by have := Nat.two_pow_pos (32 - n); unfold maskN; omega
set_option maxHeartbeats 400000 in
theorem mask_any (n : Nat) (w : World) (h1 : n ≤ 32) :
    Calls Tryz.prog 192 #[.int .i64 n] w fun e w' => e = .returned (.int .u32 (maskN n)) ∧ w = w' := by
  have H := Lib.hid (mask_eq h1)
  go_enter Tryz.func192, Tryz.ntmps192
  go_wp2
  go_ret
  exact ⟨by rw [← H.out]; rfl, rfl⟩
end Go.Proofs.YtffckpkikdlbpaaGreatDoor

namespace Go.Proofs.YtffckpkikdlbpaaGreatDoor
open Go.RowKit
structure PI where
  a : Nat
  l : Int
def PI.enc (p : PI) : List Value := [.int .u32 p.a, .int .i64 p.l]
def PI.okB (p : PI) : Bool := decide (0 ≤ p.l ∧ p.l ≤ 32 ∧ cut p.a p.l.toNat = p.a)
theorem PI.len (p : PI) : p.enc.length = 2 := rfl
def PI.pn (p : PI) : Pn := ⟨p.a, p.l.toNat⟩
theorem pn_ok {p : PI} (h : p.okB = true) (ha : p.a < 4294967296) : p.pn.ok ∧ p.l = (p.pn.l : Int) := by
  have := of_decide_eq_true h
  exact ⟨⟨ha, by simp [PI.pn]; omega, this.2.2⟩, by simp [PI.pn]; omega⟩
theorem pi_at {w : World} {A : Option Addr} {ps : List PI} (h : Rd w 2 PI.enc A ps) {k : Nat} (hk : k < ps.length) :
    ∃ b off : Nat, A = some ⟨b, off, none⟩ ∧ w.cell? ⟨b, off + k * 2, none⟩ = some (.int .u32 ps[k].a) ∧ w.cell? ⟨b, off + k * 2 + 1, none⟩ = some (.int .i64 ps[k].l) := by
  obtain ⟨b, off, e, hc⟩ := h k hk
  exact ⟨b, off, e, hc 0 _ rfl, hc 1 _ rfl⟩
theorem notmask_zero {a n : Nat} (ha : a < 4294967296) (hn : n ≤ 32) : (bits .andNot .u32 (a : Int) (maskN n : Int) != 0) = !decide (cut a n = a) := by
  rw [andnot_u32 a _ ha (maskN_lt n), andnot_mask ha hn]
  have := cut_le a n
  by_cases h : cut a n = a
  · simp [h]
  · simp [h]; omega
set_option maxRecDepth 100000 in
set_option maxHeartbeats 1000000 in
theorem mayBe_any (A : Option Addr) (c : Nat) (ps : List PI) (w : World) (hR : Rd w 2 PI.enc A ps) (hn : ps.length ≤ 1000000) (ha : ∀ k (hk : k < ps.length), ps[k].a < 4294967296) :
    Calls Tryz.prog 191 #[.slice A ps.length c] w fun e w' => e = .returned (.bool (ps.all PI.okB)) ∧ Kp w w' := by
  have Ha := Lib.hid ha; clear ha
  go_enter Tryz.func191, Tryz.ntmps191
  go_wp2_with fail
  go_loopw [7] (fun i wr => ∃ k : Nat, k ≤ ps.length ∧ i = .int .i64 k ∧ Hid (∀ j (hj : j < ps.length), j < k → ps[j].okB = true) ∧ Kp w wr) (fun i _ => ps.length - (intOf i).toNat)
  case atStart => exact ⟨0, Nat.zero_le _, rfl, fun _ _ h => absurd h (by omega), Kp.refl _⟩
  case round =>
    obtain ⟨k, hk, rfl, hall, hK⟩ := hrel
    by_cases hlt : k < ps.length
    · obtain ⟨b, off, rfl, c0, c1⟩ := pi_at (hR.keep hK) hlt
      have hak := Ha.out k hlt
      have hno : ps[k].okB = false → ps.all PI.okB = false := fun h => by rw [List.all_eq_false]; exact ⟨ps[k], List.getElem_mem hlt, by simp [h]⟩
      have Hno := Lib.hid hno; clear hno
      obtain ⟨W, hW, kW, B0⟩ : ∃ W, wr.alloc (.cells #[.int .u32 ps[k].a, .int .i64 ps[k].l] 29) = W ∧ Kp w W ∧ Blk W wr.heap.size 29 #[.int .u32 ps[k].a, .int .i64 ps[k].l] := ⟨_, rfl, hK.alloc _, Blk.new wr _ _⟩
      have p0 : W.cell? ⟨wr.heap.size, 0, none⟩ = some (.int .u32 ps[k].a) := B0.cell 0
      have p1 : W.cell? ⟨wr.heap.size, 1, none⟩ = some (.int .i64 ps[k].l) := B0.cell 1
      by_cases h0 : ps[k].l < 0
      · have H := Lib.hid (Hno.out (by simp [PI.okB]; omega))
        have d0 : decide (ps[k].l < 0) = true := by simpa using h0
        clear h0
        go_wp2_with fail
        go_quiet (fail)
        go_wp2_with fail
        go_ret
        exact ⟨by rw [H.out]; rfl, kW.drewN _⟩
      · have d0 : decide (ps[k].l < 0) = false := by simpa using h0
        by_cases h1 : 32 < ps[k].l
        · have H := Lib.hid (Hno.out (by simp [PI.okB]; omega))
          have d1 : decide (32 < ps[k].l) = true := by simpa using h1
          clear h0 h1
          go_wp2_with fail
          go_quiet (fail)
          go_wp2_with fail
          go_ret
          exact ⟨by rw [H.out]; rfl, kW.drewN _⟩
        · have d1 : decide (32 < ps[k].l) = false := by simpa using h1
          obtain ⟨n, hnl⟩ := Int.eq_ofNat_of_zero_le (show 0 ≤ ps[k].l by omega)
          have hn32 : n ≤ 32 := by omega
          have hz := notmask_zero hak hn32
          have Hl := Lib.hid hnl
          rw [hnl] at c1 p1 d0 d1 hW
          clear h0 h1 hnl
          by_cases hc : cut ps[k].a n = ps[k].a
          · have hok := Lib.hid (show ps[k].okB = true by simp only [PI.okB, Hl.out, Int.toNat_natCast, decide_eq_true_eq]; exact ⟨by omega, by omega, hc⟩)
            rw [show (!decide (cut ps[k].a n = ps[k].a)) = false by simp [hc]] at hz
            clear hc
            go_wp2_with fail
            go_region_held3 (fun w' => w'.cell? ⟨wr.heap.size, 0, none⟩ = some (.int .u32 ps[k].a) ∧ w'.cell? ⟨wr.heap.size, 1, none⟩ = some (.int .i64 n)) (go_keep)
              (first | (go_at_call 192; refine (mask_any _ _ hn32).mono ?_; rintro e w' ⟨rfl, rfl⟩))
            go_wp2_with fail
            go_roundw
            case rel =>
              refine ⟨k + 1, by omega, by go_num, fun j hj hjk => ?_, kW.drew⟩
              by_cases hj' : j < k
              · exact hall.out j hj hj'
              · obtain rfl : j = k := by omega
                exact hok.out
            case measure => simp [intOf]; omega
          · have H := Lib.hid (Hno.out (by simp only [PI.okB, Hl.out, Int.toNat_natCast, decide_eq_false_iff_not]; rintro ⟨_, _, h⟩; exact hc h))
            rw [show (!decide (cut ps[k].a n = ps[k].a)) = true by simp [hc]] at hz
            clear hc
            go_wp2_with fail
            go_region_held3 (fun w' => w'.cell? ⟨wr.heap.size, 0, none⟩ = some (.int .u32 ps[k].a) ∧ w'.cell? ⟨wr.heap.size, 1, none⟩ = some (.int .i64 n)) (go_keep)
              (first | (go_at_call 192; refine (mask_any _ _ hn32).mono ?_; rintro e w' ⟨rfl, rfl⟩))
            go_wp2_with fail
            go_ret
            exact ⟨by rw [H.out]; rfl, kW.drew⟩
    · obtain rfl : k = ps.length := by omega
      have H := Lib.hid (show ps.all PI.okB = true by
        rw [List.all_eq_true]; intro x hx
        obtain ⟨j, hj, rfl⟩ := List.getElem_of_mem hx
        exact hall.out j hj hj)
      clear hall
      go_wp2_with fail
      go_ret
      exact ⟨by rw [H.out]; rfl, hK⟩
def checkP (p : PI) : Int := if p.okB then 0 else 2
set_option maxRecDepth 100000 in
set_option maxHeartbeats 1000000 in
theorem check_any (p : PI) (w : World) (ha : p.a < 4294967296) :
    Calls Tryz.prog 167 #[.agg #[.int .u32 p.a, .int .i64 p.l]] w fun e w' => e = .returned (.int .i64 (checkP p)) ∧ Kp w w' := by
  have hrd : Rd ((w.alloc (.cells #[.int .u32 p.a, .int .i64 p.l] 29)).alloc (.cells #[.int .u32 p.a, .int .i64 p.l] 29)) 2 PI.enc (some ⟨w.heap.size + 1, 0, none⟩) [p] := Rd.of_blk (Blk.new1 w _ _ _) (by omega) PI.len (by unfold maxLen; simp) rfl
  have Hrd := Lib.hid hrd; clear hrd
  go_enter Tryz.func167, Tryz.ntmps167
  go_wp2_with fail
  refine wp_scope_fwd 0 rfl ?_
  go_wp2_with fail
  refine (mayBe_any _ 1 [p] _ Hrd.out (by simp) (fun k hk => by simp at hk; subst hk; exact ha)).mono ?_
  rintro e w1 ⟨rfl, hK1⟩
  have hk1 : Kp w w1 := (((Kp.refl _).alloc _).alloc _).trans hK1
  rw [show [p].all PI.okB = p.okB by simp]
  cases hok : p.okB with
  | true =>
    have H := Lib.hid (show checkP p = 0 by simp [checkP, hok]); clear hok
    go_wp2_with fail
    refine jump_ret ?_
    go_ret
    exact ⟨by rw [H.out]; rfl, hk1⟩
  | false =>
    have H := Lib.hid (show checkP p = 2 by simp [checkP, hok]); clear hok
    go_wp2_with fail
    go_step3
    refine ⟨rfl, ?_⟩
    go_wp2_with fail
    refine noGoto_ret ?_
    go_ret
    exact ⟨by rw [H.out]; rfl, hk1⟩
end Go.Proofs.YtffckpkikdlbpaaGreatDoor

namespace Go.Proofs.YtffckpkikdlbpaaGreatDoor
open Go.RowKit
def Iter (P : Program) (gf : FuncId) (caps : Array Value) (N : Nat) (xs : Nat → Array Value) (M : World → Prop) : Prop :=
  ∀ (l : Nat) (I Z : Nat → World → Prop) (W : World),
    (∀ k W W', I k W → Kp W W' → I k W') → (∀ k W W', Z k W → Kp W W' → Z k W') → (∀ k W, I k W → M W) →
    (∀ k W, k < N → I k W → ∃ fn tmps assign body, (Instr.yield l (xs k)).run P W = .ok (.round l fn tmps assign body) W ∧
      RoundIn Fence.wide 0 P l fn tmps assign body W (fun e W' => (e = .returned (.bool true) ∧ I (k + 1) W') ∨ (e = .returned (.bool false) ∧ Z (k + 1) W'))) →
    I 0 W → Calls P gf (#[.func (.yield l) #[] #[]] ++ caps) W (fun e W' => e = .returned (.tuple #[]) ∧ (I N W' ∨ ∃ k, 0 < k ∧ k ≤ N ∧ Z k W'))
def Kept2 (w W W' : World) : Prop := W'.heap[w.heap.size]? = W.heap[w.heap.size]? ∧ W'.heap[w.heap.size + 1]? = W.heap[w.heap.size + 1]?
def rndPost (w : World) (I : Nat → World → Prop) (Ix : Code → Nat → World → Prop) (k : Nat) (W : World) : Exit → Act → World → Prop
  | .normal, _, W' => Kept2 w W W' ∧ I k W'
  | .ret, _, W' => Kept2 w W W' ∧ Ix .ret k W'
  | .exit id, _, W' => Kept2 w W W' ∧ Ix (.exit id) k W'
  | .goto t, _, W' => Kept2 w W W' ∧ Ix (.goto t) k W'
  | .panic _, _, _ => False
  | .outgrown, _, _ => False
theorem Only.putObj {bs : List Nat} {a w : World} (h : Only bs a w) {r : Nat} (hr : r ∈ bs) (o : Obj) : Only bs a (w.putObj r o) :=
  ⟨h.os, h.tape, h.output, by simpa using h.size, fun k hk hn => (World.putObj_heap_other (fun e => hn (by rw [e]; exact hr))).trans (h.block k hk hn)⟩
def Takes : List Deferred → World → (World → Prop) → Prop
  | [], w, K => K w
  | d :: ds, w, K => ∃ r, d.target = .collected r ∧ w.heap[r]? = some (.deferred (some [])) ∧ Takes ds (w.putObj r (.deferred none)) K
theorem takes_steps {P : Program} {K : World → Prop} : ∀ (ds : List Deferred) (fr : Frame) (cs : List Frame) (w : World), fr.mode = .returning → fr.defers = ds → Takes ds w K →
    ∃ w', K w' ∧ Steps P (lone fr cs w) (lone { fr with defers := [] } cs w')
  | [], fr, cs, w, _, hd, h => ⟨w, h, by
      have : ({ fr with defers := [] } : Frame) = fr := by cases fr; simp_all
      rw [this]; exact Steps.refl P _⟩
  | d :: ds, fr, cs, w, hm, hd, ⟨r, ht, hr, h⟩ => by
    obtain ⟨w', hK, hs⟩ := takes_steps ds { fr with defers := [] ++ ds } cs _ hm rfl h
    exact ⟨w', hK, Steps.head (step_collected (by rw [hm]; simp) hd ht (run_takeDeferred hr)) hs⟩
def bodyPostM (P : Program) (fn : Func) (R : Ending → World → Prop) : Exit → Act → World → Prop
  | .normal, a, w | .ret, a, w => Takes a.defers w (fun w' => ∃ v, (results fn a.tmps).run P w' = .ok v w' ∧ R (.returned v) w')
  | .outgrown, _, w => R .outgrown w
  | _, _, _ => False
theorem calls_of_wp_marks {P : Program} {f : FuncId} {fn : Func} {c : Code} {args : Array Value} {w : World} {R : Ending → World → Prop}
    (hf : P.funcs[f]? = some fn) (hb : fn.body = some c)
    (h : c.wp P (bodyPostM P fn R) { tmps := args ++ Array.replicate (fn.ntmps - args.size) undef, defers := [] } w) : Calls P f args w R := by
  intro cs
  let b : Frame := { (default : Frame) with fn := f, kind := .normal }
  have henter : Frame.enter P f args .normal = b.at { tmps := args ++ Array.replicate (fn.ntmps - args.size) undef, defers := [] } [.code c] := by
    simp [Frame.enter, Frame.at, hf, hb, b]
  obtain ⟨e, a', w', hq, harr⟩ := h b [] cs
  rw [← henter] at harr
  cases e with
  | normal =>
    obtain ⟨w2, ⟨v, hr, hR⟩, hs⟩ := takes_steps (P := P) a'.defers { b.at a' [] with mode := .returning } cs w' rfl rfl hq
    exact ⟨.returned v, w2, _, hR, Steps.trans harr (.head step_end hs), rfl, rfl, rfl, rfl, fn, hf, hr⟩
  | ret =>
    obtain ⟨todo, hs0⟩ := harr
    obtain ⟨w2, ⟨v, hr, hR⟩, hs⟩ := takes_steps (P := P) a'.defers { b.at a' todo with mode := .returning } cs w' rfl rfl hq
    exact ⟨.returned v, w2, _, hR, Steps.trans hs0 hs, rfl, rfl, rfl, rfl, fn, hf, hr⟩
  | panic chain => exact hq.elim
  | exit id => exact hq.elim
  | goto l => exact hq.elim
  | outgrown => exact ⟨.outgrown, w', b, hq, harr.resolve_left (by simp [b]), rfl, trivial⟩
end Go.Proofs.YtffckpkikdlbpaaGreatDoor

namespace Go.Proofs.YtffckpkikdlbpaaGreatDoor
open Go.RowKit
def noDefer (ops : Array Oper) : Bool := ops.toList.all (fun o => match o.op with | .defer _ => false | _ => true)
theorem noDefer_spec {ops : Array Oper} (h : noDefer ops = true) {i : Nat} {o : Oper} (hi : ops[i]? = some o) : ∀ c, o.op ≠ .defer c := by
  intro c hc
  have hm : o ∈ ops.toList := by
    rw [Array.mem_toList_iff]
    exact Array.mem_of_getElem? hi
  have := List.all_eq_true.1 h o hm
  rw [hc] at this
  cases this
theorem wpOpIn_of_wpOp {l : Nat} {P : Program} {ops : Array Oper} {Q : Exit → Act → World → Prop} (hQ : ¬ LetsOut Q) (hnd : noDefer ops = true) {i : Nat} {K : Act → World → Prop} {a : Act} {w : World}
    (h : wpOp P ops Q i K a w) : wpOpIn (Fence.wide.inRound l) 0 P ops Q i K a w := by
  unfold wpOp at h
  unfold wpOpIn
  cases ho : ops[i]? with
  | none => rw [ho] at h; exact h
  | some o =>
    rw [ho] at h
    simp only at h ⊢
    split
    · rename_i hw
      rw [if_pos hw] at h
      rcases h with h | h
      · refine ⟨fun _ _ => trivial, ?_⟩
        rw [Oper.semAt_eq _ _ _ (noDefer_spec hnd ho)]
        unfold Oper.wp at h
        generalize (execOp a.eval o).run P w = r at h
        unfold Oper.upon at h
        unfold Oper.uponIn
        split at h
        · exact h
        · exact h
        · exact h
        · exact ⟨(fun h => by cases h), CallsIn.inRound l (callsIn_wide.2 (h.mono fun e w'' hh => by cases e <;> exact hh))⟩
        · exact ⟨(fun h => by cases h), fun c cs _ => let ⟨v, w', r, s⟩ := h c cs; ⟨v, w', r, stepsIn_wide.2 s⟩⟩
        · exact h
        · exact h.elim
      · exact absurd h.2 hQ
    · rename_i hw
      rw [if_neg hw] at h
      exact ⟨fun _ _ => trivial, h⟩
theorem wpAnyIn_of_wpAny {l : Nat} {P : Program} {ops : Array Oper} {Q : Exit → Act → World → Prop} (hQ : ¬ LetsOut Q) (hnd : noDefer ops = true) {md : Region.Mode} : ∀ (fuel : Nat) (listed : Array Bool) (a : Act) (w : World),
    wpAny P md ops Q fuel listed a w → wpAnyIn (Fence.wide.inRound l) 0 P md ops Q fuel listed a w
  | 0, _, _, _, h => h
  | fuel + 1, listed, a, w, h => ⟨h.1, fun i hi => wpOpIn_mono (fun a w hh => wpAnyIn_of_wpAny hQ hnd fuel _ a w hh) (wpOpIn_of_wpOp hQ hnd (h.2 i hi))⟩
theorem no_out {Q : Exit → Act → World → Prop} {K : Act → World → Prop} (h : ¬ LetsOut Q) : ¬ LetsOut (Exit.then K Q) := fun ⟨a, w, hh⟩ => h ⟨a, w, hh⟩
theorem no_out_block {Q : Exit → Act → World → Prop} {id : Nat} (h : ¬ LetsOut Q) : ¬ LetsOut (Exit.inBlock id Q) := fun ⟨a, w, hh⟩ => h ⟨a, w, hh⟩
theorem no_out_round {w : World} {I : Nat → World → Prop} {Ix : Code → Nat → World → Prop} {k : Nat} {W : World} : ¬ LetsOut (rndPost w I Ix k W) := fun ⟨_, _, hh⟩ => hh
end Go.Proofs.YtffckpkikdlbpaaGreatDoor

namespace Go.Proofs.YtffckpkikdlbpaaGreatDoor
theorem makeFunc_runV (fn : Fn) (first cap : Array Value) (w : World) : (Instr.makeFunc fn first cap).run Tryz.prog w = .ok (.func fn first cap) w := rfl
end Go.Proofs.YtffckpkikdlbpaaGreatDoor

namespace Go.Proofs.YtffckpkikdlbpaaGreatDoor
open Go.RowKit
def kindAB : Nat → Nat → Bool
  | 0, a => decide (a = 0)
  | 1, a => decide (a / 16777216 = 0)
  | 2, a => decide (a / 16777216 = 127)
  | 3, a => decide (224 ≤ a / 16777216) && decide (a / 16777216 ≤ 239)
  | 4, a => decide (240 ≤ a / 16777216)
  | _, _ => true
def kindAd (a : Nat) : Nat := if a = 0 then 1 else if a / 16777216 = 0 then 2 else if a / 16777216 = 127 then 3 else if 224 ≤ a / 16777216 ∧ a / 16777216 ≤ 239 then 4 else if 240 ≤ a / 16777216 then 5 else 6
theorem kind_at {a k : Nat} (hk : k < 6) (h : ∀ j, j < k → kindAB j a = false) (h1 : kindAB k a = true) : kindAd a = k + 1 := by
  have hk2 : k = 0 ∨ k = 1 ∨ k = 2 ∨ k = 3 ∨ k = 4 ∨ k = 5 := by omega
  unfold kindAd
  rcases hk2 with rfl | rfl | rfl | rfl | rfl | rfl
  · simp [kindAB] at h1; simp [h1]
  all_goals
    have g0 := h 0 (by omega)
    simp only [kindAB, decide_eq_false_iff_not] at g0
    rw [if_neg g0]
  · simp [kindAB] at h1; rw [if_pos (by omega)]
  all_goals
    have g1 := h 1 (by omega)
    simp only [kindAB, decide_eq_false_iff_not] at g1
    rw [if_neg g1]
  · simp [kindAB] at h1; rw [if_pos h1]
  all_goals
    have g2 := h 2 (by omega)
    simp only [kindAB, decide_eq_false_iff_not] at g2
    rw [if_neg g2]
  · simp [kindAB] at h1; rw [if_pos h1]
  all_goals
    have g3 := h 3 (by omega)
    simp [kindAB] at g3
    rw [if_neg (by omega)]
  · simp [kindAB] at h1; rw [if_pos h1]
  · have g4 := h 4 (by omega)
    simp [kindAB] at g4
    rw [if_neg (by omega)]
theorem idx4 (x y z u : Value) (w : World) : (Instr.index 269 (.agg #[x, y, z, u]) (.int .i64 0)).run Tryz.prog w = .ok x w := by kernel_rfl
def PartsPost (m : Nat) (w : World) (e : Ending) (w' : World) : Prop := ∃ y z u : Int, e = .returned (.agg #[.int .u8 m, .int .u8 y, .int .u8 z, .int .u8 u]) ∧ Kp w w'
set_option maxRecDepth 100000 in
set_option maxHeartbeats 1000000 in
theorem parts_any (a m : Nat) (w : World) (ha : a < 4294967296) (hm : a / 16777216 = m) : Calls Tryz.prog 206 #[.int .u32 a] w (PartsPost m w) := by
  have Hm := Lib.hid hm; clear hm
  go_enter Tryz.func206, Tryz.ntmps206
  go_wp2_with fail
  all_goals first
    | omega
    | exact bodyPost_ret (v := .agg #[.int .u8 ((a : Int) / 16777216), .int .u8 ((a : Int) / 65536 % 256), .int .u8 ((a : Int) / 256 % 256), .int .u8 ((a : Int) % 256)]) (by simp [results, Tryz.results206, go_sem]) rfl ⟨_, _, _, by rw [← Hm.out]; rfl, (Kp.refl _).alloc _⟩
set_option maxRecDepth 100000 in
set_option maxHeartbeats 1000000 in
theorem first_any (a m : Nat) (w : World) (ha : a < 4294967296) (hm : a / 16777216 = m) :
    Calls Tryz.prog 205 #[.int .u32 a] w fun e w' => e = .returned (.int .u8 m) ∧ Kp w w' := by
  have h4 := idx4
  have Hm := Lib.hid hm; clear hm
  go_enter Tryz.func205, Tryz.ntmps205
  go_wp2_with fail
  refine (parts_any a m _ ha Hm.out).mono ?_
  rintro e w' ⟨y, z, u, rfl, hK⟩
  go_wp2_with fail
  go_ret
  exact ⟨rfl, hK⟩
theorem kr2_any (a : Nat) (w : World) : Calls Tryz.prog 207 #[.int .u32 a] w fun e w' => e = .returned (.bool (kindAB 0 a)) ∧ Kp w w' := by
  have H := Lib.hid (show kindAB 0 a = ((a : Int) == 0) by simp only [kindAB]; rw [Bool.eq_iff_iff]; simp)
  go_enter Tryz.func207, Tryz.ntmps207
  go_wp2_with fail
  go_ret
  exact ⟨by rw [H.out]; rfl, Kp.refl _⟩
theorem kr7_any (a : Nat) (w : World) : Calls Tryz.prog 212 #[.int .u32 a] w fun e w' => e = .returned (.bool (kindAB 5 a)) ∧ Kp w w' := by
  go_enter Tryz.func212, Tryz.ntmps212
  go_wp2_with fail
  go_ret
  exact ⟨rfl, Kp.refl _⟩
set_option maxRecDepth 100000 in
set_option maxHeartbeats 1000000 in
theorem kr3_any (a c : Nat) (w : World) (ha : a < 4294967296) (hc : Blk w c 271 #[.func (.func 205) #[] #[]]) : Calls Tryz.prog 208 #[.int .u32 a, .pointer (some ⟨c, 0, none⟩)] w fun e w' => e = .returned (.bool (kindAB 1 a)) ∧ Kp w w' := by
  have c0 : w.cell? ⟨c, 0, none⟩ = some (.func (.func 205) #[] #[]) := hc.cell 0
  obtain ⟨m, hm⟩ : ∃ m, a / 16777216 = m := ⟨_, rfl⟩
  have H := Lib.hid (show kindAB 1 a = ((m : Int) == 0) by simp only [kindAB, hm]; rw [Bool.eq_iff_iff]; simp <;> omega)
  have Hm := Lib.hid hm; clear hm
  go_enter Tryz.func208, Tryz.ntmps208
  go_wp2_with fail
  refine (first_any a m _ ha Hm.out).mono ?_
  rintro e w' ⟨rfl, hK⟩
  go_wp2_with fail
  go_ret
  exact ⟨by rw [H.out]; rfl, hK⟩
set_option maxRecDepth 100000 in
set_option maxHeartbeats 1000000 in
theorem kr4_any (a c : Nat) (w : World) (ha : a < 4294967296) (hc : Blk w c 271 #[.func (.func 205) #[] #[]]) : Calls Tryz.prog 209 #[.int .u32 a, .pointer (some ⟨c, 0, none⟩)] w fun e w' => e = .returned (.bool (kindAB 2 a)) ∧ Kp w w' := by
  have c0 : w.cell? ⟨c, 0, none⟩ = some (.func (.func 205) #[] #[]) := hc.cell 0
  obtain ⟨m, hm⟩ : ∃ m, a / 16777216 = m := ⟨_, rfl⟩
  have H := Lib.hid (show kindAB 2 a = ((m : Int) == 127) by simp only [kindAB, hm]; rw [Bool.eq_iff_iff]; simp <;> omega)
  have Hm := Lib.hid hm; clear hm
  go_enter Tryz.func209, Tryz.ntmps209
  go_wp2_with fail
  refine (first_any a m _ ha Hm.out).mono ?_
  rintro e w' ⟨rfl, hK⟩
  go_wp2_with fail
  go_ret
  exact ⟨by rw [H.out]; rfl, hK⟩
set_option maxRecDepth 100000 in
set_option maxHeartbeats 1000000 in
theorem kr6_any (a c : Nat) (w : World) (ha : a < 4294967296) (hc : Blk w c 271 #[.func (.func 205) #[] #[]]) : Calls Tryz.prog 211 #[.int .u32 a, .pointer (some ⟨c, 0, none⟩)] w fun e w' => e = .returned (.bool (kindAB 4 a)) ∧ Kp w w' := by
  have c0 : w.cell? ⟨c, 0, none⟩ = some (.func (.func 205) #[] #[]) := hc.cell 0
  obtain ⟨m, hm⟩ : ∃ m, a / 16777216 = m := ⟨_, rfl⟩
  have H := Lib.hid (show kindAB 4 a = decide ((240 : Int) ≤ (m : Int)) by simp only [kindAB, hm]; rw [Bool.eq_iff_iff]; simp <;> omega)
  have Hm := Lib.hid hm; clear hm
  go_enter Tryz.func211, Tryz.ntmps211
  go_wp2_with fail
  refine (first_any a m _ ha Hm.out).mono ?_
  rintro e w' ⟨rfl, hK⟩
  go_wp2_with fail
  go_ret
  exact ⟨by rw [H.out]; rfl, hK⟩
set_option maxRecDepth 100000 in
set_option maxHeartbeats 1000000 in
theorem kr5_any (a c : Nat) (w : World) (ha : a < 4294967296) (hc : Blk w c 271 #[.func (.func 205) #[] #[]]) : Calls Tryz.prog 210 #[.int .u32 a, .pointer (some ⟨c, 0, none⟩)] w fun e w' => e = .returned (.bool (kindAB 3 a)) ∧ Kp w w' := by
  have c0 : w.cell? ⟨c, 0, none⟩ = some (.func (.func 205) #[] #[]) := hc.cell 0
  have Hc := Lib.hid hc; clear hc
  obtain ⟨m, hm⟩ : ∃ m, a / 16777216 = m := ⟨_, rfl⟩
  have H := Lib.hid (show kindAB 3 a = (decide (224 ≤ m) && decide (m ≤ 239)) by simp only [kindAB, hm])
  have Hm := Lib.hid hm; clear hm
  by_cases h : 224 ≤ m
  · have hd : decide ((224 : Int) ≤ (m : Int)) = true := by simp; omega
    have hd2 : decide (224 ≤ m) = true := by simpa using h
    have hk := Lib.hid (show kindAB 3 a = decide ((m : Int) ≤ 239) by rw [H.out, hd2, Bool.true_and, Bool.eq_iff_iff]; simp; omega)
    have Hh := Lib.hid h; clear h
    go_enter Tryz.func210, Tryz.ntmps210
    go_wp2_with fail
    refine (first_any a m _ ha Hm.out).mono ?_
    rintro e w1 ⟨rfl, hK⟩
    have c1 : w1.cell? ⟨c, 0, none⟩ = some (.func (.func 205) #[] #[]) := hK.cell c0
    go_wp2_with fail
    refine (first_any a m _ ha Hm.out).mono ?_
    rintro e w2 ⟨rfl, hK2⟩
    go_wp2_with fail
    go_ret
    exact ⟨by rw [hk.out]; rfl, hK.trans hK2⟩
  · have hd : decide ((224 : Int) ≤ (m : Int)) = false := by simp; omega
    have hd2 : decide (224 ≤ m) = false := by simpa using h
    have hk := Lib.hid (show kindAB 3 a = false by rw [H.out, hd2, Bool.false_and])
    have Hh := Lib.hid h; clear h
    go_enter Tryz.func210, Tryz.ntmps210
    go_wp2_with fail
    refine (first_any a m _ ha Hm.out).mono ?_
    rintro e w1 ⟨rfl, hK⟩
    go_wp2_with fail
    go_ret
    exact ⟨by rw [hk.out]; rfl, hK⟩
def kindCells (c : Nat) : Array Value := #[.int .i64 1, .func (.func 207) #[] #[], .int .i64 2, .func (.func 208) #[] #[.pointer (some ⟨c, 0, none⟩)], .int .i64 3, .func (.func 209) #[] #[.pointer (some ⟨c, 0, none⟩)], .int .i64 4, .func (.func 210) #[] #[.pointer (some ⟨c, 0, none⟩)], .int .i64 5, .func (.func 211) #[] #[.pointer (some ⟨c, 0, none⟩)], .int .i64 6, .func (.func 212) #[] #[]]
set_option maxHeartbeats 1000000 in
theorem kindRules_any (w : World) : Calls Tryz.prog 196 #[] w fun e w' => e = .returned (.slice (some ⟨w.heap.size + 1, 0, none⟩) 6 6) ∧ Blk w' w.heap.size 271 #[.func (.func 205) #[] #[]] ∧ Blk w' (w.heap.size + 1) 263 (kindCells w.heap.size) ∧ Kp w w' := by
  have hmf := makeFunc_runV
  go_enter Tryz.func196, Tryz.ntmps196
  go_wp2_with fail
  go_ret
  exact ⟨rfl, (Blk.new w _ _).alloc _, Blk.new1 w _ _ _, ((Kp.refl _).alloc _).alloc _⟩
end Go.Proofs.YtffckpkikdlbpaaGreatDoor
