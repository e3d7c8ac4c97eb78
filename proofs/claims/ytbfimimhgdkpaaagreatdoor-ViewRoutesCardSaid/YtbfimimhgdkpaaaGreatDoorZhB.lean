/- Lemmas and contracts for the theorem of this claim: Range2, Yield, Reg, Round, VGen, VKdA, VKdB, VLen, VWhy, VRtA, VRtB, VGen2, VRtC, VRtD, VGen3. -/
import Derived.Test.YtbfimimhgdkpaaaGreatDoorZhA
import Derived.LoopN
import Derived.RangeFuncCalls
import Derived.Sort.QuietTacIn
import Derived.StillTailTactics
import Derived.Deep.DeepCutAuto
import Derived.Deep.RegionHeld3
import Derived.Deep.AppendLies
import Derived.BigFrameIn
import Derived.BigGuardIn
import Derived.TacticsIn
import Derived.TacticsInMore
import Derived.Deep.Cut
import Derived.OwnWalkIn
import Derived.Deep.LoopGhost
import Derived.RegionTactic
set_option linter.unusedSimpArgs false
set_option linter.unusedVariables false
/- A range over a function whose body may leave it: both ends meet. No condition. -/
namespace Go.Proofs.YtbfimimhgdkpaaaGreatDoor
open Go.RowKit

theorem wp_range_join {P : Program} {g : Operand} {ps : Array Tmp} {assign body : Code} {id : Nat} {Q : Exit → Act → World → Prop} {a : Act} {w : World} {gf : FuncId} {caps : Array Value} {N : Nat} {xs : Nat → Array Value} {M : World → Prop}
    (hg : a.eval g = .func (.func gf) #[] caps) (eg : ∀ args w, (callFunc gf args).run P w = .ok (.enter gf args) w) (hit : Iter P gf caps N xs M) (hps : ∀ k, k < N → (xs k).size = ps.size)
    (I Z : Nat → World → Prop) (S : World → Prop)
    (hI : ∀ k W W', I k W → Only [w.heap.size, w.heap.size + 1] W W' → I k W') (hZ : ∀ k W W', Z k W → Only [w.heap.size, w.heap.size + 1] W W' → Z k W')
    (hM : ∀ k W, I k W → M W) (h0 : I 0 w)
    (hIS : ∀ W, I N W → S W) (hZS : ∀ k W, 0 < k → k ≤ N → Z k W → S W)
    (hround : ∀ l k W, k < N → I k W → assign.wpIn (Fence.wide.inRound l) 0 P (Exit.then (fun a' W' => W = W' ∧ ∀ W2, I k W2 → w.heap.size + 1 < W2.heap.size → body.wpIn (Fence.wide.inRound l) 0 P (rndPost w I (fun c k W => c = .exit id ∧ Z k W) (k + 1) W2) a' W2) (fun _ _ _ => False))
      { tmps := (ps.zip (xs k)).foldl (fun t (p, v) => t.setIfInBounds p v) a.tmps, defers := [] } W)
    (rest : ∀ W, S W → W.heap[w.heap.size]? = some (.deferred (some [])) → Q .normal { a with defers := { target := .collected w.heap.size, args := #[] } :: a.defers } W) :
    (Code.rangeFunc g ps assign body).wp P (Exit.inBlock id Q) a w := by
  refine wp_range hg eg hit hps I (fun c k W => c = .exit id ∧ Z k W) hI (fun c k W W' h hO => ⟨h.1, hZ k W W' h.2 hO⟩) hM h0 hround (fun W h hd => rest W (hIS W h) hd) ?_
  rintro c k W h1 h2 ⟨rfl, hz⟩ hd
  refine wp_exit ?_
  show (if id = id then Q .normal _ _ else Q (.exit id) _ _)
  rw [if_pos rfl]
  exact rest W (hZS k W h1 h2 hz) hd

theorem calls_round {P : Program} {f : FuncId} {args : Array Value} {w : World} {R : Ending → World → Prop} (l : Nat) (h : Calls P f args w R) : CallsIn (Fence.wide.inRound l) 0 P f args w R := CallsIn.inRound l (callsIn_wide.2 h)
end Go.Proofs.YtbfimimhgdkpaaaGreatDoor

/- A region that draws its order inside a fence, behind an operation that was met by hand: the rest only reads. No condition. -/
namespace Go.Proofs.YtbfimimhgdkpaaaGreatDoor
open Go.RowKit

theorem wpAnyIn_rest {F : Fence} {n : Nat} {P : Program} {Q : Exit → Act → World → Prop} {a : Act} {w : World} {fuel : Nat} {L : List Oper} {listed : Array Bool} (k : Nat) (hro : F.round = none) (hf : fuel = (L.drop k).length)
    (hs : Region.noSelect L.toArray = true) (hB : Region.lexFrom .any L.toArray (L.drop k).length k listed = true)
    (h : wpQuietIn F n P L.toArray (fun w' => ∃ n, w' = w.drewN n) (fun a' => ∀ w', (∃ n, w' = w.drewN n) → Q .normal a' w') (L.drop k) a) : wpAnyIn F n P .any L.toArray Q fuel listed a w := by
  subst hf
  refine wpAnyIn_of_quiet (C := fun w' => ∃ n, w' = w.drewN n) (Q := fun a' => ∀ w', (∃ n, w' = w.drewN n) → Q .normal a' w') hro (fun _ w' hw' h => h w' hw') _ _ _ _ ⟨0, rfl⟩ ?_
  exact wpAnyQIn_lex hs (L.drop k) k listed a (fun j => by simp) hB h
end Go.Proofs.YtbfimimhgdkpaaaGreatDoor

/- A region that draws its order, of which all but the last operations only read: walked in the order of the text, in a world that is a letter. No condition. -/
namespace Go.Proofs.YtbfimimhgdkpaaaGreatDoor
open Go.RowKit

theorem wp_tail {P : Program} {id : Nat} {Q : Exit → Act → World → Prop} {a : Act} {w : World} {l : List Oper} (n : Nat) (hm : P.follows .mixedOrders = true) (hB : Region.lexTailB .any l.toArray n = true)
    (h : ∀ W, W = w.drew → wpStill P l.toArray W (fun a' => wpList P l.toArray Q (l.drop n) a' W) (l.take n) a) : (Code.region id l.toArray true).wp P Q a w :=
  wp_region_still_tail n hm hB (h _ rfl)

/-- append of one element, which lies in a block of its own, to a row of the call's own: at a step of a region that draws its order. -/
theorem step_appx {α : Type} {enc : α → List Value} {P : Program} {t e e' : TypeId} {z : Value} {size bytes : Nat} (E : ElemOf P t e z size bytes) {w : World} {ops : Array Oper} {o : Oper} {a : Act} {K : Act → World → Prop} {Q : Exit → Act → World → Prop} {X : Prop}
    (hgd : o.guard = none) (s x : Operand) (ho : o.op = .call { callee := .builtin .append, args := #[s, x], argTypes := #[t, t] })
    {base : Nat} {v : Value} {xs : List α} {news : List Value} (y : α) (hs : a.eval s = v) (hown : Own w base e size enc v xs) (hbase : base ≤ w.heap.size)
    {N : Nat} (hx : a.eval x = .slice (some ⟨N, 0, none⟩) 1 1) (hB : Blk w N e' news.toArray) (hnews : news = enc y) (hl : news.length = size) (h1 : news.all (fun u => u.oneCell') = true) (hfit : (xs.length + 1) * (bytes + 1) ≤ 140737488355328)
    (h : ∀ g cap w', Own w' base e size enc (.slice (some ⟨g, 0, none⟩) (xs.length + 1) cap) (xs ++ [y]) → w.grownBy w' v.ownBlock → (v.ownBlock = some g ∨ g = w.heap.size) → K (a.put o.dst (.slice (some ⟨g, 0, none⟩) (xs.length + 1) cap)) w') :
    if Region.wanted o (yielded ops a.tmps) = true then Oper.wp P o a w K Q else X := by
  obtain ⟨ht, hinfo, hzs, hsz⟩ := E
  obtain ⟨i, hi, hz, hsize, hby⟩ := info_parts hinfo
  have hb2 : (xs.length + 1) * (bytes + 1) = (xs.length + 1) * bytes + (xs.length + 1) := by rw [Nat.mul_add, Nat.mul_one]
  refine step_append_lies _ hgd s x t ho base e i z size bytes ht hi hz hsize hby hzs hsz v xs.length (xs.flatMap enc) hs hown ⟨N, 0, none⟩ 1 1 news hx (by omega) (fun j u hu => World.news_of_block hB j u (by simpa using hu)) (by simpa using h1) (by omega) (by simp only [maxLen]; omega) (by omega) hbase _ rfl ?_
  intro g cap w' ho' hg hat _
  refine h g cap w' ?_ hg hat
  unfold Own
  rw [List.length_append, List.flatMap_append, List.length_singleton, List.flatMap_cons, List.flatMap_nil, List.append_nil, ← hnews]
  exact ho'
theorem Kp.far {w w' : World} {row : Option Nat} (hg : w.grownBy w' row) {p : Addr} {v : Value} (hc : w.cell? p = some v) (hne : some p.block ≠ row) : w'.cell? p = some v := (hg.cell_far p (World.block_lt_of_cell? w p hc) hne).trans hc
end Go.Proofs.YtbfimimhgdkpaaaGreatDoor

/- Regions that draw their order, inside a round of a range over a function: walked as plain ones. No condition. -/
namespace Go.Proofs.YtbfimimhgdkpaaaGreatDoor
open Go.RowKit

/-- No operation defers. -/
def noDefer (ops : Array Oper) : Bool := ops.toList.all (fun o => match o.op with | .defer _ => false | _ => true)
theorem noDefer_spec {ops : Array Oper} (h : noDefer ops = true) {i : Nat} {o : Oper} (hi : ops[i]? = some o) : ∀ c, o.op ≠ .defer c := by
  intro c hc
  have hm : o ∈ ops.toList := by
    rw [Array.mem_toList_iff]
    exact Array.mem_of_getElem? hi
  have := List.all_eq_true.1 h o hm
  rw [hc] at this
  cases this

theorem wpOpIn_of_wpOp {l : Nat} {P : Program} {ops : Array Oper} {Q : Exit → Act → World → Prop} (hQ : ¬ LetsOut Q) (hnd : noDefer ops = true) {i : Nat} {K : Act → World → Prop} {a : Act} {w : World}
    (h : wpOp P ops Q i K a w) : wpOpIn (Fence.wide.inRound l) 0 P ops Q i K a w := by
  unfold wpOp at h
  unfold wpOpIn
  cases ho : ops[i]? with
  | none => rw [ho] at h; exact h
  | some o =>
    rw [ho] at h
    simp only at h ⊢
    split
    · rename_i hw
      rw [if_pos hw] at h
      rcases h with h | h
      · refine ⟨fun _ _ => trivial, ?_⟩
        rw [Oper.semAt_eq _ _ _ (noDefer_spec hnd ho)]
        unfold Oper.wp at h
        generalize (execOp a.eval o).run P w = r at h
        unfold Oper.upon at h
        unfold Oper.uponIn
        split at h
        · exact h
        · exact h
        · exact h
        · exact ⟨(fun h => by cases h), CallsIn.inRound l (callsIn_wide.2 (h.mono fun e w'' hh => by cases e <;> exact hh))⟩
        · exact ⟨(fun h => by cases h), fun c cs _ => let ⟨v, w', r, s⟩ := h c cs; ⟨v, w', r, stepsIn_wide.2 s⟩⟩
        · exact h
        · exact h.elim
      · exact absurd h.2 hQ
    · rename_i hw
      rw [if_neg hw] at h
      exact ⟨fun _ _ => trivial, h⟩

theorem wpAnyIn_of_wpAny {l : Nat} {P : Program} {ops : Array Oper} {Q : Exit → Act → World → Prop} (hQ : ¬ LetsOut Q) (hnd : noDefer ops = true) {md : Region.Mode} : ∀ (fuel : Nat) (listed : Array Bool) (a : Act) (w : World),
    wpAny P md ops Q fuel listed a w → wpAnyIn (Fence.wide.inRound l) 0 P md ops Q fuel listed a w
  | 0, _, _, _, h => h
  | fuel + 1, listed, a, w, h => ⟨h.1, fun i hi => wpOpIn_mono (fun a w hh => wpAnyIn_of_wpAny hQ hnd fuel _ a w hh) (wpOpIn_of_wpOp hQ hnd (h.2 i hi))⟩

theorem wpAny_tail {P : Program} {Q : Exit → Act → World → Prop} {a : Act} {W : World} {l : List Oper} (n : Nat) (hB : Region.lexTailB .any l.toArray n = true)
    (h : wpStill P l.toArray W (fun a' => wpList P l.toArray Q (l.drop n) a' W) (l.take n) a) : wpAny P .any l.toArray Q l.toArray.size (Array.replicate l.toArray.size false) a W := by
  simp only [Region.lexTailB, Bool.and_eq_true, decide_eq_true_eq] at hB
  obtain ⟨⟨⟨⟨h1, h2⟩, h3⟩, h4⟩, h5⟩ := hB
  have e0 : n < l.length := by simpa using h2
  have e1 : (l.take n).length = n := by rw [List.length_take]; omega
  have e2 : (l.drop n).length = l.toArray.size - n := by rw [List.length_drop, List.size_toArray]
  have start : HeadInv .any l.toArray n (Array.replicate l.toArray.size false) := ⟨by simp, fun j _ _ hl => (by rw [getD_replicate_false] at hl; cases hl), fun t _ ht => getD_in (by simpa using ht) (getD_replicate_false _ _)⟩
  have hl : ∀ j, j < (l.take n).length → (l.take n)[j]? = l.toArray[0 + j]? := fun j hj => by
    rw [e1] at hj; simp [hj]
  have head := wpAnyL_lex (md := .any) (g := l.toArray.size - n) h1 h3 h4 h2 (l.take n) 0 _ a hl (by omega) start (by rw [e1]; exact h5) h
  have all := wpAny_of_head (Q' := Q) (g := l.toArray.size - n) (fun listed a' hL => by
    have t := wpAny_of_seq (md := .any) (Q' := Q) (l.drop n) n listed a' W (fun j => by simp [List.getElem?_drop]) (by rw [e2]; exact hL.1) hL.2
    rw [e2] at t; exact t) _ _ _ head
  rw [e1, show n + (l.toArray.size - n) = l.toArray.size by omega] at all
  exact all

/-- A drawn region in a round, of which all but the last operations only read: walked in the order of the text, in a world that is a letter. -/
theorem round_tail {r id : Nat} {P : Program} {Q : Exit → Act → World → Prop} {a : Act} {w : World} {l : List Oper} (n : Nat) (hm : P.follows .mixedOrders = true) (hB : Region.lexTailB .any l.toArray n = true) (hnd : noDefer l.toArray = true) (hQ : ¬ LetsOut Q)
    (h : ∀ W, W = w.drew → wpStill P l.toArray W (fun a' => wpList P l.toArray Q (l.drop n) a' W) (l.take n) a) : (Code.region id l.toArray true).wpIn (Fence.wide.inRound r) 0 P Q a w :=
  wpIn_region_any hm (wpAnyIn_of_wpAny hQ hnd _ _ _ _ (wpAny_tail n hB (h _ rfl)))
theorem no_out {Q : Exit → Act → World → Prop} {K : Act → World → Prop} (h : ¬ LetsOut Q) : ¬ LetsOut (Exit.then K Q) := fun ⟨a, w, hh⟩ => h ⟨a, w, hh⟩
theorem no_out_block {Q : Exit → Act → World → Prop} {id : Nat} (h : ¬ LetsOut Q) : ¬ LetsOut (Exit.inBlock id Q) := fun ⟨a, w, hh⟩ => h ⟨a, w, hh⟩
theorem no_out_round {w : World} {I : Nat → World → Prop} {Ix : Code → Nat → World → Prop} {k : Nat} {W : World} : ¬ LetsOut (rndPost w I Ix k W) := fun ⟨_, _, hh⟩ => hh
end Go.Proofs.YtbfimimhgdkpaaaGreatDoor

/- What layers 4 and 11 lean on, without the trie. No condition. -/
namespace Go.Proofs.YtbfimimhgdkpaaaGreatDoor
theorem makeFunc_runV (fn : Fn) (first cap : Array Value) (w : World) : (Instr.makeFunc fn first cap).run Tryz.prog w = .ok (.func fn first cap) w := rfl
end Go.Proofs.YtbfimimhgdkpaaaGreatDoor

/- addr.Kind, over plain numbers. -/
namespace Go.Proofs.YtbfimimhgdkpaaaGreatDoor
open Go.RowKit

/-- An address's kind. -/
def kindAB : Nat → Nat → Bool
  | 0, a => decide (a = 0)
  | 1, a => decide (a / 16777216 = 0)
  | 2, a => decide (a / 16777216 = 127)
  | 3, a => decide (224 ≤ a / 16777216) && decide (a / 16777216 ≤ 239)
  | 4, a => decide (240 ≤ a / 16777216)
  | _, _ => true
def kindAd (a : Nat) : Nat := if a = 0 then 1 else if a / 16777216 = 0 then 2 else if a / 16777216 = 127 then 3 else if 224 ≤ a / 16777216 ∧ a / 16777216 ≤ 239 then 4 else if 240 ≤ a / 16777216 then 5 else 6
theorem kind_at {a k : Nat} (hk : k < 6) (h : ∀ j, j < k → kindAB j a = false) (h1 : kindAB k a = true) : kindAd a = k + 1 := by
  have hk2 : k = 0 ∨ k = 1 ∨ k = 2 ∨ k = 3 ∨ k = 4 ∨ k = 5 := by omega
  unfold kindAd
  rcases hk2 with rfl | rfl | rfl | rfl | rfl | rfl
  · simp [kindAB] at h1; simp [h1]
  all_goals
    have g0 := h 0 (by omega)
    simp only [kindAB, decide_eq_false_iff_not] at g0
    rw [if_neg g0]
  · simp [kindAB] at h1; rw [if_pos (by omega)]
  all_goals
    have g1 := h 1 (by omega)
    simp only [kindAB, decide_eq_false_iff_not] at g1
    rw [if_neg g1]
  · simp [kindAB] at h1; rw [if_pos h1]
  all_goals
    have g2 := h 2 (by omega)
    simp only [kindAB, decide_eq_false_iff_not] at g2
    rw [if_neg g2]
  · simp [kindAB] at h1; rw [if_pos h1]
  all_goals
    have g3 := h 3 (by omega)
    simp [kindAB] at g3
    rw [if_neg (by omega)]
  · simp [kindAB] at h1; rw [if_pos h1]
  · have g4 := h 4 (by omega)
    simp [kindAB] at g4
    rw [if_neg (by omega)]

theorem idx4 (x y z u : Value) (w : World) : (Instr.index 172 (.agg #[x, y, z, u]) (.int .i64 0)).run Tryz.prog w = .ok x w := by kernel_rfl
theorem byte_top {a : Nat} (ha : a < 4294967296) : ((a : Int) / 16777216) % 256 = ((a / 16777216 : Nat) : Int) := by omega

def PartsPost (m : Nat) (w : World) (e : Ending) (w' : World) : Prop := ∃ y z u : Int, e = .returned (.agg #[.int .u8 m, .int .u8 y, .int .u8 z, .int .u8 u]) ∧ Kp w w'

set_option maxRecDepth 100000 in
set_option maxHeartbeats 1000000 in
theorem parts_any (a m : Nat) (w : World) (ha : a < 4294967296) (hm : a / 16777216 = m) : Calls Tryz.prog 102 #[.int .u32 a] w (PartsPost m w) := by
  have Hm := Lib.hid hm; clear hm
  go_enter Tryz.func102, Tryz.ntmps102
  go_wp2_with fail
  all_goals first
    | omega
    | exact bodyPost_ret (v := .agg #[.int .u8 ((a : Int) / 16777216), .int .u8 ((a : Int) / 65536 % 256), .int .u8 ((a : Int) / 256 % 256), .int .u8 ((a : Int) % 256)]) (by simp [results, Tryz.results102, go_sem]) rfl ⟨_, _, _, by rw [← Hm.out]; rfl, (Kp.refl _).alloc _⟩

set_option maxRecDepth 100000 in
set_option maxHeartbeats 1000000 in
theorem first_any (a m : Nat) (w : World) (ha : a < 4294967296) (hm : a / 16777216 = m) :
    Calls Tryz.prog 216 #[.int .u32 a] w fun e w' => e = .returned (.int .u8 m) ∧ Kp w w' := by
  have h4 := idx4
  have Hm := Lib.hid hm; clear hm
  go_enter Tryz.func216, Tryz.ntmps216
  go_wp2_with fail
  refine (parts_any a m _ ha Hm.out).mono ?_
  rintro e w' ⟨y, z, u, rfl, hK⟩
  go_wp2_with fail
  go_ret
  exact ⟨rfl, hK⟩

theorem kr2_any (a : Nat) (w : World) : Calls Tryz.prog 217 #[.int .u32 a] w fun e w' => e = .returned (.bool (kindAB 0 a)) ∧ Kp w w' := by
  have H := Lib.hid (show kindAB 0 a = ((a : Int) == 0) by simp only [kindAB]; rw [Bool.eq_iff_iff]; simp)
  go_enter Tryz.func217, Tryz.ntmps217
  go_wp2_with fail
  go_ret
  exact ⟨by rw [H.out]; rfl, Kp.refl _⟩
theorem kr7_any (a : Nat) (w : World) : Calls Tryz.prog 222 #[.int .u32 a] w fun e w' => e = .returned (.bool (kindAB 5 a)) ∧ Kp w w' := by
  go_enter Tryz.func222, Tryz.ntmps222
  go_wp2_with fail
  go_ret
  exact ⟨rfl, Kp.refl _⟩
set_option maxRecDepth 100000 in
set_option maxHeartbeats 1000000 in
theorem kr3_any (a c : Nat) (w : World) (ha : a < 4294967296) (hc : Blk w c 286 #[.func (.func 216) #[] #[]]) : Calls Tryz.prog 218 #[.int .u32 a, .pointer (some ⟨c, 0, none⟩)] w fun e w' => e = .returned (.bool (kindAB 1 a)) ∧ Kp w w' := by
  have c0 : w.cell? ⟨c, 0, none⟩ = some (.func (.func 216) #[] #[]) := hc.cell 0
  obtain ⟨m, hm⟩ : ∃ m, a / 16777216 = m := ⟨_, rfl⟩
  have H := Lib.hid (show kindAB 1 a = ((m : Int) == 0) by simp only [kindAB, hm]; rw [Bool.eq_iff_iff]; simp <;> omega)
  have Hm := Lib.hid hm; clear hm
  go_enter Tryz.func218, Tryz.ntmps218
  go_wp2_with fail
  refine (first_any a m _ ha Hm.out).mono ?_
  rintro e w' ⟨rfl, hK⟩
  go_wp2_with fail
  go_ret
  exact ⟨by rw [H.out]; rfl, hK⟩
set_option maxRecDepth 100000 in
set_option maxHeartbeats 1000000 in
theorem kr4_any (a c : Nat) (w : World) (ha : a < 4294967296) (hc : Blk w c 286 #[.func (.func 216) #[] #[]]) : Calls Tryz.prog 219 #[.int .u32 a, .pointer (some ⟨c, 0, none⟩)] w fun e w' => e = .returned (.bool (kindAB 2 a)) ∧ Kp w w' := by
  have c0 : w.cell? ⟨c, 0, none⟩ = some (.func (.func 216) #[] #[]) := hc.cell 0
  obtain ⟨m, hm⟩ : ∃ m, a / 16777216 = m := ⟨_, rfl⟩
  have H := Lib.hid (show kindAB 2 a = ((m : Int) == 127) by simp only [kindAB, hm]; rw [Bool.eq_iff_iff]; simp <;> omega)
  have Hm := Lib.hid hm; clear hm
  go_enter Tryz.func219, Tryz.ntmps219
  go_wp2_with fail
  refine (first_any a m _ ha Hm.out).mono ?_
  rintro e w' ⟨rfl, hK⟩
  go_wp2_with fail
  go_ret
  exact ⟨by rw [H.out]; rfl, hK⟩
set_option maxRecDepth 100000 in
set_option maxHeartbeats 1000000 in
theorem kr6_any (a c : Nat) (w : World) (ha : a < 4294967296) (hc : Blk w c 286 #[.func (.func 216) #[] #[]]) : Calls Tryz.prog 221 #[.int .u32 a, .pointer (some ⟨c, 0, none⟩)] w fun e w' => e = .returned (.bool (kindAB 4 a)) ∧ Kp w w' := by
  have c0 : w.cell? ⟨c, 0, none⟩ = some (.func (.func 216) #[] #[]) := hc.cell 0
  obtain ⟨m, hm⟩ : ∃ m, a / 16777216 = m := ⟨_, rfl⟩
  have H := Lib.hid (show kindAB 4 a = decide ((240 : Int) ≤ (m : Int)) by simp only [kindAB, hm]; rw [Bool.eq_iff_iff]; simp <;> omega)
  have Hm := Lib.hid hm; clear hm
  go_enter Tryz.func221, Tryz.ntmps221
  go_wp2_with fail
  refine (first_any a m _ ha Hm.out).mono ?_
  rintro e w' ⟨rfl, hK⟩
  go_wp2_with fail
  go_ret
  exact ⟨by rw [H.out]; rfl, hK⟩
set_option maxRecDepth 100000 in
set_option maxHeartbeats 1000000 in
theorem kr5_any (a c : Nat) (w : World) (ha : a < 4294967296) (hc : Blk w c 286 #[.func (.func 216) #[] #[]]) : Calls Tryz.prog 220 #[.int .u32 a, .pointer (some ⟨c, 0, none⟩)] w fun e w' => e = .returned (.bool (kindAB 3 a)) ∧ Kp w w' := by
  have c0 : w.cell? ⟨c, 0, none⟩ = some (.func (.func 216) #[] #[]) := hc.cell 0
  have Hc := Lib.hid hc; clear hc
  obtain ⟨m, hm⟩ : ∃ m, a / 16777216 = m := ⟨_, rfl⟩
  have H := Lib.hid (show kindAB 3 a = (decide (224 ≤ m) && decide (m ≤ 239)) by simp only [kindAB, hm])
  have Hm := Lib.hid hm; clear hm
  by_cases h : 224 ≤ m
  · have hd : decide ((224 : Int) ≤ (m : Int)) = true := by simp; omega
    have hd2 : decide (224 ≤ m) = true := by simpa using h
    have hk := Lib.hid (show kindAB 3 a = decide ((m : Int) ≤ 239) by rw [H.out, hd2, Bool.true_and, Bool.eq_iff_iff]; simp; omega)
    have Hh := Lib.hid h; clear h
    go_enter Tryz.func220, Tryz.ntmps220
    go_wp2_with fail
    refine (first_any a m _ ha Hm.out).mono ?_
    rintro e w1 ⟨rfl, hK⟩
    have c1 : w1.cell? ⟨c, 0, none⟩ = some (.func (.func 216) #[] #[]) := hK.cell c0
    go_wp2_with fail
    refine (first_any a m _ ha Hm.out).mono ?_
    rintro e w2 ⟨rfl, hK2⟩
    go_wp2_with fail
    go_ret
    exact ⟨by rw [hk.out]; rfl, hK.trans hK2⟩
  · have hd : decide ((224 : Int) ≤ (m : Int)) = false := by simp; omega
    have hd2 : decide (224 ≤ m) = false := by simpa using h
    have hk := Lib.hid (show kindAB 3 a = false by rw [H.out, hd2, Bool.false_and])
    have Hh := Lib.hid h; clear h
    go_enter Tryz.func220, Tryz.ntmps220
    go_wp2_with fail
    refine (first_any a m _ ha Hm.out).mono ?_
    rintro e w1 ⟨rfl, hK⟩
    go_wp2_with fail
    go_ret
    exact ⟨by rw [hk.out]; rfl, hK⟩

def kindCells (c : Nat) : Array Value := #[.int .i64 1, .func (.func 217) #[] #[], .int .i64 2, .func (.func 218) #[] #[.pointer (some ⟨c, 0, none⟩)], .int .i64 3, .func (.func 219) #[] #[.pointer (some ⟨c, 0, none⟩)], .int .i64 4, .func (.func 220) #[] #[.pointer (some ⟨c, 0, none⟩)], .int .i64 5, .func (.func 221) #[] #[.pointer (some ⟨c, 0, none⟩)], .int .i64 6, .func (.func 222) #[] #[]]
set_option maxHeartbeats 1000000 in
theorem kindRules_any (w : World) : Calls Tryz.prog 207 #[] w fun e w' => e = .returned (.slice (some ⟨w.heap.size + 1, 0, none⟩) 6 6) ∧ Blk w' w.heap.size 286 #[.func (.func 216) #[] #[]] ∧ Blk w' (w.heap.size + 1) 279 (kindCells w.heap.size) ∧ Kp w w' := by
  have hmf := makeFunc_runV
  go_enter Tryz.func207, Tryz.ntmps207
  go_wp2_with fail
  go_ret
  exact ⟨rfl, (Blk.new w _ _).alloc _, Blk.new1 w _ _ _, ((Kp.refl _).alloc _).alloc _⟩
end Go.Proofs.YtbfimimhgdkpaaaGreatDoor

/- addr.Kind. -/
namespace Go.Proofs.YtbfimimhgdkpaaaGreatDoor
open Go.RowKit

set_option maxRecDepth 100000 in
set_option maxHeartbeats 2000000 in
theorem kindAd_any (a : Nat) (w : World) (ha : a < 4294967296) : Calls Tryz.prog 198 #[.int .u32 a] w fun e w' => e = .returned (.int .i64 (kindAd a)) ∧ Kp w w' := by
  have Hat := Lib.hid (fun k (hk : k < 6) => kind_at (a := a) hk)
  go_enter Tryz.func198, Tryz.ntmps198
  go_wp2_with fail
  refine (kindRules_any _).mono ?_
  rintro e w1 ⟨rfl, hC, hR, hK1⟩
  go_wp2_with fail
  go_loopw [7] (fun i wr => ∃ k : Nat, k ≤ 5 ∧ i = .int .i64 k ∧ Hid (∀ j, j < k → kindAB j a = false) ∧ Kp w1 wr) (fun i _ => 6 - (intOf i).toNat)
  case atStart => exact ⟨0, by omega, rfl, fun _ h => absurd h (by omega), Kp.refl _⟩
  case round =>
    obtain ⟨k, hk, rfl, hall, hK⟩ := hrel
    have C := hC.keep hK
    have R := hR.keep hK
    have kw := hK1.trans hK
    have hk2 : k = 0 ∨ k = 1 ∨ k = 2 ∨ k = 3 ∨ k = 4 ∨ k = 5 := by omega
    rcases hk2 with rfl | rfl | rfl | rfl | rfl | rfl
    · have c0 : wr.cell? ⟨w.heap.size + 1, 0, none⟩ = some (.int .i64 1) := R.cell 0
      have c1 : wr.cell? ⟨w.heap.size + 1, 1, none⟩ = some (.func (.func 217) #[] #[]) := R.cell 1
      have B := Blk.new wr 279 #[.int .i64 1, .func (.func 217) #[] #[]]
      go_wp2_with fail
      refine (kr2_any a _).mono ?_
      rintro e w2 ⟨rfl, hK2⟩
      have B2 := B.keep hK2
      have k2 : Kp w1 w2 := (hK.alloc _).trans hK2
      have d0 : w2.cell? ⟨wr.heap.size, 0, none⟩ = some (.int .i64 1) := B2.cell 0
      cases hb : kindAB 0 a with
      | true =>
        have H := Lib.hid (Hat.out 0 (by omega) hall.out hb)
        clear hb
        go_wp2_with fail
        go_ret
        exact ⟨by rw [H.out]; rfl, hK1.trans k2⟩
      | false =>
        have Hb := Lib.hid hb; clear hb
        go_wp2_with fail
        go_roundw
        case rel =>
          refine ⟨1, by omega, by go_num, fun j hj => ?_, k2⟩
          by_cases e : j = 0
          · subst e; exact Hb.out
          · exact hall.out j (by omega)
        case measure => simp [intOf] <;> omega
    · have c0 : wr.cell? ⟨w.heap.size + 1, 2, none⟩ = some (.int .i64 2) := R.cell 2
      have c1 : wr.cell? ⟨w.heap.size + 1, 3, none⟩ = some (.func (.func 218) #[] #[.pointer (some ⟨w.heap.size, 0, none⟩)]) := R.cell 3
      have B := Blk.new wr 279 #[.int .i64 2, .func (.func 218) #[] #[.pointer (some ⟨w.heap.size, 0, none⟩)]]
      go_wp2_with fail
      refine (kr3_any a w.heap.size _ ha (C.alloc _)).mono ?_
      rintro e w2 ⟨rfl, hK2⟩
      have B2 := B.keep hK2
      have k2 : Kp w1 w2 := (hK.alloc _).trans hK2
      have d0 : w2.cell? ⟨wr.heap.size, 0, none⟩ = some (.int .i64 2) := B2.cell 0
      cases hb : kindAB 1 a with
      | true =>
        have H := Lib.hid (Hat.out 1 (by omega) hall.out hb)
        clear hb
        go_wp2_with fail
        go_ret
        exact ⟨by rw [H.out]; rfl, hK1.trans k2⟩
      | false =>
        have Hb := Lib.hid hb; clear hb
        go_wp2_with fail
        go_roundw
        case rel =>
          refine ⟨2, by omega, by go_num, fun j hj => ?_, k2⟩
          by_cases e : j = 1
          · subst e; exact Hb.out
          · exact hall.out j (by omega)
        case measure => simp [intOf] <;> omega
    · have c0 : wr.cell? ⟨w.heap.size + 1, 4, none⟩ = some (.int .i64 3) := R.cell 4
      have c1 : wr.cell? ⟨w.heap.size + 1, 5, none⟩ = some (.func (.func 219) #[] #[.pointer (some ⟨w.heap.size, 0, none⟩)]) := R.cell 5
      have B := Blk.new wr 279 #[.int .i64 3, .func (.func 219) #[] #[.pointer (some ⟨w.heap.size, 0, none⟩)]]
      go_wp2_with fail
      refine (kr4_any a w.heap.size _ ha (C.alloc _)).mono ?_
      rintro e w2 ⟨rfl, hK2⟩
      have B2 := B.keep hK2
      have k2 : Kp w1 w2 := (hK.alloc _).trans hK2
      have d0 : w2.cell? ⟨wr.heap.size, 0, none⟩ = some (.int .i64 3) := B2.cell 0
      cases hb : kindAB 2 a with
      | true =>
        have H := Lib.hid (Hat.out 2 (by omega) hall.out hb)
        clear hb
        go_wp2_with fail
        go_ret
        exact ⟨by rw [H.out]; rfl, hK1.trans k2⟩
      | false =>
        have Hb := Lib.hid hb; clear hb
        go_wp2_with fail
        go_roundw
        case rel =>
          refine ⟨3, by omega, by go_num, fun j hj => ?_, k2⟩
          by_cases e : j = 2
          · subst e; exact Hb.out
          · exact hall.out j (by omega)
        case measure => simp [intOf] <;> omega
    · have c0 : wr.cell? ⟨w.heap.size + 1, 6, none⟩ = some (.int .i64 4) := R.cell 6
      have c1 : wr.cell? ⟨w.heap.size + 1, 7, none⟩ = some (.func (.func 220) #[] #[.pointer (some ⟨w.heap.size, 0, none⟩)]) := R.cell 7
      have B := Blk.new wr 279 #[.int .i64 4, .func (.func 220) #[] #[.pointer (some ⟨w.heap.size, 0, none⟩)]]
      go_wp2_with fail
      refine (kr5_any a w.heap.size _ ha (C.alloc _)).mono ?_
      rintro e w2 ⟨rfl, hK2⟩
      have B2 := B.keep hK2
      have k2 : Kp w1 w2 := (hK.alloc _).trans hK2
      have d0 : w2.cell? ⟨wr.heap.size, 0, none⟩ = some (.int .i64 4) := B2.cell 0
      cases hb : kindAB 3 a with
      | true =>
        have H := Lib.hid (Hat.out 3 (by omega) hall.out hb)
        clear hb
        go_wp2_with fail
        go_ret
        exact ⟨by rw [H.out]; rfl, hK1.trans k2⟩
      | false =>
        have Hb := Lib.hid hb; clear hb
        go_wp2_with fail
        go_roundw
        case rel =>
          refine ⟨4, by omega, by go_num, fun j hj => ?_, k2⟩
          by_cases e : j = 3
          · subst e; exact Hb.out
          · exact hall.out j (by omega)
        case measure => simp [intOf] <;> omega
    · have c0 : wr.cell? ⟨w.heap.size + 1, 8, none⟩ = some (.int .i64 5) := R.cell 8
      have c1 : wr.cell? ⟨w.heap.size + 1, 9, none⟩ = some (.func (.func 221) #[] #[.pointer (some ⟨w.heap.size, 0, none⟩)]) := R.cell 9
      have B := Blk.new wr 279 #[.int .i64 5, .func (.func 221) #[] #[.pointer (some ⟨w.heap.size, 0, none⟩)]]
      go_wp2_with fail
      refine (kr6_any a w.heap.size _ ha (C.alloc _)).mono ?_
      rintro e w2 ⟨rfl, hK2⟩
      have B2 := B.keep hK2
      have k2 : Kp w1 w2 := (hK.alloc _).trans hK2
      have d0 : w2.cell? ⟨wr.heap.size, 0, none⟩ = some (.int .i64 5) := B2.cell 0
      cases hb : kindAB 4 a with
      | true =>
        have H := Lib.hid (Hat.out 4 (by omega) hall.out hb)
        clear hb
        go_wp2_with fail
        go_ret
        exact ⟨by rw [H.out]; rfl, hK1.trans k2⟩
      | false =>
        have Hb := Lib.hid hb; clear hb
        go_wp2_with fail
        go_roundw
        case rel =>
          refine ⟨5, by omega, by go_num, fun j hj => ?_, k2⟩
          by_cases e : j = 4
          · subst e; exact Hb.out
          · exact hall.out j (by omega)
        case measure => simp [intOf] <;> omega
    · have c0 : wr.cell? ⟨w.heap.size + 1, 10, none⟩ = some (.int .i64 6) := R.cell 10
      have c1 : wr.cell? ⟨w.heap.size + 1, 11, none⟩ = some (.func (.func 222) #[] #[]) := R.cell 11
      have B := Blk.new wr 279 #[.int .i64 6, .func (.func 222) #[] #[]]
      go_wp2_with fail
      refine (kr7_any a _).mono ?_
      rintro e w2 ⟨rfl, hK2⟩
      have B2 := B.keep hK2
      have k2 : Kp w1 w2 := (hK.alloc _).trans hK2
      have d0 : w2.cell? ⟨wr.heap.size, 0, none⟩ = some (.int .i64 6) := B2.cell 0
      cases hb : kindAB 5 a with
      | true =>
        have H := Lib.hid (Hat.out 5 (by omega) hall.out hb)
        clear hb
        go_wp2_with fail
        go_ret
        exact ⟨by rw [H.out]; rfl, hK1.trans k2⟩
      | false => cases hb
end Go.Proofs.YtbfimimhgdkpaaaGreatDoor

/- prefix.Len of a mask. -/
namespace Go.Proofs.YtbfimimhgdkpaaaGreatDoor
open Go.RowKit

set_option maxRecDepth 100000 in
theorem len32_0 (w : World) : Calls Tryz.prog 224 #[.int .u32 0] w fun e w' => e = .returned (.int .i64 0) ∧ w = w' := by
  go_enter Tryz.func224, Tryz.ntmps224
  go_wp2_with fail
  go_ret
  exact ⟨by kernel_rfl, rfl⟩
set_option maxRecDepth 100000 in
theorem len32_1 (w : World) : Calls Tryz.prog 224 #[.int .u32 1] w fun e w' => e = .returned (.int .i64 1) ∧ w = w' := by
  go_enter Tryz.func224, Tryz.ntmps224
  go_wp2_with fail
  go_ret
  exact ⟨by kernel_rfl, rfl⟩
set_option maxRecDepth 100000 in
theorem len32_2 (w : World) : Calls Tryz.prog 224 #[.int .u32 3] w fun e w' => e = .returned (.int .i64 2) ∧ w = w' := by
  go_enter Tryz.func224, Tryz.ntmps224
  go_wp2_with fail
  go_ret
  exact ⟨by kernel_rfl, rfl⟩
set_option maxRecDepth 100000 in
theorem len32_3 (w : World) : Calls Tryz.prog 224 #[.int .u32 7] w fun e w' => e = .returned (.int .i64 3) ∧ w = w' := by
  go_enter Tryz.func224, Tryz.ntmps224
  go_wp2_with fail
  go_ret
  exact ⟨by kernel_rfl, rfl⟩
set_option maxRecDepth 100000 in
theorem len32_4 (w : World) : Calls Tryz.prog 224 #[.int .u32 15] w fun e w' => e = .returned (.int .i64 4) ∧ w = w' := by
  go_enter Tryz.func224, Tryz.ntmps224
  go_wp2_with fail
  go_ret
  exact ⟨by kernel_rfl, rfl⟩
set_option maxRecDepth 100000 in
theorem len32_5 (w : World) : Calls Tryz.prog 224 #[.int .u32 31] w fun e w' => e = .returned (.int .i64 5) ∧ w = w' := by
  go_enter Tryz.func224, Tryz.ntmps224
  go_wp2_with fail
  go_ret
  exact ⟨by kernel_rfl, rfl⟩
set_option maxRecDepth 100000 in
theorem len32_6 (w : World) : Calls Tryz.prog 224 #[.int .u32 63] w fun e w' => e = .returned (.int .i64 6) ∧ w = w' := by
  go_enter Tryz.func224, Tryz.ntmps224
  go_wp2_with fail
  go_ret
  exact ⟨by kernel_rfl, rfl⟩
set_option maxRecDepth 100000 in
theorem len32_7 (w : World) : Calls Tryz.prog 224 #[.int .u32 127] w fun e w' => e = .returned (.int .i64 7) ∧ w = w' := by
  go_enter Tryz.func224, Tryz.ntmps224
  go_wp2_with fail
  go_ret
  exact ⟨by kernel_rfl, rfl⟩
set_option maxRecDepth 100000 in
theorem len32_8 (w : World) : Calls Tryz.prog 224 #[.int .u32 255] w fun e w' => e = .returned (.int .i64 8) ∧ w = w' := by
  go_enter Tryz.func224, Tryz.ntmps224
  go_wp2_with fail
  go_ret
  exact ⟨by kernel_rfl, rfl⟩
set_option maxRecDepth 100000 in
theorem len32_9 (w : World) : Calls Tryz.prog 224 #[.int .u32 511] w fun e w' => e = .returned (.int .i64 9) ∧ w = w' := by
  go_enter Tryz.func224, Tryz.ntmps224
  go_wp2_with fail
  go_ret
  exact ⟨by kernel_rfl, rfl⟩
set_option maxRecDepth 100000 in
theorem len32_10 (w : World) : Calls Tryz.prog 224 #[.int .u32 1023] w fun e w' => e = .returned (.int .i64 10) ∧ w = w' := by
  go_enter Tryz.func224, Tryz.ntmps224
  go_wp2_with fail
  go_ret
  exact ⟨by kernel_rfl, rfl⟩
set_option maxRecDepth 100000 in
theorem len32_11 (w : World) : Calls Tryz.prog 224 #[.int .u32 2047] w fun e w' => e = .returned (.int .i64 11) ∧ w = w' := by
  go_enter Tryz.func224, Tryz.ntmps224
  go_wp2_with fail
  go_ret
  exact ⟨by kernel_rfl, rfl⟩
set_option maxRecDepth 100000 in
theorem len32_12 (w : World) : Calls Tryz.prog 224 #[.int .u32 4095] w fun e w' => e = .returned (.int .i64 12) ∧ w = w' := by
  go_enter Tryz.func224, Tryz.ntmps224
  go_wp2_with fail
  go_ret
  exact ⟨by kernel_rfl, rfl⟩
set_option maxRecDepth 100000 in
theorem len32_13 (w : World) : Calls Tryz.prog 224 #[.int .u32 8191] w fun e w' => e = .returned (.int .i64 13) ∧ w = w' := by
  go_enter Tryz.func224, Tryz.ntmps224
  go_wp2_with fail
  go_ret
  exact ⟨by kernel_rfl, rfl⟩
set_option maxRecDepth 100000 in
theorem len32_14 (w : World) : Calls Tryz.prog 224 #[.int .u32 16383] w fun e w' => e = .returned (.int .i64 14) ∧ w = w' := by
  go_enter Tryz.func224, Tryz.ntmps224
  go_wp2_with fail
  go_ret
  exact ⟨by kernel_rfl, rfl⟩
set_option maxRecDepth 100000 in
theorem len32_15 (w : World) : Calls Tryz.prog 224 #[.int .u32 32767] w fun e w' => e = .returned (.int .i64 15) ∧ w = w' := by
  go_enter Tryz.func224, Tryz.ntmps224
  go_wp2_with fail
  go_ret
  exact ⟨by kernel_rfl, rfl⟩
set_option maxRecDepth 100000 in
theorem len32_16 (w : World) : Calls Tryz.prog 224 #[.int .u32 65535] w fun e w' => e = .returned (.int .i64 16) ∧ w = w' := by
  go_enter Tryz.func224, Tryz.ntmps224
  go_wp2_with fail
  go_ret
  exact ⟨by kernel_rfl, rfl⟩
set_option maxRecDepth 100000 in
theorem len32_17 (w : World) : Calls Tryz.prog 224 #[.int .u32 131071] w fun e w' => e = .returned (.int .i64 17) ∧ w = w' := by
  go_enter Tryz.func224, Tryz.ntmps224
  go_wp2_with fail
  go_ret
  exact ⟨by kernel_rfl, rfl⟩
set_option maxRecDepth 100000 in
theorem len32_18 (w : World) : Calls Tryz.prog 224 #[.int .u32 262143] w fun e w' => e = .returned (.int .i64 18) ∧ w = w' := by
  go_enter Tryz.func224, Tryz.ntmps224
  go_wp2_with fail
  go_ret
  exact ⟨by kernel_rfl, rfl⟩
set_option maxRecDepth 100000 in
theorem len32_19 (w : World) : Calls Tryz.prog 224 #[.int .u32 524287] w fun e w' => e = .returned (.int .i64 19) ∧ w = w' := by
  go_enter Tryz.func224, Tryz.ntmps224
  go_wp2_with fail
  go_ret
  exact ⟨by kernel_rfl, rfl⟩
set_option maxRecDepth 100000 in
theorem len32_20 (w : World) : Calls Tryz.prog 224 #[.int .u32 1048575] w fun e w' => e = .returned (.int .i64 20) ∧ w = w' := by
  go_enter Tryz.func224, Tryz.ntmps224
  go_wp2_with fail
  go_ret
  exact ⟨by kernel_rfl, rfl⟩
set_option maxRecDepth 100000 in
theorem len32_21 (w : World) : Calls Tryz.prog 224 #[.int .u32 2097151] w fun e w' => e = .returned (.int .i64 21) ∧ w = w' := by
  go_enter Tryz.func224, Tryz.ntmps224
  go_wp2_with fail
  go_ret
  exact ⟨by kernel_rfl, rfl⟩
set_option maxRecDepth 100000 in
theorem len32_22 (w : World) : Calls Tryz.prog 224 #[.int .u32 4194303] w fun e w' => e = .returned (.int .i64 22) ∧ w = w' := by
  go_enter Tryz.func224, Tryz.ntmps224
  go_wp2_with fail
  go_ret
  exact ⟨by kernel_rfl, rfl⟩
set_option maxRecDepth 100000 in
theorem len32_23 (w : World) : Calls Tryz.prog 224 #[.int .u32 8388607] w fun e w' => e = .returned (.int .i64 23) ∧ w = w' := by
  go_enter Tryz.func224, Tryz.ntmps224
  go_wp2_with fail
  go_ret
  exact ⟨by kernel_rfl, rfl⟩
set_option maxRecDepth 100000 in
theorem len32_24 (w : World) : Calls Tryz.prog 224 #[.int .u32 16777215] w fun e w' => e = .returned (.int .i64 24) ∧ w = w' := by
  go_enter Tryz.func224, Tryz.ntmps224
  go_wp2_with fail
  go_ret
  exact ⟨by kernel_rfl, rfl⟩
set_option maxRecDepth 100000 in
theorem len32_25 (w : World) : Calls Tryz.prog 224 #[.int .u32 33554431] w fun e w' => e = .returned (.int .i64 25) ∧ w = w' := by
  go_enter Tryz.func224, Tryz.ntmps224
  go_wp2_with fail
  go_ret
  exact ⟨by kernel_rfl, rfl⟩
set_option maxRecDepth 100000 in
theorem len32_26 (w : World) : Calls Tryz.prog 224 #[.int .u32 67108863] w fun e w' => e = .returned (.int .i64 26) ∧ w = w' := by
  go_enter Tryz.func224, Tryz.ntmps224
  go_wp2_with fail
  go_ret
  exact ⟨by kernel_rfl, rfl⟩
set_option maxRecDepth 100000 in
theorem len32_27 (w : World) : Calls Tryz.prog 224 #[.int .u32 134217727] w fun e w' => e = .returned (.int .i64 27) ∧ w = w' := by
  go_enter Tryz.func224, Tryz.ntmps224
  go_wp2_with fail
  go_ret
  exact ⟨by kernel_rfl, rfl⟩
set_option maxRecDepth 100000 in
theorem len32_28 (w : World) : Calls Tryz.prog 224 #[.int .u32 268435455] w fun e w' => e = .returned (.int .i64 28) ∧ w = w' := by
  go_enter Tryz.func224, Tryz.ntmps224
  go_wp2_with fail
  go_ret
  exact ⟨by kernel_rfl, rfl⟩
set_option maxRecDepth 100000 in
theorem len32_29 (w : World) : Calls Tryz.prog 224 #[.int .u32 536870911] w fun e w' => e = .returned (.int .i64 29) ∧ w = w' := by
  go_enter Tryz.func224, Tryz.ntmps224
  go_wp2_with fail
  go_ret
  exact ⟨by kernel_rfl, rfl⟩
set_option maxRecDepth 100000 in
theorem len32_30 (w : World) : Calls Tryz.prog 224 #[.int .u32 1073741823] w fun e w' => e = .returned (.int .i64 30) ∧ w = w' := by
  go_enter Tryz.func224, Tryz.ntmps224
  go_wp2_with fail
  go_ret
  exact ⟨by kernel_rfl, rfl⟩
set_option maxRecDepth 100000 in
theorem len32_31 (w : World) : Calls Tryz.prog 224 #[.int .u32 2147483647] w fun e w' => e = .returned (.int .i64 31) ∧ w = w' := by
  go_enter Tryz.func224, Tryz.ntmps224
  go_wp2_with fail
  go_ret
  exact ⟨by kernel_rfl, rfl⟩
set_option maxRecDepth 100000 in
theorem len32_32 (w : World) : Calls Tryz.prog 224 #[.int .u32 4294967295] w fun e w' => e = .returned (.int .i64 32) ∧ w = w' := by
  go_enter Tryz.func224, Tryz.ntmps224
  go_wp2_with fail
  go_ret
  exact ⟨by kernel_rfl, rfl⟩
theorem xor_u32 (x : Nat) (hx : x < 4294967296) : bits .xor .u32 IntKind.u32.max (x : Int) = ((4294967295 - x : Nat) : Int) := by
  have h1 : (BitVec.ofInt 32 (x : Int)).toNat = x := by
    rw [BitVec.ofInt_natCast, BitVec.toNat_ofNat]; exact Nat.mod_eq_of_lt (by omega)
  have h2 : BitVec.ofInt 32 IntKind.u32.max = BitVec.allOnes 32 := by decide
  show IntKind.u32.wrap ((BitVec.ofInt 32 IntKind.u32.max ^^^ BitVec.ofInt 32 (x : Int)).toNat : Int) = _
  rw [h2, BitVec.allOnes_xor, BitVec.toNat_not, h1]
  show ((2 ^ 32 - 1 - x : Nat) : Int) % 4294967296 = _
  omega
theorem not_mask (n : Nat) (h : n ≤ 32) : (4294967295 : Int) - (maskN n : Int) = ((2 ^ (32 - n) - 1 : Nat) : Int) := by
  have h1 := pow_le32 n
  have h2 : 0 < 2 ^ (32 - n) := Nat.two_pow_pos _
  unfold maskN
  omega
theorem len32_any (m : Nat) (w : World) (h : m ≤ 32) : Calls Tryz.prog 224 #[.int .u32 ((2 ^ m - 1 : Nat) : Int)] w fun e w' => e = .returned (.int .i64 m) ∧ w = w' := by
  have hm : m = 0 ∨ m = 1 ∨ m = 2 ∨ m = 3 ∨ m = 4 ∨ m = 5 ∨ m = 6 ∨ m = 7 ∨ m = 8 ∨ m = 9 ∨ m = 10 ∨ m = 11 ∨ m = 12 ∨ m = 13 ∨ m = 14 ∨ m = 15 ∨ m = 16 ∨ m = 17 ∨ m = 18 ∨ m = 19 ∨ m = 20 ∨ m = 21 ∨ m = 22 ∨ m = 23 ∨ m = 24 ∨ m = 25 ∨ m = 26 ∨ m = 27 ∨ m = 28 ∨ m = 29 ∨ m = 30 ∨ m = 31 ∨ m = 32 := by omega
  rcases hm with rfl | rfl | rfl | rfl | rfl | rfl | rfl | rfl | rfl | rfl | rfl | rfl | rfl | rfl | rfl | rfl | rfl | rfl | rfl | rfl | rfl | rfl | rfl | rfl | rfl | rfl | rfl | rfl | rfl | rfl | rfl | rfl | rfl
  · exact len32_0 w
  · exact len32_1 w
  · exact len32_2 w
  · exact len32_3 w
  · exact len32_4 w
  · exact len32_5 w
  · exact len32_6 w
  · exact len32_7 w
  · exact len32_8 w
  · exact len32_9 w
  · exact len32_10 w
  · exact len32_11 w
  · exact len32_12 w
  · exact len32_13 w
  · exact len32_14 w
  · exact len32_15 w
  · exact len32_16 w
  · exact len32_17 w
  · exact len32_18 w
  · exact len32_19 w
  · exact len32_20 w
  · exact len32_21 w
  · exact len32_22 w
  · exact len32_23 w
  · exact len32_24 w
  · exact len32_25 w
  · exact len32_26 w
  · exact len32_27 w
  · exact len32_28 w
  · exact len32_29 w
  · exact len32_30 w
  · exact len32_31 w
  · exact len32_32 w

set_option maxHeartbeats 1000000 in
theorem mask_is (n : Nat) (w : World) (h1 : n ≤ 32) :
    Calls Tryz.prog 185 #[.int .i64 n] w fun e w' => e = .returned (.tuple #[.int .u32 (maskN n), .int .i64 0]) ∧ w = w' := by
  have d0 : decide ((n : Int) < 0) = false := by simp
  have d1 : decide ((32 : Int) < (n : Int)) = false := by simp; omega
  go_enter Tryz.func185, Tryz.ntmps185
  go_wp2_with fail
  refine wp_scope_fwd 0 rfl ?_
  go_wp2_with fail
  refine (mask_any n _ h1).mono ?_
  rintro e w' ⟨rfl, rfl⟩
  go_wp2_with fail
  refine jump_ret ?_
  go_ret2
  exact ⟨rfl, rfl⟩

set_option maxHeartbeats 1000000 in
theorem lz_any (y m : Nat) (w : World) (hm : m ≤ 32) (h : Calls Tryz.prog 224 #[.int .u32 (y : Int)] w fun e w' => e = .returned (.int .i64 m) ∧ w = w') :
    Calls Tryz.prog 223 #[.int .u32 (y : Int)] w fun e w' => e = .returned (.int .i64 (32 - (m : Int))) ∧ w = w' := by
  have H := Lib.hid h; clear h
  go_enter Tryz.func223, Tryz.ntmps223
  go_wp2_with fail
  refine H.out.mono ?_
  rintro e w' ⟨rfl, rfl⟩
  go_wp2_with fail
  go_ret
  exact ⟨rfl, rfl⟩

set_option maxHeartbeats 1000000 in
theorem len_is (n : Nat) (w : World) (h1 : n ≤ 32) :
    Calls Tryz.prog 210 #[.int .u32 (maskN n)] w fun e w' => e = .returned (.tuple #[.int .i64 n, .int .i64 0]) ∧ w = w' := by
  have hx := not_mask n h1
  have hlt := maskN_lt n
  have hxor := xor_u32 (maskN n) hlt
  have e2 : 4294967295 - maskN n = 2 ^ (32 - n) - 1 := by omega
  rw [e2] at hxor
  have Hm := Lib.hid (mask_is n)
  have Hlz := Lib.hid (fun w => len32_any (32 - n) w (by omega))
  obtain ⟨y, hy⟩ : ∃ y, 2 ^ (32 - n) - 1 = y := ⟨_, rfl⟩
  obtain ⟨x, hxx⟩ : ∃ x, maskN n = x := ⟨_, rfl⟩
  rw [hy, hxx] at hxor
  rw [hxx] at Hm hlt
  rw [hy] at Hlz
  have hyb : y < 4294967296 := by have := pow_le32 n; omega
  obtain ⟨m, hm⟩ : ∃ m, 32 - n = m := ⟨_, rfl⟩
  rw [hm] at Hlz
  have hm2 : (32 : Int) - (m : Int) = (n : Int) := by omega
  have Hm2 := Lib.hid hm2
  have hmb : m ≤ 32 := by omega
  rw [hxx]
  clear hx e2 hy hxx hm hm2
  have hne : ((x : Int) != (x : Int)) = false := by simp
  have Hxor := Lib.hid hxor; clear hxor
  go_enter Tryz.func210, Tryz.ntmps210
  go_wp2_with fail
  refine wp_scope_fwd 0 rfl ?_
  go_wp2_with fail
  rw [Hxor.out]
  refine (lz_any y m _ hmb (Hlz.out _)).mono ?_
  rintro e w' ⟨rfl, rfl⟩
  rw [Hm2.out]
  go_wp2_with fail
  refine (Hm.out _ h1).mono ?_
  rintro e w' ⟨rfl, rfl⟩
  go_wp2_with fail
  refine jump_ret ?_
  go_ret2
  exact ⟨rfl, rfl⟩
end Go.Proofs.YtbfimimhgdkpaaaGreatDoor

/- entry.Why and entry.Of of a prefix that may be, with metric 1; route's isTold. -/
namespace Go.Proofs.YtbfimimhgdkpaaaGreatDoor
open Go.RowKit

def badKind (a n : Nat) : Bool := if kindAd a = 6 then false else if kindAd a = 1 then decide (n ≠ 0) else true
theorem kindN_range (a : Nat) : 1 ≤ kindAd a ∧ kindAd a ≤ 6 := by unfold kindAd; split <;> (try split) <;> (try split) <;> (try split) <;> (try split) <;> omega
theorem mask_ne (n : Nat) (h : n ≤ 32) : ((maskN n : Int) != 0) = decide (n ≠ 0) := by
  have h1 : 2 ^ (32 - n) ≤ 4294967296 := pow_le32 n
  by_cases e : n = 0
  · subst e; decide
  · have : 2 ^ (32 - n) < 2 ^ 32 := Nat.pow_lt_pow_right (by omega) (by omega)
    have h3 : maskN n ≠ 0 := by unfold maskN; omega
    simp [e, h3]

set_option maxRecDepth 100000 in
set_option maxHeartbeats 1000000 in
theorem er1_any (a n : Nat) (w : World) (ha : a < 4294967296) (hn : n ≤ 32) (hc : cut a n = a) : Calls Tryz.prog 208 #[.agg #[.int .i64 2, .int .i64 0, .int .u32 a, .int .u32 (maskN n), .int .u32 0, .int .u32 1]] w fun e w' => e = .returned (.bool false) ∧ Kp w w' := by
  clear ha hn hc
  go_enter Tryz.func208, Tryz.ntmps208
  go_wp2_with fail
  go_ret
  exact ⟨rfl, (Kp.refl _).alloc _⟩
set_option maxRecDepth 100000 in
set_option maxHeartbeats 1000000 in
theorem er2_any (a n : Nat) (w : World) (ha : a < 4294967296) (hn : n ≤ 32) (hc : cut a n = a) : Calls Tryz.prog 209 #[.agg #[.int .i64 2, .int .i64 0, .int .u32 a, .int .u32 (maskN n), .int .u32 0, .int .u32 1]] w fun e w' => e = .returned (.bool false) ∧ Kp w w' := by
  clear hc
  go_enter Tryz.func209, Tryz.ntmps209
  go_wp2_with fail
  refine (len_is n _ hn).mono ?_
  rintro e w' ⟨rfl, rfl⟩
  go_wp2_with fail
  go_ret
  exact ⟨rfl, (Kp.refl _).alloc _⟩
set_option maxRecDepth 100000 in
set_option maxHeartbeats 1000000 in
theorem er3_any (a n : Nat) (w : World) (ha : a < 4294967296) (hn : n ≤ 32) (hc : cut a n = a) : Calls Tryz.prog 211 #[.agg #[.int .i64 2, .int .i64 0, .int .u32 a, .int .u32 (maskN n), .int .u32 0, .int .u32 1]] w fun e w' => e = .returned (.bool false) ∧ Kp w w' := by
  have hz := notmask_zero ha hn
  rw [show (!decide (cut a n = a)) = false by simp [hc]] at hz
  clear hc
  go_enter Tryz.func211, Tryz.ntmps211
  go_wp2_with fail
  go_ret
  exact ⟨rfl, (Kp.refl _).alloc _⟩
set_option maxRecDepth 100000 in
set_option maxHeartbeats 1000000 in
theorem er5_any (a n : Nat) (w : World) (ha : a < 4294967296) (hn : n ≤ 32) (hc : cut a n = a) : Calls Tryz.prog 213 #[.agg #[.int .i64 2, .int .i64 0, .int .u32 a, .int .u32 (maskN n), .int .u32 0, .int .u32 1]] w fun e w' => e = .returned (.bool false) ∧ Kp w w' := by
  clear ha hn hc
  go_enter Tryz.func213, Tryz.ntmps213
  go_wp2_with fail
  go_ret
  exact ⟨rfl, (Kp.refl _).alloc _⟩
set_option maxRecDepth 100000 in
set_option maxHeartbeats 1000000 in
theorem er6_any (a n : Nat) (w : World) (ha : a < 4294967296) (hn : n ≤ 32) (hc : cut a n = a) : Calls Tryz.prog 214 #[.agg #[.int .i64 2, .int .i64 0, .int .u32 a, .int .u32 (maskN n), .int .u32 0, .int .u32 1]] w fun e w' => e = .returned (.bool false) ∧ Kp w w' := by
  clear ha hn hc
  go_enter Tryz.func214, Tryz.ntmps214
  go_wp2_with fail
  go_ret
  exact ⟨rfl, (Kp.refl _).alloc _⟩
set_option maxRecDepth 100000 in
set_option maxHeartbeats 1000000 in
theorem er4_any (a n : Nat) (w : World) (ha : a < 4294967296) (hn : n ≤ 32) (hc : cut a n = a) : Calls Tryz.prog 212 #[.agg #[.int .i64 2, .int .i64 0, .int .u32 a, .int .u32 (maskN n), .int .u32 0, .int .u32 1]] w fun e w' => e = .returned (.bool (badKind a n)) ∧ Kp w w' := by
  have hm := mask_ne n hn
  have Hm := Lib.hid hm; clear hm
  obtain ⟨K, hK⟩ : ∃ K, kindAd a = K := ⟨_, rfl⟩
  have hr := kindN_range a
  rw [hK] at hr
  have HK := Lib.hid hK; clear hK hc
  obtain ⟨W, hW, kW, B0⟩ : ∃ W, w.alloc (.cells #[.int .i64 2, .int .i64 0, .int .u32 a, .int .u32 (maskN n), .int .u32 0, .int .u32 1] 212) = W ∧ Kp w W ∧ Blk W w.heap.size 212 #[.int .i64 2, .int .i64 0, .int .u32 a, .int .u32 (maskN n), .int .u32 0, .int .u32 1] := ⟨_, rfl, (Kp.refl _).alloc _, Blk.new w _ _⟩
  have c2 : W.cell? ⟨w.heap.size, 2, none⟩ = some (.int .u32 a) := B0.cell 2
  go_enter Tryz.func212, Tryz.ntmps212
  go_wp2_with fail
  refine (kindAd_any a _ ha).mono ?_
  rintro e w1 ⟨rfl, hK1⟩
  have k1 := kW.trans hK1
  have B1 := B0.keep hK1
  have d3 : w1.cell? ⟨w.heap.size, 3, none⟩ = some (.int .u32 (maskN n)) := B1.cell 3
  rw [HK.out]
  clear hW c2
  have hk6 : K = 1 ∨ K = 2 ∨ K = 3 ∨ K = 4 ∨ K = 5 ∨ K = 6 := by omega
  rcases hk6 with rfl | rfl | rfl | rfl | rfl | rfl
  · have H := Lib.hid (show badKind a n = decide (n ≠ 0) by simp [badKind, HK.out])
    go_wp2_with fail
    go_ret
    exact ⟨by rw [H.out, ← Hm.out]; rfl, k1⟩
  · have H := Lib.hid (show badKind a n = true by simp [badKind, HK.out])
    go_wp2_with fail
    go_ret
    exact ⟨by rw [H.out]; rfl, k1⟩
  · have H := Lib.hid (show badKind a n = true by simp [badKind, HK.out])
    go_wp2_with fail
    go_ret
    exact ⟨by rw [H.out]; rfl, k1⟩
  · have H := Lib.hid (show badKind a n = true by simp [badKind, HK.out])
    go_wp2_with fail
    go_ret
    exact ⟨by rw [H.out]; rfl, k1⟩
  · have H := Lib.hid (show badKind a n = true by simp [badKind, HK.out])
    go_wp2_with fail
    go_ret
    exact ⟨by rw [H.out]; rfl, k1⟩
  · have H := Lib.hid (show badKind a n = false by simp [badKind, HK.out])
    go_wp2_with fail
    go_ret
    exact ⟨by rw [H.out]; rfl, k1⟩

def whyCells : Array Value := #[.int .i64 1, .func (.func 208) #[] #[], .int .i64 2, .func (.func 209) #[] #[], .int .i64 3, .func (.func 211) #[] #[], .int .i64 4, .func (.func 212) #[] #[], .int .i64 5, .func (.func 213) #[] #[], .int .i64 6, .func (.func 214) #[] #[]]
set_option maxHeartbeats 1000000 in
theorem rules_any (w : World) : Calls Tryz.prog 199 #[] w fun e w' => e = .returned (.slice (some ⟨w.heap.size, 0, none⟩) 6 6) ∧ Blk w' w.heap.size 267 whyCells ∧ Kp w w' := by
  go_enter Tryz.func199, Tryz.ntmps199
  go_wp2_with fail
  go_ret
  exact ⟨rfl, Blk.new w _ _, (Kp.refl _).alloc _⟩

def whyN (a n : Nat) : Int := if badKind a n then 4 else 0
set_option maxRecDepth 100000 in
set_option maxHeartbeats 2000000 in
theorem why_any (a n : Nat) (w : World) (ha : a < 4294967296) (hn : n ≤ 32) (hc : cut a n = a) : Calls Tryz.prog 186 #[.agg #[.int .i64 2, .int .i64 0, .int .u32 a, .int .u32 (maskN n), .int .u32 0, .int .u32 1]] w fun e w' => e = .returned (.int .i64 (whyN a n)) ∧ Kp w w' := by
  have Hc := Lib.hid hc; clear hc
  go_enter Tryz.func186, Tryz.ntmps186
  go_wp2_with fail
  refine (rules_any _).mono ?_
  simp only [World.size_alloc]
  rintro e w1 ⟨rfl, hR, hK1⟩
  have hB := (Blk.new w 212 #[.int .i64 2, .int .i64 0, .int .u32 a, .int .u32 (maskN n), .int .u32 0, .int .u32 1]).keep hK1
  have hk1 : Kp w w1 := ((Kp.refl _).alloc _).trans hK1
  clear hK1
  go_wp2_with fail
  go_loopw [7] (fun i wr => ∃ k : Nat, k ≤ 6 ∧ i = .int .i64 k ∧ Hid (3 < k → badKind a n = false) ∧ Kp w1 wr) (fun i _ => 6 - (intOf i).toNat)
  case atStart => exact ⟨0, by omega, rfl, fun h => absurd h (by omega), Kp.refl _⟩
  case round =>
    obtain ⟨k, hk, rfl, hall, hK⟩ := hrel
    have B := hB.keep hK
    have R := hR.keep hK
    have e0 : wr.cell? ⟨w.heap.size, 0, none⟩ = some (.int .i64 2) := B.cell 0
    have e1 : wr.cell? ⟨w.heap.size, 1, none⟩ = some (.int .i64 0) := B.cell 1
    have e2 : wr.cell? ⟨w.heap.size, 2, none⟩ = some (.int .u32 a) := B.cell 2
    have e3 : wr.cell? ⟨w.heap.size, 3, none⟩ = some (.int .u32 (maskN n)) := B.cell 3
    have e4 : wr.cell? ⟨w.heap.size, 4, none⟩ = some (.int .u32 0) := B.cell 4
    have e5 : wr.cell? ⟨w.heap.size, 5, none⟩ = some (.int .u32 1) := B.cell 5
    have kw := hk1.trans hK
    have hlt := B.lt
    have hk2 : k = 0 ∨ k = 1 ∨ k = 2 ∨ k = 3 ∨ k = 4 ∨ k = 5 ∨ k = 6 := by omega
    rcases hk2 with rfl | rfl | rfl | rfl | rfl | rfl | rfl
    · have c0 : wr.cell? ⟨w.heap.size + 1, 0, none⟩ = some (.int .i64 1) := R.cell 0
      have c1 : wr.cell? ⟨w.heap.size + 1, 1, none⟩ = some (.func (.func 208) #[] #[]) := R.cell 1
      have D := Blk.new wr 267 #[.int .i64 1, .func (.func 208) #[] #[]]
      go_wp2_with fail
      refine (er1_any a n _ ha hn Hc.out).mono ?_
      rintro e w2 ⟨rfl, hK2⟩
      have D2 := D.keep hK2
      have k2 : Kp w1 w2 := (hK.alloc _).trans hK2
      have d0 : w2.cell? ⟨wr.heap.size, 0, none⟩ = some (.int .i64 1) := D2.cell 0
      go_wp2_with fail
      go_roundw
      case rel => exact ⟨1, by omega, by go_num, fun h => absurd h (by omega), k2⟩
      case measure => simp [intOf] <;> omega
    · have c0 : wr.cell? ⟨w.heap.size + 1, 2, none⟩ = some (.int .i64 2) := R.cell 2
      have c1 : wr.cell? ⟨w.heap.size + 1, 3, none⟩ = some (.func (.func 209) #[] #[]) := R.cell 3
      have D := Blk.new wr 267 #[.int .i64 2, .func (.func 209) #[] #[]]
      go_wp2_with fail
      refine (er2_any a n _ ha hn Hc.out).mono ?_
      rintro e w2 ⟨rfl, hK2⟩
      have D2 := D.keep hK2
      have k2 : Kp w1 w2 := (hK.alloc _).trans hK2
      have d0 : w2.cell? ⟨wr.heap.size, 0, none⟩ = some (.int .i64 2) := D2.cell 0
      go_wp2_with fail
      go_roundw
      case rel => exact ⟨2, by omega, by go_num, fun h => absurd h (by omega), k2⟩
      case measure => simp [intOf] <;> omega
    · have c0 : wr.cell? ⟨w.heap.size + 1, 4, none⟩ = some (.int .i64 3) := R.cell 4
      have c1 : wr.cell? ⟨w.heap.size + 1, 5, none⟩ = some (.func (.func 211) #[] #[]) := R.cell 5
      have D := Blk.new wr 267 #[.int .i64 3, .func (.func 211) #[] #[]]
      go_wp2_with fail
      refine (er3_any a n _ ha hn Hc.out).mono ?_
      rintro e w2 ⟨rfl, hK2⟩
      have D2 := D.keep hK2
      have k2 : Kp w1 w2 := (hK.alloc _).trans hK2
      have d0 : w2.cell? ⟨wr.heap.size, 0, none⟩ = some (.int .i64 3) := D2.cell 0
      go_wp2_with fail
      go_roundw
      case rel => exact ⟨3, by omega, by go_num, fun h => absurd h (by omega), k2⟩
      case measure => simp [intOf] <;> omega
    · have c0 : wr.cell? ⟨w.heap.size + 1, 6, none⟩ = some (.int .i64 4) := R.cell 6
      have c1 : wr.cell? ⟨w.heap.size + 1, 7, none⟩ = some (.func (.func 212) #[] #[]) := R.cell 7
      have D := Blk.new wr 267 #[.int .i64 4, .func (.func 212) #[] #[]]
      go_wp2_with fail
      refine (er4_any a n _ ha hn Hc.out).mono ?_
      rintro e w2 ⟨rfl, hK2⟩
      have D2 := D.keep hK2
      have k2 : Kp w1 w2 := (hK.alloc _).trans hK2
      have d0 : w2.cell? ⟨wr.heap.size, 0, none⟩ = some (.int .i64 4) := D2.cell 0
      cases hb : badKind a n with
      | true =>
        have H := Lib.hid (show whyN a n = 4 by simp [whyN, hb])
        clear hb
        go_wp2_with fail
        go_ret
        exact ⟨by rw [H.out]; rfl, hk1.trans k2⟩
      | false =>
        have Hb := Lib.hid hb; clear hb
        go_wp2_with fail
        go_roundw
        case rel => exact ⟨4, by omega, by go_num, fun h => Hb.out, k2⟩
        case measure => simp [intOf] <;> omega
    · have c0 : wr.cell? ⟨w.heap.size + 1, 8, none⟩ = some (.int .i64 5) := R.cell 8
      have c1 : wr.cell? ⟨w.heap.size + 1, 9, none⟩ = some (.func (.func 213) #[] #[]) := R.cell 9
      have D := Blk.new wr 267 #[.int .i64 5, .func (.func 213) #[] #[]]
      go_wp2_with fail
      refine (er5_any a n _ ha hn Hc.out).mono ?_
      rintro e w2 ⟨rfl, hK2⟩
      have D2 := D.keep hK2
      have k2 : Kp w1 w2 := (hK.alloc _).trans hK2
      have d0 : w2.cell? ⟨wr.heap.size, 0, none⟩ = some (.int .i64 5) := D2.cell 0
      go_wp2_with fail
      go_roundw
      case rel => exact ⟨5, by omega, by go_num, fun h => hall.out (by omega), k2⟩
      case measure => simp [intOf] <;> omega
    · have c0 : wr.cell? ⟨w.heap.size + 1, 10, none⟩ = some (.int .i64 6) := R.cell 10
      have c1 : wr.cell? ⟨w.heap.size + 1, 11, none⟩ = some (.func (.func 214) #[] #[]) := R.cell 11
      have D := Blk.new wr 267 #[.int .i64 6, .func (.func 214) #[] #[]]
      go_wp2_with fail
      refine (er6_any a n _ ha hn Hc.out).mono ?_
      rintro e w2 ⟨rfl, hK2⟩
      have D2 := D.keep hK2
      have k2 : Kp w1 w2 := (hK.alloc _).trans hK2
      have d0 : w2.cell? ⟨wr.heap.size, 0, none⟩ = some (.int .i64 6) := D2.cell 0
      go_wp2_with fail
      go_roundw
      case rel => exact ⟨6, by omega, by go_num, fun h => hall.out (by omega), k2⟩
      case measure => simp [intOf] <;> omega
    · have H := Lib.hid (show whyN a n = 0 by simp [whyN, hall.out (by omega)])
      clear hall
      go_wp2_with fail
      go_ret
      exact ⟨by rw [H.out]; rfl, kw⟩
end Go.Proofs.YtbfimimhgdkpaaaGreatDoor

/- Routes: route.Check. -/
namespace Go.Proofs.YtbfimimhgdkpaaaGreatDoor
open Go.RowKit

/-- A route that came in. -/
structure Rt where
  p : PI
  s : Int
  m : Int
  l : Int
  f : Int
  x : Nat
  d : Int
  c : Bool
def Rt.enc (r : Rt) : List Value := [.int .u32 r.p.a, .int .i64 r.p.l, .int .i64 r.s, .int .i64 r.m, .int .i64 r.l, .int .i64 r.f, .int .u32 r.x, .int .i64 r.d, .bool r.c]
theorem Rt.len (r : Rt) : r.enc.length = 9 := rfl
def toldB (p : PI) : Bool := p.okB && !badKind p.a p.l.toNat
def hasB (r : Rt) (m l : Int) : Bool := (r.m == m) && (r.l == l)
def nowB (r : Rt) : Bool := (r.f == 0) && (((r.x : Int) == 0) && (r.d == 0))
def withB (lo hi n : Int) : Bool := !(decide (n < lo)) && !(decide (hi < n))
def mayB (f : Int) (x : Nat) : Bool := withB 0 15 f && ((kindAd x : Int) == 6)
def someB (r : Rt) : Bool := mayB r.f r.x && withB 0 4611686018427387904 r.d
def stateB (r : Rt) : Bool :=
  if r.s = 0 then hasB r 0 0 && (nowB r && !r.c)
  else if r.s = 1 then hasB r 1 0 && nowB r
  else if r.s = 2 then withB 2 15 r.m && (hasB r r.m 0 && someB r)
  else if r.s = 3 then withB 2 15 r.l && (hasB r 16 r.l && someB r)
  else if r.s = 4 then hasB r 16 0 && someB r
  else false
def checkR (r : Rt) : Int := if stateB r && toldB r.p then 0 else 2

set_option maxRecDepth 100000 in
set_option maxHeartbeats 1000000 in
theorem within_int (lo hi n : Int) (g : Nat) (w : World) (hB : Blk w g 3 #[.int .i64 n]) : Calls Tryz.prog 153 #[.int .i64 lo, .int .i64 hi, .slice (some ⟨g, 0, none⟩) 1 1] w fun e w' => e = .returned (.bool (withB lo hi n)) ∧ w = w' := by
  have c0 : w.cell? ⟨g, 0, none⟩ = some (.int .i64 n) := hB.cell 0
  clear hB
  go_enter Tryz.func153, Tryz.ntmps153
  go_wp2_with fail
  go_loop [11] (fun i => ∃ k : Nat, k ≤ 1 ∧ i = .int .i64 k ∧ Hid (k = 1 → withB lo hi n = true)) (fun i => 1 - (intOf i).toNat)
  case atStart => exact ⟨0, by omega, rfl, fun h => absurd h (by omega)⟩
  case round =>
    obtain ⟨k, hk, rfl, hall⟩ := hrel
    have hk2 : k = 0 ∨ k = 1 := by omega
    rcases hk2 with rfl | rfl
    · cases h1 : decide (n < lo) with
      | true =>
        have H := Lib.hid (show withB lo hi n = false by simp only [withB, h1]; rfl)
        go_wp2_with fail
        go_ret
        exact ⟨by rw [H.out]; rfl, rfl⟩
      | false =>
        cases h2 : decide (hi < n) with
        | true =>
          have H := Lib.hid (show withB lo hi n = false by simp only [withB, h1, h2]; rfl)
          go_wp2_with fail
          go_ret
          exact ⟨by rw [H.out]; rfl, rfl⟩
        | false =>
          have H := Lib.hid (show withB lo hi n = true by simp only [withB, h1, h2]; rfl)
          go_wp2_with fail
          go_round
          case rel => exact ⟨1, by omega, by go_num, fun _ => H.out⟩
          case measure => simp [intOf] <;> omega
    · have H := Lib.hid (hall.out rfl)
      clear hall
      go_wp2_with fail
      go_ret
      exact ⟨by rw [H.out]; rfl, rfl⟩
set_option maxRecDepth 100000 in
set_option maxHeartbeats 1000000 in
theorem within_int64 (lo hi n : Int) (g : Nat) (w : World) (hB : Blk w g 2 #[.int .i64 n]) : Calls Tryz.prog 183 #[.int .i64 lo, .int .i64 hi, .slice (some ⟨g, 0, none⟩) 1 1] w fun e w' => e = .returned (.bool (withB lo hi n)) ∧ w = w' := by
  have c0 : w.cell? ⟨g, 0, none⟩ = some (.int .i64 n) := hB.cell 0
  clear hB
  go_enter Tryz.func183, Tryz.ntmps183
  go_wp2_with fail
  go_loop [11] (fun i => ∃ k : Nat, k ≤ 1 ∧ i = .int .i64 k ∧ Hid (k = 1 → withB lo hi n = true)) (fun i => 1 - (intOf i).toNat)
  case atStart => exact ⟨0, by omega, rfl, fun h => absurd h (by omega)⟩
  case round =>
    obtain ⟨k, hk, rfl, hall⟩ := hrel
    have hk2 : k = 0 ∨ k = 1 := by omega
    rcases hk2 with rfl | rfl
    · cases h1 : decide (n < lo) with
      | true =>
        have H := Lib.hid (show withB lo hi n = false by simp only [withB, h1]; rfl)
        go_wp2_with fail
        go_ret
        exact ⟨by rw [H.out]; rfl, rfl⟩
      | false =>
        cases h2 : decide (hi < n) with
        | true =>
          have H := Lib.hid (show withB lo hi n = false by simp only [withB, h1, h2]; rfl)
          go_wp2_with fail
          go_ret
          exact ⟨by rw [H.out]; rfl, rfl⟩
        | false =>
          have H := Lib.hid (show withB lo hi n = true by simp only [withB, h1, h2]; rfl)
          go_wp2_with fail
          go_round
          case rel => exact ⟨1, by omega, by go_num, fun _ => H.out⟩
          case measure => simp [intOf] <;> omega
    · have H := Lib.hid (hall.out rfl)
      clear hall
      go_wp2_with fail
      go_ret
      exact ⟨by rw [H.out]; rfl, rfl⟩
set_option maxRecDepth 100000 in
set_option maxHeartbeats 1000000 in
theorem hasR_any (r : Rt) (m l : Int) (w : World) : Calls Tryz.prog 149 #[.agg #[.int .u32 r.p.a, .int .i64 r.p.l, .int .i64 r.s, .int .i64 r.m, .int .i64 r.l, .int .i64 r.f, .int .u32 r.x, .int .i64 r.d, .bool r.c], .int .i64 m, .int .i64 l] w fun e w' => e = .returned (.bool (hasB r m l)) ∧ Kp w w' := by
  obtain ⟨W, hW, kW, B0⟩ : ∃ W, w.alloc (.cells #[.int .u32 r.p.a, .int .i64 r.p.l, .int .i64 r.s, .int .i64 r.m, .int .i64 r.l, .int .i64 r.f, .int .u32 r.x, .int .i64 r.d, .bool r.c] 166) = W ∧ Kp w W ∧ Blk W w.heap.size 166 #[.int .u32 r.p.a, .int .i64 r.p.l, .int .i64 r.s, .int .i64 r.m, .int .i64 r.l, .int .i64 r.f, .int .u32 r.x, .int .i64 r.d, .bool r.c] := ⟨_, rfl, (Kp.refl _).alloc _, Blk.new w _ _⟩
  have c0 : W.cell? ⟨w.heap.size, 0, none⟩ = some (.int .u32 r.p.a) := B0.cell 0
  have c1 : W.cell? ⟨w.heap.size, 1, none⟩ = some (.int .i64 r.p.l) := B0.cell 1
  have c2 : W.cell? ⟨w.heap.size, 2, none⟩ = some (.int .i64 r.s) := B0.cell 2
  have c3 : W.cell? ⟨w.heap.size, 3, none⟩ = some (.int .i64 r.m) := B0.cell 3
  have c4 : W.cell? ⟨w.heap.size, 4, none⟩ = some (.int .i64 r.l) := B0.cell 4
  have c5 : W.cell? ⟨w.heap.size, 5, none⟩ = some (.int .i64 r.f) := B0.cell 5
  have c6 : W.cell? ⟨w.heap.size, 6, none⟩ = some (.int .u32 r.x) := B0.cell 6
  have c7 : W.cell? ⟨w.heap.size, 7, none⟩ = some (.int .i64 r.d) := B0.cell 7
  have c8 : W.cell? ⟨w.heap.size, 8, none⟩ = some (.bool r.c) := B0.cell 8
  cases h1 : (r.m == m) with
  | true =>
    have H := Lib.hid (show hasB r m l = (r.l == l) by simp only [hasB, h1, Bool.true_and])
    go_enter Tryz.func149, Tryz.ntmps149
    go_wp2_with fail
    go_ret
    exact ⟨by rw [H.out]; rfl, kW⟩
  | false =>
    have H := Lib.hid (show hasB r m l = false by simp only [hasB, h1, Bool.false_and])
    go_enter Tryz.func149, Tryz.ntmps149
    go_wp2_with fail
    go_ret
    exact ⟨by rw [H.out]; rfl, kW⟩

set_option maxRecDepth 100000 in
set_option maxHeartbeats 1000000 in
theorem nowhere_any (r : Rt) (w : World) : Calls Tryz.prog 150 #[.agg #[.int .u32 r.p.a, .int .i64 r.p.l, .int .i64 r.s, .int .i64 r.m, .int .i64 r.l, .int .i64 r.f, .int .u32 r.x, .int .i64 r.d, .bool r.c]] w fun e w' => e = .returned (.bool (nowB r)) ∧ Kp w w' := by
  obtain ⟨W, hW, kW, B0⟩ : ∃ W, w.alloc (.cells #[.int .u32 r.p.a, .int .i64 r.p.l, .int .i64 r.s, .int .i64 r.m, .int .i64 r.l, .int .i64 r.f, .int .u32 r.x, .int .i64 r.d, .bool r.c] 166) = W ∧ Kp w W ∧ Blk W w.heap.size 166 #[.int .u32 r.p.a, .int .i64 r.p.l, .int .i64 r.s, .int .i64 r.m, .int .i64 r.l, .int .i64 r.f, .int .u32 r.x, .int .i64 r.d, .bool r.c] := ⟨_, rfl, (Kp.refl _).alloc _, Blk.new w _ _⟩
  have c0 : W.cell? ⟨w.heap.size, 0, none⟩ = some (.int .u32 r.p.a) := B0.cell 0
  have c1 : W.cell? ⟨w.heap.size, 1, none⟩ = some (.int .i64 r.p.l) := B0.cell 1
  have c2 : W.cell? ⟨w.heap.size, 2, none⟩ = some (.int .i64 r.s) := B0.cell 2
  have c3 : W.cell? ⟨w.heap.size, 3, none⟩ = some (.int .i64 r.m) := B0.cell 3
  have c4 : W.cell? ⟨w.heap.size, 4, none⟩ = some (.int .i64 r.l) := B0.cell 4
  have c5 : W.cell? ⟨w.heap.size, 5, none⟩ = some (.int .i64 r.f) := B0.cell 5
  have c6 : W.cell? ⟨w.heap.size, 6, none⟩ = some (.int .u32 r.x) := B0.cell 6
  have c7 : W.cell? ⟨w.heap.size, 7, none⟩ = some (.int .i64 r.d) := B0.cell 7
  have c8 : W.cell? ⟨w.heap.size, 8, none⟩ = some (.bool r.c) := B0.cell 8
  cases h1 : (r.f == 0) with
  | true =>
    cases h2 : ((r.x : Int) == 0) with
    | true =>
      have H := Lib.hid (show nowB r = (r.d == 0) by simp only [nowB, h1, h2, Bool.true_and])
      go_enter Tryz.func150, Tryz.ntmps150
      go_wp2_with fail
      go_ret
      exact ⟨by rw [H.out]; rfl, kW⟩
    | false =>
      have H := Lib.hid (show nowB r = false by simp only [nowB, h1, h2, Bool.true_and, Bool.false_and])
      go_enter Tryz.func150, Tryz.ntmps150
      go_wp2_with fail
      go_ret
      exact ⟨by rw [H.out]; rfl, kW⟩
  | false =>
    have H := Lib.hid (show nowB r = false by simp only [nowB, h1, Bool.false_and])
    go_enter Tryz.func150, Tryz.ntmps150
    go_wp2_with fail
    go_ret
    exact ⟨by rw [H.out]; rfl, kW⟩

set_option maxRecDepth 100000 in
set_option maxHeartbeats 1000000 in
theorem mayCome_any (f : Int) (x : Nat) (w : World) (hx : x < 4294967296) : Calls Tryz.prog 182 #[.int .i64 f, .int .u32 x] w fun e w' => e = .returned (.bool (mayB f x)) ∧ Kp w w' := by
  go_enter Tryz.func182, Tryz.ntmps182
  go_wp2_with fail
  refine (within_int 0 15 f w.heap.size _ (Blk.new w _ _)).mono ?_
  rintro e w1 ⟨rfl, rfl⟩
  cases h1 : withB 0 15 f with
  | true =>
    have H := Lib.hid (show mayB f x = ((kindAd x : Int) == 6) by simp only [mayB, h1, Bool.true_and])
    go_wp2_with fail
    refine (kindAd_any x _ hx).mono ?_
    rintro e w2 ⟨rfl, hK2⟩
    go_wp2_with fail
    go_ret
    exact ⟨by rw [H.out]; rfl, ((Kp.refl _).alloc _).trans hK2⟩
  | false =>
    have H := Lib.hid (show mayB f x = false by simp only [mayB, h1, Bool.false_and])
    go_wp2_with fail
    go_ret
    exact ⟨by rw [H.out]; rfl, (Kp.refl _).alloc _⟩
set_option maxRecDepth 100000 in
set_option maxHeartbeats 1000000 in
theorem some_any (r : Rt) (w : World) (hx : r.x < 4294967296) : Calls Tryz.prog 154 #[.agg #[.int .u32 r.p.a, .int .i64 r.p.l, .int .i64 r.s, .int .i64 r.m, .int .i64 r.l, .int .i64 r.f, .int .u32 r.x, .int .i64 r.d, .bool r.c]] w fun e w' => e = .returned (.bool (someB r)) ∧ Kp w w' := by
  obtain ⟨W, hW, kW, B0⟩ : ∃ W, w.alloc (.cells #[.int .u32 r.p.a, .int .i64 r.p.l, .int .i64 r.s, .int .i64 r.m, .int .i64 r.l, .int .i64 r.f, .int .u32 r.x, .int .i64 r.d, .bool r.c] 166) = W ∧ Kp w W ∧ Blk W w.heap.size 166 #[.int .u32 r.p.a, .int .i64 r.p.l, .int .i64 r.s, .int .i64 r.m, .int .i64 r.l, .int .i64 r.f, .int .u32 r.x, .int .i64 r.d, .bool r.c] := ⟨_, rfl, (Kp.refl _).alloc _, Blk.new w _ _⟩
  have c0 : W.cell? ⟨w.heap.size, 0, none⟩ = some (.int .u32 r.p.a) := B0.cell 0
  have c1 : W.cell? ⟨w.heap.size, 1, none⟩ = some (.int .i64 r.p.l) := B0.cell 1
  have c2 : W.cell? ⟨w.heap.size, 2, none⟩ = some (.int .i64 r.s) := B0.cell 2
  have c3 : W.cell? ⟨w.heap.size, 3, none⟩ = some (.int .i64 r.m) := B0.cell 3
  have c4 : W.cell? ⟨w.heap.size, 4, none⟩ = some (.int .i64 r.l) := B0.cell 4
  have c5 : W.cell? ⟨w.heap.size, 5, none⟩ = some (.int .i64 r.f) := B0.cell 5
  have c6 : W.cell? ⟨w.heap.size, 6, none⟩ = some (.int .u32 r.x) := B0.cell 6
  have c7 : W.cell? ⟨w.heap.size, 7, none⟩ = some (.int .i64 r.d) := B0.cell 7
  have c8 : W.cell? ⟨w.heap.size, 8, none⟩ = some (.bool r.c) := B0.cell 8
  go_enter Tryz.func154, Tryz.ntmps154
  go_wp2_with fail
  refine (mayCome_any r.f r.x _ hx).mono ?_
  rintro e w1 ⟨rfl, hK1⟩
  have k1 := kW.trans hK1
  have B1 := B0.keep hK1
  have d7 : w1.cell? ⟨w.heap.size, 7, none⟩ = some (.int .i64 r.d) := B1.cell 7
  clear hW c0 c1 c2 c3 c4 c5 c6 c7 c8
  cases h1 : mayB r.f r.x with
  | true =>
    have H := Lib.hid (show someB r = withB 0 4611686018427387904 r.d by simp only [someB, h1, Bool.true_and])
    go_wp2_with fail
    refine (within_int64 0 4611686018427387904 r.d w1.heap.size _ (Blk.new w1 _ _)).mono ?_
    rintro e w2 ⟨rfl, rfl⟩
    go_wp2_with fail
    go_ret
    exact ⟨by rw [H.out]; rfl, k1.alloc _⟩
  | false =>
    have H := Lib.hid (show someB r = false by simp only [someB, h1, Bool.false_and])
    go_wp2_with fail
    go_ret
    exact ⟨by rw [H.out]; rfl, k1⟩

set_option maxRecDepth 100000 in
set_option maxHeartbeats 1000000 in
theorem st1_any (r : Rt) (w : World) : Calls Tryz.prog 148 #[.agg #[.int .u32 r.p.a, .int .i64 r.p.l, .int .i64 r.s, .int .i64 r.m, .int .i64 r.l, .int .i64 r.f, .int .u32 r.x, .int .i64 r.d, .bool r.c]] w fun e w' => e = .returned (.bool (hasB r 0 0 && (nowB r && !r.c))) ∧ Kp w w' := by
  obtain ⟨W, hW, kW, B0⟩ : ∃ W, w.alloc (.cells #[.int .u32 r.p.a, .int .i64 r.p.l, .int .i64 r.s, .int .i64 r.m, .int .i64 r.l, .int .i64 r.f, .int .u32 r.x, .int .i64 r.d, .bool r.c] 166) = W ∧ Kp w W ∧ Blk W w.heap.size 166 #[.int .u32 r.p.a, .int .i64 r.p.l, .int .i64 r.s, .int .i64 r.m, .int .i64 r.l, .int .i64 r.f, .int .u32 r.x, .int .i64 r.d, .bool r.c] := ⟨_, rfl, (Kp.refl _).alloc _, Blk.new w _ _⟩
  have c0 : W.cell? ⟨w.heap.size, 0, none⟩ = some (.int .u32 r.p.a) := B0.cell 0
  have c1 : W.cell? ⟨w.heap.size, 1, none⟩ = some (.int .i64 r.p.l) := B0.cell 1
  have c2 : W.cell? ⟨w.heap.size, 2, none⟩ = some (.int .i64 r.s) := B0.cell 2
  have c3 : W.cell? ⟨w.heap.size, 3, none⟩ = some (.int .i64 r.m) := B0.cell 3
  have c4 : W.cell? ⟨w.heap.size, 4, none⟩ = some (.int .i64 r.l) := B0.cell 4
  have c5 : W.cell? ⟨w.heap.size, 5, none⟩ = some (.int .i64 r.f) := B0.cell 5
  have c6 : W.cell? ⟨w.heap.size, 6, none⟩ = some (.int .u32 r.x) := B0.cell 6
  have c7 : W.cell? ⟨w.heap.size, 7, none⟩ = some (.int .i64 r.d) := B0.cell 7
  have c8 : W.cell? ⟨w.heap.size, 8, none⟩ = some (.bool r.c) := B0.cell 8
  go_enter Tryz.func148, Tryz.ntmps148
  go_wp2_with fail
  refine (hasR_any r 0 0 _).mono ?_
  rintro e w1 ⟨rfl, hK1⟩
  have k1 := kW.trans hK1
  have B1 := B0.keep hK1
  clear hW c0 c1 c2 c3 c4 c5 c6 c7 c8
  have c0 : w1.cell? ⟨w.heap.size, 0, none⟩ = some (.int .u32 r.p.a) := B1.cell 0
  have c1 : w1.cell? ⟨w.heap.size, 1, none⟩ = some (.int .i64 r.p.l) := B1.cell 1
  have c2 : w1.cell? ⟨w.heap.size, 2, none⟩ = some (.int .i64 r.s) := B1.cell 2
  have c3 : w1.cell? ⟨w.heap.size, 3, none⟩ = some (.int .i64 r.m) := B1.cell 3
  have c4 : w1.cell? ⟨w.heap.size, 4, none⟩ = some (.int .i64 r.l) := B1.cell 4
  have c5 : w1.cell? ⟨w.heap.size, 5, none⟩ = some (.int .i64 r.f) := B1.cell 5
  have c6 : w1.cell? ⟨w.heap.size, 6, none⟩ = some (.int .u32 r.x) := B1.cell 6
  have c7 : w1.cell? ⟨w.heap.size, 7, none⟩ = some (.int .i64 r.d) := B1.cell 7
  have c8 : w1.cell? ⟨w.heap.size, 8, none⟩ = some (.bool r.c) := B1.cell 8
  cases h1 : hasB r 0 0 with
  | true =>
    go_wp2_with fail
    refine (nowhere_any r _).mono ?_
    rintro e w2 ⟨rfl, hK2⟩
    have k2 := k1.trans hK2
    have B2 := B1.keep hK2
    have f8 : w2.cell? ⟨w.heap.size, 8, none⟩ = some (.bool r.c) := B2.cell 8
    clear c0 c1 c2 c3 c4 c5 c6 c7 c8
    cases h2 : nowB r with
    | true =>
      have H := Lib.hid (show (hasB r 0 0 && (nowB r && !r.c)) = !r.c by simp only [h1, h2, Bool.true_and])
      go_wp2_with fail
      go_ret
      exact ⟨by rw [H.out]; rfl, k2⟩
    | false =>
      have H := Lib.hid (show (hasB r 0 0 && (nowB r && !r.c)) = false by simp only [h1, h2, Bool.true_and, Bool.false_and])
      go_wp2_with fail
      go_ret
      exact ⟨by rw [H.out]; rfl, k2⟩
  | false =>
    have H := Lib.hid (show (hasB r 0 0 && (nowB r && !r.c)) = false by simp only [h1, Bool.false_and])
    go_wp2_with fail
    go_ret
    exact ⟨by rw [H.out]; rfl, k1⟩

set_option maxRecDepth 100000 in
set_option maxHeartbeats 1000000 in
theorem st2_any (r : Rt) (w : World) : Calls Tryz.prog 151 #[.agg #[.int .u32 r.p.a, .int .i64 r.p.l, .int .i64 r.s, .int .i64 r.m, .int .i64 r.l, .int .i64 r.f, .int .u32 r.x, .int .i64 r.d, .bool r.c]] w fun e w' => e = .returned (.bool (hasB r 1 0 && nowB r)) ∧ Kp w w' := by
  obtain ⟨W, hW, kW, B0⟩ : ∃ W, w.alloc (.cells #[.int .u32 r.p.a, .int .i64 r.p.l, .int .i64 r.s, .int .i64 r.m, .int .i64 r.l, .int .i64 r.f, .int .u32 r.x, .int .i64 r.d, .bool r.c] 166) = W ∧ Kp w W ∧ Blk W w.heap.size 166 #[.int .u32 r.p.a, .int .i64 r.p.l, .int .i64 r.s, .int .i64 r.m, .int .i64 r.l, .int .i64 r.f, .int .u32 r.x, .int .i64 r.d, .bool r.c] := ⟨_, rfl, (Kp.refl _).alloc _, Blk.new w _ _⟩
  have c0 : W.cell? ⟨w.heap.size, 0, none⟩ = some (.int .u32 r.p.a) := B0.cell 0
  have c1 : W.cell? ⟨w.heap.size, 1, none⟩ = some (.int .i64 r.p.l) := B0.cell 1
  have c2 : W.cell? ⟨w.heap.size, 2, none⟩ = some (.int .i64 r.s) := B0.cell 2
  have c3 : W.cell? ⟨w.heap.size, 3, none⟩ = some (.int .i64 r.m) := B0.cell 3
  have c4 : W.cell? ⟨w.heap.size, 4, none⟩ = some (.int .i64 r.l) := B0.cell 4
  have c5 : W.cell? ⟨w.heap.size, 5, none⟩ = some (.int .i64 r.f) := B0.cell 5
  have c6 : W.cell? ⟨w.heap.size, 6, none⟩ = some (.int .u32 r.x) := B0.cell 6
  have c7 : W.cell? ⟨w.heap.size, 7, none⟩ = some (.int .i64 r.d) := B0.cell 7
  have c8 : W.cell? ⟨w.heap.size, 8, none⟩ = some (.bool r.c) := B0.cell 8
  go_enter Tryz.func151, Tryz.ntmps151
  go_wp2_with fail
  refine (hasR_any r 1 0 _).mono ?_
  rintro e w1 ⟨rfl, hK1⟩
  have k1 := kW.trans hK1
  have B1 := B0.keep hK1
  clear hW c0 c1 c2 c3 c4 c5 c6 c7 c8
  have c0 : w1.cell? ⟨w.heap.size, 0, none⟩ = some (.int .u32 r.p.a) := B1.cell 0
  have c1 : w1.cell? ⟨w.heap.size, 1, none⟩ = some (.int .i64 r.p.l) := B1.cell 1
  have c2 : w1.cell? ⟨w.heap.size, 2, none⟩ = some (.int .i64 r.s) := B1.cell 2
  have c3 : w1.cell? ⟨w.heap.size, 3, none⟩ = some (.int .i64 r.m) := B1.cell 3
  have c4 : w1.cell? ⟨w.heap.size, 4, none⟩ = some (.int .i64 r.l) := B1.cell 4
  have c5 : w1.cell? ⟨w.heap.size, 5, none⟩ = some (.int .i64 r.f) := B1.cell 5
  have c6 : w1.cell? ⟨w.heap.size, 6, none⟩ = some (.int .u32 r.x) := B1.cell 6
  have c7 : w1.cell? ⟨w.heap.size, 7, none⟩ = some (.int .i64 r.d) := B1.cell 7
  have c8 : w1.cell? ⟨w.heap.size, 8, none⟩ = some (.bool r.c) := B1.cell 8
  cases h1 : hasB r 1 0 with
  | true =>
    go_wp2_with fail
    refine (nowhere_any r _).mono ?_
    rintro e w2 ⟨rfl, hK2⟩
    have k2 := k1.trans hK2
    have H := Lib.hid (show (hasB r 1 0 && nowB r) = nowB r by simp only [h1, Bool.true_and])
    clear c0 c1 c2 c3 c4 c5 c6 c7 c8
    go_wp2_with fail
    go_ret
    exact ⟨by rw [H.out]; rfl, k2⟩
  | false =>
    have H := Lib.hid (show (hasB r 1 0 && nowB r) = false by simp only [h1, Bool.false_and])
    go_wp2_with fail
    go_ret
    exact ⟨by rw [H.out]; rfl, k1⟩

set_option maxRecDepth 100000 in
set_option maxHeartbeats 1000000 in
theorem st5_any (r : Rt) (w : World) (hx : r.x < 4294967296) : Calls Tryz.prog 156 #[.agg #[.int .u32 r.p.a, .int .i64 r.p.l, .int .i64 r.s, .int .i64 r.m, .int .i64 r.l, .int .i64 r.f, .int .u32 r.x, .int .i64 r.d, .bool r.c]] w fun e w' => e = .returned (.bool (hasB r 16 0 && someB r)) ∧ Kp w w' := by
  obtain ⟨W, hW, kW, B0⟩ : ∃ W, w.alloc (.cells #[.int .u32 r.p.a, .int .i64 r.p.l, .int .i64 r.s, .int .i64 r.m, .int .i64 r.l, .int .i64 r.f, .int .u32 r.x, .int .i64 r.d, .bool r.c] 166) = W ∧ Kp w W ∧ Blk W w.heap.size 166 #[.int .u32 r.p.a, .int .i64 r.p.l, .int .i64 r.s, .int .i64 r.m, .int .i64 r.l, .int .i64 r.f, .int .u32 r.x, .int .i64 r.d, .bool r.c] := ⟨_, rfl, (Kp.refl _).alloc _, Blk.new w _ _⟩
  have c0 : W.cell? ⟨w.heap.size, 0, none⟩ = some (.int .u32 r.p.a) := B0.cell 0
  have c1 : W.cell? ⟨w.heap.size, 1, none⟩ = some (.int .i64 r.p.l) := B0.cell 1
  have c2 : W.cell? ⟨w.heap.size, 2, none⟩ = some (.int .i64 r.s) := B0.cell 2
  have c3 : W.cell? ⟨w.heap.size, 3, none⟩ = some (.int .i64 r.m) := B0.cell 3
  have c4 : W.cell? ⟨w.heap.size, 4, none⟩ = some (.int .i64 r.l) := B0.cell 4
  have c5 : W.cell? ⟨w.heap.size, 5, none⟩ = some (.int .i64 r.f) := B0.cell 5
  have c6 : W.cell? ⟨w.heap.size, 6, none⟩ = some (.int .u32 r.x) := B0.cell 6
  have c7 : W.cell? ⟨w.heap.size, 7, none⟩ = some (.int .i64 r.d) := B0.cell 7
  have c8 : W.cell? ⟨w.heap.size, 8, none⟩ = some (.bool r.c) := B0.cell 8
  go_enter Tryz.func156, Tryz.ntmps156
  go_wp2_with fail
  refine (hasR_any r 16 0 _).mono ?_
  rintro e w1 ⟨rfl, hK1⟩
  have k1 := kW.trans hK1
  have B1 := B0.keep hK1
  clear hW c0 c1 c2 c3 c4 c5 c6 c7 c8
  have c0 : w1.cell? ⟨w.heap.size, 0, none⟩ = some (.int .u32 r.p.a) := B1.cell 0
  have c1 : w1.cell? ⟨w.heap.size, 1, none⟩ = some (.int .i64 r.p.l) := B1.cell 1
  have c2 : w1.cell? ⟨w.heap.size, 2, none⟩ = some (.int .i64 r.s) := B1.cell 2
  have c3 : w1.cell? ⟨w.heap.size, 3, none⟩ = some (.int .i64 r.m) := B1.cell 3
  have c4 : w1.cell? ⟨w.heap.size, 4, none⟩ = some (.int .i64 r.l) := B1.cell 4
  have c5 : w1.cell? ⟨w.heap.size, 5, none⟩ = some (.int .i64 r.f) := B1.cell 5
  have c6 : w1.cell? ⟨w.heap.size, 6, none⟩ = some (.int .u32 r.x) := B1.cell 6
  have c7 : w1.cell? ⟨w.heap.size, 7, none⟩ = some (.int .i64 r.d) := B1.cell 7
  have c8 : w1.cell? ⟨w.heap.size, 8, none⟩ = some (.bool r.c) := B1.cell 8
  cases h1 : hasB r 16 0 with
  | true =>
    go_wp2_with fail
    refine (some_any r _ hx).mono ?_
    rintro e w2 ⟨rfl, hK2⟩
    have k2 := k1.trans hK2
    have H := Lib.hid (show (hasB r 16 0 && someB r) = someB r by simp only [h1, Bool.true_and])
    clear c0 c1 c2 c3 c4 c5 c6 c7 c8
    go_wp2_with fail
    go_ret
    exact ⟨by rw [H.out]; rfl, k2⟩
  | false =>
    have H := Lib.hid (show (hasB r 16 0 && someB r) = false by simp only [h1, Bool.false_and])
    go_wp2_with fail
    go_ret
    exact ⟨by rw [H.out]; rfl, k1⟩

set_option maxRecDepth 100000 in
set_option maxHeartbeats 1000000 in
theorem st3_any (r : Rt) (w : World) (hx : r.x < 4294967296) : Calls Tryz.prog 152 #[.agg #[.int .u32 r.p.a, .int .i64 r.p.l, .int .i64 r.s, .int .i64 r.m, .int .i64 r.l, .int .i64 r.f, .int .u32 r.x, .int .i64 r.d, .bool r.c]] w fun e w' => e = .returned (.bool (withB 2 15 r.m && (hasB r r.m 0 && someB r))) ∧ Kp w w' := by
  obtain ⟨W, hW, kW, B0⟩ : ∃ W, w.alloc (.cells #[.int .u32 r.p.a, .int .i64 r.p.l, .int .i64 r.s, .int .i64 r.m, .int .i64 r.l, .int .i64 r.f, .int .u32 r.x, .int .i64 r.d, .bool r.c] 166) = W ∧ Kp w W ∧ Blk W w.heap.size 166 #[.int .u32 r.p.a, .int .i64 r.p.l, .int .i64 r.s, .int .i64 r.m, .int .i64 r.l, .int .i64 r.f, .int .u32 r.x, .int .i64 r.d, .bool r.c] := ⟨_, rfl, (Kp.refl _).alloc _, Blk.new w _ _⟩
  have c0 : W.cell? ⟨w.heap.size, 0, none⟩ = some (.int .u32 r.p.a) := B0.cell 0
  have c1 : W.cell? ⟨w.heap.size, 1, none⟩ = some (.int .i64 r.p.l) := B0.cell 1
  have c2 : W.cell? ⟨w.heap.size, 2, none⟩ = some (.int .i64 r.s) := B0.cell 2
  have c3 : W.cell? ⟨w.heap.size, 3, none⟩ = some (.int .i64 r.m) := B0.cell 3
  have c4 : W.cell? ⟨w.heap.size, 4, none⟩ = some (.int .i64 r.l) := B0.cell 4
  have c5 : W.cell? ⟨w.heap.size, 5, none⟩ = some (.int .i64 r.f) := B0.cell 5
  have c6 : W.cell? ⟨w.heap.size, 6, none⟩ = some (.int .u32 r.x) := B0.cell 6
  have c7 : W.cell? ⟨w.heap.size, 7, none⟩ = some (.int .i64 r.d) := B0.cell 7
  have c8 : W.cell? ⟨w.heap.size, 8, none⟩ = some (.bool r.c) := B0.cell 8
  go_enter Tryz.func152, Tryz.ntmps152
  go_wp2_with fail
  refine (within_int 2 15 r.m W.heap.size _ (Blk.new W _ _)).mono ?_
  rintro e w1 ⟨rfl, rfl⟩
  have k1 := kW.alloc (.cells #[.int .i64 r.m] 3)
  have B1 := B0.alloc (.cells #[.int .i64 r.m] 3)
  obtain ⟨V, hV⟩ : ∃ V, W.alloc (.cells #[.int .i64 r.m] 3) = V := ⟨_, rfl⟩
  rw [hV] at k1 B1 ⊢
  clear hW c0 c1 c2 c3 c4 c5 c6 c7 c8
  clear hV
  have c0 : V.cell? ⟨w.heap.size, 0, none⟩ = some (.int .u32 r.p.a) := B1.cell 0
  have c1 : V.cell? ⟨w.heap.size, 1, none⟩ = some (.int .i64 r.p.l) := B1.cell 1
  have c2 : V.cell? ⟨w.heap.size, 2, none⟩ = some (.int .i64 r.s) := B1.cell 2
  have c3 : V.cell? ⟨w.heap.size, 3, none⟩ = some (.int .i64 r.m) := B1.cell 3
  have c4 : V.cell? ⟨w.heap.size, 4, none⟩ = some (.int .i64 r.l) := B1.cell 4
  have c5 : V.cell? ⟨w.heap.size, 5, none⟩ = some (.int .i64 r.f) := B1.cell 5
  have c6 : V.cell? ⟨w.heap.size, 6, none⟩ = some (.int .u32 r.x) := B1.cell 6
  have c7 : V.cell? ⟨w.heap.size, 7, none⟩ = some (.int .i64 r.d) := B1.cell 7
  have c8 : V.cell? ⟨w.heap.size, 8, none⟩ = some (.bool r.c) := B1.cell 8
  cases h0 : withB 2 15 r.m with
  | true =>
    go_wp2_with fail
    refine (hasR_any r r.m 0 _).mono ?_
    rintro e w2 ⟨rfl, hK2⟩
    have k2 := k1.trans hK2
    have B2 := B1.keep hK2
    clear c0 c1 c2 c3 c4 c5 c6 c7 c8
    have c0 : w2.cell? ⟨w.heap.size, 0, none⟩ = some (.int .u32 r.p.a) := B2.cell 0
    have c1 : w2.cell? ⟨w.heap.size, 1, none⟩ = some (.int .i64 r.p.l) := B2.cell 1
    have c2 : w2.cell? ⟨w.heap.size, 2, none⟩ = some (.int .i64 r.s) := B2.cell 2
    have c3 : w2.cell? ⟨w.heap.size, 3, none⟩ = some (.int .i64 r.m) := B2.cell 3
    have c4 : w2.cell? ⟨w.heap.size, 4, none⟩ = some (.int .i64 r.l) := B2.cell 4
    have c5 : w2.cell? ⟨w.heap.size, 5, none⟩ = some (.int .i64 r.f) := B2.cell 5
    have c6 : w2.cell? ⟨w.heap.size, 6, none⟩ = some (.int .u32 r.x) := B2.cell 6
    have c7 : w2.cell? ⟨w.heap.size, 7, none⟩ = some (.int .i64 r.d) := B2.cell 7
    have c8 : w2.cell? ⟨w.heap.size, 8, none⟩ = some (.bool r.c) := B2.cell 8
    cases h1 : hasB r r.m 0 with
    | true =>
      go_wp2_with fail
      refine (some_any r _ hx).mono ?_
      rintro e w3 ⟨rfl, hK3⟩
      have k3 := k2.trans hK3
      have H := Lib.hid (show (withB 2 15 r.m && (hasB r r.m 0 && someB r)) = someB r by simp only [h0, h1, Bool.true_and])
      clear c0 c1 c2 c3 c4 c5 c6 c7 c8
      go_wp2_with fail
      go_ret
      exact ⟨by rw [H.out]; rfl, k3⟩
    | false =>
      have H := Lib.hid (show (withB 2 15 r.m && (hasB r r.m 0 && someB r)) = false by simp only [h0, h1, Bool.true_and, Bool.false_and])
      go_wp2_with fail
      go_ret
      exact ⟨by rw [H.out]; rfl, k2⟩
  | false =>
    have H := Lib.hid (show (withB 2 15 r.m && (hasB r r.m 0 && someB r)) = false by simp only [h0, Bool.false_and])
    go_wp2_with fail
    go_ret
    exact ⟨by rw [H.out]; rfl, k1⟩

set_option maxRecDepth 100000 in
set_option maxHeartbeats 1000000 in
theorem st4_any (r : Rt) (w : World) (hx : r.x < 4294967296) : Calls Tryz.prog 155 #[.agg #[.int .u32 r.p.a, .int .i64 r.p.l, .int .i64 r.s, .int .i64 r.m, .int .i64 r.l, .int .i64 r.f, .int .u32 r.x, .int .i64 r.d, .bool r.c]] w fun e w' => e = .returned (.bool (withB 2 15 r.l && (hasB r 16 r.l && someB r))) ∧ Kp w w' := by
  obtain ⟨W, hW, kW, B0⟩ : ∃ W, w.alloc (.cells #[.int .u32 r.p.a, .int .i64 r.p.l, .int .i64 r.s, .int .i64 r.m, .int .i64 r.l, .int .i64 r.f, .int .u32 r.x, .int .i64 r.d, .bool r.c] 166) = W ∧ Kp w W ∧ Blk W w.heap.size 166 #[.int .u32 r.p.a, .int .i64 r.p.l, .int .i64 r.s, .int .i64 r.m, .int .i64 r.l, .int .i64 r.f, .int .u32 r.x, .int .i64 r.d, .bool r.c] := ⟨_, rfl, (Kp.refl _).alloc _, Blk.new w _ _⟩
  have c0 : W.cell? ⟨w.heap.size, 0, none⟩ = some (.int .u32 r.p.a) := B0.cell 0
  have c1 : W.cell? ⟨w.heap.size, 1, none⟩ = some (.int .i64 r.p.l) := B0.cell 1
  have c2 : W.cell? ⟨w.heap.size, 2, none⟩ = some (.int .i64 r.s) := B0.cell 2
  have c3 : W.cell? ⟨w.heap.size, 3, none⟩ = some (.int .i64 r.m) := B0.cell 3
  have c4 : W.cell? ⟨w.heap.size, 4, none⟩ = some (.int .i64 r.l) := B0.cell 4
  have c5 : W.cell? ⟨w.heap.size, 5, none⟩ = some (.int .i64 r.f) := B0.cell 5
  have c6 : W.cell? ⟨w.heap.size, 6, none⟩ = some (.int .u32 r.x) := B0.cell 6
  have c7 : W.cell? ⟨w.heap.size, 7, none⟩ = some (.int .i64 r.d) := B0.cell 7
  have c8 : W.cell? ⟨w.heap.size, 8, none⟩ = some (.bool r.c) := B0.cell 8
  go_enter Tryz.func155, Tryz.ntmps155
  go_wp2_with fail
  refine (within_int 2 15 r.l W.heap.size _ (Blk.new W _ _)).mono ?_
  rintro e w1 ⟨rfl, rfl⟩
  have k1 := kW.alloc (.cells #[.int .i64 r.l] 3)
  have B1 := B0.alloc (.cells #[.int .i64 r.l] 3)
  obtain ⟨V, hV⟩ : ∃ V, W.alloc (.cells #[.int .i64 r.l] 3) = V := ⟨_, rfl⟩
  rw [hV] at k1 B1 ⊢
  clear hW c0 c1 c2 c3 c4 c5 c6 c7 c8
  clear hV
  have c0 : V.cell? ⟨w.heap.size, 0, none⟩ = some (.int .u32 r.p.a) := B1.cell 0
  have c1 : V.cell? ⟨w.heap.size, 1, none⟩ = some (.int .i64 r.p.l) := B1.cell 1
  have c2 : V.cell? ⟨w.heap.size, 2, none⟩ = some (.int .i64 r.s) := B1.cell 2
  have c3 : V.cell? ⟨w.heap.size, 3, none⟩ = some (.int .i64 r.m) := B1.cell 3
  have c4 : V.cell? ⟨w.heap.size, 4, none⟩ = some (.int .i64 r.l) := B1.cell 4
  have c5 : V.cell? ⟨w.heap.size, 5, none⟩ = some (.int .i64 r.f) := B1.cell 5
  have c6 : V.cell? ⟨w.heap.size, 6, none⟩ = some (.int .u32 r.x) := B1.cell 6
  have c7 : V.cell? ⟨w.heap.size, 7, none⟩ = some (.int .i64 r.d) := B1.cell 7
  have c8 : V.cell? ⟨w.heap.size, 8, none⟩ = some (.bool r.c) := B1.cell 8
  cases h0 : withB 2 15 r.l with
  | true =>
    go_wp2_with fail
    refine (hasR_any r 16 r.l _).mono ?_
    rintro e w2 ⟨rfl, hK2⟩
    have k2 := k1.trans hK2
    have B2 := B1.keep hK2
    clear c0 c1 c2 c3 c4 c5 c6 c7 c8
    have c0 : w2.cell? ⟨w.heap.size, 0, none⟩ = some (.int .u32 r.p.a) := B2.cell 0
    have c1 : w2.cell? ⟨w.heap.size, 1, none⟩ = some (.int .i64 r.p.l) := B2.cell 1
    have c2 : w2.cell? ⟨w.heap.size, 2, none⟩ = some (.int .i64 r.s) := B2.cell 2
    have c3 : w2.cell? ⟨w.heap.size, 3, none⟩ = some (.int .i64 r.m) := B2.cell 3
    have c4 : w2.cell? ⟨w.heap.size, 4, none⟩ = some (.int .i64 r.l) := B2.cell 4
    have c5 : w2.cell? ⟨w.heap.size, 5, none⟩ = some (.int .i64 r.f) := B2.cell 5
    have c6 : w2.cell? ⟨w.heap.size, 6, none⟩ = some (.int .u32 r.x) := B2.cell 6
    have c7 : w2.cell? ⟨w.heap.size, 7, none⟩ = some (.int .i64 r.d) := B2.cell 7
    have c8 : w2.cell? ⟨w.heap.size, 8, none⟩ = some (.bool r.c) := B2.cell 8
    cases h1 : hasB r 16 r.l with
    | true =>
      go_wp2_with fail
      refine (some_any r _ hx).mono ?_
      rintro e w3 ⟨rfl, hK3⟩
      have k3 := k2.trans hK3
      have H := Lib.hid (show (withB 2 15 r.l && (hasB r 16 r.l && someB r)) = someB r by simp only [h0, h1, Bool.true_and])
      clear c0 c1 c2 c3 c4 c5 c6 c7 c8
      go_wp2_with fail
      go_ret
      exact ⟨by rw [H.out]; rfl, k3⟩
    | false =>
      have H := Lib.hid (show (withB 2 15 r.l && (hasB r 16 r.l && someB r)) = false by simp only [h0, h1, Bool.true_and, Bool.false_and])
      go_wp2_with fail
      go_ret
      exact ⟨by rw [H.out]; rfl, k2⟩
  | false =>
    have H := Lib.hid (show (withB 2 15 r.l && (hasB r 16 r.l && someB r)) = false by simp only [h0, Bool.false_and])
    go_wp2_with fail
    go_ret
    exact ⟨by rw [H.out]; rfl, k1⟩

end Go.Proofs.YtbfimimhgdkpaaaGreatDoor

/- entry.Of with metric 1, isTold; route.Check. -/
namespace Go.Proofs.YtbfimimhgdkpaaaGreatDoor
open Go.RowKit

def OfPost (p : PI) (w : World) (e : Ending) (w' : World) : Prop := ∃ x0 x1 x2 x3 x4 x5 : Int, e = .returned (.tuple #[.agg #[.int .i64 x0, .int .i64 x1, .int .u32 x2, .int .u32 x3, .int .u32 x4, .int .u32 x5], .int .i64 (if toldB p then 0 else 2)]) ∧ Kp w w'

set_option maxRecDepth 100000 in
set_option maxHeartbeats 1000000 in
theorem of_any (p : PI) (w : World) (ha : p.a < 4294967296) : Calls Tryz.prog 157 #[.agg #[.int .u32 p.a, .int .i64 p.l], .int .i64 1] w (OfPost p w) := by
  obtain ⟨W, hW, kW, B0, B1⟩ : ∃ W, (w.alloc (.cells #[.int .u32 p.a, .int .i64 p.l] 42)).alloc (.cells #[.int .i64 0, .int .i64 0, .int .u32 0, .int .u32 0, .int .u32 0, .int .u32 0] 212) = W ∧ Kp w W ∧ Blk W w.heap.size 42 #[.int .u32 p.a, .int .i64 p.l] ∧ Blk W (w.heap.size + 1) 212 #[.int .i64 0, .int .i64 0, .int .u32 0, .int .u32 0, .int .u32 0, .int .u32 0] :=
    ⟨_, rfl, ((Kp.refl _).alloc _).alloc _, (Blk.new w _ _).alloc _, Blk.new1 w _ _ _⟩
  have p0 : W.cell? ⟨w.heap.size, 0, none⟩ = some (.int .u32 p.a) := B0.cell 0
  have p1 : W.cell? ⟨w.heap.size, 1, none⟩ = some (.int .i64 p.l) := B0.cell 1
  go_enter Tryz.func157, Tryz.ntmps157
  go_wp2_with fail
  refine (check_any p _ ha).mono ?_
  rintro e w1 ⟨rfl, hK1⟩
  have k1 := kW.trans hK1
  have C0 := B0.keep hK1
  have C1 := B1.keep hK1
  clear hW p0 p1
  have p0 : w1.cell? ⟨w.heap.size, 0, none⟩ = some (.int .u32 p.a) := C0.cell 0
  have e0 : w1.cell? ⟨w.heap.size + 1, 0, none⟩ = some (.int .i64 0) := C1.cell 0
  have e1 : w1.cell? ⟨w.heap.size + 1, 1, none⟩ = some (.int .i64 0) := C1.cell 1
  have e2 : w1.cell? ⟨w.heap.size + 1, 2, none⟩ = some (.int .u32 0) := C1.cell 2
  have e3 : w1.cell? ⟨w.heap.size + 1, 3, none⟩ = some (.int .u32 0) := C1.cell 3
  have e4 : w1.cell? ⟨w.heap.size + 1, 4, none⟩ = some (.int .u32 0) := C1.cell 4
  have e5 : w1.cell? ⟨w.heap.size + 1, 5, none⟩ = some (.int .u32 0) := C1.cell 5
  have z0 := C1.frozen 0
  have z1 := C1.frozen 1
  have z2 := C1.frozen 2
  have z3 := C1.frozen 3
  have z4 := C1.frozen 4
  have z5 := C1.frozen 5
  cases hok : p.okB with
  | false =>
    have Hck := Lib.hid (show checkP p = 2 by simp [checkP, hok])
    have Ht := Lib.hid (show (if toldB p then (0 : Int) else 2) = 2 by simp [toldB, hok])
    rw [Hck.out]
    clear hok
    go_wp2_with fail
    have R := (((((C1.set_ 0 (.int .i64 0)).set_ 1 (.int .i64 0)).set_ 2 (.int .u32 0)).set_ 3 (.int .u32 0)).set_ 4 (.int .u32 0)).set_ 5 (.int .u32 0)
    have kz := (((((k1.setCell (p := ⟨w.heap.size + 1, 0, none⟩) (by simp) (.int .i64 0)).setCell (p := ⟨w.heap.size + 1, 1, none⟩) (by simp) (.int .i64 0)).setCell (p := ⟨w.heap.size + 1, 2, none⟩) (by simp) (.int .u32 0)).setCell (p := ⟨w.heap.size + 1, 3, none⟩) (by simp) (.int .u32 0)).setCell (p := ⟨w.heap.size + 1, 4, none⟩) (by simp) (.int .u32 0)).setCell (p := ⟨w.heap.size + 1, 5, none⟩) (by simp) (.int .u32 0)
    generalize (((((w1.setCell ⟨w.heap.size + 1, 0, none⟩ (.int .i64 0)).setCell ⟨w.heap.size + 1, 1, none⟩ (.int .i64 0)).setCell ⟨w.heap.size + 1, 2, none⟩ (.int .u32 0)).setCell ⟨w.heap.size + 1, 3, none⟩ (.int .u32 0)).setCell ⟨w.heap.size + 1, 4, none⟩ (.int .u32 0)).setCell ⟨w.heap.size + 1, 5, none⟩ (.int .u32 0) = Z at R kz ⊢
    have r0 : Z.cell? ⟨w.heap.size + 1, 0, none⟩ = some (.int .i64 0) := R.cell 0
    have r1 : Z.cell? ⟨w.heap.size + 1, 1, none⟩ = some (.int .i64 0) := R.cell 1
    have r2 : Z.cell? ⟨w.heap.size + 1, 2, none⟩ = some (.int .u32 0) := R.cell 2
    have r3 : Z.cell? ⟨w.heap.size + 1, 3, none⟩ = some (.int .u32 0) := R.cell 3
    have r4 : Z.cell? ⟨w.heap.size + 1, 4, none⟩ = some (.int .u32 0) := R.cell 4
    have r5 : Z.cell? ⟨w.heap.size + 1, 5, none⟩ = some (.int .u32 0) := R.cell 5
    exact bodyPost_ret (v := .tuple #[.agg #[.int .i64 0, .int .i64 0, .int .u32 0, .int .u32 0, .int .u32 0, .int .u32 0], .int .i64 2]) (by simp [results, Tryz.results157, go_sem, r0, r1, r2, r3, r4, r5]) rfl ⟨0, 0, 0, 0, 0, 0, by rw [Ht.out], kz⟩
  | true =>
    obtain ⟨hpk, hpl⟩ := pn_ok hok ha
    obtain ⟨n, hn⟩ : ∃ n, p.l.toNat = n := ⟨_, rfl⟩
    have hpl' : p.l = (n : Int) := by rw [← hn]; exact hpl
    have hn32 : n ≤ 32 := by rw [← hn]; exact hpk.2.1
    have hcut : cut p.a n = p.a := by rw [← hn]; exact hpk.2.2
    have Hck := Lib.hid (show checkP p = 0 by simp [checkP, hok])
    have Ht := Lib.hid (show toldB p = !badKind p.a n by simp [toldB, hok, hn])
    have Hcut := Lib.hid hcut
    rw [Hck.out]
    have p1 : w1.cell? ⟨w.heap.size, 1, none⟩ = some (.int .i64 n) := by rw [← hpl']; exact C0.cell 1
    clear hok hpk hpl hn hpl' hcut
    go_wp2_with fail
    refine (mask_is n _ hn32).mono ?_
    rintro e w' ⟨rfl, rfl⟩
    obtain ⟨V, hV, kV, D0⟩ : ∃ V, w1.alloc (.cells #[.int .i64 2, .int .i64 0, .int .u32 p.a, .int .u32 (maskN n), .int .u32 0, .int .u32 1] 212) = V ∧ Kp w1 V ∧ Blk V w1.heap.size 212 #[.int .i64 2, .int .i64 0, .int .u32 p.a, .int .u32 (maskN n), .int .u32 0, .int .u32 1] := ⟨_, rfl, (Kp.refl _).alloc _, Blk.new w1 _ _⟩
    have d0 : V.cell? ⟨w1.heap.size, 0, none⟩ = some (.int .i64 2) := D0.cell 0
    have d1 : V.cell? ⟨w1.heap.size, 1, none⟩ = some (.int .i64 0) := D0.cell 1
    have d2 : V.cell? ⟨w1.heap.size, 2, none⟩ = some (.int .u32 p.a) := D0.cell 2
    have d3 : V.cell? ⟨w1.heap.size, 3, none⟩ = some (.int .u32 (maskN n)) := D0.cell 3
    have d4 : V.cell? ⟨w1.heap.size, 4, none⟩ = some (.int .u32 0) := D0.cell 4
    have d5 : V.cell? ⟨w1.heap.size, 5, none⟩ = some (.int .u32 1) := D0.cell 5
    go_wp2_with fail
    refine (why_any p.a n _ ha hn32 Hcut.out).mono ?_
    rintro e w2 ⟨rfl, hK2⟩
    have kv2 := kV.trans hK2
    have k2 := k1.trans kv2
    have E1 := C1.keep kv2
    have E0 := D0.keep hK2
    clear hV d0 d1 d2 d3 d4 d5 e0 e1 e2 e3 e4 e5 z0 z1 z2 z3 z4 z5 p0 p1
    have d0 : w2.cell? ⟨w1.heap.size, 0, none⟩ = some (.int .i64 2) := E0.cell 0
    have d1 : w2.cell? ⟨w1.heap.size, 1, none⟩ = some (.int .i64 0) := E0.cell 1
    have d2 : w2.cell? ⟨w1.heap.size, 2, none⟩ = some (.int .u32 p.a) := E0.cell 2
    have d3 : w2.cell? ⟨w1.heap.size, 3, none⟩ = some (.int .u32 (maskN n)) := E0.cell 3
    have d4 : w2.cell? ⟨w1.heap.size, 4, none⟩ = some (.int .u32 0) := E0.cell 4
    have d5 : w2.cell? ⟨w1.heap.size, 5, none⟩ = some (.int .u32 1) := E0.cell 5
    have e0 : w2.cell? ⟨w.heap.size + 1, 0, none⟩ = some (.int .i64 0) := E1.cell 0
    have e1 : w2.cell? ⟨w.heap.size + 1, 1, none⟩ = some (.int .i64 0) := E1.cell 1
    have e2 : w2.cell? ⟨w.heap.size + 1, 2, none⟩ = some (.int .u32 0) := E1.cell 2
    have e3 : w2.cell? ⟨w.heap.size + 1, 3, none⟩ = some (.int .u32 0) := E1.cell 3
    have e4 : w2.cell? ⟨w.heap.size + 1, 4, none⟩ = some (.int .u32 0) := E1.cell 4
    have e5 : w2.cell? ⟨w.heap.size + 1, 5, none⟩ = some (.int .u32 0) := E1.cell 5
    have z0 := E1.frozen 0
    have z1 := E1.frozen 1
    have z2 := E1.frozen 2
    have z3 := E1.frozen 3
    have z4 := E1.frozen 4
    have z5 := E1.frozen 5
    have fin : Hid (∀ (a0 a1 a2 a3 a4 a5 : Value), ∃ Z, (((((w2.setCell ⟨w.heap.size + 1, 0, none⟩ a0).setCell ⟨w.heap.size + 1, 1, none⟩ a1).setCell ⟨w.heap.size + 1, 2, none⟩ a2).setCell ⟨w.heap.size + 1, 3, none⟩ a3).setCell ⟨w.heap.size + 1, 4, none⟩ a4).setCell ⟨w.heap.size + 1, 5, none⟩ a5 = Z ∧ Blk Z (w.heap.size + 1) 212 #[a0, a1, a2, a3, a4, a5] ∧ Kp w Z) := fun a0 a1 a2 a3 a4 a5 =>
      ⟨_, rfl, (((((E1.set_ 0 a0).set_ 1 a1).set_ 2 a2).set_ 3 a3).set_ 4 a4).set_ 5 a5, (((((k2.setCell (p := ⟨w.heap.size + 1, 0, none⟩) (by simp) a0).setCell (p := ⟨w.heap.size + 1, 1, none⟩) (by simp) a1).setCell (p := ⟨w.heap.size + 1, 2, none⟩) (by simp) a2).setCell (p := ⟨w.heap.size + 1, 3, none⟩) (by simp) a3).setCell (p := ⟨w.heap.size + 1, 4, none⟩) (by simp) a4).setCell (p := ⟨w.heap.size + 1, 5, none⟩) (by simp) a5⟩
    cases hb : badKind p.a n with
    | true =>
      have Hw := Lib.hid (show whyN p.a n = 4 by simp [whyN, hb])
      have Ht2 := Lib.hid (show (if toldB p then (0 : Int) else 2) = 2 by rw [Ht.out, hb]; rfl)
      rw [Hw.out]
      clear hb
      obtain ⟨Z, hZ, R, kz⟩ := fin.out (.int .i64 0) (.int .i64 0) (.int .u32 0) (.int .u32 0) (.int .u32 0) (.int .u32 0)
      go_wp2_with fail
      have r0 : Z.cell? ⟨w.heap.size + 1, 0, none⟩ = some (.int .i64 0) := R.cell 0
      have r1 : Z.cell? ⟨w.heap.size + 1, 1, none⟩ = some (.int .i64 0) := R.cell 1
      have r2 : Z.cell? ⟨w.heap.size + 1, 2, none⟩ = some (.int .u32 0) := R.cell 2
      have r3 : Z.cell? ⟨w.heap.size + 1, 3, none⟩ = some (.int .u32 0) := R.cell 3
      have r4 : Z.cell? ⟨w.heap.size + 1, 4, none⟩ = some (.int .u32 0) := R.cell 4
      have r5 : Z.cell? ⟨w.heap.size + 1, 5, none⟩ = some (.int .u32 0) := R.cell 5
      exact bodyPost_ret (v := .tuple #[.agg #[.int .i64 0, .int .i64 0, .int .u32 0, .int .u32 0, .int .u32 0, .int .u32 0], .int .i64 2]) (by simp [results, Tryz.results157, go_sem, r0, r1, r2, r3, r4, r5]) rfl ⟨0, 0, 0, 0, 0, 0, by rw [Ht2.out], kz⟩
    | false =>
      have Hw := Lib.hid (show whyN p.a n = 0 by simp [whyN, hb])
      have Ht2 := Lib.hid (show (if toldB p then (0 : Int) else 2) = 0 by rw [Ht.out, hb]; rfl)
      rw [Hw.out]
      clear hb
      obtain ⟨Z, hZ, R, kz⟩ := fin.out (.int .i64 2) (.int .i64 0) (.int .u32 p.a) (.int .u32 (maskN n)) (.int .u32 0) (.int .u32 1)
      go_wp2_with fail
      have r0 : Z.cell? ⟨w.heap.size + 1, 0, none⟩ = some (.int .i64 2) := R.cell 0
      have r1 : Z.cell? ⟨w.heap.size + 1, 1, none⟩ = some (.int .i64 0) := R.cell 1
      have r2 : Z.cell? ⟨w.heap.size + 1, 2, none⟩ = some (.int .u32 p.a) := R.cell 2
      have r3 : Z.cell? ⟨w.heap.size + 1, 3, none⟩ = some (.int .u32 (maskN n)) := R.cell 3
      have r4 : Z.cell? ⟨w.heap.size + 1, 4, none⟩ = some (.int .u32 0) := R.cell 4
      have r5 : Z.cell? ⟨w.heap.size + 1, 5, none⟩ = some (.int .u32 1) := R.cell 5
      exact bodyPost_ret (v := .tuple #[.agg #[.int .i64 2, .int .i64 0, .int .u32 p.a, .int .u32 (maskN n), .int .u32 0, .int .u32 1], .int .i64 0]) (by simp [results, Tryz.results157, go_sem, r0, r1, r2, r3, r4, r5]) rfl ⟨2, 0, p.a, maskN n, 0, 1, by rw [Ht2.out], kz⟩

set_option maxRecDepth 100000 in
set_option maxHeartbeats 1000000 in
theorem isTold_any (r : Rt) (w : World) (ha : r.p.a < 4294967296) : Calls Tryz.prog 100 #[.agg #[.int .u32 r.p.a, .int .i64 r.p.l, .int .i64 r.s, .int .i64 r.m, .int .i64 r.l, .int .i64 r.f, .int .u32 r.x, .int .i64 r.d, .bool r.c]] w fun e w' => e = .returned (.bool (toldB r.p)) ∧ Kp w w' := by
  go_enter Tryz.func100, Tryz.ntmps100
  go_wp2_with fail
  refine (of_any r.p _ ha).mono ?_
  rintro e w1 ⟨x0, x1, x2, x3, x4, x5, rfl, hK1⟩
  have k1 : Kp w w1 := ((Kp.refl _).alloc _).trans hK1
  cases h : toldB r.p with
  | true =>
    have H := Lib.hid h; clear h
    simp only [if_true]
    go_wp2_with fail
    go_ret
    exact ⟨by rw [H.out]; rfl, k1.alloc _⟩
  | false =>
    have H := Lib.hid h; clear h
    simp only [Bool.false_eq_true, if_false]
    go_wp2_with fail
    go_ret
    exact ⟨by rw [H.out]; rfl, k1.alloc _⟩

theorem check_int (w : World) (n : Nat) (e : Bool) (k : Int) : (Instr.checkKey e (n + 1) 43 (.int .i64 k)).run Tryz.prog w = .ok () w := by
  unfold Instr.checkKey
  simp [run_underlying Tryz.underlying43, Result.andThen]
theorem find_int (w : World) (k : Int) (es : List MapEntry) {r : Option (Nat × Value)} (h : Instr.findNow (.int .i64) (.int .i64 k) es 0 = some r) : (Instr.findKey 43 (.int .i64 k) es).run Tryz.prog w = .ok r w := by
  unfold Instr.findKey
  simp [run_underlying Tryz.underlying43, Result.andThen, h]
theorem set_new (w : World) (o o' : Obj) : ({ w.alloc o with heap := (w.alloc o).heap.setIfInBounds w.heap.size o' } : World) = w.alloc o' := by
  have h : (w.heap.push o).setIfInBounds w.heap.size o' = w.heap.push o' := by
    apply Array.ext_getElem?
    intro i
    rw [Array.getElem?_setIfInBounds, Array.getElem?_push, Array.getElem?_push]
    by_cases e : w.heap.size = i
    · subst e; simp
    · simp [e, Ne.symm e]
  unfold World.alloc
  simp only [h]
theorem ins_run (w : World) (es : Array MapEntry) (clock : Nat) (k : Int) (v : Value) (h : Instr.findNow (.int .i64) (.int .i64 k) es.toList 0 = some none) :
    (Instr.mapUpdate 168 (.map (some w.heap.size)) (.int .i64 k) v).run Tryz.prog (w.alloc (.map es clock)) = .ok () (w.alloc (.map (es.push { key := .int .i64 k, val := v, born := clock }) (clock + 1))) := by
  have hb : (w.alloc (.map es clock)).heap[w.heap.size]? = some (.map es clock) := World.alloc_heap_new w _
  unfold Instr.mapUpdate
  simp [run_underlying Tryz.underlying168, MapKept.run_getObj_map hb, check_int, find_int _ _ _ h, MapKept.run_setObj_map _ hb, Result.andThen]
  exact set_new w _ _

theorem ins0 (w : World) (v0 : Value) : (Instr.mapUpdate 168 (.map (some w.heap.size)) (.int .i64 0) v0).run Tryz.prog (w.alloc (.map #[] 0)) = .ok () (w.alloc (.map #[{ key := .int .i64 0, val := v0, born := 0 }] 1)) := ins_run w #[] 0 0 v0 rfl
theorem ins1 (w : World) (v0 v1 : Value) : (Instr.mapUpdate 168 (.map (some w.heap.size)) (.int .i64 1) v1).run Tryz.prog (w.alloc (.map #[{ key := .int .i64 0, val := v0, born := 0 }] 1)) = .ok () (w.alloc (.map #[{ key := .int .i64 0, val := v0, born := 0 }, { key := .int .i64 1, val := v1, born := 1 }] 2)) := ins_run w #[{ key := .int .i64 0, val := v0, born := 0 }] 1 1 v1 rfl
theorem ins2 (w : World) (v0 v1 v2 : Value) : (Instr.mapUpdate 168 (.map (some w.heap.size)) (.int .i64 2) v2).run Tryz.prog (w.alloc (.map #[{ key := .int .i64 0, val := v0, born := 0 }, { key := .int .i64 1, val := v1, born := 1 }] 2)) = .ok () (w.alloc (.map #[{ key := .int .i64 0, val := v0, born := 0 }, { key := .int .i64 1, val := v1, born := 1 }, { key := .int .i64 2, val := v2, born := 2 }] 3)) := ins_run w #[{ key := .int .i64 0, val := v0, born := 0 }, { key := .int .i64 1, val := v1, born := 1 }] 2 2 v2 rfl
theorem ins3 (w : World) (v0 v1 v2 v3 : Value) : (Instr.mapUpdate 168 (.map (some w.heap.size)) (.int .i64 3) v3).run Tryz.prog (w.alloc (.map #[{ key := .int .i64 0, val := v0, born := 0 }, { key := .int .i64 1, val := v1, born := 1 }, { key := .int .i64 2, val := v2, born := 2 }] 3)) = .ok () (w.alloc (.map #[{ key := .int .i64 0, val := v0, born := 0 }, { key := .int .i64 1, val := v1, born := 1 }, { key := .int .i64 2, val := v2, born := 2 }, { key := .int .i64 3, val := v3, born := 3 }] 4)) := ins_run w #[{ key := .int .i64 0, val := v0, born := 0 }, { key := .int .i64 1, val := v1, born := 1 }, { key := .int .i64 2, val := v2, born := 2 }] 3 3 v3 rfl
theorem ins4 (w : World) (v0 v1 v2 v3 v4 : Value) : (Instr.mapUpdate 168 (.map (some w.heap.size)) (.int .i64 4) v4).run Tryz.prog (w.alloc (.map #[{ key := .int .i64 0, val := v0, born := 0 }, { key := .int .i64 1, val := v1, born := 1 }, { key := .int .i64 2, val := v2, born := 2 }, { key := .int .i64 3, val := v3, born := 3 }] 4)) = .ok () (w.alloc (.map #[{ key := .int .i64 0, val := v0, born := 0 }, { key := .int .i64 1, val := v1, born := 1 }, { key := .int .i64 2, val := v2, born := 2 }, { key := .int .i64 3, val := v3, born := 3 }, { key := .int .i64 4, val := v4, born := 4 }] 5)) := ins_run w #[{ key := .int .i64 0, val := v0, born := 0 }, { key := .int .i64 1, val := v1, born := 1 }, { key := .int .i64 2, val := v2, born := 2 }, { key := .int .i64 3, val := v3, born := 3 }] 4 4 v4 rfl

def stFn : Nat → FuncId
  | 0 => 148
  | 1 => 151
  | 2 => 152
  | 3 => 155
  | _ => 156
def stV (k : Nat) : Value := .iface 170 (.func (.func (stFn k)) #[] #[])
def stE (k : Nat) : MapEntry := { key := .int .i64 k, val := stV k, born := k }
set_option maxRecDepth 100000 in
set_option maxHeartbeats 1000000 in
theorem states_any (w : World) : Calls Tryz.prog 99 #[] w fun e w' => e = .returned (.map (some w.heap.size)) ∧ w' = w.alloc (.map #[stE 0, stE 1, stE 2, stE 3, stE 4] 5) := by
  have hmm := @run_makeMap Tryz.prog
  have i0 := ins0 w
  have i1 := ins1 w
  have i2 := ins2 w
  have i3 := ins3 w
  have i4 := ins4 w
  go_enter Tryz.func99, Tryz.ntmps99
  go_wp2_with fail
  go_ret
  exact ⟨rfl, rfl⟩

/-- The state's rule, if there is one. -/
theorem find_st (k : Int) : Instr.findNow (.int .i64) (.int .i64 k) [stE 0, stE 1, stE 2, stE 3, stE 4] 0 =
    some (if k = 0 then some (0, stV 0) else if k = 1 then some (1, stV 1) else if k = 2 then some (2, stV 2) else if k = 3 then some (3, stV 3) else if k = 4 then some (4, stV 4) else none) := by
  have hb : ∀ (a b : Int), (a == b) = decide (a = b) := fun a b => by cases h : a == b <;> simp_all
  simp only [Instr.findNow, Instr.sameNow, stE, if_true, hb]
  by_cases h0 : k = 0
  · simp [h0]
  · by_cases h1 : k = 1
    · simp [h1]
    · by_cases h2 : k = 2
      · simp [h2]
      · by_cases h3 : k = 3
        · simp [h3]
        · by_cases h4 : k = 4
          · simp [h4]
          · simp [h0, h1, h2, h3, h4]
theorem look_hit (w : World) (r : Nat) (hr : w.heap[r]? = some (.map #[stE 0, stE 1, stE 2, stE 3, stE 4] 5)) (k : Int) (j : Nat) (v : Value) (h : Instr.findNow (.int .i64) (.int .i64 k) [stE 0, stE 1, stE 2, stE 3, stE 4] 0 = some (some (j, v))) :
    (Instr.lookup 168 (.map (some r)) (.int .i64 k) true).run Tryz.prog w = .ok (.tuple #[v, .bool true]) w := by
  unfold Instr.lookup
  simp [run_underlying Tryz.underlying168, MapKept.run_getObj_map hr, check_int, find_int _ _ _ h, Result.andThen]
theorem zero_any_ (w : World) : (zeroValue 20).run Tryz.prog w = .ok .nilIface w := by kernel_rfl
theorem look_miss (w : World) (r : Nat) (hr : w.heap[r]? = some (.map #[stE 0, stE 1, stE 2, stE 3, stE 4] 5)) (k : Int) (h : Instr.findNow (.int .i64) (.int .i64 k) [stE 0, stE 1, stE 2, stE 3, stE 4] 0 = some none) :
    (Instr.lookup 168 (.map (some r)) (.int .i64 k) true).run Tryz.prog w = .ok (.tuple #[.nilIface, .bool false]) w := by
  unfold Instr.lookup
  simp [run_underlying Tryz.underlying168, MapKept.run_getObj_map hr, check_int, find_int _ _ _ h, Result.andThen, zero_any_]
end Go.Proofs.YtbfimimhgdkpaaaGreatDoor

/- The end of a drawn region in the text's order. No condition. -/
namespace Go.Proofs.YtbfimimhgdkpaaaGreatDoor
theorem wpAny_rest {P : Program} {Q : Exit → Act → World → Prop} {a : Act} {w : World} {fuel : Nat} {L : List Oper} {listed : Array Bool} (k : Nat) (hf : fuel = (L.drop k).length)
    (hB : Region.seqB .any L.toArray (L.drop k).length k listed = true) (h : wpList P L.toArray Q (L.drop k) a w) : wpAny P .any L.toArray Q fuel listed a w := by
  subst hf
  exact wpAny_of_seq (L.drop k) k listed a w (fun j => by simp) hB h
end Go.Proofs.YtbfimimhgdkpaaaGreatDoor

/- route.Check. -/
namespace Go.Proofs.YtbfimimhgdkpaaaGreatDoor
open Go.RowKit

theorem assert_fn (w : World) (f : FuncId) : (Instr.typeAssert (.iface 170 (.func (.func f) #[] #[])) 20 170 false).run Tryz.prog w = .ok (.func (.func f) #[] #[]) w := by kernel_rfl

set_option maxRecDepth 100000 in
set_option maxHeartbeats 2000000 in
theorem check_hit (r : Rt) (j : Nat) (fid : FuncId) (b : Bool) (w : World) (ha : r.p.a < 4294967296) (hf : Instr.findNow (.int .i64) (.int .i64 r.s) [stE 0, stE 1, stE 2, stE 3, stE 4] 0 = some (some (j, .iface 170 (.func (.func fid) #[] #[]))))
    (hc : ∀ args w, (callFunc fid args).run Tryz.prog w = .ok (.enter fid args) w) (hst : ∀ w, Calls Tryz.prog fid #[.agg #[.int .u32 r.p.a, .int .i64 r.p.l, .int .i64 r.s, .int .i64 r.m, .int .i64 r.l, .int .i64 r.f, .int .u32 r.x, .int .i64 r.d, .bool r.c]] w fun e w' => e = .returned (.bool b) ∧ Kp w w') :
    Calls Tryz.prog 55 #[.agg #[.int .u32 r.p.a, .int .i64 r.p.l, .int .i64 r.s, .int .i64 r.m, .int .i64 r.l, .int .i64 r.f, .int .u32 r.x, .int .i64 r.d, .bool r.c]] w fun e w' => e = .returned (.int .i64 (if b && toldB r.p then 0 else 2)) ∧ Kp w w' := by
  obtain ⟨T, hT⟩ : ∃ T, toldB r.p = T := ⟨_, rfl⟩
  rw [hT]
  have HT := Lib.hid hT; clear hT
  have Hf := Lib.hid hf; clear hf
  have Hst := Lib.hid hst; clear hst
  have hta := assert_fn
  obtain ⟨W, hW, kW, B0, B1⟩ : ∃ W, (w.alloc (.cells #[.int .u32 r.p.a, .int .i64 r.p.l, .int .i64 r.s, .int .i64 r.m, .int .i64 r.l, .int .i64 r.f, .int .u32 r.x, .int .i64 r.d, .bool r.c] 45)).alloc (.cells #[.int .u32 r.p.a, .int .i64 r.p.l, .int .i64 r.s, .int .i64 r.m, .int .i64 r.l, .int .i64 r.f, .int .u32 r.x, .int .i64 r.d, .bool r.c] 166) = W ∧ Kp w W ∧ Blk W w.heap.size 45 #[.int .u32 r.p.a, .int .i64 r.p.l, .int .i64 r.s, .int .i64 r.m, .int .i64 r.l, .int .i64 r.f, .int .u32 r.x, .int .i64 r.d, .bool r.c] ∧ Blk W (w.heap.size + 1) 166 #[.int .u32 r.p.a, .int .i64 r.p.l, .int .i64 r.s, .int .i64 r.m, .int .i64 r.l, .int .i64 r.f, .int .u32 r.x, .int .i64 r.d, .bool r.c] :=
    ⟨_, rfl, ((Kp.refl _).alloc _).alloc _, (Blk.new w _ _).alloc _, Blk.new1 w _ _ _⟩
  have s2 : W.cell? ⟨w.heap.size, 2, none⟩ = some (.int .i64 r.s) := B0.cell 2
  go_enter Tryz.func55, Tryz.ntmps55
  go_wp2_with fail
  go_upto_region 2 with (fail)
  go_cut [4, 5] from 8 to 14 (fun s4 s5 wx => s4 = .iface 170 (.func (.func fid) #[] #[]) ∧ s5 = .bool true ∧ Kp W wx)
  case first =>
    go_region_held3 (fun w' => w'.cell? ⟨w.heap.size, 2, none⟩ = some (.int .i64 r.s)) (first | exact Ka.cell s2 | go_keep)
      (first | (go_at_call 99; refine (states_any _).mono ?_; rintro e wa ⟨rfl, hwa⟩; have Ka : Kp W wa := (by rw [hwa]; exact (Kp.refl W).drew.alloc _); have hlk := look_hit wa W.heap.size (by rw [hwa]; exact World.alloc_heap_new W.drew _) r.s j _ Hf.out; clear hwa))
    go_wp2_with fail
    go_meet
    case rel => exact ⟨rfl, rfl, Ka⟩
  case rest =>
    obtain ⟨rfl, rfl, hKc⟩ := hcut
    have k2 := kW.trans hKc
    have D := B1.keep hKc
    clear s2 hW
    have c0 : wc.cell? ⟨w.heap.size + 1, 0, none⟩ = some (.int .u32 r.p.a) := D.cell 0
    have c1 : wc.cell? ⟨w.heap.size + 1, 1, none⟩ = some (.int .i64 r.p.l) := D.cell 1
    have c2 : wc.cell? ⟨w.heap.size + 1, 2, none⟩ = some (.int .i64 r.s) := D.cell 2
    have c3 : wc.cell? ⟨w.heap.size + 1, 3, none⟩ = some (.int .i64 r.m) := D.cell 3
    have c4 : wc.cell? ⟨w.heap.size + 1, 4, none⟩ = some (.int .i64 r.l) := D.cell 4
    have c5 : wc.cell? ⟨w.heap.size + 1, 5, none⟩ = some (.int .i64 r.f) := D.cell 5
    have c6 : wc.cell? ⟨w.heap.size + 1, 6, none⟩ = some (.int .u32 r.x) := D.cell 6
    have c7 : wc.cell? ⟨w.heap.size + 1, 7, none⟩ = some (.int .i64 r.d) := D.cell 7
    have c8 : wc.cell? ⟨w.heap.size + 1, 8, none⟩ = some (.bool r.c) := D.cell 8
    go_wp2_with fail
    refine wp_region_any (by kernel_rfl) ?_
    change wpAny _ _ _ _ _ _ _ (World.drew _)
    obtain ⟨V, hV⟩ : ∃ V, wc.drew = V := ⟨_, rfl⟩
    have KV : Kp wc V := by rw [← hV]; exact (Kp.refl _).drew
    rw [hV]
    have DV := D.keep KV
    clear hV c0 c1 c2 c3 c4 c5 c6 c7 c8
    have c0 : V.cell? ⟨w.heap.size + 1, 0, none⟩ = some (.int .u32 r.p.a) := DV.cell 0
    have c1 : V.cell? ⟨w.heap.size + 1, 1, none⟩ = some (.int .i64 r.p.l) := DV.cell 1
    have c2 : V.cell? ⟨w.heap.size + 1, 2, none⟩ = some (.int .i64 r.s) := DV.cell 2
    have c3 : V.cell? ⟨w.heap.size + 1, 3, none⟩ = some (.int .i64 r.m) := DV.cell 3
    have c4 : V.cell? ⟨w.heap.size + 1, 4, none⟩ = some (.int .i64 r.l) := DV.cell 4
    have c5 : V.cell? ⟨w.heap.size + 1, 5, none⟩ = some (.int .i64 r.f) := DV.cell 5
    have c6 : V.cell? ⟨w.heap.size + 1, 6, none⟩ = some (.int .u32 r.x) := DV.cell 6
    have c7 : V.cell? ⟨w.heap.size + 1, 7, none⟩ = some (.int .i64 r.d) := DV.cell 7
    have c8 : V.cell? ⟨w.heap.size + 1, 8, none⟩ = some (.bool r.c) := DV.cell 8
    refine wpAny_take (i := 0) (v := .bool true) rfl (by kernel_rfl) (by kernel_rfl) (by kernel_rfl) (fun _ _ _ h => h) (Or.inl ⟨by rfl, fun w => by go_simp⟩) ?_
    refine wpAny_take (i := 1) (v := .bool false) rfl (by kernel_rfl) (by kernel_rfl) (by kernel_rfl) (fun _ _ _ h => h) (Or.inl ⟨by rfl, fun w => by go_simp⟩) ?_
    refine wpAny_take (i := 2) (v := .bool false) rfl (by kernel_rfl) (by kernel_rfl) (by kernel_rfl) (fun _ _ _ h => h) (Or.inl ⟨by rfl, fun w => by go_simp⟩) ?_
    refine wpAny_take (i := 3) (v := .iface 170 (.func (.func fid) #[] #[])) rfl (by kernel_rfl) (by kernel_rfl) (by kernel_rfl) (fun _ _ _ h => h) (Or.inl ⟨by rfl, fun w => by go_simp⟩) ?_
    refine wpAny_take (i := 4) (v := .func (.func fid) #[] #[]) rfl (by kernel_rfl) (by kernel_rfl) (by kernel_rfl) (fun _ _ _ h => h) (Or.inl ⟨by rfl, fun w => by go_simp⟩) ?_
    refine wpAny_rest 5 rfl (by kernel_rfl) ?_
    simp only [List.drop_succ_cons, List.drop_zero]
    go_wp2_with fail
    refine (Hst.out _).mono ?_
    rintro e wa ⟨rfl, hKa⟩
    have ka := k2.trans (KV.trans hKa)
    have Da := DV.keep hKa
    clear c0 c1 c2 c3 c4 c5 c6 c7 c8
    have c0 : wa.cell? ⟨w.heap.size + 1, 0, none⟩ = some (.int .u32 r.p.a) := Da.cell 0
    have c1 : wa.cell? ⟨w.heap.size + 1, 1, none⟩ = some (.int .i64 r.p.l) := Da.cell 1
    have c2 : wa.cell? ⟨w.heap.size + 1, 2, none⟩ = some (.int .i64 r.s) := Da.cell 2
    have c3 : wa.cell? ⟨w.heap.size + 1, 3, none⟩ = some (.int .i64 r.m) := Da.cell 3
    have c4 : wa.cell? ⟨w.heap.size + 1, 4, none⟩ = some (.int .i64 r.l) := Da.cell 4
    have c5 : wa.cell? ⟨w.heap.size + 1, 5, none⟩ = some (.int .i64 r.f) := Da.cell 5
    have c6 : wa.cell? ⟨w.heap.size + 1, 6, none⟩ = some (.int .u32 r.x) := Da.cell 6
    have c7 : wa.cell? ⟨w.heap.size + 1, 7, none⟩ = some (.int .i64 r.d) := Da.cell 7
    have c8 : wa.cell? ⟨w.heap.size + 1, 8, none⟩ = some (.bool r.c) := Da.cell 8
    cases b with
    | false =>
      go_wp2_with fail
      go_ret
      exact ⟨rfl, ka⟩
    | true =>
      go_wp2_with fail
      refine (isTold_any r _ ha).mono ?_
      rintro e wb ⟨rfl, hKb⟩
      rw [HT.out]
      cases T with
      | true =>
        go_wp2_with fail
        go_ret
        exact ⟨rfl, ka.trans hKb⟩
      | false =>
        go_wp2_with fail
        go_ret
        exact ⟨rfl, ka.trans hKb⟩

set_option maxRecDepth 100000 in
set_option maxHeartbeats 2000000 in
theorem check_miss (r : Rt) (w : World) (hf : Instr.findNow (.int .i64) (.int .i64 r.s) [stE 0, stE 1, stE 2, stE 3, stE 4] 0 = some none) :
    Calls Tryz.prog 55 #[.agg #[.int .u32 r.p.a, .int .i64 r.p.l, .int .i64 r.s, .int .i64 r.m, .int .i64 r.l, .int .i64 r.f, .int .u32 r.x, .int .i64 r.d, .bool r.c]] w fun e w' => e = .returned (.int .i64 2) ∧ Kp w w' := by
  have Hf := Lib.hid hf; clear hf
  obtain ⟨W, hW, kW, B0, B1⟩ : ∃ W, (w.alloc (.cells #[.int .u32 r.p.a, .int .i64 r.p.l, .int .i64 r.s, .int .i64 r.m, .int .i64 r.l, .int .i64 r.f, .int .u32 r.x, .int .i64 r.d, .bool r.c] 45)).alloc (.cells #[.int .u32 r.p.a, .int .i64 r.p.l, .int .i64 r.s, .int .i64 r.m, .int .i64 r.l, .int .i64 r.f, .int .u32 r.x, .int .i64 r.d, .bool r.c] 166) = W ∧ Kp w W ∧ Blk W w.heap.size 45 #[.int .u32 r.p.a, .int .i64 r.p.l, .int .i64 r.s, .int .i64 r.m, .int .i64 r.l, .int .i64 r.f, .int .u32 r.x, .int .i64 r.d, .bool r.c] ∧ Blk W (w.heap.size + 1) 166 #[.int .u32 r.p.a, .int .i64 r.p.l, .int .i64 r.s, .int .i64 r.m, .int .i64 r.l, .int .i64 r.f, .int .u32 r.x, .int .i64 r.d, .bool r.c] :=
    ⟨_, rfl, ((Kp.refl _).alloc _).alloc _, (Blk.new w _ _).alloc _, Blk.new1 w _ _ _⟩
  have s2 : W.cell? ⟨w.heap.size, 2, none⟩ = some (.int .i64 r.s) := B0.cell 2
  go_enter Tryz.func55, Tryz.ntmps55
  go_wp2_with fail
  go_upto_region 2 with (fail)
  go_cut [4, 5] from 8 to 14 (fun s4 s5 wx => s4 = .nilIface ∧ s5 = .bool false ∧ Kp W wx)
  case first =>
    go_region_held3 (fun w' => w'.cell? ⟨w.heap.size, 2, none⟩ = some (.int .i64 r.s)) (first | exact Ka.cell s2 | go_keep)
      (first | (go_at_call 99; refine (states_any _).mono ?_; rintro e wa ⟨rfl, hwa⟩; have Ka : Kp W wa := (by rw [hwa]; exact (Kp.refl W).drew.alloc _); have hlk := look_miss wa W.heap.size (by rw [hwa]; exact World.alloc_heap_new W.drew _) r.s Hf.out; clear hwa))
    go_wp2_with fail
    go_meet
    case rel => exact ⟨rfl, rfl, Ka⟩
  case rest =>
    obtain ⟨rfl, rfl, hKc⟩ := hcut
    have k2 := kW.trans hKc
    go_wp2_with fail
    go_quiet (fail)
    go_wp2_with fail
    go_ret
    exact ⟨rfl, k2.drewN _⟩
end Go.Proofs.YtbfimimhgdkpaaaGreatDoor

/- route.Check, whole. -/
namespace Go.Proofs.YtbfimimhgdkpaaaGreatDoor
open Go.RowKit

theorem call_st1 (args : Array Value) (w : World) : (callFunc 148 args).run Tryz.prog w = .ok (.enter 148 args) w := by kernel_rfl
theorem call_st2 (args : Array Value) (w : World) : (callFunc 151 args).run Tryz.prog w = .ok (.enter 151 args) w := by kernel_rfl
theorem call_st3 (args : Array Value) (w : World) : (callFunc 152 args).run Tryz.prog w = .ok (.enter 152 args) w := by kernel_rfl
theorem call_st4 (args : Array Value) (w : World) : (callFunc 155 args).run Tryz.prog w = .ok (.enter 155 args) w := by kernel_rfl
theorem call_st5 (args : Array Value) (w : World) : (callFunc 156 args).run Tryz.prog w = .ok (.enter 156 args) w := by kernel_rfl

theorem checkR_any (r : Rt) (w : World) (ha : r.p.a < 4294967296) (hx : r.x < 4294967296) : Calls Tryz.prog 55 #[.agg #[.int .u32 r.p.a, .int .i64 r.p.l, .int .i64 r.s, .int .i64 r.m, .int .i64 r.l, .int .i64 r.f, .int .u32 r.x, .int .i64 r.d, .bool r.c]] w fun e w' => e = .returned (.int .i64 (checkR r)) ∧ Kp w w' := by
  have hf := find_st r.s
  by_cases h0 : r.s = 0
  · have hb : stateB r = (hasB r 0 0 && (nowB r && !r.c)) := by simp [stateB, h0]
    refine (check_hit r 0 148 (hasB r 0 0 && (nowB r && !r.c)) w ha (by rw [hf]; simp [h0, stV, stFn]) call_st1 (fun w => st1_any r w)).mono ?_
    rintro e w' ⟨rfl, hK⟩
    exact ⟨by simp only [checkR, hb], hK⟩
  by_cases h1 : r.s = 1
  · have hb : stateB r = (hasB r 1 0 && nowB r) := by simp [stateB, h1]
    refine (check_hit r 1 151 (hasB r 1 0 && nowB r) w ha (by rw [hf]; simp [h1, stV, stFn]) call_st2 (fun w => st2_any r w)).mono ?_
    rintro e w' ⟨rfl, hK⟩
    exact ⟨by simp only [checkR, hb], hK⟩
  by_cases h2 : r.s = 2
  · have hb : stateB r = (withB 2 15 r.m && (hasB r r.m 0 && someB r)) := by simp [stateB, h2]
    refine (check_hit r 2 152 (withB 2 15 r.m && (hasB r r.m 0 && someB r)) w ha (by rw [hf]; simp [h2, stV, stFn]) call_st3 (fun w => st3_any r w hx)).mono ?_
    rintro e w' ⟨rfl, hK⟩
    exact ⟨by simp only [checkR, hb], hK⟩
  by_cases h3 : r.s = 3
  · have hb : stateB r = (withB 2 15 r.l && (hasB r 16 r.l && someB r)) := by simp [stateB, h3]
    refine (check_hit r 3 155 (withB 2 15 r.l && (hasB r 16 r.l && someB r)) w ha (by rw [hf]; simp [h3, stV, stFn]) call_st4 (fun w => st4_any r w hx)).mono ?_
    rintro e w' ⟨rfl, hK⟩
    exact ⟨by simp only [checkR, hb], hK⟩
  by_cases h4 : r.s = 4
  · have hb : stateB r = (hasB r 16 0 && someB r) := by simp [stateB, h4]
    refine (check_hit r 4 156 (hasB r 16 0 && someB r) w ha (by rw [hf]; simp [h4, stV, stFn]) call_st5 (fun w => st5_any r w hx)).mono ?_
    rintro e w' ⟨rfl, hK⟩
    exact ⟨by simp only [checkR, hb], hK⟩
  have hb : stateB r = false := by simp [stateB, h0, h1, h2, h3, h4]
  simp only [h0, h1, h2, h3, h4, if_false] at hf
  refine (check_miss r w hf).mono ?_
  rintro e w' ⟨rfl, hK⟩
  exact ⟨by simp [checkR, hb], hK⟩
end Go.Proofs.YtbfimimhgdkpaaaGreatDoor

/- Masks and bits as the references count them; a drawn region with its world a letter. No condition. -/
namespace Go.Proofs.YtbfimimhgdkpaaaGreatDoor

def mskN (n i : Nat) : Nat := (2 ^ min i n - 1) * 2 ^ (i - min i n)
theorem msk_zero (n : Nat) : mskN n 0 = 0 := by simp [mskN]
theorem msk_lt (n i : Nat) : mskN n i < 2 ^ i := by
  unfold mskN
  have h1 : 2 ^ i = 2 ^ min i n * 2 ^ (i - min i n) := by rw [← Nat.pow_add]; congr 1; omega
  have h2 : 0 < 2 ^ min i n := Nat.pow_pos (by decide)
  have h3 : 0 < 2 ^ (i - min i n) := Nat.pow_pos (by decide)
  rw [h1]
  exact Nat.mul_lt_mul_of_pos_right (by omega) h3
theorem msk_less {n i : Nat} (h : i < n) : mskN n (i + 1) = 2 * mskN n i + 1 := by
  unfold mskN
  have e1 : min (i + 1) n = i + 1 := by omega
  have e2 : min i n = i := by omega
  rw [e1, e2]
  have h2 : 0 < 2 ^ i := Nat.pow_pos (by decide)
  simp only [Nat.sub_self, Nat.pow_zero, Nat.mul_one, Nat.pow_succ]
  omega
theorem msk_more {n i : Nat} (h : ¬ i < n) : mskN n (i + 1) = 2 * mskN n i := by
  unfold mskN
  have e1 : min (i + 1) n = n := by omega
  have e2 : min i n = n := by omega
  rw [e1, e2, show i + 1 - n = (i - n) + 1 by omega, Nat.pow_succ]
  generalize 2 ^ (i - n) = x
  generalize 2 ^ n - 1 = y
  rw [Nat.mul_comm x 2, Nat.mul_left_comm]
theorem msk_all {n : Nat} (h : n ≤ 32) : mskN n 32 = maskN n := by
  unfold mskN maskN
  have e1 : min 32 n = n := by omega
  rw [e1, Nat.sub_mul, ← Nat.pow_add, show n + (32 - n) = 32 by omega]
  simp
theorem half_step (a k : Nat) : a / 2 ^ k / 2 = a / 2 ^ (k + 1) := by rw [Nat.div_div_eq_div_mul, ← Nat.pow_succ]
theorem bit_of {a i : Nat} (h : i < 32) : a / 2 ^ (31 - i) % 2 = bitN a i := by unfold bitN; rw [if_pos h]
theorem wp_anyW {id : Nat} {P : Program} {Q : Exit → Act → World → Prop} {a : Act} {w : World} {l : List Oper} (hm : P.follows .mixedOrders = true)
    (h : ∀ W, W = w.drew → wpAny P .any l.toArray Q l.toArray.size (Array.replicate l.toArray.size false) a W) : (Code.region id l.toArray true).wp P Q a w := wp_region_any hm (h _ rfl)
end Go.Proofs.YtbfimimhgdkpaaaGreatDoor
