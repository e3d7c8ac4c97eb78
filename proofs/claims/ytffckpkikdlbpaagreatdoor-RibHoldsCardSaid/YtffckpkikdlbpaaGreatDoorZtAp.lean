/- Lemmas and contracts for the theorem of this claim: CfE, CfF. -/
import Derived.Test.YtffckpkikdlbpaaGreatDoorZtAo
import Derived.StillTailTactics
set_option linter.unusedSimpArgs false
set_option linter.unusedVariables false
namespace Go.Proofs.YtffckpkikdlbpaaGreatDoor
open Go.RowKit
theorem cta_yes (e : Int) (w : World) : (Instr.typeAssert (stopCV e) 20 187 true).run Tryz.prog w = .ok (.tuple #[.int .i64 e, .bool true]) w := by kernel_rfl
theorem cta_nil (w : World) : (Instr.typeAssert .nilIface 20 187 true).run Tryz.prog w = .ok (.tuple #[.int .i64 0, .bool false]) w := by kernel_rfl
set_option maxRecDepth 100000 in
theorem caught_yes (p : Nat) (y : Value) (e : Int) (w : World) (h1 : Blk w p 53 #[y]) : Calls Tryz.prog 95 #[stopCV e, .pointer (some ⟨p, 0, none⟩)] w fun en w' => en = .returned (.bool true) ∧ Blk w' p 53 #[.int .i64 e] ∧ Only [p] w w' := by
  have d0 : w.cell? ⟨p, 0, none⟩ = some y := h1.cell 0
  have z0 := h1.frozen 0
  have hty := cta_yes
  go_enter Tryz.func95, Tryz.ntmps95
  go_wp2_with fail
  go_ret
  exact ⟨rfl, h1.set_ 0 (.int .i64 e), (Only.refl [p] w).setCell (p := ⟨p, 0, none⟩) (.inl (by simp)) (.int .i64 e)⟩
set_option maxRecDepth 100000 in
theorem caught_no (p : Value) (w : World) : Calls Tryz.prog 95 #[.nilIface, p] w fun en w' => en = .returned (.bool false) ∧ w' = w := by
  have hty := cta_nil
  go_enter Tryz.func95, Tryz.ntmps95
  go_wp2_with fail
  go_ret
  exact ⟨rfl, rfl⟩
theorem recM_rt : recM .returning = (.nilIface, .returning) := rfl
theorem callsD_rec1 {P : Program} {f : FuncId} {fn : Func} {id : Nat} {o : Oper} {rest : List Oper} {args : Array Value} {u : FrameMode} {w : World} {R : Ending → FrameMode → World → Prop}
    (v : Value) (u' : FrameMode) (hm : recM u = (v, u'))
    (hf : P.funcs[f]? = some fn) (hb : fn.body = some (.region id (o :: rest).toArray false)) (hg : o.guard = none) (hop : o.op = .call { callee := .builtin .recover, args := #[], argTypes := #[] })
    (h : wpList P (o :: rest).toArray (bodyPost P fn (fun e w => R e u' w)) rest
      (Act.put { tmps := args ++ Array.replicate (fn.ntmps - args.size) undef, defers := [] } o.dst v) w) : CallsD P f args u w R := by
  refine callsD_of_wpS hf hb fun c₀ cs hu => ?_
  refine wpS_region_rec hg hop ?_
  subst hu
  rw [hm]
  have hQ : ∀ e a w, bodyPost P fn (fun e w => R e u' w) e a w → bodyPostS P fn c₀ cs R e a ({ c₀ with mode := u' } :: cs) w := fun e a w hq => bodyPostS_of hq
  have key : ∀ (l : List Oper) (a : Act) (w : World), wpList P (o :: rest).toArray (bodyPost P fn (fun e w => R e u' w)) l a w →
      wpList P (o :: rest).toArray (fun e a w => bodyPostS P fn c₀ cs R e a ({ c₀ with mode := u' } :: cs) w) l a w := by
    intro l
    induction l with
    | nil => intro a w hh; exact hQ _ _ _ hh
    | cons o' l ih =>
      intro a w hh
      unfold wpList at hh ⊢
      split
      · rename_i hwn
        rw [if_pos hwn] at hh
        rcases hh with hh | ⟨ha, a₀, w₀, hq⟩
        · left
          unfold Oper.wp Oper.upon at hh ⊢
          split at hh
          · exact ih _ _ hh
          · exact ih _ _ hh
          · exact ih _ _ hh
          · refine hh.mono fun e w'' hr => ?_
            cases e with
            | returned v => exact ih _ _ hr
            | panicked ch => exact hQ _ _ _ hr
            | outgrown => obtain ⟨a₀, w₀, hq⟩ := hr; exact ⟨a₀, w₀, hQ _ _ _ hq⟩
          · exact hh.mono fun v w'' hr => ih _ _ hr
          · exact hQ _ _ _ hh
          · exact hh.elim
        · exact .inr ⟨ha, a₀, w₀, hQ _ _ _ hq⟩
      · rename_i hwn
        rw [if_neg hwn] at hh
        exact ih _ _ hh
  exact key _ _ _ h
def upC (e : Int) : FrameMode := .panicking [{ v := stopCV e, recovered := false }]
def caughtC (e : Int) : FrameMode := .panicking [{ v := stopCV e, recovered := true }]
theorem recM_upC (e : Int) : recM (upC e) = (stopCV e, caughtC e) := rfl
set_option maxRecDepth 100000 in
set_option maxHeartbeats 1000000 in
theorem catch_check (p : Nat) (y : Value) (e : Int) (w : World) (h1 : Blk w p 53 #[y]) :
    CallsD Tryz.prog 94 #[.pointer (some ⟨p, 0, none⟩)] (upC e) w fun en u' w' =>
      en = .returned (.tuple #[]) ∧ u' = caughtC e ∧ Blk w' p 53 #[.int .i64 e] ∧ Only [p] w w' := by
  refine callsD_rec1 _ _ (recM_upC e) Tryz.func94 rfl rfl rfl ?_
  simp only [Tryz.ntmps94, Act.put, List.size_toArray, List.length_cons, List.length_nil, Nat.reduceAdd, Nat.reduceSub, Array.replicate_succ, Array.replicate_zero, List.push_toArray, List.append_toArray, List.nil_append, List.cons_append]
  go_wp2_with fail
  refine (caught_yes p y e _ h1).mono ?_
  rintro en w' ⟨rfl, hB, hO⟩
  go_wp2_with fail
  go_end0
  exact ⟨rfl, trivial, hB, hO⟩
set_option maxRecDepth 100000 in
theorem idle_check (p : Value) (w : World) :
    CallsD Tryz.prog 94 #[p] .returning w fun en u' w' => en = .returned (.tuple #[]) ∧ u' = .returning ∧ w' = w := by
  refine callsD_rec1 _ _ recM_rt Tryz.func94 rfl rfl rfl ?_
  simp only [Tryz.ntmps94, Act.put, List.size_toArray, List.length_cons, List.length_nil, Nat.reduceAdd, Nat.reduceSub, Array.replicate_succ, Array.replicate_zero, List.push_toArray, List.append_toArray, List.nil_append, List.cons_append]
  go_wp2_with fail
  refine (caught_no p _).mono ?_
  rintro en w' ⟨rfl, rfl⟩
  go_wp2_with fail
  go_end0
  exact ⟨rfl, trivial, rfl⟩
set_option maxRecDepth 100000 in
set_option maxHeartbeats 2000000 in
theorem ccheck_any (c : Cf) (A : Option Addr) (m : Nat) (w : World) (hm : c.own.length ≤ m) (hR : Rd w 2 PI.enc A c.own) (hC : CapAt w) (ha : ∀ k (hk : k < c.own.length), c.own[k].a < 4294967296) :
    Calls Tryz.prog 51 #[cfV c A c.own.length m] w fun e w' => e = .returned (.int .i64 (checkC c)) ∧ Kp w w' := by
  obtain ⟨b, hb⟩ : ∃ b, w.heap.size = b := ⟨_, rfl⟩
  obtain ⟨W, hW, kW, B0, B1⟩ : ∃ W, (w.alloc (.cells (cfC c A c.own.length m) 24)).alloc (.cells #[.int .i64 0] 53) = W ∧ Kp w W ∧ Blk W b 24 (cfC c A c.own.length m) ∧ Blk W (b + 1) 53 #[.int .i64 0] := ⟨_, rfl, ((Kp.refl _).alloc _).alloc _, by rw [← hb]; exact (Blk.new w _ _).alloc _, by rw [← hb]; exact Blk.new1 w _ _ _⟩
  have hR := hR.keep kW
  have hC := hC.keep kW
  have c0 : W.cell? ⟨b, 0, none⟩ = some (.int .i64 c.t0) := B0.cell 0
  have c1 : W.cell? ⟨b, 1, none⟩ = some (.int .i64 c.t1) := B0.cell 1
  have c2 : W.cell? ⟨b, 2, none⟩ = some (.int .i64 c.t2) := B0.cell 2
  have c3 : W.cell? ⟨b, 3, none⟩ = some (.int .i64 c.t3) := B0.cell 3
  have c4 : W.cell? ⟨b, 4, none⟩ = some (.int .i64 c.t4) := B0.cell 4
  have c5 : W.cell? ⟨b, 5, none⟩ = some (.int .i64 c.t5) := B0.cell 5
  have c6 : W.cell? ⟨b, 6, none⟩ = some (.int .i64 c.t6) := B0.cell 6
  have c7 : W.cell? ⟨b, 7, none⟩ = some (.int .i64 c.cap) := B0.cell 7
  have c8 : W.cell? ⟨b, 8, none⟩ = some (.slice A c.own.length m) := B0.cell 8
  unfold cfC at hW
  go_enter_defers Tryz.func51, Tryz.ntmps51
  go_wp2_with fail
  refine (must_any c A m _ hm hR hC ha).mono ?_
  rintro e w1 ⟨hY, hN, K1⟩
  have B2 := B1.keep K1
  have k1 := kW.trans K1
  clear c0 c1 c2 c3 c4 c5 c6 c7 c8
  cases hok : okCf c with
  | true =>
    obtain rfl := hY hok
    have d0 : w1.cell? ⟨b + 1, 0, none⟩ = some (.int .i64 0) := B2.cell 0
    have z0 := B2.frozen 0
    have H := Lib.hid (show checkC c = 0 by unfold checkC; rw [hok]; rfl)
    clear hY hN hok
    go_wp2_with fail
    refine leaves_cons (f := 94) (args := #[.pointer (some ⟨b + 1, 0, none⟩)]) (by simp) (by simp [go_sem]) ?_
    refine (idle_check _ _).mono ?_
    rintro e u' wz ⟨rfl, rfl, rfl⟩
    have D := B2.set_ 0 (.int .i64 0)
    have q : (w1.setCell ⟨b + 1, 0, none⟩ (.int .i64 0)).cell? ⟨b + 1, 0, none⟩ = some (.int .i64 0) := D.cell 0
    show Leaves _ _ _ _ [] .returning _
    exact ⟨.int .i64 0, by simp [results, Tryz.results51, go_sem, q], by rw [H.out], k1.setCell (by show w.heap.size ≤ b + 1; omega) _⟩
  | false =>
    obtain rfl := hN hok
    have H := Lib.hid (show checkC c = 2 by unfold checkC; rw [hok]; rfl)
    clear hY hN hok
    go_wp2_with fail
    refine leaves_cons (f := 94) (args := #[.pointer (some ⟨b + 1, 0, none⟩)]) (by simp) (by simp [go_sem]) ?_
    refine (catch_check (b + 1) _ 2 _ B2).mono ?_
    rintro e u' wz ⟨rfl, rfl, C, hO⟩
    have q : wz.cell? ⟨b + 1, 0, none⟩ = some (.int .i64 2) := C.cell 0
    show Leaves _ _ _ _ [] .returning _
    exact ⟨.int .i64 2, by simp [results, Tryz.results51, go_sem, q], by rw [H.out], hO.kp k1 (by simp; omega)⟩
end Go.Proofs.YtffckpkikdlbpaaGreatDoor

namespace Go.Proofs.YtffckpkikdlbpaaGreatDoor
open Go.RowKit
attribute [local go_sem] Oper.semAt_some
theorem PI.one (p : PI) : ∀ u ∈ p.enc, u.oneCell' = true := by
  intro u hu
  simp only [PI.enc, List.mem_cons, List.not_mem_nil, or_false] at hu
  rcases hu with rfl | rfl <;> rfl
theorem EPfx : ElemOf Tryz.prog 22 29 (.agg #[.int .u32 0, .int .i64 0]) 2 16 := ⟨Tryz.underlying22, by kernel_rfl, rfl, by decide⟩
structure SlPI (w : World) (A : Option Addr) (m : Nat) (ps : List PI) : Prop where
  rd : Rd w 2 PI.enc A ps
  le : ps.length ≤ m
  nil : A = none → ps = [] ∧ m = 0
theorem SlPI.keep {w w' : World} {A : Option Addr} {m : Nat} {ps : List PI} (h : SlPI w A m ps) (k : Kp w w') : SlPI w' A m ps := ⟨h.rd.keep k, h.le, h.nil⟩
theorem SlPI.of_own {w : World} {B : Nat} {A : Option Addr} {n m : Nat} {ps : List PI} (h : Own w B 29 2 PI.enc (.slice A n m) ps) : SlPI w A m ps := by
  refine ⟨h.rdAt (by decide) PI.len, ?_, ?_⟩
  · rcases h.2 with ⟨hv, h0⟩ | ⟨g, cap, cur, hv, _, _, hc, _⟩
    · omega
    · injection hv with _ _ e
      omega
  · intro e
    rcases h.2 with ⟨hv, h0⟩ | ⟨g, cap, cur, hv, _⟩
    · injection hv with _ _ e3
      exact ⟨List.length_eq_zero_iff.1 h0, e3⟩
    · injection hv with e1
      rw [e] at e1
      cases e1
def PClonP (w : World) (ps : List PI) (e : Ending) (w' : World) : Prop := ∃ A c, e = .returned (.slice A ps.length c) ∧ Own w' w.heap.size 29 2 PI.enc (.slice A ps.length c) ps ∧ Kp w w'
theorem pfxs_nil (w : World) : (binOp .eql 22 (.slice none 0 0) (.slice none 0 0)).run Tryz.prog w = .ok (.bool true) w := by kernel_rfl
set_option maxRecDepth 100000 in
set_option maxHeartbeats 1000000 in
theorem pclone_any (A : Option Addr) (c : Nat) (ps : List PI) (w : World) (hS : SlPI w A c ps) (hn : ps.length ≤ 1000000) :
    Calls Tryz.prog 97 #[.slice A ps.length c] w (PClonP w ps) := by
  cases A with
  | none =>
    obtain ⟨rfl, rfl⟩ := hS.nil rfl
    have h1 := pfxs_nil
    simp only [List.length_nil]
    go_enter Tryz.func97, Tryz.ntmps97
    go_wp2_with fail
    go_ret
    exact ⟨none, 0, rfl, Own.nil _ _ _ _ _, Kp.refl _⟩
  | some g =>
    have hR := hS.rd
    have hE : Own (w.alloc (.cells #[] 29)) w.heap.size 29 2 PI.enc (.slice (some ⟨w.heap.size, 0, none⟩) 0 0) [] := Own.empty (Nat.le_refl _) (Blk.new w _ _)
    have hnil : ∀ w : World, (binOp .eql 22 (.slice (some g) ps.length c) (.slice none 0 0)).run Tryz.prog w = .ok (.bool false) w := fun _ => by kernel_rfl
    go_enter Tryz.func97, Tryz.ntmps97
    go_wp2_with (at_builtin; go_loud (refine wpList_appl EPfx PI.len PI.one rfl _ _ rfl rfl rfl hE (hR.keep ((Kp.refl _).alloc _)) (by simp; omega) (by simp) ?_; intro v' w1 hown hg hat; rw [List.nil_append] at hown; have hK1 : Kp w w1 := ((Kp.refl w).alloc _).grown hg (fun q hq => (World.ownsRow.lt hE q hq).1); clear hg hat hE; obtain ⟨A', c', rfl⟩ := hown.form))
    go_ret
    exact ⟨_, _, rfl, hown, hK1⟩
def cfSet (w : World) (g : Nat) (c : Cf) (A : Option Addr) (n m : Nat) : World := (((((((((w.setCell ⟨g, 0, none⟩ (.int .i64 c.t0)).setCell ⟨g, 1, none⟩ (.int .i64 c.t1)).setCell ⟨g, 2, none⟩ (.int .i64 c.t2)).setCell ⟨g, 3, none⟩ (.int .i64 c.t3)).setCell ⟨g, 4, none⟩ (.int .i64 c.t4)).setCell ⟨g, 5, none⟩ (.int .i64 c.t5)).setCell ⟨g, 6, none⟩ (.int .i64 c.t6)).setCell ⟨g, 7, none⟩ (.int .i64 c.cap)).setCell ⟨g, 8, none⟩ (.slice A n m))
theorem Blk.putCf {w : World} {g : Nat} {T : TypeId} {v0 v1 v2 v3 v4 v5 v6 v7 v8 : Value} (h : Blk w g T #[v0, v1, v2, v3, v4, v5, v6, v7, v8]) (c : Cf) (A : Option Addr) (n m : Nat) : Blk (cfSet w g c A n m) g T (cfC c A n m) := by
  have H := (((((((((h.set_ 0 (.int .i64 c.t0)).set_ 1 (.int .i64 c.t1)).set_ 2 (.int .i64 c.t2)).set_ 3 (.int .i64 c.t3)).set_ 4 (.int .i64 c.t4)).set_ 5 (.int .i64 c.t5)).set_ 6 (.int .i64 c.t6)).set_ 7 (.int .i64 c.cap)).set_ 8 (.slice A n m))
  simp only [List.setIfInBounds_toArray, List.set_cons_zero, List.set_cons_succ] at H
  exact H
theorem Kp.putCf {a w : World} (h : Kp a w) {g : Nat} (hg : a.heap.size ≤ g) (c : Cf) (A : Option Addr) (n m : Nat) : Kp a (cfSet w g c A n m) := (((((((((h.setCell (p := ⟨g, 0, none⟩) hg (.int .i64 c.t0)).setCell (p := ⟨g, 1, none⟩) hg (.int .i64 c.t1)).setCell (p := ⟨g, 2, none⟩) hg (.int .i64 c.t2)).setCell (p := ⟨g, 3, none⟩) hg (.int .i64 c.t3)).setCell (p := ⟨g, 4, none⟩) hg (.int .i64 c.t4)).setCell (p := ⟨g, 5, none⟩) hg (.int .i64 c.t5)).setCell (p := ⟨g, 6, none⟩) hg (.int .i64 c.t6)).setCell (p := ⟨g, 7, none⟩) hg (.int .i64 c.cap)).setCell (p := ⟨g, 8, none⟩) hg (.slice A n m))
theorem Own.putCf {α : Type} {w : World} {B e sz : Nat} {enc : α → List Value} {v : Value} {xs : List α} (h : Own w B e sz enc v xs) {g : Nat} (hg : g < B) (c : Cf) (A : Option Addr) (n m : Nat) : Own (cfSet w g c A n m) B e sz enc v xs := (((((((((h.setBelow (p := ⟨g, 0, none⟩) hg (.int .i64 c.t0)).setBelow (p := ⟨g, 1, none⟩) hg (.int .i64 c.t1)).setBelow (p := ⟨g, 2, none⟩) hg (.int .i64 c.t2)).setBelow (p := ⟨g, 3, none⟩) hg (.int .i64 c.t3)).setBelow (p := ⟨g, 4, none⟩) hg (.int .i64 c.t4)).setBelow (p := ⟨g, 5, none⟩) hg (.int .i64 c.t5)).setBelow (p := ⟨g, 6, none⟩) hg (.int .i64 c.t6)).setBelow (p := ⟨g, 7, none⟩) hg (.int .i64 c.cap)).setBelow (p := ⟨g, 8, none⟩) hg (.slice A n m))
theorem cf_cells {w : World} {g : Nat} {T : TypeId} {c : Cf} {A : Option Addr} {n m : Nat} (h : Blk w g T (cfC c A n m)) : w.cell? ⟨g, 0, none⟩ = some (.int .i64 c.t0) ∧ w.cell? ⟨g, 1, none⟩ = some (.int .i64 c.t1) ∧ w.cell? ⟨g, 2, none⟩ = some (.int .i64 c.t2) ∧ w.cell? ⟨g, 3, none⟩ = some (.int .i64 c.t3) ∧ w.cell? ⟨g, 4, none⟩ = some (.int .i64 c.t4) ∧ w.cell? ⟨g, 5, none⟩ = some (.int .i64 c.t5) ∧ w.cell? ⟨g, 6, none⟩ = some (.int .i64 c.t6) ∧ w.cell? ⟨g, 7, none⟩ = some (.int .i64 c.cap) ∧ w.cell? ⟨g, 8, none⟩ = some (.slice A n m) := ⟨h.cell 0, h.cell 1, h.cell 2, h.cell 3, h.cell 4, h.cell 5, h.cell 6, h.cell 7, h.cell 8⟩
def CCopyP (c : Cf) (w : World) (e : Ending) (w' : World) : Prop := ∃ A m, e = .returned (cfV c A c.own.length m) ∧ Own w' w.heap.size 29 2 PI.enc (.slice A c.own.length m) c.own ∧ Kp w w'
set_option maxRecDepth 100000 in
set_option maxHeartbeats 1000000 in
theorem ccopy_any (c : Cf) (A : Option Addr) (m : Nat) (w : World) (hS : SlPI w A m c.own) (hn : c.own.length ≤ 1000000) :
    Calls Tryz.prog 53 #[cfV c A c.own.length m] w (CCopyP c w) := by
  obtain ⟨b, hb⟩ : ∃ b, w.heap.size = b := ⟨_, rfl⟩
  obtain ⟨W, hW, kW, B0, B1⟩ : ∃ W, (w.alloc (.cells (cfC c A c.own.length m) 24)).alloc (.cells #[.int .i64 0, .int .i64 0, .int .i64 0, .int .i64 0, .int .i64 0, .int .i64 0, .int .i64 0, .int .i64 0, .slice none 0 0] 24) = W ∧ Kp w W ∧ Blk W b 24 (cfC c A c.own.length m) ∧ Blk W (b + 1) 24 #[.int .i64 0, .int .i64 0, .int .i64 0, .int .i64 0, .int .i64 0, .int .i64 0, .int .i64 0, .int .i64 0, .slice none 0 0] := ⟨_, rfl, ((Kp.refl _).alloc _).alloc _, by rw [← hb]; exact (Blk.new w _ _).alloc _, by rw [← hb]; exact Blk.new1 w _ _ _⟩
  have hS := hS.keep kW
  have c8 : W.cell? ⟨b, 8, none⟩ = some (.slice A c.own.length m) := B0.cell 8
  have hbW := B1.lt
  unfold cfC at hW
  go_enter Tryz.func53, Tryz.ntmps53
  go_wp2_with fail
  refine (pclone_any A m c.own _ hS hn).mono ?_
  rintro e w1 ⟨A', m', rfl, hO, K1⟩
  have B2 := B0.keep K1
  have B3 := B1.keep K1
  have k1 := kW.trans K1
  clear c8 hW
  have z8 := B2.frozen 8
  have c8 : w1.cell? ⟨b, 8, none⟩ = some (.slice A c.own.length m) := B2.cell 8
  obtain ⟨W2, hW2, B4, B5, k2, hO2⟩ : ∃ W2, w1.setCell ⟨b, 8, none⟩ (.slice A' c.own.length m') = W2 ∧ Blk W2 b 24 (cfC c A' c.own.length m') ∧ Blk W2 (b + 1) 24 #[.int .i64 0, .int .i64 0, .int .i64 0, .int .i64 0, .int .i64 0, .int .i64 0, .int .i64 0, .int .i64 0, .slice none 0 0] ∧ Kp w W2 ∧ Own W2 W.heap.size 29 2 PI.enc (.slice A' c.own.length m') c.own :=
    ⟨_, rfl, by have := B2.set_ 8 (.slice A' c.own.length m'); simpa [cfC] using this, B3.far (p := ⟨b, 8, none⟩) (by show b + 1 ≠ b; omega) _, k1.setCell (by show w.heap.size ≤ b; omega) _, hO.setBelow (p := ⟨b, 8, none⟩) (by show b < W.heap.size; omega) _⟩
  have hO := Lib.hid hO2
  have hbw : b + 1 < W2.heap.size := B5.lt
  have p0 : W2.cell? ⟨b, 0, none⟩ = some (.int .i64 c.t0) := B4.cell 0
  have p1 : W2.cell? ⟨b, 1, none⟩ = some (.int .i64 c.t1) := B4.cell 1
  have p2 : W2.cell? ⟨b, 2, none⟩ = some (.int .i64 c.t2) := B4.cell 2
  have p3 : W2.cell? ⟨b, 3, none⟩ = some (.int .i64 c.t3) := B4.cell 3
  have p4 : W2.cell? ⟨b, 4, none⟩ = some (.int .i64 c.t4) := B4.cell 4
  have p5 : W2.cell? ⟨b, 5, none⟩ = some (.int .i64 c.t5) := B4.cell 5
  have p6 : W2.cell? ⟨b, 6, none⟩ = some (.int .i64 c.t6) := B4.cell 6
  have p7 : W2.cell? ⟨b, 7, none⟩ = some (.int .i64 c.cap) := B4.cell 7
  have p8 : W2.cell? ⟨b, 8, none⟩ = some (.slice A' c.own.length m') := B4.cell 8
  have q0 : W2.cell? ⟨b + 1, 0, none⟩ = some (.int .i64 0) := B5.cell 0
  have q1 : W2.cell? ⟨b + 1, 1, none⟩ = some (.int .i64 0) := B5.cell 1
  have q2 : W2.cell? ⟨b + 1, 2, none⟩ = some (.int .i64 0) := B5.cell 2
  have q3 : W2.cell? ⟨b + 1, 3, none⟩ = some (.int .i64 0) := B5.cell 3
  have q4 : W2.cell? ⟨b + 1, 4, none⟩ = some (.int .i64 0) := B5.cell 4
  have q5 : W2.cell? ⟨b + 1, 5, none⟩ = some (.int .i64 0) := B5.cell 5
  have q6 : W2.cell? ⟨b + 1, 6, none⟩ = some (.int .i64 0) := B5.cell 6
  have q7 : W2.cell? ⟨b + 1, 7, none⟩ = some (.int .i64 0) := B5.cell 7
  have q8 : W2.cell? ⟨b + 1, 8, none⟩ = some (.slice none 0 0) := B5.cell 8
  have z0_ := B5.frozen 0
  have z1_ := B5.frozen 1
  have z2_ := B5.frozen 2
  have z3_ := B5.frozen 3
  have z4_ := B5.frozen 4
  have z5_ := B5.frozen 5
  have z6_ := B5.frozen 6
  have z7_ := B5.frozen 7
  have z8_ := B5.frozen 8
  clear hO2
  go_wp2_with fail
  obtain ⟨W3, hW3, B6, k3, hO3⟩ : ∃ W3, cfSet W2 (b + 1) c A' c.own.length m' = W3 ∧ Blk W3 (b + 1) 24 (cfC c A' c.own.length m') ∧ Kp w W3 ∧ Own W3 w.heap.size 29 2 PI.enc (.slice A' c.own.length m') c.own :=
    ⟨_, rfl, B5.putCf c A' c.own.length m', k2.putCf (by omega) c A' c.own.length m', (hO.out.putCf (by omega) c A' c.own.length m').mono kW.size⟩
  unfold cfSet at hW3
  rw [hW3]
  clear hW3 p0 p1 p2 p3 p4 p5 p6 p7 p8 q0 q1 q2 q3 q4 q5 q6 q7 q8 z0_ z1_ z2_ z3_ z4_ z5_ z6_ z7_ z8_
  obtain ⟨y0, y1, y2, y3, y4, y5, y6, y7, y8⟩ := cf_cells B6
  exact ⟨rfl, cfV c A' c.own.length m', by simp [results, Tryz.results53, go_sem, y0, y1, y2, y3, y4, y5, y6, y7, y8], A', m', rfl, hO3, k3⟩
end Go.Proofs.YtffckpkikdlbpaaGreatDoor
