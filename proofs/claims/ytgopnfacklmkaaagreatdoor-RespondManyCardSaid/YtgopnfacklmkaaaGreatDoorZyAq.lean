/- Lemmas and contracts for the theorem of this claim: CfE, CfF, RbL, RbM. -/
import Derived.Test.YtgopnfacklmkaaaGreatDoorZyAp
import Derived.StillTailTactics
set_option linter.all false
set_option maxHeartbeats 16000000
namespace Go.Proofs.YtgopnfacklmkaaaGreatDoor
section
open Go.RowKit
theorem vkL (e : Int) (w : World) : (Instr.typeAssert (stopCV e) 20 289 true).run Tryz.prog w = .ok (.tuple #[.int .i64 e, .bool true]) w := by kernel_rfl
theorem vkM (w : World) : (Instr.typeAssert .nilIface 20 289 true).run Tryz.prog w = .ok (.tuple #[.int .i64 0, .bool false]) w := by kernel_rfl
set_option maxRecDepth 100000 in
theorem vfH (p : Nat) (y : Value) (e : Int) (w : World) (h1 : Blk w p 44 #[y]) : Calls Tryz.prog 115 #[stopCV e, .pointer (some ⟨p, 0, none⟩)] w fun en w' => en = .returned (.bool true) ∧ Blk w' p 44 #[.int .i64 e] ∧ Only [p] w w' := by
 have d0 : w.cell? ⟨p, 0, none⟩ = some y := h1.cell 0
 have z0 := Blk.frozen h1
 have hty := vkL
 go_enter Tryz.func115, Tryz.ntmps115
 go_wp2_with fail
 go_ret
 exact ⟨rfl, h1.set_ 0 (.int .i64 e), (Only.refl [p] w).setCell (p := ⟨p, 0, none⟩) (.inl (by simp)) (.int .i64 e)⟩
set_option maxRecDepth 100000 in
theorem vgW (p : Value) (w : World) : Calls Tryz.prog 115 #[.nilIface, p] w fun en w' => en = .returned (.bool false) ∧ w' = w := by
 have hty := vkM
 go_enter Tryz.func115, Tryz.ntmps115
 go_wp2_with fail
 go_ret
 exact ⟨rfl, rfl⟩
theorem vbP : recM .returning = (.nilIface, .returning) := rfl
theorem vcD {P : Program} {f : FuncId} {fn : Func} {id : Nat} {o : Oper} {rest : List Oper} {args : Array Value} {u : FrameMode} {w : World} {R : Ending → FrameMode → World → Prop}
  (v : Value) (u' : FrameMode) (hm : recM u = (v, u'))
  (hf : P.funcs[f]? = some fn) (hb : fn.body = some (.region id (o :: rest).toArray false)) (hg : o.guard = none) (hop : o.op = .call { callee := .builtin .recover, args := #[], argTypes := #[] })
  (h : wpList P (o :: rest).toArray (bodyPost P fn (fun e w => R e u' w)) rest
   (Act.put { tmps := args ++ Array.replicate (fn.ntmps - args.size) undef, defers := [] } o.dst v) w) : CallsD P f args u w R := by
 refine callsD_of_wpS hf hb fun c₀ cs hu => ?_
 refine vbg hg hop ?_
 subst hu
 rw [hm]
 have hQ : ∀ e a w, bodyPost P fn (fun e w => R e u' w) e a w → bodyPostS P fn c₀ cs R e a ({ c₀ with mode := u' } :: cs) w := fun e a w hq => vaj hq
 have key : ∀ (l : List Oper) (a : Act) (w : World), wpList P (o :: rest).toArray (bodyPost P fn (fun e w => R e u' w)) l a w →
   wpList P (o :: rest).toArray (fun e a w => bodyPostS P fn c₀ cs R e a ({ c₀ with mode := u' } :: cs) w) l a w := by
  intro l
  induction l with
  | nil => intro a w hh; exact hQ _ _ _ hh
  | cons o' l ih =>
   intro a w hh
   unfold wpList at hh ⊢
   split
   ·rename_i hwn
    rw [if_pos hwn] at hh
    rcases hh with hh | ⟨ha, a₀, w₀, hq⟩
    ·left
     unfold Oper.wp Oper.upon at hh ⊢
     split at hh
     ·exact ih _ _ hh
     ·exact ih _ _ hh
     ·exact ih _ _ hh
     ·refine hh.mono fun e w'' hr => ?_
      cases e with
      | returned v => exact ih _ _ hr
      | panicked ch => exact hQ _ _ _ hr
      | outgrown => obtain ⟨a₀, w₀, hq⟩ := hr; exact ⟨a₀, w₀, hQ _ _ _ hq⟩
     ·exact hh.mono fun v w'' hr => ih _ _ hr
     ·exact hQ _ _ _ hh
     ·exact hh.elim
    ·exact .inr ⟨ha, a₀, w₀, hQ _ _ _ hq⟩
   ·rename_i hwn
    rw [if_neg hwn] at hh
    exact ih _ _ hh
 exact key _ _ _ h
def upC (e : Int) : FrameMode := .panicking [{ v := stopCV e, recovered := false }]
def caughtC (e : Int) : FrameMode := .panicking [{ v := stopCV e, recovered := true }]
theorem viJ (e : Int) : recM (upC e) = (stopCV e, caughtC e) := rfl
set_option maxRecDepth 100000 in
theorem veB (p : Nat) (y : Value) (e : Int) (w : World) (h1 : Blk w p 44 #[y]) :
  CallsD Tryz.prog 114 #[.pointer (some ⟨p, 0, none⟩)] (upC e) w fun en u' w' =>
   en = .returned (.tuple #[]) ∧ u' = caughtC e ∧ Blk w' p 44 #[.int .i64 e] ∧ Only [p] w w' := by
 refine vcD _ _ (viJ e) Tryz.func114 rfl rfl rfl ?_
 simp only [Tryz.ntmps114, Act.put, List.size_toArray, List.length_cons, List.length_nil, Nat.reduceAdd, Nat.reduceSub, Array.replicate_succ, Array.replicate_zero, List.push_toArray, List.append_toArray, List.nil_append, List.cons_append]
 go_wp2_with fail
 refine (vfH p y e _ h1).mono ?_
 rintro en w' ⟨rfl, hB, hO⟩
 go_wp2_with fail
 go_end0
 exact ⟨rfl, trivial, hB, hO⟩
set_option maxRecDepth 100000 in
theorem vfI (p : Value) (w : World) :
  CallsD Tryz.prog 114 #[p] .returning w fun en u' w' => en = .returned (.tuple #[]) ∧ u' = .returning ∧ w' = w := by
 refine vcD _ _ vbP Tryz.func114 rfl rfl rfl ?_
 simp only [Tryz.ntmps114, Act.put, List.size_toArray, List.length_cons, List.length_nil, Nat.reduceAdd, Nat.reduceSub, Array.replicate_succ, Array.replicate_zero, List.push_toArray, List.append_toArray, List.nil_append, List.cons_append]
 go_wp2_with fail
 refine (vgW p _).mono ?_
 rintro en w' ⟨rfl, rfl⟩
 go_wp2_with fail
 go_end0
 exact ⟨rfl, trivial, rfl⟩
set_option maxRecDepth 100000 in
theorem vdc (c : Cf) (A : Option Addr) (m : Nat) (w : World) (hm : c.own.length ≤ m) (hR : Rd w 2 PI.enc A c.own) (hC : CapAt w) (ha : ∀ k (hk : k < c.own.length), c.own[k].a < 4294967296) :
  Calls Tryz.prog 49 #[cfV c A c.own.length m] w fun e w' => e = .returned (.int .i64 (checkC c)) ∧ Kp w w' := by
 obtain ⟨b, hb⟩ : ∃ b, w.heap.size = b := ⟨_, rfl⟩
 obtain ⟨W, hW, kW, B0, B1⟩ := Blk.al2 hb (cfC c A c.own.length m) 49 #[.int .i64 0] 44
 have hR := hR.keep kW
 have hC := hC.keep kW
 have c0 := Blk.f B0 rfl
 unfold cfC at hW
 go_enter_defers Tryz.func49, Tryz.ntmps49
 go_wp2_with fail
 refine (viI c A m _ hm hR hC ha).mono ?_
 rintro e w1 ⟨hY, hN, K1⟩
 have B2 := B1.keep K1
 have k1 := kW.trans K1
 clear c0
 cases hok : okCf c with
 | true =>
  obtain rfl := hY hok
  have d0 : w1.cell? ⟨b + 1, 0, none⟩ = some (.int .i64 0) := B2.cell 0
  have z0 := Blk.frozen B2
  have H := Lib.hid (show checkC c = 0 by unfold checkC; rw [hok]; rfl)
  clear hY hN hok
  go_wp2_with fail
  refine leaves_cons (f := 114) (args := #[.pointer (some ⟨b + 1, 0, none⟩)]) (by simp) (by simp [go_sem]) ?_
  refine (vfI _ _).mono ?_
  rintro e u' wz ⟨rfl, rfl, rfl⟩
  have D := B2.set_ 0 (.int .i64 0)
  have q : (w1.setCell ⟨b + 1, 0, none⟩ (.int .i64 0)).cell? ⟨b + 1, 0, none⟩ = some (.int .i64 0) := D.cell 0
  show Leaves _ _ _ _ [] .returning _
  exact ⟨.int .i64 0, by simp [results, Tryz.results49, go_sem, q], by rw [H.out], k1.setCell (by show w.heap.size ≤ b + 1; omega) _⟩
 | false =>
  obtain rfl := hN hok
  have H := Lib.hid (show checkC c = 2 by unfold checkC; rw [hok]; rfl)
  clear hY hN hok
  go_wp2_with fail
  refine leaves_cons (f := 114) (args := #[.pointer (some ⟨b + 1, 0, none⟩)]) (by simp) (by simp [go_sem]) ?_
  refine (veB (b + 1) _ 2 _ B2).mono ?_
  rintro e u' wz ⟨rfl, rfl, C, hO⟩
  have q : wz.cell? ⟨b + 1, 0, none⟩ = some (.int .i64 2) := C.cell 0
  show Leaves _ _ _ _ [] .returning _
  exact ⟨.int .i64 2, by simp [results, Tryz.results49, go_sem, q], by rw [H.out], hO.kp k1 (by simp; omega)⟩
attribute [local go_sem] Oper.semAt_some
theorem PI.one (p : PI) : ∀ u ∈ p.enc, u.oneCell' = true := by
 intro u hu
 simp only [PI.enc, List.mem_cons, List.not_mem_nil, or_false] at hu
 rcases hu with rfl | rfl <;> rfl
theorem EPfx : ElemOf Tryz.prog 47 39 (.agg #[.int .u32 0, .int .i64 0]) 2 16 := ⟨Tryz.underlying47, by kernel_rfl, rfl, by decide⟩
structure SlPI (w : World) (A : Option Addr) (m : Nat) (ps : List PI) : Prop where
 rd : Rd w 2 PI.enc A ps
 le : ps.length ≤ m
 nil : A = none → ps = [] ∧ m = 0
theorem SlPI.keep {w w' : World} {A : Option Addr} {m : Nat} {ps : List PI} (h : SlPI w A m ps) (k : Kp w w') : SlPI w' A m ps := ⟨h.rd.keep k, h.le, h.nil⟩
theorem SlPI.of_own {w : World} {B : Nat} {A : Option Addr} {n m : Nat} {ps : List PI} (h : Own w B 39 2 PI.enc (.slice A n m) ps) : SlPI w A m ps := by
 refine ⟨h.rdAt (by decide) PI.len, ?_, ?_⟩
 ·rcases h.2 with ⟨hv, h0⟩ | ⟨g, cap, cur, hv, _, _, hc, _⟩
  ·omega
  ·injection hv with _ _ e
   omega
 ·intro e
  rcases h.2 with ⟨hv, h0⟩ | ⟨g, cap, cur, hv, _⟩
  ·injection hv with _ _ e3
   exact ⟨List.length_eq_zero_iff.1 h0, e3⟩
  ·injection hv with e1
   rw [e] at e1
   cases e1
def PClonP (w : World) (ps : List PI) (e : Ending) (w' : World) : Prop := ∃ A c, e = .returned (.slice A ps.length c) ∧ Own w' w.heap.size 39 2 PI.enc (.slice A ps.length c) ps ∧ Kp w w'
theorem viK (w : World) : (binOp .eql 47 (.slice none 0 0) (.slice none 0 0)).run Tryz.prog w = .ok (.bool true) w := by kernel_rfl
set_option maxRecDepth 100000 in
theorem vfJ (A : Option Addr) (c : Nat) (ps : List PI) (w : World) (hS : SlPI w A c ps) (hn : ps.length ≤ 1000000) :
  Calls Tryz.prog 117 #[.slice A ps.length c] w (PClonP w ps) := by
 cases A with
 | none =>
  obtain ⟨rfl, rfl⟩ := hS.nil rfl
  have h1 := viK
  simp only [List.length_nil]
  go_enter Tryz.func117, Tryz.ntmps117
  go_wp2_with fail
  go_ret
  exact ⟨none, 0, rfl, Own.nil _ _ _ _ _, Kp.refl _⟩
 | some g =>
  have hR := hS.rd
  have hE : Own (w.alloc (.cells #[] 39)) w.heap.size 39 2 PI.enc (.slice (some ⟨w.heap.size, 0, none⟩) 0 0) [] := Own.empty (Nat.le_refl _) (Blk.new w _ _)
  have hnil : ∀ w : World, (binOp .eql 47 (.slice (some g) ps.length c) (.slice none 0 0)).run Tryz.prog w = .ok (.bool false) w := fun _ => by kernel_rfl
  go_enter Tryz.func117, Tryz.ntmps117
  go_wp2_with (at_builtin; go_loud (refine vat EPfx PI.len PI.one rfl _ _ rfl rfl rfl hE (hR.keep ((Kp.refl _).alloc _)) (by simp; omega) (by simp) ?_; intro v' w1 hown hg hat; rw [List.nil_append] at hown; have hK1 : Kp w w1 := ((Kp.refl w).alloc _).grown hg (fun q hq => (World.ownsRow.lt hE q hq).1); clear hg hat hE; obtain ⟨A', c', rfl⟩ := hown.form))
  go_ret
  exact ⟨_, _, rfl, hown, hK1⟩
def cfSet (w : World) (g : Nat) (c : Cf) (A : Option Addr) (n m : Nat) : World := (((((((((w.setCell ⟨g, 0, none⟩ (.int .i64 c.t0)).setCell ⟨g, 1, none⟩ (.int .i64 c.t1)).setCell ⟨g, 2, none⟩ (.int .i64 c.t2)).setCell ⟨g, 3, none⟩ (.int .i64 c.t3)).setCell ⟨g, 4, none⟩ (.int .i64 c.t4)).setCell ⟨g, 5, none⟩ (.int .i64 c.t5)).setCell ⟨g, 6, none⟩ (.int .i64 c.t6)).setCell ⟨g, 7, none⟩ (.int .i64 c.cap)).setCell ⟨g, 8, none⟩ (.slice A n m))
theorem Blk.putCf {w : World} {g : Nat} {T : TypeId} {v0 v1 v2 v3 v4 v5 v6 v7 v8 : Value} (h : Blk w g T #[v0, v1, v2, v3, v4, v5, v6, v7, v8]) (c : Cf) (A : Option Addr) (n m : Nat) : Blk (cfSet w g c A n m) g T (cfC c A n m) := by
 have H := (((((((((h.set_ 0 (.int .i64 c.t0)).set_ 1 (.int .i64 c.t1)).set_ 2 (.int .i64 c.t2)).set_ 3 (.int .i64 c.t3)).set_ 4 (.int .i64 c.t4)).set_ 5 (.int .i64 c.t5)).set_ 6 (.int .i64 c.t6)).set_ 7 (.int .i64 c.cap)).set_ 8 (.slice A n m))
 simp only [List.setIfInBounds_toArray, List.set_cons_zero, List.set_cons_succ] at H
 exact H
theorem Kp.putCf {a w : World} (h : Kp a w) {g : Nat} (hg : a.heap.size ≤ g) (c : Cf) (A : Option Addr) (n m : Nat) : Kp a (cfSet w g c A n m) := (((((((((h.setCell (p := ⟨g, 0, none⟩) hg (.int .i64 c.t0)).setCell (p := ⟨g, 1, none⟩) hg (.int .i64 c.t1)).setCell (p := ⟨g, 2, none⟩) hg (.int .i64 c.t2)).setCell (p := ⟨g, 3, none⟩) hg (.int .i64 c.t3)).setCell (p := ⟨g, 4, none⟩) hg (.int .i64 c.t4)).setCell (p := ⟨g, 5, none⟩) hg (.int .i64 c.t5)).setCell (p := ⟨g, 6, none⟩) hg (.int .i64 c.t6)).setCell (p := ⟨g, 7, none⟩) hg (.int .i64 c.cap)).setCell (p := ⟨g, 8, none⟩) hg (.slice A n m))
theorem Own.putCf {α : Type} {w : World} {B e sz : Nat} {enc : α → List Value} {v : Value} {xs : List α} (h : Own w B e sz enc v xs) {g : Nat} (hg : g < B) (c : Cf) (A : Option Addr) (n m : Nat) : Own (cfSet w g c A n m) B e sz enc v xs := (((((((((h.setBelow (p := ⟨g, 0, none⟩) hg (.int .i64 c.t0)).setBelow (p := ⟨g, 1, none⟩) hg (.int .i64 c.t1)).setBelow (p := ⟨g, 2, none⟩) hg (.int .i64 c.t2)).setBelow (p := ⟨g, 3, none⟩) hg (.int .i64 c.t3)).setBelow (p := ⟨g, 4, none⟩) hg (.int .i64 c.t4)).setBelow (p := ⟨g, 5, none⟩) hg (.int .i64 c.t5)).setBelow (p := ⟨g, 6, none⟩) hg (.int .i64 c.t6)).setBelow (p := ⟨g, 7, none⟩) hg (.int .i64 c.cap)).setBelow (p := ⟨g, 8, none⟩) hg (.slice A n m))
theorem viL {w : World} {g : Nat} {T : TypeId} {c : Cf} {A : Option Addr} {n m : Nat} (h : Blk w g T (cfC c A n m)) : w.cell? ⟨g, 0, none⟩ = some (.int .i64 c.t0) ∧ w.cell? ⟨g, 1, none⟩ = some (.int .i64 c.t1) ∧ w.cell? ⟨g, 2, none⟩ = some (.int .i64 c.t2) ∧ w.cell? ⟨g, 3, none⟩ = some (.int .i64 c.t3) ∧ w.cell? ⟨g, 4, none⟩ = some (.int .i64 c.t4) ∧ w.cell? ⟨g, 5, none⟩ = some (.int .i64 c.t5) ∧ w.cell? ⟨g, 6, none⟩ = some (.int .i64 c.t6) ∧ w.cell? ⟨g, 7, none⟩ = some (.int .i64 c.cap) ∧ w.cell? ⟨g, 8, none⟩ = some (.slice A n m) := ⟨h.cell 0, h.cell 1, h.cell 2, h.cell 3, h.cell 4, h.cell 5, h.cell 6, h.cell 7, h.cell 8⟩
def CCopyP (c : Cf) (w : World) (e : Ending) (w' : World) : Prop := ∃ A m, e = .returned (cfV c A c.own.length m) ∧ Own w' w.heap.size 39 2 PI.enc (.slice A c.own.length m) c.own ∧ Kp w w'
set_option maxRecDepth 100000 in
theorem vgX (c : Cf) (A : Option Addr) (m : Nat) (w : World) (hS : SlPI w A m c.own) (hn : c.own.length ≤ 1000000) :
  Calls Tryz.prog 51 #[cfV c A c.own.length m] w (CCopyP c w) := by
 obtain ⟨b, hb⟩ : ∃ b, w.heap.size = b := ⟨_, rfl⟩
 obtain ⟨W, hW, kW, B0, B1⟩ := Blk.al2 hb (cfC c A c.own.length m) 49 #[.int .i64 0, .int .i64 0, .int .i64 0, .int .i64 0, .int .i64 0, .int .i64 0, .int .i64 0, .int .i64 0, .slice none 0 0] 49
 have hS := hS.keep kW
 have c8 := Blk.f B0 rfl
 have hbW := B1.lt
 unfold cfC at hW
 go_enter Tryz.func51, Tryz.ntmps51
 go_wp2_with fail
 refine (vfJ A m c.own _ hS hn).mono ?_
 rintro e w1 ⟨A', m', rfl, hO, K1⟩
 have B2 := B0.keep K1
 have B3 := B1.keep K1
 have k1 := kW.trans K1
 clear c8 hW
 have z8 := B2.frozen 8
 have c8 := Blk.f B2 rfl
 obtain ⟨W2, hW2, B4, B5, k2, hO2⟩ : ∃ W2, w1.setCell ⟨b, 8, none⟩ (.slice A' c.own.length m') = W2 ∧ Blk W2 b 49 (cfC c A' c.own.length m') ∧ Blk W2 (b + 1) 49 #[.int .i64 0, .int .i64 0, .int .i64 0, .int .i64 0, .int .i64 0, .int .i64 0, .int .i64 0, .int .i64 0, .slice none 0 0] ∧ Kp w W2 ∧ Own W2 W.heap.size 39 2 PI.enc (.slice A' c.own.length m') c.own :=
  ⟨_, rfl, by have := B2.set_ 8 (.slice A' c.own.length m'); simpa [cfC] using this, B3.far (p := ⟨b, 8, none⟩) (by show b + 1 ≠ b; omega) _, k1.setCell (by show w.heap.size ≤ b; omega) _, hO.setBelow (p := ⟨b, 8, none⟩) (by show b < W.heap.size; omega) _⟩
 have hO := Lib.hid hO2
 have hbw : b + 1 < W2.heap.size := B5.lt
 have p0 := Blk.f B4 rfl
 have q0 := Blk.f (l := [.int .i64 0, .int .i64 0, .int .i64 0, .int .i64 0, .int .i64 0, .int .i64 0, .int .i64 0, .int .i64 0, .slice none 0 0]) B5 rfl
 have z0_ := Blk.frozen B5
 clear hO2
 go_wp2_with fail
 obtain ⟨W3, hW3, B6, k3, hO3⟩ : ∃ W3, cfSet W2 (b + 1) c A' c.own.length m' = W3 ∧ Blk W3 (b + 1) 49 (cfC c A' c.own.length m') ∧ Kp w W3 ∧ Own W3 w.heap.size 39 2 PI.enc (.slice A' c.own.length m') c.own :=
  ⟨_, rfl, B5.putCf c A' c.own.length m', k2.putCf (by omega) c A' c.own.length m', (hO.out.putCf (by omega) c A' c.own.length m').mono kW.size⟩
 unfold cfSet at hW3
 rw [hW3]
 clear hW3 p0 q0 z0_
 obtain ⟨y0, y1, y2, y3, y4, y5, y6, y7, y8⟩ := viL B6
 exact ⟨rfl, cfV c A' c.own.length m', by simp [results, Tryz.results51, go_sem, y0, y1, y2, y3, y4, y5, y6, y7, y8], A', m', rfl, hO3, k3⟩
def ltP (p q : PI) : Prop := (p.a : Int) < q.a ∨ ((p.a : Int) = q.a ∧ p.l < q.l)
theorem vdB (p q : PI) : ltP p q ∨ p = q ∨ ltP q p := by
 unfold ltP
 by_cases h1 : (p.a : Int) < q.a
 ·exact .inl (.inl h1)
 ·by_cases h2 : (q.a : Int) < p.a
  ·exact .inr (.inr (.inl h2))
  ·have ha : (p.a : Int) = q.a := by omega
   by_cases h3 : p.l < q.l
   ·exact .inl (.inr ⟨ha, h3⟩)
   ·by_cases h4 : q.l < p.l
    ·exact .inr (.inr (.inr ⟨ha.symm, h4⟩))
    ·exact .inr (.inl (PI.ext' (by omega) (by omega)))
theorem vbB {p q : PI} (h : ltP p q) : p ≠ q := by rintro rfl; unfold ltP at h; omega
theorem ved {p q : PI} (h : ltP p q) : ¬ ltP q p := by unfold ltP at *; omega
theorem vee {p q r : PI} (h : ltP p q) (k : ltP q r) : ltP p r := by unfold ltP at *; omega
theorem veV {p q : PI} : ordI p.a p.l q.a q.l < 0 ↔ ltP p q := veT
theorem vgY {p q : PI} : ordI p.a p.l q.a q.l = 0 ↔ p = q := by
 constructor
 ·intro h
  unfold ordI at h
  split at h
  ·next e => exact PI.ext' (by have := vax.1 e; omega) (vax.1 h)
  ·next e => exact absurd h e
 ·rintro rfl
  unfold ordI
  rw [vgQ, if_pos rfl, vgQ]
theorem veC {p q : PI} : ordI p.a p.l q.a q.l ≤ 0 ↔ ¬ ltP q p := by
 rw [show (ordI p.a p.l q.a q.l ≤ 0) ↔ (ordI p.a p.l q.a q.l < 0 ∨ ordI p.a p.l q.a q.l = 0) by omega, veV, vgY]
 constructor
 ·rintro (h | rfl)
  ·exact ved h
  ·exact fun h => vbB h rfl
 ·intro h
  rcases vdB p q with h1 | h1 | h1
  all_goals first | exact .inl h1 | exact .inr h1 | exact absurd h1 h
def UpR (L : List Rt) : Prop := L.Pairwise (fun x y => ltP x.p y.p)
theorem UpR.inj {L : List Rt} (u : UpR L) : ∀ {x y : Rt}, x ∈ L → y ∈ L → x.p = y.p → x = y := by
 induction L with
 | nil => intro x y hx; simp at hx
 | cons a t ih =>
  intro x y hx hy e
  have h := List.pairwise_cons.1 u
  rcases List.mem_cons.1 hx with e1 | h1
  ·rcases List.mem_cons.1 hy with e2 | h2
   ·rw [e1, e2]
   ·subst e1
    exact absurd e (vbB (h.1 _ h2))
  ·rcases List.mem_cons.1 hy with e2 | h2
   ·subst e2
    exact absurd e.symm (vbB (h.1 _ h1))
   ·exact ih h.2 h1 h2 e
theorem UpR.filter {L : List Rt} (u : UpR L) (f : Rt → Bool) : UpR (L.filter f) := List.Pairwise.sublist List.filter_sublist u
theorem UpR.nodup {L : List Rt} (u : UpR L) : (L.map Rt.p).Nodup := by
 rw [List.Nodup, List.pairwise_map]
 exact u.imp (fun h => vbB h)
theorem UpR.eq {L M : List Rt} (u : UpR L) (v : UpR M) (h : ∀ x, x ∈ L ↔ x ∈ M) : L = M := by
 induction L generalizing M with
 | nil =>
  cases M with
  | nil => rfl
  | cons y t => exact absurd ((h y).2 List.mem_cons_self) (by simp)
 | cons x t ih =>
  cases M with
  | nil => exact absurd ((h x).1 List.mem_cons_self) (by simp)
  | cons y s =>
   have hu := List.pairwise_cons.1 u
   have hv := List.pairwise_cons.1 v
   have exy : x = y := by
    rcases List.mem_cons.1 ((h x).1 List.mem_cons_self) with e | e
    ·exact e
    ·rcases List.mem_cons.1 ((h y).2 List.mem_cons_self) with e2 | e2
     ·exact e2.symm
     ·exact absurd (hv.1 _ e) (ved (hu.1 _ e2))
   subst exy
   congr 1
   refine ih hu.2 hv.2 (fun z => ?_)
   constructor
   ·intro hz
    rcases List.mem_cons.1 ((h z).1 (List.mem_cons_of_mem _ hz)) with e | e
    ·subst e
     exact absurd rfl (vbB (hu.1 _ hz))
    ·exact e
   ·intro hz
    rcases List.mem_cons.1 ((h z).2 (List.mem_cons_of_mem _ hz)) with e | e
    ·subst e
     exact absurd rfl (vbB (hv.1 _ hz))
    ·exact e
theorem UpR.eq_perm {L M : List Rt} (u : UpR L) (v : UpR M) (h : L.Perm M) : L = M := u.eq v (fun _ => h.mem_iff)
def getR (p : PI) (L : List Rt) : Option Rt := L.find? (fun x => decide (x.p = p))
theorem vas {p : PI} {L : List Rt} {r : Rt} (h : getR p L = some r) : r ∈ L ∧ r.p = p := ⟨List.mem_of_find?_eq_some h, by simpa using List.find?_some h⟩
theorem vgZ {L : List Rt} (u : UpR L) {r : Rt} (h : r ∈ L) : getR r.p L = some r := by
 cases e : getR r.p L with
 | none =>
  have := List.find?_eq_none.1 e r h
  simp at this
 | some x =>
  obtain ⟨h1, h2⟩ := vas e
  rw [u.inj h1 h h2]
theorem vha {p : PI} {L : List Rt} : getR p L = none ↔ ∀ x ∈ L, x.p ≠ p := by
 unfold getR
 rw [List.find?_eq_none]
 simp
def offR (p : PI) (L : List Rt) : List Rt := L.filter (fun x => decide (x.p ≠ p))
theorem vcm {p : PI} {L : List Rt} {x : Rt} : x ∈ offR p L ↔ x ∈ L ∧ x.p ≠ p := by unfold offR; simp
def withG (r : Rt) : Bool → List Rt → List Rt
 | d, [] => if d then [] else [r]
 | d, x :: t => (if !d && decide (ordI r.p.a r.p.l x.p.a x.p.l ≤ 0) then [r] else []) ++ ((if x.p = r.p then [] else [x]) ++ withG r (d || decide (ordI r.p.a r.p.l x.p.a x.p.l ≤ 0)) t)
def setR (r : Rt) (L : List Rt) : List Rt := withG r (decide (r.s = 0)) L
theorem vbf (r : Rt) (L : List Rt) : withG r true L = offR r.p L := by
 induction L with
 | nil => rfl
 | cons x t ih =>
  unfold withG offR
  rw [List.filter_cons]
  simp only [Bool.not_true, Bool.false_and, Bool.false_eq_true, if_false, List.nil_append, Bool.true_or, ih]
  by_cases h : x.p = r.p
  ·simp [h, offR]
  ·simp [h, offR]
theorem vdd (r : Rt) (d : Bool) (L : List Rt) : (withG r d L).Perm ((if d then [] else [r]) ++ offR r.p L) := by
 induction L generalizing d with
 | nil => unfold withG offR; cases d <;> simp
 | cons x t ih =>
  cases d with
  | true => rw [vbf]; simp
  | false =>
   unfold withG
   by_cases h : ordI r.p.a r.p.l x.p.a x.p.l ≤ 0
   ·simp only [Bool.not_false, Bool.true_and, h, decide_true, if_true, Bool.or_true, vbf, Bool.false_eq_true, if_false]
    refine List.Perm.append_left _ ?_
    unfold offR
    rw [List.filter_cons]
    by_cases hx : x.p = r.p
    ·simp [hx]
    ·simp [hx]
   ·simp only [Bool.not_false, Bool.true_and, h, decide_false, if_false, Bool.false_or, Bool.false_eq_true, List.nil_append]
    have i := ih false
    simp only [Bool.false_eq_true, if_false] at i
    have hx : ¬ x.p = r.p := by
     intro e
     rw [veC, e] at h
     exact h (fun k => vbB k rfl)
    rw [if_neg hx]
    have e : offR r.p (x :: t) = x :: offR r.p t := by unfold offR; rw [List.filter_cons]; simp [hx]
    rw [e]
    exact (i.cons x).trans (List.Perm.swap _ _ _)
theorem vaE (r : Rt) (L : List Rt) : (setR r L).Perm ((if r.s = 0 then [] else [r]) ++ offR r.p L) := by
 have := vdd r (decide (r.s = 0)) L
 simpa [setR] using this
theorem vdC {r x : Rt} {L : List Rt} : x ∈ setR r L ↔ (x = r ∧ r.s ≠ 0) ∨ (x ∈ L ∧ x.p ≠ r.p) := by
 rw [(vaE r L).mem_iff, List.mem_append, vcm]
 by_cases h : r.s = 0 <;> simp [h]
theorem vhb {r x : Rt} {d : Bool} {L : List Rt} : x ∈ withG r d L ↔ (x = r ∧ d = false) ∨ (x ∈ L ∧ x.p ≠ r.p) := by
 rw [(vdd r d L).mem_iff, List.mem_append, vcm]
 cases d <;> simp
theorem viM (r : Rt) (d : Bool) {L : List Rt} (u : UpR L) : UpR (withG r d L) := by
 induction L generalizing d with
 | nil => unfold withG; cases d <;> simp [UpR]
 | cons x t ih =>
  have hu := List.pairwise_cons.1 u
  cases d with
  | true => rw [vbf]; exact u.filter _
  | false =>
   unfold withG
   by_cases h : ordI r.p.a r.p.l x.p.a x.p.l ≤ 0
   ·simp only [Bool.not_false, Bool.true_and, h, decide_true, if_true, Bool.or_true, vbf]
    rw [veC] at h
    have hr : ∀ y ∈ t, ltP r.p y.p := fun y hy => by
     rcases vdB r.p x.p with k | k | k
     ·exact vee k (hu.1 y hy)
     ·rw [k]; exact hu.1 y hy
     ·exact absurd k h
    rw [List.singleton_append]
    refine List.pairwise_cons.2 ⟨fun y hy => ?_, ?_⟩
    ·rcases List.mem_append.1 hy with hy | hy
     ·by_cases hx : x.p = r.p
      ·rw [if_pos hx] at hy; simp at hy
      ·rw [if_neg hx] at hy
       simp only [List.mem_cons, List.not_mem_nil, or_false] at hy
       subst hy
       rcases vdB r.p y.p with k | k | k
       all_goals first | exact k | exact absurd k.symm hx | exact absurd k h
     ·exact hr y (vcm.1 hy).1
    ·by_cases hx : x.p = r.p
     ·rw [if_pos hx]; exact UpR.filter hu.2 _
     ·rw [if_neg hx]
      exact List.pairwise_cons.2 ⟨fun y hy => hu.1 y (vcm.1 hy).1, UpR.filter hu.2 _⟩
   ·simp only [Bool.not_false, Bool.true_and, h, decide_false, Bool.false_or, Bool.false_eq_true, if_false, List.nil_append]
    rw [veC] at h
    have h := Classical.not_not.1 h
    rw [if_neg (fun e => vbB h e)]
    refine List.pairwise_cons.2 ⟨fun y hy => ?_, ih false hu.2⟩
    rcases vhb.1 hy with ⟨rfl, _⟩ | ⟨hy, _⟩
    ·exact h
    ·exact hu.1 y hy
theorem veD (r : Rt) {L : List Rt} (u : UpR L) : UpR (setR r L) := viM r _ u
def twR (r : Rt) : Tw := ⟨3, r.p, r.d⟩
def armL (L : List Rt) : List Tw := (L.filter (fun r => decide (2 ≤ r.s))).map twR
theorem vhc {L M : List Rt} (h : L.Perm M) : (armL L).Perm (armL M) := (h.filter _).map _
theorem viN (p : PI) (L : List Rt) : armL (offR p L) = offP p (armL L) := by
 unfold armL offR offP
 rw [List.filter_map, List.filter_filter, List.filter_filter]
 congr 1
 refine List.filter_congr (fun x _ => ?_)
 simp only [Function.comp, twR]
 exact Bool.and_comm _ _
theorem veE (L M : List Rt) : armL (L ++ M) = armL L ++ armL M := by unfold armL; rw [List.filter_append, List.map_append]
theorem viO (r : Rt) (L : List Rt) : (armL (setR r L)).Perm ((if 2 ≤ r.s then [twR r] else []) ++ offP r.p (armL L)) := by
 refine (vhc (vaE r L)).trans ?_
 rw [veE, viN]
 refine List.Perm.append_right _ ?_
 by_cases h : 2 ≤ r.s
 ·rw [if_pos h, if_neg (by omega)]
  simp [armL, h]
 ·rw [if_neg h]
  by_cases h0 : r.s = 0
  ·simp [armL, h0]
  ·simp [armL, h0, h]
def firstS (o : Option Rt) (x : Rt) : Option Rt := if decide (2 ≤ x.s) && (match o with | none => true | some y => decide (x.d < y.d)) then some x else o
def firstR (L : List Rt) : Option Rt := L.foldl firstS none
structure Tb where
 c : Cf
 l : List Rt
 now : Int
 rf : Int
structure TbOk (T : Tb) : Prop where
 c : okCf T.c = true
 u : UpR T.l
 r : ∀ x ∈ T.l, okR x = true ∧ x.s ≠ 0
 n : (T.l.length : Int) ≤ T.c.cap
 t : 0 ≤ T.now ∧ T.now ≤ 4611686018426387904
 f : 0 ≤ T.rf ∧ T.rf ≤ 2147483647
def zeroR : Rt := noR ⟨0, 0⟩
def wasR (p : PI) (L : List Rt) : Rt := (getR p L).getD (noR p)
def timely (T : Tb) (now : Int) : Bool := okNow now && decide (T.now ≤ now)
def fullB (T : Tb) (p : PI) (r : Rt) : Bool := (getR p T.l).isNone && (decide (r.s ≠ 0) && decide (T.c.cap ≤ (T.l.length : Int)))
def heardT (T : Tb) (p : PI) (h : Hd) (now : Int) : Tb × Rt × Int :=
 if toldB p && okHd h then
  if timely T now then
   if fullB T p (hearR T.c (wasR p T.l) h now) then (⟨T.c, T.l, now, min (T.rf + 1) 2147483647⟩, zeroR, 200)
   else (⟨T.c, setR (hearR T.c (wasR p T.l) h now) T.l, now, T.rf⟩, hearR T.c (wasR p T.l) h now, 0)
  else (T, zeroR, 170)
 else (T, zeroR, 2)
def putAll (l : List Rt) (L : List Rt) : List Rt := l.foldl (fun M r => setR r M) L
def newT (c : Cf) : Tb := ⟨c, putAll (c.own.map ownR) [], 0, 0⟩
theorem TbOk.set {T : Tb} (h : TbOk T) {r : Rt} (hr : okR r = true) (hn : r.s ≠ 0 → (getR r.p T.l).isNone = true → (T.l.length : Int) < T.c.cap) {now rf : Int} (ht : 0 ≤ now ∧ now ≤ 4611686018426387904) (hf : 0 ≤ rf ∧ rf ≤ 2147483647) : TbOk ⟨T.c, setR r T.l, now, rf⟩ where
 c := h.c
 u := veD r h.u
 r := fun x hx => by
  rcases vdC.1 hx with ⟨rfl, h0⟩ | ⟨hx, _⟩
  ·exact ⟨hr, h0⟩
  ·exact h.r x hx
 n := by
  show ((setR r T.l).length : Int) ≤ T.c.cap
  have hl := (vaE r T.l).length_eq
  rw [List.length_append] at hl
  have ho : (offR r.p T.l).length ≤ T.l.length := List.length_filter_le _ _
  have hn0 := h.n
  by_cases h0 : r.s = 0
  ·rw [if_pos h0] at hl
   simp only [List.length_nil] at hl
   omega
  ·rw [if_neg h0] at hl
   simp only [List.length_cons, List.length_nil] at hl
   cases e : getR r.p T.l with
   | none =>
    have := hn h0 (by rw [e]; rfl)
    omega
   | some x =>
    obtain ⟨k1, k2⟩ := vas e
    have hlt : (offR r.p T.l).length < T.l.length := by
     unfold offR
     refine Nat.lt_of_le_of_ne (List.length_filter_le _ _) (fun e2 => ?_)
     have e3 := List.length_filter_eq_length_iff.1 e2 x k1
     simp [k2] at e3
    omega
 t := ht
 f := hf
theorem vcE {T : Tb} (h : TbOk T) {p : PI} (hp : toldB p = true) : okR (wasR p T.l) = true ∧ (wasR p T.l).p = p := by
 unfold wasR
 cases e : getR p T.l with
 | none => exact ⟨vgV hp, rfl⟩
 | some r => exact ⟨(h.r r (vas e).1).1, (vas e).2⟩
theorem vbQ {T : Tb} {now : Int} : timely T now = true ↔ 0 ≤ now ∧ now ≤ 4611686018426387904 ∧ T.now ≤ now := by
 unfold timely okNow
 rw [Bool.and_eq_true, vaf, decide_eq_true_eq]
 omega
theorem viP {T : Tb} (h : TbOk T) (p : PI) (k : Hd) (now : Int) : TbOk (heardT T p k now).1 := by
 unfold heardT
 split
 ·next e1 =>
  rw [Bool.and_eq_true] at e1
  split
  ·next e2 =>
   rw [vbQ] at e2
   have hf := h.f
   obtain ⟨w1, w2⟩ := vcE h e1.1
   have hr := vda h.c w1 e1.2 (now := now) (by rw [okNow, vaf]; omega)
   have hpp : (hearR T.c (wasR p T.l) k now).p = p := by rw [vjw, w2]
   split
   ·exact ⟨h.c, h.u, h.r, h.n, by show 0 ≤ now ∧ now ≤ _; omega, by show 0 ≤ min (T.rf + 1) 2147483647 ∧ min (T.rf + 1) 2147483647 ≤ 2147483647; omega⟩
   ·next e3 =>
    refine h.set hr (fun h0 h1 => ?_) (by omega) hf
    unfold fullB at e3
    rw [hpp] at h1
    simp only [Bool.and_eq_true, decide_eq_true_eq] at e3
    have := mt (fun z => (⟨h1, h0, z⟩ : _ ∧ _ ∧ _)) e3
    omega
  ·exact h
 ·exact h
theorem vbR : ∀ (l : List PI) (L : List Rt), UpR L → UpR (putAll (l.map ownR) L) ∧ (∀ x, x ∈ putAll (l.map ownR) L ↔ (∃ p ∈ l, x = ownR p) ∨ (x ∈ L ∧ x.p ∉ l)) ∧ (putAll (l.map ownR) L).length ≤ l.length + L.length
 | [], L, u => ⟨u, fun x => by simp [putAll], by simp [putAll]⟩
 | p :: l, L, u => by
  obtain ⟨h1, h2, h3⟩ := vbR l (setR (ownR p) L) (veD _ u)
  have e : putAll ((p :: l).map ownR) L = putAll (l.map ownR) (setR (ownR p) L) := rfl
  rw [e]
  refine ⟨h1, fun x => ?_, ?_⟩
  ·rw [h2 x, vdC]
   have e0 : (ownR p).p = p := rfl
   have e1 : (ownR p).s ≠ 0 := (by decide : (1 : Int) ≠ 0)
   rw [e0]
   constructor
   ·rintro (⟨q, hq, rfl⟩ | ⟨⟨rfl, _⟩ | ⟨hx, hxp⟩, hn⟩)
    ·exact .inl ⟨q, List.mem_cons_of_mem _ hq, rfl⟩
    ·exact .inl ⟨p, List.mem_cons_self, rfl⟩
    ·exact .inr ⟨hx, fun h => by rcases List.mem_cons.1 h with h | h <;> first | exact hxp h | exact hn h⟩
   ·rintro (⟨q, hq, rfl⟩ | ⟨hx, hn⟩)
    ·rcases List.mem_cons.1 hq with rfl | hq
     ·by_cases hm : q ∈ l
      ·exact .inl ⟨q, hm, rfl⟩
      ·exact .inr ⟨.inl ⟨rfl, e1⟩, hm⟩
     ·exact .inl ⟨q, hq, rfl⟩
    ·exact .inr ⟨.inr ⟨hx, fun h => hn (by rw [h]; exact List.mem_cons_self)⟩, fun h => hn (List.mem_cons_of_mem _ h)⟩
  ·have hl := (vaE (ownR p) L).length_eq
   rw [List.length_append, if_neg (show ¬ (ownR p).s = 0 from (by decide : ¬ (1 : Int) = 0))] at hl
   have ho : (offR (ownR p).p L).length ≤ L.length := List.length_filter_le _ _
   simp only [List.length_cons, List.length_nil] at hl ⊢
   omega
theorem vjx {c : Cf} (h : okCf c = true) : TbOk (newT c) := by
 obtain ⟨h1, h2, h3⟩ := vbR c.own [] List.Pairwise.nil
 obtain ⟨g1, g2, g3, g4, g5, g6⟩ := vck h
 refine ⟨h, h1, fun x hx => ?_, ?_, by show (0 : Int) ≤ 0 ∧ (0 : Int) ≤ _; omega, by show (0 : Int) ≤ 0 ∧ (0 : Int) ≤ _; omega⟩
 ·rcases (h2 x).1 hx with ⟨p, hp, rfl⟩ | ⟨hx, _⟩
  ·exact ⟨vec (g5 p hp), (by decide : (1 : Int) ≠ 0)⟩
  ·simp at hx
 ·show ((putAll (c.own.map ownR) []).length : Int) ≤ c.cap
  simp only [List.length_nil] at h3
  omega
end

end Go.Proofs.YtgopnfacklmkaaaGreatDoor
