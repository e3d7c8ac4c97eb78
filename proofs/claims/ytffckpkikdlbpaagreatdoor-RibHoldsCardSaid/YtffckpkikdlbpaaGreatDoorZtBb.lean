/- Lemmas and contracts for the theorem of this claim: RbN, RbO. -/
import Derived.Test.YtffckpkikdlbpaaGreatDoorZtAx
import Derived.Test.YtffckpkikdlbpaaGreatDoorZtAy
import Derived.Test.YtffckpkikdlbpaaGreatDoorZtBa
import Derived.Maps.Range
set_option linter.unusedSimpArgs false
set_option linter.unusedVariables false
namespace Go.Proofs.YtffckpkikdlbpaaGreatDoor
open Go.RowKit Go.Maps Go.WideShapes Go.ChangeMaps
def wfP (p : PI) : Prop := p.a < 4294967296 ∧ wfI p.l
theorem pfKey_key (p : PI) : WideAt.IsKeyLit (pfKey p) := trivial
theorem keyOf_p {p : PI} (h : wfP p) : keyOf Tryz.prog 29 (pfV p) = some (pfKey p) := keyOf_pf p h.1 h.2
theorem pfKey_injR {p q : PI} (hp : wfP p) (hq : wfP q) (e : pfKey p = pfKey q) : p = q := by
  have h := keyedPf.inj (keyOf_p hp) (by rw [e]; exact keyOf_p hq)
  injection h with h
  have h0 := congrArg (fun a => a[0]?) h
  have h1 := congrArg (fun a => a[1]?) h
  simp only [List.getElem?_toArray, List.getElem?_cons_zero, List.getElem?_cons_succ] at h0 h1
  injection h0 with h0
  injection h1 with h1
  injection h0 with _ h0
  injection h1 with _ h1
  exact PI.ext' (by omega) h1
theorem same_pf {p q : PI} (hp : wfP p) (hq : wfP q) : (pfKey p).sameKey (pfKey q) = decide (p = q) := by
  by_cases h : p = q
  · subst h
    rw [WideAt.sameKey_self (pfKey_key p), decide_eq_true rfl]
  · rw [Maps.sameKey_ne (fun e => h (pfKey_injR hp hq e)), decide_eq_false h]
def rdAll (v : Value) : Option (DataW Value × List MemPlace) := some (.held v, [])
def entR (r : Rt) : Lit × DataW Value := (pfKey r.p, .held (roV r))
def MapR (w : World) (m : Nat) (L : List Rt) : Prop := ∃ es, w.ownsMap Tryz.prog 29 rdAll m L.length (.map es) ∧ es.Perm (L.map entR)
theorem MapR.perm {w : World} {m : Nat} {L M : List Rt} (h : MapR w m L) (p : L.Perm M) : MapR w m M := by
  obtain ⟨es, h1, h2⟩ := h
  exact ⟨es, p.length_eq ▸ h1, h2.trans (p.map _)⟩
theorem tightV {w : World} {k : TypeId} {R : Value → Option (DataW Value × List MemPlace)} {b n : Nat} {es : List (Lit × DataW Value)} (h : w.ownsMap Tryz.prog k R b n (.map es)) : w.ownsMap Tryz.prog k R b es.length (.map es) := by
  obtain ⟨es', clock, h1, h2, h3, h4⟩ := h
  refine ⟨es', clock, h1, h2, ?_, h4⟩
  injection h4 with h4
  rw [h4, length_sorted]
  simp
theorem MapR.lie {w w' : World} {m : Nat} {L : List Rt} (h : MapR w m L) (e : w'.heap[m]? = w.heap[m]?) : MapR w' m L := by
  obtain ⟨es, ⟨es', clock, h1, h2⟩, h3⟩ := h
  exact ⟨es, ⟨es', clock, e.trans h1, h2⟩, h3⟩
theorem MapR.lt {w : World} {m : Nat} {L : List Rt} (h : MapR w m L) : m < w.heap.size := by
  obtain ⟨es, h, _⟩ := h
  exact h.lt
theorem MapR.only {w w' : World} {m : Nat} {L : List Rt} {bs : List Nat} (h : MapR w m L) (k : Only bs w w') (hm : m ∉ bs) : MapR w' m L := h.lie (k.block m h.lt hm)
theorem MapR.keep {w w' : World} {m : Nat} {L : List Rt} (h : MapR w m L) (k : Kp w w') : MapR w' m L := h.lie (k.heap h.lt)
theorem MapR.new (w : World) : MapR (w.alloc (.map #[] 0)) w.heap.size [] := ⟨[], World.ownsMap_made w _ _ _, .nil⟩
set_option maxRecDepth 100000 in
theorem held_zero (w : World) : (zeroValue 87).run Tryz.prog w = .ok (roV zeroR) w := by kernel_rfl
theorem ent_find {es : List (Lit × DataW Value)} {L : List Rt} (hes : es.Perm (L.map entR)) (u : UpR L) (hw : ∀ r ∈ L, wfP r.p) {p : PI} (hp : wfP p) :
    (∀ z, DataW.atKey (.map es) (pfKey p) z = match getR p L with | some r => .held (roV r) | none => z) ∧ Maps.has (.map es) (pfKey p) = (getR p L).isSome := by
  have hmem : ∀ x ∈ es, ∃ r ∈ L, x = entR r := fun x hx => by
    obtain ⟨r, hr, e⟩ := List.mem_map.1 (hes.mem_iff.1 hx)
    exact ⟨r, hr, e.symm⟩
  cases e : getR p L with
  | none =>
    rw [getR_none] at e
    have hno : ∀ x ∈ es, x.1.sameKey (pfKey p) = false := fun x hx => by
      obtain ⟨r, hr, rfl⟩ := hmem x hx
      show (pfKey r.p).sameKey (pfKey p) = false
      rw [same_pf (hw r hr) hp, decide_eq_false (e r hr)]
    have hf : es.find? (fun p_1 => p_1.1.sameKey (pfKey p)) = none := List.find?_eq_none.2 (fun x hx => by rw [hno x hx]; exact Bool.false_ne_true)
    refine ⟨fun z => by simp only [DataW.atKey, hf], ?_⟩
    show es.any _ = false
    rw [List.any_eq_false]
    exact fun x hx => by rw [hno x hx]; exact Bool.false_ne_true
  | some r =>
    obtain ⟨h1, h2⟩ := getR_mem e
    have hin : entR r ∈ es := hes.mem_iff.2 (List.mem_map.2 ⟨r, h1, rfl⟩)
    have hk : (entR r).1.sameKey (pfKey p) = true := by
      show (pfKey r.p).sameKey (pfKey p) = true
      rw [same_pf (hw r h1) hp, decide_eq_true h2]
    refine ⟨fun z => ?_, List.any_eq_true.2 ⟨_, hin, hk⟩⟩
    cases hf : es.find? (fun p_1 => p_1.1.sameKey (pfKey p)) with
    | none => exact absurd hk (List.find?_eq_none.1 hf _ hin)
    | some x =>
      obtain ⟨y, hy, rfl⟩ := hmem x (List.mem_of_find?_eq_some hf)
      have hs := List.find?_some hf
      have : y.p = p := by
        have h3 : (pfKey y.p).sameKey (pfKey p) = true := hs
        rw [same_pf (hw y hy) hp] at h3
        exact of_decide_eq_true h3
      have : y = r := u.inj hy h1 (by rw [this, h2])
      subst this
      simp only [DataW.atKey, hf]
      rfl
set_option maxRecDepth 100000 in
theorem look_ro {w : World} {m : Nat} {L : List Rt} (h : MapR w m L) (u : UpR L) (hw : ∀ r ∈ L, wfP r.p) {p : PI} (hp : wfP p) : ∀ w', w'.heap = w.heap → (Instr.lookup 105 (.map (some m)) (pfV p) true).run Tryz.prog w' = .ok (.tuple #[roV ((getR p L).getD zeroR), .bool (getR p L).isSome]) w' := by
  intro w' e
  obtain ⟨es, h1, h2⟩ := h
  obtain ⟨f1, f2⟩ := ent_find h2 u hw hp
  have h1' : w'.ownsMap Tryz.prog 29 rdAll m L.length (.map es) := by
    obtain ⟨es', clock, g1, g2⟩ := h1
    exact ⟨es', clock, by rw [e]; exact g1, g2⟩
  obtain ⟨v, ps, g1, g2⟩ := World.ownsMap.look_ok h1' keyedPf Tryz.underlying105 (held_zero w') (show rdAll (roV zeroR) = some (.held (roV zeroR), []) from rfl) (keyOf_p hp)
  rw [g1, f2]
  rw [f1] at g2
  have : v = roV ((getR p L).getD zeroR) := by
    unfold rdAll at g2
    injection g2 with g2
    injection g2 with g2 _
    cases e : getR p L with
    | none => rw [e] at g2; injection g2
    | some r => rw [e] at g2; injection g2
  rw [this]
set_option maxRecDepth 100000 in
theorem look_ro1 {w : World} {m : Nat} {L : List Rt} (h : MapR w m L) (u : UpR L) (hw : ∀ r ∈ L, wfP r.p) {p : PI} (hp : wfP p) : ∀ w', w'.heap = w.heap → (Instr.lookup 105 (.map (some m)) (pfV p) false).run Tryz.prog w' = .ok (roV ((getR p L).getD zeroR)) w' := by
  intro w' e
  obtain ⟨es, h1, h2⟩ := h
  obtain ⟨f1, f2⟩ := ent_find h2 u hw hp
  have h1' : w'.ownsMap Tryz.prog 29 rdAll m L.length (.map es) := by
    obtain ⟨es', clock, g1, g2⟩ := h1
    exact ⟨es', clock, by rw [e]; exact g1, g2⟩
  obtain ⟨v, ps, g1, g2⟩ := World.ownsMap.lookup h1' keyedPf Tryz.underlying105 (held_zero w') (show rdAll (roV zeroR) = some (.held (roV zeroR), []) from rfl) (keyOf_p hp)
  rw [g1]
  rw [f1] at g2
  have : v = roV ((getR p L).getD zeroR) := by
    unfold rdAll at g2
    injection g2 with g2
    injection g2 with g2 _
    cases e : getR p L with
    | none => rw [e] at g2; injection g2
    | some r => rw [e] at g2; injection g2
  rw [this]
theorem filt_ent {L : List Rt} (hw : ∀ r ∈ L, wfP r.p) {p : PI} (hp : wfP p) : (L.map entR).filter (notKey (pfKey p)) = (offR p L).map entR := by
  unfold offR
  rw [List.filter_map]
  congr 1
  refine List.filter_congr (fun x hx => ?_)
  show (!(pfKey x.p).sameKey (pfKey p)) = _
  rw [same_pf (hw x hx) hp]
  by_cases h : x.p = p <;> simp [h]
theorem Only.of_turned {w w' : World} {m : Nat} (h : w.mapTurned w' m) : Only [m] w w' := by
  obtain ⟨es, clock, es', clock', hb, rfl⟩ := h
  refine ⟨rfl, rfl, rfl, by simp [setBlock], fun k hk hn => ?_⟩
  simp only [List.mem_cons, List.not_mem_nil, or_false] at hn
  exact heap_setBlock_other hb _ hn
theorem len_ro {w : World} {m : Nat} {L : List Rt} (h : MapR w m L) (ty : TypeId) : ∀ w', w'.heap = w.heap → (Builtin.len_ #[105] ty #[.map (some m)]).run Tryz.prog w' = .ok (.int .i64 (L.length : Int)) w' := by
  intro w' e
  obtain ⟨es, ⟨es', clock, g1, g2⟩, h2⟩ := h
  have h1' : w'.ownsMap Tryz.prog 29 rdAll m L.length (.map es) := ⟨es', clock, by rw [e]; exact g1, g2⟩
  rw [World.ownsMap.len h1' Tryz.underlying105 ty, Maps.size_eq, h2.length_eq, List.length_map]
end Go.Proofs.YtffckpkikdlbpaaGreatDoor

namespace Go.Proofs.YtffckpkikdlbpaaGreatDoor
open Go.RowKit Go.Maps
set_option maxRecDepth 100000 in
set_option maxHeartbeats 1000000 in
theorem timer_any (p : PI) (w : World) : Calls Tryz.prog 138 #[pfV p] w fun e w' => e = .returned (.agg #[.int .i64 3, .int .u32 (p.a : Int), .int .i64 p.l]) ∧ Kp w w' := by
  obtain ⟨b, hb⟩ : ∃ b, w.heap.size = b := ⟨_, rfl⟩
  obtain ⟨W, hW, kW, B0, B1⟩ : ∃ W, (w.alloc (.cells #[.int .u32 (p.a : Int), .int .i64 p.l] 29)).alloc (.cells #[.int .i64 0, .int .u32 0, .int .i64 0] 158) = W ∧ Kp w W ∧ Blk W b 29 #[.int .u32 (p.a : Int), .int .i64 p.l] ∧ Blk W (b + 1) 158 #[.int .i64 0, .int .u32 0, .int .i64 0] := ⟨_, rfl, ((Kp.refl _).alloc _).alloc _, by rw [← hb]; exact (Blk.new w _ _).alloc _, by rw [← hb]; exact Blk.new1 w _ _ _⟩
  have p0 : W.cell? ⟨b, 0, none⟩ = some (.int .u32 (p.a : Int)) := B0.cell 0
  have p1 : W.cell? ⟨b, 1, none⟩ = some (.int .i64 p.l) := B0.cell 1
  have q0 : W.cell? ⟨b + 1, 0, none⟩ = some (.int .i64 0) := B1.cell 0
  have q1 : W.cell? ⟨b + 1, 1, none⟩ = some (.int .u32 0) := B1.cell 1
  have q2 : W.cell? ⟨b + 1, 2, none⟩ = some (.int .i64 0) := B1.cell 2
  have z0 := B1.frozen 0
  have z1 := B1.frozen 1
  have z2 := B1.frozen 2
  have hlt := B1.lt
  obtain ⟨R, hR, BR, kR⟩ : ∃ R, ((W.setCell ⟨b + 1, 0, none⟩ (.int .i64 3)).setCell ⟨b + 1, 1, none⟩ (.int .u32 (p.a : Int))).setCell ⟨b + 1, 2, none⟩ (.int .i64 p.l) = R ∧ Blk R (b + 1) 158 #[.int .i64 3, .int .u32 (p.a : Int), .int .i64 p.l] ∧ Kp w R :=
    ⟨_, rfl, by have H := ((B1.set_ 0 (.int .i64 3)).set_ 1 (.int .u32 (p.a : Int))).set_ 2 (.int .i64 p.l); simp only [List.setIfInBounds_toArray, List.set_cons_zero, List.set_cons_succ] at H; exact H, ((kW.setCell (p := ⟨b + 1, 0, none⟩) (by show w.heap.size ≤ b + 1; omega) _).setCell (p := ⟨b + 1, 1, none⟩) (by show w.heap.size ≤ b + 1; omega) _).setCell (p := ⟨b + 1, 2, none⟩) (by show w.heap.size ≤ b + 1; omega) _⟩
  have u0 : R.cell? ⟨b + 1, 0, none⟩ = some (.int .i64 3) := BR.cell 0
  have u1 : R.cell? ⟨b + 1, 1, none⟩ = some (.int .u32 (p.a : Int)) := BR.cell 1
  have u2 : R.cell? ⟨b + 1, 2, none⟩ = some (.int .i64 p.l) := BR.cell 2
  go_enter Tryz.func138, Tryz.ntmps138
  go_wp2_with fail
  exact ⟨rfl, .agg #[.int .i64 3, .int .u32 (p.a : Int), .int .i64 p.l], by simp [results, Tryz.results138, go_sem, u0, u1, u2], rfl, kR⟩
def SetP (w : World) (B q : Nat) (F : List Nat) (l : List Tw) (r : Rt) (e : Ending) (w' : World) : Prop := e = .returned (.tuple #[]) ∧ ∃ l', l'.Perm ((if 2 ≤ r.s then [twR r] else []) ++ offP r.p l) ∧ QT w w' B q F l'
set_option maxRecDepth 100000 in
set_option maxHeartbeats 2000000 in
theorem set_2 (B q : Nat) (F : List Nat) (l : List Tw) (r : Rt) (w : World) (S : QuS w B q F l) (ha : r.p.a < 4294967296) (hwl : wfI r.p.l ∧ checkP r.p = 0 ∧ 0 ≤ r.d ∧ r.d ≤ 4611686018427387904) (hl : l.length ≤ 900000) (h2 : 2 ≤ r.s) (e2 : (r.s == 2) = true) :
    Calls Tryz.prog 99 #[.agg #[.pointer (some ⟨q, 0, none⟩)], roV r] w (SetP w B q F l r) := by
  obtain ⟨b, hb⟩ : ∃ b, w.heap.size = b := ⟨_, rfl⟩
  obtain ⟨W, hW, kW, B0, B1⟩ : ∃ W, (w.alloc (.cells #[.pointer (some ⟨q, 0, none⟩)] 103)).alloc (.cells (roC r) 48) = W ∧ Kp w W ∧ Blk W b 103 #[.pointer (some ⟨q, 0, none⟩)] ∧ Blk W (b + 1) 48 (roC r) := ⟨_, rfl, ((Kp.refl _).alloc _).alloc _, by rw [← hb]; exact (Blk.new w _ _).alloc _, by rw [← hb]; exact Blk.new1 w _ _ _⟩
  unfold roC at hW
  have c0 : W.cell? ⟨b, 0, none⟩ = some (.pointer (some ⟨q, 0, none⟩)) := B0.cell 0
  have p0 : W.cell? ⟨b + 1, 0, none⟩ = some (.int .u32 (r.p.a : Int)) := B1.cell 0
  have p1 : W.cell? ⟨b + 1, 1, none⟩ = some (.int .i64 r.p.l) := B1.cell 1
  have p2 : W.cell? ⟨b + 1, 2, none⟩ = some (.int .i64 r.s) := B1.cell 2
  have p7 : W.cell? ⟨b + 1, 7, none⟩ = some (.int .i64 r.d) := B1.cell 7
  have HS := Lib.hid (S.keep kW)
  have K : Kp W W.drew := (Kp.refl W).drew
  have hfin : ∀ wv l', l'.Perm ((⟨3, r.p, r.d⟩ : Tw) :: offP r.p l) → ∀ W', Kp w W' → QT W' wv B q F l' → SetP w B q F l r (.returned (.tuple #[])) wv := fun wv l' hp W' k ⟨F', h1, h2, h3⟩ =>
    ⟨rfl, l', by rw [if_pos ‹2 ≤ r.s›]; exact hp, F', h1, (Only.of_kp k).trans h2, fun x hx => (h3 x hx).imp id (fun z => Nat.le_trans k.size z)⟩
  have HF := Lib.hid hfin
  have hbF : b ∉ F := fun h => by have := (S.lo b h).2; omega
  have hbF1 : b + 1 ∉ F := fun h => by have := (S.lo (b + 1) h).2; omega
  clear hfin h2 S
  go_enter Tryz.func99, Tryz.ntmps99
  go_wp2_with fail
  try clear hW
  go_region_held3 (fun w' => w'.cell? ⟨b, 0, none⟩ = some (.pointer (some ⟨q, 0, none⟩)) ∧ w'.cell? ⟨b + 1, 0, none⟩ = some (.int .u32 (r.p.a : Int)) ∧ w'.cell? ⟨b + 1, 1, none⟩ = some (.int .i64 r.p.l) ∧ w'.cell? ⟨b + 1, 7, none⟩ = some (.int .i64 r.d))
    (first | exact ⟨BA.cell 0, BB.cell 0, BB.cell 1, BB.cell 7⟩ | exact ⟨K.cell c0, K.cell p0, K.cell p1, K.cell p7⟩ | go_keep)
    (first
      | (go_at_call 138; refine (timer_any r.p _).mono ?_; rintro e wv ⟨rfl, hKv⟩; have K := K.trans hKv; clear hKv)
      | (go_at_call 137; refine (qArm_S B q F l r.p r.d _ (HS.out.keep K) ha hwl.1 hwl.2.1 hwl.2.2.1 hwl.2.2.2 hl).mono ?_; rintro e wv ⟨⟨v, rfl⟩, l', hp, hQ⟩; have BA := (B0.keep K).only hQ.choose_spec.2.1 hbF; have BB := (B1.keep K).only hQ.choose_spec.2.1 hbF1))
  all_goals (try go_wp2_with fail)
  all_goals go_end0
  all_goals exact HF.out _ _ hp _ (kW.trans K) hQ
set_option maxRecDepth 100000 in
set_option maxHeartbeats 2000000 in
theorem set_3 (B q : Nat) (F : List Nat) (l : List Tw) (r : Rt) (w : World) (S : QuS w B q F l) (ha : r.p.a < 4294967296) (hwl : wfI r.p.l ∧ checkP r.p = 0 ∧ 0 ≤ r.d ∧ r.d ≤ 4611686018427387904) (hl : l.length ≤ 900000) (h2 : 2 ≤ r.s) (e2 : (r.s == 2) = false) (e3 : (r.s == 3) = true) :
    Calls Tryz.prog 99 #[.agg #[.pointer (some ⟨q, 0, none⟩)], roV r] w (SetP w B q F l r) := by
  obtain ⟨b, hb⟩ : ∃ b, w.heap.size = b := ⟨_, rfl⟩
  obtain ⟨W, hW, kW, B0, B1⟩ : ∃ W, (w.alloc (.cells #[.pointer (some ⟨q, 0, none⟩)] 103)).alloc (.cells (roC r) 48) = W ∧ Kp w W ∧ Blk W b 103 #[.pointer (some ⟨q, 0, none⟩)] ∧ Blk W (b + 1) 48 (roC r) := ⟨_, rfl, ((Kp.refl _).alloc _).alloc _, by rw [← hb]; exact (Blk.new w _ _).alloc _, by rw [← hb]; exact Blk.new1 w _ _ _⟩
  unfold roC at hW
  have c0 : W.cell? ⟨b, 0, none⟩ = some (.pointer (some ⟨q, 0, none⟩)) := B0.cell 0
  have p0 : W.cell? ⟨b + 1, 0, none⟩ = some (.int .u32 (r.p.a : Int)) := B1.cell 0
  have p1 : W.cell? ⟨b + 1, 1, none⟩ = some (.int .i64 r.p.l) := B1.cell 1
  have p2 : W.cell? ⟨b + 1, 2, none⟩ = some (.int .i64 r.s) := B1.cell 2
  have p7 : W.cell? ⟨b + 1, 7, none⟩ = some (.int .i64 r.d) := B1.cell 7
  have HS := Lib.hid (S.keep kW)
  have K : Kp W W.drew := (Kp.refl W).drew
  have hfin : ∀ wv l', l'.Perm ((⟨3, r.p, r.d⟩ : Tw) :: offP r.p l) → ∀ W', Kp w W' → QT W' wv B q F l' → SetP w B q F l r (.returned (.tuple #[])) wv := fun wv l' hp W' k ⟨F', h1, h2, h3⟩ =>
    ⟨rfl, l', by rw [if_pos ‹2 ≤ r.s›]; exact hp, F', h1, (Only.of_kp k).trans h2, fun x hx => (h3 x hx).imp id (fun z => Nat.le_trans k.size z)⟩
  have HF := Lib.hid hfin
  have hbF : b ∉ F := fun h => by have := (S.lo b h).2; omega
  have hbF1 : b + 1 ∉ F := fun h => by have := (S.lo (b + 1) h).2; omega
  clear hfin h2 S
  go_enter Tryz.func99, Tryz.ntmps99
  go_wp2_with fail
  try clear hW
  go_region_held3 (fun w' => w'.cell? ⟨b, 0, none⟩ = some (.pointer (some ⟨q, 0, none⟩)) ∧ w'.cell? ⟨b + 1, 0, none⟩ = some (.int .u32 (r.p.a : Int)) ∧ w'.cell? ⟨b + 1, 1, none⟩ = some (.int .i64 r.p.l) ∧ w'.cell? ⟨b + 1, 7, none⟩ = some (.int .i64 r.d))
    (first | exact ⟨BA.cell 0, BB.cell 0, BB.cell 1, BB.cell 7⟩ | exact ⟨K.cell c0, K.cell p0, K.cell p1, K.cell p7⟩ | go_keep)
    (first
      | (go_at_call 138; refine (timer_any r.p _).mono ?_; rintro e wv ⟨rfl, hKv⟩; have K := K.trans hKv; clear hKv)
      | (go_at_call 137; refine (qArm_S B q F l r.p r.d _ (HS.out.keep K) ha hwl.1 hwl.2.1 hwl.2.2.1 hwl.2.2.2 hl).mono ?_; rintro e wv ⟨⟨v, rfl⟩, l', hp, hQ⟩; have BA := (B0.keep K).only hQ.choose_spec.2.1 hbF; have BB := (B1.keep K).only hQ.choose_spec.2.1 hbF1))
  all_goals (try go_wp2_with fail)
  all_goals go_end0
  all_goals exact HF.out _ _ hp _ (kW.trans K) hQ
set_option maxRecDepth 100000 in
set_option maxHeartbeats 2000000 in
theorem set_4 (B q : Nat) (F : List Nat) (l : List Tw) (r : Rt) (w : World) (S : QuS w B q F l) (ha : r.p.a < 4294967296) (hwl : wfI r.p.l ∧ checkP r.p = 0 ∧ 0 ≤ r.d ∧ r.d ≤ 4611686018427387904) (hl : l.length ≤ 900000) (h2 : 2 ≤ r.s) (e2 : (r.s == 2) = false) (e3 : (r.s == 3) = false) (e4 : (r.s == 4) = true) :
    Calls Tryz.prog 99 #[.agg #[.pointer (some ⟨q, 0, none⟩)], roV r] w (SetP w B q F l r) := by
  obtain ⟨b, hb⟩ : ∃ b, w.heap.size = b := ⟨_, rfl⟩
  obtain ⟨W, hW, kW, B0, B1⟩ : ∃ W, (w.alloc (.cells #[.pointer (some ⟨q, 0, none⟩)] 103)).alloc (.cells (roC r) 48) = W ∧ Kp w W ∧ Blk W b 103 #[.pointer (some ⟨q, 0, none⟩)] ∧ Blk W (b + 1) 48 (roC r) := ⟨_, rfl, ((Kp.refl _).alloc _).alloc _, by rw [← hb]; exact (Blk.new w _ _).alloc _, by rw [← hb]; exact Blk.new1 w _ _ _⟩
  unfold roC at hW
  have c0 : W.cell? ⟨b, 0, none⟩ = some (.pointer (some ⟨q, 0, none⟩)) := B0.cell 0
  have p0 : W.cell? ⟨b + 1, 0, none⟩ = some (.int .u32 (r.p.a : Int)) := B1.cell 0
  have p1 : W.cell? ⟨b + 1, 1, none⟩ = some (.int .i64 r.p.l) := B1.cell 1
  have p2 : W.cell? ⟨b + 1, 2, none⟩ = some (.int .i64 r.s) := B1.cell 2
  have p7 : W.cell? ⟨b + 1, 7, none⟩ = some (.int .i64 r.d) := B1.cell 7
  have HS := Lib.hid (S.keep kW)
  have K : Kp W W.drew := (Kp.refl W).drew
  have hfin : ∀ wv l', l'.Perm ((⟨3, r.p, r.d⟩ : Tw) :: offP r.p l) → ∀ W', Kp w W' → QT W' wv B q F l' → SetP w B q F l r (.returned (.tuple #[])) wv := fun wv l' hp W' k ⟨F', h1, h2, h3⟩ =>
    ⟨rfl, l', by rw [if_pos ‹2 ≤ r.s›]; exact hp, F', h1, (Only.of_kp k).trans h2, fun x hx => (h3 x hx).imp id (fun z => Nat.le_trans k.size z)⟩
  have HF := Lib.hid hfin
  have hbF : b ∉ F := fun h => by have := (S.lo b h).2; omega
  have hbF1 : b + 1 ∉ F := fun h => by have := (S.lo (b + 1) h).2; omega
  clear hfin h2 S
  go_enter Tryz.func99, Tryz.ntmps99
  go_wp2_with fail
  try clear hW
  go_region_held3 (fun w' => w'.cell? ⟨b, 0, none⟩ = some (.pointer (some ⟨q, 0, none⟩)) ∧ w'.cell? ⟨b + 1, 0, none⟩ = some (.int .u32 (r.p.a : Int)) ∧ w'.cell? ⟨b + 1, 1, none⟩ = some (.int .i64 r.p.l) ∧ w'.cell? ⟨b + 1, 7, none⟩ = some (.int .i64 r.d))
    (first | exact ⟨BA.cell 0, BB.cell 0, BB.cell 1, BB.cell 7⟩ | exact ⟨K.cell c0, K.cell p0, K.cell p1, K.cell p7⟩ | go_keep)
    (first
      | (go_at_call 138; refine (timer_any r.p _).mono ?_; rintro e wv ⟨rfl, hKv⟩; have K := K.trans hKv; clear hKv)
      | (go_at_call 137; refine (qArm_S B q F l r.p r.d _ (HS.out.keep K) ha hwl.1 hwl.2.1 hwl.2.2.1 hwl.2.2.2 hl).mono ?_; rintro e wv ⟨⟨v, rfl⟩, l', hp, hQ⟩; have BA := (B0.keep K).only hQ.choose_spec.2.1 hbF; have BB := (B1.keep K).only hQ.choose_spec.2.1 hbF1))
  all_goals (try go_wp2_with fail)
  all_goals go_end0
  all_goals exact HF.out _ _ hp _ (kW.trans K) hQ
set_option maxRecDepth 100000 in
set_option maxHeartbeats 2000000 in
theorem set_0 (B q : Nat) (F : List Nat) (l : List Tw) (r : Rt) (w : World) (S : QuS w B q F l) (ha : r.p.a < 4294967296) (hwl : wfI r.p.l ∧ checkP r.p = 0) (hl : l.length ≤ 900000) (h2 : ¬ 2 ≤ r.s) (e2 : (r.s == 2) = false) (e3 : (r.s == 3) = false) (e4 : (r.s == 4) = false) :
    Calls Tryz.prog 99 #[.agg #[.pointer (some ⟨q, 0, none⟩)], roV r] w (SetP w B q F l r) := by
  obtain ⟨b, hb⟩ : ∃ b, w.heap.size = b := ⟨_, rfl⟩
  obtain ⟨W, hW, kW, B0, B1⟩ : ∃ W, (w.alloc (.cells #[.pointer (some ⟨q, 0, none⟩)] 103)).alloc (.cells (roC r) 48) = W ∧ Kp w W ∧ Blk W b 103 #[.pointer (some ⟨q, 0, none⟩)] ∧ Blk W (b + 1) 48 (roC r) := ⟨_, rfl, ((Kp.refl _).alloc _).alloc _, by rw [← hb]; exact (Blk.new w _ _).alloc _, by rw [← hb]; exact Blk.new1 w _ _ _⟩
  unfold roC at hW
  have c0 : W.cell? ⟨b, 0, none⟩ = some (.pointer (some ⟨q, 0, none⟩)) := B0.cell 0
  have p0 : W.cell? ⟨b + 1, 0, none⟩ = some (.int .u32 (r.p.a : Int)) := B1.cell 0
  have p1 : W.cell? ⟨b + 1, 1, none⟩ = some (.int .i64 r.p.l) := B1.cell 1
  have p2 : W.cell? ⟨b + 1, 2, none⟩ = some (.int .i64 r.s) := B1.cell 2
  have p7 : W.cell? ⟨b + 1, 7, none⟩ = some (.int .i64 r.d) := B1.cell 7
  have HS := Lib.hid (S.keep kW)
  have K : Kp W W.drew := (Kp.refl W).drew
  have hfin : ∀ wv l', l'.Perm (offP r.p l) → ∀ W', Kp w W' → QT W' wv B q F l' → SetP w B q F l r (.returned (.tuple #[])) wv := fun wv l' hp W' k ⟨F', h1, h2, h3⟩ =>
    ⟨rfl, l', by rw [if_neg ‹¬ 2 ≤ r.s›]; exact hp, F', h1, (Only.of_kp k).trans h2, fun x hx => (h3 x hx).imp id (fun z => Nat.le_trans k.size z)⟩
  have HF := Lib.hid hfin
  have hbF : b ∉ F := fun h => by have := (S.lo b h).2; omega
  have hbF1 : b + 1 ∉ F := fun h => by have := (S.lo (b + 1) h).2; omega
  clear hfin h2 S
  go_enter Tryz.func99, Tryz.ntmps99
  go_wp2_with fail
  try clear hW
  go_region_held3 (fun w' => w'.cell? ⟨b, 0, none⟩ = some (.pointer (some ⟨q, 0, none⟩)) ∧ w'.cell? ⟨b + 1, 0, none⟩ = some (.int .u32 (r.p.a : Int)) ∧ w'.cell? ⟨b + 1, 1, none⟩ = some (.int .i64 r.p.l))
    (first | exact ⟨BA.cell 0, BB.cell 0, BB.cell 1⟩ | exact ⟨K.cell c0, K.cell p0, K.cell p1⟩ | go_keep)
    (first
      | (go_at_call 138; refine (timer_any r.p _).mono ?_; rintro e wv ⟨rfl, hKv⟩; have K := K.trans hKv; clear hKv)
      | (go_at_call 139; refine (qCancel_S B q F l r.p _ (HS.out.keep K) ha hwl.1 hwl.2 hl).mono ?_; rintro e wv ⟨⟨v, rfl⟩, l', hp, hQ⟩; have BA := (B0.keep K).only hQ.choose_spec.2.1 hbF; have BB := (B1.keep K).only hQ.choose_spec.2.1 hbF1))
  all_goals (try go_wp2_with fail)
  all_goals go_end0
  all_goals exact HF.out _ _ hp _ (kW.trans K) hQ
theorem set_any (B q : Nat) (F : List Nat) (l : List Tw) (r : Rt) (w : World) (S : QuS w B q F l) (hr : okR r = true) (ha : r.p.a < 4294967296) (hl : l.length ≤ 900000) :
    Calls Tryz.prog 99 #[.agg #[.pointer (some ⟨q, 0, none⟩)], roV r] w (SetP w B q F l r) := by
  have hr' := (okR_iff r).1 hr
  have hc := told_ok hr'.1
  have hw : wfI r.p.l := by
    have h1 := hr'.1
    unfold toldB PI.okB at h1
    simp only [Bool.and_eq_true, decide_eq_true_eq] at h1
    exact ⟨by omega, by omega⟩
  rcases stateB_s hr'.2 with hs | hs | hs | hs | hs
  · exact set_0 B q F l r w S ha ⟨hw, hc⟩ hl (by omega) (beqF (by omega)) (beqF (by omega)) (beqF (by omega))
  · exact set_0 B q F l r w S ha ⟨hw, hc⟩ hl (by omega) (beqF (by omega)) (beqF (by omega)) (beqF (by omega))
  · have h := (stateB_2 hs).1 hr'.2
    exact set_2 B q F l r w S ha ⟨hw, hc, h.2.2.2.2.1, h.2.2.2.2.2⟩ hl (by omega) (beqT hs)
  · have h := (stateB_3 hs).1 hr'.2
    exact set_3 B q F l r w S ha ⟨hw, hc, h.2.2.2.2.1, h.2.2.2.2.2⟩ hl (by omega) (beqF (by omega)) (beqT hs)
  · have h := (stateB_4 hs).1 hr'.2
    exact set_4 B q F l r w S ha ⟨hw, hc, h.2.2.2.1, h.2.2.2.2⟩ hl (by omega) (beqF (by omega)) (beqF (by omega)) (beqT hs)
end Go.Proofs.YtffckpkikdlbpaaGreatDoor
