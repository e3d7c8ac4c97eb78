/- Lemmas and contracts for the theorem of this claim: OrdV, LwA, LwB, LwC. -/
import Derived.Test.YtffckpkikdlbpaaGreatDoorZrBk
set_option linter.unusedSimpArgs false
set_option linter.unusedVariables false
namespace Go.Proofs.YtffckpkikdlbpaaGreatDoor
open Go.RowKit
/-- The slots of the operations that are done have their values; the others stand; memory only grew. -/
structure RV (W : World) (a0 : Act) (sl : List Nat) (v : List Value) (L : Nat → Bool) (a : Act) (w : World) : Prop where
  kp : Kp W w
  df : a.defers = a0.defers
  sz : a.tmps.size = a0.tmps.size
  old : ∀ j, j ∉ sl → a.tmps.getD j undef = a0.tmps.getD j undef
  new : ∀ i, L i = true → ∀ k, sl[i]? = some k → a.tmps.getD k undef = v.getD i undef
theorem RV.start (W : World) (a0 : Act) (sl : List Nat) (v : List Value) : RV W a0 sl v (fun _ => false) a0 W.drew :=
  ⟨(Kp.refl W).drew, rfl, rfl, fun _ _ => rfl, fun _ h => by cases h⟩
theorem RV.put {W w w' : World} {a0 a : Act} {sl : List Nat} {v : List Value} {L : Nat → Bool} (h : RV W a0 sl v L a w) (i k : Nat) (hi : sl[i]? = some k) (hn : sl.Nodup) (hk : k < a0.tmps.size) (kp : Kp w w') {u : Value} (hu : v.getD i undef = u) : RV W a0 sl v (fun j => j == i || L j) (a.put (some k) u) w' := by
  subst hu
  have hks : k < a.tmps.size := by rw [h.sz]; exact hk
  have hg : ∀ j, (a.tmps.setIfInBounds k (v.getD i undef)).getD j undef = if j = k then v.getD i undef else a.tmps.getD j undef := fun j => by
    by_cases e : j = k
    · subst e
      rw [if_pos rfl]
      simp [Array.getD_eq_getD_getElem?, hks]
    · rw [if_neg e]
      simp only [Array.getD_eq_getD_getElem?]
      rw [Array.getElem?_setIfInBounds_ne (fun z => e z.symm)]
  refine ⟨h.kp.trans kp, h.df, by simpa [Act.put] using h.sz, fun j hj => ?_, fun j hj m hm => ?_⟩
  · show (a.tmps.setIfInBounds k (v.getD i undef)).getD j undef = _
    rw [hg, if_neg (fun e => hj (by rw [e]; exact List.mem_of_getElem? hi))]
    exact h.old j hj
  · show (a.tmps.setIfInBounds k (v.getD i undef)).getD m undef = _
    rw [hg]
    by_cases e : j = i
    · subst e
      rw [hi] at hm
      injection hm with hm
      rw [if_pos hm.symm]
    · have hne : m ≠ k := fun z => by
        subst z
        obtain ⟨h1, h2⟩ := List.getElem?_eq_some_iff.1 hi
        obtain ⟨h3, h4⟩ := List.getElem?_eq_some_iff.1 hm
        have hp := List.pairwise_iff_getElem.1 hn
        rcases Nat.lt_or_ge j i with hl | hl
        · exact hp j i h3 h1 hl (by rw [h2, h4])
        · exact hp i j h1 h3 (by omega) (by rw [h2, h4])
      rw [if_neg hne]
      refine h.new j ?_ m hm
      simpa [e] using hj
theorem slot_is {t : Array Value} {k : Nat} {v : Value} (h : t.getD k undef = v) : t[k]?.getD undef = v := by rw [← h, Array.getD_eq_getD_getElem?]
theorem slot_bool {t : Array Value} {k : Nat} {b : Bool} (h : t.getD k undef = .bool b) : t[k]? = some (.bool b) := by
  rw [Array.getD_eq_getD_getElem?] at h
  cases e : t[k]? with
  | none => rw [e] at h; cases h
  | some x => rw [e] at h; simp only [Option.getD_some] at h; rw [h]
theorem wanted_yes {ops : Array Oper} {o : Oper} {t : Array Value} {g k : Nat} {b : Bool} (hg : o.guard = some (g, b)) (hk : (ops[g]?).bind (·.dst) = some k) (ht : t.getD k undef = .bool b) : Region.wanted o (yielded ops t) = true := by
  unfold Region.wanted yielded
  rw [hg]
  simp only [hk, Option.bind_some, slot_bool ht, beq_self_eq_true]
theorem wanted_all {ops : Array Oper} {o : Oper} {t : Array Value} (hg : o.guard = none) : Region.wanted o (yielded ops t) = true := by
  unfold Region.wanted
  rw [hg]
theorem wp_anyV {id : Nat} {P : Program} {Q : Exit → Act → World → Prop} {a0 : Act} {w : World} {l : List Oper} (sl : List Nat) (v : List Value) (hm : P.follows .mixedOrders = true) (hb : backB .any l.toArray = true)
    (step : ∀ (i : Nat) (o : Oper) (L : Nat → Bool) (a : Act) (w' : World), l[i]? = some o → (∀ j, j ∈ o.after.toList.map (·.on) → (∀ e ∈ o.after.toList, e.on = j → Region.binds .any e = true) → L j = true) → RV w a0 sl v L a w' →
      ∀ K : Act → World → Prop, (∀ a' w', RV w a0 sl v (fun j => j == i || L j) a' w' → K a' w') → if Region.wanted o (yielded l.toArray a.tmps) = true then Oper.wp P o a w' K Q else K (a.put o.dst undef) w')
    (fin : ∀ a w', Kp w w' → a.defers = a0.defers → a.tmps.size = a0.tmps.size → (∀ j, j ∉ sl → a.tmps.getD j undef = a0.tmps.getD j undef) → (∀ i, i < l.length → ∀ k, sl[i]? = some k → a.tmps.getD k undef = v.getD i undef) → Q .normal a w') : (Code.region id l.toArray true).wp P Q a0 w :=
  wp_region_inv hm (RV w a0 sl v) hb (fun i o L a w' ho _ hd hG K hK => step i o L a w' ho (fun j hj hb => by
    obtain ⟨e, he, rfl⟩ := List.mem_map.1 hj
    exact hd e (Array.mem_toList_iff.1 he) (hb e he rfl)) hG K hK) (fun L a w' hL hG => fin a w' hG.kp hG.df hG.sz hG.old (fun i hi => hG.new i (hL i hi))) (RV.start w a0 sl v)
end Go.Proofs.YtffckpkikdlbpaaGreatDoor

namespace Go.Proofs.YtffckpkikdlbpaaGreatDoor
open Go.RowKit Go.Maps
/-- A table that may stand, of values that fit. -/
structure Good (T : Tb) : Prop where
  ok : TbOk T
  xs : ∀ r ∈ T.l, r.x < 4294967296
  own : ∀ k (hk : k < T.c.own.length), T.c.own[k].a < 4294967296
theorem hear_x {c : Cf} {r : Rt} {h : Hd} {now : Int} (hr : r.x < 4294967296) (hh : h.a < 4294967296) : (hearR c r h now).x < 4294967296 := by
  unfold hearR newR lostR
  repeat' split
  all_goals first | exact hr | exact hh
theorem was_x {T : Tb} (h : ∀ r ∈ T.l, r.x < 4294967296) (p : PI) : (wasR p T.l).x < 4294967296 := by
  unfold wasR
  cases e : getR p T.l with
  | none => exact (by decide : (0 : Nat) < 4294967296)
  | some r => exact h r (getR_mem e).1
theorem set_x {L : List Rt} {r : Rt} (h : ∀ x ∈ L, x.x < 4294967296) (hr : r.x < 4294967296) : ∀ x ∈ setR r L, x.x < 4294967296 := fun x hx => by
  rcases mem_setR.1 hx with ⟨rfl, _⟩ | ⟨hx, _⟩
  · exact hr
  · exact h x hx
theorem Good.heard {T : Tb} (h : Good T) (p : PI) {k : Hd} (now : Int) (hk : k.a < 4294967296) : Good (heardT T p k now).1 := by
  refine ⟨heard_ok h.ok p k now, ?_, ?_⟩
  · unfold heardT
    repeat' split
    all_goals first | exact h.xs | exact set_x h.xs (hear_x (was_x h.xs p) hk)
  · have : (heardT T p k now).1.c = T.c := by unfold heardT; (repeat' split) <;> rfl
    rw [this]
    exact h.own
theorem Good.at {T : Tb} (h : Good T) {now : Int} (ht : 0 ≤ now ∧ now ≤ 4611686018426387904) : Good ⟨T.c, T.l, now, T.rf⟩ := ⟨⟨h.ok.c, h.ok.u, h.ok.r, h.ok.n, ht, h.ok.f⟩, h.xs, h.own⟩
theorem expG_x {c : Cf} {now : Int} : ∀ (k : Nat) (L : List Rt), UpR L → (∀ r ∈ L, r.x < 4294967296) → ∀ r ∈ (expG c now k L).1, r.x < 4294967296
  | 0, L, _, h => h
  | k + 1, L, u, h => by
    unfold expG
    split
    · exact h
    · next r e =>
      split
      · exact h
      · exact expG_x k _ (setR_up _ u) (set_x h (exp_x (h r ((firstR_ok u).2 r e).1)))
theorem Good.exp {T : Tb} (h : Good T) (now : Int) : Good (expT T now).1 := by
  refine ⟨exp_ok h.ok now, ?_, ?_⟩
  · unfold expT
    split
    · exact expG_x 1000 T.l h.ok.u h.xs
    · exact h.xs
  · have : (expT T now).1.c = T.c := by unfold expT; split <;> rfl
    rw [this]
    exact h.own
theorem Good.seen {T : Tb} (h : Good T) : Good (seenT T).1 :=
  ⟨seen_ok h.ok, fun r hr => by obtain ⟨y, hy, rfl⟩ := List.mem_map.1 hr; exact h.xs y hy, h.own⟩
theorem Good.new {c : Cf} (hc : okCf c = true) (ho : ∀ k (hk : k < c.own.length), c.own[k].a < 4294967296) : Good (newT c) := by
  refine ⟨new_ok hc, fun r hr => ?_, ho⟩
  rcases ((putAll_own c.own [] List.Pairwise.nil).2.1 r).1 hr with ⟨p, _, rfl⟩ | ⟨h, _⟩
  · exact (by decide : (0 : Nat) < 4294967296)
  · simp at h
/-- Blocks that stand. -/
def Sm (bs : List Nat) (W W' : World) : Prop := ∀ b ∈ bs, W'.heap[b]? = W.heap[b]?
theorem Sm.refl (bs : List Nat) (W : World) : Sm bs W W := fun _ _ => rfl
theorem Sm.trans {bs : List Nat} {U V W : World} (h : Sm bs U V) (k : Sm bs V W) : Sm bs U W := fun b hb => (k b hb).trans (h b hb)
theorem Sm.blk {bs : List Nat} {W W' : World} (h : Sm bs W W') {b : Nat} (hb : b ∈ bs) {t : TypeId} {cs : Array Value} (k : Blk W b t cs) : Blk W' b t cs := (h b hb).trans k
theorem Sm.rd {α : Type} {bs : List Nat} {W W' : World} (h : Sm bs W W') {sz : Nat} {enc : α → List Value} {A : Option Addr} {xs : List α} (hA : ∀ a, A = some a → a.block ∈ bs) (k : Rd W sz enc A xs) : Rd W' sz enc A xs := fun i hi => by
  obtain ⟨b, off, e, hc⟩ := k i hi
  exact ⟨b, off, e, fun j u hu => (World.cell?_of_block (w := W) (h b (hA ⟨b, off, none⟩ e))).trans (hc j u hu)⟩
theorem Sm.of_kp {bs : List Nat} {W W' : World} (k : Kp W W') (hb : ∀ b ∈ bs, b < W.heap.size) : Sm bs W W' := fun b h => k.heap (hb b h)
theorem Sm.cut {bs cs : List Nat} {W W' : World} (h : Sm bs W W') (hc : ∀ b ∈ cs, b ∈ bs) : Sm cs W W' := fun b hb => h b (hc b hb)
/-- A table in memory, that has been made since w0, beside blocks of others. -/
structure TS (w0 W : World) (B t : Nat) (T : Tb) (bs : List Nat) : Prop where
  kp : Kp w0 W
  lb : w0.heap.size ≤ B
  tm : ∃ F, TabM W B t F T ∧ ∀ b ∈ bs, b ∉ F
  lt : ∀ b ∈ bs, b < W.heap.size
  gd : Good T
  ca : CapAt w0
  fa : FacAt w0
theorem TS.keep {w0 W W' : World} {B t : Nat} {T : Tb} {bs : List Nat} (h : TS w0 W B t T bs) (k : Kp W W') : TS w0 W' B t T bs := by
  obtain ⟨F, hT, hn⟩ := h.tm
  exact ⟨h.kp.trans k, h.lb, ⟨F, hT.keep k, hn⟩, fun b hb => Nat.lt_of_lt_of_le (h.lt b hb) k.size, h.gd, h.ca, h.fa⟩
theorem TS.add {w0 W : World} {B t : Nat} {T : Tb} {bs : List Nat} (h : TS w0 W B t T bs) {W' : World} (k : Kp W W') {cs : List Nat} (hc : ∀ b ∈ cs, W.heap.size ≤ b ∧ b < W'.heap.size) : TS w0 W' B t T (cs ++ bs) := by
  obtain ⟨F, hT, hn⟩ := h.tm
  refine ⟨h.kp.trans k, h.lb, ⟨F, hT.keep k, fun b hb => ?_⟩, fun b hb => ?_, h.gd, h.ca, h.fa⟩
  · rcases List.mem_append.1 hb with hb | hb
    · exact fun z => by have := (hT.lo b z).2; have := (hc b hb).1; omega
    · exact hn b hb
  · rcases List.mem_append.1 hb with hb | hb
    · exact (hc b hb).2
    · exact Nat.lt_of_lt_of_le (h.lt b hb) k.size
theorem TS.cut {w0 W : World} {B t : Nat} {T : Tb} {bs cs : List Nat} (h : TS w0 W B t T bs) (hc : ∀ b ∈ cs, b ∈ bs) : TS w0 W B t T cs := by
  obtain ⟨F, hT, hn⟩ := h.tm
  exact ⟨h.kp, h.lb, ⟨F, hT, fun b hb => hn b (hc b hb)⟩, fun b hb => h.lt b (hc b hb), h.gd, h.ca, h.fa⟩
/-- Blocks of others are turned. -/
theorem TS.other {w0 W W' : World} {B t : Nat} {T : Tb} {bs cs : List Nat} (h : TS w0 W B t T bs) (hc : ∀ b ∈ cs, b ∈ bs ∧ w0.heap.size ≤ b ∧ ∃ ty xs, Blk W b ty xs ∧ ty ≠ 29) (k : Only cs W W') : TS w0 W' B t T bs := by
  obtain ⟨F, hT, hn⟩ := h.tm
  exact ⟨k.kp h.kp (fun b hb => (hc b hb).2.1), h.lb, ⟨F, hT.turn k (fun b hb => ⟨hn b (hc b hb).1, (hc b hb).2.2⟩), hn⟩, fun b hb => Nat.lt_of_lt_of_le (h.lt b hb) k.size, h.gd, h.ca, h.fa⟩
theorem TS.turn {w0 W W' : World} {B t : Nat} {F : List Nat} {T T' : Tb} {bs : List Nat} (h : TS w0 W B t T bs) (hF : TabM W B t F T) (hn : ∀ b ∈ bs, b ∉ F) (k : TabT W W' B t F T') (g : Good T') : TS w0 W' B t T' bs ∧ Sm bs W W' := by
  obtain ⟨F', h1, h2, h3⟩ := k
  refine ⟨⟨h2.kp h.kp (fun b hb => Nat.le_trans h.lb (hF.lo b hb).1), h.lb, ⟨F', h1, fun b hb z => ?_⟩, fun b hb => Nat.lt_of_lt_of_le (h.lt b hb) h2.size, g, h.ca, h.fa⟩, fun b hb => h2.block b (h.lt b hb) (hn b hb)⟩
  rcases h3 b z with e | e
  · exact hn b hb e
  · have := h.lt b hb
    omega
theorem TS.gs {w0 W : World} {B t : Nat} {T : Tb} {bs : List Nat} (h : TS w0 W B t T bs) : 1 < B ∧ 0 < B ∧ CapAt W ∧ FacAt W := by
  have h1 := World.block_lt_of_cell? w0 _ h.ca.1
  have h2 := World.block_lt_of_cell? w0 _ h.fa.1
  have := h.lb
  exact ⟨Nat.lt_of_lt_of_le h1 this, Nat.lt_of_lt_of_le h2 this, h.ca.keep h.kp, h.fa.keep h.kp⟩
/-- What a call of a table leaves. -/
def TurnP (w0 W : World) (B t : Nat) (T' : Tb) (bs : List Nat) (v : Value) (e : Ending) (W' : World) : Prop := e = .returned v ∧ TS w0 W' B t T' bs ∧ Sm bs W W'
theorem hear_TS (w0 W : World) (B t : Nat) (T : Tb) (bs : List Nat) (S : TS w0 W B t T bs) (p : PI) (h : Hd) (now : Int) (hp : wfP p) (hh : h.a < 4294967296) :
    Calls Tryz.prog 23 #[.pointer (some ⟨t, 0, none⟩), pfV p, .agg #[.int .i64 h.f, .int .u32 (h.a : Int), .int .i64 h.m], .int .i64 now] W (TurnP w0 W B t (heardT T p h now).1 bs (.tuple #[roV (heardT T p h now).2.1, .int .i64 (heardT T p h now).2.2])) := by
  obtain ⟨F, hT, hn⟩ := S.tm
  refine (bhear_any B t F T p h now W hT S.gd.ok S.gd.xs S.gd.own S.gs.2.2.1 hp hh).mono ?_
  rintro e W' ⟨rfl, k⟩
  exact ⟨rfl, S.turn hT hn k (S.gd.heard p now hh)⟩
theorem exp_TS (w0 W : World) (B t : Nat) (T : Tb) (bs : List Nat) (S : TS w0 W B t T bs) (now : Int) :
    Calls Tryz.prog 27 #[.pointer (some ⟨t, 0, none⟩), .int .i64 now] W (TurnP w0 W B t (expT T now).1 bs (.tuple #[.int .i64 (expT T now).2.1, .int .i64 (expT T now).2.2])) := by
  obtain ⟨F, hT, hn⟩ := S.tm
  refine (bexp_any B t F T now W hT S.gd.ok S.gd.xs S.gd.own S.gs.2.2.1 S.gs.1).mono ?_
  rintro e W' ⟨rfl, k⟩
  exact ⟨rfl, S.turn hT hn k (S.gd.exp now)⟩
theorem TS.new {w0 W W' : World} {t : Nat} {F : List Nat} {T : Tb} {bs : List Nat} (k0 : Kp w0 W) (hM : TabM W' W.heap.size t F T) (k : Kp W W') (hb : ∀ b ∈ bs, b < W.heap.size) (g : Good T) (ca : CapAt w0) (fa : FacAt w0) : TS w0 W' W.heap.size t T bs :=
  ⟨k0.trans k, k0.size, ⟨F, hM, fun b h z => by have := (hM.lo b z).1; have := hb b h; omega⟩, fun b h => Nat.lt_of_lt_of_le (hb b h) k.size, g, ca, fa⟩
end Go.Proofs.YtffckpkikdlbpaaGreatDoor

namespace Go.Proofs.YtffckpkikdlbpaaGreatDoor
open Go.RowKit Go.Maps
def netP (n : Nat) : PI := ⟨167772160 + n * 65536, 16⟩
theorem num_any (n : Int) (w : World) : Calls Tryz.prog 18 #[.int .i64 n] w fun e w' => e = .returned (.int .i64 n) ∧ w = w' := by
  go_enter Tryz.func18, Tryz.ntmps18
  go_wp2_with fail
  go_ret
  exact ⟨rfl, rfl⟩
set_option maxRecDepth 100000 in
theorem net_1 (w : World) : Calls Tryz.prog 38 #[.int .u32 1] w fun e w' => e = .returned (.agg #[.int .u32 167837696, .int .i64 16]) ∧ Kp w w' := by
  have B := Blk.new w 29 #[.int .u32 167837696, .int .i64 16]
  have q0 : (w.alloc (.cells #[.int .u32 167837696, .int .i64 16] 29)).cell? ⟨w.heap.size, 0, none⟩ = some (.int .u32 167837696) := B.cell 0
  have q1 : (w.alloc (.cells #[.int .u32 167837696, .int .i64 16] 29)).cell? ⟨w.heap.size, 1, none⟩ = some (.int .i64 16) := B.cell 1
  go_enter Tryz.func38, Tryz.ntmps38
  go_wp2_with fail
  exact ⟨rfl, .agg #[.int .u32 167837696, .int .i64 16], by simp [results, Tryz.results38, go_sem, q0, q1], rfl, (Kp.refl w).alloc _⟩
set_option maxRecDepth 100000 in
theorem net_5 (w : World) : Calls Tryz.prog 38 #[.int .u32 5] w fun e w' => e = .returned (.agg #[.int .u32 168099840, .int .i64 16]) ∧ Kp w w' := by
  have B := Blk.new w 29 #[.int .u32 168099840, .int .i64 16]
  have q0 : (w.alloc (.cells #[.int .u32 168099840, .int .i64 16] 29)).cell? ⟨w.heap.size, 0, none⟩ = some (.int .u32 168099840) := B.cell 0
  have q1 : (w.alloc (.cells #[.int .u32 168099840, .int .i64 16] 29)).cell? ⟨w.heap.size, 1, none⟩ = some (.int .i64 16) := B.cell 1
  go_enter Tryz.func38, Tryz.ntmps38
  go_wp2_with fail
  exact ⟨rfl, .agg #[.int .u32 168099840, .int .i64 16], by simp [results, Tryz.results38, go_sem, q0, q1], rfl, (Kp.refl w).alloc _⟩
set_option maxRecDepth 100000 in
theorem net_6 (w : World) : Calls Tryz.prog 38 #[.int .u32 6] w fun e w' => e = .returned (.agg #[.int .u32 168165376, .int .i64 16]) ∧ Kp w w' := by
  have B := Blk.new w 29 #[.int .u32 168165376, .int .i64 16]
  have q0 : (w.alloc (.cells #[.int .u32 168165376, .int .i64 16] 29)).cell? ⟨w.heap.size, 0, none⟩ = some (.int .u32 168165376) := B.cell 0
  have q1 : (w.alloc (.cells #[.int .u32 168165376, .int .i64 16] 29)).cell? ⟨w.heap.size, 1, none⟩ = some (.int .i64 16) := B.cell 1
  go_enter Tryz.func38, Tryz.ntmps38
  go_wp2_with fail
  exact ⟨rfl, .agg #[.int .u32 168165376, .int .i64 16], by simp [results, Tryz.results38, go_sem, q0, q1], rfl, (Kp.refl w).alloc _⟩
end Go.Proofs.YtffckpkikdlbpaaGreatDoor

namespace Go.Proofs.YtffckpkikdlbpaaGreatDoor
open Go.RowKit Go.Maps
def wkC : Cf := ⟨1, 0, 6, 4, 3, 0, 0, 2, [netP 1]⟩
def wkH : Hd := ⟨0, 167772418, 2⟩
def wk5 : Rt := ⟨netP 5, 2, 3, 0, 0, 167772418, 16, true⟩
def wk6 : Rt := ⟨netP 5, 3, 16, 3, 0, 167772418, 20, true⟩
def wk7 : Rt := ⟨netP 5, 4, 16, 0, 0, 167772418, 23, true⟩
def wkT (l : List Rt) (now rf : Int) : Tb := ⟨wkC, l, now, rf⟩
theorem wk_ok : okCf wkC = true := by decide +kernel
theorem wk_new : newT wkC = wkT [ownR (netP 1)] 0 0 := by kernel_rfl
theorem wk_1 : heardT (wkT [ownR (netP 1)] 0 0) (netP 5) wkH 10 = (wkT [ownR (netP 1), wk5] 10 0, wk5, 0) := by kernel_rfl
theorem wk_2 : heardT (wkT [ownR (netP 1), wk5] 10 0) (netP 6) wkH 11 = (wkT [ownR (netP 1), wk5] 11 1, zeroR, 200) := by kernel_rfl
theorem wk_n : nextV [ownR (netP 1), wk5] = .tuple #[.int .i64 16, .bool true] := by kernel_rfl
theorem wk_3 : expT (wkT [ownR (netP 1), wk5] 11 1) 16 = (wkT [ownR (netP 1), wk6] 16 1, 1, 0) := by kernel_rfl
theorem wk_g : getR (netP 5) [ownR (netP 1), wk6] = some wk6 := by kernel_rfl
theorem wk_4 : expT (wkT [ownR (netP 1), wk6] 16 1) 20 = (wkT [ownR (netP 1), wk7] 20 1, 1, 0) := by kernel_rfl
theorem wk_5 : expT (wkT [ownR (netP 1), wk7] 20 1) 23 = (wkT [ownR (netP 1)] 23 1, 1, 0) := by kernel_rfl
theorem wk_c : newsL [ownR (netP 1)] = [ownR (netP 1)] := by kernel_rfl
end Go.Proofs.YtffckpkikdlbpaaGreatDoor
