/- Lemmas and contracts for the theorem of this claim: RbM, RoA. -/
import Derived.Test.YtffckpkikdlbpaaGreatDoorZtAp
import Derived.Test.YtffckpkikdlbpaaGreatDoorZtAq
set_option linter.unusedSimpArgs false
set_option linter.unusedVariables false
namespace Go.Proofs.YtffckpkikdlbpaaGreatDoor
open Go.RowKit
structure Tb where
  c : Cf
  l : List Rt
  now : Int
  rf : Int
structure TbOk (T : Tb) : Prop where
  c : okCf T.c = true
  u : UpR T.l
  r : ∀ x ∈ T.l, okR x = true ∧ x.s ≠ 0
  n : (T.l.length : Int) ≤ T.c.cap
  t : 0 ≤ T.now ∧ T.now ≤ 4611686018426387904
  f : 0 ≤ T.rf ∧ T.rf ≤ 2147483647
def zeroR : Rt := noR ⟨0, 0⟩
def wasR (p : PI) (L : List Rt) : Rt := (getR p L).getD (noR p)
def timely (T : Tb) (now : Int) : Bool := okNow now && decide (T.now ≤ now)
def fullB (T : Tb) (p : PI) (r : Rt) : Bool := (getR p T.l).isNone && (decide (r.s ≠ 0) && decide (T.c.cap ≤ (T.l.length : Int)))
def heardT (T : Tb) (p : PI) (h : Hd) (now : Int) : Tb × Rt × Int :=
  if toldB p && okHd h then
    if timely T now then
      if fullB T p (hearR T.c (wasR p T.l) h now) then (⟨T.c, T.l, now, min (T.rf + 1) 2147483647⟩, zeroR, 200)
      else (⟨T.c, setR (hearR T.c (wasR p T.l) h now) T.l, now, T.rf⟩, hearR T.c (wasR p T.l) h now, 0)
    else (T, zeroR, 170)
  else (T, zeroR, 2)
def loseG (c : Cf) (f now : Int) (s : List Rt × Int) (x : Rt) : List Rt × Int := if x.s = 2 ∧ x.f = f then (setR (loseR c x now) s.1, s.2 + 1) else s
def lostT (T : Tb) (f now : Int) : Tb × Int × Int :=
  if withB 0 15 f then
    if timely T now then
      (⟨T.c, (T.l.foldl (loseG T.c f now) (T.l, 0)).1, now, T.rf⟩, (T.l.foldl (loseG T.c f now) (T.l, 0)).2, 0)
    else (T, 0, 170)
  else (T, 0, 2)
def expG (c : Cf) (now : Int) : Nat → List Rt → List Rt × Int
  | 0, L => (L, 0)
  | k + 1, L => match firstR L with
    | none => (L, 0)
    | some r => if now < r.d then (L, 0) else ((expG c now k (setR (expR c r now) L)).1, (expG c now k (setR (expR c r now) L)).2 + 1)
def expT (T : Tb) (now : Int) : Tb × Int × Int :=
  if timely T now then (⟨T.c, (expG T.c now 1000 T.l).1, now, T.rf⟩, (expG T.c now 1000 T.l).2, 0)
  else (T, 0, 170)
def seenR (r : Rt) : Rt := ⟨r.p, r.s, r.m, r.l, r.f, r.x, r.d, false⟩
def newsL (L : List Rt) : List Rt := L.filter (fun r => r.c)
def seenT (T : Tb) : Tb × Int := (⟨T.c, T.l.map seenR, T.now, T.rf⟩, ((newsL T.l).length : Int))
def putAll (l : List Rt) (L : List Rt) : List Rt := l.foldl (fun M r => setR r M) L
def newT (c : Cf) : Tb := ⟨c, putAll (c.own.map ownR) [], 0, 0⟩
theorem TbOk.set {T : Tb} (h : TbOk T) {r : Rt} (hr : okR r = true) (hn : r.s ≠ 0 → (getR r.p T.l).isNone = true → (T.l.length : Int) < T.c.cap) {now rf : Int} (ht : 0 ≤ now ∧ now ≤ 4611686018426387904) (hf : 0 ≤ rf ∧ rf ≤ 2147483647) : TbOk ⟨T.c, setR r T.l, now, rf⟩ where
  c := h.c
  u := setR_up r h.u
  r := fun x hx => by
    rcases mem_setR.1 hx with ⟨rfl, h0⟩ | ⟨hx, _⟩
    · exact ⟨hr, h0⟩
    · exact h.r x hx
  n := by
    show ((setR r T.l).length : Int) ≤ T.c.cap
    have hl := (setR_perm r T.l).length_eq
    rw [List.length_append] at hl
    have ho : (offR r.p T.l).length ≤ T.l.length := List.length_filter_le _ _
    have hn0 := h.n
    by_cases h0 : r.s = 0
    · rw [if_pos h0] at hl
      simp only [List.length_nil] at hl
      omega
    · rw [if_neg h0] at hl
      simp only [List.length_cons, List.length_nil] at hl
      cases e : getR r.p T.l with
      | none =>
        have := hn h0 (by rw [e]; rfl)
        omega
      | some x =>
        obtain ⟨k1, k2⟩ := getR_mem e
        have hlt : (offR r.p T.l).length < T.l.length := by
          unfold offR
          refine Nat.lt_of_le_of_ne (List.length_filter_le _ _) (fun e2 => ?_)
          have e3 := List.length_filter_eq_length_iff.1 e2 x k1
          simp [k2] at e3
        omega
  t := ht
  f := hf
theorem was_right {T : Tb} (h : TbOk T) {p : PI} (hp : toldB p = true) : okR (wasR p T.l) = true ∧ (wasR p T.l).p = p := by
  unfold wasR
  cases e : getR p T.l with
  | none => exact ⟨right_noR hp, rfl⟩
  | some r => exact ⟨(h.r r (getR_mem e).1).1, (getR_mem e).2⟩
theorem timely_iff {T : Tb} {now : Int} : timely T now = true ↔ 0 ≤ now ∧ now ≤ 4611686018426387904 ∧ T.now ≤ now := by
  unfold timely okNow
  rw [Bool.and_eq_true, withB_iff, decide_eq_true_eq]
  omega
theorem heard_ok {T : Tb} (h : TbOk T) (p : PI) (k : Hd) (now : Int) : TbOk (heardT T p k now).1 := by
  unfold heardT
  split
  · next e1 =>
    rw [Bool.and_eq_true] at e1
    split
    · next e2 =>
      rw [timely_iff] at e2
      have hf := h.f
      obtain ⟨w1, w2⟩ := was_right h e1.1
      have hr := right_hear h.c w1 e1.2 (now := now) (by rw [okNow, withB_iff]; omega)
      have hpp : (hearR T.c (wasR p T.l) k now).p = p := by rw [hear_p, w2]
      split
      · exact ⟨h.c, h.u, h.r, h.n, by show 0 ≤ now ∧ now ≤ _; omega, by show 0 ≤ min (T.rf + 1) 2147483647 ∧ min (T.rf + 1) 2147483647 ≤ 2147483647; omega⟩
      · next e3 =>
        refine h.set hr (fun h0 h1 => ?_) (by omega) hf
        unfold fullB at e3
        rw [hpp] at h1
        simp only [Bool.and_eq_true, decide_eq_true_eq] at e3
        have := mt (fun z => (⟨h1, h0, z⟩ : _ ∧ _ ∧ _)) e3
        omega
    · exact h
  · exact h
theorem TbOk.put {T : Tb} (h : TbOk T) {r x : Rt} (hx : x ∈ T.l) (hp : r.p = x.p) (hr : okR r = true) {now rf : Int} (ht : 0 ≤ now ∧ now ≤ 4611686018426387904) (hf : 0 ≤ rf ∧ rf ≤ 2147483647) : TbOk ⟨T.c, setR r T.l, now, rf⟩ :=
  h.set hr (fun _ h1 => by rw [hp, getR_some h.u hx] at h1; cases h1) ht hf
theorem getR_set_some {r x : Rt} {L : List Rt} (u : UpR L) (hr : r.s ≠ 0) {p : PI} (hx : getR p L = some x) : ∃ y, getR p (setR r L) = some y := by
  rw [getR_set r u, if_neg hr]
  split
  · exact ⟨_, rfl⟩
  · exact ⟨_, hx⟩
theorem loseG_ok {T : Tb} (h : TbOk T) (f now : Int) (ht : 0 ≤ now ∧ now ≤ 4611686018426387904) : ∀ (t : List Rt) (M : List Rt) (n : Int), (∀ x ∈ t, okR x = true ∧ ∃ y, getR x.p M = some y) → TbOk ⟨T.c, M, now, T.rf⟩ → TbOk ⟨T.c, (t.foldl (loseG T.c f now) (M, n)).1, now, T.rf⟩
  | [], M, n, _, hM => hM
  | x :: t, M, n, hx, hM => by
    rw [List.foldl_cons]
    obtain ⟨hr, y, hy⟩ := hx x List.mem_cons_self
    unfold loseG
    split
    · next e =>
      have hr2 := right_lose h.c hr (now := now) (by rw [okNow, withB_iff]; exact ht)
      have hs : (loseR T.c x now).s ≠ 0 := by unfold loseR; rw [if_pos e.1]; exact (by decide : (3 : Int) ≠ 0)
      refine loseG_ok h f now ht t _ _ (fun z hz => ⟨(hx z (List.mem_cons_of_mem _ hz)).1, ?_⟩) (hM.put (getR_mem hy).1 (by rw [lose_p, (getR_mem hy).2]) hr2 ht h.f)
      obtain ⟨_, v, hv⟩ := hx z (List.mem_cons_of_mem _ hz)
      exact getR_set_some hM.u hs hv
    · exact loseG_ok h f now ht t M n (fun z hz => hx z (List.mem_cons_of_mem _ hz)) hM
theorem lost_ok {T : Tb} (h : TbOk T) (f now : Int) : TbOk (lostT T f now).1 := by
  unfold lostT
  split
  · split
    · next e2 =>
      rw [timely_iff] at e2
      exact loseG_ok h f now (by omega) T.l T.l 0 (fun x hx => ⟨(h.r x hx).1, x, getR_some h.u hx⟩) ⟨h.c, h.u, h.r, h.n, by show 0 ≤ now ∧ now ≤ _; omega, h.f⟩
    · exact h
  · exact h
def dueN (now : Int) (r : Rt) : Nat := if r.d ≤ now then (if r.s = 2 then 2 else if 3 ≤ r.s then 1 else 0) else 0
def dueS (now : Int) (L : List Rt) : Nat := (L.map (dueN now)).sum
theorem dueS_perm {now : Int} {L M : List Rt} (h : L.Perm M) : dueS now L = dueS now M := (h.map _).sum_nat
theorem dueS_le (now : Int) (L : List Rt) : dueS now L ≤ 2 * L.length := by
  induction L with
  | nil => exact Nat.le_refl _
  | cons x t ih =>
    unfold dueS at ih ⊢
    rw [List.map_cons, List.sum_cons, List.length_cons]
    have : dueN now x ≤ 2 := by unfold dueN; split <;> (try split) <;> (try split) <;> omega
    omega
theorem perm_off {L : List Rt} (u : UpR L) {x : Rt} (hx : x ∈ L) : L.Perm (x :: offR x.p L) := by
  induction L with
  | nil => simp at hx
  | cons a t ih =>
    have h := List.pairwise_cons.1 u
    rcases List.mem_cons.1 hx with rfl | hx
    · have e : offR x.p (x :: t) = t := by
        unfold offR
        rw [List.filter_cons, if_neg (by simp)]
        exact List.filter_eq_self.2 (fun y hy => by simpa using (ltP_ne (h.1 y hy)).symm)
      rw [e]
    · have e : offR x.p (a :: t) = a :: offR x.p t := by
        unfold offR
        rw [List.filter_cons, if_pos (by simpa using ltP_ne (h.1 x hx))]
      rw [e]
      exact ((ih h.2 hx).cons a).trans (List.Perm.swap _ _ _)
theorem dueN_exp {c : Cf} {r : Rt} {now : Int} (hc : okCf c = true) (hr : okR r = true) (h2 : 2 ≤ r.s) (hd : r.d ≤ now) : dueN now (expR c r now) < dueN now r := by
  have ht := okCf_t hc 4 (by omega)
  simp only [leastS, Cf.t] at ht
  have hs := stateB_s ((okR_iff r).1 hr).2
  unfold expR
  rw [if_neg (by omega)]
  split
  · next e =>
    have e1 : dueN now r = 2 := by unfold dueN; rw [if_pos hd, if_pos e]
    have e2 : dueN now (lostR c r now) ≤ 1 := by unfold dueN lostR; split <;> simp
    omega
  · next e =>
    have e1 : dueN now r = 1 := by unfold dueN; rw [if_pos hd, if_neg e, if_pos (by omega)]
    split
    · have e2 : dueN now ⟨r.p, 4, r.m, 0, r.f, r.x, now + c.t4, r.c⟩ = 0 := by unfold dueN; rw [if_neg (by simp only; omega)]
      omega
    · have e2 : dueN now (noR r.p) = 0 := by unfold dueN noR; split <;> simp
      omega
theorem dueS_exp {c : Cf} {r : Rt} {L : List Rt} {now : Int} (u : UpR L) (hc : okCf c = true) (hx : r ∈ L) (hr : okR r = true) (h2 : 2 ≤ r.s) (hd : r.d ≤ now) : dueS now (setR (expR c r now) L) < dueS now L := by
  have e1 := dueS_perm (now := now) (perm_off u hx)
  have e2 := dueS_perm (now := now) (setR_perm (expR c r now) L)
  rw [exp_p] at e2
  have e3 := dueN_exp hc hr h2 hd
  rw [e1, e2]
  unfold dueS
  rw [List.map_cons, List.sum_cons, List.map_append, List.sum_append_nat]
  have : ((if (expR c r now).s = 0 then [] else [expR c r now]).map (dueN now)).sum ≤ dueN now (expR c r now) := by split <;> simp
  omega
theorem expG_ok {T : Tb} (h : TbOk T) (now : Int) (ht : 0 ≤ now ∧ now ≤ 4611686018426387904) : ∀ (k : Nat) (M : List Rt), TbOk ⟨T.c, M, now, T.rf⟩ → TbOk ⟨T.c, (expG T.c now k M).1, now, T.rf⟩
  | 0, M, hM => hM
  | k + 1, M, hM => by
    unfold expG
    split
    · exact hM
    · next r e =>
      split
      · exact hM
      · next hd =>
        obtain ⟨h1, h2, _⟩ := (firstR_ok hM.u).2 r e
        exact expG_ok h now ht k _ (hM.put h1 (exp_p _ _ _) (right_exp h.c (hM.r r h1).1 (by rw [okNow, withB_iff]; exact ht)) ht h.f)
theorem expG_more {c : Cf} {now : Int} (hc : okCf c = true) : ∀ (k j : Nat) (L : List Rt), UpR L → (∀ x ∈ L, okR x = true) → okNow now = true → dueS now L < k → dueS now L < j → expG c now k L = expG c now j L
  | 0, _, _, _, _, _, h, _ => absurd h (Nat.not_lt_zero _)
  | _, 0, _, _, _, _, _, h => absurd h (Nat.not_lt_zero _)
  | k + 1, j + 1, L, u, hr, hn, hk, hj => by
    unfold expG
    cases e : firstR L with
    | none => rfl
    | some r =>
      by_cases hd : now < r.d
      · simp only [hd, if_true]
      · obtain ⟨h1, h2, _⟩ := (firstR_ok u).2 r e
        have hlt := dueS_exp u hc h1 (hr r h1) h2 (now := now) (by omega)
        have ih := expG_more hc k j (setR (expR c r now) L) (setR_up _ u) (fun x hx => by
          rcases mem_setR.1 hx with ⟨rfl, _⟩ | ⟨hx, _⟩
          · exact right_exp hc (hr r h1) hn
          · exact hr x hx) hn (by omega) (by omega)
        simp only [hd, if_false, ih]
theorem exp_ok {T : Tb} (h : TbOk T) (now : Int) : TbOk (expT T now).1 := by
  unfold expT
  split
  · next e2 =>
    rw [timely_iff] at e2
    exact expG_ok h now (by omega) 1000 T.l ⟨h.c, h.u, h.r, h.n, by show 0 ≤ now ∧ now ≤ _; omega, h.f⟩
  · exact h
theorem seen_p (L : List Rt) : UpR (L.map seenR) ↔ UpR L := by
  unfold UpR
  rw [List.pairwise_map]
  exact Iff.rfl
theorem right_seen {r : Rt} (h : okR r = true) : okR (seenR r) = true := by
  rw [okR_iff] at h ⊢
  refine ⟨h.1, ?_⟩
  by_cases e : r.s = 0
  · have h2 : (if r.s = 0 then hasB r 0 0 && (nowB r && !r.c) else _) = true := h.2
    rw [if_pos e] at h2
    show (if r.s = 0 then hasB r 0 0 && (nowB r && !false) else _) = true
    rw [if_pos e]
    simp only [Bool.and_eq_true] at h2 ⊢
    exact ⟨h2.1, h2.2.1, rfl⟩
  · have h2 := h.2
    unfold stateB at h2
    rw [if_neg e] at h2
    show (if r.s = 0 then hasB r 0 0 && (nowB r && !false) else _) = true
    rw [if_neg e]
    exact h2
theorem seen_ok {T : Tb} (h : TbOk T) : TbOk (seenT T).1 where
  c := h.c
  u := (seen_p _).2 h.u
  r := fun x hx => by
    obtain ⟨y, hy, rfl⟩ := List.mem_map.1 hx
    exact ⟨right_seen (h.r y hy).1, (h.r y hy).2⟩
  n := by show ((T.l.map seenR).length : Int) ≤ _; rw [List.length_map]; exact h.n
  t := h.t
  f := h.f
theorem putAll_own : ∀ (l : List PI) (L : List Rt), UpR L → UpR (putAll (l.map ownR) L) ∧ (∀ x, x ∈ putAll (l.map ownR) L ↔ (∃ p ∈ l, x = ownR p) ∨ (x ∈ L ∧ x.p ∉ l)) ∧ (putAll (l.map ownR) L).length ≤ l.length + L.length
  | [], L, u => ⟨u, fun x => by simp [putAll], by simp [putAll]⟩
  | p :: l, L, u => by
    obtain ⟨h1, h2, h3⟩ := putAll_own l (setR (ownR p) L) (setR_up _ u)
    have e : putAll ((p :: l).map ownR) L = putAll (l.map ownR) (setR (ownR p) L) := rfl
    rw [e]
    refine ⟨h1, fun x => ?_, ?_⟩
    · rw [h2 x, mem_setR]
      have e0 : (ownR p).p = p := rfl
      have e1 : (ownR p).s ≠ 0 := (by decide : (1 : Int) ≠ 0)
      rw [e0]
      constructor
      · rintro (⟨q, hq, rfl⟩ | ⟨⟨rfl, _⟩ | ⟨hx, hxp⟩, hn⟩)
        · exact .inl ⟨q, List.mem_cons_of_mem _ hq, rfl⟩
        · exact .inl ⟨p, List.mem_cons_self, rfl⟩
        · exact .inr ⟨hx, fun h => by rcases List.mem_cons.1 h with h | h <;> first | exact hxp h | exact hn h⟩
      · rintro (⟨q, hq, rfl⟩ | ⟨hx, hn⟩)
        · rcases List.mem_cons.1 hq with rfl | hq
          · by_cases hm : q ∈ l
            · exact .inl ⟨q, hm, rfl⟩
            · exact .inr ⟨.inl ⟨rfl, e1⟩, hm⟩
          · exact .inl ⟨q, hq, rfl⟩
        · exact .inr ⟨.inr ⟨hx, fun h => hn (by rw [h]; exact List.mem_cons_self)⟩, fun h => hn (List.mem_cons_of_mem _ h)⟩
    · have hl := (setR_perm (ownR p) L).length_eq
      rw [List.length_append, if_neg (show ¬ (ownR p).s = 0 from (by decide : ¬ (1 : Int) = 0))] at hl
      have ho : (offR (ownR p).p L).length ≤ L.length := List.length_filter_le _ _
      simp only [List.length_cons, List.length_nil] at hl ⊢
      omega
theorem new_ok {c : Cf} (h : okCf c = true) : TbOk (newT c) := by
  obtain ⟨h1, h2, h3⟩ := putAll_own c.own [] List.Pairwise.nil
  obtain ⟨g1, g2, g3, g4, g5, g6⟩ := okCf_cap h
  refine ⟨h, h1, fun x hx => ?_, ?_, by show (0 : Int) ≤ 0 ∧ (0 : Int) ≤ _; omega, by show (0 : Int) ≤ 0 ∧ (0 : Int) ≤ _; omega⟩
  · rcases (h2 x).1 hx with ⟨p, hp, rfl⟩ | ⟨hx, _⟩
    · exact ⟨right_own (g5 p hp), (by decide : (1 : Int) ≠ 0)⟩
    · simp at hx
  · show ((putAll (c.own.map ownR) []).length : Int) ≤ c.cap
    simp only [List.length_nil] at h3
    omega
end Go.Proofs.YtffckpkikdlbpaaGreatDoor

namespace Go.Proofs.YtffckpkikdlbpaaGreatDoor
open Go.RowKit
def roC (r : Rt) : Array Value := #[.int .u32 (r.p.a : Int), .int .i64 r.p.l, .int .i64 r.s, .int .i64 r.m, .int .i64 r.l, .int .i64 r.f, .int .u32 (r.x : Int), .int .i64 r.d, .bool r.c]
abbrev roV (r : Rt) : Value := .agg #[.int .u32 (r.p.a : Int), .int .i64 r.p.l, .int .i64 r.s, .int .i64 r.m, .int .i64 r.l, .int .i64 r.f, .int .u32 (r.x : Int), .int .i64 r.d, .bool r.c]
def roSet (w : World) (g : Nat) (r : Rt) : World := (((((((((w.setCell ⟨g, 0, none⟩ (.int .u32 (r.p.a : Int))).setCell ⟨g, 1, none⟩ (.int .i64 r.p.l)).setCell ⟨g, 2, none⟩ (.int .i64 r.s)).setCell ⟨g, 3, none⟩ (.int .i64 r.m)).setCell ⟨g, 4, none⟩ (.int .i64 r.l)).setCell ⟨g, 5, none⟩ (.int .i64 r.f)).setCell ⟨g, 6, none⟩ (.int .u32 (r.x : Int))).setCell ⟨g, 7, none⟩ (.int .i64 r.d)).setCell ⟨g, 8, none⟩ (.bool r.c))
theorem Blk.putRo {w : World} {g : Nat} {T : TypeId} {v0 v1 v2 v3 v4 v5 v6 v7 v8 : Value} (h : Blk w g T #[v0, v1, v2, v3, v4, v5, v6, v7, v8]) (r : Rt) : Blk (roSet w g r) g T (roC r) := by
  have H := (((((((((h.set_ 0 (.int .u32 (r.p.a : Int))).set_ 1 (.int .i64 r.p.l)).set_ 2 (.int .i64 r.s)).set_ 3 (.int .i64 r.m)).set_ 4 (.int .i64 r.l)).set_ 5 (.int .i64 r.f)).set_ 6 (.int .u32 (r.x : Int))).set_ 7 (.int .i64 r.d)).set_ 8 (.bool r.c))
  simp only [List.setIfInBounds_toArray, List.set_cons_zero, List.set_cons_succ] at H
  exact H
theorem Blk.putRo_far {w : World} {g p : Nat} {T : TypeId} {cs : Array Value} (h : Blk w g T cs) (hg : g ≠ p) (r : Rt) : Blk (roSet w p r) g T cs := (((((((((h.far (p := ⟨p, 0, none⟩) hg (.int .u32 (r.p.a : Int))).far (p := ⟨p, 1, none⟩) hg (.int .i64 r.p.l)).far (p := ⟨p, 2, none⟩) hg (.int .i64 r.s)).far (p := ⟨p, 3, none⟩) hg (.int .i64 r.m)).far (p := ⟨p, 4, none⟩) hg (.int .i64 r.l)).far (p := ⟨p, 5, none⟩) hg (.int .i64 r.f)).far (p := ⟨p, 6, none⟩) hg (.int .u32 (r.x : Int))).far (p := ⟨p, 7, none⟩) hg (.int .i64 r.d)).far (p := ⟨p, 8, none⟩) hg (.bool r.c))
theorem Only.putRo {bs : List Nat} {a w : World} (h : Only bs a w) {g : Nat} (hg : g ∈ bs ∨ a.heap.size ≤ g) (r : Rt) : Only bs a (roSet w g r) := (((((((((h.setCell (p := ⟨g, 0, none⟩) hg (.int .u32 (r.p.a : Int))).setCell (p := ⟨g, 1, none⟩) hg (.int .i64 r.p.l)).setCell (p := ⟨g, 2, none⟩) hg (.int .i64 r.s)).setCell (p := ⟨g, 3, none⟩) hg (.int .i64 r.m)).setCell (p := ⟨g, 4, none⟩) hg (.int .i64 r.l)).setCell (p := ⟨g, 5, none⟩) hg (.int .i64 r.f)).setCell (p := ⟨g, 6, none⟩) hg (.int .u32 (r.x : Int))).setCell (p := ⟨g, 7, none⟩) hg (.int .i64 r.d)).setCell (p := ⟨g, 8, none⟩) hg (.bool r.c))
theorem Kp.putRo {a w : World} (h : Kp a w) {g : Nat} (hg : a.heap.size ≤ g) (r : Rt) : Kp a (roSet w g r) := (((((((((h.setCell (p := ⟨g, 0, none⟩) hg (.int .u32 (r.p.a : Int))).setCell (p := ⟨g, 1, none⟩) hg (.int .i64 r.p.l)).setCell (p := ⟨g, 2, none⟩) hg (.int .i64 r.s)).setCell (p := ⟨g, 3, none⟩) hg (.int .i64 r.m)).setCell (p := ⟨g, 4, none⟩) hg (.int .i64 r.l)).setCell (p := ⟨g, 5, none⟩) hg (.int .i64 r.f)).setCell (p := ⟨g, 6, none⟩) hg (.int .u32 (r.x : Int))).setCell (p := ⟨g, 7, none⟩) hg (.int .i64 r.d)).setCell (p := ⟨g, 8, none⟩) hg (.bool r.c))
theorem ro_cells {w : World} {g : Nat} {T : TypeId} {r : Rt} (h : Blk w g T (roC r)) : w.cell? ⟨g, 0, none⟩ = some (.int .u32 (r.p.a : Int)) ∧ w.cell? ⟨g, 1, none⟩ = some (.int .i64 r.p.l) ∧ w.cell? ⟨g, 2, none⟩ = some (.int .i64 r.s) ∧ w.cell? ⟨g, 3, none⟩ = some (.int .i64 r.m) ∧ w.cell? ⟨g, 4, none⟩ = some (.int .i64 r.l) ∧ w.cell? ⟨g, 5, none⟩ = some (.int .i64 r.f) ∧ w.cell? ⟨g, 6, none⟩ = some (.int .u32 (r.x : Int)) ∧ w.cell? ⟨g, 7, none⟩ = some (.int .i64 r.d) ∧ w.cell? ⟨g, 8, none⟩ = some (.bool r.c) := ⟨h.cell 0, h.cell 1, h.cell 2, h.cell 3, h.cell 4, h.cell 5, h.cell 6, h.cell 7, h.cell 8⟩
def zero9 : Array Value := #[.int .u32 0, .int .i64 0, .int .i64 0, .int .i64 0, .int .i64 0, .int .i64 0, .int .u32 0, .int .i64 0, .bool false]
theorem state_own (p : PI) : checkR (ownR p) = if toldB p then 0 else 2 := by
  show (if stateB (ownR p) && toldB p then (0 : Int) else 2) = _
  rw [show stateB (ownR p) = true from rfl, Bool.true_and]
def ROwnP (p : PI) (w : World) (e : Ending) (w' : World) : Prop := e = .returned (.tuple #[roV (if toldB p then ownR p else zeroR), .int .i64 (if toldB p then 0 else 2)]) ∧ Kp w w'
set_option maxRecDepth 100000 in
set_option maxHeartbeats 1000000 in
theorem rown_any (p : PI) (w : World) (ha : p.a < 4294967296) : Calls Tryz.prog 54 #[.agg #[.int .u32 (p.a : Int), .int .i64 p.l]] w (ROwnP p w) := by
  obtain ⟨b, hb⟩ : ∃ b, w.heap.size = b := ⟨_, rfl⟩
  obtain ⟨W, hW, kW, B0, B1, B2⟩ : ∃ W, ((w.alloc (.cells #[.int .u32 (p.a : Int), .int .i64 p.l] 29)).alloc (.cells zero9 48)).alloc (.cells (roC (ownR p)) 48) = W ∧ Kp w W ∧ Blk W b 29 #[.int .u32 (p.a : Int), .int .i64 p.l] ∧ Blk W (b + 1) 48 zero9 ∧ Blk W (b + 1 + 1) 48 (roC (ownR p)) := ⟨_, rfl, (((Kp.refl _).alloc _).alloc _).alloc _, by rw [← hb]; exact ((Blk.new w _ _).alloc _).alloc _, by rw [← hb]; exact (Blk.new1 w _ _ _).alloc _, by rw [← hb]; exact Blk.new2 w _ _ _ _⟩
  have hchk := state_own p
  obtain ⟨p0, p1, p2, p3, p4, p5, p6, p7, p8⟩ := ro_cells B2
  simp only [ownR, zero9, roC] at hW p0 p1 p2 p3 p4 p5 p6 p7 p8
  rw [show ((0 : Nat) : Int) = 0 from rfl] at hW p6
  have hbw := B2.lt
  go_enter Tryz.func54, Tryz.ntmps54
  go_wp2_with fail
  clear hW p0 p1 p2 p3 p4 p5 p6 p7 p8
  refine (checkR_any (ownR p) _ ha (by decide : 0 < 4294967296)).mono ?_
  rintro e w1 ⟨rfl, K1⟩
  have B3 := B1.keep K1
  have B4 := B2.keep K1
  have k1 := kW.trans K1
  have hlt := B4.lt
  clear B0 B1 B2 K1
  have p0 : w1.cell? ⟨b + 1 + 1, 0, none⟩ = some (.int .u32 (p.a : Int)) := B4.cell 0
  have p1 : w1.cell? ⟨b + 1 + 1, 1, none⟩ = some (.int .i64 p.l) := B4.cell 1
  have p2 : w1.cell? ⟨b + 1 + 1, 2, none⟩ = some (.int .i64 1) := B4.cell 2
  have p3 : w1.cell? ⟨b + 1 + 1, 3, none⟩ = some (.int .i64 1) := B4.cell 3
  have p4 : w1.cell? ⟨b + 1 + 1, 4, none⟩ = some (.int .i64 0) := B4.cell 4
  have p5 : w1.cell? ⟨b + 1 + 1, 5, none⟩ = some (.int .i64 0) := B4.cell 5
  have p6 : w1.cell? ⟨b + 1 + 1, 6, none⟩ = some (.int .u32 0) := B4.cell 6
  have p7 : w1.cell? ⟨b + 1 + 1, 7, none⟩ = some (.int .i64 0) := B4.cell 7
  have p8 : w1.cell? ⟨b + 1 + 1, 8, none⟩ = some (.bool true) := B4.cell 8
  have q0 : w1.cell? ⟨b + 1, 0, none⟩ = some (.int .u32 0) := B3.cell 0
  have q1 : w1.cell? ⟨b + 1, 1, none⟩ = some (.int .i64 0) := B3.cell 1
  have q2 : w1.cell? ⟨b + 1, 2, none⟩ = some (.int .i64 0) := B3.cell 2
  have q3 : w1.cell? ⟨b + 1, 3, none⟩ = some (.int .i64 0) := B3.cell 3
  have q4 : w1.cell? ⟨b + 1, 4, none⟩ = some (.int .i64 0) := B3.cell 4
  have q5 : w1.cell? ⟨b + 1, 5, none⟩ = some (.int .i64 0) := B3.cell 5
  have q6 : w1.cell? ⟨b + 1, 6, none⟩ = some (.int .u32 0) := B3.cell 6
  have q7 : w1.cell? ⟨b + 1, 7, none⟩ = some (.int .i64 0) := B3.cell 7
  have q8 : w1.cell? ⟨b + 1, 8, none⟩ = some (.bool false) := B3.cell 8
  have z0 := B3.frozen 0
  have z1 := B3.frozen 1
  have z2 := B3.frozen 2
  have z3 := B3.frozen 3
  have z4 := B3.frozen 4
  have z5 := B3.frozen 5
  have z6 := B3.frozen 6
  have z7 := B3.frozen 7
  have z8 := B3.frozen 8
  cases ht : toldB p with
  | true =>
    rw [ht] at hchk
    rw [hchk]
    simp only [if_true]
    go_wp2_with fail
    obtain ⟨W3, hW3, B6, k3⟩ : ∃ W3, roSet w1 (b + 1) (ownR p) = W3 ∧ Blk W3 (b + 1) 48 (roC (ownR p)) ∧ Kp w W3 := ⟨_, rfl, B3.putRo _, k1.putRo (by omega) _⟩
    simp only [roSet, ownR] at hW3
    rw [show ((0 : Nat) : Int) = 0 from rfl] at hW3
    rw [hW3]
    clear hW3 p0 p1 p2 p3 p4 p5 p6 p7 p8 q0 q1 q2 q3 q4 q5 q6 q7 q8 z0 z1 z2 z3 z4 z5 z6 z7 z8
    obtain ⟨y0, y1, y2, y3, y4, y5, y6, y7, y8⟩ := ro_cells B6
    exact ⟨rfl, .tuple #[roV (ownR p), .int .i64 0], by simp [results, Tryz.results54, go_sem, y0, y1, y2, y3, y4, y5, y6, y7, y8], by rw [ht]; rfl, k3⟩
  | false =>
    rw [ht] at hchk
    rw [hchk]
    simp only [Bool.false_eq_true, if_false]
    go_wp2_with fail
    obtain ⟨W3, hW3, B6, k3⟩ : ∃ W3, roSet w1 (b + 1) zeroR = W3 ∧ Blk W3 (b + 1) 48 (roC zeroR) ∧ Kp w W3 := ⟨_, rfl, B3.putRo _, k1.putRo (by omega) _⟩
    simp only [roSet, zeroR, noR] at hW3
    rw [show ((0 : Nat) : Int) = 0 from rfl] at hW3
    rw [hW3]
    clear hW3 p0 p1 p2 p3 p4 p5 p6 p7 p8 q0 q1 q2 q3 q4 q5 q6 q7 q8 z0 z1 z2 z3 z4 z5 z6 z7 z8
    obtain ⟨y0, y1, y2, y3, y4, y5, y6, y7, y8⟩ := ro_cells B6
    exact ⟨rfl, .tuple #[roV zeroR, .int .i64 2], by simp [results, Tryz.results54, go_sem, y0, y1, y2, y3, y4, y5, y6, y7, y8], by rw [ht]; rfl, k3⟩
end Go.Proofs.YtffckpkikdlbpaaGreatDoor
