/- Lemmas and contracts for the theorem of this claim: RbO, RbP, TwN, RhL. -/
import Derived.Test.YtgopnfacklmkaaaGreatDoorZzAp
set_option linter.all false
set_option maxHeartbeats 16000000
namespace Go.Proofs.YtgopnfacklmkaaaGreatDoor
section
open Go.RowKit Go.Maps
set_option maxRecDepth 100000 in
theorem vcy (p : PI) (w : World) : Calls Tryz.prog 175 #[pfV p] w fun e w' => e = .returned (.agg #[.int .i64 3, .int .u32 (p.a : Int), .int .i64 p.l]) ∧ Kp w w' := by
 obtain ⟨b, hb⟩ : ∃ b, w.heap.size = b := ⟨_, rfl⟩
 obtain ⟨W, hW, kW, B0, B1⟩ := Blk.al2 hb #[.int .u32 (p.a : Int), .int .i64 p.l] 39 #[.int .i64 0, .int .u32 0, .int .i64 0] 252
 have p0 := Blk.f B0 rfl
 obtain ⟨q0, q1, q2⟩ := Blk.v3 B1 (.int .i64 0) (.int .u32 0) (.int .i64 0) rfl
 have z0 := Blk.frozen B1
 have hlt := B1.lt
 obtain ⟨R, hR, BR, kR⟩ : ∃ R, ((W.setCell ⟨b + 1, 0, none⟩ (.int .i64 3)).setCell ⟨b + 1, 1, none⟩ (.int .u32 (p.a : Int))).setCell ⟨b + 1, 2, none⟩ (.int .i64 p.l) = R ∧ Blk R (b + 1) 252 #[.int .i64 3, .int .u32 (p.a : Int), .int .i64 p.l] ∧ Kp w R :=
  ⟨_, rfl, by have H := ((B1.set_ 0 (.int .i64 3)).set_ 1 (.int .u32 (p.a : Int))).set_ 2 (.int .i64 p.l); simp only [List.setIfInBounds_toArray, List.set_cons_zero, List.set_cons_succ] at H; exact H, ((kW.setCell (p := ⟨b + 1, 0, none⟩) (by show w.heap.size ≤ b + 1; omega) _).setCell (p := ⟨b + 1, 1, none⟩) (by show w.heap.size ≤ b + 1; omega) _).setCell (p := ⟨b + 1, 2, none⟩) (by show w.heap.size ≤ b + 1; omega) _⟩
 obtain ⟨u0, u1, u2⟩ := Blk.v3 BR (.int .i64 3) (.int .u32 (p.a : Int)) (.int .i64 p.l) rfl
 go_enter Tryz.func175, Tryz.ntmps175
 go_wp2_with fail
 exact ⟨rfl, .agg #[.int .i64 3, .int .u32 (p.a : Int), .int .i64 p.l], by simp [results, Tryz.results175, go_sem, u0, u1, u2], rfl, kR⟩
def SetP (w : World) (B q : Nat) (F : List Nat) (l : List Tw) (r : Rt) (e : Ending) (w' : World) : Prop := e = .returned (.tuple #[]) ∧ ∃ l', l'.Perm ((if 2 ≤ r.s then [twR r] else []) ++ offP r.p l) ∧ QT w w' B q F l'
set_option maxRecDepth 100000 in
theorem set_2 (B q : Nat) (F : List Nat) (l : List Tw) (r : Rt) (w : World) (S : QuS w B q F l) (ha : r.p.a < 4294967296) (hwl : wfI r.p.l ∧ checkP r.p = 0 ∧ 0 ≤ r.d ∧ r.d ≤ 4611686018427387904) (hl : l.length ≤ 900000) (h2 : 2 ≤ r.s) (e2 : (r.s == 2) = true) :
  Calls Tryz.prog 119 #[.agg #[.pointer (some ⟨q, 0, none⟩)], roV r] w (SetP w B q F l r) := by
 obtain ⟨b, hb⟩ : ∃ b, w.heap.size = b := ⟨_, rfl⟩
 obtain ⟨W, hW, kW, B0, B1⟩ := Blk.al2 hb #[.pointer (some ⟨q, 0, none⟩)] 121 (roC r) 52
 unfold roC at hW
 have c0 : W.cell? ⟨b, 0, none⟩ = some (.pointer (some ⟨q, 0, none⟩)) := B0.cell 0
 obtain ⟨p0, p1, p2, -, -, -, -, p7⟩ := Blk.p8 B1
 have HS := Lib.hid (S.keep kW)
 have K : Kp W W.drew := (Kp.refl W).drew
 have hfin : ∀ wv l', l'.Perm ((⟨3, r.p, r.d⟩ : Tw) :: offP r.p l) → ∀ W', Kp w W' → QT W' wv B q F l' → SetP w B q F l r (.returned (.tuple #[])) wv := fun wv l' hp W' k ⟨F', h1, h2, h3⟩ =>
  ⟨rfl, l', by rw [if_pos ‹2 ≤ r.s›]; exact hp, F', h1, (Only.of_kp k).trans h2, fun x hx => (h3 x hx).imp id (fun z => Nat.le_trans k.size z)⟩
 have HF := Lib.hid hfin
 have hbF : b ∉ F := fun h => by have := (S.lo b h).2; omega
 have hbF1 : b + 1 ∉ F := fun h => by have := (S.lo (b + 1) h).2; omega
 clear hfin h2 S
 go_enter Tryz.func119, Tryz.ntmps119
 go_wp2_with fail
 try clear hW
 go_region_held3 (fun w' => w'.cell? ⟨b, 0, none⟩ = some (.pointer (some ⟨q, 0, none⟩)) ∧ w'.cell? ⟨b + 1, 0, none⟩ = some (.int .u32 (r.p.a : Int)) ∧ w'.cell? ⟨b + 1, 1, none⟩ = some (.int .i64 r.p.l) ∧ w'.cell? ⟨b + 1, 7, none⟩ = some (.int .i64 r.d))
  (first | exact ⟨BA.cell 0, BB.cell 0, BB.cell 1, BB.cell 7⟩ | exact ⟨K.cell c0, K.cell p0, K.cell p1, K.cell p7⟩ | go_keep)
  (first
   | (go_at_call 175; refine (vcy r.p _).mono ?_; rintro e wv ⟨rfl, hKv⟩; have K := K.trans hKv; clear hKv)
   | (go_at_call 174; refine (vjz B q F l r.p r.d _ (HS.out.keep K) ha hwl.1 hwl.2.1 hwl.2.2.1 hwl.2.2.2 hl).mono ?_; rintro e wv ⟨⟨v, rfl⟩, l', hp, hQ⟩; have BA := (B0.keep K).only hQ.choose_spec.2.1 hbF; have BB := (B1.keep K).only hQ.choose_spec.2.1 hbF1))
 all_goals (try go_wp2_with fail)
 all_goals go_end0
 all_goals exact HF.out _ _ hp _ (kW.trans K) hQ
set_option maxRecDepth 100000 in
theorem set_3 (B q : Nat) (F : List Nat) (l : List Tw) (r : Rt) (w : World) (S : QuS w B q F l) (ha : r.p.a < 4294967296) (hwl : wfI r.p.l ∧ checkP r.p = 0 ∧ 0 ≤ r.d ∧ r.d ≤ 4611686018427387904) (hl : l.length ≤ 900000) (h2 : 2 ≤ r.s) (e2 : (r.s == 2) = false) (e3 : (r.s == 3) = true) :
  Calls Tryz.prog 119 #[.agg #[.pointer (some ⟨q, 0, none⟩)], roV r] w (SetP w B q F l r) := by
 obtain ⟨b, hb⟩ : ∃ b, w.heap.size = b := ⟨_, rfl⟩
 obtain ⟨W, hW, kW, B0, B1⟩ := Blk.al2 hb #[.pointer (some ⟨q, 0, none⟩)] 121 (roC r) 52
 unfold roC at hW
 have c0 : W.cell? ⟨b, 0, none⟩ = some (.pointer (some ⟨q, 0, none⟩)) := B0.cell 0
 obtain ⟨p0, p1, p2, -, -, -, -, p7⟩ := Blk.p8 B1
 have HS := Lib.hid (S.keep kW)
 have K : Kp W W.drew := (Kp.refl W).drew
 have hfin : ∀ wv l', l'.Perm ((⟨3, r.p, r.d⟩ : Tw) :: offP r.p l) → ∀ W', Kp w W' → QT W' wv B q F l' → SetP w B q F l r (.returned (.tuple #[])) wv := fun wv l' hp W' k ⟨F', h1, h2, h3⟩ =>
  ⟨rfl, l', by rw [if_pos ‹2 ≤ r.s›]; exact hp, F', h1, (Only.of_kp k).trans h2, fun x hx => (h3 x hx).imp id (fun z => Nat.le_trans k.size z)⟩
 have HF := Lib.hid hfin
 have hbF : b ∉ F := fun h => by have := (S.lo b h).2; omega
 have hbF1 : b + 1 ∉ F := fun h => by have := (S.lo (b + 1) h).2; omega
 clear hfin h2 S
 go_enter Tryz.func119, Tryz.ntmps119
 go_wp2_with fail
 try clear hW
 go_region_held3 (fun w' => w'.cell? ⟨b, 0, none⟩ = some (.pointer (some ⟨q, 0, none⟩)) ∧ w'.cell? ⟨b + 1, 0, none⟩ = some (.int .u32 (r.p.a : Int)) ∧ w'.cell? ⟨b + 1, 1, none⟩ = some (.int .i64 r.p.l) ∧ w'.cell? ⟨b + 1, 7, none⟩ = some (.int .i64 r.d))
  (first | exact ⟨BA.cell 0, BB.cell 0, BB.cell 1, BB.cell 7⟩ | exact ⟨K.cell c0, K.cell p0, K.cell p1, K.cell p7⟩ | go_keep)
  (first
   | (go_at_call 175; refine (vcy r.p _).mono ?_; rintro e wv ⟨rfl, hKv⟩; have K := K.trans hKv; clear hKv)
   | (go_at_call 174; refine (vjz B q F l r.p r.d _ (HS.out.keep K) ha hwl.1 hwl.2.1 hwl.2.2.1 hwl.2.2.2 hl).mono ?_; rintro e wv ⟨⟨v, rfl⟩, l', hp, hQ⟩; have BA := (B0.keep K).only hQ.choose_spec.2.1 hbF; have BB := (B1.keep K).only hQ.choose_spec.2.1 hbF1))
 all_goals (try go_wp2_with fail)
 all_goals go_end0
 all_goals exact HF.out _ _ hp _ (kW.trans K) hQ
set_option maxRecDepth 100000 in
theorem set_4 (B q : Nat) (F : List Nat) (l : List Tw) (r : Rt) (w : World) (S : QuS w B q F l) (ha : r.p.a < 4294967296) (hwl : wfI r.p.l ∧ checkP r.p = 0 ∧ 0 ≤ r.d ∧ r.d ≤ 4611686018427387904) (hl : l.length ≤ 900000) (h2 : 2 ≤ r.s) (e2 : (r.s == 2) = false) (e3 : (r.s == 3) = false) (e4 : (r.s == 4) = true) :
  Calls Tryz.prog 119 #[.agg #[.pointer (some ⟨q, 0, none⟩)], roV r] w (SetP w B q F l r) := by
 obtain ⟨b, hb⟩ : ∃ b, w.heap.size = b := ⟨_, rfl⟩
 obtain ⟨W, hW, kW, B0, B1⟩ := Blk.al2 hb #[.pointer (some ⟨q, 0, none⟩)] 121 (roC r) 52
 unfold roC at hW
 have c0 : W.cell? ⟨b, 0, none⟩ = some (.pointer (some ⟨q, 0, none⟩)) := B0.cell 0
 obtain ⟨p0, p1, p2, -, -, -, -, p7⟩ := Blk.p8 B1
 have HS := Lib.hid (S.keep kW)
 have K : Kp W W.drew := (Kp.refl W).drew
 have hfin : ∀ wv l', l'.Perm ((⟨3, r.p, r.d⟩ : Tw) :: offP r.p l) → ∀ W', Kp w W' → QT W' wv B q F l' → SetP w B q F l r (.returned (.tuple #[])) wv := fun wv l' hp W' k ⟨F', h1, h2, h3⟩ =>
  ⟨rfl, l', by rw [if_pos ‹2 ≤ r.s›]; exact hp, F', h1, (Only.of_kp k).trans h2, fun x hx => (h3 x hx).imp id (fun z => Nat.le_trans k.size z)⟩
 have HF := Lib.hid hfin
 have hbF : b ∉ F := fun h => by have := (S.lo b h).2; omega
 have hbF1 : b + 1 ∉ F := fun h => by have := (S.lo (b + 1) h).2; omega
 clear hfin h2 S
 go_enter Tryz.func119, Tryz.ntmps119
 go_wp2_with fail
 try clear hW
 go_region_held3 (fun w' => w'.cell? ⟨b, 0, none⟩ = some (.pointer (some ⟨q, 0, none⟩)) ∧ w'.cell? ⟨b + 1, 0, none⟩ = some (.int .u32 (r.p.a : Int)) ∧ w'.cell? ⟨b + 1, 1, none⟩ = some (.int .i64 r.p.l) ∧ w'.cell? ⟨b + 1, 7, none⟩ = some (.int .i64 r.d))
  (first | exact ⟨BA.cell 0, BB.cell 0, BB.cell 1, BB.cell 7⟩ | exact ⟨K.cell c0, K.cell p0, K.cell p1, K.cell p7⟩ | go_keep)
  (first
   | (go_at_call 175; refine (vcy r.p _).mono ?_; rintro e wv ⟨rfl, hKv⟩; have K := K.trans hKv; clear hKv)
   | (go_at_call 174; refine (vjz B q F l r.p r.d _ (HS.out.keep K) ha hwl.1 hwl.2.1 hwl.2.2.1 hwl.2.2.2 hl).mono ?_; rintro e wv ⟨⟨v, rfl⟩, l', hp, hQ⟩; have BA := (B0.keep K).only hQ.choose_spec.2.1 hbF; have BB := (B1.keep K).only hQ.choose_spec.2.1 hbF1))
 all_goals (try go_wp2_with fail)
 all_goals go_end0
 all_goals exact HF.out _ _ hp _ (kW.trans K) hQ
set_option maxRecDepth 100000 in
theorem set_0 (B q : Nat) (F : List Nat) (l : List Tw) (r : Rt) (w : World) (S : QuS w B q F l) (ha : r.p.a < 4294967296) (hwl : wfI r.p.l ∧ checkP r.p = 0) (hl : l.length ≤ 900000) (h2 : ¬ 2 ≤ r.s) (e2 : (r.s == 2) = false) (e3 : (r.s == 3) = false) (e4 : (r.s == 4) = false) :
  Calls Tryz.prog 119 #[.agg #[.pointer (some ⟨q, 0, none⟩)], roV r] w (SetP w B q F l r) := by
 obtain ⟨b, hb⟩ : ∃ b, w.heap.size = b := ⟨_, rfl⟩
 obtain ⟨W, hW, kW, B0, B1⟩ := Blk.al2 hb #[.pointer (some ⟨q, 0, none⟩)] 121 (roC r) 52
 unfold roC at hW
 have c0 : W.cell? ⟨b, 0, none⟩ = some (.pointer (some ⟨q, 0, none⟩)) := B0.cell 0
 obtain ⟨p0, p1, p2, -, -, -, -, p7⟩ := Blk.p8 B1
 have HS := Lib.hid (S.keep kW)
 have K : Kp W W.drew := (Kp.refl W).drew
 have hfin : ∀ wv l', l'.Perm (offP r.p l) → ∀ W', Kp w W' → QT W' wv B q F l' → SetP w B q F l r (.returned (.tuple #[])) wv := fun wv l' hp W' k ⟨F', h1, h2, h3⟩ =>
  ⟨rfl, l', by rw [if_neg ‹¬ 2 ≤ r.s›]; exact hp, F', h1, (Only.of_kp k).trans h2, fun x hx => (h3 x hx).imp id (fun z => Nat.le_trans k.size z)⟩
 have HF := Lib.hid hfin
 have hbF : b ∉ F := fun h => by have := (S.lo b h).2; omega
 have hbF1 : b + 1 ∉ F := fun h => by have := (S.lo (b + 1) h).2; omega
 clear hfin h2 S
 go_enter Tryz.func119, Tryz.ntmps119
 go_wp2_with fail
 try clear hW
 go_region_held3 (fun w' => w'.cell? ⟨b, 0, none⟩ = some (.pointer (some ⟨q, 0, none⟩)) ∧ w'.cell? ⟨b + 1, 0, none⟩ = some (.int .u32 (r.p.a : Int)) ∧ w'.cell? ⟨b + 1, 1, none⟩ = some (.int .i64 r.p.l))
  (first | exact ⟨BA.cell 0, BB.cell 0, BB.cell 1⟩ | exact ⟨K.cell c0, K.cell p0, K.cell p1⟩ | go_keep)
  (first
   | (go_at_call 175; refine (vcy r.p _).mono ?_; rintro e wv ⟨rfl, hKv⟩; have K := K.trans hKv; clear hKv)
   | (go_at_call 176; refine (vjA B q F l r.p _ (HS.out.keep K) ha hwl.1 hwl.2 hl).mono ?_; rintro e wv ⟨⟨v, rfl⟩, l', hp, hQ⟩; have BA := (B0.keep K).only hQ.choose_spec.2.1 hbF; have BB := (B1.keep K).only hQ.choose_spec.2.1 hbF1))
 all_goals (try go_wp2_with fail)
 all_goals go_end0
 all_goals exact HF.out _ _ hp _ (kW.trans K) hQ
theorem vjC (B q : Nat) (F : List Nat) (l : List Tw) (r : Rt) (w : World) (S : QuS w B q F l) (hr : okR r = true) (ha : r.p.a < 4294967296) (hl : l.length ≤ 900000) :
  Calls Tryz.prog 119 #[.agg #[.pointer (some ⟨q, 0, none⟩)], roV r] w (SetP w B q F l r) := by
 have hr' := (vaq r).1 hr
 have hc := vnN hr'.1
 have hw : wfI r.p.l := by
  have h1 := hr'.1
  unfold toldB PI.okB at h1
  simp only [Bool.and_eq_true, decide_eq_true_eq] at h1
  exact ⟨by omega, by omega⟩
 rcases vbh hr'.2 with hs | hs | hs | hs | hs
 ·exact set_0 B q F l r w S ha ⟨hw, hc⟩ hl (by omega) (beqF (by omega)) (beqF (by omega)) (beqF (by omega))
 ·exact set_0 B q F l r w S ha ⟨hw, hc⟩ hl (by omega) (beqF (by omega)) (beqF (by omega)) (beqF (by omega))
 ·have h := (vbS hs).1 hr'.2
  exact set_2 B q F l r w S ha ⟨hw, hc, h.2.2.2.2.1, h.2.2.2.2.2⟩ hl (by omega) (beqT hs)
 ·have h := (vcv hs).1 hr'.2
  exact set_3 B q F l r w S ha ⟨hw, hc, h.2.2.2.2.1, h.2.2.2.2.2⟩ hl (by omega) (beqF (by omega)) (beqT hs)
 ·have h := (vgW hs).1 hr'.2
  exact set_4 B q F l r w S ha ⟨hw, hc, h.2.2.2.1, h.2.2.2.2⟩ hl (by omega) (beqF (by omega)) (beqF (by omega)) (beqT hs)
def tbC (q : Nat) (T : Tb) (A : Option Addr) (m mp : Nat) : Array Value := #[.pointer (some ⟨q, 0, none⟩), .int .i64 T.c.t0, .int .i64 T.c.t1, .int .i64 T.c.t2, .int .i64 T.c.t3, .int .i64 T.c.t4, .int .i64 T.c.t5, .int .i64 T.c.t6, .int .i64 T.c.cap, .slice A T.c.own.length m, .map (some mp), .int .i64 T.now, .int .i64 T.rf]
structure TabX (w : World) (B t q mp m : Nat) (A : Option Addr) (QF : List Nat) (l : List Tw) (T : Tb) : Prop where
 bk : Blk w t 125 (tbC q T A m mp)
 qs : QuS w B q QF l
 pm : l.Perm (armL T.l)
 mr : MapR w mp T.l
 ow : Own w B 39 2 PI.enc (.slice A T.c.own.length m) T.c.own
 tq : t ∉ QF
 mq : mp ∉ QF
 mt : mp ≠ t
 an : ∀ a, A = some a → a.block ∉ QF ∧ a.block ≠ t ∧ a.block ≠ mp
 bt : B ≤ t
 bm : B ≤ mp
 u : UpR T.l
 wf : ∀ r ∈ T.l, wfP r.p
 n : T.l.length ≤ 900000
def TabM (w : World) (B t : Nat) (F : List Nat) (T : Tb) : Prop := ∃ q mp m A QF l, F = t :: mp :: QF ∧ TabX w B t q mp m A QF l T
def TabT (w w' : World) (B t : Nat) (F : List Nat) (T : Tb) : Prop := ∃ F', TabM w' B t F' T ∧ Only F w w' ∧ ∀ b ∈ F', b ∈ F ∨ w.heap.size ≤ b
theorem vcz {w : World} {B e n c : Nat} {A : Option Addr} {ps : List PI} (h : Own w B e 2 PI.enc (.slice A n c) ps) : ∀ a, A = some a → B ≤ a.block ∧ a.block < w.heap.size := by
 rintro a rfl
 have := World.ownsRow.lt h a.block rfl
 exact this
theorem vaU {w w' : World} {B e n c : Nat} {A : Option Addr} {ps : List PI} {bs : List Nat} (h : Own w B e 2 PI.enc (.slice A n c) ps) (k : Only bs w w') (hA : ∀ a, A = some a → a.block ∉ bs) : Own w' B e 2 PI.enc (.slice A n c) ps := by
 refine ⟨h.1, ?_⟩
 rcases h.2 with h2 | ⟨g, cap, cur, hv, hg, hc, r⟩
 ·exact .inl h2
 ·have hv' := hv
  injection hv' with e1
  exact .inr ⟨g, cap, cur, hv, hg, (k.block g (Array.getElem?_eq_some_iff.1 hc).1 (hA _ e1)).trans hc, r⟩
theorem TabX.lo {w : World} {B t q mp m : Nat} {A : Option Addr} {QF : List Nat} {l : List Tw} {T : Tb} (h : TabX w B t q mp m A QF l T) : ∀ b ∈ t :: mp :: QF, B ≤ b ∧ b < w.heap.size := by
 intro b hb
 rcases List.mem_cons.1 hb with rfl | hb
 ·exact ⟨h.bt, h.bk.lt⟩
 ·rcases List.mem_cons.1 hb with rfl | hb
  ·exact ⟨h.bm, h.mr.lt⟩
  ·exact h.qs.lo b hb
theorem TabX.only {w w' : World} {B t q mp m : Nat} {A : Option Addr} {QF bs : List Nat} {l : List Tw} {T : Tb} (h : TabX w B t q mp m A QF l T) (k : Only bs w w') (hb : ∀ b ∈ bs, b ∉ t :: mp :: QF) (hA : ∀ a, A = some a → a.block ∉ bs) : TabX w' B t q mp m A QF l T where
 bk := h.bk.only k (fun e => hb t e List.mem_cons_self)
 qs := h.qs.only k (fun b e z => hb b z (by simp [e]))
 pm := h.pm
 mr := h.mr.only k (fun e => hb mp e (by simp))
 ow := vaU h.ow k hA
 tq := h.tq
 mq := h.mq
 mt := h.mt
 an := h.an
 bt := h.bt
 bm := h.bm
 u := h.u
 wf := h.wf
 n := h.n
theorem TabX.keep {w w' : World} {B t q mp m : Nat} {A : Option Addr} {QF : List Nat} {l : List Tw} {T : Tb} (h : TabX w B t q mp m A QF l T) (k : Kp w w') : TabX w' B t q mp m A QF l T :=
 h.only (bs := []) (Only.of_kp k) (by simp) (by simp)
theorem TabM.keep {w w' : World} {B t : Nat} {F : List Nat} {T : Tb} (h : TabM w B t F T) (k : Kp w w') : TabM w' B t F T := by
 obtain ⟨q, mp, m, A, QF, l, e, x⟩ := h
 exact ⟨q, mp, m, A, QF, l, e, x.keep k⟩
theorem TabM.lo {w : World} {B t : Nat} {F : List Nat} {T : Tb} (h : TabM w B t F T) : ∀ b ∈ F, B ≤ b ∧ b < w.heap.size := by
 obtain ⟨q, mp, m, A, QF, l, rfl, x⟩ := h
 exact x.lo
theorem TabT.trans {w w1 w2 : World} {B t : Nat} {F F1 : List Nat} {T : Tb} (k : Only F w w1) (hF : ∀ b ∈ F1, b ∈ F ∨ w.heap.size ≤ b) (h : TabT w1 w2 B t F1 T) : TabT w w2 B t F T := by
 obtain ⟨F2, h1, h2, h3⟩ := h
 refine ⟨F2, h1, ⟨h2.os.trans k.os, h2.tape.trans k.tape, h2.output.trans k.output, Nat.le_trans k.size h2.size, fun i hi hn => ?_⟩, fun b hb => ?_⟩
 ·rw [h2.block i (Nat.lt_of_lt_of_le hi k.size) (fun e => (hF i e).elim hn (fun z => by omega)), k.block i hi hn]
 ·rcases h3 b hb with e | e
  ·exact hF b e
  ·exact .inr (Nat.le_trans k.size e)
theorem MapR.put_ {w : World} {m n : Nat} {L : List Rt} {es : List (Lit × DataW Value)} (h2 : es.Perm (L.map entR)) (hw : ∀ r ∈ L, wfP r.p) {r : Rt} (hr : wfP r.p) (h : w.ownsMap Tryz.prog 39 rdAll m n ((DataW.map es).put (pfKey r.p) (.held (roV r)))) : MapR w m (r :: offR r.p L) := by
 rw [DataW.put_eq] at h
 have hp : (ChangeMaps.putKey (pfKey r.p) (.held (roV r)) es).Perm ((r :: offR r.p L).map entR) := by
  unfold ChangeMaps.putKey
  refine (WideShapes.insert_perm _ _).trans ?_
  rw [List.map_cons]
  refine List.Perm.cons _ ?_
  rw [← vhf hw hr]
  exact h2.filter _
 have := tightV h
 rw [hp.length_eq, List.length_map] at this
 exact ⟨_, this, hp⟩
theorem MapR.del_ {w : World} {m n : Nat} {L : List Rt} {es : List (Lit × DataW Value)} (h2 : es.Perm (L.map entR)) (hw : ∀ r ∈ L, wfP r.p) {p : PI} (hr : wfP p) (h : w.ownsMap Tryz.prog 39 rdAll m n ((DataW.map es).del (pfKey p))) : MapR w m (offR p L) := by
 rw [DataW.del_eq] at h
 have hp : (ChangeMaps.delKey (pfKey p) es).Perm ((offR p L).map entR) := by
  unfold ChangeMaps.delKey
  rw [← vhf hw hr]
  exact h2.filter _
 have := tightV h
 rw [hp.length_eq, List.length_map] at this
 exact ⟨_, this, hp⟩
theorem vcA {w w' : World} {m n : Nat} {D : DataW Value} (h : w.ownsMap Tryz.prog 39 rdAll m n D) (e : w'.heap[m]? = w.heap[m]?) : w'.ownsMap Tryz.prog 39 rdAll m n D := by
 obtain ⟨es', clock, h1, h2⟩ := h
 exact ⟨es', clock, e.trans h1, h2⟩
theorem vnd {r : Rt} (hr : okR r = true) (ha : r.p.a < 4294967296) : wfP r.p := by
 have h1 := ((vaq r).1 hr).1
 unfold toldB PI.okB at h1
 simp only [Bool.and_eq_true, decide_eq_true_eq] at h1
 exact ⟨ha, by omega, by omega⟩
set_option maxRecDepth 100000 in
theorem veY (B t g : Nat) (F : List Nat) (T : Tb) (r : Rt) (w : World) (h : TabM w B t F T) (hg : Blk w g 52 (roC r)) (hr : okR r = true) (ha : r.p.a < 4294967296) (hn : T.l.length < 800000) :
  Calls Tryz.prog 53 #[.pointer (some ⟨t, 0, none⟩), .slice (some ⟨g, 0, none⟩) 1 1] w fun e w' => e = .returned (.tuple #[]) ∧ TabT w w' B t F ⟨T.c, setR r T.l, T.now, T.rf⟩ := by
 obtain ⟨q, mp, m, A, QF, l, rfl, X⟩ := h
 have hwr := vnd hr ha
 have hr' := (vaq r).1 hr
 have ss := vbh hr'.2
 obtain ⟨b, hb⟩ : ∃ b, w.heap.size = b := ⟨_, rfl⟩
 obtain ⟨W, hW, kW, B0⟩ := Blk.al1 hb (roC r) 52
 have X1 := X.keep kW
 unfold roC at hW
 have x0 := Blk.f hg rfl
 obtain ⟨p0, p1, p2, p3, p4, p5, p6, p7, p8⟩ := Blk.p9 B0
 have c0 : W.cell? ⟨t, 0, none⟩ = some (.pointer (some ⟨q, 0, none⟩)) := X1.bk.cell 0
 have hll : l.length ≤ 900000 := by
  have h1 := X.pm.length_eq
  have h2 : (armL T.l).length ≤ T.l.length := by unfold armL; rw [List.length_map]; exact List.length_filter_le _ _
  omega
 have hbF : b ∉ QF := fun e => by have := (X.qs.lo b e).2; omega
 have hbt : ¬ b = t := by have := X.bk.lt; omega
 have hbm : ¬ b = mp := by have := X.mr.lt; omega
 have K : Kp W W.drew := (Kp.refl W).drew
 have HX := Lib.hid X
 have HX1 := Lib.hid X1
 have HS := Lib.hid ss
 clear X X1 ss
 go_enter Tryz.func53, Tryz.ntmps53
 go_wp2_with fail
 refine wp_loop_rounds 2 ?_
 rw [rounds_succ]
 go_wp2_with fail
 try clear hW
 clear x0
 go_region_held3 (fun w' => w'.cell? ⟨t, 0, none⟩ = some (.pointer (some ⟨q, 0, none⟩)) ∧ w'.cell? ⟨b, 0, none⟩ = some (.int .u32 (r.p.a : Int)) ∧ w'.cell? ⟨b, 1, none⟩ = some (.int .i64 r.p.l) ∧ w'.cell? ⟨b, 2, none⟩ = some (.int .i64 r.s) ∧ w'.cell? ⟨b, 3, none⟩ = some (.int .i64 r.m) ∧ w'.cell? ⟨b, 4, none⟩ = some (.int .i64 r.l) ∧ w'.cell? ⟨b, 5, none⟩ = some (.int .i64 r.f) ∧ w'.cell? ⟨b, 6, none⟩ = some (.int .u32 (r.x : Int)) ∧ w'.cell? ⟨b, 7, none⟩ = some (.int .i64 r.d) ∧ w'.cell? ⟨b, 8, none⟩ = some (.bool r.c))
  (first | exact ⟨BT.cell 0, BA.cell 0, BA.cell 1, BA.cell 2, BA.cell 3, BA.cell 4, BA.cell 5, BA.cell 6, BA.cell 7, BA.cell 8⟩ | exact ⟨K.cell c0, K.cell p0, K.cell p1, K.cell p2, K.cell p3, K.cell p4, K.cell p5, K.cell p6, K.cell p7, K.cell p8⟩ | go_keep)
  (first | (go_at_call 119; refine (vjC B q QF l r _ (HX1.out.qs.keep K) hr ha hll).mono ?_; rintro e wv ⟨rfl, l', hp, QF', hQ1, hQ2, hQ3⟩; have BA := (B0.keep K).only hQ2 hbF; have BT := (HX1.out.bk.keep K).only hQ2 HX1.out.tq))
 clear p0 p1 p2 p3 p4 p5 p6 p7 p8 c0
 have kK := kW.trans K
 have X2 := HX.out.keep kK
 have M2 := X2.mr.only hQ2 X2.mq
 have O2 := vaU X2.ow hQ2 (fun a e => (X2.an a e).1)
 have hO := (Only.of_kp (bs := QF) kK).trans hQ2
 have hpm : l'.Perm (armL (setR r T.l)) := hp.trans (((HX.out.pm.filter _).append_left _).trans (vgY r T.l).symm)
 have hnew : ∀ x ∈ QF', x ∈ QF ∨ w.heap.size ≤ x := fun x hx => (hQ3 x hx).imp id (fun z => Nat.le_trans kK.size z)
 have htn : t ∉ QF' := fun e => (hnew t e).elim HX.out.tq (fun z => by have := HX.out.bk.lt; omega)
 have hmn : mp ∉ QF' := fun e => (hnew mp e).elim HX.out.mq (fun z => by have := HX.out.mr.lt; omega)
 have han : ∀ a, A = some a → a.block ∉ QF' := fun a e z => (hnew _ z).elim (HX.out.an a e).1 (fun z => by have := (vcz HX.out.ow a e).2; omega)
 have hln : (setR r T.l).length ≤ 900000 := by
  have h1 := (vas r T.l).length_eq
  have h2 : (offR r.p T.l).length ≤ T.l.length := List.length_filter_le _ _
  rw [List.length_append] at h1
  have : (if r.s = 0 then [] else [r]).length ≤ 1 := by split <;> simp
  omega
 have hwn : ∀ x ∈ setR r T.l, wfP x.p := fun x hx => by
  rcases vao.1 hx with ⟨rfl, _⟩ | ⟨hx, _⟩
  ·exact hwr
  ·exact HX.out.wf x hx
 obtain ⟨es, hD, hes⟩ := M2
 have hfin : ∀ W1, (Only [mp] wv W1) → MapR W1 mp (setR r T.l) → TabT w W1 B t (t :: mp :: QF) ⟨T.c, setR r T.l, T.now, T.rf⟩ := fun W1 k1 hM => by
  refine ⟨t :: mp :: QF', ⟨q, mp, m, A, QF', l', rfl, BT.only k1 (by simpa using fun e => HX.out.mt e.symm), hQ1.only k1 (fun x hx => by simp only [List.mem_cons, List.not_mem_nil, or_false]; rintro rfl; exact hmn hx), hpm, hM, vaU O2 k1 (fun a e => by simpa using (HX.out.an a e).2.2), htn, hmn, HX.out.mt, fun a e => ⟨han a e, (HX.out.an a e).2⟩, HX.out.bt, HX.out.bm, vbw r HX.out.u, hwn, hln⟩, ?_, ?_⟩
  ·refine ⟨k1.os.trans hO.os, k1.tape.trans hO.tape, k1.output.trans hO.output, Nat.le_trans hO.size k1.size, fun i hi hni => ?_⟩
   simp only [List.mem_cons, not_or] at hni
   rw [k1.block i (Nat.lt_of_lt_of_le hi hO.size) (by simpa using hni.2.1), hO.block i hi hni.2.2]
  ·intro x hx
   simp only [List.mem_cons] at hx ⊢
   rcases hx with rfl | rfl | hx
   ·exact .inl (.inl rfl)
   ·exact .inl (.inr (.inl rfl))
   ·exact (hnew x hx).imp (fun z => .inr (.inr z)) id
 have HF := Lib.hid hfin
 have hwf := HX.out.wf
 clear hfin hp hpm hnew htn hmn han hln hwn HX1
 obtain ⟨p0, p1, p2, p3, p4, p5, p6, p7, p8⟩ := Blk.p9 BA
 have c10 : wv.cell? ⟨t, 10, none⟩ = some (.map (some mp)) := BT.cell 10
 by_cases h0 : r.s = 0
 ·have e0 := beqT h0
  have hoff : (offR r.p T.l).Perm (setR r T.l) := by have := (vas r T.l).symm; rw [if_pos h0] at this; exact this
  have HO := Lib.hid hoff
  clear h0 hoff hO O2 X2
  go_upto_region 5 with (fail)
  go_still_tail 6, (by kernel_rfl)
  change wpList _ _ _ _ _ wv.drew
  refine wpList_delete_own wv.drew rfl _ _ 123 39 rfl 132 keyedPf Tryz.underlying123 rdAll mp T.l.length (.map es) rfl (vcA hD rfl) (pfV r.p) (pfKey r.p) rfl (vbx hwr) ?_
  intro W1 hD1 hT1
  have M1 := (MapR.del_ hes hwf hwr hD1).perm HO.out
  have H := Lib.hid (HF.out W1 ((Only.refl [mp] wv).drew.trans (Only.of_turned hT1)) M1)
  clear hD1 hT1 p0 p1 p2 p3 p4 p5 p6 p7 p8 c10 M1
  go_wp2_with fail
  rw [rounds_succ]
  go_wp2_with fail
  go_end0
  exact ⟨rfl, H.out⟩
 ·have e0 := beqF h0
  have hset : (r :: offR r.p T.l).Perm (setR r T.l) := by have := (vas r T.l).symm; rw [if_neg h0] at this; exact this
  have HO := Lib.hid hset
  clear h0 hset hO O2 X2
  go_upto_region 6 with (fail)
  go_still_tail 8, (by kernel_rfl)
  change wpList _ _ _ _ _ wv.drew
  refine wpList_mapUpdate_in wv.drew rfl _ _ _ 123 rfl 39 132 keyedPf Tryz.underlying123 rdAll mp T.l.length (.map es) rfl (vcA hD rfl) (by simp only [maxLen]; omega) (pfV r.p) (roV r) (pfKey r.p) rfl rfl (vbx hwr) (.held (roV r)) [] rfl ?_
  intro W1 hD1 hT1
  have M1 := (MapR.put_ hes hwf hwr hD1).perm HO.out
  have H := Lib.hid (HF.out W1 ((Only.refl [mp] wv).drew.trans (Only.of_turned hT1)) M1)
  clear hD1 hT1 p0 p1 p2 p3 p4 p5 p6 p7 p8 c10 M1
  go_wp2_with fail
  rw [rounds_succ]
  go_wp2_with fail
  go_end0
  exact ⟨rfl, H.out⟩
def NoPre (W : World) (F : List Nat) : Prop := ∀ b ∈ F, ∃ o, W.heap[b]? = some o ∧ ∀ xs, o ≠ .cells xs 39
theorem NoPre.of_blk {W : World} {b : Nat} {t : TypeId} {cs : Array Value} (h : Blk W b t cs) (ht : t ≠ 39) : ∃ o, W.heap[b]? = some o ∧ ∀ xs, o ≠ .cells xs 39 :=
 ⟨_, h, fun xs e => by injection e with _ e; exact ht e⟩
theorem NoPre.only {W W' : World} {F bs : List Nat} (h : NoPre W F) (k : Only bs W W') (hd : ∀ b ∈ F, b ∉ bs) : NoPre W' F := fun b hb => by
 obtain ⟨o, h1, h2⟩ := h b hb
 exact ⟨o, (k.block b (Array.getElem?_eq_some_iff.1 h1).1 (hd b hb)).trans h1, h2⟩
theorem TabM.by_ {w w' : World} {B t : Nat} {F bs : List Nat} {T : Tb} (h : TabM w B t F T) (k : Only bs w w') (hd : ∀ b ∈ bs, b ∉ F) (hn : NoPre w bs) : TabM w' B t F T := by
 obtain ⟨q, mp, m, A, QF, l, rfl, X⟩ := h
 refine ⟨q, mp, m, A, QF, l, rfl, X.only k hd (fun a e z => ?_)⟩
 obtain ⟨o, h1, h2⟩ := hn _ z
 rcases X.ow.2 with ⟨hv, _⟩ | ⟨g', cap, cur, hv, _, hc, _⟩
 ·subst e; cases hv
 ·subst e
  injection hv with e1
  injection e1 with e1
  subst e1
  rw [hc] at h1
  exact h2 cur (Option.some.inj h1).symm
end

section
open Go.RowKit
structure OwnT (T : Tb) : Prop where
 d : ∀ x ∈ T.l, x.s = 1 ↔ x.p ∈ T.c.own
 a : ∀ p ∈ T.c.own, ∃ x ∈ T.l, x.p = p
theorem OwnT.new (c : Cf) : OwnT (newT c) := by
 obtain ⟨-, h2, -⟩ := vaY c.own [] List.Pairwise.nil
 refine ⟨fun x hx => ?_, fun p hp => ⟨ownR p, (h2 _).2 (.inl ⟨p, hp, rfl⟩), rfl⟩⟩
 rcases (h2 x).1 hx with ⟨p, hp, rfl⟩ | ⟨hx, _⟩
 ·exact ⟨fun _ => hp, fun _ => rfl⟩
 ·simp at hx
theorem was_p {L : List Rt} (p : PI) : (wasR p L).p = p := by
 unfold wasR
 cases e : getR p L with
 | none => rfl
 | some r => exact (vaP e).2
def directN (L : List Rt) : Nat := (L.filter (fun r => decide (r.s = 1))).length
theorem vhV {T : Tb} (h : OwnT T) (k : TbOk T) : directN T.l = T.c.own.length := by
 have h1 : ((T.l.filter (fun r => decide (r.s = 1))).map Rt.p).Perm T.c.own := by
  refine (List.perm_ext_iff_of_nodup (k.u.filter _).nodup (vaO k.c).2.2.2.2.2).2 (fun p => ?_)
  rw [List.mem_map]
  constructor
  ·rintro ⟨x, hx, rfl⟩
   rw [List.mem_filter, decide_eq_true_eq] at hx
   exact (h.d x hx.1).1 hx.2
  ·intro hp
   obtain ⟨x, hx, rfl⟩ := h.a p hp
   exact ⟨x, List.mem_filter.2 ⟨hx, decide_eq_true ((h.d x hx).2 hp)⟩, rfl⟩
 have := h1.length_eq
 rw [List.length_map] at this
 exact this
end

end Go.Proofs.YtgopnfacklmkaaaGreatDoor
