/- Lemmas and contracts for the theorem of this claim: RxA, SoL, SoA, Range3, Range4. -/
import Derived.Test.YtffckpkikdlbpaaGreatDoorZrBe
import Derived.Shelf.SlSortCmp.WholeK
import Derived.LoopN
import Derived.RangeFuncCalls
set_option linter.unusedSimpArgs false
set_option linter.unusedVariables false
namespace Go.Proofs.YtffckpkikdlbpaaGreatDoor
open Go.RowKit Go.Maps
theorem due_tab_no (B t q mp m : Nat) (A : Option Addr) (QF : List Nat) (l : List Tw) (T : Tb) (now : Int) (w : World) (X : TabX w B t q mp m A QF l T) (hd : ∀ y ∈ armL T.l, now < y.d) : Calls Tryz.prog 71 #[.agg #[.pointer (some ⟨q, 0, none⟩)], .int .i64 now] w fun e w' => e = .returned (.tuple #[.agg #[.int .u32 0, .int .i64 0], .bool false]) ∧ Kp w w' :=
  due_no B q QF l now w X.qs (fun y hy => hd y (X.pm.mem_iff.1 hy))
theorem TabX.len {w : World} {B t q mp m : Nat} {A : Option Addr} {QF : List Nat} {l : List Tw} {T : Tb} (X : TabX w B t q mp m A QF l T) : l.length ≤ 900000 := by
  have h1 := X.pm.length_eq
  have h2 : (armL T.l).length ≤ T.l.length := by unfold armL; rw [List.length_map]; exact List.length_filter_le _ _
  have := X.n
  omega
theorem due_tab_yes (B t q mp m : Nat) (A : Option Addr) (QF : List Nat) (l : List Tw) (T : Tb) (now : Int) (w : World) (X : TabX w B t q mp m A QF l T) (hd : ∃ y ∈ armL T.l, y.d ≤ now) : Calls Tryz.prog 71 #[.agg #[.pointer (some ⟨q, 0, none⟩)], .int .i64 now] w fun e w' => ∃ r, firstR T.l = some r ∧ r ∈ T.l ∧ 2 ≤ r.s ∧ r.d ≤ now ∧ e = .returned (.tuple #[pfV r.p, .bool true]) ∧ ∃ QF' l', TabZ r.p w' B t q mp m A QF' l' T ∧ Only QF w w' ∧ (∀ b ∈ QF', b ∈ QF ∨ w.heap.size ≤ b) := by
  obtain ⟨y0, hy0, hd0⟩ := hd
  refine (due_yes B q QF l now w X.qs ⟨y0, X.pm.mem_iff.2 hy0, hd0⟩ X.len).mono ?_
  rintro e w' ⟨y, hy, hle, hyd, rfl, l', hp, QF', hQ, hO, hF⟩
  obtain ⟨r, hr, hrm, hrs, he⟩ := firstR_least X.u (X.pm.mem_iff.1 hy) (fun z hz => hle z (X.pm.mem_iff.2 hz))
  subst he
  have htl := X.bk.lt
  have hml := X.mr.lt
  refine ⟨r, hr, hrm, hrs, hyd, rfl, QF', l', ⟨X.bk.only hO X.tq, hQ, ?_, ?_, X.mr.only hO X.mq, own_only X.ow hO (fun a e => (X.an a e).1), fun z => ?_, fun z => ?_, X.mt, fun a e => ⟨fun z => ?_, (X.an a e).2⟩, X.bt, X.bm, X.u, X.wf, X.n⟩, hO, hF⟩
  · refine (hp.filter _).trans ?_
    show (offP r.p (offP r.p l)).Perm _
    rw [offP_twice]
    exact X.pm.filter _
  · rw [hp.length_eq]
    exact Nat.le_trans (List.length_filter_le _ _) X.len
  · rcases hF _ z with k | k
    · exact X.tq k
    · omega
  · rcases hF _ z with k | k
    · exact X.mq k
    · omega
  · rcases hF _ z with k | k
    · exact (X.an a e).1 k
    · have := (own_lt X.ow a e).2; omega
/-- What is left to expire, in as many rounds as it takes. -/
def expE (c : Cf) (now : Int) (L : List Rt) : List Rt × Int := expG c now (dueS now L + 1) L
theorem expE_done {c : Cf} {now : Int} {L : List Rt} (u : UpR L) (h : ∀ y ∈ armL L, now < y.d) : expE c now L = (L, 0) := by
  unfold expE expG
  cases e : firstR L with
  | none => rfl
  | some r =>
    obtain ⟨h1, h2, _⟩ := (firstR_ok u).2 r e
    have := h (twR r) (mem_armL.2 ⟨r, h1, h2, rfl⟩)
    have h3 : now < r.d := this
    simp only [h3, if_true]
theorem expE_step {c : Cf} {now : Int} {L : List Rt} {r : Rt} (hc : okCf c = true) (u : UpR L) (hr : ∀ x ∈ L, okR x = true) (hn : okNow now = true) (he : firstR L = some r) (hd : r.d ≤ now) : expE c now L = ((expE c now (setR (expR c r now) L)).1, (expE c now (setR (expR c r now) L)).2 + 1) := by
  obtain ⟨h1, h2, _⟩ := (firstR_ok u).2 r he
  have hlt := dueS_exp u hc h1 (hr r h1) h2 hd
  have hm := expG_more hc (dueS now L) (dueS now (setR (expR c r now) L) + 1) (setR (expR c r now) L) (setR_up _ u) (fun x hx => by
    rcases mem_setR.1 hx with ⟨rfl, _⟩ | ⟨hx, _⟩
    · exact right_exp hc (hr r h1) hn
    · exact hr x hx) hn hlt (by omega)
  have h3 : ¬ now < r.d := by omega
  have : expE c now L = ((expG c now (dueS now L) (setR (expR c r now) L)).1, (expG c now (dueS now L) (setR (expR c r now) L)).2 + 1) := by
    unfold expE
    rw [expG, he]
    simp only [h3, if_false]
  rw [this, hm]
  rfl
theorem expE_all {T : Tb} (h : TbOk T) {now : Int} (hn : okNow now = true) : expG T.c now 1000 T.l = expE T.c now T.l := by
  have h1 := dueS_le now T.l
  have h2 := h.n
  have h3 := okCf_cap h.c
  exact expG_more h.c 1000 (dueS now T.l + 1) T.l h.u (fun x hx => (h.r x hx).1) hn (by omega) (by omega)
end Go.Proofs.YtffckpkikdlbpaaGreatDoor

namespace Go.Proofs.YtffckpkikdlbpaaGreatDoor
open Go.RowKit Go.Sort Go.Shelf
instance : Inhabited Rt := ⟨zeroR⟩
/-- How two routes are compared. -/
def cfR (x y : Rt) : Int := ordI x.p.a x.p.l y.p.a y.p.l
theorem ltOf_cfR {x y : Rt} : ltOf cfR x y = true ↔ ltP x.p y.p := by
  unfold ltOf cfR
  rw [decide_eq_true_iff]
  exact ordI_ltP
theorem ltOf_cfR_no {x y : Rt} : ltOf cfR x y = false ↔ ¬ ltP x.p y.p := by
  rw [← ltOf_cfR]
  exact Bool.not_eq_true _ |>.symm ▸ Iff.rfl
theorem swoR : SWO (ltOf cfR) where
  irrefl x := ltOf_cfR_no.2 (fun h => ltP_ne h rfl)
  trans x y z h1 h2 := ltOf_cfR.2 (ltP_trans (ltOf_cfR.1 h1) (ltOf_cfR.1 h2))
  ntrans x y z h1 h2 := by
    rw [ltOf_cfR_no] at *
    unfold ltP at *
    omega
theorem sorted_eq {L : List Rt} (u : UpR L) {d d' : Array Rt} (h0 : d.toList.Perm L) (hp : PermIn 0 d.size d d') (hs : SortedIn (ltOf cfR) 0 d.size d') : d'.toList = L := by
  obtain ⟨h1, _, h3⟩ := hp
  have e1 : d'.extract 0 d.size = d' := by rw [← h1]; simp
  have e2 : d.extract 0 d.size = d := by simp
  rw [e1, e2] at h3
  have hP := h3.trans h0
  have hn : (d'.toList.map Rt.p).Nodup := (hP.map Rt.p).nodup_iff.2 u.nodup
  refine UpR.eq_perm ?_ u hP
  unfold UpR
  rw [List.pairwise_iff_getElem]
  intro i j hi hj hij
  have hi' : i < d'.size := by simpa using hi
  have hj' : j < d'.size := by simpa using hj
  have h4 := hs i j (Nat.zero_le _) hij (by omega)
  rw [getElem!_pos d' i hi', getElem!_pos d' j hj', ltOf_cfR_no] at h4
  rw [Array.getElem_toList, Array.getElem_toList]
  rcases ltP_tri d'[i].p d'[j].p with h | h | h
  · exact h
  · exact absurd (by rw [List.getElem_map, List.getElem_map]; simpa using h) (List.pairwise_iff_getElem.1 hn i j (by simpa using hi) (by simpa using hj) hij)
  · exact absurd h h4
theorem grow_of_kp {w w' : World} (k : Kp w w') (h : w.drawn ≤ w'.drawn) : ∃ q os', w' = grow (w.drewN q) os' := by
  refine ⟨w'.drawn - w.drawn, w'.heap.extract w.heap.size w'.heap.size, ?_⟩
  have hs := k.size
  have hh : w'.heap = w.heap ++ w'.heap.extract w.heap.size w'.heap.size := by
    apply Array.ext_getElem?
    intro i
    by_cases hi : i < w.heap.size
    · rw [Array.getElem?_append_left hi]
      exact k.heap hi
    · rw [Array.getElem?_append_right (by omega), Array.getElem?_extract]
      by_cases hj : i < w'.heap.size
      · rw [if_pos (by omega)]
        congr 1
        omega
      · rw [if_neg (by omega), Array.getElem?_eq_none (by omega)]
  have ht := Below.tape k
  have ho := Below.os k
  have hu := Below.output k
  cases w with | mk h1 t1 d1 o1 u1 => cases w' with | mk h2 t2 d2 o2 u2 =>
  simp only at ht ho hu hh h hs ⊢
  subst ht ho hu
  unfold grow World.drewN
  simp only [World.mk.injEq, and_true, true_and]
  exact ⟨hh, by omega⟩
end Go.Proofs.YtffckpkikdlbpaaGreatDoor

namespace Go.Proofs.YtffckpkikdlbpaaGreatDoor
open Go.RowKit Go.Sort Go.Shelf
set_option maxRecDepth 100000 in
set_option maxHeartbeats 1000000 in
theorem order2_any (a l b k : Int) (w : World) : Calls Tryz.prog 86 #[.agg #[.int .u32 a, .int .i64 l], .agg #[.int .u32 b, .int .i64 k]] w fun e w' => e = .returned (.int .i64 (ordI a l b k)) ∧ Kp w w' ∧ w.drawn ≤ w'.drawn := by
  obtain ⟨W, hW, kW, B0, B1⟩ : ∃ W, (w.alloc (.cells #[.int .u32 a, .int .i64 l] 29)).alloc (.cells #[.int .u32 b, .int .i64 k] 29) = W ∧ (Kp w W ∧ W.drawn = w.drawn) ∧ Blk W w.heap.size 29 #[.int .u32 a, .int .i64 l] ∧ Blk W (w.heap.size + 1) 29 #[.int .u32 b, .int .i64 k] := ⟨_, rfl, ⟨((Kp.refl _).alloc _).alloc _, rfl⟩, (Blk.new w _ _).alloc _, Blk.new1 w _ _ _⟩
  obtain ⟨x, hx⟩ : ∃ x, cmpI a b = x := ⟨_, rfl⟩
  obtain ⟨y, hy⟩ : ∃ y, cmpI l k = y := ⟨_, rfl⟩
  have Hx := Lib.hid hx
  have Hy := Lib.hid hy
  have Hr : Hid (ordI a l b k = if x = 0 then y else x) := by rw [← hx, ← hy]; exact Lib.hid rfl
  clear hx hy
  go_enter Tryz.func86, Tryz.ntmps86
  go_wp2_with fail
  refine wp_tail 10 (by kernel_rfl) (by kernel_rfl) (fun V hV => ?_)
  have KV : Kp W V := by rw [hV]; exact (Kp.refl _).drew
  have hdr : W.drawn ≤ V.drawn := by rw [hV]; exact Nat.le_succ _
  have HD := Lib.hid (show w.drawn ≤ V.drawn by rw [← kW.2]; exact hdr)
  clear hdr
  have p0 : V.cell? ⟨w.heap.size, 0, none⟩ = some (.int .u32 a) := (B0.keep KV).cell 0
  have p1 : V.cell? ⟨w.heap.size, 1, none⟩ = some (.int .i64 l) := (B0.keep KV).cell 1
  have q0 : V.cell? ⟨w.heap.size + 1, 0, none⟩ = some (.int .u32 b) := (B1.keep KV).cell 0
  have q1 : V.cell? ⟨w.heap.size + 1, 1, none⟩ = some (.int .i64 k) := (B1.keep KV).cell 1
  clear hV hW
  simp only [List.take_succ_cons, List.take_zero, List.drop_succ_cons, List.drop_zero]
  still_step
  still_step
  still_step
  still_step
  still_call (by refine (cmpA_any a b _).mono ?_; rintro e w' ⟨rfl, rfl⟩; rw [Hx.out]; exact ⟨rfl, rfl⟩)
  still_step
  still_step
  still_step
  still_step
  still_call (by refine (cmpL_any l k _).mono ?_; rintro e w' ⟨rfl, rfl⟩; rw [Hy.out]; exact ⟨rfl, rfl⟩)
  refine wpStill_nil ?_
  clear p0 p1 q0 q1
  go_wp2_with fail
  refine (cor_any x y V.heap.size _ (Blk.new V _ _)).mono ?_
  rintro e w' ⟨rfl, rfl⟩
  rw [← Hr.out]
  go_wp2_with fail
  go_ret
  exact ⟨rfl, (kW.1.trans KV).alloc _, HD.out⟩
set_option maxRecDepth 100000 in
set_option maxHeartbeats 1000000 in
theorem scmp_any (x y : Rt) (w : World) : Calls Tryz.prog 85 #[roV x, roV y] w fun e w' => e = .returned (.int .i64 (cfR x y)) ∧ Kp w w' ∧ w.drawn ≤ w'.drawn := by
  obtain ⟨W, hW, kW, B0, B1⟩ : ∃ W, (w.alloc (.cells (roC x) 87)).alloc (.cells (roC y) 87) = W ∧ (Kp w W ∧ W.drawn = w.drawn) ∧ Blk W w.heap.size 87 (roC x) ∧ Blk W (w.heap.size + 1) 87 (roC y) := ⟨_, rfl, ⟨((Kp.refl _).alloc _).alloc _, rfl⟩, (Blk.new w _ _).alloc _, Blk.new1 w _ _ _⟩
  obtain ⟨b, hb⟩ : ∃ b, w.heap.size = b := ⟨_, rfl⟩
  rw [hb] at B0 B1
  unfold roC at hW
  have x0 : W.cell? ⟨b, 0, none⟩ = some (.int .u32 (x.p.a : Int)) := B0.cell 0
  have x1 : W.cell? ⟨b, 1, none⟩ = some (.int .i64 x.p.l) := B0.cell 1
  have y0 : W.cell? ⟨b + 1, 0, none⟩ = some (.int .u32 (y.p.a : Int)) := B1.cell 0
  have y1 : W.cell? ⟨b + 1, 1, none⟩ = some (.int .i64 y.p.l) := B1.cell 1
  have HD := Lib.hid kW
  clear kW B0 B1
  go_enter Tryz.func85, Tryz.ntmps85
  go_wp2_with (first | (go_at_call 86; refine (order2_any _ _ _ _ _).mono ?_; rintro e w2 ⟨rfl, k2, d2⟩))
  go_ret
  exact ⟨rfl, HD.out.1.trans k2, by rw [← HD.out.2]; exact d2⟩
end Go.Proofs.YtffckpkikdlbpaaGreatDoor

namespace Go.Proofs.YtffckpkikdlbpaaGreatDoor
open Go.RowKit
theorem wp_range_a {P : Program} {g : Operand} {ps : Array Tmp} {assign body : Code} {Q : Exit → Act → World → Prop} {a : Act} {w : World} {gf : FuncId} {caps : Array Value} {N : Nat} {xs : Nat → Array Value} {M : World → Prop}
    (hg : a.eval g = .func (.func gf) #[] caps) (eg : ∀ args w, (callFunc gf args).run P w = .ok (.enter gf args) w) (hit : Iter P gf caps N xs M) (hps : ∀ k, k < N → (xs k).size = ps.size)
    (I : Nat → World → Prop) (Ix : Code → Nat → World → Prop)
    (hI : ∀ k W W', I k W → Only [w.heap.size, w.heap.size + 1] W W' → I k W') (hIx : ∀ c k W W', Ix c k W → Only [w.heap.size, w.heap.size + 1] W W' → Ix c k W')
    (hM : ∀ k W, I k W → M W) (h0 : I 0 w)
    (hround : ∀ l k W, k < N → I k W → w.heap.size + 1 < W.heap.size → assign.wpIn (Fence.wide.inRound l) 0 P (Exit.then (fun a' W' => Kept2 w W W' ∧ ∃ J : World → Prop, J W' ∧ (∀ V V', J V → Only [w.heap.size, w.heap.size + 1] V V' → J V') ∧ ∀ W2, J W2 → w.heap.size + 1 < W2.heap.size → body.wpIn (Fence.wide.inRound l) 0 P (rndPost w I Ix (k + 1) W2) a' W2) (fun _ _ _ => False))
      { tmps := (ps.zip (xs k)).foldl (fun t (p, v) => t.setIfInBounds p v) a.tmps, defers := [] } W)
    (hdone : ∀ W, I N W → W.heap[w.heap.size]? = some (.deferred (some [])) → Q .normal { a with defers := { target := .collected w.heap.size, args := #[] } :: a.defers } W)
    (hstop : ∀ c k W, 0 < k → k ≤ N → Ix c k W → W.heap[w.heap.size]? = some (.deferred (some [])) → c.wp P Q { a with defers := { target := .collected w.heap.size, args := #[] } :: a.defers } W) :
    (Code.rangeFunc g ps assign body).wp P Q a w := by
  refine (wpIn_wide (n := 0)).1 (wpIn_rangeFunc ?_)
  intro fn hfn
  obtain ⟨rec, hrec⟩ : ∃ rec : LoopState → Option Code → Loop, rec = fun st pe => { state := st, pending := pe, fn, tmps := a.tmps, params := ps, assign, body, defers := w.heap.size } := ⟨_, rfl⟩
  obtain ⟨W1, hW1⟩ : ∃ W1, (w.alloc (.deferred (some []))).alloc (.loop (rec .ready none)) = W1 := ⟨_, rfl⟩
  have hL1 : W1.heap[w.heap.size + 1]? = some (.loop (rec .ready none)) := by
    rw [← hW1]; have := World.alloc_heap_new (w.alloc (.deferred (some []))) (.loop (rec .ready none)); rwa [World.size_alloc] at this
  have hK1 : W1.heap[w.heap.size]? = some (.deferred (some [])) := by
    rw [← hW1]; exact (Below.heap_alloc _ _ _ (by simp)).trans (World.alloc_heap_new w _)
  have hI1 : I 0 W1 := by rw [← hW1]; exact hI 0 _ _ h0 (((Only.refl _ _).alloc _).alloc _)
  refine ⟨w.heap.size + 1, [{ target := .collected w.heap.size, args := #[] }], W1, { target := .fn (.func gf) caps, args := #[.func (.yield (w.heap.size + 1)) #[] #[]] }, W1, gf,
    #[.func (.yield (w.heap.size + 1)) #[] #[]] ++ caps, W1, ?_, ?_, fun _ _ => trivial, ?_, (fun h => by cases h), callsIn_wide.2 ?_⟩
  · rw [← hW1, hrec]; exact run_enterLoop_outer _ _ _ _ _
  · simp only [resolve, hg]
    simp [go_sem]
  · simp [invoke, go_sem, eg]
  · refine (hit (w.heap.size + 1)
      (fun k W => I k W ∧ W.heap[w.heap.size + 1]? = some (.loop (rec .ready none)) ∧ W.heap[w.heap.size]? = some (.deferred (some [])))
      (fun k W => ∃ c, Ix c k W ∧ W.heap[w.heap.size + 1]? = some (.loop (rec .done (some c))) ∧ W.heap[w.heap.size]? = some (.deferred (some [])))
      W1 ?_ ?_ (fun k W h => hM k W h.1) ?_ ⟨hI1, hL1, hK1⟩).mono ?_
    · rintro k W W' ⟨h1, h2, h3⟩ hk
      exact ⟨hI k W W' h1 (Only.of_kp hk), (hk.heap (Array.getElem?_eq_some_iff.1 h2).1).trans h2, (hk.heap (Array.getElem?_eq_some_iff.1 h3).1).trans h3⟩
    · rintro k W W' ⟨c, h1, h2, h3⟩ hk
      exact ⟨c, hIx c k W W' h1 (Only.of_kp hk), (hk.heap (Array.getElem?_eq_some_iff.1 h2).1).trans h2, (hk.heap (Array.getElem?_eq_some_iff.1 h3).1).trans h3⟩
    · rintro k W hk ⟨hi, hl, hd⟩
      have hlt : w.heap.size + 1 < W.heap.size := (Array.getElem?_eq_some_iff.1 hl).1
      have hy := run_yield (P := P) (args := xs k) hl (by rw [hrec]; exact hps k hk)
      rw [hrec] at hy
      refine ⟨fn, _, assign, body, hy, roundIn_of_wpIn trivial (wpIn_mono (hround _ k W hk hi hlt) ?_)⟩
      rintro e₀ a' W' hq
      rcases e₀ with _ | id | t | _ | ch | _
      rotate_left
      · exact hq.elim
      · exact hq.elim
      · exact hq.elim
      · exact hq.elim
      · exact hq.elim
      obtain ⟨hkp, J, hj, hJ, hbody⟩ := hq
      replace hl := hkp.2.trans hl
      replace hd := hkp.1.trans hd
      replace hlt : w.heap.size + 1 < W'.heap.size := (Array.getElem?_eq_some_iff.1 hl).1
      refine ⟨_, run_beginRound hl (by rw [hrec]), ?_⟩
      have hl2 : (W'.putObj (w.heap.size + 1) (.loop { rec .ready none with state := .busy })).heap[w.heap.size + 1]? = some (.loop { rec .ready none with state := .busy }) := World.putObj_heap_same hlt
      have hd2 : (W'.putObj (w.heap.size + 1) (.loop { rec .ready none with state := .busy })).heap[w.heap.size]? = some (.deferred (some [])) := (World.putObj_heap_other (by omega)).trans hd
      have hi2 : J (W'.putObj (w.heap.size + 1) (.loop { rec .ready none with state := .busy })) := hJ _ _ hj ((Only.refl _ _).putObj (by simp) _)
      refine wpIn_mono (hbody _ hi2 (by simpa using hlt)) ?_
      have fin : ∀ (jump : Option Code) (W3 : World), Kept2 w (W'.putObj (w.heap.size + 1) (.loop { rec .ready none with state := .busy })) W3 →
          (Instr.endRound (w.heap.size + 1) jump).run P W3 = .ok (.bool jump.isNone) (W3.putObj (w.heap.size + 1) (.loop (rec (if jump.isNone then .ready else .done) jump))) ∧
          (W3.putObj (w.heap.size + 1) (.loop (rec (if jump.isNone then .ready else .done) jump))).heap[w.heap.size + 1]? = some (.loop (rec (if jump.isNone then .ready else .done) jump)) ∧
          (W3.putObj (w.heap.size + 1) (.loop (rec (if jump.isNone then .ready else .done) jump))).heap[w.heap.size]? = some (.deferred (some [])) := fun jump W3 hk3 => by
        have hl3 := hk3.2.trans hl2
        have hd3 := hk3.1.trans hd2
        have := run_endRound (P := P) jump hl3
        rw [hrec] at this ⊢
        exact ⟨this, World.putObj_heap_same (Array.getElem?_eq_some_iff.1 hl3).1, (World.putObj_heap_other (by omega)).trans hd3⟩
      rintro e a3 W3 hp
      cases e with
      | normal =>
        obtain ⟨hr, hl4, hd4⟩ := fin none W3 hp.1
        exact ⟨_, _, hr, .inl ⟨rfl, hI _ _ _ hp.2 ((Only.refl _ _).putObj (by simp) _), hl4, hd4⟩⟩
      | ret =>
        obtain ⟨hr, hl4, hd4⟩ := fin (some .ret) W3 hp.1
        exact ⟨_, _, hr, .inr ⟨rfl, .ret, hIx _ _ _ _ hp.2 ((Only.refl _ _).putObj (by simp) _), hl4, hd4⟩⟩
      | exit id =>
        obtain ⟨hr, hl4, hd4⟩ := fin (some (.exit id)) W3 hp.1
        exact ⟨_, _, hr, .inr ⟨rfl, .exit id, hIx _ _ _ _ hp.2 ((Only.refl _ _).putObj (by simp) _), hl4, hd4⟩⟩
      | goto t =>
        obtain ⟨hr, hl4, hd4⟩ := fin (some (.goto t)) W3 hp.1
        exact ⟨_, _, hr, .inr ⟨rfl, .goto t, hIx _ _ _ _ hp.2 ((Only.refl _ _).putObj (by simp) _), hl4, hd4⟩⟩
      | panic ch => exact hp.elim
      | outgrown => exact hp.elim
    · rintro e W3 ⟨rfl, h | ⟨k, hk0, hkN, c, hix, hl, hd⟩⟩
      · obtain ⟨hi, hl, hd⟩ := h
        have hend := run_endLoop (P := P) hl (by rw [hrec]; simp)
        have hpn : (rec .ready none).pending = none := by rw [hrec]
        rw [hpn] at hend
        refine ⟨none, _, hend, ?_⟩
        exact hdone _ (hI _ _ _ hi ((Only.refl _ _).putObj (by simp) _)) ((World.putObj_heap_other (by omega)).trans hd)
      · have hend := run_endLoop (P := P) hl (by rw [hrec]; simp)
        have hpn : (rec .done (some c)).pending = some c := by rw [hrec]
        rw [hpn] at hend
        refine ⟨some c, _, hend, ?_⟩
        refine (wpIn_wide (n := 0)).2 (hstop c k _ hk0 hkN (hIx _ _ _ _ hix ((Only.refl _ _).putObj (by simp) _)) ((World.putObj_heap_other (by omega)).trans hd))
theorem wp_range_join_a {P : Program} {g : Operand} {ps : Array Tmp} {assign body : Code} {id : Nat} {Q : Exit → Act → World → Prop} {a : Act} {w : World} {gf : FuncId} {caps : Array Value} {N : Nat} {xs : Nat → Array Value} {M : World → Prop}
    (hg : a.eval g = .func (.func gf) #[] caps) (eg : ∀ args w, (callFunc gf args).run P w = .ok (.enter gf args) w) (hit : Iter P gf caps N xs M) (hps : ∀ k, k < N → (xs k).size = ps.size)
    (I Z : Nat → World → Prop) (S : World → Prop)
    (hI : ∀ k W W', I k W → Only [w.heap.size, w.heap.size + 1] W W' → I k W') (hZ : ∀ k W W', Z k W → Only [w.heap.size, w.heap.size + 1] W W' → Z k W')
    (hM : ∀ k W, I k W → M W) (h0 : I 0 w)
    (hIS : ∀ W, I N W → S W) (hZS : ∀ k W, 0 < k → k ≤ N → Z k W → S W)
    (hround : ∀ l k W, k < N → I k W → w.heap.size + 1 < W.heap.size → assign.wpIn (Fence.wide.inRound l) 0 P (Exit.then (fun a' W' => Kept2 w W W' ∧ ∃ J : World → Prop, J W' ∧ (∀ V V', J V → Only [w.heap.size, w.heap.size + 1] V V' → J V') ∧ ∀ W2, J W2 → w.heap.size + 1 < W2.heap.size → body.wpIn (Fence.wide.inRound l) 0 P (rndPost w I (fun c k W => c = .exit id ∧ Z k W) (k + 1) W2) a' W2) (fun _ _ _ => False))
      { tmps := (ps.zip (xs k)).foldl (fun t (p, v) => t.setIfInBounds p v) a.tmps, defers := [] } W)
    (rest : ∀ W, S W → W.heap[w.heap.size]? = some (.deferred (some [])) → Q .normal { a with defers := { target := .collected w.heap.size, args := #[] } :: a.defers } W) :
    (Code.rangeFunc g ps assign body).wp P (Exit.inBlock id Q) a w := by
  refine wp_range_a hg eg hit hps I (fun c k W => c = .exit id ∧ Z k W) hI (fun c k W W' h hO => ⟨h.1, hZ k W W' h.2 hO⟩) hM h0 hround (fun W h hd => rest W (hIS W h) hd) ?_
  rintro c k W h1 h2 ⟨rfl, hz⟩ hd
  refine wp_exit ?_
  show (if id = id then Q .normal _ _ else Q (.exit id) _ _)
  rw [if_pos rfl]
  exact rest W (hZS k W h1 h2 hz) hd
end Go.Proofs.YtffckpkikdlbpaaGreatDoor

namespace Go.Proofs.YtffckpkikdlbpaaGreatDoor
open Go.RowKit
/-- Only the blocks from b up to B may have turned, and new ones have come. -/
structure Turn (b B : Nat) (V V' : World) : Prop where
  os : V'.os = V.os
  tape : V'.tape = V.tape
  output : V'.output = V.output
  size : V.heap.size ≤ V'.heap.size
  block : ∀ j, j < V.heap.size → (j < b ∨ B ≤ j) → V'.heap[j]? = V.heap[j]?
/-- The blocks from b up to B stand. -/
structure Ring (b B : Nat) (V V' : World) : Prop where
  size : V.heap.size ≤ V'.heap.size
  block : ∀ j, b ≤ j → j < B → V'.heap[j]? = V.heap[j]?
section
variable {b B : Nat} {U V W : World}
theorem Turn.refl (b B : Nat) (V : World) : Turn b B V V := ⟨rfl, rfl, rfl, Nat.le_refl _, fun _ _ _ => rfl⟩
theorem Turn.trans (h : Turn b B U V) (k : Turn b B V W) : Turn b B U W :=
  ⟨k.os.trans h.os, k.tape.trans h.tape, k.output.trans h.output, Nat.le_trans h.size k.size, fun j hj hn => (k.block j (Nat.lt_of_lt_of_le hj h.size) hn).trans (h.block j hj hn)⟩
theorem Turn.of_kp (h : Kp V W) : Turn b B V W := ⟨Below.os h, Below.tape h, Below.output h, Below.size h, fun j hj _ => Below.block h j hj⟩
theorem Turn.of_only {bs : List Nat} (h : Only bs V W) (hb : ∀ x ∈ bs, b ≤ x ∧ x < B) : Turn b B V W :=
  ⟨h.os, h.tape, h.output, h.size, fun j hj hn => h.block j hj (fun hm => by have := hb j hm; omega)⟩
theorem Turn.wide {b' B' : Nat} (h : Turn b B V W) (hb : b' ≤ b) (hB : B ≤ B') : Turn b' B' V W :=
  ⟨h.os, h.tape, h.output, h.size, fun j hj hn => h.block j hj (by omega)⟩
theorem Turn.setCell (h : Turn b B U V) {p : Addr} (h1 : b ≤ p.block) (h2 : p.block < B) (u : Value) : Turn b B U (V.setCell p u) :=
  h.trans (Turn.of_only ((Only.refl [p.block] V).setCell (.inl (by simp)) u) (by simpa using ⟨h1, h2⟩))
theorem Turn.heap (h : Turn b B V W) {j : Nat} (hj : j < V.heap.size) (hn : j < b ∨ B ≤ j) : W.heap[j]? = V.heap[j]? := h.block j hj hn
theorem Blk.turn {g : Nat} {t : TypeId} {cs : Array Value} (h : Blk V g t cs) (k : Turn b B V W) (hn : g < b ∨ B ≤ g) : Blk W g t cs := (k.block g h.lt hn).trans h
theorem Turn.cell (h : Turn b B V W) {p : Addr} {v : Value} (hc : V.cell? p = some v) (hp : p.block < b ∨ B ≤ p.block) : W.cell? p = some v :=
  (World.cell?_of_block (w := V) (h.block p.block (World.block_lt_of_cell? V p hc) hp)).trans hc
/-- What lay there ahead of b stands: seen from a world that ends there. -/
theorem Turn.kp (h : Turn b B V W) (k : Kp U V) (hU : U.heap.size ≤ b) : Kp U W :=
  Below.trans k ⟨h.os, h.tape, h.output, h.size, fun j hj => h.block j (Nat.lt_of_lt_of_le hj k.size) (.inl (Nat.lt_of_lt_of_le hj hU))⟩
theorem Turn.own {α : Type} {base e sz : Nat} {enc : α → List Value} {v : Value} {xs : List α} (h : Own V base e sz enc v xs) (k : Turn b B V W) (hb : B ≤ base) : Own W base e sz enc v xs := by
  refine ⟨h.1, ?_⟩
  rcases h.2 with h2 | ⟨g, cap, cur, hv, hg, hh, r⟩
  · exact .inl h2
  · exact .inr ⟨g, cap, cur, hv, hg, (k.block g (Array.getElem?_eq_some_iff.1 hh).1 (.inr (by omega))).trans hh, r⟩
theorem Ring.refl (b B : Nat) (V : World) : Ring b B V V := ⟨Nat.le_refl _, fun _ _ _ => rfl⟩
theorem Ring.trans (h : Ring b B U V) (k : Ring b B V W) : Ring b B U W := ⟨Nat.le_trans h.size k.size, fun j h1 h2 => (k.block j h1 h2).trans (h.block j h1 h2)⟩
theorem Ring.of_kp (h : Kp V W) (hB : B ≤ V.heap.size) : Ring b B V W := ⟨Below.size h, fun j _ h2 => Below.block h j (by omega)⟩
theorem Ring.of_only {bs : List Nat} (h : Only bs V W) (hB : B ≤ V.heap.size) (hb : ∀ x ∈ bs, x < b ∨ B ≤ x) : Ring b B V W :=
  ⟨h.size, fun j h1 h2 => h.block j (by omega) (fun hm => by have := hb j hm; omega)⟩
theorem Ring.setCell (h : Ring b B U V) {p : Addr} (hp : p.block < b ∨ B ≤ p.block) (u : Value) : Ring b B U (V.setCell p u) :=
  h.trans ⟨by simp [World.setCell], fun j h1 h2 => Below.heap_setCell V p u j (by rintro rfl; omega)⟩
theorem Ring.alloc (h : Ring b B U V) (hB : B ≤ V.heap.size) (o : Obj) : Ring b B U (V.alloc o) := h.trans (Ring.of_kp ((Kp.refl V).alloc o) hB)
theorem Ring.grown {row : Option Nat} (h : Ring b B U V) (hB : B ≤ V.heap.size) (hg : V.grownBy W row) (hr : ∀ k, row = some k → k < b ∨ B ≤ k) : Ring b B U W :=
  h.trans ⟨hg.size, fun j h1 h2 => hg.block j (by omega) (fun e => by have := hr j e.symm; omega)⟩
theorem Ring.drew (h : Ring b B U V) : Ring b B U V.drew := h.trans ⟨Nat.le_refl _, fun _ _ _ => rfl⟩
theorem Ring.drewN (h : Ring b B U V) (n : Nat) : Ring b B U (V.drewN n) := h.trans ⟨Nat.le_refl _, fun _ _ _ => rfl⟩
end
theorem Turn.putObj {b B r : Nat} (V : World) (h1 : b ≤ r) (h2 : r < B) (o : Obj) : Turn b B V (V.putObj r o) :=
  Turn.of_only ((Only.refl [r] V).putObj (by simp) o) (by simpa using ⟨h1, h2⟩)
end Go.Proofs.YtffckpkikdlbpaaGreatDoor
