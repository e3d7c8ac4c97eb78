/- Lemmas and contracts for the theorem of this claim: TrD, Reg, Round, TrP, TrG, PfC, PfD, Range3, PfE, TrH, TrI, TrJ, TrK. -/
import Derived.Test.YtfaiponmjjbgoaaGreatDoorZbA
import Derived.BigFrameIn
import Derived.TacticsIn
import Derived.TacticsInMore
import Derived.Deep.Cut
import Derived.OwnWalkIn
import Derived.Deep.RegionHeld3
import Derived.Deep.LoopGhost
import Derived.Deep.DeepCutAuto
import Derived.StillTailTactics
import Derived.Deep.AppendLies
import Derived.BigGuardIn
import Derived.BigQuiet
import Derived.Laws.StructEq
set_option linter.unusedSimpArgs false
set_option linter.unusedVariables false
/- The trie's down: the places that it hands over. -/
namespace Go.Proofs.YtfaiponmjjbgoaaGreatDoor
open Go.RowKit

/-- The places from the top on whose nodes hold a prefix. -/
def Tr.way (q : Pn) (A : Nat × Nat) : Tr → List (Nat × Nat)
  | .nil => []
  | .node b p _ _ x y => if p.holds q then A :: (if p.l = q.l then [] else if bitN q.a p.l = 0 then Tr.way q (b, 4) x else Tr.way q (b, 5) y) else []

/-- What the iterator reads: its variables, the trie, the tree, the table of relations. -/
structure DownMem (tx px tr : Nat) (q : Pn) (many : Int) (t : Tr) (w : World) : Prop where
  tx : Blk w tx 64 #[.pointer (some ⟨tr, 0, none⟩)]
  px : Blk w px 26 #[.int .u32 q.a, .int .i64 q.l]
  tr : Blk w tr 87 #[t.ptr, .int .i64 many, .bool true]
  tm : TM w t
  rels : RelsAt w

/-- How far the iterator has come. -/
structure DownAt (tx px tr : Nat) (q : Pn) (many : Int) (t : Tr) (k : Nat) (s : Tr) (A : Nat × Nat) : Prop where
  way : Tr.way q A s = (Tr.way q (tr, 0) t).drop k
  mem : ∀ w, DownMem tx px tr q many t w → TM w s ∧ w.cell? ⟨A.1, A.2, none⟩ = some s.ptr
  wf : s.Wf
  le : k ≤ (Tr.way q (tr, 0) t).length

theorem ptr_ne_nil (w : World) (b : Nat) : (binOp .neq 85 (.pointer (some ⟨b, 0, none⟩)) (.pointer none)).run Tryz.prog w = .ok (.bool true) w := by kernel_rfl
theorem ptr_eq_nil (w : World) : (binOp .neq 85 (.pointer none) (.pointer none)).run Tryz.prog w = .ok (.bool false) w := by kernel_rfl

set_option maxRecDepth 100000 in
set_option maxHeartbeats 2000000 in
theorem down1_iter (tx px tr : Nat) (q : Pn) (many : Int) (t : Tr) (hq : q.ok) (ht : t.Wf) :
    Iter Tryz.prog 115 #[.pointer (some ⟨tx, 0, none⟩), .pointer (some ⟨px, 0, none⟩)] (Tr.way q (tr, 0) t).length (fun k => #[.pointer (some ⟨((Tr.way q (tr, 0) t).getD k (0, 0)).1, ((Tr.way q (tr, 0) t).getD k (0, 0)).2, none⟩)]) (DownMem tx px tr q many t) := by
  intro l I Z W hI hZ hM hy h0
  have HI := Lib.hid hI; clear hI
  have HZ := Lib.hid hZ; clear hZ
  have HM := Lib.hid hM; clear hM
  have HY := Lib.hid hy; clear hy
  obtain ⟨N, hN⟩ : ∃ N, (Tr.way q (tr, 0) t).length = N := ⟨_, rfl⟩
  rw [hN] at HY ⊢
  have HN := Lib.hid hN; clear hN
  have Hq := Lib.hid hq; clear hq
  have hql := Hq.out.2.1
  have hne := ptr_ne_nil
  have hen := ptr_eq_nil
  have D0 := HM.out 0 W h0
  have c0 : W.cell? ⟨tx, 0, none⟩ = some (.pointer (some ⟨tr, 0, none⟩)) := D0.tx.cell 0
  go_enter Tryz.func115, Tryz.ntmps115
  go_wp2_with fail
  clear c0 D0
  have H0 := Lib.hid h0; clear h0
  have start : DownAt tx px tr q many t 0 t (tr, 0) := ⟨by simp, fun w d => ⟨d.tm, d.tr.cell 0⟩, ht, Nat.zero_le _⟩
  have Hs := Lib.hid start; clear start ht
  go_loopg [4] N (fun g at_ wr => ∃ (k : Nat) (s : Tr) (a0 a1 : Nat), g = N - k ∧ k ≤ N ∧ at_ = .pointer (some ⟨a0, a1, none⟩) ∧ Hid (I k wr) ∧ Hid (DownAt tx px tr q many t k s (a0, a1)))
  case atStart => exact ⟨0, t, tr, 0, by omega, Nat.zero_le _, rfl, H0, Hs⟩
  case round =>
    obtain ⟨k, s, a0, a1, hgk, hkN, rfl, hi, hs⟩ := hrel
    have D := HM.out k wr hi.out
    obtain ⟨hTM, cA⟩ := hs.out.mem wr D
    simp only at cA
    have hG := Lib.hid D.rels
    have hwf := hs.out.wf
    have hway := hs.out.way
    have p0 : wr.cell? ⟨px, 0, none⟩ = some (.int .u32 q.a) := D.px.cell 0
    have p1 : wr.cell? ⟨px, 1, none⟩ = some (.int .i64 q.l) := D.px.cell 1
    cases s with
    | nil =>
      have hk : k = N := by
        have := congrArg List.length hway
        simp [Tr.way, HN.out] at this
        omega
      subst hk
      have cA' : wr.cell? ⟨a0, a1, none⟩ = some (.pointer none) := cA
      clear cA hway hTM hwf
      go_wp2_with fail
      go_quiet (fail)
      go_wp2_with fail
      go_end0
      exact ⟨rfl, .inl (HI.out _ _ _ hi.out ((Kp.refl _).drewN _))⟩
    | node b p v h x y =>
      have hp := hwf.1
      have hpl := hp.2.1
      have cA' : wr.cell? ⟨a0, a1, none⟩ = some (.pointer (some ⟨b, 0, none⟩)) := cA
      obtain ⟨B, hTx, hTy⟩ := hTM
      have n0 : wr.cell? ⟨b, 0, none⟩ = some (.int .u32 p.a) := B.cell 0
      have n1 : wr.cell? ⟨b, 1, none⟩ = some (.int .i64 p.l) := B.cell 1
      have Hp := Lib.hid hp
      have Hway := Lib.hid hway
      have Hwf := Lib.hid hwf
      clear cA hp hway hwf
      by_cases hh : p.holds q
      · have Hd := Lib.hid (show decide (p.holds q) = true by simpa using hh)
        have Hh := Lib.hid hh; clear hh
        go_upto_region 1 with (fail)
        go_cut [22] from 9 to 22 (fun s22 wx => s22 = .bool true ∧ Kp wr wx)
        case first =>
          go_region_held3 (fun w' => w'.cell? ⟨px, 0, none⟩ = some (.int .u32 q.a) ∧ w'.cell? ⟨px, 1, none⟩ = some (.int .i64 q.l) ∧ w'.cell? ⟨a0, a1, none⟩ = some (.pointer (some ⟨b, 0, none⟩)) ∧ w'.cell? ⟨b, 0, none⟩ = some (.int .u32 p.a) ∧ w'.cell? ⟨b, 1, none⟩ = some (.int .i64 p.l))
            (first | exact ⟨Ka.cell p0, Ka.cell p1, Ka.cell cA', Ka.cell n0, Ka.cell n1⟩ | go_keep)
            (first | (go_at_call 116; refine (within_any q p _ (hG.out.keep (Kp.refl _).drew) Hq.out Hp.out).mono ?_; rintro e wa ⟨rfl, hKa⟩; rw [Hd.out]; have Ka : Kp wr wa := (Kp.refl wr).drew.trans hKa))
          go_wp2_with fail
          go_meet
          case rel => exact ⟨rfl, Ka⟩
        case rest =>
          obtain ⟨rfl, hKc⟩ := hcut
          have hic := Lib.hid (HI.out k wr wc hi.out hKc)
          have Dc := HM.out k wc hic.out
          obtain ⟨⟨Bc, _, _⟩, cAc⟩ := hs.out.mem wc Dc
          have cAc' : wc.cell? ⟨a0, a1, none⟩ = some (.pointer (some ⟨b, 0, none⟩)) := cAc
          clear p0 p1 n0 n1 cA' B hTx hTy cAc hG D hi
          go_upto_region 3 with (fail)
          have hgd : (Tr.way q (tr, 0) t).getD k (0, 0) = (a0, a1) ∧ k < N := by
            have hw := Hway.out
            simp only [Tr.way, Hh.out, if_true] at hw
            have h1 : (Tr.way q (tr, 0) t)[k]? = some (a0, a1) := by
              have := congrArg (fun l => l[0]?) hw
              simpa using this.symm
            have h2 := (List.getElem?_eq_some_iff.1 h1).1
            rw [HN.out] at h2
            exact ⟨by simp [List.getD, h1], h2⟩
          obtain ⟨fn, tmps, asg, bd, hrun, hround⟩ := HY.out k wc.drew hgd.2 (HI.out k wc wc.drew hic.out (Kp.refl _).drew)
          rw [hgd.1] at hrun
          simp only at hrun
          refine (wpIn_wide (n := 0)).1 ?_
          refine wpIn_region_any (by kernel_rfl) ?_
          change wpAnyIn _ _ _ _ _ _ _ _ _ (World.drew _)
          refine wpAnyIn_take (i := 0) (v := .func (.yield l) #[] #[]) rfl rfl (by kernel_rfl) (by kernel_rfl) (by kernel_rfl) (fun _ _ _ h => h) ⟨Or.inl ⟨by rfl, fun w => by go_simp⟩, fun _ => rfl⟩ ?_
          refine wpAnyIn_take (i := 1) (v := .pointer (some ⟨a0, a1, none⟩)) rfl rfl (by kernel_rfl) (by kernel_rfl) (by kernel_rfl) (fun _ _ _ h => h) ⟨Or.inl ⟨by rfl, fun w => by go_simp⟩, fun _ => rfl⟩ ?_
          refine wpAnyIn_ready (rs := [2]) (by kernel_rfl) (by simp) ?_
          refine AllReadyIn.cons rfl (fun K hK => ?_) AllReadyIn.nil
          go_simp
          refine ⟨rfl, hround.mono ?_⟩
          clear hrun hround
          rintro e W' (⟨rfl, hi2⟩ | ⟨rfl, hz⟩)
          · have Hi2 := Lib.hid hi2; clear hi2
            have D2 := HM.out (k + 1) W' Hi2.out
            obtain ⟨⟨B2, _, _⟩, _⟩ := hs.out.mem W' D2
            have p0 : W'.cell? ⟨px, 0, none⟩ = some (.int .u32 q.a) := D2.px.cell 0
            have p1 : W'.cell? ⟨px, 1, none⟩ = some (.int .i64 q.l) := D2.px.cell 1
            have n1 : W'.cell? ⟨b, 1, none⟩ = some (.int .i64 p.l) := B2.cell 1
            have hk1 := hgd.2
            clear hgd cAc' Bc Dc
            refine hK _ _ ?_
            clear hK K
            by_cases hl : p.l = q.l
            · have hkk : k + 1 = N := by
                have hw := congrArg List.length Hway.out
                simp [Tr.way, Hh.out, hl, HN.out] at hw
                omega
              have e1 : ((p.l : Int) == (q.l : Int)) = true := by simp [hl]
              have Hl := Lib.hid hl; clear hl
              refine wpAnyIn_rest 3 rfl rfl (by kernel_rfl) (by kernel_rfl) ?_
              simp only [List.drop_succ_cons, List.drop_zero]
              repeat (quiet_step_in (fail))
              refine wpQuietIn_nil ?_
              rintro w' ⟨nq, rfl⟩
              go_wp2_with fail
              refine bodyPost_ret (v := .tuple #[]) (by simp [results, Tryz.results115, go_sem]) rfl ?_
              exact ⟨rfl, .inl (by rw [← hkk]; exact HI.out _ _ _ Hi2.out ((Kp.refl _).drewN _))⟩
            · have e1 : ((p.l : Int) == (q.l : Int)) = false := by simp; omega
              have Hl := Lib.hid hl; clear hl
              refine wpAnyIn_rest 3 rfl rfl (by kernel_rfl) (by kernel_rfl) ?_
              simp only [List.drop_succ_cons, List.drop_zero]
              repeat (quiet_step_in (fail))
              refine wpQuietIn_nil ?_
              rintro w' ⟨nq, rfl⟩
              go_wp2_with fail
              rcases bit_cases q.a p.l with hb | hb
              · have Hb := Lib.hid hb
                go_region_held3 (fun w' => w'.cell? ⟨px, 0, none⟩ = some (.int .u32 q.a) ∧ w'.cell? ⟨b, 1, none⟩ = some (.int .i64 p.l)) (go_keep)
                  (first | (go_at_call 97; refine (bit_any q.a p.l _ Hq.out.1 hpl).mono ?_; rintro e w' ⟨rfl, rfl⟩; rw [Hb.out]))
                go_wp2_with fail
                go_roundg (N - (k + 1))
                case measure => omega
                case rel =>
                  refine ⟨k + 1, x, b, 4, rfl, by omega, rfl, HI.out _ _ _ Hi2.out ((Kp.refl _).drewN _), ?_⟩
                  refine ⟨?_, fun w d => ?_, Hwf.out.2.2.2.1, by rw [HN.out]; omega⟩
                  · have hw := Hway.out
                    simp only [Tr.way, Hh.out, Hl.out, Hb.out, if_true, if_false] at hw
                    have := congrArg List.tail hw
                    simpa using this
                  · obtain ⟨⟨h1, h2, h3⟩, _⟩ := hs.out.mem w d
                    exact ⟨h2, h1.cell 4⟩
              · have Hb := Lib.hid hb
                go_region_held3 (fun w' => w'.cell? ⟨px, 0, none⟩ = some (.int .u32 q.a) ∧ w'.cell? ⟨b, 1, none⟩ = some (.int .i64 p.l)) (go_keep)
                  (first | (go_at_call 97; refine (bit_any q.a p.l _ Hq.out.1 hpl).mono ?_; rintro e w' ⟨rfl, rfl⟩; rw [Hb.out]))
                go_wp2_with fail
                go_roundg (N - (k + 1))
                case measure => omega
                case rel =>
                  refine ⟨k + 1, y, b, 5, rfl, by omega, rfl, HI.out _ _ _ Hi2.out ((Kp.refl _).drewN _), ?_⟩
                  refine ⟨?_, fun w d => ?_, Hwf.out.2.2.2.2, by rw [HN.out]; omega⟩
                  · have hw := Hway.out
                    simp only [Tr.way, Hh.out, Hl.out, Hb.out, if_true, if_false, show ¬ (1 : Nat) = 0 by omega] at hw
                    have := congrArg List.tail hw
                    simpa using this
                  · obtain ⟨⟨h1, h2, h3⟩, _⟩ := hs.out.mem w d
                    exact ⟨h3, h1.cell 5⟩
          · have Hz := Lib.hid hz; clear hz
            have hk1 := hgd.2
            clear hgd cAc' Bc Dc
            refine hK _ _ ?_
            clear hK K
            refine wpAnyIn_rest 3 rfl rfl (by kernel_rfl) (by kernel_rfl) ?_
            simp only [List.drop_succ_cons, List.drop_zero]
            repeat (quiet_step_in (fail))
            refine wpQuietIn_nil ?_
            rintro w' ⟨nq, rfl⟩
            go_wp2_with fail
            refine bodyPost_ret (v := .tuple #[]) (by simp [results, Tryz.results115, go_sem]) rfl ?_
            exact ⟨rfl, .inr ⟨k + 1, by omega, by omega, HZ.out _ _ _ Hz.out ((Kp.refl _).drewN _)⟩⟩
      · have Hd := Lib.hid (show decide (p.holds q) = false by simpa using hh)
        have hk : k = N := by
          have := congrArg List.length Hway.out
          simp [Tr.way, hh, HN.out] at this
          omega
        subst hk
        clear hh
        go_upto_region 1 with (fail)
        go_cut [22] from 9 to 22 (fun s22 wx => s22 = .bool false ∧ Kp wr wx)
        case first =>
          go_region_held3 (fun w' => w'.cell? ⟨px, 0, none⟩ = some (.int .u32 q.a) ∧ w'.cell? ⟨px, 1, none⟩ = some (.int .i64 q.l) ∧ w'.cell? ⟨a0, a1, none⟩ = some (.pointer (some ⟨b, 0, none⟩)) ∧ w'.cell? ⟨b, 0, none⟩ = some (.int .u32 p.a) ∧ w'.cell? ⟨b, 1, none⟩ = some (.int .i64 p.l))
            (first | exact ⟨Ka.cell p0, Ka.cell p1, Ka.cell cA', Ka.cell n0, Ka.cell n1⟩ | go_keep)
            (first | (go_at_call 116; refine (within_any q p _ (hG.out.keep (Kp.refl _).drew) Hq.out Hp.out).mono ?_; rintro e wa ⟨rfl, hKa⟩; rw [Hd.out]; have Ka : Kp wr wa := (Kp.refl wr).drew.trans hKa))
          go_wp2_with fail
          go_meet
          case rel => exact ⟨rfl, Ka⟩
        case rest =>
          obtain ⟨rfl, hKc⟩ := hcut
          have hic := Lib.hid (HI.out k wr wc hi.out hKc)
          have Dc := HM.out k wc hic.out
          obtain ⟨⟨Bc, _, _⟩, cAc⟩ := hs.out.mem wc Dc
          have cAc' : wc.cell? ⟨a0, a1, none⟩ = some (.pointer (some ⟨b, 0, none⟩)) := cAc
          clear p0 p1 n0 n1 cA' B hTx hTy cAc hG D hi
          go_wp2_with fail
          go_end0
          exact ⟨rfl, .inl hic.out⟩
end Go.Proofs.YtfaiponmjjbgoaaGreatDoor

/- A region that draws its order, of which all but the last operations only read: walked in the order of the text, in a world that is a letter. No condition. -/
namespace Go.Proofs.YtfaiponmjjbgoaaGreatDoor
open Go.RowKit

theorem wp_tail {P : Program} {id : Nat} {Q : Exit → Act → World → Prop} {a : Act} {w : World} {l : List Oper} (n : Nat) (hm : P.follows .mixedOrders = true) (hB : Region.lexTailB .any l.toArray n = true)
    (h : ∀ W, W = w.drew → wpStill P l.toArray W (fun a' => wpList P l.toArray Q (l.drop n) a' W) (l.take n) a) : (Code.region id l.toArray true).wp P Q a w :=
  wp_region_still_tail n hm hB (h _ rfl)

/-- append of one element, which lies in a block of its own, to a row of the call's own: at a step of a region that draws its order. -/
theorem step_appx {α : Type} {enc : α → List Value} {P : Program} {t e e' : TypeId} {z : Value} {size bytes : Nat} (E : ElemOf P t e z size bytes) {w : World} {ops : Array Oper} {o : Oper} {a : Act} {K : Act → World → Prop} {Q : Exit → Act → World → Prop} {X : Prop}
    (hgd : o.guard = none) (s x : Operand) (ho : o.op = .call { callee := .builtin .append, args := #[s, x], argTypes := #[t, t] })
    {base : Nat} {v : Value} {xs : List α} {news : List Value} (y : α) (hs : a.eval s = v) (hown : Own w base e size enc v xs) (hbase : base ≤ w.heap.size)
    {N : Nat} (hx : a.eval x = .slice (some ⟨N, 0, none⟩) 1 1) (hB : Blk w N e' news.toArray) (hnews : news = enc y) (hl : news.length = size) (h1 : news.all (fun u => u.oneCell') = true) (hfit : (xs.length + 1) * (bytes + 1) ≤ 140737488355328)
    (h : ∀ g cap w', Own w' base e size enc (.slice (some ⟨g, 0, none⟩) (xs.length + 1) cap) (xs ++ [y]) → w.grownBy w' v.ownBlock → (v.ownBlock = some g ∨ g = w.heap.size) → K (a.put o.dst (.slice (some ⟨g, 0, none⟩) (xs.length + 1) cap)) w') :
    if Region.wanted o (yielded ops a.tmps) = true then Oper.wp P o a w K Q else X := by
  obtain ⟨ht, hinfo, hzs, hsz⟩ := E
  obtain ⟨i, hi, hz, hsize, hby⟩ := info_parts hinfo
  have hb2 : (xs.length + 1) * (bytes + 1) = (xs.length + 1) * bytes + (xs.length + 1) := by rw [Nat.mul_add, Nat.mul_one]
  refine step_append_lies _ hgd s x t ho base e i z size bytes ht hi hz hsize hby hzs hsz v xs.length (xs.flatMap enc) hs hown ⟨N, 0, none⟩ 1 1 news hx (by omega) (fun j u hu => World.news_of_block hB j u (by simpa using hu)) (by simpa using h1) (by omega) (by simp only [maxLen]; omega) (by omega) hbase _ rfl ?_
  intro g cap w' ho' hg hat _
  refine h g cap w' ?_ hg hat
  unfold Own
  rw [List.length_append, List.flatMap_append, List.length_singleton, List.flatMap_cons, List.flatMap_nil, List.append_nil, ← hnews]
  exact ho'
theorem Kp.far {w w' : World} {row : Option Nat} (hg : w.grownBy w' row) {p : Addr} {v : Value} (hc : w.cell? p = some v) (hne : some p.block ≠ row) : w'.cell? p = some v := (hg.cell_far p (World.block_lt_of_cell? w p hc) hne).trans hc
end Go.Proofs.YtfaiponmjjbgoaaGreatDoor

/- Regions that draw their order, inside a round of a range over a function: walked as plain ones. No condition. -/
namespace Go.Proofs.YtfaiponmjjbgoaaGreatDoor
open Go.RowKit

/-- No operation defers. -/
def noDefer (ops : Array Oper) : Bool := ops.toList.all (fun o => match o.op with | .defer _ => false | _ => true)
theorem noDefer_spec {ops : Array Oper} (h : noDefer ops = true) {i : Nat} {o : Oper} (hi : ops[i]? = some o) : ∀ c, o.op ≠ .defer c := by
  intro c hc
  have hm : o ∈ ops.toList := by
    rw [Array.mem_toList_iff]
    exact Array.mem_of_getElem? hi
  have := List.all_eq_true.1 h o hm
  rw [hc] at this
  cases this

theorem wpOpIn_of_wpOp {l : Nat} {P : Program} {ops : Array Oper} {Q : Exit → Act → World → Prop} (hQ : ¬ LetsOut Q) (hnd : noDefer ops = true) {i : Nat} {K : Act → World → Prop} {a : Act} {w : World}
    (h : wpOp P ops Q i K a w) : wpOpIn (Fence.wide.inRound l) 0 P ops Q i K a w := by
  unfold wpOp at h
  unfold wpOpIn
  cases ho : ops[i]? with
  | none => rw [ho] at h; exact h
  | some o =>
    rw [ho] at h
    simp only at h ⊢
    split
    · rename_i hw
      rw [if_pos hw] at h
      rcases h with h | h
      · refine ⟨fun _ _ => trivial, ?_⟩
        rw [Oper.semAt_eq _ _ _ (noDefer_spec hnd ho)]
        unfold Oper.wp at h
        generalize (execOp a.eval o).run P w = r at h
        unfold Oper.upon at h
        unfold Oper.uponIn
        split at h
        · exact h
        · exact h
        · exact h
        · exact ⟨(fun h => by cases h), CallsIn.inRound l (callsIn_wide.2 (h.mono fun e w'' hh => by cases e <;> exact hh))⟩
        · exact ⟨(fun h => by cases h), fun c cs _ => let ⟨v, w', r, s⟩ := h c cs; ⟨v, w', r, stepsIn_wide.2 s⟩⟩
        · exact h
        · exact h.elim
      · exact absurd h.2 hQ
    · rename_i hw
      rw [if_neg hw] at h
      exact ⟨fun _ _ => trivial, h⟩

theorem wpAnyIn_of_wpAny {l : Nat} {P : Program} {ops : Array Oper} {Q : Exit → Act → World → Prop} (hQ : ¬ LetsOut Q) (hnd : noDefer ops = true) {md : Region.Mode} : ∀ (fuel : Nat) (listed : Array Bool) (a : Act) (w : World),
    wpAny P md ops Q fuel listed a w → wpAnyIn (Fence.wide.inRound l) 0 P md ops Q fuel listed a w
  | 0, _, _, _, h => h
  | fuel + 1, listed, a, w, h => ⟨h.1, fun i hi => wpOpIn_mono (fun a w hh => wpAnyIn_of_wpAny hQ hnd fuel _ a w hh) (wpOpIn_of_wpOp hQ hnd (h.2 i hi))⟩

theorem wpAny_tail {P : Program} {Q : Exit → Act → World → Prop} {a : Act} {W : World} {l : List Oper} (n : Nat) (hB : Region.lexTailB .any l.toArray n = true)
    (h : wpStill P l.toArray W (fun a' => wpList P l.toArray Q (l.drop n) a' W) (l.take n) a) : wpAny P .any l.toArray Q l.toArray.size (Array.replicate l.toArray.size false) a W := by
  simp only [Region.lexTailB, Bool.and_eq_true, decide_eq_true_eq] at hB
  obtain ⟨⟨⟨⟨h1, h2⟩, h3⟩, h4⟩, h5⟩ := hB
  have e0 : n < l.length := by simpa using h2
  have e1 : (l.take n).length = n := by rw [List.length_take]; omega
  have e2 : (l.drop n).length = l.toArray.size - n := by rw [List.length_drop, List.size_toArray]
  have start : HeadInv .any l.toArray n (Array.replicate l.toArray.size false) := ⟨by simp, fun j _ _ hl => (by rw [getD_replicate_false] at hl; cases hl), fun t _ ht => getD_in (by simpa using ht) (getD_replicate_false _ _)⟩
  have hl : ∀ j, j < (l.take n).length → (l.take n)[j]? = l.toArray[0 + j]? := fun j hj => by
    rw [e1] at hj; simp [hj]
  have head := wpAnyL_lex (md := .any) (g := l.toArray.size - n) h1 h3 h4 h2 (l.take n) 0 _ a hl (by omega) start (by rw [e1]; exact h5) h
  have all := wpAny_of_head (Q' := Q) (g := l.toArray.size - n) (fun listed a' hL => by
    have t := wpAny_of_seq (md := .any) (Q' := Q) (l.drop n) n listed a' W (fun j => by simp [List.getElem?_drop]) (by rw [e2]; exact hL.1) hL.2
    rw [e2] at t; exact t) _ _ _ head
  rw [e1, show n + (l.toArray.size - n) = l.toArray.size by omega] at all
  exact all

/-- A drawn region in a round, of which all but the last operations only read: walked in the order of the text, in a world that is a letter. -/
theorem round_tail {r id : Nat} {P : Program} {Q : Exit → Act → World → Prop} {a : Act} {w : World} {l : List Oper} (n : Nat) (hm : P.follows .mixedOrders = true) (hB : Region.lexTailB .any l.toArray n = true) (hnd : noDefer l.toArray = true) (hQ : ¬ LetsOut Q)
    (h : ∀ W, W = w.drew → wpStill P l.toArray W (fun a' => wpList P l.toArray Q (l.drop n) a' W) (l.take n) a) : (Code.region id l.toArray true).wpIn (Fence.wide.inRound r) 0 P Q a w :=
  wpIn_region_any hm (wpAnyIn_of_wpAny hQ hnd _ _ _ _ (wpAny_tail n hB (h _ rfl)))
theorem no_out {Q : Exit → Act → World → Prop} {K : Act → World → Prop} (h : ¬ LetsOut Q) : ¬ LetsOut (Exit.then K Q) := fun ⟨a, w, hh⟩ => h ⟨a, w, hh⟩
theorem no_out_block {Q : Exit → Act → World → Prop} {id : Nat} (h : ¬ LetsOut Q) : ¬ LetsOut (Exit.inBlock id Q) := fun ⟨a, w, hh⟩ => h ⟨a, w, hh⟩
theorem no_out_round {w : World} {I : Nat → World → Prop} {Ix : Code → Nat → World → Prop} {k : Nat} {W : World} : ¬ LetsOut (rndPost w I Ix k W) := fun ⟨_, _, hh⟩ => hh
end Go.Proofs.YtfaiponmjjbgoaaGreatDoor

/- The trie's place: where the node of a prefix stands, or would come to stand. -/
namespace Go.Proofs.YtfaiponmjjbgoaaGreatDoor
open Go.RowKit
attribute [local go_sem] Oper.semAt_some

theorem takes_one {W : World} {r : Nat} (hd : W.heap[r]? = some (.deferred (some []))) {K : World → Prop} (h : ∀ W', Only [r] W W' → K W') : Takes [{ target := .collected r, args := #[] }] W K :=
  ⟨r, rfl, hd, h _ ((Only.refl [r] W).putObj (by simp) _)⟩
theorem makeFunc_run (fn : Fn) (first cap : Array Value) (w : World) : (Instr.makeFunc fn first cap).run Tryz.prog w = .ok (.func fn first cap) w := rfl
theorem call_down1 (args : Array Value) (w : World) : (callFunc 115 args).run Tryz.prog w = .ok (.enter 115 args) w := by kernel_rfl

set_option maxHeartbeats 400000 in
theorem down_any (tr : Nat) (q : Pn) (w : World) :
    Calls Tryz.prog 94 #[.pointer (some ⟨tr, 0, none⟩), .agg #[.int .u32 q.a, .int .i64 q.l]] w fun e w' => e = .returned (.func (.func 115) #[] #[.pointer (some ⟨w.heap.size, 0, none⟩), .pointer (some ⟨w.heap.size + 1, 0, none⟩)]) ∧
      Blk w' w.heap.size 64 #[.pointer (some ⟨tr, 0, none⟩)] ∧ Blk w' (w.heap.size + 1) 26 #[.int .u32 q.a, .int .i64 q.l] ∧ Kp w w' := by
  have hmf := makeFunc_run
  go_enter Tryz.func94, Tryz.ntmps94
  go_wp2_with fail
  go_ret
  exact ⟨rfl, (Blk.new w _ _).alloc _, Blk.new1 w _ _ _, ((Kp.refl _).alloc _).alloc _⟩

theorem DownMem.only {tx px tr : Nat} {q : Pn} {many : Int} {t : Tr} {w w' : World} {bs : List Nat} (h : DownMem tx px tr q many t w) (k : Only bs w w') (h1 : tx ∉ bs) (h2 : px ∉ bs) (h3 : tr ∉ bs) (h4 : ∀ b ∈ t.bs, b ∉ bs) (h5 : 0 ∉ bs) : DownMem tx px tr q many t w' :=
  ⟨h.tx.only k h1, h.px.only k h2, h.tr.only k h3, TM.only k h.tm h4, ⟨k.cell h.rels.1 h5, k.cell h.rels.2.1 h5, k.cell h.rels.2.2.1 h5, k.cell h.rels.2.2.2 h5⟩⟩

/-- So far: the place, and what is beneath it. -/
def PlI (w0 : World) (ab tx px tr : Nat) (q : Pn) (many : Int) (t : Tr) (k : Nat) (W : World) : Prop :=
  Only [ab] w0 W ∧ ∃ s a0 a1, DownAt tx px tr q many t k s (a0, a1) ∧ Tr.place q (a0, a1) s = Tr.place q (tr, 0) t ∧ Blk W ab 130 #[.pointer (some ⟨a0, a1, none⟩)]
def PlZ (w0 : World) (ab : Nat) (pl : Nat × Nat) (W : World) : Prop := Only [ab] w0 W ∧ Blk W ab 130 #[.pointer (some ⟨pl.1, pl.2, none⟩)]

theorem pl_done {w0 : World} {ab tx px tr : Nat} {q : Pn} {many : Int} {t : Tr} {W : World} (h : PlI w0 ab tx px tr q many t (Tr.way q (tr, 0) t).length W) : PlZ w0 ab (Tr.place q (tr, 0) t) W := by
  obtain ⟨h1, s, a0, a1, d, e, B⟩ := h
  refine ⟨h1, ?_⟩
  have hw := d.way
  rw [List.drop_length] at hw
  have : Tr.place q (a0, a1) s = (a0, a1) := by
    cases s with
    | nil => rfl
    | node b p v hh x y =>
      by_cases hp : p.holds q
      · simp [Tr.way, hp] at hw
      · simp [Tr.place, hp]
  rw [← e, this]
  exact B

set_option maxRecDepth 100000 in
set_option maxHeartbeats 2000000 in
theorem place_any (tr : Nat) (q : Pn) (many : Int) (t : Tr) (w : World) (hG : RelsAt w) (hT : Blk w tr 87 #[t.ptr, .int .i64 many, .bool true]) (hM : TM w t) (ht : t.Wf) (hq : q.ok) :
    Calls Tryz.prog 70 #[.pointer (some ⟨tr, 0, none⟩), .agg #[.int .u32 q.a, .int .i64 q.l]] w fun e w' => e = .returned (.pointer (some ⟨(Tr.place q (tr, 0) t).1, (Tr.place q (tr, 0) t).2, none⟩)) ∧ Kp w w' := by
  have hglt := World.block_lt_of_cell? w _ hG.1
  have htlt := hT.lt
  have hblt := Lib.hid (TM.lt hM)
  refine calls_of_wp_marks Tryz.func70 rfl ?_; simp only [Tryz.ntmps70, List.size_toArray, List.length_cons, List.length_nil, Nat.reduceAdd, Nat.reduceSub, Array.replicate_succ, Array.replicate_zero, List.push_toArray, List.append_toArray, List.nil_append, List.cons_append]
  go_wp2_with fail
  refine wp_scope_fwd 0 rfl ?_
  go_wp2_with fail
  go_step3
  go_wp2_with fail
  refine (down_any tr q _).mono ?_
  simp only [World.size_alloc]
  rintro e w1 ⟨rfl, Dx, Dp, hK1⟩
  have kw : Kp w w1 := (((Kp.refl _).alloc _).alloc _).trans hK1
  have P1 : Blk w1 w.heap.size 26 #[.int .u32 q.a, .int .i64 q.l] := ((Blk.new w _ _).alloc _).keep hK1
  have A1 : Blk w1 (w.heap.size + 1) 130 #[.pointer (some ⟨tr, 0, none⟩)] := (Blk.new1 w _ _ _).keep hK1
  have D1 : DownMem (w.heap.size + 1 + 1) (w.heap.size + 1 + 1 + 1) tr q many t w1 := ⟨Dx, Dp, hT.keep kw, hM.keep kw, hG.keep kw⟩
  clear hK1
  have hpos := D1.px.lt
  have near : Hid (∀ k W, PlI w1 (w.heap.size + 1) (w.heap.size + 1 + 1) (w.heap.size + 1 + 1 + 1) tr q many t k W → DownMem (w.heap.size + 1 + 1) (w.heap.size + 1 + 1 + 1) tr q many t W) := fun k W h =>
    D1.only h.1 (by simp <;> omega) (by simp <;> omega) (by simp <;> omega) (fun b hb => by have := hblt.out b hb; simp; omega) (by simp only [List.mem_singleton]; omega)
  have lift : ∀ W W', Only [w.heap.size + 1] w1 W → Only [w1.heap.size, w1.heap.size + 1] W W' → Only [w.heap.size + 1] w1 W' := fun W W' h1 hO =>
    ⟨hO.os.trans h1.os, hO.tape.trans h1.tape, hO.output.trans h1.output, Nat.le_trans h1.size hO.size, fun i hi hn => (hO.block i (Nat.lt_of_lt_of_le hi h1.size) (by simp; omega)).trans (h1.block i hi hn)⟩
  have Hlift := Lib.hid lift; clear lift
  have kept : Hid (∀ W2 V u, w1.heap.size + 1 < W2.heap.size → Only [w.heap.size + 1] W2 V → Kept2 w1 W2 (V.setCell ⟨w.heap.size + 1, 0, none⟩ u)) := fun W2 V u hs hO =>
    ⟨(Below.heap_setCell _ _ _ _ (by simp; omega)).trans (hO.block _ (by omega) (by simp; omega)), (Below.heap_setCell _ _ _ _ (by simp; omega)).trans (hO.block _ (by omega) (by simp; omega))⟩
  have Hq := Lib.hid hq
  have Ht := Lib.hid ht
  have hmm := hq.2.1
  clear hM hT hq ht Dx Dp hG
  go_wp2_with fail
  refine wp_range_join (N := (Tr.way q (tr, 0) t).length) rfl call_down1 (down1_iter (w.heap.size + 1 + 1) (w.heap.size + 1 + 1 + 1) tr q many t Hq.out Ht.out) (fun _ _ => rfl)
    (PlI w1 (w.heap.size + 1) (w.heap.size + 1 + 1) (w.heap.size + 1 + 1 + 1) tr q many t) (fun _ W => PlZ w1 (w.heap.size + 1) (Tr.place q (tr, 0) t) W) (PlZ w1 (w.heap.size + 1) (Tr.place q (tr, 0) t)) ?_ ?_ near.out ?_ ?_ (fun _ _ _ _ h => h) ?_ ?_
  · rintro k W W' ⟨h1, s, a0, a1, d, e, B⟩ hO
    exact ⟨Hlift.out W W' h1 hO, s, a0, a1, d, e, B.only hO (by simp; omega)⟩
  · rintro k W W' ⟨h1, B⟩ hO
    exact ⟨Hlift.out W W' h1 hO, B.only hO (by simp; omega)⟩
  · exact ⟨Only.refl _ _, t, tr, 0, ⟨by simp, fun w d => ⟨d.tm, d.tr.cell 0⟩, Ht.out, Nat.zero_le _⟩, rfl, A1⟩
  · intro W h; exact pl_done h
  · intro l k W hk _
    gi_wp2_with fail
    refine ⟨trivial, ?_⟩
    rintro W2 ⟨j1, s, a0, a1, d, e, B⟩ hsz
    have D2 := near.out k W2 ⟨j1, s, a0, a1, d, e, B⟩
    have hw := d.way
    cases s with
    | nil =>
      have := congrArg List.length hw
      simp [Tr.way] at this
      omega
    | node b p v hh x y =>
      have hp : p.holds q := by
        by_cases h : p.holds q
        · exact h
        · have := congrArg List.length hw
          simp [Tr.way, h] at this
          omega
      have hgd : (Tr.way q (tr, 0) t)[k]? = some (a0, a1) := by
        have hw' := hw
        simp only [Tr.way, hp, if_true] at hw'
        have := congrArg (fun l => l[0]?) hw'
        simpa using this.symm
      have hgk : (Tr.way q (tr, 0) t)[k] = (a0, a1) := by
        obtain ⟨_, h⟩ := List.getElem?_eq_some_iff.mp hgd
        exact h
      simp only [hgk]
      obtain ⟨⟨N2, _, _⟩, cA⟩ := d.mem W2 D2
      have P2 := P1.only j1 (by simp)
      have cA' : W2.cell? ⟨a0, a1, none⟩ = some (.pointer (some ⟨b, 0, none⟩)) := cA
      have n1 : W2.cell? ⟨b, 1, none⟩ = some (.int .i64 p.l) := N2.cell 1
      have q0 : W2.cell? ⟨w.heap.size, 0, none⟩ = some (.int .u32 q.a) := P2.cell 0
      have q1 : W2.cell? ⟨w.heap.size, 1, none⟩ = some (.int .i64 q.l) := P2.cell 1
      have Hd := Lib.hid d; have He := Lib.hid e; have Hw := Lib.hid hw; have Hp := Lib.hid hp
      clear d e hw hp hgd hgk cA
      by_cases hl : p.l = q.l
      · have e1 : ((p.l : Int) == (q.l : Int)) = true := by simp [hl]
        have Hl := Lib.hid hl; clear hl
        gi_wp2_with fail
        refine round_tail 9 (by kernel_rfl) (by kernel_rfl) (by kernel_rfl) (no_out (no_out (no_out_block no_out_round))) (fun V hV => ?_)
        have jV : Only [w.heap.size + 1] w1 V := by rw [hV]; exact j1.drew
        have BV : Blk V (w.heap.size + 1) 130 #[.pointer (some ⟨a0, a1, none⟩)] := by rw [hV]; exact B
        have c1 : V.cell? ⟨a0, a1, none⟩ = some (.pointer (some ⟨b, 0, none⟩)) := by rw [hV]; exact cA'
        have c2 : V.cell? ⟨b, 1, none⟩ = some (.int .i64 p.l) := by rw [hV]; exact n1
        have c3 : V.cell? ⟨w.heap.size, 1, none⟩ = some (.int .i64 q.l) := by rw [hV]; exact q1
        have z0 := BV.frozen 0
        have y0 : V.cell? ⟨w.heap.size + 1, 0, none⟩ = some (.pointer (some ⟨a0, a1, none⟩)) := BV.cell 0
        have OV : Only [w.heap.size + 1] W2 V := by rw [hV]; exact (Only.refl _ _).drew
        clear hV cA' n1 q0 q1
        simp only [List.take_succ_cons, List.take_zero, List.drop_succ_cons, List.drop_zero]
        repeat still_step
        refine wpStill_nil ?_
        go_wp2_with fail
        gi_wp2_with fail
        have hpl2 : Tr.place q (tr, 0) t = (a0, a1) := by
          rw [← He.out]; simp only [Tr.place, Hp.out, Hl.out, if_true]
        exact ⟨kept.out _ _ _ hsz OV, rfl, jV.setCell (.inl (by simp)) _, by rw [hpl2]; exact BV.set_ 0 _⟩
      · have e1 : ((p.l : Int) == (q.l : Int)) = false := by simp; omega
        have Hl := Lib.hid hl
        have Hpl := Lib.hid (show p.l ≤ 32 from Hd.out.wf.1.2.1)
        clear hl
        rcases bit_cases q.a p.l with hb | hb
        · have Hb := Lib.hid hb; clear hb
          gi_wp2_with fail
          refine round_tail 9 (by kernel_rfl) (by kernel_rfl) (by kernel_rfl) (no_out (no_out (no_out_block no_out_round))) (fun V hV => ?_)
          have jV : Only [w.heap.size + 1] w1 V := by rw [hV]; exact j1.drew
          have BV : Blk V (w.heap.size + 1) 130 #[.pointer (some ⟨a0, a1, none⟩)] := by rw [hV]; exact B
          have c1 : V.cell? ⟨a0, a1, none⟩ = some (.pointer (some ⟨b, 0, none⟩)) := by rw [hV]; exact cA'
          have c2 : V.cell? ⟨b, 1, none⟩ = some (.int .i64 p.l) := by rw [hV]; exact n1
          have c3 : V.cell? ⟨w.heap.size, 1, none⟩ = some (.int .i64 q.l) := by rw [hV]; exact q1
          have c0 : V.cell? ⟨w.heap.size, 0, none⟩ = some (.int .u32 q.a) := by rw [hV]; exact q0
          have z0 := BV.frozen 0
          have y0 : V.cell? ⟨w.heap.size + 1, 0, none⟩ = some (.pointer (some ⟨a0, a1, none⟩)) := BV.cell 0
          have OV : Only [w.heap.size + 1] W2 V := by rw [hV]; exact (Only.refl _ _).drew
          clear hV cA' n1 q0 q1 N2 P2
          simp only [List.take_succ_cons, List.take_zero, List.drop_succ_cons, List.drop_zero]
          repeat still_step
          refine wpStill_nil ?_
          go_wp2_with fail
          gi_wp2_with fail
          refine round_tail 16 (by kernel_rfl) (by kernel_rfl) (by kernel_rfl) (no_out_block no_out_round) (fun U hU => ?_)
          have jU : Only [w.heap.size + 1] w1 U := by rw [hU]; exact jV.drew
          have BU : Blk U (w.heap.size + 1) 130 #[.pointer (some ⟨a0, a1, none⟩)] := by rw [hU]; exact BV
          have d1 : U.cell? ⟨a0, a1, none⟩ = some (.pointer (some ⟨b, 0, none⟩)) := by rw [hU]; exact c1
          have d2 : U.cell? ⟨b, 1, none⟩ = some (.int .i64 p.l) := by rw [hU]; exact c2
          have d0 : U.cell? ⟨w.heap.size, 0, none⟩ = some (.int .u32 q.a) := by rw [hU]; exact c0
          have zU := BU.frozen 0
          have yU : U.cell? ⟨w.heap.size + 1, 0, none⟩ = some (.pointer (some ⟨a0, a1, none⟩)) := BU.cell 0
          have OU : Only [w.heap.size + 1] W2 U := by rw [hU]; exact OV.drew
          clear hU jV BV OV c0 c1 c2 c3 z0 y0
          simp only [List.take_succ_cons, List.take_zero, List.drop_succ_cons, List.drop_zero]
          repeat still_step
          still_call (by refine (bit_any q.a p.l _ Hq.out.1 Hpl.out).mono ?_; rintro e w' ⟨rfl, rfl⟩; rw [Hb.out]; exact ⟨rfl, rfl⟩)
          repeat still_step
          refine wpStill_nil ?_
          go_wp2_with fail
          refine ⟨kept.out _ _ _ hsz OU, jU.setCell (.inl (by simp)) _, x, b, 4, ⟨?_, fun w d => ?_, Hd.out.wf.2.2.2.1, by omega⟩, ?_, BU.set_ 0 _⟩
          · have hw := Hw.out
            simp only [Tr.way, Hp.out, Hl.out, Hb.out, if_true, if_false] at hw
            have := congrArg List.tail hw
            simpa using this
          · obtain ⟨⟨h1, h2, h3⟩, _⟩ := Hd.out.mem w d
            exact ⟨h2, h1.cell 4⟩
          · rw [← He.out]
            simp only [Tr.place, Hp.out, Hl.out, Hb.out, if_true, if_false]
        · have Hb := Lib.hid hb; clear hb
          gi_wp2_with fail
          refine round_tail 9 (by kernel_rfl) (by kernel_rfl) (by kernel_rfl) (no_out (no_out (no_out_block no_out_round))) (fun V hV => ?_)
          have jV : Only [w.heap.size + 1] w1 V := by rw [hV]; exact j1.drew
          have BV : Blk V (w.heap.size + 1) 130 #[.pointer (some ⟨a0, a1, none⟩)] := by rw [hV]; exact B
          have c1 : V.cell? ⟨a0, a1, none⟩ = some (.pointer (some ⟨b, 0, none⟩)) := by rw [hV]; exact cA'
          have c2 : V.cell? ⟨b, 1, none⟩ = some (.int .i64 p.l) := by rw [hV]; exact n1
          have c3 : V.cell? ⟨w.heap.size, 1, none⟩ = some (.int .i64 q.l) := by rw [hV]; exact q1
          have c0 : V.cell? ⟨w.heap.size, 0, none⟩ = some (.int .u32 q.a) := by rw [hV]; exact q0
          have z0 := BV.frozen 0
          have y0 : V.cell? ⟨w.heap.size + 1, 0, none⟩ = some (.pointer (some ⟨a0, a1, none⟩)) := BV.cell 0
          have OV : Only [w.heap.size + 1] W2 V := by rw [hV]; exact (Only.refl _ _).drew
          clear hV cA' n1 q0 q1 N2 P2
          simp only [List.take_succ_cons, List.take_zero, List.drop_succ_cons, List.drop_zero]
          repeat still_step
          refine wpStill_nil ?_
          go_wp2_with fail
          gi_wp2_with fail
          refine round_tail 16 (by kernel_rfl) (by kernel_rfl) (by kernel_rfl) (no_out_block no_out_round) (fun U hU => ?_)
          have jU : Only [w.heap.size + 1] w1 U := by rw [hU]; exact jV.drew
          have BU : Blk U (w.heap.size + 1) 130 #[.pointer (some ⟨a0, a1, none⟩)] := by rw [hU]; exact BV
          have d1 : U.cell? ⟨a0, a1, none⟩ = some (.pointer (some ⟨b, 0, none⟩)) := by rw [hU]; exact c1
          have d2 : U.cell? ⟨b, 1, none⟩ = some (.int .i64 p.l) := by rw [hU]; exact c2
          have d0 : U.cell? ⟨w.heap.size, 0, none⟩ = some (.int .u32 q.a) := by rw [hU]; exact c0
          have zU := BU.frozen 0
          have yU : U.cell? ⟨w.heap.size + 1, 0, none⟩ = some (.pointer (some ⟨a0, a1, none⟩)) := BU.cell 0
          have OU : Only [w.heap.size + 1] W2 U := by rw [hU]; exact OV.drew
          clear hU jV BV OV c0 c1 c2 c3 z0 y0
          simp only [List.take_succ_cons, List.take_zero, List.drop_succ_cons, List.drop_zero]
          repeat still_step
          still_call (by refine (bit_any q.a p.l _ Hq.out.1 Hpl.out).mono ?_; rintro e w' ⟨rfl, rfl⟩; rw [Hb.out]; exact ⟨rfl, rfl⟩)
          repeat still_step
          refine wpStill_nil ?_
          go_wp2_with fail
          refine ⟨kept.out _ _ _ hsz OU, jU.setCell (.inl (by simp)) _, y, b, 5, ⟨?_, fun w d => ?_, Hd.out.wf.2.2.2.2, by omega⟩, ?_, BU.set_ 0 _⟩
          · have hw := Hw.out
            simp only [Tr.way, Hp.out, Hl.out, Hb.out, if_true, if_false, show ¬ (1 : Nat) = 0 by omega] at hw
            have := congrArg List.tail hw
            simpa using this
          · obtain ⟨⟨h1, h2, h3⟩, _⟩ := Hd.out.mem w d
            exact ⟨h3, h1.cell 5⟩
          · rw [← He.out]
            simp only [Tr.place, Hp.out, Hl.out, Hb.out, if_true, if_false, show ¬ (1 : Nat) = 0 by omega]
  · rintro W ⟨h1, B⟩ hd
    have c0 : W.cell? ⟨w.heap.size + 1, 0, none⟩ = some (.pointer (some ⟨(Tr.place q (tr, 0) t).1, (Tr.place q (tr, 0) t).2, none⟩)) := B.cell 0
    have k2 : Kp w W := h1.kp kw (by simp)
    have hs1 := kw.size
    go_wp2_with fail
    refine jump_ret ?_
    refine takes_one hd (fun W' hO => ⟨_, ?_, rfl, hO.kp k2 (by simp; omega)⟩)
    simp [results, Tryz.results70, go_sem]
end Go.Proofs.YtfaiponmjjbgoaaGreatDoor

/- The trie's none and Get. -/
namespace Go.Proofs.YtfaiponmjjbgoaaGreatDoor
open Go.RowKit
attribute [local go_sem] Oper.semAt_some

theorem trie_eq_nil (w : World) (b : Nat) : (binOp .eql 64 (.pointer (some ⟨b, 0, none⟩)) (.pointer none)).run Tryz.prog w = .ok (.bool false) w := by kernel_rfl

set_option maxHeartbeats 400000 in
theorem none_any (tr : Nat) (x : Value) (many : Int) (w : World) (hT : Blk w tr 87 #[x, .int .i64 many, .bool true]) :
    Calls Tryz.prog 54 #[.pointer (some ⟨tr, 0, none⟩)] w fun e w' => e = .returned (.bool false) ∧ w = w' := by
  have h1 := trie_eq_nil
  have c2 : w.cell? ⟨tr, 2, none⟩ = some (.bool true) := hT.cell 2
  go_enter Tryz.func54, Tryz.ntmps54
  go_wp2_with fail
  go_ret
  exact ⟨rfl, rfl⟩

set_option maxRecDepth 100000 in
theorem pfx_eql (w : World) (a l b k : Int) : (binOp .eql 26 (.agg #[.int .u32 a, .int .i64 l]) (.agg #[.int .u32 b, .int .i64 k])).run Tryz.prog w = .ok (.bool (a == b && l == k)) w := by
  rw [run_eql_struct, run_equalIn_agg w 9999 _ _ _ Tryz.underlying26 (by kernel_rfl)]
  simp [Op.eqFields, part, go_sem, Tryz.underlying3, Tryz.underlying24]
  by_cases h1 : a = b <;> by_cases h2 : l = k <;> simp [h1, h2]
theorem pfx_eq_t (w : World) (q : Pn) : (binOp .eql 26 (.agg #[.int .u32 q.a, .int .i64 q.l]) (.agg #[.int .u32 q.a, .int .i64 q.l])).run Tryz.prog w = .ok (.bool true) w := by
  rw [pfx_eql]; simp
theorem pfx_eq_f (w : World) {p q : Pn} (h : ¬ p = q) : (binOp .eql 26 (.agg #[.int .u32 p.a, .int .i64 p.l]) (.agg #[.int .u32 q.a, .int .i64 q.l])).run Tryz.prog w = .ok (.bool false) w := by
  rw [pfx_eql]
  have : ((p.a : Int) == (q.a : Int) && (p.l : Int) == (q.l : Int)) = false := by
    cases hh : ((p.a : Int) == (q.a : Int) && (p.l : Int) == (q.l : Int)) with
    | false => rfl
    | true =>
      simp at hh
      obtain ⟨h1, h2⟩ := hh
      exact absurd (by cases p; cases q; simp at h1 h2 ⊢; omega) h
  rw [this]

/-- What Get answers of the tree at the place. -/
def Tr.got (q : Pn) : Tr → Int × Bool
  | .nil => (0, false)
  | .node _ p v h _ _ => if p = q ∧ h = true then (v, true) else (0, false)

set_option maxRecDepth 100000 in
set_option maxHeartbeats 2000000 in
theorem get_any (tr : Nat) (q : Pn) (many : Int) (t : Tr) (w : World) (hG : RelsAt w) (hT : Blk w tr 87 #[t.ptr, .int .i64 many, .bool true]) (hM : TM w t) (ht : t.Wf) (hq : q.ok) :
    Calls Tryz.prog 53 #[.pointer (some ⟨tr, 0, none⟩), .agg #[.int .u32 q.a, .int .i64 q.l]] w fun e w' => e = .returned (.tuple #[.int .i64 ((t.look q).got q).1, .bool ((t.look q).got q).2]) ∧ Kp w w' := by
  have Hq := Lib.hid hq
  have Ht := Lib.hid ht
  have Hck := Lib.hid (show checkP q.pi = 0 by simp [checkP, pi_ok hq])
  have HT := Lib.hid (hT.alloc (.cells #[.int .u32 q.a, .int .i64 q.l] 26))
  have HM := Lib.hid hM
  have HB := Lib.hid hT
  have HG := Lib.hid hG
  have hpn := ptr_ne_nil
  have hpe := ptr_eq_nil
  have ht1 := pfx_eq_t
  clear hT hM ht hq hG
  go_enter Tryz.func53, Tryz.ntmps53
  go_wp2_with fail
  refine (none_any tr _ many _ HT.out).mono ?_
  rintro e w' ⟨rfl, rfl⟩
  go_wp2_with fail
  refine (check_any q.pi _ Hq.out.1).mono ?_
  rintro e w1 ⟨rfl, hK1⟩
  rw [Hck.out]
  have kw : Kp w w1 := ((Kp.refl _).alloc _).trans hK1
  have P1 : Blk w1 w.heap.size 26 #[.int .u32 q.a, .int .i64 q.l] := (Blk.new w _ _).keep hK1
  clear hK1
  have p0 : w1.cell? ⟨w.heap.size, 0, none⟩ = some (.int .u32 q.a) := P1.cell 0
  have p1 : w1.cell? ⟨w.heap.size, 1, none⟩ = some (.int .i64 q.l) := P1.cell 1
  go_wp2_with fail
  refine (place_any tr q many t _ (HG.out.keep kw) (HB.out.keep kw) (HM.out.keep kw) Ht.out Hq.out).mono ?_
  rintro e w2 ⟨rfl, hK2⟩
  have k2 : Kp w w2 := kw.trans hK2
  have P2 := P1.keep hK2
  clear p0 p1
  have p0 : w2.cell? ⟨w.heap.size, 0, none⟩ = some (.int .u32 q.a) := P2.cell 0
  have p1 : w2.cell? ⟨w.heap.size, 1, none⟩ = some (.int .i64 q.l) := P2.cell 1
  have hc := place_cell (q := q) (A := (tr, 0)) (HM.out.keep k2) ((HB.out.keep k2).cell 0)
  have hs := look_TM (q := q) (HM.out.keep k2)
  clear hK2
  generalize hl : t.look q = s at hc hs
  have Hl := Lib.hid hl; clear hl
  cases s with
  | nil =>
    have hc' : w2.cell? ⟨(Tr.place q (tr, 0) t).1, (Tr.place q (tr, 0) t).2, none⟩ = some (.pointer none) := hc
    clear hc hs
    go_wp2_with fail
    go_quiet (fail)
    go_wp2_with fail
    go_ret2
    exact ⟨by rw [Hl.out]; rfl, k2.drewN _⟩
  | node b p v hh x y =>
    have hc' : w2.cell? ⟨(Tr.place q (tr, 0) t).1, (Tr.place q (tr, 0) t).2, none⟩ = some (.pointer (some ⟨b, 0, none⟩)) := hc
    obtain ⟨N, _, _⟩ := hs
    have n0 : w2.cell? ⟨b, 0, none⟩ = some (.int .u32 p.a) := N.cell 0
    have n1 : w2.cell? ⟨b, 1, none⟩ = some (.int .i64 p.l) := N.cell 1
    have n2 : w2.cell? ⟨b, 2, none⟩ = some (.int .i64 v) := N.cell 2
    have n3 : w2.cell? ⟨b, 3, none⟩ = some (.bool hh) := N.cell 3
    clear hc N
    by_cases h : p = q
    · subst h
      cases hh with
      | true =>
        go_wp2_with fail
        go_quiet (fail)
        go_wp2_with fail
        go_ret2
        exact ⟨by rw [Hl.out]; simp [Tr.got], k2.drewN _⟩
      | false =>
        go_wp2_with fail
        go_quiet (fail)
        go_wp2_with fail
        go_ret2
        exact ⟨by rw [Hl.out]; simp [Tr.got], k2.drewN _⟩
    · have hne := fun w => pfx_eq_f w h
      have H := Lib.hid h; clear h
      go_wp2_with fail
      go_quiet (fail)
      go_wp2_with fail
      go_ret2
      exact ⟨by rw [Hl.out]; simp [Tr.got, H.out], k2.drewN _⟩
end Go.Proofs.YtfaiponmjjbgoaaGreatDoor

/- prefix.Around's iterator. -/
namespace Go.Proofs.YtfaiponmjjbgoaaGreatDoor
open Go.RowKit
attribute [local go_sem] Oper.semAt_some

theorem call_around1 (args : Array Value) (w : World) : (callFunc 150 args).run Tryz.prog w = .ok (.enter 150 args) w := by kernel_rfl

set_option maxRecDepth 100000 in
set_option maxHeartbeats 2000000 in
theorem around1_iter (px : Nat) (p : Pn) (hp : p.ok) :
    Iter Tryz.prog 150 #[.pointer (some ⟨px, 0, none⟩)] (p.l + 1) (fun k => #[.int .i64 k, .agg #[.int .u32 (cut p.a k), .int .i64 k]]) (fun W => Blk W px 26 #[.int .u32 p.a, .int .i64 p.l]) := by
  intro l I Z W hI hZ hM hy h0
  have HI := Lib.hid hI; clear hI
  have HZ := Lib.hid hZ; clear hZ
  have HM := Lib.hid hM; clear hM
  have HY := Lib.hid hy; clear hy
  have Hp := Lib.hid hp
  have hpl := hp.2.1
  have Hok := Lib.hid (pi_ok hp); clear hp
  have H0 := Lib.hid h0
  have B0 := HM.out 0 W h0; clear h0
  have c0 : W.cell? ⟨px, 0, none⟩ = some (.int .u32 p.a) := B0.cell 0
  have c1 : W.cell? ⟨px, 1, none⟩ = some (.int .i64 p.l) := B0.cell 1
  have hrd : Rd (W.alloc (.cells #[.int .u32 p.a, .int .i64 p.l] 26)) 2 PI.enc (some ⟨W.heap.size, 0, none⟩) [p.pi] := Rd.of_blk (Blk.new W _ _) (by omega) PI.len (by unfold maxLen; simp) rfl
  have Hrd := Lib.hid hrd; clear hrd
  go_enter Tryz.func150, Tryz.ntmps150
  go_wp2_with fail
  refine (mayBe_any _ 1 [p.pi] _ Hrd.out (by simp) (fun k hk => by simp at hk; subst hk; exact Hp.out.1)).mono ?_
  rintro e w1 ⟨rfl, hK1⟩
  rw [show [p.pi].all PI.okB = true by simp [Hok.out]]
  have k1 : Kp W w1 := ((Kp.refl _).alloc _).trans hK1
  have I1 := Lib.hid (HI.out 0 W w1 H0.out k1)
  clear c0 c1 hK1 Hrd
  have B1 := B0.keep k1
  have c1 : w1.cell? ⟨px, 1, none⟩ = some (.int .i64 p.l) := B1.cell 1
  go_wp2_with fail
  go_loopg [11] (p.l + 1) (fun g i wr => ∃ (k : Nat), g = p.l + 1 - k ∧ k ≤ p.l + 1 ∧ i = .int .i64 k ∧ Hid (I k wr))
  case atStart => exact ⟨0, by omega, by omega, rfl, I1⟩
  case round =>
    obtain ⟨k, hg, hk, rfl, hi⟩ := hrel
    by_cases hlt : k < p.l + 1
    · have d1 : decide ((k : Int) < (p.l : Int) + 1) = true := by simp; omega
      have hand := Lib.hid (show bits .and .u32 (p.a : Int) (maskN k : Int) = (cut p.a k : Int) by rw [and_u32 _ _ Hp.out.1 (maskN_lt k), and_mask Hp.out.1 (by omega)])
      have hk32 := Lib.hid (show k ≤ 32 by omega)
      have B := HM.out k wr hi.out
      have b0 : wr.cell? ⟨px, 0, none⟩ = some (.int .u32 p.a) := B.cell 0
      clear B
      go_upto_region 4 with (fail)
      obtain ⟨fn, tmps, asg, bd, hrun, hround⟩ := HY.out k wr.drew hlt (HI.out k wr wr.drew hi.out (Kp.refl _).drew)
      simp only [← hand.out] at hrun
      replace b0 : wr.drew.cell? ⟨px, 0, none⟩ = some (.int .u32 p.a) := b0
      refine (wpIn_wide (n := 0)).1 ?_
      refine wpIn_region_any (by kernel_rfl) ?_
      change wpAnyIn _ _ _ _ _ _ _ _ _ (World.drew _)
      refine wpAnyIn_take (i := 0) (v := .func (.yield l) #[] #[]) rfl rfl (by kernel_rfl) (by kernel_rfl) (by kernel_rfl) (fun _ _ _ h => h) ⟨Or.inl ⟨by rfl, fun w => by go_simp⟩, fun _ => rfl⟩ ?_
      refine wpAnyIn_take (i := 1) (v := .int .i64 k) rfl rfl (by kernel_rfl) (by kernel_rfl) (by kernel_rfl) (fun _ _ _ h => h) ⟨Or.inl ⟨by rfl, fun w => by go_simp⟩, fun _ => rfl⟩ ?_
      refine wpAnyIn_take (i := 2) (v := .pointer (some ⟨px, 0, none⟩)) rfl rfl (by kernel_rfl) (by kernel_rfl) (by kernel_rfl) (fun _ _ _ h => h) ⟨Or.inl ⟨by rfl, fun w => by go_simp⟩, fun _ => rfl⟩ ?_
      refine wpAnyIn_take (i := 4) (v := .int .i64 k) rfl rfl (by kernel_rfl) (by kernel_rfl) (by kernel_rfl) (fun _ _ _ h => h) ⟨Or.inl ⟨by rfl, fun w => by go_simp⟩, fun _ => rfl⟩ ?_
      refine wpAnyIn_take (i := 7) (v := .int .i64 k) rfl rfl (by kernel_rfl) (by kernel_rfl) (by kernel_rfl) (fun _ _ _ h => h) ⟨Or.inl ⟨by rfl, fun w => by go_simp⟩, fun _ => rfl⟩ ?_
      refine wpAnyIn_ready (rs := [3, 5]) (by kernel_rfl) (by simp) ?_
      refine AllReadyIn.cons rfl (fun K hK => ?_) (AllReadyIn.cons rfl (fun K hK => ?_) AllReadyIn.nil)
      · go_simp
        refine hK _ _ ?_
        clear hK K
        refine wpAnyIn_ready (rs := [5]) (by kernel_rfl) (by simp) ?_
        refine AllReadyIn.cons rfl (fun K hK => ?_) AllReadyIn.nil
        go_simp
        refine ⟨trivial, rfl, callsIn_wide.2 ((mask_any k _ hk32.out).mono ?_)⟩
        rintro e w' ⟨rfl, rfl⟩
        refine hK _ _ ?_
        clear hK K
        refine wpAnyIn_take (i := 6) (v := .int .u32 (bits .and .u32 p.a (maskN k))) rfl rfl (by kernel_rfl) (by kernel_rfl) (by kernel_rfl) (fun _ _ _ h => h) ⟨Or.inl ⟨by rfl, fun w => by go_simp⟩, fun _ => rfl⟩ ?_
        refine wpAnyIn_take (i := 8) (v := .agg #[.int .u32 (bits .and .u32 p.a (maskN k)), .int .i64 k]) rfl rfl (by kernel_rfl) (by kernel_rfl) (by kernel_rfl) (fun _ _ _ h => h) ⟨Or.inl ⟨by rfl, fun w => by go_simp⟩, fun _ => rfl⟩ ?_
        refine wpAnyIn_ready (rs := [9]) (by kernel_rfl) (by simp) ?_
        refine AllReadyIn.cons rfl (fun K hK => ?_) AllReadyIn.nil
        go_simp
        refine ⟨rfl, hround.mono ?_⟩
        clear hrun hround
        rintro e W' (⟨rfl, hi2⟩ | ⟨rfl, hz⟩)
        · have Hi2 := Lib.hid hi2; clear hi2
          refine hK _ _ ?_
          clear hK K
          refine wpAnyIn_rest 10 rfl rfl (by kernel_rfl) (by kernel_rfl) ?_
          simp only [List.drop_succ_cons, List.drop_zero]
          repeat (quiet_step_in (fail))
          refine wpQuietIn_nil ?_
          rintro w' ⟨nq, rfl⟩
          clear b0
          go_wp2_with fail
          go_roundg (p.l + 1 - (k + 1))
          case measure => omega
          case rel => exact ⟨k + 1, rfl, by omega, by go_num, HI.out _ _ _ Hi2.out ((Kp.refl _).drewN _)⟩
        · have Hz := Lib.hid hz; clear hz
          refine hK _ _ ?_
          clear hK K
          refine wpAnyIn_rest 10 rfl rfl (by kernel_rfl) (by kernel_rfl) ?_
          simp only [List.drop_succ_cons, List.drop_zero]
          repeat (quiet_step_in (fail))
          refine wpQuietIn_nil ?_
          rintro w' ⟨nq, rfl⟩
          clear b0
          go_wp2_with fail
          refine bodyPost_ret (v := .tuple #[]) (by simp [results, Tryz.results150, go_sem]) rfl ?_
          exact ⟨rfl, .inr ⟨k + 1, by omega, by omega, HZ.out _ _ _ Hz.out ((Kp.refl _).drewN _)⟩⟩
      · go_simp
        refine ⟨trivial, rfl, callsIn_wide.2 ((mask_any k _ hk32.out).mono ?_)⟩
        rintro e w' ⟨rfl, rfl⟩
        refine hK _ _ ?_
        clear hK K
        refine wpAnyIn_ready (rs := [3]) (by kernel_rfl) (by simp) ?_
        refine AllReadyIn.cons rfl (fun K hK => ?_) AllReadyIn.nil
        go_simp
        refine hK _ _ ?_
        clear hK K
        refine wpAnyIn_take (i := 6) (v := .int .u32 (bits .and .u32 p.a (maskN k))) rfl rfl (by kernel_rfl) (by kernel_rfl) (by kernel_rfl) (fun _ _ _ h => h) ⟨Or.inl ⟨by rfl, fun w => by go_simp⟩, fun _ => rfl⟩ ?_
        refine wpAnyIn_take (i := 8) (v := .agg #[.int .u32 (bits .and .u32 p.a (maskN k)), .int .i64 k]) rfl rfl (by kernel_rfl) (by kernel_rfl) (by kernel_rfl) (fun _ _ _ h => h) ⟨Or.inl ⟨by rfl, fun w => by go_simp⟩, fun _ => rfl⟩ ?_
        refine wpAnyIn_ready (rs := [9]) (by kernel_rfl) (by simp) ?_
        refine AllReadyIn.cons rfl (fun K hK => ?_) AllReadyIn.nil
        go_simp
        refine ⟨rfl, hround.mono ?_⟩
        clear hrun hround
        rintro e W' (⟨rfl, hi2⟩ | ⟨rfl, hz⟩)
        · have Hi2 := Lib.hid hi2; clear hi2
          refine hK _ _ ?_
          clear hK K
          refine wpAnyIn_rest 10 rfl rfl (by kernel_rfl) (by kernel_rfl) ?_
          simp only [List.drop_succ_cons, List.drop_zero]
          repeat (quiet_step_in (fail))
          refine wpQuietIn_nil ?_
          rintro w' ⟨nq, rfl⟩
          clear b0
          go_wp2_with fail
          go_roundg (p.l + 1 - (k + 1))
          case measure => omega
          case rel => exact ⟨k + 1, rfl, by omega, by go_num, HI.out _ _ _ Hi2.out ((Kp.refl _).drewN _)⟩
        · have Hz := Lib.hid hz; clear hz
          refine hK _ _ ?_
          clear hK K
          refine wpAnyIn_rest 10 rfl rfl (by kernel_rfl) (by kernel_rfl) ?_
          simp only [List.drop_succ_cons, List.drop_zero]
          repeat (quiet_step_in (fail))
          refine wpQuietIn_nil ?_
          rintro w' ⟨nq, rfl⟩
          clear b0
          go_wp2_with fail
          refine bodyPost_ret (v := .tuple #[]) (by simp [results, Tryz.results150, go_sem]) rfl ?_
          exact ⟨rfl, .inr ⟨k + 1, by omega, by omega, HZ.out _ _ _ Hz.out ((Kp.refl _).drewN _)⟩⟩
    · obtain rfl : k = p.l + 1 := by omega
      have d1 : decide (((p.l + 1 : Nat) : Int) < (p.l : Int) + 1) = false := by simp
      go_wp2_with fail
      go_end0
      exact ⟨rfl, .inl (HI.out _ _ _ hi.out (Kp.refl _))⟩
end Go.Proofs.YtfaiponmjjbgoaaGreatDoor

/- prefix.Around, and the plain law of prefix.Common's rounds. -/
namespace Go.Proofs.YtfaiponmjjbgoaaGreatDoor
open Go.RowKit
attribute [local go_sem] Oper.semAt_some

set_option maxHeartbeats 400000 in
theorem around_any (p : Pn) (w : World) :
    Calls Tryz.prog 132 #[.agg #[.int .u32 p.a, .int .i64 p.l]] w fun e w' => e = .returned (.func (.func 150) #[] #[.pointer (some ⟨w.heap.size, 0, none⟩)]) ∧
      Blk w' w.heap.size 26 #[.int .u32 p.a, .int .i64 p.l] ∧ Kp w w' := by
  have hmf := makeFunc_run
  go_enter Tryz.func132, Tryz.ntmps132
  go_wp2_with fail
  go_ret
  exact ⟨rfl, Blk.new w _ _, (Kp.refl _).alloc _⟩

theorem take_zero {p : Pn} (hp : p.ok) : p.take 0 = ⟨0, 0⟩ := by
  have h1 := hp.1
  unfold Pn.take cut
  rw [Nat.div_eq_of_lt (by simpa using h1)]
  try simp
theorem take_zero_holds {p q : Pn} (hp : p.ok) (hq : q.ok) : (p.take 0).holds q := comLen_holds hp hq 0 (Nat.zero_le _)
theorem take_down {p q : Pn} (hp : p.ok) {k m : Nat} (hk : k ≤ m) (hm : m ≤ p.l) (h : (p.take m).holds q) : (p.take k).holds q := by
  have hm32 : m ≤ 32 := Nat.le_trans hm hp.2.1
  refine ⟨Nat.le_trans hk h.1, ?_⟩
  have e : cut q.a m = cut p.a m := h.2
  show cut q.a k = cut p.a k
  rw [← cut_cut q.a hk hm32, e, cut_cut p.a hk hm32]
/-- Where the rounds break off. -/
theorem com_break {p q : Pn} (hp : p.ok) (hq : q.ok) {k : Nat} (hk : k ≤ p.l) (h1 : (p.take (k - 1)).holds q) (h2 : ¬ (p.take k).holds q) : p.com q = p.take (k - 1) := by
  have a := comLen_max p.l (k - 1) (by omega) h1
  have b : ¬ k ≤ comLen p q p.l := fun h => h2 (take_down hp h (comLen_le p q p.l) (comLen_holds hp hq p.l (Nat.le_refl _)))
  show p.take (comLen p q p.l) = _
  congr 1
  omega
theorem com_whole {p q : Pn} (h1 : (p.take p.l).holds q) : p.com q = p.take p.l := by
  have a := comLen_max p.l p.l (Nat.le_refl _) h1
  have b := comLen_le p q p.l
  show p.take (comLen p q p.l) = _
  congr 1
  omega
end Go.Proofs.YtfaiponmjjbgoaaGreatDoor

/- A range over a function whose variables are boxed anew each round (the assignment allocates). -/
namespace Go.Proofs.YtfaiponmjjbgoaaGreatDoor
open Go.RowKit

theorem wp_range_a {P : Program} {g : Operand} {ps : Array Tmp} {assign body : Code} {Q : Exit → Act → World → Prop} {a : Act} {w : World} {gf : FuncId} {caps : Array Value} {N : Nat} {xs : Nat → Array Value} {M : World → Prop}
    (hg : a.eval g = .func (.func gf) #[] caps) (eg : ∀ args w, (callFunc gf args).run P w = .ok (.enter gf args) w) (hit : Iter P gf caps N xs M) (hps : ∀ k, k < N → (xs k).size = ps.size)
    (I : Nat → World → Prop) (Ix : Code → Nat → World → Prop)
    (hI : ∀ k W W', I k W → Only [w.heap.size, w.heap.size + 1] W W' → I k W') (hIx : ∀ c k W W', Ix c k W → Only [w.heap.size, w.heap.size + 1] W W' → Ix c k W')
    (hM : ∀ k W, I k W → M W) (h0 : I 0 w)
    (hround : ∀ l k W, k < N → I k W → w.heap.size + 1 < W.heap.size → assign.wpIn (Fence.wide.inRound l) 0 P (Exit.then (fun a' W' => Kept2 w W W' ∧ ∃ J : World → Prop, J W' ∧ (∀ V V', J V → Only [w.heap.size, w.heap.size + 1] V V' → J V') ∧ ∀ W2, J W2 → w.heap.size + 1 < W2.heap.size → body.wpIn (Fence.wide.inRound l) 0 P (rndPost w I Ix (k + 1) W2) a' W2) (fun _ _ _ => False))
      { tmps := (ps.zip (xs k)).foldl (fun t (p, v) => t.setIfInBounds p v) a.tmps, defers := [] } W)
    (hdone : ∀ W, I N W → W.heap[w.heap.size]? = some (.deferred (some [])) → Q .normal { a with defers := { target := .collected w.heap.size, args := #[] } :: a.defers } W)
    (hstop : ∀ c k W, 0 < k → k ≤ N → Ix c k W → W.heap[w.heap.size]? = some (.deferred (some [])) → c.wp P Q { a with defers := { target := .collected w.heap.size, args := #[] } :: a.defers } W) :
    (Code.rangeFunc g ps assign body).wp P Q a w := by
  refine (wpIn_wide (n := 0)).1 (wpIn_rangeFunc ?_)
  intro fn hfn
  obtain ⟨rec, hrec⟩ : ∃ rec : LoopState → Option Code → Loop, rec = fun st pe => { state := st, pending := pe, fn, tmps := a.tmps, params := ps, assign, body, defers := w.heap.size } := ⟨_, rfl⟩
  obtain ⟨W1, hW1⟩ : ∃ W1, (w.alloc (.deferred (some []))).alloc (.loop (rec .ready none)) = W1 := ⟨_, rfl⟩
  have hL1 : W1.heap[w.heap.size + 1]? = some (.loop (rec .ready none)) := by
    rw [← hW1]; have := World.alloc_heap_new (w.alloc (.deferred (some []))) (.loop (rec .ready none)); rwa [World.size_alloc] at this
  have hK1 : W1.heap[w.heap.size]? = some (.deferred (some [])) := by
    rw [← hW1]; exact (Below.heap_alloc _ _ _ (by simp)).trans (World.alloc_heap_new w _)
  have hI1 : I 0 W1 := by rw [← hW1]; exact hI 0 _ _ h0 (((Only.refl _ _).alloc _).alloc _)
  refine ⟨w.heap.size + 1, [{ target := .collected w.heap.size, args := #[] }], W1, { target := .fn (.func gf) caps, args := #[.func (.yield (w.heap.size + 1)) #[] #[]] }, W1, gf,
    #[.func (.yield (w.heap.size + 1)) #[] #[]] ++ caps, W1, ?_, ?_, fun _ _ => trivial, ?_, (fun h => by cases h), callsIn_wide.2 ?_⟩
  · rw [← hW1, hrec]; exact run_enterLoop_outer _ _ _ _ _
  · simp only [resolve, hg]
    simp [go_sem]
  · simp [invoke, go_sem, eg]
  · refine (hit (w.heap.size + 1)
      (fun k W => I k W ∧ W.heap[w.heap.size + 1]? = some (.loop (rec .ready none)) ∧ W.heap[w.heap.size]? = some (.deferred (some [])))
      (fun k W => ∃ c, Ix c k W ∧ W.heap[w.heap.size + 1]? = some (.loop (rec .done (some c))) ∧ W.heap[w.heap.size]? = some (.deferred (some [])))
      W1 ?_ ?_ (fun k W h => hM k W h.1) ?_ ⟨hI1, hL1, hK1⟩).mono ?_
    · rintro k W W' ⟨h1, h2, h3⟩ hk
      exact ⟨hI k W W' h1 (Only.of_kp hk), (hk.heap (Array.getElem?_eq_some_iff.1 h2).1).trans h2, (hk.heap (Array.getElem?_eq_some_iff.1 h3).1).trans h3⟩
    · rintro k W W' ⟨c, h1, h2, h3⟩ hk
      exact ⟨c, hIx c k W W' h1 (Only.of_kp hk), (hk.heap (Array.getElem?_eq_some_iff.1 h2).1).trans h2, (hk.heap (Array.getElem?_eq_some_iff.1 h3).1).trans h3⟩
    · rintro k W hk ⟨hi, hl, hd⟩
      have hlt : w.heap.size + 1 < W.heap.size := (Array.getElem?_eq_some_iff.1 hl).1
      have hy := run_yield (P := P) (args := xs k) hl (by rw [hrec]; exact hps k hk)
      rw [hrec] at hy
      refine ⟨fn, _, assign, body, hy, roundIn_of_wpIn trivial (wpIn_mono (hround _ k W hk hi hlt) ?_)⟩
      rintro e₀ a' W' hq
      rcases e₀ with _ | id | t | _ | ch | _
      rotate_left
      · exact hq.elim
      · exact hq.elim
      · exact hq.elim
      · exact hq.elim
      · exact hq.elim
      obtain ⟨hkp, J, hj, hJ, hbody⟩ := hq
      replace hl := hkp.2.trans hl
      replace hd := hkp.1.trans hd
      replace hlt : w.heap.size + 1 < W'.heap.size := (Array.getElem?_eq_some_iff.1 hl).1
      refine ⟨_, run_beginRound hl (by rw [hrec]), ?_⟩
      have hl2 : (W'.putObj (w.heap.size + 1) (.loop { rec .ready none with state := .busy })).heap[w.heap.size + 1]? = some (.loop { rec .ready none with state := .busy }) := World.putObj_heap_same hlt
      have hd2 : (W'.putObj (w.heap.size + 1) (.loop { rec .ready none with state := .busy })).heap[w.heap.size]? = some (.deferred (some [])) := (World.putObj_heap_other (by omega)).trans hd
      have hi2 : J (W'.putObj (w.heap.size + 1) (.loop { rec .ready none with state := .busy })) := hJ _ _ hj ((Only.refl _ _).putObj (by simp) _)
      refine wpIn_mono (hbody _ hi2 (by simpa using hlt)) ?_
      have fin : ∀ (jump : Option Code) (W3 : World), Kept2 w (W'.putObj (w.heap.size + 1) (.loop { rec .ready none with state := .busy })) W3 →
          (Instr.endRound (w.heap.size + 1) jump).run P W3 = .ok (.bool jump.isNone) (W3.putObj (w.heap.size + 1) (.loop (rec (if jump.isNone then .ready else .done) jump))) ∧
          (W3.putObj (w.heap.size + 1) (.loop (rec (if jump.isNone then .ready else .done) jump))).heap[w.heap.size + 1]? = some (.loop (rec (if jump.isNone then .ready else .done) jump)) ∧
          (W3.putObj (w.heap.size + 1) (.loop (rec (if jump.isNone then .ready else .done) jump))).heap[w.heap.size]? = some (.deferred (some [])) := fun jump W3 hk3 => by
        have hl3 := hk3.2.trans hl2
        have hd3 := hk3.1.trans hd2
        have := run_endRound (P := P) jump hl3
        rw [hrec] at this ⊢
        exact ⟨this, World.putObj_heap_same (Array.getElem?_eq_some_iff.1 hl3).1, (World.putObj_heap_other (by omega)).trans hd3⟩
      rintro e a3 W3 hp
      cases e with
      | normal =>
        obtain ⟨hr, hl4, hd4⟩ := fin none W3 hp.1
        exact ⟨_, _, hr, .inl ⟨rfl, hI _ _ _ hp.2 ((Only.refl _ _).putObj (by simp) _), hl4, hd4⟩⟩
      | ret =>
        obtain ⟨hr, hl4, hd4⟩ := fin (some .ret) W3 hp.1
        exact ⟨_, _, hr, .inr ⟨rfl, .ret, hIx _ _ _ _ hp.2 ((Only.refl _ _).putObj (by simp) _), hl4, hd4⟩⟩
      | exit id =>
        obtain ⟨hr, hl4, hd4⟩ := fin (some (.exit id)) W3 hp.1
        exact ⟨_, _, hr, .inr ⟨rfl, .exit id, hIx _ _ _ _ hp.2 ((Only.refl _ _).putObj (by simp) _), hl4, hd4⟩⟩
      | goto t =>
        obtain ⟨hr, hl4, hd4⟩ := fin (some (.goto t)) W3 hp.1
        exact ⟨_, _, hr, .inr ⟨rfl, .goto t, hIx _ _ _ _ hp.2 ((Only.refl _ _).putObj (by simp) _), hl4, hd4⟩⟩
      | panic ch => exact hp.elim
      | outgrown => exact hp.elim
    · rintro e W3 ⟨rfl, h | ⟨k, hk0, hkN, c, hix, hl, hd⟩⟩
      · obtain ⟨hi, hl, hd⟩ := h
        have hend := run_endLoop (P := P) hl (by rw [hrec]; simp)
        have hpn : (rec .ready none).pending = none := by rw [hrec]
        rw [hpn] at hend
        refine ⟨none, _, hend, ?_⟩
        exact hdone _ (hI _ _ _ hi ((Only.refl _ _).putObj (by simp) _)) ((World.putObj_heap_other (by omega)).trans hd)
      · have hend := run_endLoop (P := P) hl (by rw [hrec]; simp)
        have hpn : (rec .done (some c)).pending = some c := by rw [hrec]
        rw [hpn] at hend
        refine ⟨some c, _, hend, ?_⟩
        refine (wpIn_wide (n := 0)).2 (hstop c k _ hk0 hkN (hIx _ _ _ _ hix ((Only.refl _ _).putObj (by simp) _)) ((World.putObj_heap_other (by omega)).trans hd))


theorem wp_range_join_a {P : Program} {g : Operand} {ps : Array Tmp} {assign body : Code} {id : Nat} {Q : Exit → Act → World → Prop} {a : Act} {w : World} {gf : FuncId} {caps : Array Value} {N : Nat} {xs : Nat → Array Value} {M : World → Prop}
    (hg : a.eval g = .func (.func gf) #[] caps) (eg : ∀ args w, (callFunc gf args).run P w = .ok (.enter gf args) w) (hit : Iter P gf caps N xs M) (hps : ∀ k, k < N → (xs k).size = ps.size)
    (I Z : Nat → World → Prop) (S : World → Prop)
    (hI : ∀ k W W', I k W → Only [w.heap.size, w.heap.size + 1] W W' → I k W') (hZ : ∀ k W W', Z k W → Only [w.heap.size, w.heap.size + 1] W W' → Z k W')
    (hM : ∀ k W, I k W → M W) (h0 : I 0 w)
    (hIS : ∀ W, I N W → S W) (hZS : ∀ k W, 0 < k → k ≤ N → Z k W → S W)
    (hround : ∀ l k W, k < N → I k W → w.heap.size + 1 < W.heap.size → assign.wpIn (Fence.wide.inRound l) 0 P (Exit.then (fun a' W' => Kept2 w W W' ∧ ∃ J : World → Prop, J W' ∧ (∀ V V', J V → Only [w.heap.size, w.heap.size + 1] V V' → J V') ∧ ∀ W2, J W2 → w.heap.size + 1 < W2.heap.size → body.wpIn (Fence.wide.inRound l) 0 P (rndPost w I (fun c k W => c = .exit id ∧ Z k W) (k + 1) W2) a' W2) (fun _ _ _ => False))
      { tmps := (ps.zip (xs k)).foldl (fun t (p, v) => t.setIfInBounds p v) a.tmps, defers := [] } W)
    (rest : ∀ W, S W → W.heap[w.heap.size]? = some (.deferred (some [])) → Q .normal { a with defers := { target := .collected w.heap.size, args := #[] } :: a.defers } W) :
    (Code.rangeFunc g ps assign body).wp P (Exit.inBlock id Q) a w := by
  refine wp_range_a hg eg hit hps I (fun c k W => c = .exit id ∧ Z k W) hI (fun c k W W' h hO => ⟨h.1, hZ k W W' h.2 hO⟩) hM h0 hround (fun W h hd => rest W (hIS W h) hd) ?_
  rintro c k W h1 h2 ⟨rfl, hz⟩ hd
  refine wp_exit ?_
  show (if id = id then Q .normal _ _ else Q (.exit id) _ _)
  rw [if_pos rfl]
  exact rest W (hZS k W h1 h2 hz) hd


end Go.Proofs.YtfaiponmjjbgoaaGreatDoor

/- prefix.Common. -/
namespace Go.Proofs.YtfaiponmjjbgoaaGreatDoor
open Go.RowKit
attribute [local go_sem] Oper.semAt_some

def CmI (w0 : World) (lo : Nat) (p q : Pn) (k : Nat) (W : World) : Prop :=
  Only [lo] w0 W ∧ (∀ j, j < k → (p.take j).holds q) ∧ Blk W lo 26 #[.int .u32 (p.take (k - 1)).a, .int .i64 (p.take (k - 1)).l]
def CmZ (w0 : World) (lo : Nat) (c : Pn) (W : World) : Prop := Only [lo] w0 W ∧ Blk W lo 26 #[.int .u32 c.a, .int .i64 c.l]

set_option maxRecDepth 100000 in
set_option maxHeartbeats 2000000 in
theorem common_any (p q : Pn) (w : World) (hp : p.ok) (hq : q.ok) :
    Calls Tryz.prog 109 #[.agg #[.int .u32 p.a, .int .i64 p.l], .agg #[.int .u32 q.a, .int .i64 q.l]] w fun e w' => e = .returned (.tuple #[.agg #[.int .u32 (p.com q).a, .int .i64 (p.com q).l], .int .i64 0]) ∧ Kp w w' := by
  have Hp := Lib.hid hp
  have Hq := Lib.hid hq
  have hpl := hp.2.1
  have hql := hq.2.1
  clear hp hq
  obtain ⟨W, hW, kW, B0, B1, B2, B3, hsz⟩ : ∃ W, (((w.alloc (.cells #[.int .u32 p.a, .int .i64 p.l] 26)).alloc (.cells #[.int .u32 q.a, .int .i64 q.l] 26)).alloc (.cells #[.int .u32 0, .int .i64 0] 26)).alloc (.cells #[.int .u32 0, .int .i64 0] 26) = W ∧ Kp w W ∧
      Blk W w.heap.size 26 #[.int .u32 p.a, .int .i64 p.l] ∧ Blk W (w.heap.size + 1) 26 #[.int .u32 q.a, .int .i64 q.l] ∧ Blk W (w.heap.size + 1 + 1) 26 #[.int .u32 0, .int .i64 0] ∧ Blk W (w.heap.size + 1 + 1 + 1) 26 #[.int .u32 0, .int .i64 0] ∧ Hid (W.heap.size = w.heap.size + 4) :=
    ⟨_, rfl, ((((Kp.refl _).alloc _).alloc _).alloc _).alloc _, (((Blk.new w _ _).alloc _).alloc _).alloc _, ((Blk.new1 w _ _ _).alloc _).alloc _,
      by have := Blk.new1 (w.alloc (.cells #[.int .u32 p.a, .int .i64 p.l] 26)) (.cells #[.int .u32 q.a, .int .i64 q.l] 26) 26 #[.int .u32 0, .int .i64 0]; rw [World.size_alloc] at this; exact this.alloc _,
      by have := Blk.new1 ((w.alloc (.cells #[.int .u32 p.a, .int .i64 p.l] 26)).alloc (.cells #[.int .u32 q.a, .int .i64 q.l] 26)) (.cells #[.int .u32 0, .int .i64 0] 26) 26 #[.int .u32 0, .int .i64 0]; rw [World.size_alloc, World.size_alloc] at this; exact this,
      Lib.hid (by simp)⟩
  have p0 : W.cell? ⟨w.heap.size, 0, none⟩ = some (.int .u32 p.a) := B0.cell 0
  have p1 : W.cell? ⟨w.heap.size, 1, none⟩ = some (.int .i64 p.l) := B0.cell 1
  have q0 : W.cell? ⟨w.heap.size + 1, 0, none⟩ = some (.int .u32 q.a) := B1.cell 0
  have q1 : W.cell? ⟨w.heap.size + 1, 1, none⟩ = some (.int .i64 q.l) := B1.cell 1
  have hrd : Rd (W.alloc (.cells #[.int .u32 p.a, .int .i64 p.l, .int .u32 q.a, .int .i64 q.l] 26)) 2 PI.enc (some ⟨W.heap.size, 0, none⟩) [p.pi, q.pi] := Rd.of_blk (Blk.new W _ _) (by omega) PI.len (by unfold maxLen; simp) rfl
  have Hrd := Lib.hid hrd; clear hrd
  refine calls_of_wp_marks Tryz.func109 rfl ?_; simp only [Tryz.ntmps109, List.size_toArray, List.length_cons, List.length_nil, Nat.reduceAdd, Nat.reduceSub, Array.replicate_succ, Array.replicate_zero, List.push_toArray, List.append_toArray, List.nil_append, List.cons_append]
  go_wp2_with fail
  refine wp_scope_fwd 0 rfl ?_
  go_wp2_with fail
  refine (mayBe_any _ 2 [p.pi, q.pi] _ Hrd.out (by simp) (fun k hk => by
    have hk2 : k = 0 ∨ k = 1 := by simp at hk; omega
    rcases hk2 with rfl | rfl
    · exact Hp.out.1
    · exact Hq.out.1)).mono ?_
  rintro e w1 ⟨rfl, hK1⟩
  rw [show [p.pi, q.pi].all PI.okB = true by simp [pi_ok Hp.out, pi_ok Hq.out]]
  have k1 : Kp W w1 := ((Kp.refl _).alloc _).trans hK1
  have C0 := B0.keep k1
  clear p0 p1 q0 q1 hW hK1 Hrd
  have p0 : w1.cell? ⟨w.heap.size, 0, none⟩ = some (.int .u32 p.a) := C0.cell 0
  have p1 : w1.cell? ⟨w.heap.size, 1, none⟩ = some (.int .i64 p.l) := C0.cell 1
  go_wp2_with fail
  go_step3
  go_wp2_with fail
  refine (around_any p _).mono ?_
  rintro e w2 ⟨rfl, A2, hK2⟩
  have k2 : Kp W w2 := k1.trans hK2
  have D1 := B1.keep k2
  have D2 := B2.keep k2
  have D3 := B3.keep k2
  have kw := kW.trans k2
  have hA := A2.lt
  have hs1 := k1.size
  have hsW := hsz.out
  clear hK2 C0 p0 p1 B0 B1 B2 B3
  have lift : Hid (∀ V V', Only [w.heap.size + 1 + 1 + 1] w2 V → Only [w2.heap.size, w2.heap.size + 1] V V' → Only [w.heap.size + 1 + 1 + 1] w2 V') := fun V V' h1 hO =>
    ⟨hO.os.trans h1.os, hO.tape.trans h1.tape, hO.output.trans h1.output, Nat.le_trans h1.size hO.size, fun i hi hn => (hO.block i (Nat.lt_of_lt_of_le hi h1.size) (by simp; omega)).trans (h1.block i hi hn)⟩
  have hlo : w.heap.size + 1 + 1 + 1 < w1.heap.size := by omega
  have Hs := Lib.hid hsW; clear hsW
  go_wp2_with fail
  refine wp_range_join_a (N := p.l + 1) rfl call_around1 (around1_iter w1.heap.size p Hp.out) (fun _ _ => rfl)
    (CmI w2 (w.heap.size + 1 + 1 + 1) p q) (fun _ V => CmZ w2 (w.heap.size + 1 + 1 + 1) (p.com q) V) (CmZ w2 (w.heap.size + 1 + 1 + 1) (p.com q)) ?_ ?_ ?_ ?_ ?_ (fun _ _ _ _ h => h) ?_ ?_
  · rintro k V V' ⟨h1, h2, B⟩ hO
    exact ⟨lift.out V V' h1 hO, h2, B.only hO (by simp; omega)⟩
  · rintro k V V' ⟨h1, B⟩ hO
    exact ⟨lift.out V V' h1 hO, B.only hO (by simp; omega)⟩
  · rintro k V ⟨h1, _, _⟩
    exact A2.only h1 (by simp; omega)
  · exact ⟨Only.refl _ _, fun j hj => by omega, by rw [show 0 - 1 = 0 from rfl, take_zero Hp.out]; exact D3⟩
  · rintro V ⟨h1, h2, B⟩
    exact ⟨h1, by rw [com_whole (h2 p.l (by omega))]; exact B⟩
  · intro l k V hk ⟨h1, h2, B⟩ hV
    gi_wp2_with fail
    refine ⟨⟨Below.heap_alloc V _ _ (by omega), Below.heap_alloc V _ _ (by omega)⟩, fun U => Only [w.heap.size + 1 + 1 + 1] w2 U ∧ Blk U (w.heap.size + 1 + 1 + 1) 26 #[.int .u32 (p.take (k - 1)).a, .int .i64 (p.take (k - 1)).l] ∧ Blk U V.heap.size 26 #[.int .u32 (cut p.a k), .int .i64 k], ⟨h1.alloc _, B.alloc _, Blk.new V _ _⟩, ?_, ?_⟩
    · rintro U U' ⟨j1, j2, j3⟩ hO
      exact ⟨lift.out U U' j1 hO, j2.only hO (by simp; omega), j3.only hO (by simp; omega)⟩
    rintro U ⟨j1, j2, j3⟩ hU
    have E1 := D1.only j1 (by simp)
    have u0 : U.cell? ⟨V.heap.size, 0, none⟩ = some (.int .u32 (cut p.a k)) := j3.cell 0
    have u1 : U.cell? ⟨V.heap.size, 1, none⟩ = some (.int .i64 k) := j3.cell 1
    have q0 : U.cell? ⟨w.heap.size + 1, 0, none⟩ = some (.int .u32 q.a) := E1.cell 0
    have q1 : U.cell? ⟨w.heap.size + 1, 1, none⟩ = some (.int .i64 q.l) := E1.cell 1
    have H2 := Lib.hid h2; clear h2
    have hok := Lib.hid (take_ok Hp.out (show k ≤ p.l by omega))
    gi_wp2_with fail
    refine ⟨trivial, rfl, calls_round l ((holds_any (p.take k) q _ hok.out.1 Hq.out.1 hok.out.2.1 hql).mono ?_)⟩
    rintro e U2 ⟨rfl, hKU⟩
    have j1' : Only [w.heap.size + 1 + 1 + 1] w2 U2 := j1.trans (Only.of_kp hKU)
    have kept : Kept2 w2 U U2 := ⟨hKU.heap (by omega), hKU.heap (by omega)⟩
    by_cases hh : (p.take k).holds q
    · rw [show holdsI (p.take k) q = 1 by simp [holdsI, hh]]
      have F3 := j3.keep hKU
      have F2 := j2.keep hKU
      clear u0 u1 q0 q1
      have u0 : U2.cell? ⟨V.heap.size, 0, none⟩ = some (.int .u32 (cut p.a k)) := F3.cell 0
      have u1 : U2.cell? ⟨V.heap.size, 1, none⟩ = some (.int .i64 k) := F3.cell 1
      have x0 : U2.cell? ⟨w.heap.size + 1 + 1 + 1, 0, none⟩ = some (.int .u32 (p.take (k - 1)).a) := F2.cell 0
      have x1 : U2.cell? ⟨w.heap.size + 1 + 1 + 1, 1, none⟩ = some (.int .i64 (p.take (k - 1)).l) := F2.cell 1
      have z0 := F2.frozen 0
      have z1 := F2.frozen 1
      have Hh := Lib.hid hh; clear hh
      gi_wp2_with fail
      refine ⟨⟨((Below.heap_setCell _ _ _ _ (by simp; omega)).trans (Below.heap_setCell _ _ _ _ (by simp; omega))).trans kept.1, ((Below.heap_setCell _ _ _ _ (by simp; omega)).trans (Below.heap_setCell _ _ _ _ (by simp; omega))).trans kept.2⟩, (j1'.setCell (.inl (by simp)) _).setCell (.inl (by simp)) _, fun j hj => ?_, ?_⟩
      · by_cases e : j = k
        · subst e; exact Hh.out
        · exact H2.out j (by omega)
      · rw [Nat.add_sub_cancel]; exact (F2.set_ 0 _).set_ 1 _
    · rw [show holdsI (p.take k) q = 0 by simp [holdsI, hh]]
      have F2 := j2.keep hKU
      have Hh := Lib.hid hh; clear hh
      gi_wp2_with fail
      have hk1 : 0 < k := by
        rcases Nat.eq_zero_or_pos k with rfl | h
        · exact absurd (take_zero_holds Hp.out Hq.out) Hh.out
        · exact h
      exact ⟨kept, rfl, j1', by rw [com_break Hp.out Hq.out (show k ≤ p.l by omega) (H2.out (k - 1) (by omega)) Hh.out]; exact F2⟩
  · rintro V ⟨h1, B⟩ hd
    have c0 : V.cell? ⟨w.heap.size + 1 + 1 + 1, 0, none⟩ = some (.int .u32 (p.com q).a) := B.cell 0
    have c1 : V.cell? ⟨w.heap.size + 1 + 1 + 1, 1, none⟩ = some (.int .i64 (p.com q).l) := B.cell 1
    have D2' := D2.only h1 (by simp)
    have z0 := D2'.frozen 0
    have z1 := D2'.frozen 1
    have y0 : V.cell? ⟨w.heap.size + 1 + 1, 0, none⟩ = some (.int .u32 0) := D2'.cell 0
    have y1 : V.cell? ⟨w.heap.size + 1 + 1, 1, none⟩ = some (.int .i64 0) := D2'.cell 1
    go_wp2_with fail
    have R := (D2'.set_ 0 (.int .u32 (p.com q).a)).set_ 1 (.int .i64 (p.com q).l)
    have hd' : ((V.setCell ⟨w.heap.size + 1 + 1, 0, none⟩ (.int .u32 (p.com q).a)).setCell ⟨w.heap.size + 1 + 1, 1, none⟩ (.int .i64 (p.com q).l)).heap[w2.heap.size]? = some (.deferred (some [])) :=
      ((Below.heap_setCell _ _ _ _ (by simp; omega)).trans (Below.heap_setCell _ _ _ _ (by simp; omega))).trans hd
    have k3 : Kp w ((V.setCell ⟨w.heap.size + 1 + 1, 0, none⟩ (.int .u32 (p.com q).a)).setCell ⟨w.heap.size + 1 + 1, 1, none⟩ (.int .i64 (p.com q).l)) :=
      (((Only.refl [w.heap.size + 1 + 1] V).setCell (.inl (by simp)) _).setCell (.inl (by simp)) _).kp (h1.kp kw (by simp; omega)) (by simp; omega)
    refine jump_ret ?_
    refine takes_one hd' (fun V' hO => ⟨.tuple #[.agg #[.int .u32 (p.com q).a, .int .i64 (p.com q).l], .int .i64 0], ?_, rfl, hO.kp k3 (by simp; omega)⟩)
    have r0 : V'.cell? ⟨w.heap.size + 1 + 1, 0, none⟩ = some (.int .u32 (p.com q).a) := (R.only hO (by simp; omega)).cell 0
    have r1 : V'.cell? ⟨w.heap.size + 1 + 1, 1, none⟩ = some (.int .i64 (p.com q).l) := (R.only hO (by simp; omega)).cell 1
    simp [results, Tryz.results109, go_sem, r0, r1]
end Go.Proofs.YtfaiponmjjbgoaaGreatDoor

/- For the trie's hang: prefixes unequal, a cell set to what it holds. -/
namespace Go.Proofs.YtfaiponmjjbgoaaGreatDoor
open Go.RowKit

set_option maxRecDepth 100000 in
theorem pfx_neq (w : World) (a l b k : Int) : (binOp .neq 26 (.agg #[.int .u32 a, .int .i64 l]) (.agg #[.int .u32 b, .int .i64 k])).run Tryz.prog w = .ok (.bool (!(a == b && l == k))) w := by
  rw [run_neq_struct, run_equalIn_agg w 9999 _ _ _ Tryz.underlying26 (by kernel_rfl)]
  simp [Op.eqFields, part, go_sem, Tryz.underlying3, Tryz.underlying24]
  by_cases h1 : a = b <;> by_cases h2 : l = k <;> simp [h1, h2]
theorem pn_beq {p q : Pn} : (((p.a : Int) == (q.a : Int)) && ((p.l : Int) == (q.l : Int))) = decide (p = q) := by
  by_cases h : p = q
  · subst h; simp
  · have : ¬ (p.a = q.a ∧ p.l = q.l) := fun e => h (by cases p; cases q; simp at e ⊢; exact e)
    simp only [h, decide_false]
    cases hh : (((p.a : Int) == (q.a : Int)) && ((p.l : Int) == (q.l : Int))) with
    | false => rfl
    | true =>
      simp at hh
      exact absurd (by omega) this
theorem pfx_ne (w : World) (p q : Pn) : (binOp .neq 26 (.agg #[.int .u32 p.a, .int .i64 p.l]) (.agg #[.int .u32 q.a, .int .i64 q.l])).run Tryz.prog w = .ok (.bool (!decide (p = q))) w := by
  rw [pfx_neq, pn_beq]

/-- A block's cell set to what it holds: nothing changes. -/
theorem arr_set_id {cs : Array Value} {i : Nat} {u : Value} (hu : cs[i]? = some u) : cs.setIfInBounds i u = cs := by
  apply Array.ext_getElem?
  intro k
  rw [Array.getElem?_setIfInBounds]
  by_cases e : i = k
  · subst e
    obtain ⟨h1, h2⟩ := Array.getElem?_eq_some_iff.1 hu
    simp [h1, h2]
  · simp [e]
theorem set_id {w : World} {g : Nat} {t : TypeId} {cs : Array Value} (h : Blk w g t cs) {i : Nat} {u : Value} (hu : cs[i]? = some u) : (w.setCell ⟨g, i, none⟩ u).heap = w.heap := by
  apply Array.ext_getElem?
  intro j
  by_cases e : j = g
  · subst e
    have h2 := h.set_ i u
    rw [arr_set_id hu] at h2
    unfold Blk at h h2
    rw [h, h2]
  · exact Below.heap_setCell _ _ _ _ (by simpa using e)
end Go.Proofs.YtfaiponmjjbgoaaGreatDoor

/- The trie's hang: a prefix with a value is hung at its place. -/
namespace Go.Proofs.YtfaiponmjjbgoaaGreatDoor
open Go.RowKit
attribute [local go_sem] Oper.semAt_some

theorem ptr_is_nil (w : World) : (binOp .eql 85 (.pointer none) (.pointer none)).run Tryz.prog w = .ok (.bool true) w := by kernel_rfl
theorem ptr_not_nil (w : World) (b : Nat) : (binOp .eql 85 (.pointer (some ⟨b, 0, none⟩)) (.pointer none)).run Tryz.prog w = .ok (.bool false) w := by kernel_rfl

/-- What hang leaves: the new tree lies there, and its place points to it. -/
def HangPost (w : World) (a0 a1 : Nat) (q : Pn) (v : Int) (s : Tr) (w' : World) : Prop :=
  ∃ (b1 b2 : Nat) (W : World), w.heap.size ≤ b1 ∧ w.heap.size ≤ b2 ∧ b1 ≠ b2 ∧ Only s.bs w W ∧ TM W (hangT q v b1 b2 s) ∧ w'.heap = (W.setCell ⟨a0, a1, none⟩ (hangT q v b1 b2 s).ptr).heap ∧ w'.os = W.os ∧ w'.tape = W.tape ∧ w'.output = W.output

set_option maxRecDepth 100000 in
set_option maxHeartbeats 2000000 in
theorem hang_any (a0 a1 : Nat) (ty : TypeId) (cs : Array Value) (q : Pn) (v : Int) (s : Tr) (w : World) (hA : Blk w a0 ty cs) (hc : cs[a1]? = some s.ptr) (hM : TM w s) (hn : a0 ∉ s.bs) (hnd : s.bs.Nodup) (hq : q.ok) (hwf : s.Wf)
    (hk : ∀ b p u h x y, s = .node b p u h x y → p = q ∨ ¬ p.holds q) :
    Calls Tryz.prog 89 #[.pointer (some ⟨a0, a1, none⟩), .agg #[.int .u32 q.a, .int .i64 q.l], .int .i64 v] w fun e w' => e = .returned (.tuple #[]) ∧ HangPost w a0 a1 q v s w' := by
  have Hq := Lib.hid hq
  have hql := hq.2.1
  have h1 := ptr_is_nil
  have h2 := ptr_not_nil
  have ht1 := pfx_eq_t
  have hAlt := hA.lt
  obtain ⟨W, hW, kW, B0, B1⟩ : ∃ W, (w.alloc (.cells #[.int .u32 q.a, .int .i64 q.l] 26)).alloc (.cells #[.int .u32 q.a, .int .i64 q.l, .int .i64 v, .bool true, .pointer none, .pointer none] 106) = W ∧ Kp w W ∧ Blk W w.heap.size 26 #[.int .u32 q.a, .int .i64 q.l] ∧ Blk W (w.heap.size + 1) 106 #[.int .u32 q.a, .int .i64 q.l, .int .i64 v, .bool true, .pointer none, .pointer none] :=
    ⟨_, rfl, ((Kp.refl _).alloc _).alloc _, (Blk.new w _ _).alloc _, Blk.new1 w _ _ _⟩
  have hsz := kW.size
  have cA : w.cell? ⟨a0, a1, none⟩ = some s.ptr := (hA.cell a1).trans hc
  have A1 := hA.keep kW
  have cA1 : W.cell? ⟨a0, a1, none⟩ = some s.ptr := kW.cell cA
  have zA1 : W.frozen? ⟨a0, a1, none⟩ = false := A1.frozen a1
  have Hc := Lib.hid hc
  clear hc hq
  cases s with
  | nil =>
    have cA' : w.cell? ⟨a0, a1, none⟩ = some (.pointer none) := cA
    have cA1' : W.cell? ⟨a0, a1, none⟩ = some (.pointer none) := cA1
    clear cA cA1
    go_enter Tryz.func89, Tryz.ntmps89
    go_wp2_with fail
    go_end0
    refine ⟨rfl, w.heap.size + 1, w.heap.size + 2, W, by omega, by omega, by omega, Only.of_kp kW, ⟨B1, trivial, trivial⟩, rfl, rfl, rfl, rfl⟩
  | node b p u h x y =>
    have cA' : w.cell? ⟨a0, a1, none⟩ = some (.pointer (some ⟨b, 0, none⟩)) := cA
    have cA1' : W.cell? ⟨a0, a1, none⟩ = some (.pointer (some ⟨b, 0, none⟩)) := cA1
    clear cA cA1
    have hp := hwf.1
    have hpl := hp.2.1
    obtain ⟨N, Mx, My⟩ := hM
    have N1 := N.keep kW
    have hbA : b ≠ a0 := fun e => hn (by simp [Tr.bs, e])
    have hbl := N.lt
    have Hnd := Lib.hid (show b ∉ x.bs ∧ b ∉ y.bs by simp only [Tr.bs, List.cons_append, List.nodup_cons, List.mem_append, not_or] at hnd; exact hnd.1)
    have n0 : W.cell? ⟨b, 0, none⟩ = some (.int .u32 p.a) := N1.cell 0
    have n1 : W.cell? ⟨b, 1, none⟩ = some (.int .i64 p.l) := N1.cell 1
    have n2 : W.cell? ⟨b, 2, none⟩ = some (.int .i64 u) := N1.cell 2
    have n3 : W.cell? ⟨b, 3, none⟩ = some (.bool h) := N1.cell 3
    have q0 : W.cell? ⟨w.heap.size, 0, none⟩ = some (.int .u32 q.a) := B0.cell 0
    have q1 : W.cell? ⟨w.heap.size, 1, none⟩ = some (.int .i64 q.l) := B0.cell 1
    have z2 := N1.frozen 2
    have z3 := N1.frozen 3
    have Hk := Lib.hid (hk b p u h x y rfl)
    clear hk
    by_cases e : p = q
    · subst e
      go_enter Tryz.func89, Tryz.ntmps89
      go_wp2_with fail
      go_quiet (fail)
      go_wp2_with fail
      go_end0
      refine ⟨rfl, ?_⟩
      have E : hangT p v (w.heap.size + 1) (w.heap.size + 2) (.node b p u h x y) = .node b p v true x y := by simp [hangT]
      have NB := ((N1.drewN nq).set_ 2 (.int .i64 v)).set_ 3 (.bool true)
      have OB : Only (Tr.node b p u h x y).bs w (((W.drewN nq).setCell ⟨b, 2, none⟩ (.int .i64 v)).setCell ⟨b, 3, none⟩ (.bool true)) := ((Only.of_kp (kW.drewN nq)).setCell (.inl (by simp [Tr.bs])) _).setCell (.inl (by simp [Tr.bs])) _
      have OB1 : Only [b] w (((W.drewN nq).setCell ⟨b, 2, none⟩ (.int .i64 v)).setCell ⟨b, 3, none⟩ (.bool true)) := ((Only.of_kp (kW.drewN nq)).setCell (.inl (by simp)) _).setCell (.inl (by simp)) _
      have AB := hA.only OB hn
      refine ⟨w.heap.size + 1, w.heap.size + 2, _, by omega, by omega, by omega, OB, ?_, ?_, rfl, rfl, rfl⟩
      · rw [E]
        exact ⟨NB, Mx.only OB1 (fun c hc e => by simp at e; subst e; exact Hnd.out.1 hc), My.only OB1 (fun c hc e => by simp at e; subst e; exact Hnd.out.2 hc)⟩
      · rw [E]
        exact (set_id AB Hc.out).symm
    · have hne := fun w => pfx_eq_f w e
      have He := Lib.hid e; clear e
      have hcm := Lib.hid (com_ok (p := p) (q := q) hp)
      have hcl := hcm.out.2.1
      have Hp := Lib.hid hp; clear hp
      have hpne := pfx_ne
      go_enter Tryz.func89, Tryz.ntmps89
      go_wp2_with fail
      go_quiet (fail)
      go_upto_region 3 with (fail)
      go_cut [8, 9] from 18 to 26 (fun s8 s9 wx => ∃ c, s8 = .pointer (some ⟨c, 0, none⟩) ∧ s9 = .int .i64 0 ∧ W.heap.size ≤ c ∧ Kp W wx ∧ Blk wx c 26 #[.int .u32 (p.com q).a, .int .i64 (p.com q).l])
      case first =>
        go_region_held3 (fun w' => w'.cell? ⟨b, 0, none⟩ = some (.int .u32 p.a) ∧ w'.cell? ⟨b, 1, none⟩ = some (.int .i64 p.l) ∧ w'.cell? ⟨w.heap.size, 0, none⟩ = some (.int .u32 q.a) ∧ w'.cell? ⟨w.heap.size, 1, none⟩ = some (.int .i64 q.l))
          (first | exact ⟨Ka.cell n0, Ka.cell n1, Ka.cell q0, Ka.cell q1⟩ | exact ⟨(Ka.alloc _).cell n0, (Ka.alloc _).cell n1, (Ka.alloc _).cell q0, (Ka.alloc _).cell q1⟩ | exact ⟨((Ka.setCell (Nat.le_refl _) _).setCell (Nat.le_refl _) _).cell n0, ((Ka.setCell (Nat.le_refl _) _).setCell (Nat.le_refl _) _).cell n1, ((Ka.setCell (Nat.le_refl _) _).setCell (Nat.le_refl _) _).cell q0, ((Ka.setCell (Nat.le_refl _) _).setCell (Nat.le_refl _) _).cell q1⟩ | go_keep)
          (first | (go_at_call 109; refine (common_any p q _ Hp.out Hq.out).mono ?_; rintro e wa ⟨rfl, hKa⟩; (first | (have Ka : Kp W wa := ((Kp.refl W).drewN _).drew.trans hKa) | (have Ka : Kp W wa := (((Kp.refl W).drewN _).drew.alloc _).trans hKa; have Bz : Blk wa W.heap.size 26 #[.int .u32 0, .int .i64 0] := Blk.keep (Blk.new ((W.drewN _).drew) _ _) hKa; have s0 : wa.cell? ⟨W.heap.size, 0, none⟩ = some (.int .u32 0) := Bz.cell 0; have s1 : wa.cell? ⟨W.heap.size, 1, none⟩ = some (.int .i64 0) := Bz.cell 1; have s2 := Bz.frozen 0; have s3 := Bz.frozen 1))))
        all_goals
          go_wp2_with fail
          go_meet
        case rel => exact ⟨_, rfl, rfl, Ka.size, Ka.alloc _, Blk.new wa _ _⟩
        case rel => exact ⟨_, rfl, rfl, Nat.le_refl _, (Ka.setCell (Nat.le_refl _) _).setCell (Nat.le_refl _) _, (Bz.set_ 0 _).set_ 1 _⟩
      case rest =>
        obtain ⟨c, rfl, rfl, hcW, Kc, C⟩ := hcut
        have kc := kW.trans Kc
        have D0 := B0.keep Kc
        have D1 := B1.keep Kc
        have DN := N.keep kc
        have DA := hA.keep kc
        have hs1 := Kc.size
        have hs2 := D1.lt
        have hs3 := C.lt
        have c0 : wc.cell? ⟨c, 0, none⟩ = some (.int .u32 (p.com q).a) := C.cell 0
        have c1 : wc.cell? ⟨c, 1, none⟩ = some (.int .i64 (p.com q).l) := C.cell 1
        clear n0 n1 n2 n3 q0 q1 z2 z3 zA1 cA1' cA' hW
        have q0 : wc.cell? ⟨w.heap.size, 0, none⟩ = some (.int .u32 q.a) := D0.cell 0
        have q1 : wc.cell? ⟨w.heap.size, 1, none⟩ = some (.int .i64 q.l) := D0.cell 1
        by_cases hcq : p.com q = q
        · have hd : decide (p.com q = q) = true := by simp [hcq]
          have Hcq := Lib.hid hcq; clear hcq
          rcases bit_cases p.a (p.com q).l with hb | hb
          · have Hb := Lib.hid hb; clear hb
            go_wp2_with fail
            refine wp_tail 13 (by kernel_rfl) (by kernel_rfl) (fun V hV => ?_)
            have KV : Kp wc V := by rw [hV]; exact (Kp.refl _).drew
            have N3 := DN.keep KV
            have C3 := C.keep KV
            have L3 := D1.keep KV
            have A3 := DA.keep KV
            clear hV q0 q1 c0 c1
            have n0 : V.cell? ⟨b, 0, none⟩ = some (.int .u32 p.a) := N3.cell 0
            have c1 : V.cell? ⟨c, 1, none⟩ = some (.int .i64 (p.com q).l) := C3.cell 1
            have l0 : V.cell? ⟨w.heap.size + 1, 4, none⟩ = some (.pointer none) := L3.cell 4
            have z0 := L3.frozen 4
            have zA := A3.frozen a1
            have cA : V.cell? ⟨a0, a1, none⟩ = some (.pointer (some ⟨b, 0, none⟩)) := (A3.cell a1).trans Hc.out
            simp only [List.take_succ_cons, List.take_zero, List.drop_succ_cons, List.drop_zero]
            repeat still_step
            still_call (by refine (bit_any p.a (p.com q).l _ Hp.out.1 hcl).mono ?_; rintro e w' ⟨rfl, rfl⟩; rw [Hb.out]; exact ⟨rfl, rfl⟩)
            repeat still_step
            refine wpStill_nil ?_
            go_wp2_with fail
            go_end0
            have k3 : Kp w (V.setCell ⟨w.heap.size + 1, 4, none⟩ (.pointer (some ⟨b, 0, none⟩))) := (kc.trans KV).setCell (by simp) _
            have E : hangT q v (w.heap.size + 1) (w.heap.size + 2) (.node b p u h x y) = .node (w.heap.size + 1) q v true (.node b p u h x y) .nil := by
              have hb := Hb.out
              rw [Hcq.out] at hb
              simp [hangT, He.out, Hcq.out, hb]
            refine ⟨rfl, w.heap.size + 1, w.heap.size + 2, _, by omega, by omega, by omega, Only.of_kp k3, ?_, by rw [E]; rfl, rfl, rfl, rfl⟩
            rw [E]
            exact ⟨L3.set_ 4 _, ⟨N.keep k3, Mx.keep k3, My.keep k3⟩, trivial⟩
          · have Hb := Lib.hid hb; clear hb
            go_wp2_with fail
            refine wp_tail 13 (by kernel_rfl) (by kernel_rfl) (fun V hV => ?_)
            have KV : Kp wc V := by rw [hV]; exact (Kp.refl _).drew
            have N3 := DN.keep KV
            have C3 := C.keep KV
            have L3 := D1.keep KV
            have A3 := DA.keep KV
            clear hV q0 q1 c0 c1
            have n0 : V.cell? ⟨b, 0, none⟩ = some (.int .u32 p.a) := N3.cell 0
            have c1 : V.cell? ⟨c, 1, none⟩ = some (.int .i64 (p.com q).l) := C3.cell 1
            have l0 : V.cell? ⟨w.heap.size + 1, 5, none⟩ = some (.pointer none) := L3.cell 5
            have z0 := L3.frozen 5
            have zA := A3.frozen a1
            have cA : V.cell? ⟨a0, a1, none⟩ = some (.pointer (some ⟨b, 0, none⟩)) := (A3.cell a1).trans Hc.out
            simp only [List.take_succ_cons, List.take_zero, List.drop_succ_cons, List.drop_zero]
            repeat still_step
            still_call (by refine (bit_any p.a (p.com q).l _ Hp.out.1 hcl).mono ?_; rintro e w' ⟨rfl, rfl⟩; rw [Hb.out]; exact ⟨rfl, rfl⟩)
            repeat still_step
            refine wpStill_nil ?_
            go_wp2_with fail
            go_end0
            have k3 : Kp w (V.setCell ⟨w.heap.size + 1, 5, none⟩ (.pointer (some ⟨b, 0, none⟩))) := (kc.trans KV).setCell (by simp) _
            have E : hangT q v (w.heap.size + 1) (w.heap.size + 2) (.node b p u h x y) = .node (w.heap.size + 1) q v true .nil (.node b p u h x y) := by
              have hb := Hb.out
              rw [Hcq.out] at hb
              simp [hangT, He.out, Hcq.out, hb]
            refine ⟨rfl, w.heap.size + 1, w.heap.size + 2, _, by omega, by omega, by omega, Only.of_kp k3, ?_, by rw [E]; rfl, rfl, rfl, rfl⟩
            rw [E]
            exact ⟨L3.set_ 5 _, trivial, ⟨N.keep k3, Mx.keep k3, My.keep k3⟩⟩
        · have hd : decide (p.com q = q) = false := by simp [hcq]
          have hno : ¬ p.holds q := by rcases Hk.out with e | e; exact absurd e He.out; exact e
          have c1' : (p.com q).holds p := com_left
          have c2' := com_right Hp.out Hq.out
          have l1 : (p.com q).l < p.l := by
            rcases Nat.lt_or_ge (p.com q).l p.l with h1 | h1
            · exact h1
            · have e := holds_eq c1' (Nat.le_antisymm c1'.1 h1) Hp.out
              rw [e] at c2'; exact absurd c2' hno
          have l2 : (p.com q).l < q.l := by
            rcases Nat.lt_or_ge (p.com q).l q.l with h1 | h1
            · exact h1
            · exact absurd (holds_eq c2' (Nat.le_antisymm c2'.1 h1) Hq.out) hcq
          have Hbits := Lib.hid (com_bits Hp.out Hq.out l1 l2)
          clear hno c1' c2' l1 l2
          have Hcq := Lib.hid hcq; clear hcq
          obtain ⟨X, hX, KX, OX⟩ : ∃ X, wc.alloc (.cells #[.int .u32 (p.com q).a, .int .i64 (p.com q).l, .int .i64 0, .bool false, .pointer none, .pointer none] 106) = X ∧ Kp wc X ∧ Blk X wc.heap.size 106 #[.int .u32 (p.com q).a, .int .i64 (p.com q).l, .int .i64 0, .bool false, .pointer none, .pointer none] := ⟨_, rfl, (Kp.refl _).alloc _, Blk.new wc _ _⟩
          rcases bit_cases q.a (p.com q).l with hb | hb
          · have Hb := Lib.hid hb
            have Hb2 := Lib.hid (show bitN p.a (p.com q).l = 1 by have := bit_lt p.a (p.com q).l; have := Hbits.out; omega)
            clear hb
            go_wp2_with fail
            refine wp_tail 10 (by kernel_rfl) (by kernel_rfl) (fun V hV => ?_)
            have KV : Kp X V := by rw [hV]; exact (Kp.refl _).drew
            have O3 := OX.keep KV
            have C3 := (C.keep KX).keep KV
            have P3 := (D0.keep KX).keep KV
            clear hV q0 q1 c0 c1 hX
            have q0 : V.cell? ⟨w.heap.size, 0, none⟩ = some (.int .u32 q.a) := P3.cell 0
            have c1 : V.cell? ⟨c, 1, none⟩ = some (.int .i64 (p.com q).l) := C3.cell 1
            have o0 : V.cell? ⟨wc.heap.size, 4, none⟩ = some (.pointer none) := O3.cell 4
            have z0 := O3.frozen 4
            simp only [List.take_succ_cons, List.take_zero, List.drop_succ_cons, List.drop_zero]
            repeat still_step
            still_call (by refine (bit_any q.a (p.com q).l _ Hq.out.1 hcl).mono ?_; rintro e w' ⟨rfl, rfl⟩; rw [Hb.out]; exact ⟨rfl, rfl⟩)
            repeat still_step
            refine wpStill_nil ?_
            go_wp2_with fail
            refine wp_tail 13 (by kernel_rfl) (by kernel_rfl) (fun U hU => ?_)
            have kv : Kp wc V := KX.trans KV
            have O4 : Blk U wc.heap.size 106 #[.int .u32 (p.com q).a, .int .i64 (p.com q).l, .int .i64 0, .bool false, .pointer (some ⟨w.heap.size + 1, 0, none⟩), .pointer none] := by rw [hU]; exact O3.set_ 4 _
            have KU : Kp wc U := by rw [hU]; exact (kv.setCell (Nat.le_refl _) _).drew
            have N4 := DN.keep KU
            have C4 := C.keep KU
            have A4 := DA.keep KU
            have L4 := D1.keep KU
            clear hU q0 c1 o0 z0
            have n0 : U.cell? ⟨b, 0, none⟩ = some (.int .u32 p.a) := N4.cell 0
            have c1 : U.cell? ⟨c, 1, none⟩ = some (.int .i64 (p.com q).l) := C4.cell 1
            have o0 : U.cell? ⟨wc.heap.size, 5, none⟩ = some (.pointer none) := O4.cell 5
            have z0 := O4.frozen 5
            have zA := A4.frozen a1
            have cA : U.cell? ⟨a0, a1, none⟩ = some (.pointer (some ⟨b, 0, none⟩)) := (A4.cell a1).trans Hc.out
            simp only [List.take_succ_cons, List.take_zero, List.drop_succ_cons, List.drop_zero]
            repeat still_step
            still_call (by refine (bit_any p.a (p.com q).l _ Hp.out.1 hcl).mono ?_; rintro e w' ⟨rfl, rfl⟩; rw [Hb2.out]; exact ⟨rfl, rfl⟩)
            repeat still_step
            refine wpStill_nil ?_
            go_wp2_with fail
            go_end0
            have k3' : Kp wc (U.setCell ⟨wc.heap.size, 5, none⟩ (.pointer (some ⟨b, 0, none⟩))) := KU.setCell (Nat.le_refl _) _
            have k3 := kc.trans k3'
            have E : hangT q v (w.heap.size + 1) wc.heap.size (.node b p u h x y) = .node wc.heap.size (p.com q) 0 false (.node (w.heap.size + 1) q v true .nil .nil) (.node b p u h x y) := by
              simp [hangT, He.out, Hcq.out, Hb.out]
            refine ⟨rfl, w.heap.size + 1, wc.heap.size, _, by omega, kc.size, by omega, Only.of_kp k3, ?_, by rw [E]; rfl, rfl, rfl, rfl⟩
            rw [E]
            exact ⟨O4.set_ 5 _, ⟨D1.keep k3', trivial, trivial⟩, ⟨N.keep k3, Mx.keep k3, My.keep k3⟩⟩
          · have Hb := Lib.hid hb
            have Hb2 := Lib.hid (show bitN p.a (p.com q).l = 0 by have := bit_lt p.a (p.com q).l; have := Hbits.out; omega)
            clear hb
            go_wp2_with fail
            refine wp_tail 10 (by kernel_rfl) (by kernel_rfl) (fun V hV => ?_)
            have KV : Kp X V := by rw [hV]; exact (Kp.refl _).drew
            have O3 := OX.keep KV
            have C3 := (C.keep KX).keep KV
            have P3 := (D0.keep KX).keep KV
            clear hV q0 q1 c0 c1 hX
            have q0 : V.cell? ⟨w.heap.size, 0, none⟩ = some (.int .u32 q.a) := P3.cell 0
            have c1 : V.cell? ⟨c, 1, none⟩ = some (.int .i64 (p.com q).l) := C3.cell 1
            have o0 : V.cell? ⟨wc.heap.size, 5, none⟩ = some (.pointer none) := O3.cell 5
            have z0 := O3.frozen 5
            simp only [List.take_succ_cons, List.take_zero, List.drop_succ_cons, List.drop_zero]
            repeat still_step
            still_call (by refine (bit_any q.a (p.com q).l _ Hq.out.1 hcl).mono ?_; rintro e w' ⟨rfl, rfl⟩; rw [Hb.out]; exact ⟨rfl, rfl⟩)
            repeat still_step
            refine wpStill_nil ?_
            go_wp2_with fail
            refine wp_tail 13 (by kernel_rfl) (by kernel_rfl) (fun U hU => ?_)
            have kv : Kp wc V := KX.trans KV
            have O4 : Blk U wc.heap.size 106 #[.int .u32 (p.com q).a, .int .i64 (p.com q).l, .int .i64 0, .bool false, .pointer none, .pointer (some ⟨w.heap.size + 1, 0, none⟩)] := by rw [hU]; exact O3.set_ 5 _
            have KU : Kp wc U := by rw [hU]; exact (kv.setCell (Nat.le_refl _) _).drew
            have N4 := DN.keep KU
            have C4 := C.keep KU
            have A4 := DA.keep KU
            have L4 := D1.keep KU
            clear hU q0 c1 o0 z0
            have n0 : U.cell? ⟨b, 0, none⟩ = some (.int .u32 p.a) := N4.cell 0
            have c1 : U.cell? ⟨c, 1, none⟩ = some (.int .i64 (p.com q).l) := C4.cell 1
            have o0 : U.cell? ⟨wc.heap.size, 4, none⟩ = some (.pointer none) := O4.cell 4
            have z0 := O4.frozen 4
            have zA := A4.frozen a1
            have cA : U.cell? ⟨a0, a1, none⟩ = some (.pointer (some ⟨b, 0, none⟩)) := (A4.cell a1).trans Hc.out
            simp only [List.take_succ_cons, List.take_zero, List.drop_succ_cons, List.drop_zero]
            repeat still_step
            still_call (by refine (bit_any p.a (p.com q).l _ Hp.out.1 hcl).mono ?_; rintro e w' ⟨rfl, rfl⟩; rw [Hb2.out]; exact ⟨rfl, rfl⟩)
            repeat still_step
            refine wpStill_nil ?_
            go_wp2_with fail
            go_end0
            have k3' : Kp wc (U.setCell ⟨wc.heap.size, 4, none⟩ (.pointer (some ⟨b, 0, none⟩))) := KU.setCell (Nat.le_refl _) _
            have k3 := kc.trans k3'
            have E : hangT q v (w.heap.size + 1) wc.heap.size (.node b p u h x y) = .node wc.heap.size (p.com q) 0 false (.node b p u h x y) (.node (w.heap.size + 1) q v true .nil .nil) := by
              simp [hangT, He.out, Hcq.out, Hb.out]
            refine ⟨rfl, w.heap.size + 1, wc.heap.size, _, by omega, kc.size, by omega, Only.of_kp k3, ?_, by rw [E]; rfl, rfl, rfl, rfl⟩
            rw [E]
            exact ⟨O4.set_ 4 _, ⟨N.keep k3, Mx.keep k3, My.keep k3⟩, ⟨D1.keep k3', trivial, trivial⟩⟩
end Go.Proofs.YtfaiponmjjbgoaaGreatDoor

/- Trees in memory: what lies beside a place, and what a store there, or in the node there, comes to. -/
namespace Go.Proofs.YtfaiponmjjbgoaaGreatDoor
open Go.RowKit

/-- The nodes beside a prefix's place lie there. -/
def TMb (w : World) (q : Pn) : Tr → Prop
  | .nil => True
  | .node b p v h x y => if p.holds q then (if p.l = q.l then True else if bitN q.a p.l = 0 then Blk w b 106 #[.int .u32 p.a, .int .i64 p.l, .int .i64 v, .bool h, x.ptr, y.ptr] ∧ TMb w q x ∧ TM w y else Blk w b 106 #[.int .u32 p.a, .int .i64 p.l, .int .i64 v, .bool h, x.ptr, y.ptr] ∧ TM w x ∧ TMb w q y) else True
theorem TMb.of {w : World} {q : Pn} : ∀ {t : Tr}, TM w t → TMb w q t
  | .nil, _ => trivial
  | .node b p v h x y, ⟨h0, hx, hy⟩ => by
    unfold TMb
    split
    · split
      · trivial
      · split
        · exact ⟨h0, TMb.of hx, hy⟩
        · exact ⟨h0, hx, TMb.of hy⟩
    · trivial
theorem TMb.only {bs : List Nat} {w w' : World} {q : Pn} (k : Only bs w w') : ∀ {t : Tr}, TMb w q t → (∀ b ∈ Tr.beside q t, b ∉ bs) → TMb w' q t
  | .nil, _, _ => trivial
  | .node b p v h x y, hm, hb => by
    unfold TMb at hm ⊢
    unfold Tr.beside at hb
    by_cases hh : p.holds q
    · by_cases hl : p.l = q.l
      · simp [hh, hl]
      · by_cases hbit : bitN q.a p.l = 0
        · simp only [hh, hl, hbit, if_true, if_false] at hm hb ⊢
          exact ⟨hm.1.only k (hb b (by simp)), TMb.only k hm.2.1 (fun c hc => hb c (by simp [hc])), hm.2.2.only k (fun c hc => hb c (by simp [hc]))⟩
        · simp only [hh, hl, hbit, if_true, if_false] at hm hb ⊢
          exact ⟨hm.1.only k (hb b (by simp)), hm.2.1.only k (fun c hc => hb c (by simp [hc])), TMb.only k hm.2.2 (fun c hc => hb c (by simp [hc]))⟩
    · simp [hh]

theorem put_ptr {q : Pn} {s : Tr} : ∀ {t : Tr}, s.ptr = (t.look q).ptr → (Tr.put q s t).ptr = t.ptr
  | .nil, h => h
  | .node b p v hh x y, h => by
    unfold Tr.look at h
    unfold Tr.put
    by_cases h1 : p.holds q
    · by_cases h2 : p.l = q.l
      · simp only [h1, h2, if_true] at h ⊢; exact h
      · by_cases h3 : bitN q.a p.l = 0
        · simp only [h1, h2, h3, if_true, if_false]; rfl
        · simp only [h1, h2, h3, if_true, if_false]; rfl
    · simp only [h1, if_false] at h ⊢; exact h
/-- Another tree where the old one's node lies: no pointer turns. -/
theorem put_same {w : World} {q : Pn} {s : Tr} : ∀ {t : Tr}, TMb w q t → TM w s → s.ptr = (t.look q).ptr → TM w (Tr.put q s t)
  | .nil, _, hs, _ => hs
  | .node b p v hh x y, hm, hs, h => by
    unfold TMb at hm
    unfold Tr.look at h
    unfold Tr.put
    by_cases h1 : p.holds q
    · by_cases h2 : p.l = q.l
      · simp only [h1, h2, if_true]; exact hs
      · by_cases h3 : bitN q.a p.l = 0
        · simp only [h1, h2, h3, if_true, if_false] at hm h ⊢
          refine ⟨?_, put_same hm.2.1 hs h, hm.2.2⟩
          rw [put_ptr h]; exact hm.1
        · simp only [h1, h2, h3, if_true, if_false] at hm h ⊢
          refine ⟨?_, hm.2.1, put_same hm.2.2 hs h⟩
          rw [put_ptr h]; exact hm.1
    · simp only [h1, if_false]; exact hs

theorem beside_sub {q : Pn} {t : Tr} {b : Nat} (h : b ∈ Tr.beside q t) : b ∈ t.bs := (beside_look q t).mem_iff.2 (List.mem_append.2 (.inl h))
theorem look_sub {q : Pn} {t : Tr} {b : Nat} (h : b ∈ (t.look q).bs) : b ∈ t.bs := (beside_look q t).mem_iff.2 (List.mem_append.2 (.inr h))
theorem beside_nd {q : Pn} {t : Tr} (h : t.bs.Nodup) : (Tr.beside q t).Nodup ∧ (t.look q).bs.Nodup ∧ ∀ b ∈ Tr.beside q t, b ∉ (t.look q).bs := by
  have h1 := List.nodup_append.1 ((beside_look q t).nodup_iff.1 h)
  exact ⟨h1.1, h1.2.1, fun b hb hc => h1.2.2 b hb b hc rfl⟩

/-- A store at a prefix's place hangs another tree there: what lies beside it is all that is asked. -/
theorem put_TMb {w : World} {q : Pn} {s : Tr} : ∀ {t : Tr} {A : Nat × Nat}, TMb w q t → A.1 ∉ t.bs → t.bs.Nodup → TM w s → (Tr.place q A t).1 ∉ s.bs →
    TM (w.setCell ⟨(Tr.place q A t).1, (Tr.place q A t).2, none⟩ s.ptr) (Tr.put q s t) ∧ ((Tr.place q A t = A ∧ Tr.put q s t = s) ∨ ((Tr.place q A t).1 ∈ Tr.beside q t ∧ (Tr.put q s t).ptr = t.ptr))
  | .nil, A, _, _, _, hs, hn => ⟨TM.only (bs := [A.1]) ((Only.refl _ _).setCell (.inl (by simp [Tr.place])) _) hs (fun b hb => by simp [Tr.place] at hn ⊢; intro e; subst e; exact hn hb), .inl ⟨rfl, rfl⟩⟩
  | .node b p v h x y, A, hm, hA, hnd, hs, hn => by
    have hb : b ∉ x.bs ∧ b ∉ y.bs ∧ x.bs.Nodup ∧ y.bs.Nodup ∧ ∀ c ∈ x.bs, c ∉ y.bs := by
      simp only [Tr.bs, List.cons_append, List.nodup_cons, List.mem_append, not_or, List.nodup_append] at hnd
      refine ⟨hnd.1.1, hnd.1.2, hnd.2.1, hnd.2.2.1, fun c hc hc' => hnd.2.2.2 c hc c hc' rfl⟩
    have top : ∀ B : Nat × Nat, B.1 ∉ s.bs → TM (w.setCell ⟨B.1, B.2, none⟩ s.ptr) s := fun B hB =>
      TM.only (bs := [B.1]) ((Only.refl _ _).setCell (.inl (by simp)) _) hs (fun c hc => by simp; intro e; subst e; exact hB hc)
    unfold Tr.put
    unfold TMb at hm
    by_cases hh : p.holds q
    · by_cases hl : p.l = q.l
      · simp only [Tr.place, hh, hl, if_true] at hn ⊢
        exact ⟨top A hn, .inl ⟨trivial, trivial⟩⟩
      · by_cases hbit : bitN q.a p.l = 0
        · simp only [Tr.place, Tr.beside, hh, hl, hbit, if_true, if_false] at hm hn ⊢
          obtain ⟨h0, hx, hy⟩ := hm
          obtain ⟨i1, i2⟩ := put_TMb (A := (b, 4)) hx hb.1 hb.2.2.1 hs hn
          have hin : (Tr.place q (b, 4) x).1 = b ∨ (Tr.place q (b, 4) x).1 ∈ x.bs := by
            rcases i2 with ⟨e, _⟩ | ⟨e, _⟩
            · left; rw [e]
            · exact .inr (beside_sub e)
          have hy' : TM (w.setCell ⟨(Tr.place q (b, 4) x).1, (Tr.place q (b, 4) x).2, none⟩ s.ptr) y :=
            TM.only (bs := [(Tr.place q (b, 4) x).1]) ((Only.refl _ _).setCell (.inl (by simp)) _) hy (fun c hc => by
              simp only [List.mem_singleton]
              intro e; subst e
              rcases hin with e | e
              · rw [e] at hc; exact hb.2.1 hc
              · exact hb.2.2.2.2 _ e hc)
          refine ⟨⟨?_, i1, hy'⟩, .inr ⟨?_, rfl⟩⟩
          · rcases i2 with ⟨e, e2⟩ | ⟨e, e2⟩
            · rw [e, e2]
              exact h0.set_ 4 s.ptr
            · rw [e2]
              exact h0.far (by simp only; intro e'; rw [← e'] at e; exact hb.1 (beside_sub e)) _
          · rcases i2 with ⟨e, _⟩ | ⟨e, _⟩
            · rw [e]; simp
            · simp [e]
        · simp only [Tr.place, Tr.beside, hh, hl, hbit, if_true, if_false] at hm hn ⊢
          obtain ⟨h0, hx, hy⟩ := hm
          obtain ⟨i1, i2⟩ := put_TMb (A := (b, 5)) hy hb.2.1 hb.2.2.2.1 hs hn
          have hin : (Tr.place q (b, 5) y).1 = b ∨ (Tr.place q (b, 5) y).1 ∈ y.bs := by
            rcases i2 with ⟨e, _⟩ | ⟨e, _⟩
            · left; rw [e]
            · exact .inr (beside_sub e)
          have hx' : TM (w.setCell ⟨(Tr.place q (b, 5) y).1, (Tr.place q (b, 5) y).2, none⟩ s.ptr) x :=
            TM.only (bs := [(Tr.place q (b, 5) y).1]) ((Only.refl _ _).setCell (.inl (by simp)) _) hx (fun c hc => by
              simp only [List.mem_singleton]
              intro e; subst e
              rcases hin with e | e
              · rw [e] at hc; exact hb.1 hc
              · exact hb.2.2.2.2 _ hc e)
          refine ⟨⟨?_, hx', i1⟩, .inr ⟨?_, rfl⟩⟩
          · rcases i2 with ⟨e, e2⟩ | ⟨e, e2⟩
            · rw [e, e2]
              exact h0.set_ 5 s.ptr
            · rw [e2]
              exact h0.far (by simp only; intro e'; rw [← e'] at e; exact hb.2.1 (beside_sub e)) _
          · rcases i2 with ⟨e, _⟩ | ⟨e, _⟩
            · rw [e]; simp
            · simp [e]
    · simp only [Tr.place, hh, if_false] at hn ⊢
      exact ⟨top A hn, .inl ⟨trivial, trivial⟩⟩

theorem TM.heap {w w' : World} (h : w'.heap = w.heap) : ∀ {t : Tr}, TM w t → TM w' t
  | .nil, _ => trivial
  | .node b p v hh x y, ⟨h0, hx, hy⟩ => ⟨by unfold Blk at *; rw [h]; exact h0, TM.heap h hx, TM.heap h hy⟩

/-- A trie in memory. -/
structure TrieM (w : World) (tr : Nat) (t : Tr) (many : Int) : Prop where
  blk : Blk w tr 87 #[t.ptr, .int .i64 many, .bool true]
  tm : TM w t
  wf : t.Wf
  nd : t.bs.Nodup
  out : tr ∉ t.bs
theorem TrieM.only {w w' : World} {tr : Nat} {t : Tr} {many : Int} {bs : List Nat} (h : TrieM w tr t many) (k : Only bs w w') (h1 : tr ∉ bs) (h2 : ∀ b ∈ t.bs, b ∉ bs) : TrieM w' tr t many :=
  ⟨h.blk.only k h1, h.tm.only k h2, h.wf, h.nd, h.out⟩
theorem TrieM.keep {w w' : World} {tr : Nat} {t : Tr} {many : Int} (h : TrieM w tr t many) (k : Kp w w') : TrieM w' tr t many := ⟨h.blk.keep k, h.tm.keep k, h.wf, h.nd, h.out⟩
theorem TrieM.heap {w w' : World} {tr : Nat} {t : Tr} {many : Int} (h : TrieM w tr t many) (k : w'.heap = w.heap) : TrieM w' tr t many := ⟨by have := h.blk; unfold Blk at *; rw [k]; exact this, h.tm.heap k, h.wf, h.nd, h.out⟩

theorem hang_bs {q : Pn} {v : Int} {b1 b2 : Nat} {s : Tr} (hn : s.bs.Nodup) (h1 : b1 ∉ s.bs) (h2 : b2 ∉ s.bs) (h12 : b1 ≠ b2) : (hangT q v b1 b2 s).bs.Nodup ∧ ∀ b ∈ (hangT q v b1 b2 s).bs, b = b1 ∨ b = b2 ∨ b ∈ s.bs := by
  cases s with
  | nil => simp [hangT, Tr.bs]
  | node b p u h x y =>
    simp only [hangT]
    split
    · exact ⟨hn, fun c hc => .inr (.inr hc)⟩
    · generalize hs : Tr.node b p u h x y = s at *
      split
      · split
        · simp only [Tr.bs, List.cons_append, List.nodup_cons, List.append_nil, List.nil_append, List.mem_cons]
          exact ⟨⟨h1, hn⟩, fun c hc => by rcases hc with hc | hc; exact .inl hc; exact .inr (.inr hc)⟩
        · simp only [Tr.bs, List.cons_append, List.nodup_cons, List.append_nil, List.nil_append, List.mem_cons]
          exact ⟨⟨h1, hn⟩, fun c hc => by rcases hc with hc | hc; exact .inl hc; exact .inr (.inr hc)⟩
      · split
        · simp only [Tr.bs, List.cons_append, List.nodup_cons, List.append_nil, List.nil_append, List.mem_cons]
          refine ⟨⟨?_, h1, hn⟩, fun c hc => ?_⟩
          · rintro (e | e); exact h12 e.symm; exact h2 e
          · rcases hc with hc | hc | hc; exact .inr (.inl hc); exact .inl hc; exact .inr (.inr hc)
        · simp only [Tr.bs, List.cons_append, List.nodup_cons, List.append_nil, List.nil_append, List.mem_cons, List.mem_append, List.nodup_append]
          refine ⟨⟨?_, hn, by simp, ?_⟩, fun c hc => ?_⟩
          · rintro (e | e | e)
            · exact h2 e
            · exact h12 e.symm
            · cases e
          · rintro c hc d hd rfl
            simp at hd
            subst hd; exact h1 hc
          · rcases hc with hc | hc | hc | hc
            · exact .inr (.inl hc)
            · exact .inr (.inr hc)
            · exact .inl hc
            · cases hc

/-- A prefix hung in a trie. -/
theorem hang_put {w w' : World} {tr : Nat} {q : Pn} {v : Int} {t : Tr} {many : Int} (h : TrieM w tr t many) (hq : q.ok) (hno : ∀ u, (q, u) ∉ t.rows) (hp : HangPost w (Tr.place q (tr, 0) t).1 (Tr.place q (tr, 0) t).2 q v (t.look q) w') :
    ∃ t', TrieM w' tr t' many ∧ Only (tr :: t.bs) w w' ∧ (∀ b ∈ t'.bs, b ∈ t.bs ∨ w.heap.size ≤ b) ∧ ∀ r : Pn × Int, r ∈ t'.rows ↔ r = (q, v) ∨ r ∈ t.rows := by
  obtain ⟨b1, b2, W, hb1, hb2, h12, hO, hT, e1, e2, e3, e4⟩ := hp
  obtain ⟨n1, n2, n3⟩ := beside_nd (q := q) h.nd
  have lt := h.tm.lt
  have hs := hang_bs (q := q) (v := v) (b1 := b1) (b2 := b2) n2 (fun hc => by have := lt _ (look_sub hc); omega) (fun hc => by have := lt _ (look_sub hc); omega) h12
  have hb : TMb W q t := (TMb.of h.tm).only hO n3
  have hpl : (Tr.place q (tr, 0) t).1 = tr ∨ (Tr.place q (tr, 0) t).1 ∈ Tr.beside q t := by
    rcases place_in q t (tr, 0) with e | e
    · left; rw [e]
    · exact .inr e
  have htl := h.blk.lt
  have hplt : (Tr.place q (tr, 0) t).1 < w.heap.size := by
    rcases hpl with e | e
    · rw [e]; exact htl
    · exact lt _ (beside_sub e)
  have hnp : (Tr.place q (tr, 0) t).1 ∉ (t.look q).bs := by
    rcases hpl with e | e
    · rw [e]; exact fun hc => h.out (look_sub hc)
    · exact n3 _ e
  have hps : (Tr.place q (tr, 0) t).1 ∉ (hangT q v b1 b2 (t.look q)).bs := fun hc => by
    rcases hs.2 _ hc with e | e | e
    · omega
    · omega
    · exact hnp e
  obtain ⟨m1, m2⟩ := put_TMb (A := (tr, 0)) hb h.out h.nd hT hps
  have hB : Blk W tr 87 #[t.ptr, .int .i64 many, .bool true] := h.blk.only hO (fun hc => h.out (look_sub hc))
  have perm := beside_put q (hangT q v b1 b2 (t.look q)) t
  have hsub : ∀ b ∈ (insT q v b1 b2 t).bs, b ∈ t.bs ∨ w.heap.size ≤ b := fun b hb => by
    rcases List.mem_append.1 (perm.mem_iff.1 hb) with hc | hc
    · exact .inl (beside_sub hc)
    · rcases hs.2 _ hc with e | e | e
      · right; omega
      · right; omega
      · exact .inl (look_sub e)
  obtain ⟨iw, ir⟩ := ins_all hq (v := v) (b1 := b1) (b2 := b2) h.wf hno
  refine ⟨insT q v b1 b2 t, ⟨?_, m1.heap e1, iw, ?_, ?_⟩, ?_, hsub, ir⟩
  · have : Blk (W.setCell ⟨(Tr.place q (tr, 0) t).1, (Tr.place q (tr, 0) t).2, none⟩ (hangT q v b1 b2 (t.look q)).ptr) tr 87 #[(insT q v b1 b2 t).ptr, .int .i64 many, .bool true] := by
      rcases m2 with ⟨ea, eb⟩ | ⟨ea, eb⟩
      · have ec : (insT q v b1 b2 t).ptr = (hangT q v b1 b2 (t.look q)).ptr := by unfold insT; rw [eb]
        rw [ec, ea]
        exact hB.set_ 0 _
      · have ec : (insT q v b1 b2 t).ptr = t.ptr := eb
        rw [ec]
        exact hB.far (fun e' => by simp only at e'; rw [← e'] at ea; exact h.out (beside_sub ea)) _
    unfold Blk at *
    rw [e1]; exact this
  · refine perm.nodup_iff.2 (List.nodup_append.2 ⟨n1, hs.1, fun a ha b hb e => ?_⟩)
    subst e
    rcases hs.2 _ hb with e | e | e
    · have := lt _ (beside_sub ha); omega
    · have := lt _ (beside_sub ha); omega
    · exact n3 _ ha e
  · intro hc
    rcases hsub _ hc with e | e
    · exact h.out e
    · omega
  · have hO' : Only (tr :: t.bs) w (W.setCell ⟨(Tr.place q (tr, 0) t).1, (Tr.place q (tr, 0) t).2, none⟩ (hangT q v b1 b2 (t.look q)).ptr) := by
      have hO2 : Only (tr :: t.bs) w W := ⟨hO.os, hO.tape, hO.output, hO.size, fun k hk hn => hO.block k hk (fun hc => hn (List.mem_cons.2 (.inr (look_sub hc))))⟩
      refine hO2.setCell (.inl ?_) _
      rcases hpl with e | e
      · simp [e]
      · exact List.mem_cons.2 (.inr (beside_sub e))
    exact ⟨by rw [e2, hO.os], by rw [e3, hO.tape], by rw [e4, hO.output], by rw [e1]; exact hO'.size, fun k hk hn => by rw [e1]; exact hO'.block k hk hn⟩

/-- A node's value, or whether it has one, turned where it lies. -/
theorem set_put {w w' : World} {tr b : Nat} {q : Pn} {u v : Int} {h : Bool} {x y t : Tr} {many : Int} (H : TrieM w tr t many) (hq : q.ok) (hl : t.look q = .node b q u true x y) (hO : Only [b] w w')
    (hB : Blk w' b 106 #[.int .u32 q.a, .int .i64 q.l, .int .i64 v, .bool h, x.ptr, y.ptr]) :
    TrieM w' tr (setT q v h t) many ∧ Only t.bs w w' ∧ (∀ c ∈ (setT q v h t).bs, c ∈ t.bs) ∧ ∀ r : Pn × Int, r ∈ (setT q v h t).rows ↔ (h = true ∧ r = (q, v)) ∨ (r.1 ≠ q ∧ r ∈ t.rows) := by
  obtain ⟨n1, n2, n3⟩ := beside_nd (q := q) H.nd
  have hbl : b ∈ (t.look q).bs := by rw [hl]; simp [Tr.bs]
  have hm := look_TM (q := q) H.tm
  rw [hl] at hm n2
  have hnd : b ∉ x.bs ∧ b ∉ y.bs := by
    simp only [Tr.bs, List.cons_append, List.nodup_cons, List.mem_append, not_or] at n2
    exact n2.1
  have e : setT q v h t = Tr.put q (.node b q v h x y) t := by simp [setT, hl]
  have hs : TM w' (.node b q v h x y) := ⟨hB, hm.2.1.only hO (fun c hc => by simp; intro e; subst e; exact hnd.1 hc), hm.2.2.only hO (fun c hc => by simp; intro e; subst e; exact hnd.2 hc)⟩
  have hb : TMb w' q t := (TMb.of H.tm).only hO (fun c hc => by simp; intro e; subst e; exact n3 _ hc hbl)
  have hp : (Tr.node b q v h x y).ptr = (t.look q).ptr := by rw [hl]; rfl
  have perm := beside_put q (.node b q v h x y) t
  have hbs : (Tr.node b q v h x y).bs = (t.look q).bs := by rw [hl]; rfl
  rw [hbs] at perm
  have perm2 := perm.trans (beside_look q t).symm
  obtain ⟨sw, sr⟩ := set_all hq (v := v) (h := h) H.wf ((look_mem hq H.wf u).2 ⟨b, x, y, hl⟩)
  refine ⟨⟨?_, ?_, sw, ?_, ?_⟩, ?_, ?_, sr⟩
  · rw [e, put_ptr hp]
    exact H.blk.only hO (by simp; intro e'; subst e'; exact H.out (look_sub hbl))
  · rw [e]; exact put_same hb hs hp
  · rw [e]; exact perm2.nodup_iff.2 H.nd
  · rw [e]; exact fun hc => H.out (perm2.mem_iff.1 hc)
  · exact ⟨hO.os, hO.tape, hO.output, hO.size, fun k hk hn => hO.block k hk (by simp; intro e'; subst e'; exact hn (look_sub hbl))⟩
  · rw [e]; exact fun c hc => perm2.mem_iff.1 hc
end Go.Proofs.YtfaiponmjjbgoaaGreatDoor

/- The trie's Put. -/
namespace Go.Proofs.YtfaiponmjjbgoaaGreatDoor
open Go.RowKit
attribute [local go_sem] Oper.semAt_some

theorem place_blk {w : World} {q : Pn} : ∀ {t : Tr} {A : Nat × Nat}, TM w t → (∃ ty cs, Blk w A.1 ty cs ∧ cs[A.2]? = some t.ptr) → ∃ ty cs, Blk w (Tr.place q A t).1 ty cs ∧ cs[(Tr.place q A t).2]? = some (t.look q).ptr
  | .nil, A, _, h => h
  | .node b p v hh x y, A, ⟨h0, hx, hy⟩, h => by
    simp only [Tr.place, Tr.look]
    split
    · split
      · exact h
      · split
        · exact place_blk hx ⟨_, _, h0, rfl⟩
        · exact place_blk hy ⟨_, _, h0, rfl⟩
    · exact h
theorem place_out {q : Pn} {t : Tr} {tr : Nat} (hn : t.bs.Nodup) (ho : tr ∉ t.bs) : (Tr.place q (tr, 0) t).1 ∉ (t.look q).bs := by
  rcases place_in q t (tr, 0) with e | e
  · rw [e]; exact fun hc => ho (look_sub hc)
  · exact (beside_nd hn).2.2 _ e

/-- A trie that has turned: only its own blocks, and new ones. -/
structure Turned (w w' : World) (tr : Nat) (t t' : Tr) (many' : Int) : Prop where
  trie : TrieM w' tr t' many'
  only : Only (tr :: t.bs) w w'
  sub : ∀ b ∈ t'.bs, b ∈ t.bs ∨ w.heap.size ≤ b

theorem no_look {q : Pn} {t : Tr} (hq : q.ok) (ht : t.Wf) (hno : ∀ u, (q, u) ∉ t.rows) {b : Nat} {p : Pn} {v : Int} {h : Bool} {x y : Tr} (e : t.look q = .node b p v h x y) : p = q → h = false := fun e1 => by
  subst e1
  cases h with
  | false => rfl
  | true => exact absurd ((look_mem hq ht v).2 ⟨b, x, y, e⟩) (hno v)

set_option maxRecDepth 100000 in
set_option maxHeartbeats 2000000 in
theorem put_over (tr : Nat) (q : Pn) (v u many : Int) (t : Tr) (b : Nat) (x y : Tr) (w : World) (hG : RelsAt w) (hT : TrieM w tr t many) (hq : q.ok) (hl : t.look q = .node b q u true x y) :
    Calls Tryz.prog 62 #[.pointer (some ⟨tr, 0, none⟩), .agg #[.int .u32 q.a, .int .i64 q.l], .int .i64 v] w fun e w' => e = .returned (.tuple #[.int .i64 u, .bool true, .int .i64 0]) ∧ Turned w w' tr t (setT q v true t) many := by
  have Hq := Lib.hid hq
  have Hck := Lib.hid (show checkP q.pi = 0 by simp [checkP, pi_ok hq])
  have HT := Lib.hid hT
  have HG := Lib.hid hG
  have Hl := Lib.hid hl
  have HT1 := Lib.hid (hT.blk.alloc (.cells #[.int .u32 q.a, .int .i64 q.l] 26))
  have hpn := ptr_ne_nil
  have ht1 := pfx_eq_t
  clear hT hq hG hl
  go_enter Tryz.func62, Tryz.ntmps62
  go_wp2_with fail
  refine wp_scope_fwd 0 rfl ?_
  go_wp2_with fail
  refine (none_any tr _ many _ HT1.out).mono ?_
  rintro e w' ⟨rfl, rfl⟩
  go_wp2_with fail
  refine (check_any q.pi _ Hq.out.1).mono ?_
  rintro e w1 ⟨rfl, hK1⟩
  rw [Hck.out]
  have kw : Kp w w1 := ((Kp.refl _).alloc _).trans hK1
  have P1 : Blk w1 w.heap.size 26 #[.int .u32 q.a, .int .i64 q.l] := (Blk.new w _ _).keep hK1
  clear hK1
  have p0 : w1.cell? ⟨w.heap.size, 0, none⟩ = some (.int .u32 q.a) := P1.cell 0
  have p1 : w1.cell? ⟨w.heap.size, 1, none⟩ = some (.int .i64 q.l) := P1.cell 1
  go_wp2_with fail
  refine (place_any tr q many t _ (HG.out.keep kw) (HT.out.blk.keep kw) (HT.out.tm.keep kw) HT.out.wf Hq.out).mono ?_
  rintro e w2 ⟨rfl, hK2⟩
  have k2 : Kp w w2 := kw.trans hK2
  have P2 := P1.keep hK2
  clear p0 p1
  have p0 : w2.cell? ⟨w.heap.size, 0, none⟩ = some (.int .u32 q.a) := P2.cell 0
  have p1 : w2.cell? ⟨w.heap.size, 1, none⟩ = some (.int .i64 q.l) := P2.cell 1
  have T2 := HT.out.keep k2
  have hc := place_cell (q := q) (A := (tr, 0)) T2.tm (T2.blk.cell 0)
  have hs := look_TM (q := q) T2.tm
  rw [Hl.out] at hc hs
  have hc' : w2.cell? ⟨(Tr.place q (tr, 0) t).1, (Tr.place q (tr, 0) t).2, none⟩ = some (.pointer (some ⟨b, 0, none⟩)) := hc
  obtain ⟨N, _, _⟩ := hs
  have n0 : w2.cell? ⟨b, 0, none⟩ = some (.int .u32 q.a) := N.cell 0
  have n1 : w2.cell? ⟨b, 1, none⟩ = some (.int .i64 q.l) := N.cell 1
  have n2 : w2.cell? ⟨b, 2, none⟩ = some (.int .i64 u) := N.cell 2
  have n3 : w2.cell? ⟨b, 3, none⟩ = some (.bool true) := N.cell 3
  have z2 := N.frozen 2
  clear hc hK2
  go_wp2_with fail
  go_quiet (fail)
  go_wp2_with fail
  refine jump_ret ?_
  have hO : Only [b] w ((w2.drewN nq).setCell ⟨b, 2, none⟩ (.int .i64 v)) := (Only.of_kp (k2.drewN nq)).setCell (.inl (by simp)) _
  obtain ⟨r1, r2, r3, r4⟩ := set_put (v := v) (h := true) HT.out Hq.out Hl.out hO ((N.drewN nq).set_ 2 _)
  refine bodyPost_ret (v := .tuple #[.int .i64 u, .bool true, .int .i64 0]) (by simp [results, Tryz.results62, go_sem]) rfl ⟨rfl, r1, ?_, fun c hc => .inl (r3 c hc)⟩
  exact ⟨r2.os, r2.tape, r2.output, r2.size, fun k hk hn => r2.block k hk (fun h => hn (List.mem_cons.2 (.inr h)))⟩

def NewPost (w : World) (tr : Nat) (q : Pn) (v many : Int) (t : Tr) (w' : World) : Prop := ∃ t', Turned w w' tr t t' (many + 1) ∧ ∀ r : Pn × Int, r ∈ t'.rows ↔ r = (q, v) ∨ r ∈ t.rows
def FullOr (w : World) (tr : Nat) (q : Pn) (v many : Int) (t : Tr) (e : Ending) (w' : World) : Prop :=
  (512 ≤ many ∧ e = .returned (.tuple #[.int .i64 0, .bool false, .int .i64 3]) ∧ Kp w w') ∨ (many < 512 ∧ e = .returned (.tuple #[.int .i64 0, .bool false, .int .i64 0]) ∧ NewPost w tr q v many t w')

set_option maxRecDepth 100000 in
set_option maxHeartbeats 2000000 in
theorem put_new (tr : Nat) (q : Pn) (v many : Int) (t : Tr) (w : World) (hG : RelsAt w) (hT : TrieM w tr t many) (hq : q.ok) (hno : ∀ u, (q, u) ∉ t.rows) (hm0 : 0 ≤ many) (hm1 : many ≤ 1000000) :
    Calls Tryz.prog 62 #[.pointer (some ⟨tr, 0, none⟩), .agg #[.int .u32 q.a, .int .i64 q.l], .int .i64 v] w (FullOr w tr q v many t) := by
  have Hq := Lib.hid hq
  have Hck := Lib.hid (show checkP q.pi = 0 by simp [checkP, pi_ok hq])
  have HT := Lib.hid hT
  have HG := Lib.hid hG
  have Hno := Lib.hid hno
  have HT1 := Lib.hid (hT.blk.alloc (.cells #[.int .u32 q.a, .int .i64 q.l] 26))
  have hpn := ptr_ne_nil
  have hpe := ptr_eq_nil
  have ht1 := pfx_eq_t
  clear hT hq hG hno
  go_enter Tryz.func62, Tryz.ntmps62
  go_wp2_with fail
  refine wp_scope_fwd 0 rfl ?_
  go_wp2_with fail
  refine (none_any tr _ many _ HT1.out).mono ?_
  rintro e w' ⟨rfl, rfl⟩
  go_wp2_with fail
  refine (check_any q.pi _ Hq.out.1).mono ?_
  rintro e w1 ⟨rfl, hK1⟩
  rw [Hck.out]
  have kw : Kp w w1 := ((Kp.refl _).alloc _).trans hK1
  have P1 : Blk w1 w.heap.size 26 #[.int .u32 q.a, .int .i64 q.l] := (Blk.new w _ _).keep hK1
  clear hK1
  have p0 : w1.cell? ⟨w.heap.size, 0, none⟩ = some (.int .u32 q.a) := P1.cell 0
  have p1 : w1.cell? ⟨w.heap.size, 1, none⟩ = some (.int .i64 q.l) := P1.cell 1
  go_wp2_with fail
  refine (place_any tr q many t _ (HG.out.keep kw) (HT.out.blk.keep kw) (HT.out.tm.keep kw) HT.out.wf Hq.out).mono ?_
  rintro e w2 ⟨rfl, hK2⟩
  have k2 : Kp w w2 := kw.trans hK2
  have P2 := P1.keep hK2
  clear p0 p1
  have p0 : w2.cell? ⟨w.heap.size, 0, none⟩ = some (.int .u32 q.a) := P2.cell 0
  have p1 : w2.cell? ⟨w.heap.size, 1, none⟩ = some (.int .i64 q.l) := P2.cell 1
  have T2 := HT.out.keep k2
  have hc := place_cell (q := q) (A := (tr, 0)) T2.tm (T2.blk.cell 0)
  have hs := look_TM (q := q) T2.tm
  have hx := fun b p v h x y => no_look (b := b) (p := p) (v := v) (h := h) (x := x) (y := y) Hq.out HT.out.wf Hno.out
  have Hx := Lib.hid hx; clear hx
  clear hK2
  obtain ⟨S, hS⟩ : ∃ S, t.look q = S := ⟨_, rfl⟩
  rw [hS] at hc hs
  have HS := Lib.hid hS; clear hS
  go_wp2_with fail
  go_upto_region 8 with (fail)
  go_cut [37] from 22 to 37 (fun s wx => s = .bool false ∧ Kp w2 wx)
  case first =>
    cases S with
    | nil =>
      simp only [Tr.ptr]
      go_quiet (fail)
      go_wp2_with fail
      go_meet
      case rel => exact ⟨rfl, (Kp.refl _).drewN _⟩
    | node b p u h x y =>
      obtain ⟨N, _, _⟩ := hs
      have n0 : w2.cell? ⟨b, 0, none⟩ = some (.int .u32 p.a) := N.cell 0
      have n1 : w2.cell? ⟨b, 1, none⟩ = some (.int .i64 p.l) := N.cell 1
      have n3 : w2.cell? ⟨b, 3, none⟩ = some (.bool h) := N.cell 3
      simp only [Tr.ptr]
      by_cases e : p = q
      · have hf := Hx.out b p u h x y HS.out e
        subst e hf
        go_quiet (fail)
        go_wp2_with fail
        go_meet
        case rel => exact ⟨rfl, (Kp.refl _).drewN _⟩
      · have hne := fun w => pfx_eq_f w e
        have He := Lib.hid e; clear e
        go_quiet (fail)
        go_wp2_with fail
        go_meet
        case rel => exact ⟨rfl, (Kp.refl _).drewN _⟩
  case rest =>
    obtain ⟨rfl, hKc⟩ := hcut
    have k3 := k2.trans hKc
    have T3 := Lib.hid (HT.out.keep k3)
    have P3 := P2.keep hKc
    clear p0 p1 hc hs
    have p0 : wc.cell? ⟨w.heap.size, 0, none⟩ = some (.int .u32 q.a) := P3.cell 0
    have p1 : wc.cell? ⟨w.heap.size, 1, none⟩ = some (.int .i64 q.l) := P3.cell 1
    have m1 : wc.cell? ⟨tr, 1, none⟩ = some (.int .i64 many) := T3.out.blk.cell 1
    by_cases hf : 512 ≤ many
    · have hd : decide (512 ≤ many) = true := by simpa using hf
      go_wp2_with fail
      go_step3
      refine ⟨rfl, ?_⟩
      go_wp2_with fail
      refine noGoto_ret ?_
      refine bodyPost_ret (v := .tuple #[.int .i64 0, .bool false, .int .i64 3]) (by simp [results, Tryz.results62, go_sem]) rfl (.inl ⟨hf, rfl, k3⟩)
    · have hd : decide (512 ≤ many) = false := by simpa using hf
      obtain ⟨ty, cs, hPB, hPC⟩ := place_blk (q := q) (A := (tr, 0)) T3.out.tm ⟨_, _, T3.out.blk, rfl⟩
      have Hcs := Lib.hid hPC; clear hPC
      clear hd
      have hd : decide (512 ≤ many) = false := by simpa using hf
      go_wp2_with fail
      refine (hang_any _ _ ty cs q v (t.look q) _ hPB Hcs.out (look_TM T3.out.tm) (place_out T3.out.nd T3.out.out) (beside_nd T3.out.nd).2.1 Hq.out (look_wf T3.out.wf) (fun b p u h x y e => look_kind Hq.out e)).mono ?_
      rintro e w4 ⟨rfl, hP⟩
      obtain ⟨t', hT', hO, hsub, hr⟩ := hang_put T3.out Hq.out Hno.out hP
      have HT' := Lib.hid hT'; clear hT'
      have hr' := Lib.hid hr; clear hr
      have m1' : w4.cell? ⟨tr, 1, none⟩ = some (.int .i64 many) := HT'.out.blk.cell 1
      have zm := HT'.out.blk.frozen 1
      clear m1 p0 p1
      go_wp2_with fail
      refine jump_ret ?_
      refine bodyPost_ret (v := .tuple #[.int .i64 0, .bool false, .int .i64 0]) (by simp [results, Tryz.results62, go_sem]) rfl (.inr ⟨by omega, rfl, t', ⟨?_, ?_, ?_⟩, hr'.out⟩)
      · have hset := (Only.refl [tr] w4).setCell (p := ⟨tr, 1, none⟩) (.inl (by simp)) (.int .i64 (many + 1))
        exact ⟨HT'.out.blk.set_ 1 _, HT'.out.tm.only hset (fun c hc => by simp; intro e; subst e; exact HT'.out.out hc), HT'.out.wf, HT'.out.nd, HT'.out.out⟩
      · exact ((Only.of_kp k3).trans ⟨hO.os, hO.tape, hO.output, hO.size, hO.block⟩).setCell (.inl (by simp)) _
      · intro c hc
        rcases hsub c hc with e | e
        · exact .inl e
        · exact .inr (Nat.le_trans k3.size e)
end Go.Proofs.YtfaiponmjjbgoaaGreatDoor
