/- Lemmas and contracts for the theorem of this claim: TrM, TrD, TrP, TrG. -/
import Derived.Test.YtgopnfacklmkaaaGreatDoorZzAu
import Derived.BigFrameIn
import Derived.TacticsIn
import Derived.TacticsInMore
import Derived.Deep.Cut
import Derived.OwnWalkIn
import Derived.Deep.RegionHeld3
import Derived.Deep.LoopGhost
import Derived.Deep.DeepCutAuto
import Derived.BigGuardIn
import Derived.BigQuiet
import Derived.Laws.StructEq
set_option linter.all false
set_option maxHeartbeats 16000000
namespace Go.Proofs.YtgopnfacklmkaaaGreatDoor
section
open Go.RowKit
def Tr.ptr : Tr → Value
 | .nil => .pointer none
 | .node b _ _ _ _ _ => .pointer (some ⟨b, 0, none⟩)
def TM (w : World) : Tr → Prop
 | .nil => True
 | .node b p v h x y => Blk w b 379 #[.int .u32 p.a, .int .i64 p.l, .int .i64 v, .bool h, x.ptr, y.ptr] ∧ TM w x ∧ TM w y
theorem TM.only {bs : List Nat} {w w' : World} (k : Only bs w w') : ∀ {t : Tr}, TM w t → (∀ b ∈ t.bs, b ∉ bs) → TM w' t
 | .nil, _, _ => trivial
 | .node b p v h x y, ⟨h0, hx, hy⟩, hb => ⟨h0.only k (hb b (by simp [Tr.bs])), TM.only k hx (fun c hc => hb c (by simp [Tr.bs, hc])), TM.only k hy (fun c hc => hb c (by simp [Tr.bs, hc]))⟩
theorem TM.keep {w w' : World} {t : Tr} (h : TM w t) (k : Kp w w') : TM w' t := TM.only (bs := []) (Only.of_kp k) h (fun _ _ => by simp)
theorem TM.lt {w : World} : ∀ {t : Tr}, TM w t → ∀ b ∈ t.bs, b < w.heap.size
 | .node b p v h x y, ⟨h0, hx, hy⟩, c, hc => by
  simp only [Tr.bs, List.cons_append, List.mem_cons, List.mem_append] at hc
  rcases hc with rfl | hc | hc
  ·exact h0.lt
  ·exact TM.lt hx c hc
  ·exact TM.lt hy c hc
def Tr.place (q : Pn) (A : Nat × Nat) : Tr → Nat × Nat
 | .nil => A
 | .node b p _ _ x y => if p.holds q then (if p.l = q.l then A else if bitN q.a p.l = 0 then Tr.place q (b, 4) x else Tr.place q (b, 5) y) else A
def Tr.beside (q : Pn) : Tr → List Nat
 | .nil => []
 | .node b p _ _ x y => if p.holds q then (if p.l = q.l then [] else if bitN q.a p.l = 0 then b :: (Tr.beside q x ++ y.bs) else b :: (x.bs ++ Tr.beside q y)) else []
theorem vaL (q : Pn) : ∀ t : Tr, t.bs.Perm (Tr.beside q t ++ (t.look q).bs)
 | .nil => by simp [Tr.bs, Tr.beside, Tr.look]
 | .node b p v h x y => by
  simp only [Tr.beside, Tr.look]
  split
  ·split
   ·simp
   ·split
    ·simp only [Tr.bs, List.cons_append]
     refine List.Perm.cons _ ?_
     refine ((vaL q x).append_right _).trans ?_
     rw [List.append_assoc, List.append_assoc]
     exact List.Perm.append_left _ List.perm_append_comm
    ·simp only [Tr.bs, List.cons_append]
     refine List.Perm.cons _ ?_
     rw [List.append_assoc]
     exact List.Perm.append_left _ (vaL q y)
  ·simp
theorem vbV (q : Pn) (s : Tr) : ∀ t : Tr, (Tr.put q s t).bs.Perm (Tr.beside q t ++ s.bs)
 | .nil => by simp [Tr.beside, Tr.put]
 | .node b p v h x y => by
  simp only [Tr.beside, Tr.put]
  split
  ·split
   ·simp
   ·split
    ·simp only [Tr.bs, List.cons_append]
     refine List.Perm.cons _ ?_
     refine ((vbV q s x).append_right _).trans ?_
     rw [List.append_assoc, List.append_assoc]
     exact List.Perm.append_left _ List.perm_append_comm
    ·simp only [Tr.bs, List.cons_append]
     refine List.Perm.cons _ ?_
     rw [List.append_assoc]
     exact List.Perm.append_left _ (vbV q s y)
  ·simp
theorem vdj (q : Pn) : ∀ (t : Tr) (A : Nat × Nat), Tr.place q A t = A ∨ (Tr.place q A t).1 ∈ Tr.beside q t
 | .nil, A => .inl rfl
 | .node b p v h x y, A => by
  simp only [Tr.place, Tr.beside]
  split
  ·split
   ·exact .inl rfl
   ·split
    ·rcases vdj q x (b, 4) with e | e
     ·right; rw [e]; simp
     ·right; simp [e]
    ·rcases vdj q y (b, 5) with e | e
     ·right; rw [e]; simp
     ·right; simp [e]
  ·exact .inl rfl
theorem vby {w : World} {q : Pn} : ∀ {t : Tr}, TM w t → TM w (t.look q)
 | .nil, h => h
 | .node b p v hh x y, h => by
  unfold Tr.look
  split
  ·split
   ·exact h
   ·split
    ·exact vby h.2.1
    ·exact vby h.2.2
  ·exact h
theorem vaM {w : World} {q : Pn} : ∀ {t : Tr} {A : Nat × Nat}, TM w t → w.cell? ⟨A.1, A.2, none⟩ = some t.ptr → w.cell? ⟨(Tr.place q A t).1, (Tr.place q A t).2, none⟩ = some (t.look q).ptr
 | .nil, A, _, h => h
 | .node b p v hh x y, A, ⟨h0, hx, hy⟩, h => by
  simp only [Tr.place, Tr.look]
  split
  ·split
   ·exact h
   ·split
    ·exact vaM hx (h0.cell 4)
    ·exact vaM hy (h0.cell 5)
  ·exact h
def Tr.way (q : Pn) (A : Nat × Nat) : Tr → List (Nat × Nat)
 | .nil => []
 | .node b p _ _ x y => if p.holds q then A :: (if p.l = q.l then [] else if bitN q.a p.l = 0 then Tr.way q (b, 4) x else Tr.way q (b, 5) y) else []
structure DownMem (tx px tr : Nat) (q : Pn) (many : Int) (t : Tr) (w : World) : Prop where
 tx : Blk w tx 161 #[.pointer (some ⟨tr, 0, none⟩)]
 px : Blk w px 39 #[.int .u32 q.a, .int .i64 q.l]
 tr : Blk w tr 330 #[t.ptr, .int .i64 many, .bool true]
 tm : TM w t
 rels : RelsAt w
structure DownAt (tx px tr : Nat) (q : Pn) (many : Int) (t : Tr) (k : Nat) (s : Tr) (A : Nat × Nat) : Prop where
 way : Tr.way q A s = (Tr.way q (tr, 0) t).drop k
 mem : ∀ w, DownMem tx px tr q many t w → TM w s ∧ w.cell? ⟨A.1, A.2, none⟩ = some s.ptr
 wf : s.Wf
 le : k ≤ (Tr.way q (tr, 0) t).length
theorem vaZ (w : World) (b : Nat) : (binOp .neq 328 (.pointer (some ⟨b, 0, none⟩)) (.pointer none)).run Tryz.prog w = .ok (.bool true) w := by kernel_rfl
theorem vbW (w : World) : (binOp .neq 328 (.pointer none) (.pointer none)).run Tryz.prog w = .ok (.bool false) w := by kernel_rfl
set_option maxRecDepth 100000 in
theorem vcP (tx px tr : Nat) (q : Pn) (many : Int) (t : Tr) (hq : q.ok) (ht : t.Wf) :
  Iter Tryz.prog 312 #[.pointer (some ⟨tx, 0, none⟩), .pointer (some ⟨px, 0, none⟩)] (Tr.way q (tr, 0) t).length (fun k => #[.pointer (some ⟨((Tr.way q (tr, 0) t).getD k (0, 0)).1, ((Tr.way q (tr, 0) t).getD k (0, 0)).2, none⟩)]) (DownMem tx px tr q many t) := by
 intro l I Z W hI hZ hM hy h0
 have HI := Lib.hid hI; clear hI
 have HZ := Lib.hid hZ; clear hZ
 have HM := Lib.hid hM; clear hM
 have HY := Lib.hid hy; clear hy
 obtain ⟨N, hN⟩ : ∃ N, (Tr.way q (tr, 0) t).length = N := ⟨_, rfl⟩
 rw [hN] at HY ⊢
 have HN := Lib.hid hN; clear hN
 have Hq := Lib.hid hq; clear hq
 have hql := Hq.out.2.1
 have hne := vaZ
 have hen := vbW
 have D0 := HM.out 0 W h0
 have c0 : W.cell? ⟨tx, 0, none⟩ = some (.pointer (some ⟨tr, 0, none⟩)) := D0.tx.cell 0
 go_enter Tryz.func312, Tryz.ntmps312
 go_wp2_with fail
 clear c0 D0
 have H0 := Lib.hid h0; clear h0
 have start : DownAt tx px tr q many t 0 t (tr, 0) := ⟨by simp, fun w d => ⟨d.tm, d.tr.cell 0⟩, ht, Nat.zero_le _⟩
 have Hs := Lib.hid start; clear start ht
 go_loopg [4] N (fun g at_ wr => ∃ (k : Nat) (s : Tr) (a0 a1 : Nat), g = N - k ∧ k ≤ N ∧ at_ = .pointer (some ⟨a0, a1, none⟩) ∧ Hid (I k wr) ∧ Hid (DownAt tx px tr q many t k s (a0, a1)))
 case atStart => exact ⟨0, t, tr, 0, by omega, Nat.zero_le _, rfl, H0, Hs⟩
 case round =>
  obtain ⟨k, s, a0, a1, hgk, hkN, rfl, hi, hs⟩ := hrel
  have D := HM.out k wr hi.out
  obtain ⟨hTM, cA⟩ := hs.out.mem wr D
  simp only at cA
  have hG := Lib.hid D.rels
  have hwf := hs.out.wf
  have hway := hs.out.way
  have p0 : wr.cell? ⟨px, 0, none⟩ = some (.int .u32 q.a) := D.px.cell 0
  have p1 : wr.cell? ⟨px, 1, none⟩ = some (.int .i64 q.l) := D.px.cell 1
  cases s with
  | nil =>
   have hk : k = N := by
    have := congrArg List.length hway
    simp [Tr.way, HN.out] at this
    omega
   subst hk
   have cA' : wr.cell? ⟨a0, a1, none⟩ = some (.pointer none) := cA
   clear cA hway hTM hwf
   go_wp2_with fail
   go_quiet (fail)
   go_wp2_with fail
   go_end0
   exact ⟨rfl, .inl (HI.out _ _ _ hi.out ((Kp.refl _).drewN _))⟩
  | node b p v h x y =>
   have hp := hwf.1
   have hpl := hp.2.1
   have cA' : wr.cell? ⟨a0, a1, none⟩ = some (.pointer (some ⟨b, 0, none⟩)) := cA
   obtain ⟨B, hTx, hTy⟩ := hTM
   have n0 : wr.cell? ⟨b, 0, none⟩ = some (.int .u32 p.a) := B.cell 0
   have n1 : wr.cell? ⟨b, 1, none⟩ = some (.int .i64 p.l) := B.cell 1
   have Hp := Lib.hid hp
   have Hway := Lib.hid hway
   have Hwf := Lib.hid hwf
   clear cA hp hway hwf
   by_cases hh : p.holds q
   ·have Hd := Lib.hid (show decide (p.holds q) = true by simpa using hh)
    have Hh := Lib.hid hh; clear hh
    go_upto_region 1 with (fail)
    go_cut [22] from 9 to 22 (fun s22 wx => s22 = .bool true ∧ Kp wr wx)
    case first =>
     go_region_held3 (fun w' => w'.cell? ⟨px, 0, none⟩ = some (.int .u32 q.a) ∧ w'.cell? ⟨px, 1, none⟩ = some (.int .i64 q.l) ∧ w'.cell? ⟨a0, a1, none⟩ = some (.pointer (some ⟨b, 0, none⟩)) ∧ w'.cell? ⟨b, 0, none⟩ = some (.int .u32 p.a) ∧ w'.cell? ⟨b, 1, none⟩ = some (.int .i64 p.l))
      (first | exact ⟨Ka.cell p0, Ka.cell p1, Ka.cell cA', Ka.cell n0, Ka.cell n1⟩ | go_keep)
      (first | (go_at_call 313; refine (vew q p _ (hG.out.keep (Kp.refl _).drew) Hq.out Hp.out).mono ?_; rintro e wa ⟨rfl, hKa⟩; rw [Hd.out]; have Ka : Kp wr wa := (Kp.refl wr).drew.trans hKa))
     go_wp2_with fail
     go_meet
     case rel => exact ⟨rfl, Ka⟩
    case rest =>
     obtain ⟨rfl, hKc⟩ := hcut
     have hic := Lib.hid (HI.out k wr wc hi.out hKc)
     have Dc := HM.out k wc hic.out
     obtain ⟨⟨Bc, _, _⟩, cAc⟩ := hs.out.mem wc Dc
     have cAc' : wc.cell? ⟨a0, a1, none⟩ = some (.pointer (some ⟨b, 0, none⟩)) := cAc
     clear p0 p1 n0 n1 cA' B hTx hTy cAc hG D hi
     go_upto_region 3 with (fail)
     have hgd : (Tr.way q (tr, 0) t).getD k (0, 0) = (a0, a1) ∧ k < N := by
      have hw := Hway.out
      simp only [Tr.way, Hh.out, if_true] at hw
      have h1 : (Tr.way q (tr, 0) t)[k]? = some (a0, a1) := by
       have := congrArg (fun l => l[0]?) hw
       simpa using this.symm
      have h2 := (List.getElem?_eq_some_iff.1 h1).1
      rw [HN.out] at h2
      exact ⟨by simp [List.getD, h1], h2⟩
     obtain ⟨fn, tmps, asg, bd, hrun, hround⟩ := HY.out k wc.drew hgd.2 (HI.out k wc wc.drew hic.out (Kp.refl _).drew)
     rw [hgd.1] at hrun
     simp only at hrun
     refine (wpIn_wide (n := 0)).1 ?_
     refine wpIn_region_any (by kernel_rfl) ?_
     change wpAnyIn _ _ _ _ _ _ _ _ _ (World.drew _)
     refine wpAnyIn_take (i := 0) (v := .func (.yield l) #[] #[]) rfl rfl (by kernel_rfl) (by kernel_rfl) (by kernel_rfl) (fun _ _ _ h => h) ⟨Or.inl ⟨by rfl, fun w => by go_simp⟩, fun _ => rfl⟩ ?_
     refine wpAnyIn_take (i := 1) (v := .pointer (some ⟨a0, a1, none⟩)) rfl rfl (by kernel_rfl) (by kernel_rfl) (by kernel_rfl) (fun _ _ _ h => h) ⟨Or.inl ⟨by rfl, fun w => by go_simp⟩, fun _ => rfl⟩ ?_
     refine wpAnyIn_ready (rs := [2]) (by kernel_rfl) (by simp) ?_
     refine AllReadyIn.cons rfl (fun K hK => ?_) AllReadyIn.nil
     go_simp
     refine ⟨rfl, hround.mono ?_⟩
     clear hrun hround
     rintro e W' (⟨rfl, hi2⟩ | ⟨rfl, hz⟩)
     ·have Hi2 := Lib.hid hi2; clear hi2
      have D2 := HM.out (k + 1) W' Hi2.out
      obtain ⟨⟨B2, _, _⟩, _⟩ := hs.out.mem W' D2
      have p0 : W'.cell? ⟨px, 0, none⟩ = some (.int .u32 q.a) := D2.px.cell 0
      have p1 : W'.cell? ⟨px, 1, none⟩ = some (.int .i64 q.l) := D2.px.cell 1
      have n1 : W'.cell? ⟨b, 1, none⟩ = some (.int .i64 p.l) := B2.cell 1
      have hk1 := hgd.2
      clear hgd cAc' Bc Dc
      refine hK _ _ ?_
      clear hK K
      by_cases hl : p.l = q.l
      ·have hkk : k + 1 = N := by
        have hw := congrArg List.length Hway.out
        simp [Tr.way, Hh.out, hl, HN.out] at hw
        omega
       have e1 : ((p.l : Int) == (q.l : Int)) = true := by simp [hl]
       have Hl := Lib.hid hl; clear hl
       refine vaw 3 rfl rfl (by kernel_rfl) (by kernel_rfl) ?_
       simp only [List.drop_succ_cons, List.drop_zero]
       repeat (quiet_step_in (fail))
       refine wpQuietIn_nil ?_
       rintro w' ⟨nq, rfl⟩
       go_wp2_with fail
       refine bodyPost_ret (v := .tuple #[]) (by simp [results, Tryz.results312, go_sem]) rfl ?_
       exact ⟨rfl, .inl (by rw [← hkk]; exact HI.out _ _ _ Hi2.out ((Kp.refl _).drewN _))⟩
      ·have e1 : ((p.l : Int) == (q.l : Int)) = false := by simp; omega
       have Hl := Lib.hid hl; clear hl
       refine vaw 3 rfl rfl (by kernel_rfl) (by kernel_rfl) ?_
       simp only [List.drop_succ_cons, List.drop_zero]
       repeat (quiet_step_in (fail))
       refine wpQuietIn_nil ?_
       rintro w' ⟨nq, rfl⟩
       go_wp2_with fail
       rcases vaI q.a p.l with hb | hb
       ·have Hb := Lib.hid hb
        go_region_held3 (fun w' => w'.cell? ⟨px, 0, none⟩ = some (.int .u32 q.a) ∧ w'.cell? ⟨b, 1, none⟩ = some (.int .i64 p.l)) (go_keep)
         (first | (go_at_call 300; refine (vbk q.a p.l _ Hq.out.1 hpl).mono ?_; rintro e w' ⟨rfl, rfl⟩; rw [Hb.out]))
        go_wp2_with fail
        go_roundg (N - (k + 1))
        case measure => omega
        case rel =>
         refine ⟨k + 1, x, b, 4, rfl, by omega, rfl, HI.out _ _ _ Hi2.out ((Kp.refl _).drewN _), ?_⟩
         refine ⟨?_, fun w d => ?_, Hwf.out.2.2.2.1, by rw [HN.out]; omega⟩
         ·have hw := Hway.out
          simp only [Tr.way, Hh.out, Hl.out, Hb.out, if_true, if_false] at hw
          have := congrArg List.tail hw
          simpa using this
         ·obtain ⟨⟨h1, h2, h3⟩, _⟩ := hs.out.mem w d
          exact ⟨h2, h1.cell 4⟩
       ·have Hb := Lib.hid hb
        go_region_held3 (fun w' => w'.cell? ⟨px, 0, none⟩ = some (.int .u32 q.a) ∧ w'.cell? ⟨b, 1, none⟩ = some (.int .i64 p.l)) (go_keep)
         (first | (go_at_call 300; refine (vbk q.a p.l _ Hq.out.1 hpl).mono ?_; rintro e w' ⟨rfl, rfl⟩; rw [Hb.out]))
        go_wp2_with fail
        go_roundg (N - (k + 1))
        case measure => omega
        case rel =>
         refine ⟨k + 1, y, b, 5, rfl, by omega, rfl, HI.out _ _ _ Hi2.out ((Kp.refl _).drewN _), ?_⟩
         refine ⟨?_, fun w d => ?_, Hwf.out.2.2.2.2, by rw [HN.out]; omega⟩
         ·have hw := Hway.out
          simp only [Tr.way, Hh.out, Hl.out, Hb.out, if_true, if_false, show ¬ (1 : Nat) = 0 by omega] at hw
          have := congrArg List.tail hw
          simpa using this
         ·obtain ⟨⟨h1, h2, h3⟩, _⟩ := hs.out.mem w d
          exact ⟨h3, h1.cell 5⟩
     ·have Hz := Lib.hid hz; clear hz
      have hk1 := hgd.2
      clear hgd cAc' Bc Dc
      refine hK _ _ ?_
      clear hK K
      refine vaw 3 rfl rfl (by kernel_rfl) (by kernel_rfl) ?_
      simp only [List.drop_succ_cons, List.drop_zero]
      repeat (quiet_step_in (fail))
      refine wpQuietIn_nil ?_
      rintro w' ⟨nq, rfl⟩
      go_wp2_with fail
      refine bodyPost_ret (v := .tuple #[]) (by simp [results, Tryz.results312, go_sem]) rfl ?_
      exact ⟨rfl, .inr ⟨k + 1, by omega, by omega, HZ.out _ _ _ Hz.out ((Kp.refl _).drewN _)⟩⟩
   ·have Hd := Lib.hid (show decide (p.holds q) = false by simpa using hh)
    have hk : k = N := by
     have := congrArg List.length Hway.out
     simp [Tr.way, hh, HN.out] at this
     omega
    subst hk
    clear hh
    go_upto_region 1 with (fail)
    go_cut [22] from 9 to 22 (fun s22 wx => s22 = .bool false ∧ Kp wr wx)
    case first =>
     go_region_held3 (fun w' => w'.cell? ⟨px, 0, none⟩ = some (.int .u32 q.a) ∧ w'.cell? ⟨px, 1, none⟩ = some (.int .i64 q.l) ∧ w'.cell? ⟨a0, a1, none⟩ = some (.pointer (some ⟨b, 0, none⟩)) ∧ w'.cell? ⟨b, 0, none⟩ = some (.int .u32 p.a) ∧ w'.cell? ⟨b, 1, none⟩ = some (.int .i64 p.l))
      (first | exact ⟨Ka.cell p0, Ka.cell p1, Ka.cell cA', Ka.cell n0, Ka.cell n1⟩ | go_keep)
      (first | (go_at_call 313; refine (vew q p _ (hG.out.keep (Kp.refl _).drew) Hq.out Hp.out).mono ?_; rintro e wa ⟨rfl, hKa⟩; rw [Hd.out]; have Ka : Kp wr wa := (Kp.refl wr).drew.trans hKa))
     go_wp2_with fail
     go_meet
     case rel => exact ⟨rfl, Ka⟩
    case rest =>
     obtain ⟨rfl, hKc⟩ := hcut
     have hic := Lib.hid (HI.out k wr wc hi.out hKc)
     have Dc := HM.out k wc hic.out
     obtain ⟨⟨Bc, _, _⟩, cAc⟩ := hs.out.mem wc Dc
     have cAc' : wc.cell? ⟨a0, a1, none⟩ = some (.pointer (some ⟨b, 0, none⟩)) := cAc
     clear p0 p1 n0 n1 cA' B hTx hTy cAc hG D hi
     go_wp2_with fail
     go_end0
     exact ⟨rfl, .inl hic.out⟩
attribute [local go_sem] Oper.semAt_some
theorem vbp {W : World} {r : Nat} (hd : W.heap[r]? = some (.deferred (some []))) {K : World → Prop} (h : ∀ W', Only [r] W W' → K W') : Takes [{ target := .collected r, args := #[] }] W K :=
 ⟨r, rfl, hd, h _ ((Only.refl [r] W).putObj (by simp) _)⟩
theorem vaE (fn : Fn) (first cap : Array Value) (w : World) : (Instr.makeFunc fn first cap).run Tryz.prog w = .ok (.func fn first cap) w := rfl
theorem vcQ (args : Array Value) (w : World) : (callFunc 312 args).run Tryz.prog w = .ok (.enter 312 args) w := by kernel_rfl
theorem vfa (tr : Nat) (q : Pn) (w : World) :
  Calls Tryz.prog 279 #[.pointer (some ⟨tr, 0, none⟩), .agg #[.int .u32 q.a, .int .i64 q.l]] w fun e w' => e = .returned (.func (.func 312) #[] #[.pointer (some ⟨w.heap.size, 0, none⟩), .pointer (some ⟨w.heap.size + 1, 0, none⟩)]) ∧
   Blk w' w.heap.size 161 #[.pointer (some ⟨tr, 0, none⟩)] ∧ Blk w' (w.heap.size + 1) 39 #[.int .u32 q.a, .int .i64 q.l] ∧ Kp w w' := by
 have hmf := vaE
 go_enter Tryz.func279, Tryz.ntmps279
 go_wp2_with fail
 go_ret
 exact ⟨rfl, (Blk.new w _ _).alloc _, Blk.new1 w _ _ _, ((Kp.refl _).alloc _).alloc _⟩
theorem DownMem.only {tx px tr : Nat} {q : Pn} {many : Int} {t : Tr} {w w' : World} {bs : List Nat} (h : DownMem tx px tr q many t w) (k : Only bs w w') (h1 : tx ∉ bs) (h2 : px ∉ bs) (h3 : tr ∉ bs) (h4 : ∀ b ∈ t.bs, b ∉ bs) (h5 : 3 ∉ bs) : DownMem tx px tr q many t w' :=
 ⟨h.tx.only k h1, h.px.only k h2, h.tr.only k h3, TM.only k h.tm h4, ⟨k.cell h.rels.1 h5, k.cell h.rels.2.1 h5, k.cell h.rels.2.2.1 h5, k.cell h.rels.2.2.2 h5⟩⟩
def PlI (w0 : World) (ab tx px tr : Nat) (q : Pn) (many : Int) (t : Tr) (k : Nat) (W : World) : Prop :=
 Only [ab] w0 W ∧ ∃ s a0 a1, DownAt tx px tr q many t k s (a0, a1) ∧ Tr.place q (a0, a1) s = Tr.place q (tr, 0) t ∧ Blk W ab 375 #[.pointer (some ⟨a0, a1, none⟩)]
def PlZ (w0 : World) (ab : Nat) (pl : Nat × Nat) (W : World) : Prop := Only [ab] w0 W ∧ Blk W ab 375 #[.pointer (some ⟨pl.1, pl.2, none⟩)]
theorem vof {w0 : World} {ab tx px tr : Nat} {q : Pn} {many : Int} {t : Tr} {W : World} (h : PlI w0 ab tx px tr q many t (Tr.way q (tr, 0) t).length W) : PlZ w0 ab (Tr.place q (tr, 0) t) W := by
 obtain ⟨h1, s, a0, a1, d, e, B⟩ := h
 refine ⟨h1, ?_⟩
 have hw := d.way
 rw [List.drop_length] at hw
 have : Tr.place q (a0, a1) s = (a0, a1) := by
  cases s with
  | nil => rfl
  | node b p v hh x y =>
   by_cases hp : p.holds q
   ·simp [Tr.way, hp] at hw
   ·simp [Tr.place, hp]
 rw [← e, this]
 exact B
set_option maxRecDepth 100000 in
theorem vbM (tr : Nat) (q : Pn) (many : Int) (t : Tr) (w : World) (hG : RelsAt w) (hT : Blk w tr 330 #[t.ptr, .int .i64 many, .bool true]) (hM : TM w t) (ht : t.Wf) (hq : q.ok) :
  Calls Tryz.prog 260 #[.pointer (some ⟨tr, 0, none⟩), .agg #[.int .u32 q.a, .int .i64 q.l]] w fun e w' => e = .returned (.pointer (some ⟨(Tr.place q (tr, 0) t).1, (Tr.place q (tr, 0) t).2, none⟩)) ∧ Kp w w' := by
 have hglt := World.block_lt_of_cell? w _ hG.1
 have htlt := hT.lt
 have hblt := Lib.hid (TM.lt hM)
 refine calls_of_wp_marks Tryz.func260 rfl ?_; simp only [Tryz.ntmps260, List.size_toArray, List.length_cons, List.length_nil, Nat.reduceAdd, Nat.reduceSub, Array.replicate_succ, Array.replicate_zero, List.push_toArray, List.append_toArray, List.nil_append, List.cons_append]
 go_wp2_with fail
 refine vac 0 rfl ?_
 go_wp2_with fail
 go_step3
 go_wp2_with fail
 refine (vfa tr q _).mono ?_
 simp only [World.size_alloc]
 rintro e w1 ⟨rfl, Dx, Dp, hK1⟩
 have kw : Kp w w1 := (((Kp.refl _).alloc _).alloc _).trans hK1
 have P1 : Blk w1 w.heap.size 39 #[.int .u32 q.a, .int .i64 q.l] := ((Blk.new w _ _).alloc _).keep hK1
 have A1 : Blk w1 (w.heap.size + 1) 375 #[.pointer (some ⟨tr, 0, none⟩)] := (Blk.new1 w _ _ _).keep hK1
 have D1 : DownMem (w.heap.size + 1 + 1) (w.heap.size + 1 + 1 + 1) tr q many t w1 := ⟨Dx, Dp, hT.keep kw, hM.keep kw, hG.keep kw⟩
 clear hK1
 have hpos := D1.px.lt
 have near : Hid (∀ k W, PlI w1 (w.heap.size + 1) (w.heap.size + 1 + 1) (w.heap.size + 1 + 1 + 1) tr q many t k W → DownMem (w.heap.size + 1 + 1) (w.heap.size + 1 + 1 + 1) tr q many t W) := fun k W h =>
  D1.only h.1 (by simp <;> omega) (by simp <;> omega) (by simp <;> omega) (fun b hb => by have := hblt.out b hb; simp; omega) (by simp only [List.mem_singleton]; omega)
 have lift : ∀ W W', Only [w.heap.size + 1] w1 W → Only [w1.heap.size, w1.heap.size + 1] W W' → Only [w.heap.size + 1] w1 W' := fun W W' h1 hO =>
  ⟨hO.os.trans h1.os, hO.tape.trans h1.tape, hO.output.trans h1.output, Nat.le_trans h1.size hO.size, fun i hi hn => (hO.block i (Nat.lt_of_lt_of_le hi h1.size) (by simp; omega)).trans (h1.block i hi hn)⟩
 have Hlift := Lib.hid lift; clear lift
 have kept : Hid (∀ W2 V u, w1.heap.size + 1 < W2.heap.size → Only [w.heap.size + 1] W2 V → Kept2 w1 W2 (V.setCell ⟨w.heap.size + 1, 0, none⟩ u)) := fun W2 V u hs hO =>
  ⟨(Below.heap_setCell _ _ _ _ (by simp; omega)).trans (hO.block _ (by omega) (by simp; omega)), (Below.heap_setCell _ _ _ _ (by simp; omega)).trans (hO.block _ (by omega) (by simp; omega))⟩
 have Hq := Lib.hid hq
 have Ht := Lib.hid ht
 have hmm := hq.2.1
 clear hM hT hq ht Dx Dp hG
 go_wp2_with fail
 refine veG (N := (Tr.way q (tr, 0) t).length) rfl vcQ (vcP (w.heap.size + 1 + 1) (w.heap.size + 1 + 1 + 1) tr q many t Hq.out Ht.out) (fun _ _ => rfl)
  (PlI w1 (w.heap.size + 1) (w.heap.size + 1 + 1) (w.heap.size + 1 + 1 + 1) tr q many t) (fun _ W => PlZ w1 (w.heap.size + 1) (Tr.place q (tr, 0) t) W) (PlZ w1 (w.heap.size + 1) (Tr.place q (tr, 0) t)) ?_ ?_ near.out ?_ ?_ (fun _ _ _ _ h => h) ?_ ?_
 ·rintro k W W' ⟨h1, s, a0, a1, d, e, B⟩ hO
  exact ⟨Hlift.out W W' h1 hO, s, a0, a1, d, e, B.only hO (by simp; omega)⟩
 ·rintro k W W' ⟨h1, B⟩ hO
  exact ⟨Hlift.out W W' h1 hO, B.only hO (by simp; omega)⟩
 ·exact ⟨Only.refl _ _, t, tr, 0, ⟨by simp, fun w d => ⟨d.tm, d.tr.cell 0⟩, Ht.out, Nat.zero_le _⟩, rfl, A1⟩
 ·intro W h; exact vof h
 ·intro l k W hk _
  gi_wp2_with fail
  refine ⟨trivial, ?_⟩
  rintro W2 ⟨j1, s, a0, a1, d, e, B⟩ hsz
  have D2 := near.out k W2 ⟨j1, s, a0, a1, d, e, B⟩
  have hw := d.way
  cases s with
  | nil =>
   have := congrArg List.length hw
   simp [Tr.way] at this
   omega
  | node b p v hh x y =>
   have hp : p.holds q := by
    by_cases h : p.holds q
    ·exact h
    ·have := congrArg List.length hw
     simp [Tr.way, h] at this
     omega
   have hgd : (Tr.way q (tr, 0) t)[k]? = some (a0, a1) := by
    have hw' := hw
    simp only [Tr.way, hp, if_true] at hw'
    have := congrArg (fun l => l[0]?) hw'
    simpa using this.symm
   have hgk : (Tr.way q (tr, 0) t)[k] = (a0, a1) := by
    obtain ⟨_, h⟩ := List.getElem?_eq_some_iff.mp hgd
    exact h
   simp only [hgk]
   obtain ⟨⟨N2, _, _⟩, cA⟩ := d.mem W2 D2
   have P2 := P1.only j1 (by simp)
   have cA' : W2.cell? ⟨a0, a1, none⟩ = some (.pointer (some ⟨b, 0, none⟩)) := cA
   have n1 : W2.cell? ⟨b, 1, none⟩ = some (.int .i64 p.l) := N2.cell 1
   have q0 : W2.cell? ⟨w.heap.size, 0, none⟩ = some (.int .u32 q.a) := P2.cell 0
   have q1 : W2.cell? ⟨w.heap.size, 1, none⟩ = some (.int .i64 q.l) := P2.cell 1
   have Hd := Lib.hid d; have He := Lib.hid e; have Hw := Lib.hid hw; have Hp := Lib.hid hp
   clear d e hw hp hgd hgk cA
   by_cases hl : p.l = q.l
   ·have e1 : ((p.l : Int) == (q.l : Int)) = true := by simp [hl]
    have Hl := Lib.hid hl; clear hl
    gi_wp2_with fail
    refine vbm 9 (by kernel_rfl) (by kernel_rfl) (by kernel_rfl) (veo (veo (vaj van))) (fun V hV => ?_)
    have jV : Only [w.heap.size + 1] w1 V := by rw [hV]; exact j1.drew
    have BV : Blk V (w.heap.size + 1) 375 #[.pointer (some ⟨a0, a1, none⟩)] := by rw [hV]; exact B
    have c1 : V.cell? ⟨a0, a1, none⟩ = some (.pointer (some ⟨b, 0, none⟩)) := by rw [hV]; exact cA'
    have c2 : V.cell? ⟨b, 1, none⟩ = some (.int .i64 p.l) := by rw [hV]; exact n1
    have c3 : V.cell? ⟨w.heap.size, 1, none⟩ = some (.int .i64 q.l) := by rw [hV]; exact q1
    have z0 := BV.frozen 0
    have y0 : V.cell? ⟨w.heap.size + 1, 0, none⟩ = some (.pointer (some ⟨a0, a1, none⟩)) := BV.cell 0
    have OV : Only [w.heap.size + 1] W2 V := by rw [hV]; exact (Only.refl _ _).drew
    clear hV cA' n1 q0 q1
    simp only [List.take_succ_cons, List.take_zero, List.drop_succ_cons, List.drop_zero]
    repeat still_step
    refine wpStill_nil ?_
    go_wp2_with fail
    gi_wp2_with fail
    have hpl2 : Tr.place q (tr, 0) t = (a0, a1) := by
     rw [← He.out]; simp only [Tr.place, Hp.out, Hl.out, if_true]
    exact ⟨kept.out _ _ _ hsz OV, rfl, jV.setCell (.inl (by simp)) _, by rw [hpl2]; exact BV.set_ 0 _⟩
   ·have e1 : ((p.l : Int) == (q.l : Int)) = false := by simp; omega
    have Hl := Lib.hid hl
    have Hpl := Lib.hid (show p.l ≤ 32 from Hd.out.wf.1.2.1)
    clear hl
    rcases vaI q.a p.l with hb | hb
    ·have Hb := Lib.hid hb; clear hb
     gi_wp2_with fail
     refine vbm 9 (by kernel_rfl) (by kernel_rfl) (by kernel_rfl) (veo (veo (vaj van))) (fun V hV => ?_)
     have jV : Only [w.heap.size + 1] w1 V := by rw [hV]; exact j1.drew
     have BV : Blk V (w.heap.size + 1) 375 #[.pointer (some ⟨a0, a1, none⟩)] := by rw [hV]; exact B
     have c1 : V.cell? ⟨a0, a1, none⟩ = some (.pointer (some ⟨b, 0, none⟩)) := by rw [hV]; exact cA'
     have c2 : V.cell? ⟨b, 1, none⟩ = some (.int .i64 p.l) := by rw [hV]; exact n1
     have c3 : V.cell? ⟨w.heap.size, 1, none⟩ = some (.int .i64 q.l) := by rw [hV]; exact q1
     have c0 : V.cell? ⟨w.heap.size, 0, none⟩ = some (.int .u32 q.a) := by rw [hV]; exact q0
     have z0 := BV.frozen 0
     have y0 : V.cell? ⟨w.heap.size + 1, 0, none⟩ = some (.pointer (some ⟨a0, a1, none⟩)) := BV.cell 0
     have OV : Only [w.heap.size + 1] W2 V := by rw [hV]; exact (Only.refl _ _).drew
     clear hV cA' n1 q0 q1 N2 P2
     simp only [List.take_succ_cons, List.take_zero, List.drop_succ_cons, List.drop_zero]
     repeat still_step
     refine wpStill_nil ?_
     go_wp2_with fail
     gi_wp2_with fail
     refine vbm 16 (by kernel_rfl) (by kernel_rfl) (by kernel_rfl) (vaj van) (fun U hU => ?_)
     have jU : Only [w.heap.size + 1] w1 U := by rw [hU]; exact jV.drew
     have BU : Blk U (w.heap.size + 1) 375 #[.pointer (some ⟨a0, a1, none⟩)] := by rw [hU]; exact BV
     have d1 : U.cell? ⟨a0, a1, none⟩ = some (.pointer (some ⟨b, 0, none⟩)) := by rw [hU]; exact c1
     have d2 : U.cell? ⟨b, 1, none⟩ = some (.int .i64 p.l) := by rw [hU]; exact c2
     have d0 : U.cell? ⟨w.heap.size, 0, none⟩ = some (.int .u32 q.a) := by rw [hU]; exact c0
     have zU := BU.frozen 0
     have yU : U.cell? ⟨w.heap.size + 1, 0, none⟩ = some (.pointer (some ⟨a0, a1, none⟩)) := BU.cell 0
     have OU : Only [w.heap.size + 1] W2 U := by rw [hU]; exact OV.drew
     clear hU jV BV OV c0 c1 c2 c3 z0 y0
     simp only [List.take_succ_cons, List.take_zero, List.drop_succ_cons, List.drop_zero]
     repeat still_step
     still_call (by refine (vbk q.a p.l _ Hq.out.1 Hpl.out).mono ?_; rintro e w' ⟨rfl, rfl⟩; rw [Hb.out]; exact ⟨rfl, rfl⟩)
     repeat still_step
     refine wpStill_nil ?_
     go_wp2_with fail
     refine ⟨kept.out _ _ _ hsz OU, jU.setCell (.inl (by simp)) _, x, b, 4, ⟨?_, fun w d => ?_, Hd.out.wf.2.2.2.1, by omega⟩, ?_, BU.set_ 0 _⟩
     ·have hw := Hw.out
      simp only [Tr.way, Hp.out, Hl.out, Hb.out, if_true, if_false] at hw
      have := congrArg List.tail hw
      simpa using this
     ·obtain ⟨⟨h1, h2, h3⟩, _⟩ := Hd.out.mem w d
      exact ⟨h2, h1.cell 4⟩
     ·rw [← He.out]
      simp only [Tr.place, Hp.out, Hl.out, Hb.out, if_true, if_false]
    ·have Hb := Lib.hid hb; clear hb
     gi_wp2_with fail
     refine vbm 9 (by kernel_rfl) (by kernel_rfl) (by kernel_rfl) (veo (veo (vaj van))) (fun V hV => ?_)
     have jV : Only [w.heap.size + 1] w1 V := by rw [hV]; exact j1.drew
     have BV : Blk V (w.heap.size + 1) 375 #[.pointer (some ⟨a0, a1, none⟩)] := by rw [hV]; exact B
     have c1 : V.cell? ⟨a0, a1, none⟩ = some (.pointer (some ⟨b, 0, none⟩)) := by rw [hV]; exact cA'
     have c2 : V.cell? ⟨b, 1, none⟩ = some (.int .i64 p.l) := by rw [hV]; exact n1
     have c3 : V.cell? ⟨w.heap.size, 1, none⟩ = some (.int .i64 q.l) := by rw [hV]; exact q1
     have c0 : V.cell? ⟨w.heap.size, 0, none⟩ = some (.int .u32 q.a) := by rw [hV]; exact q0
     have z0 := BV.frozen 0
     have y0 : V.cell? ⟨w.heap.size + 1, 0, none⟩ = some (.pointer (some ⟨a0, a1, none⟩)) := BV.cell 0
     have OV : Only [w.heap.size + 1] W2 V := by rw [hV]; exact (Only.refl _ _).drew
     clear hV cA' n1 q0 q1 N2 P2
     simp only [List.take_succ_cons, List.take_zero, List.drop_succ_cons, List.drop_zero]
     repeat still_step
     refine wpStill_nil ?_
     go_wp2_with fail
     gi_wp2_with fail
     refine vbm 16 (by kernel_rfl) (by kernel_rfl) (by kernel_rfl) (vaj van) (fun U hU => ?_)
     have jU : Only [w.heap.size + 1] w1 U := by rw [hU]; exact jV.drew
     have BU : Blk U (w.heap.size + 1) 375 #[.pointer (some ⟨a0, a1, none⟩)] := by rw [hU]; exact BV
     have d1 : U.cell? ⟨a0, a1, none⟩ = some (.pointer (some ⟨b, 0, none⟩)) := by rw [hU]; exact c1
     have d2 : U.cell? ⟨b, 1, none⟩ = some (.int .i64 p.l) := by rw [hU]; exact c2
     have d0 : U.cell? ⟨w.heap.size, 0, none⟩ = some (.int .u32 q.a) := by rw [hU]; exact c0
     have zU := BU.frozen 0
     have yU : U.cell? ⟨w.heap.size + 1, 0, none⟩ = some (.pointer (some ⟨a0, a1, none⟩)) := BU.cell 0
     have OU : Only [w.heap.size + 1] W2 U := by rw [hU]; exact OV.drew
     clear hU jV BV OV c0 c1 c2 c3 z0 y0
     simp only [List.take_succ_cons, List.take_zero, List.drop_succ_cons, List.drop_zero]
     repeat still_step
     still_call (by refine (vbk q.a p.l _ Hq.out.1 Hpl.out).mono ?_; rintro e w' ⟨rfl, rfl⟩; rw [Hb.out]; exact ⟨rfl, rfl⟩)
     repeat still_step
     refine wpStill_nil ?_
     go_wp2_with fail
     refine ⟨kept.out _ _ _ hsz OU, jU.setCell (.inl (by simp)) _, y, b, 5, ⟨?_, fun w d => ?_, Hd.out.wf.2.2.2.2, by omega⟩, ?_, BU.set_ 0 _⟩
     ·have hw := Hw.out
      simp only [Tr.way, Hp.out, Hl.out, Hb.out, if_true, if_false, show ¬ (1 : Nat) = 0 by omega] at hw
      have := congrArg List.tail hw
      simpa using this
     ·obtain ⟨⟨h1, h2, h3⟩, _⟩ := Hd.out.mem w d
      exact ⟨h3, h1.cell 5⟩
     ·rw [← He.out]
      simp only [Tr.place, Hp.out, Hl.out, Hb.out, if_true, if_false, show ¬ (1 : Nat) = 0 by omega]
 ·rintro W ⟨h1, B⟩ hd
  have c0 : W.cell? ⟨w.heap.size + 1, 0, none⟩ = some (.pointer (some ⟨(Tr.place q (tr, 0) t).1, (Tr.place q (tr, 0) t).2, none⟩)) := B.cell 0
  have k2 : Kp w W := h1.kp kw (by simp)
  have hs1 := kw.size
  go_wp2_with fail
  refine vak ?_
  refine vbp hd (fun W' hO => ⟨_, ?_, rfl, hO.kp k2 (by simp; omega)⟩)
  simp [results, Tryz.results260, go_sem]
attribute [local go_sem] Oper.semAt_some
theorem vdP (w : World) (b : Nat) : (binOp .eql 161 (.pointer (some ⟨b, 0, none⟩)) (.pointer none)).run Tryz.prog w = .ok (.bool false) w := by kernel_rfl
theorem vbz (tr : Nat) (x : Value) (many : Int) (w : World) (hT : Blk w tr 330 #[x, .int .i64 many, .bool true]) :
  Calls Tryz.prog 212 #[.pointer (some ⟨tr, 0, none⟩)] w fun e w' => e = .returned (.bool false) ∧ w = w' := by
 have h1 := vdP
 have c2 : w.cell? ⟨tr, 2, none⟩ = some (.bool true) := hT.cell 2
 go_enter Tryz.func212, Tryz.ntmps212
 go_wp2_with fail
 go_ret
 exact ⟨rfl, rfl⟩
set_option maxRecDepth 100000 in
theorem vjY (w : World) (a l b k : Int) : (binOp .eql 39 (.agg #[.int .u32 a, .int .i64 l]) (.agg #[.int .u32 b, .int .i64 k])).run Tryz.prog w = .ok (.bool (a == b && l == k)) w := by
 rw [run_eql_struct, run_equalIn_agg w 9999 _ _ _ Tryz.underlying39 (by kernel_rfl)]
 simp [Op.eqFields, part, go_sem, Tryz.underlying3, Tryz.underlying37]
 by_cases h1 : a = b <;> by_cases h2 : l = k <;> simp [h1, h2]
theorem vbX (w : World) (q : Pn) : (binOp .eql 39 (.agg #[.int .u32 q.a, .int .i64 q.l]) (.agg #[.int .u32 q.a, .int .i64 q.l])).run Tryz.prog w = .ok (.bool true) w := by
 rw [vjY]; simp
theorem vdk (w : World) {p q : Pn} (h : ¬ p = q) : (binOp .eql 39 (.agg #[.int .u32 p.a, .int .i64 p.l]) (.agg #[.int .u32 q.a, .int .i64 q.l])).run Tryz.prog w = .ok (.bool false) w := by
 rw [vjY]
 have : ((p.a : Int) == (q.a : Int) && (p.l : Int) == (q.l : Int)) = false := by
  cases hh : ((p.a : Int) == (q.a : Int) && (p.l : Int) == (q.l : Int)) with
  | false => rfl
  | true =>
   simp at hh
   obtain ⟨h1, h2⟩ := hh
   exact absurd (by cases p; cases q; simp at h1 h2 ⊢; omega) h
 rw [this]
def Tr.got (q : Pn) : Tr → Int × Bool
 | .nil => (0, false)
 | .node _ p v h _ _ => if p = q ∧ h = true then (v, true) else (0, false)
set_option maxRecDepth 100000 in
theorem vog (tr : Nat) (q : Pn) (many : Int) (t : Tr) (w : World) (hG : RelsAt w) (hT : Blk w tr 330 #[t.ptr, .int .i64 many, .bool true]) (hM : TM w t) (ht : t.Wf) (hq : q.ok) :
  Calls Tryz.prog 259 #[.pointer (some ⟨tr, 0, none⟩), .agg #[.int .u32 q.a, .int .i64 q.l]] w fun e w' => e = .returned (.tuple #[.int .i64 ((t.look q).got q).1, .bool ((t.look q).got q).2]) ∧ Kp w w' := by
 have Hq := Lib.hid hq
 have Ht := Lib.hid ht
 have Hck := Lib.hid (show checkP q.pi = 0 by simp [checkP, pi_ok hq])
 have HT := Lib.hid (hT.alloc (.cells #[.int .u32 q.a, .int .i64 q.l] 39))
 have HM := Lib.hid hM
 have HB := Lib.hid hT
 have HG := Lib.hid hG
 have hpn := vaZ
 have hpe := vbW
 have ht1 := vbX
 clear hT hM ht hq hG
 go_enter Tryz.func259, Tryz.ntmps259
 go_wp2_with fail
 refine (vbz tr _ many _ HT.out).mono ?_
 rintro e w' ⟨rfl, rfl⟩
 go_wp2_with fail
 refine (vax q.pi _ Hq.out.1).mono ?_
 rintro e w1 ⟨rfl, hK1⟩
 rw [Hck.out]
 have kw : Kp w w1 := ((Kp.refl _).alloc _).trans hK1
 have P1 : Blk w1 w.heap.size 39 #[.int .u32 q.a, .int .i64 q.l] := (Blk.new w _ _).keep hK1
 clear hK1
 have p0 : w1.cell? ⟨w.heap.size, 0, none⟩ = some (.int .u32 q.a) := P1.cell 0
 have p1 : w1.cell? ⟨w.heap.size, 1, none⟩ = some (.int .i64 q.l) := P1.cell 1
 go_wp2_with fail
 refine (vbM tr q many t _ (HG.out.keep kw) (HB.out.keep kw) (HM.out.keep kw) Ht.out Hq.out).mono ?_
 rintro e w2 ⟨rfl, hK2⟩
 have k2 : Kp w w2 := kw.trans hK2
 have P2 := P1.keep hK2
 clear p0 p1
 have p0 : w2.cell? ⟨w.heap.size, 0, none⟩ = some (.int .u32 q.a) := P2.cell 0
 have p1 : w2.cell? ⟨w.heap.size, 1, none⟩ = some (.int .i64 q.l) := P2.cell 1
 have hc := vaM (q := q) (A := (tr, 0)) (HM.out.keep k2) ((HB.out.keep k2).cell 0)
 have hs := vby (q := q) (HM.out.keep k2)
 clear hK2
 generalize hl : t.look q = s at hc hs
 have Hl := Lib.hid hl; clear hl
 cases s with
 | nil =>
  have hc' : w2.cell? ⟨(Tr.place q (tr, 0) t).1, (Tr.place q (tr, 0) t).2, none⟩ = some (.pointer none) := hc
  clear hc hs
  go_wp2_with fail
  go_quiet (fail)
  go_wp2_with fail
  go_ret2
  exact ⟨by rw [Hl.out]; rfl, k2.drewN _⟩
 | node b p v hh x y =>
  have hc' : w2.cell? ⟨(Tr.place q (tr, 0) t).1, (Tr.place q (tr, 0) t).2, none⟩ = some (.pointer (some ⟨b, 0, none⟩)) := hc
  obtain ⟨N, _, _⟩ := hs
  have n0 : w2.cell? ⟨b, 0, none⟩ = some (.int .u32 p.a) := N.cell 0
  have n1 : w2.cell? ⟨b, 1, none⟩ = some (.int .i64 p.l) := N.cell 1
  have n2 : w2.cell? ⟨b, 2, none⟩ = some (.int .i64 v) := N.cell 2
  have n3 : w2.cell? ⟨b, 3, none⟩ = some (.bool hh) := N.cell 3
  clear hc N
  by_cases h : p = q
  ·subst h
   cases hh with
   | true =>
    go_wp2_with fail
    go_quiet (fail)
    go_wp2_with fail
    go_ret2
    exact ⟨by rw [Hl.out]; simp [Tr.got], k2.drewN _⟩
   | false =>
    go_wp2_with fail
    go_quiet (fail)
    go_wp2_with fail
    go_ret2
    exact ⟨by rw [Hl.out]; simp [Tr.got], k2.drewN _⟩
  ·have hne := fun w => vdk w h
   have H := Lib.hid h; clear h
   go_wp2_with fail
   go_quiet (fail)
   go_wp2_with fail
   go_ret2
   exact ⟨by rw [Hl.out]; simp [Tr.got, H.out], k2.drewN _⟩
end

end Go.Proofs.YtgopnfacklmkaaaGreatDoor
