/- Lemmas and contracts for the theorem of this claim: TrT, TrU. -/
import Derived.Test.YtgopnfacklmkaaaGreatDoorZzAy
set_option linter.all false
set_option maxHeartbeats 16000000
namespace Go.Proofs.YtgopnfacklmkaaaGreatDoor
section
open Go.RowKit
attribute [local go_sem] Oper.semAt_some
theorem vgz (q : Pn) : ∀ {t : Tr} {A : Nat × Nat} {m : Nat}, t.Wf → (∀ r ∈ t.pfx, m ≤ r.l) → (Tr.way q A t).length ≤ 33 - m
 | .nil, A, m, _, _ => by simp [Tr.way]
 | .node b p v h x y, A, m, ⟨hp, h0, h1, hx, hy⟩, hm => by
  have hpm := hm p (by simp [Tr.pfx])
  have hpl := hp.2.1
  have ix := vgz q (A := (b, 4)) (m := p.l + 1) hx (fun r hr => (h0 r hr).1)
  have iy := vgz q (A := (b, 5)) (m := p.l + 1) hy (fun r hr => (h1 r hr).1)
  unfold Tr.way
  split
  ·split
   ·simp; omega
   ·split
    ·simp only [List.length_cons]; omega
    ·simp only [List.length_cons]; omega
  ·simp
def TidI (w : World) (tr : Nat) (q : Pn) (t : Tr) (many : Int) (N k : Nat) (W : World) : Prop :=
 Only (tr :: t.bs) w W ∧ TM W (tidyK q (N - k) t) ∧ Blk W tr 330 #[(tidyK q (N - k) t).ptr, .int .i64 many, .bool true]
set_option maxRecDepth 100000 in
theorem vmk (tr : Nat) (q : Pn) (many : Int) (t : Tr) (w : World) (hG : RelsAt w) (hT : TrieM w tr t many) (hq : q.ok) :
  Calls Tryz.prog 262 #[.pointer (some ⟨tr, 0, none⟩), .agg #[.int .u32 q.a, .int .i64 q.l]] w fun e w' => e = .returned (.tuple #[]) ∧ Turned w w' tr t (tidyT q t) many := by
 have Hq := Lib.hid hq
 have HT := Lib.hid hT
 have HG := Lib.hid hG
 have hwl := vgz q (A := (tr, 0)) (m := 0) hT.wf (fun _ _ => Nat.zero_le _)
 have hlt := Lib.hid (fun b (hb : b ∈ tr :: t.bs) => show b < w.heap.size by
  rcases List.mem_cons.1 hb with rfl | hb
  ·exact hT.blk.lt
  ·exact hT.tm.lt b hb)
 clear hT hq hG
 obtain ⟨ps, hps⟩ : ∃ ps, Tr.way q (tr, 0) t = ps := ⟨_, rfl⟩
 rw [hps] at hwl
 have Hps := Lib.hid hps; clear hps
 refine calls_of_wp_marks Tryz.func262 rfl ?_; simp only [Tryz.ntmps262, List.size_toArray, List.length_cons, List.length_nil, Nat.reduceAdd, Nat.reduceSub, Array.replicate_succ, Array.replicate_zero, List.push_toArray, List.append_toArray, List.nil_append, List.cons_append]
 go_wp2_with fail
 refine (vfa tr q _).mono ?_
 simp only [World.size_alloc]
 rintro e w1 ⟨rfl, Dx, Dp, hK1⟩
 have kw : Kp w w1 := ((Kp.refl _).alloc _).trans hK1
 have D1 : DownMem (w.heap.size + 1) (w.heap.size + 1 + 1) tr q many t w1 := ⟨Dx, Dp, HT.out.blk.keep kw, HT.out.tm.keep kw, HG.out.keep kw⟩
 have hDk := Lib.hid (fun W (k : Kp w1 W) => show DownMem (w.heap.size + 1) (w.heap.size + 1 + 1) tr q many t W from ⟨D1.tx.keep k, D1.px.keep k, D1.tr.keep k, D1.tm.keep k, D1.rels.keep k⟩)
 have hit := vcP (w.heap.size + 1) (w.heap.size + 1 + 1) tr q many t Hq.out HT.out.wf
 rw [Hps.out] at hit
 have Hit := Lib.hid hit; clear hit
 clear hK1 Dx Dp D1
 go_wp2_with fail
 refine (vgy ps (by omega) vcQ Hit.out w1 hDk.out).mono ?_
 rintro e w2 ⟨A, c, rfl, hR, hK2, hA⟩
 have HR := Lib.hid hR; clear hR
 have HA := Lib.hid hA; clear hA
 have k2 := kw.trans hK2
 go_wp2_with fail
 refine (vfO A ps.length c _).mono ?_
 rintro e w3 ⟨rfl, Bx, hK3⟩
 have k3 := k2.trans hK3
 have HR3 := Lib.hid (HR.out.keep hK3)
 have T3 := Lib.hid (HT.out.keep k3)
 have hs1 := kw.size
 have hs2 := hK2.size
 have hs3 := Bx.lt
 have hs0 := k3.size
 go_wp2_with fail
 refine vcq (N := ps.length) rfl vim (vin w2.heap.size A c ps (by omega)) (fun _ _ => rfl) (TidI w3 tr q t many ps.length) (fun _ _ _ => False) ?_ (fun _ _ _ _ h => h.elim) ?_ ?_ ?_ ?_ (fun _ _ _ _ _ h => h.elim)
 ·rintro k W W' ⟨h1, h2, h3⟩ hO
  refine ⟨⟨hO.os.trans h1.os, hO.tape.trans h1.tape, hO.output.trans h1.output, Nat.le_trans h1.size hO.size, fun i hi hn => (hO.block i (Nat.lt_of_lt_of_le hi h1.size) (by simp; omega)).trans (h1.block i hi hn)⟩, h2.only hO (fun b hb => ?_), h3.only hO ?_⟩
  ·have := hlt.out b (List.mem_cons.2 (.inr ((vdl q _ t).subset hb))); simp; omega
  ·have := hlt.out tr (by simp); simp; omega
 ·rintro k W ⟨h1, _, _⟩
  refine ⟨Bx.only h1 (fun hc => by have := hlt.out _ hc; omega), HR3.out.only h1 (fun a ha hc => by have := hlt.out _ hc; have := HA.out a ha; omega)⟩
 ·refine ⟨Only.refl _ _, ?_, ?_⟩
  ·rw [Nat.sub_zero, vcD q _ t (tr, 0) (by rw [Hps.out]; exact Nat.le_refl _)]; exact T3.out.tm
  ·rw [Nat.sub_zero, vcD q _ t (tr, 0) (by rw [Hps.out]; exact Nat.le_refl _)]; exact T3.out.blk
 ·intro l k W hk _
  have hj : ps.length - 1 - k < ps.length := by omega
  obtain ⟨B, hB⟩ : ∃ B, ps[ps.length - 1 - k] = B := ⟨_, rfl⟩
  have hget : ps.getD (ps.length - 1 - k) (0, 0) = B := by simp only [List.getD]; rw [List.getElem?_eq_getElem hj]; exact hB
  have hB? : (Tr.way q (tr, 0) t)[ps.length - 1 - k]? = some B := by rw [Hps.out, List.getElem?_eq_getElem hj, hB]
  rw [hget]
  have HB := Lib.hid hB?; clear hB? hB hget
  gi_wp2_with fail
  refine ⟨trivial, ?_⟩
  rintro W2 ⟨h1, h2, h3⟩ hsz
  have hidx : ps.length - k = ps.length - 1 - k + 1 := by omega
  have hidx2 : ps.length - (k + 1) = ps.length - 1 - k := by omega
  rw [hidx] at h2 h3
  obtain ⟨s, S⟩ := vdS (A := (tr, 0)) h2 ⟨_, _, h3, rfl⟩ HT.out.out HT.out.nd HB.out
  have Hidx2 := Lib.hid hidx2; clear hidx hidx2
  obtain ⟨b, p, v, h, x, y, rfl⟩ := S.node
  obtain ⟨ty, cs, hPB, hPC⟩ := S.cell
  have cB : W2.cell? ⟨B.1, B.2, none⟩ = some (.pointer (some ⟨b, 0, none⟩)) := (hPB.cell _).trans hPC
  have zB := hPB.frozen B.2
  have NB := S.tm.1
  have HS := Lib.hid S; clear S
  have Hpc := Lib.hid hPC; clear hPC
  have hBlt := hPB.lt
  have hBin := HS.out.inn
  have hBw : B.1 < w.heap.size := by
   rcases hBin with e | e
   ·rw [e]; exact hlt.out tr (by simp)
   ·exact hlt.out _ (by simp [e])
  clear hBin
  refine wpIn_block ?_
  refine vcS (by kernel_rfl) (vaj van) ?_
  obtain ⟨kp, hkp⟩ : ∃ a, (keptT (.node b p v h x y)).ptr = .pointer a := by
   rcases keptT (.node b p v h x y) with _ | ⟨b', _, _, _, _, _⟩
   ·exact ⟨_, rfl⟩
   ·exact ⟨_, rfl⟩
  have Hkp := Lib.hid hkp; clear hkp
  go_wp2_with (go_at_call 304; refine (vmj b p v h x y _ NB).mono ?_; rintro e w' ⟨rfl, rfl⟩; rw [Hkp.out])
  have hOB : Only (tr :: t.bs) w3 (W2.setCell ⟨B.1, B.2, none⟩ (.pointer kp)) := h1.setCell (.inl (by
   rcases HS.out.inn with e | e
   ·simp [e]
   ·simp [e])) _
  have haf := HS.out.after
  rw [Hkp.out] at haf
  refine ⟨⟨Below.heap_setCell _ _ _ _ (by simp; omega), Below.heap_setCell _ _ _ _ (by simp; omega)⟩, hOB, by rw [Hidx2.out]; exact haf, ?_⟩
  rw [Hidx2.out]
  rcases HS.out.top with ⟨ea, eb⟩ | ⟨ea, eb⟩
  ·rw [eb, Hkp.out, ea]; exact h3.set_ 0 _
  ·rw [eb]; exact h3.far (by simp only; intro e'; rw [← e'] at ea; exact HT.out.out ea) _
 ·rintro W ⟨h1, h2, h3⟩ hd
  rw [Nat.sub_self] at h2 h3
  have hO3 : Only (tr :: t.bs) w W := (Only.of_kp k3).trans ⟨h1.os, h1.tape, h1.output, h1.size, h1.block⟩
  go_wp2_with fail
  refine vbp hd (fun W' hO => ⟨.tuple #[], by simp [results, Tryz.results262, go_sem], rfl, ⟨?_, ?_, HT.out.wf |> fun hw => (vgv q hw).1, (vcj q t).nodup HT.out.nd, fun hc => HT.out.out ((vcj q t).subset hc)⟩, ?_, fun b hb => .inl ((vcj q t).subset hb)⟩)
  ·exact h3.only hO (by have := hlt.out tr (by simp); simp; omega)
  ·exact TM.only hO h2 (fun b hb => by have := hlt.out b (List.mem_cons.2 (.inr ((vcj q t).subset hb))); simp; omega)
  ·refine ⟨hO.os.trans hO3.os, hO.tape.trans hO3.tape, hO.output.trans hO3.output, Nat.le_trans hO3.size hO.size, fun i hi hn => (hO.block i (Nat.lt_of_lt_of_le hi hO3.size) (by simp; omega)).trans (hO3.block i hi hn)⟩
attribute [local go_sem] Oper.semAt_some
theorem Turned.trans {w w1 w2 : World} {tr : Nat} {t t1 t2 : Tr} {m1 m2 : Int} (h : Turned w w1 tr t t1 m1) (k : Turned w1 w2 tr t1 t2 m2) : Turned w w2 tr t t2 m2 :=
 ⟨k.trie, ⟨k.only.os.trans h.only.os, k.only.tape.trans h.only.tape, k.only.output.trans h.only.output, Nat.le_trans h.only.size k.only.size, fun i hi hn => (k.only.block i (Nat.lt_of_lt_of_le hi h.only.size) (fun hc => by
   rcases List.mem_cons.1 hc with e | hc
   ·exact hn (by simp [e])
   ·rcases h.sub i hc with e | e
    ·exact hn (by simp [e])
    ·omega)).trans (h.only.block i hi hn)⟩, fun b hb => by
   rcases k.sub b hb with e | e
   ·exact h.sub b e
   ·exact .inr (Nat.le_trans h.only.size e)⟩
theorem TrieM.many_ {w : World} {tr : Nat} {t : Tr} {many : Int} (h : TrieM w tr t many) (m : Int) : TrieM (w.setCell ⟨tr, 1, none⟩ (.int .i64 m)) tr t m :=
 ⟨h.blk.set_ 1 _, h.tm.only ((Only.refl [tr] w).setCell (.inl (by simp)) _) (fun c hc => by simp; intro e; subst e; exact h.out hc), h.wf, h.nd, h.out⟩
theorem RelsAt.only {w w' : World} {bs : List Nat} (h : RelsAt w) (k : Only bs w w') (hn : 3 ∉ bs) : RelsAt w' := ⟨k.cell h.1 hn, k.cell h.2.1 hn, k.cell h.2.2.1 hn, k.cell h.2.2.2 hn⟩
def TakePost (w : World) (tr : Nat) (q : Pn) (u many : Int) (t : Tr) (e : Ending) (w' : World) : Prop :=
 e = .returned (.tuple #[.int .i64 u, .bool true, .int .i64 0]) ∧ ∃ t', Turned w w' tr t t' (many - 1) ∧ ∀ r : Pn × Int, r ∈ t'.rows ↔ r.1 ≠ q ∧ r ∈ t.rows
set_option maxRecDepth 100000 in
theorem vml (tr : Nat) (q : Pn) (u many : Int) (t : Tr) (b : Nat) (x y : Tr) (w : World) (hG : RelsAt w) (hT : TrieM w tr t many) (hq : q.ok) (hl : t.look q = .node b q u true x y) (hm0 : 0 ≤ many) (hm1 : many ≤ 1000000) (hGn : 3 ∉ tr :: t.bs) :
  Calls Tryz.prog 201 #[.pointer (some ⟨tr, 0, none⟩), .agg #[.int .u32 q.a, .int .i64 q.l]] w (TakePost w tr q u many t) := by
 have Hq := Lib.hid hq
 have Hck := Lib.hid (show checkP q.pi = 0 by simp [checkP, pi_ok hq])
 have HT := Lib.hid hT
 have HG := Lib.hid hG
 have Hl := Lib.hid hl
 have HGn := Lib.hid hGn
 have HT1 := Lib.hid (hT.blk.alloc (.cells #[.int .u32 q.a, .int .i64 q.l] 39))
 have hpn := vaZ
 have ht1 := vbX
 clear hT hq hG hl hGn
 go_enter Tryz.func201, Tryz.ntmps201
 go_wp2_with fail
 refine vac 0 rfl ?_
 go_wp2_with fail
 refine (vbz tr _ many _ HT1.out).mono ?_
 rintro e w' ⟨rfl, rfl⟩
 go_wp2_with fail
 refine (vax q.pi _ Hq.out.1).mono ?_
 rintro e w1 ⟨rfl, hK1⟩
 rw [Hck.out]
 have kw : Kp w w1 := ((Kp.refl _).alloc _).trans hK1
 have P1 : Blk w1 w.heap.size 39 #[.int .u32 q.a, .int .i64 q.l] := (Blk.new w _ _).keep hK1
 clear hK1
 have p0 : w1.cell? ⟨w.heap.size, 0, none⟩ = some (.int .u32 q.a) := P1.cell 0
 have p1 : w1.cell? ⟨w.heap.size, 1, none⟩ = some (.int .i64 q.l) := P1.cell 1
 go_wp2_with fail
 refine (vbM tr q many t _ (HG.out.keep kw) (HT.out.blk.keep kw) (HT.out.tm.keep kw) HT.out.wf Hq.out).mono ?_
 rintro e w2 ⟨rfl, hK2⟩
 have k2 : Kp w w2 := kw.trans hK2
 have P2 := P1.keep hK2
 clear p0 p1
 have p0 : w2.cell? ⟨w.heap.size, 0, none⟩ = some (.int .u32 q.a) := P2.cell 0
 have p1 : w2.cell? ⟨w.heap.size, 1, none⟩ = some (.int .i64 q.l) := P2.cell 1
 have T2 := HT.out.keep k2
 have hc := vaM (q := q) (A := (tr, 0)) T2.tm (T2.blk.cell 0)
 have hs := vby (q := q) T2.tm
 rw [Hl.out] at hc hs
 have hc' : w2.cell? ⟨(Tr.place q (tr, 0) t).1, (Tr.place q (tr, 0) t).2, none⟩ = some (.pointer (some ⟨b, 0, none⟩)) := hc
 obtain ⟨N, _, _⟩ := hs
 have n0 : w2.cell? ⟨b, 0, none⟩ = some (.int .u32 q.a) := N.cell 0
 have n1 : w2.cell? ⟨b, 1, none⟩ = some (.int .i64 q.l) := N.cell 1
 have n2 : w2.cell? ⟨b, 2, none⟩ = some (.int .i64 u) := N.cell 2
 have n3 : w2.cell? ⟨b, 3, none⟩ = some (.bool true) := N.cell 3
 have z2 := N.frozen 2
 have z3 := N.frozen 3
 have m1 : w2.cell? ⟨tr, 1, none⟩ = some (.int .i64 many) := T2.blk.cell 1
 have zm := T2.blk.frozen 1
 have hbl : b ∈ t.bs := vaQ (q := q) (by rw [Hl.out]; simp [Tr.bs])
 have hbt : ¬ b = tr := fun e => HT.out.out (by rw [← e]; exact hbl)
 have hbt' : ¬ tr = b := fun e => hbt e.symm
 have hbw : b < w.heap.size := HT.out.tm.lt b hbl
 have hbw' : ¬ w.heap.size = b := by omega
 have htw : tr < w.heap.size := HT.out.blk.lt
 have htw' : ¬ w.heap.size = tr := by omega
 clear hc hK2
 go_wp2_with fail
 go_quiet (fail)
 go_wp2_with fail
 have hO : Only [b] w (((w2.drewN nq).setCell ⟨b, 2, none⟩ (.int .i64 0)).setCell ⟨b, 3, none⟩ (.bool false)) := ((Only.of_kp (k2.drewN nq)).setCell (.inl (by simp)) _).setCell (.inl (by simp)) _
 obtain ⟨r1, r2, r3, r4⟩ := vkd (v := 0) (h := false) HT.out Hq.out Hl.out hO (((N.drewN nq).set_ 2 _).set_ 3 _)
 have r5 := r1.many_ (many - 1)
 have hO5 : Only (tr :: t.bs) w ((((w2.drewN nq).setCell ⟨b, 2, none⟩ (.int .i64 0)).setCell ⟨b, 3, none⟩ (.bool false)).setCell ⟨tr, 1, none⟩ (.int .i64 (many - 1))) :=
  (⟨r2.os, r2.tape, r2.output, r2.size, fun k hk hn => r2.block k hk (fun h => hn (List.mem_cons.2 (.inr h)))⟩ : Only (tr :: t.bs) w _).setCell (.inl (by simp)) _
 have U5 : Turned w _ tr t (setT q 0 false t) (many - 1) := ⟨r5, hO5, fun c hc => .inl (r3 c hc)⟩
 refine (vmk tr q (many - 1) (setT q 0 false t) _ (HG.out.only hO5 HGn.out) r5 Hq.out).mono ?_
 rintro e w6 ⟨rfl, U6⟩
 have U := Lib.hid (U5.trans U6)
 have H4 := Lib.hid r4
 clear r1 r2 r3 r4 r5 hO hO5 U5 U6
 go_wp2_with fail
 refine vak ?_
 refine bodyPost_ret (v := .tuple #[.int .i64 u, .bool true, .int .i64 0]) (by simp [results, Tryz.results201, go_sem]) rfl ⟨rfl, _, U.out, fun r => ?_⟩
 rw [vdN, H4.out]
 simp
set_option maxRecDepth 100000 in
theorem vmm (tr : Nat) (q : Pn) (many : Int) (t : Tr) (w : World) (hG : RelsAt w) (hT : TrieM w tr t many) (hq : q.ok) (hno : ∀ u, (q, u) ∉ t.rows) :
  Calls Tryz.prog 201 #[.pointer (some ⟨tr, 0, none⟩), .agg #[.int .u32 q.a, .int .i64 q.l]] w fun e w' => e = .returned (.tuple #[.int .i64 0, .bool false, .int .i64 0]) ∧ Kp w w' := by
 have Hq := Lib.hid hq
 have Hck := Lib.hid (show checkP q.pi = 0 by simp [checkP, pi_ok hq])
 have HT := Lib.hid hT
 have HG := Lib.hid hG
 have Hno := Lib.hid hno
 have HT1 := Lib.hid (hT.blk.alloc (.cells #[.int .u32 q.a, .int .i64 q.l] 39))
 have hpn := vaZ
 have hpe := vbW
 have ht1 := vbX
 clear hT hq hG hno
 go_enter Tryz.func201, Tryz.ntmps201
 go_wp2_with fail
 refine vac 0 rfl ?_
 go_wp2_with fail
 refine (vbz tr _ many _ HT1.out).mono ?_
 rintro e w' ⟨rfl, rfl⟩
 go_wp2_with fail
 refine (vax q.pi _ Hq.out.1).mono ?_
 rintro e w1 ⟨rfl, hK1⟩
 rw [Hck.out]
 have kw : Kp w w1 := ((Kp.refl _).alloc _).trans hK1
 have P1 : Blk w1 w.heap.size 39 #[.int .u32 q.a, .int .i64 q.l] := (Blk.new w _ _).keep hK1
 clear hK1
 have p0 : w1.cell? ⟨w.heap.size, 0, none⟩ = some (.int .u32 q.a) := P1.cell 0
 have p1 : w1.cell? ⟨w.heap.size, 1, none⟩ = some (.int .i64 q.l) := P1.cell 1
 go_wp2_with fail
 refine (vbM tr q many t _ (HG.out.keep kw) (HT.out.blk.keep kw) (HT.out.tm.keep kw) HT.out.wf Hq.out).mono ?_
 rintro e w2 ⟨rfl, hK2⟩
 have k2 : Kp w w2 := kw.trans hK2
 have P2 := P1.keep hK2
 clear p0 p1
 have p0 : w2.cell? ⟨w.heap.size, 0, none⟩ = some (.int .u32 q.a) := P2.cell 0
 have p1 : w2.cell? ⟨w.heap.size, 1, none⟩ = some (.int .i64 q.l) := P2.cell 1
 have T2 := HT.out.keep k2
 have hc := vaM (q := q) (A := (tr, 0)) T2.tm (T2.blk.cell 0)
 have hs := vby (q := q) T2.tm
 have hx := fun b p v h x y => vkf (b := b) (p := p) (v := v) (h := h) (x := x) (y := y) Hq.out HT.out.wf Hno.out
 have Hx := Lib.hid hx; clear hx
 clear hK2
 obtain ⟨S, hS⟩ : ∃ S, t.look q = S := ⟨_, rfl⟩
 rw [hS] at hc hs
 have HS := Lib.hid hS; clear hS
 cases S with
 | nil =>
  have hc' : w2.cell? ⟨(Tr.place q (tr, 0) t).1, (Tr.place q (tr, 0) t).2, none⟩ = some (.pointer none) := hc
  clear hc hs
  go_wp2_with fail
  go_quiet (fail)
  go_wp2_with fail
  refine vak ?_
  exact bodyPost_ret (v := .tuple #[.int .i64 0, .bool false, .int .i64 0]) (by simp [results, Tryz.results201, go_sem]) rfl ⟨rfl, k2.drewN _⟩
 | node b p u h x y =>
  have hc' : w2.cell? ⟨(Tr.place q (tr, 0) t).1, (Tr.place q (tr, 0) t).2, none⟩ = some (.pointer (some ⟨b, 0, none⟩)) := hc
  obtain ⟨N, _, _⟩ := hs
  have n0 : w2.cell? ⟨b, 0, none⟩ = some (.int .u32 p.a) := N.cell 0
  have n1 : w2.cell? ⟨b, 1, none⟩ = some (.int .i64 p.l) := N.cell 1
  have n3 : w2.cell? ⟨b, 3, none⟩ = some (.bool h) := N.cell 3
  clear hc
  by_cases e : p = q
  ·have hf := Hx.out b p u h x y HS.out e
   subst e hf
   go_wp2_with fail
   go_quiet (fail)
   go_wp2_with fail
   refine vak ?_
   exact bodyPost_ret (v := .tuple #[.int .i64 0, .bool false, .int .i64 0]) (by simp [results, Tryz.results201, go_sem]) rfl ⟨rfl, k2.drewN _⟩
  ·have hne := fun w => vdk w e
   have He := Lib.hid e; clear e
   go_wp2_with fail
   go_quiet (fail)
   go_wp2_with fail
   refine vak ?_
   exact bodyPost_ret (v := .tuple #[.int .i64 0, .bool false, .int .i64 0]) (by simp [results, Tryz.results201, go_sem]) rfl ⟨rfl, k2.drewN _⟩
end

end Go.Proofs.YtgopnfacklmkaaaGreatDoor
