/- Lemmas and contracts for the theorem of this claim: FbH, FbI, AlL, FhL. -/
import Derived.Test.YtgopnfacklmkaaaGreatDoorZzAt
import Derived.Test.YtgopnfacklmkaaaGreatDoorZzBc
set_option linter.all false
set_option maxHeartbeats 16000000
namespace Go.Proofs.YtgopnfacklmkaaaGreatDoor
section
open Go.RowKit
attribute [local go_sem] Oper.semAt_some
def runL : List Rt → List Hp → List Hp
 | [], L => L
 | r :: rs, L => if comeE r L = 0 then runL rs (comeL r L) else L
def runN : List Rt → List Hp → Nat
 | [], _ => 0
 | r :: rs, L => if comeE r L = 0 then runN rs (comeL r L) + 1 else 0
def runE : List Rt → List Hp → Int
 | [], _ => 0
 | r :: rs, L => if comeE r L = 0 then runE rs (comeL r L) else comeE r L
theorem vmx {r : Rt} {L : List Hp} (h : comeE r L ≠ 0) : comeL r L = L := by
 unfold comeE at h
 unfold comeL
 by_cases h1 : checkR r = 0
 ·by_cases h2 : r.s = 1 ∨ r.s = 2
  ·rw [if_pos h1, if_pos h2] at h
   rw [if_pos h1, if_pos h2]
   unfold fputE at h
   unfold putL
   split at h
   ·exact absurd rfl h
   ·rename_i h3; rw [if_neg h3]
  ·rw [if_pos h1, if_neg h2] at h; exact absurd rfl h
 ·rw [if_neg h1]
def RunAt (rs : List Rt) (L : List Hp) (k : Nat) (Lk : List Hp) : Prop := runL rs L = runL (rs.drop k) Lk ∧ runN rs L = k + runN (rs.drop k) Lk ∧ runE rs L = runE (rs.drop k) Lk
theorem RunAt.start (rs : List Rt) (L : List Hp) : RunAt rs L 0 L := ⟨rfl, by simp, rfl⟩
theorem RunAt.step {rs : List Rt} {L Lk : List Hp} {k : Nat} (h : RunAt rs L k Lk) (hk : k < rs.length) (he : comeE rs[k] Lk = 0) : RunAt rs L (k + 1) (comeL rs[k] Lk) := by
 unfold RunAt at *
 rw [List.drop_eq_getElem_cons hk] at h
 simp only [runL, runN, runE, he, if_true] at h
 exact ⟨h.1, by omega, h.2.2⟩
theorem RunAt.stop {rs : List Rt} {L Lk : List Hp} {k : Nat} (h : RunAt rs L k Lk) (hk : k < rs.length) (he : comeE rs[k] Lk ≠ 0) : runL rs L = Lk ∧ runN rs L = k ∧ runE rs L = comeE rs[k] Lk := by
 unfold RunAt at *
 rw [List.drop_eq_getElem_cons hk] at h
 simp only [runL, runN, runE, he, if_false] at h
 exact ⟨h.1, by omega, h.2.2⟩
theorem RunAt.done {rs : List Rt} {L Lk : List Hp} (h : RunAt rs L rs.length Lk) : runL rs L = Lk ∧ runN rs L = rs.length ∧ runE rs L = 0 := by
 unfold RunAt at *
 rw [List.drop_length] at h
 exact ⟨h.1, by simpa [runN] using h.2.1, h.2.2⟩
theorem rt_at {w : World} {A : Option Addr} {rs : List Rt} (h : Rd w 9 Rt.enc A rs) {k : Nat} (hk : k < rs.length) :
  ∃ b off : Nat, A = some ⟨b, off, none⟩ ∧ w.cell? ⟨b, off + k * 9, none⟩ = some (.int .u32 rs[k].p.a) ∧ w.cell? ⟨b, off + k * 9 + 1, none⟩ = some (.int .i64 rs[k].p.l) ∧ w.cell? ⟨b, off + k * 9 + 2, none⟩ = some (.int .i64 rs[k].s) ∧ w.cell? ⟨b, off + k * 9 + 3, none⟩ = some (.int .i64 rs[k].m) ∧ w.cell? ⟨b, off + k * 9 + 4, none⟩ = some (.int .i64 rs[k].l) ∧ w.cell? ⟨b, off + k * 9 + 5, none⟩ = some (.int .i64 rs[k].f) ∧ w.cell? ⟨b, off + k * 9 + 6, none⟩ = some (.int .u32 rs[k].x) ∧ w.cell? ⟨b, off + k * 9 + 7, none⟩ = some (.int .i64 rs[k].d) ∧ w.cell? ⟨b, off + k * 9 + 8, none⟩ = some (.bool rs[k].c) := by
 obtain ⟨b, off, e, hc⟩ := h k hk
 exact ⟨b, off, e, hc 0 _ rfl, hc 1 _ rfl, hc 2 _ rfl, hc 3 _ rfl, hc 4 _ rfl, hc 5 _ rfl, hc 6 _ rfl, hc 7 _ rfl, hc 8 _ rfl⟩
theorem Rd.lt {α : Type} {w : World} {sz : Nat} {enc : α → List Value} {A : Option Addr} {xs : List α} (h : Rd w sz enc A xs) (hs : 0 < xs.length) (hz : ∀ x, enc x ≠ []) : ∀ a, A = some a → a.block < w.heap.size := by
 intro a ha
 obtain ⟨b, off, e, hc⟩ := h 0 hs
 rw [e] at ha
 injection ha with ha
 subst ha
 cases he : enc xs[0] with
 | nil => exact absurd he (hz _)
 | cons u us => have := hc 0 u (by rw [he]; rfl); simp only [Nat.zero_mul, Nat.add_zero] at this; exact World.block_lt_of_cell? w _ this
def Rt.fits (r : Rt) : Prop := r.p.a < 4294967296 ∧ r.x < 4294967296
def RunP (w : World) (f : Nat) (F : List Nat) (L : List Hp) (rs : List Rt) (e : Ending) (w' : World) : Prop := e = .returned (.tuple #[.int .i64 (runN rs L), .int .i64 (runE rs L)]) ∧ FT w w' f F (runL rs L)
def RunI (w : World) (f : Nat) (F : List Nat) (L : List Hp) (rs : List Rt) (k : Nat) (W : World) : Prop := ∃ Lk, RunAt rs L k Lk ∧ FT w W f F Lk
theorem vgC {w : World} (h : RelsAt w) : 3 < w.heap.size := World.block_lt_of_cell? w _ h.1
theorem FM.none {w : World} {f : Nat} {F : List Nat} {L : List Hp} (h : FM w f F L) : ∃ tr x, Blk w f 166 #[.pointer (some ⟨tr, 0, none⟩), x] := by
 obtain ⟨tr, t, A, c, H, _, m, _⟩ := h
 exact ⟨tr, _, m.blk⟩
set_option maxRecDepth 100000 in
theorem vdm (f : Nat) (F : List Nat) (L : List Hp) (rs : List Rt) (A : Option Addr) (c : Nat) (w : World) (hG : RelsAt w) (hGn : 3 ∉ F) (hM : FM w f F L) (hR : Rd w 9 Rt.enc A rs) (hA : 0 < rs.length → ∀ a, A = some a → a.block ∉ F) (hn : rs.length ≤ 1000000) (hfit : ∀ r ∈ rs, r.fits) :
  Calls Tryz.prog 26 #[.pointer (some ⟨f, 0, none⟩), .slice A rs.length c] w (RunP w f F L rs) := by
 obtain ⟨tr, x, hB⟩ := hM.none
 have HB := Lib.hid hB
 have HG := Lib.hid hG
 have HGn := Lib.hid hGn
 have HM := Lib.hid hM
 have HR := Lib.hid hR
 have HA := Lib.hid hA
 have Hfit := Lib.hid hfit
 clear hG hGn hM hR hA hfit hB
 go_enter Tryz.func26, Tryz.ntmps26
 go_wp2_with fail
 refine vac 0 rfl ?_
 go_wp2_with fail
 refine (vbq f tr x _ HB.out).mono ?_
 rintro e w' ⟨rfl, rfl⟩
 go_wp2_with fail
 go_loopw [14, 6, 7] (fun i n e wr => ∃ k : Nat, k ≤ rs.length ∧ i = .int .i64 k ∧ n = .int .i64 k ∧ (∃ z : Int, e = .int .i64 z) ∧ RunI w f F L rs k wr) (fun i _ _ _ => rs.length - (intOf i).toNat)
 case atStart => exact ⟨0, Nat.zero_le _, rfl, rfl, ⟨1, rfl⟩, L, RunAt.start rs L, FT.of_kp HM.out (Kp.refl _)⟩
 case round =>
  obtain ⟨k, hk, rfl, rfl, ⟨z, rfl⟩, Lk, hrun, F', hM', hO', hs'⟩ := hrel
  have Hrun := Lib.hid hrun
  have HM' := Lib.hid hM'
  have Hs' := Lib.hid hs'
  clear hrun hM' hs'
  by_cases hlt : k < rs.length
  ·have hrt := rt_at HR.out hlt
   obtain ⟨b, off, rfl, c0, c1, c2, c3, c4, c5, c6, c7, c8⟩ := hrt
   have hbF : b ∉ F := HA.out (by omega) _ rfl
   have x0 := hO'.cell c0 hbF
   have x1 := hO'.cell c1 hbF
   have x2 := hO'.cell c2 hbF
   have x3 := hO'.cell c3 hbF
   have x4 := hO'.cell c4 hbF
   have x5 := hO'.cell c5 hbF
   have x6 := hO'.cell c6 hbF
   have x7 := hO'.cell c7 hbF
   have x8 := hO'.cell c8 hbF
   clear c0 c1 c2 c3 c4 c5 c6 c7 c8
   have HbF := Lib.hid hbF; clear hbF
   obtain ⟨r, hr⟩ : ∃ r, rs[k] = r := ⟨_, rfl⟩
   rw [hr] at x0 x1 x2 x3 x4 x5 x6 x7 x8
   have Hr := Lib.hid hr; clear hr
   have hrf := Hfit.out r (by rw [← Hr.out]; exact List.getElem_mem _)
   have Hrf := Lib.hid hrf; clear hrf
   have hGn' : 3 ∉ F' := fun hc => by
    rcases Hs'.out _ hc with e | e
    ·exact HGn.out e
    ·have := vgC HG.out; omega
   have HGn' := Lib.hid hGn'; clear hGn'
   have HG' := Lib.hid (HG.out.only hO' HGn.out)
   have ha : ∀ o, Kp wr (wr.alloc o) := fun o => (Kp.refl _).alloc o
   go_wp2_with fail
   refine (vmw f F' Lk r _ (HG'.out.keep (ha _)) HGn'.out (HM'.out.keep (ha _)) Hrf.out.1 Hrf.out.2).mono ?_
   rintro e w2 ⟨rfl, hT⟩
   have hT2 : FT w w2 f F (comeL r Lk) := FT.trans hO' Hs'.out (hT.keep (ha _))
   have HT2 := Lib.hid hT2; clear hT2 hT
   by_cases he : comeE r Lk = 0
   ·have hrun2 := Hrun.out.step hlt (by rw [Hr.out]; exact he)
    rw [Hr.out] at hrun2
    have Hrun2 := Lib.hid hrun2; clear hrun2
    rw [he]
    have He := Lib.hid he; clear he
    go_wp2_with fail
    go_roundw
    case rel => exact ⟨k + 1, by omega, by go_num, by go_num, ⟨0, rfl⟩, _, Hrun2.out, HT2.out⟩
    case measure => simp [intOf]; omega
   ·obtain ⟨s1, s2, s3⟩ := Hrun.out.stop hlt (by rw [Hr.out]; exact he)
    rw [Hr.out] at s3
    have hcl := vmx he
    have Hcl := Lib.hid hcl; clear hcl
    have hne : (comeE r Lk != 0) = true := by simpa using he
    have hne2 : (comeE r Lk == 0) = false := by simpa using he
    have HS1 := Lib.hid s1
    have HS2 := Lib.hid s2
    have HS3 := Lib.hid s3
    clear s1 s2 s3 he
    obtain ⟨ee, hee⟩ : ∃ ee, comeE r Lk = ee := ⟨_, rfl⟩
    rw [hee] at hne hne2 ⊢
    have Hee := Lib.hid hee; clear hee
    go_wp2_with fail
    go_step3
    refine ⟨rfl, ?_⟩
    go_wp2_with fail
    refine vbl ?_
    refine bodyPost_ret (v := .tuple #[.int .i64 k, .int .i64 ee]) (by simp [results, Tryz.results26, go_sem]) rfl ⟨?_, ?_⟩
    ·rw [HS2.out, HS3.out, Hee.out]
    ·rw [HS1.out]
     have := HT2.out
     rw [Hcl.out] at this
     exact this
  ·have hke : k = rs.length := by omega
   subst hke
   obtain ⟨s1, s2, s3⟩ := Hrun.out.done
   have HS1 := Lib.hid s1
   have HS2 := Lib.hid s2
   have HS3 := Lib.hid s3
   clear s1 s2 s3
   go_wp2_with fail
   refine vak ?_
   refine bodyPost_ret (v := .tuple #[.int .i64 rs.length, .int .i64 0]) (by simp [results, Tryz.results26, go_sem]) rfl ⟨?_, ?_⟩
   ·rw [HS2.out, HS3.out]
   ·rw [HS1.out]; exact ⟨F', HM'.out, hO', Hs'.out⟩
attribute [local go_sem] Oper.semAt_some
def hop0 : Hp := ⟨⟨0, 0⟩, false, 0, 0, 0⟩
def findL (a : Nat) (L : List Hp) : List Hp := L.filter (fun e => decide (e.p.holds ⟨a, 32⟩))
def foundH (a : Nat) (L : List Hp) : Hp × Bool := match (findL a L).getLast? with
 | some h => (h, true)
 | none => (hop0, false)
theorem vmy {t : Tr} {H L : List Hp} {a : Nat} (ha : a < 4294967296) (h : FI t H) (u : Up L) (pm : H.Perm L) : (foundT (aboveT ⟨a, 32⟩ t) = ((⟨0, 0⟩, 0), false) ∧ foundH a L = (hop0, false)) ∨ ∃ (k : Nat) (hk : k < H.length), foundT (aboveT ⟨a, 32⟩ t) = ((H[k].p, (k : Int)), true) ∧ foundH a L = (H[k], true) := by
 have hq : (⟨a, 32⟩ : Pn).ok := ⟨ha, Nat.le_refl _, viL a⟩
 have hall := vdO hq h.wf
 have hin : ∀ e ∈ findL a L, ∃ i, (e.p, i) ∈ aboveT ⟨a, 32⟩ t := fun e he => by
  obtain ⟨h1, h2⟩ := List.mem_filter.1 he
  obtain ⟨k, hk, rfl⟩ := List.getElem_of_mem (pm.mem_iff.2 h1)
  exact ⟨k, by rw [hall, List.mem_filter]; exact ⟨(h.rows _ _).2 ⟨k, hk, rfl, rfl⟩, h2⟩⟩
 have hup : (aboveT ⟨a, 32⟩ t).Pairwise (fun r s => r.1.lt s.1) := by rw [hall]; exact List.Pairwise.filter _ (vah h.wf)
 have hfu : (findL a L).Pairwise (fun r s => r.p.lt s.p) := List.Pairwise.filter _ u
 rcases List.eq_nil_or_concat (aboveT ⟨a, 32⟩ t) with e | ⟨l', r, e⟩
 ·left
  have h0 : findL a L = [] := List.eq_nil_iff_forall_not_mem.2 (fun x hx => by
   obtain ⟨i, hi⟩ := hin x hx
   rw [e] at hi; cases hi)
  exact ⟨by rw [e]; rfl, by simp [foundH, h0]⟩
 ·right
  rw [List.concat_eq_append] at e
  have hr : r ∈ aboveT ⟨a, 32⟩ t := by rw [e]; simp
  rw [hall, List.mem_filter] at hr
  obtain ⟨k, hk, hi, hp⟩ := (h.rows r.1 r.2).1 hr.1
  refine ⟨k, hk, by rw [e]; simp [foundT]; exact Prod.ext hp.symm hi, ?_⟩
  have hmem : H[k] ∈ findL a L := List.mem_filter.2 ⟨pm.mem_iff.1 (List.getElem_mem hk), by rw [hp]; exact hr.2⟩
  rcases List.eq_nil_or_concat (findL a L) with e2 | ⟨f', z, e2⟩
  ·rw [e2] at hmem; cases hmem
  ·rw [List.concat_eq_append] at e2
   have hz : z = H[k] := by
    rw [e2] at hmem hfu
    rcases List.mem_append.1 hmem with h1 | h1
    ·have h2 : (H[k]).p.lt z.p := (List.pairwise_append.1 hfu).2.2 _ h1 z (by simp)
     obtain ⟨i, h3⟩ := hin z (by rw [e2]; simp)
     rw [e] at h3 hup
     rcases List.mem_append.1 h3 with h4 | h4
     ·have h5 : z.p.lt r.1 := (List.pairwise_append.1 hup).2.2 _ h4 r (by simp)
      rw [← hp] at h5
      exact absurd (vdc h2 h5) (lt_irrefl _)
     ·simp only [List.mem_singleton] at h4
      have h5 : z.p = r.1 := by rw [← h4]
      rw [h5, ← hp] at h2
      exact absurd h2 (lt_irrefl _)
    ·simp only [List.mem_singleton] at h1; exact h1.symm
   simp [foundH, e2, hz]
set_option maxRecDepth 100000 in
theorem vku (tr a : Nat) (many : Int) (t : Tr) (w : World) (hG : RelsAt w) (hT : TrieM w tr t many) (ha : a < 4294967296) :
  Calls Tryz.prog 89 #[.agg #[.pointer (some ⟨tr, 0, none⟩)], .int .u32 a] w fun e w' => e = .returned (.tuple #[.int .i64 (foundT (aboveT ⟨a, 32⟩ t)).1.2, .bool (foundT (aboveT ⟨a, 32⟩ t)).2]) ∧ Kp w w' := by
 have HT := Lib.hid hT
 have HG := Lib.hid hG
 clear hT hG
 obtain ⟨g, hg⟩ : ∃ g, foundT (aboveT ⟨a, 32⟩ t) = g := ⟨_, rfl⟩
 rw [hg]
 have Hg := Lib.hid hg; clear hg
 go_enter Tryz.func89, Tryz.ntmps89
 go_wp2_with fail
 have k1 : Kp w (w.alloc (.cells #[.pointer (some ⟨tr, 0, none⟩)] 163)) := (Kp.refl _).alloc _
 refine (vmo tr a many t _ (HG.out.keep k1) (HT.out.blk.keep k1) (HT.out.tm.keep k1) HT.out.wf ha).mono ?_
 rintro e w1 ⟨rfl, hK⟩
 rw [Hg.out]
 go_wp2_with fail
 go_ret2
 exact ⟨rfl, (k1.trans hK).alloc _⟩
theorem Blk.set6 {w : World} {g t : Nat} {cs : Array Value} (h : Blk w g t cs) (o : Nat) (y : Hp) {c0 c1 c2 c3 c4 c5 : Value} (hc : cs = #[c0, c1, c2, c3, c4, c5]) : Blk (set6 w g 0 y) g t #[.int .u32 y.p.a, .int .i64 y.p.l, .bool y.d, .int .i64 y.f, .int .u32 y.x, .int .i64 y.m] := by
 subst hc
 exact (((((h.set_ 0 (.int .u32 y.p.a)).set_ 1 (.int .i64 y.p.l)).set_ 2 (.bool y.d)).set_ 3 (.int .i64 y.f)).set_ 4 (.int .u32 y.x)).set_ 5 (.int .i64 y.m)
theorem Kp.set6 {w w1 : World} (k : Kp w w1) (o : Nat) (y : Hp) : Kp w (set6 w1 w.heap.size o y) := (((((k.setCell (Nat.le_refl _) _).setCell (Nat.le_refl _) _).setCell (Nat.le_refl _) _).setCell (Nat.le_refl _) _).setCell (Nat.le_refl _) _).setCell (Nat.le_refl _) _
def hopV (h : Hp) : Value := .agg #[.int .u32 h.p.a, .int .i64 h.p.l, .bool h.d, .int .i64 h.f, .int .u32 h.x, .int .i64 h.m]
def FindP (w : World) (r : Hp × Bool) (e : Ending) (w' : World) : Prop := e = .returned (.tuple #[hopV r.1, .bool r.2]) ∧ Kp w w'
set_option maxRecDepth 100000 in
theorem vbN (f : Nat) (F : List Nat) (L : List Hp) (a : Nat) (w : World) (hG : RelsAt w) (hM : FM w f F L) (ha : a < 4294967296) :
  Calls Tryz.prog 33 #[.pointer (some ⟨f, 0, none⟩), .int .u32 a] w (FindP w (foundH a L)) := by
 obtain ⟨tr, t, A, c, H, rfl, m, u, pm⟩ := hM
 have hcase := vmy ha m.fi u pm
 have hroom := m.room
 obtain ⟨W, hW, kW, B0⟩ : ∃ W, w.alloc (.cells #[.int .u32 0, .int .i64 0, .bool false, .int .i64 0, .int .u32 0, .int .i64 0] 89) = W ∧ Kp w W ∧ Blk W w.heap.size 89 #[.int .u32 0, .int .i64 0, .bool false, .int .i64 0, .int .u32 0, .int .i64 0] := ⟨_, rfl, (Kp.refl _).alloc _, Blk.new w _ _⟩
 have HM := Lib.hid (m.keep kW)
 have HG := Lib.hid (hG.keep kW)
 have Hcase := Lib.hid hcase
 clear m hG hcase
 go_enter Tryz.func33, Tryz.ntmps33
 go_wp2_with fail
 refine (vbq f tr _ _ HM.out.blk).mono ?_
 rintro e w' ⟨rfl, rfl⟩
 have f0 : W.cell? ⟨f, 0, none⟩ = some (.pointer (some ⟨tr, 0, none⟩)) := HM.out.blk.cell 0
 go_wp2_with fail
 refine (vku tr a _ t _ HG.out HM.out.trie ha).mono ?_
 rintro e w1 ⟨rfl, hK1⟩
 have B1 := B0.keep hK1
 have M1 := HM.out.keep hK1
 have k1 := kW.trans hK1
 have r0 : w1.cell? ⟨w.heap.size, 0, none⟩ = some (.int .u32 0) := B1.cell 0
 have r1 : w1.cell? ⟨w.heap.size, 1, none⟩ = some (.int .i64 0) := B1.cell 1
 have r2 : w1.cell? ⟨w.heap.size, 2, none⟩ = some (.bool false) := B1.cell 2
 have r3 : w1.cell? ⟨w.heap.size, 3, none⟩ = some (.int .i64 0) := B1.cell 3
 have r4 : w1.cell? ⟨w.heap.size, 4, none⟩ = some (.int .u32 0) := B1.cell 4
 have r5 : w1.cell? ⟨w.heap.size, 5, none⟩ = some (.int .i64 0) := B1.cell 5
 have z0 := B1.frozen 0
 have z1 := B1.frozen 1
 have z2 := B1.frozen 2
 have z3 := B1.frozen 3
 have z4 := B1.frozen 4
 have z5 := B1.frozen 5
 clear f0 hW
 rcases Hcase.out with ⟨h1, h2⟩ | ⟨k, hk, h1, h2⟩
 ·rw [h1]
  have H2 := Lib.hid h2
  clear h1 h2
  go_wp2_with fail
  change bodyPost _ _ _ _ _ (set6 w1 w.heap.size 0 hop0)
  have R := B1.set6 0 hop0 rfl
  have kz : Kp w (set6 w1 w.heap.size 0 hop0) := k1.set6 _ _
  generalize set6 w1 w.heap.size 0 hop0 = Z at R kz ⊢
  have c0 : Z.cell? ⟨w.heap.size, 0, none⟩ = some (.int .u32 (hop0).p.a) := R.cell 0
  have c1 : Z.cell? ⟨w.heap.size, 1, none⟩ = some (.int .i64 (hop0).p.l) := R.cell 1
  have c2 : Z.cell? ⟨w.heap.size, 2, none⟩ = some (.bool (hop0).d) := R.cell 2
  have c3 : Z.cell? ⟨w.heap.size, 3, none⟩ = some (.int .i64 (hop0).f) := R.cell 3
  have c4 : Z.cell? ⟨w.heap.size, 4, none⟩ = some (.int .u32 (hop0).x) := R.cell 4
  have c5 : Z.cell? ⟨w.heap.size, 5, none⟩ = some (.int .i64 (hop0).m) := R.cell 5
  exact bodyPost_ret (v := .tuple #[hopV hop0, .bool false]) (by simp [results, Tryz.results33, go_sem, c0, c1, c2, c3, c4, c5, hopV]) rfl ⟨by rw [H2.out], kz⟩
 ·rw [h1]
  have H2 := Lib.hid h2
  clear h1 h2
  obtain ⟨y, hy⟩ : ∃ y, H[k] = y := ⟨_, rfl⟩
  obtain ⟨b, off, rfl, g0, g1, g2, g3, g4, g5⟩ := vda (M1.own.rdAt (by decide) Hp.len) hk
  have f1 : w1.cell? ⟨f, 1, none⟩ = some (.slice (some ⟨b, off, none⟩) H.length c) := M1.blk.cell 1
  rw [hy] at g0 g1 g2 g3 g4 g5
  have Hy := Lib.hid hy; clear hy
  have HM1 := Lib.hid M1
  clear M1
  go_wp2_with fail
  change bodyPost _ _ _ _ _ (set6 w1 w.heap.size 0 y)
  have R := B1.set6 0 y rfl
  have kz : Kp w (set6 w1 w.heap.size 0 y) := k1.set6 _ _
  generalize set6 w1 w.heap.size 0 y = Z at R kz ⊢
  have c0 : Z.cell? ⟨w.heap.size, 0, none⟩ = some (.int .u32 (y).p.a) := R.cell 0
  have c1 : Z.cell? ⟨w.heap.size, 1, none⟩ = some (.int .i64 (y).p.l) := R.cell 1
  have c2 : Z.cell? ⟨w.heap.size, 2, none⟩ = some (.bool (y).d) := R.cell 2
  have c3 : Z.cell? ⟨w.heap.size, 3, none⟩ = some (.int .i64 (y).f) := R.cell 3
  have c4 : Z.cell? ⟨w.heap.size, 4, none⟩ = some (.int .u32 (y).x) := R.cell 4
  have c5 : Z.cell? ⟨w.heap.size, 5, none⟩ = some (.int .i64 (y).m) := R.cell 5
  exact bodyPost_ret (v := .tuple #[hopV y, .bool true]) (by simp [results, Tryz.results33, go_sem, c0, c1, c2, c3, c4, c5, hopV]) rfl ⟨by rw [H2.out, Hy.out], kz⟩
end

section
theorem vgD {t : Tr} {H L : List Hp} (h : FI t H) (u : Up L) (pm : H.Perm L) : t.rows.map (fun r => H.getD r.2.toNat hop0) = L := by
 have key : ∀ r ∈ t.rows, (H.getD r.2.toNat hop0) ∈ H ∧ (H.getD r.2.toNat hop0).p = r.1 := fun r hr => by
  obtain ⟨k, hk, hi, hp⟩ := (h.rows r.1 r.2).1 hr
  rw [hi, Int.toNat_natCast]
  have : H.getD k hop0 = H[k] := by simp [List.getD, hk]
  rw [this]
  exact ⟨List.getElem_mem hk, hp⟩
 refine vfQ ?_ u (fun e => ?_)
 ·unfold Up
  rw [List.pairwise_map]
  refine List.Pairwise.imp_of_mem ?_ (vah h.wf)
  intro r s hr hs hlt
  rw [(key r hr).2, (key s hs).2]
  exact hlt
 ·rw [List.mem_map, ← pm.mem_iff]
  constructor
  ·rintro ⟨r, hr, rfl⟩
   exact (key r hr).1
  ·intro he
   obtain ⟨k, hk, rfl⟩ := List.getElem_of_mem he
   refine ⟨(H[k].p, (k : Int)), (h.rows _ _).2 ⟨k, hk, rfl, rfl⟩, ?_⟩
   simp [List.getD, hk]
theorem vkv {t : Tr} {H : List Hp} (h : FI t H) {r : Pn × Int} (hr : r ∈ t.rows) : 0 ≤ r.2 ∧ r.2.toNat < H.length := by
 obtain ⟨k, hk, hi, _⟩ := (h.rows r.1 r.2).1 hr
 rw [hi]; simp; omega
theorem voM {p q : Pn} {a : Nat} (hp : p.ok) (hq : q.ok) (h1 : p.holds ⟨a, 32⟩) (h2 : q.holds ⟨a, 32⟩) (h : p.lt q) : p.l < q.l := by
 rcases Nat.lt_or_ge p.l q.l with hl | hl
 ·exact hl
 ·have := ven h2 h1 hl hp.2.1
  rcases Nat.lt_or_ge q.l p.l with h3 | h3
  ·exact absurd (vdc h (vbC this h3)) (lt_irrefl _)
  ·have e := vbe this (by omega) hp
   rw [e] at h; exact absurd h (lt_irrefl _)
def findStep (a : Nat) (s : Hp × Bool) (e : Hp) : Hp × Bool := if e.p.holds ⟨a, 32⟩ ∧ (s.2 = false ∨ s.1.p.l < e.p.l) then (e, true) else s
theorem vdb {a : Nat} : ∀ (l m : List Hp), Up (m ++ l) → (∀ h ∈ m ++ l, h.p.ok) → l.foldl (findStep a) (foundH a m) = foundH a (m ++ l)
 | [], m, _, _ => by simp
 | e :: l, m, hu, ho => by
  have e1 : m ++ e :: l = (m ++ [e]) ++ l := by simp
  rw [e1] at hu ho ⊢
  rw [List.foldl_cons, ← vdb l (m ++ [e]) hu ho]
  congr 1
  have hu' : Up (m ++ [e]) := (List.pairwise_append.1 hu).1
  unfold findStep
  by_cases hh : e.p.holds ⟨a, 32⟩
  ·have h2 : findL a (m ++ [e]) = findL a m ++ [e] := by simp [findL, hh]
   have h3 : foundH a (m ++ [e]) = (e, true) := by unfold foundH; rw [h2]; simp
   rw [h3]
   rcases List.eq_nil_or_concat (findL a m) with e2 | ⟨f', z, e2⟩
   ·have h4 : foundH a m = (hop0, false) := by unfold foundH; rw [e2]; simp
    rw [h4]; simp [hh]
   ·rw [List.concat_eq_append] at e2
    have h4 : foundH a m = (z, true) := by unfold foundH; rw [e2]; simp
    rw [h4]
    have hz : z ∈ findL a m := by rw [e2]; simp
    obtain ⟨hz1, hz2⟩ := List.mem_filter.1 hz
    have hlt : z.p.lt e.p := (List.pairwise_append.1 hu').2.2 z hz1 e (by simp)
    have hl := voM (ho z (by simp [hz1])) (ho e (by simp)) (of_decide_eq_true hz2) hh hlt
    simp [hh, hl]
  ·have h2 : findL a (m ++ [e]) = findL a m := by simp [findL, hh]
   have h3 : foundH a (m ++ [e]) = foundH a m := by unfold foundH; rw [h2]
   rw [h3]; simp [hh]
theorem vkw (a : Nat) : foundH a [] = (hop0, false) := by simp [foundH, findL]
theorem vkx {r : Rt} {L : List Hp} (u : Up L) : Up (comeL r L) := by
 unfold comeL putL
 split
 ·split
  ·split
   ·exact vex u
   ·exact u
  ·exact vhn u
 ·exact u
end

section
open Go.RowKit
def stood (r : Rt) : Bool := decide (r.s = 1 ∨ r.s = 2)
def hopL (l : List Rt) : List Hp := (l.filter stood).map Rt.hop
theorem vbZ {l : List Rt} {h : Hp} : h ∈ hopL l ↔ ∃ r ∈ l, (r.s = 1 ∨ r.s = 2) ∧ r.hop = h := by
 unfold hopL
 rw [List.mem_map]
 constructor
 ·rintro ⟨r, hr, e⟩
  obtain ⟨h1, h2⟩ := List.mem_filter.1 hr
  exact ⟨r, h1, of_decide_eq_true h2, e⟩
 ·rintro ⟨r, h1, h2, e⟩
  exact ⟨r, List.mem_filter.2 ⟨h1, decide_eq_true h2⟩, e⟩
theorem okR_p {r : Rt} (h : okR r = true) : 0 ≤ r.p.l := by
 have h1 := (vaq r).1 h
 have h2 := h1.1
 unfold toldB at h2
 rw [Bool.and_eq_true] at h2
 exact (of_decide_eq_true h2.1).1
theorem vky {r s : Rt} (hr : okR r = true) (hs : okR s = true) (h : r.p.pn = s.p.pn) : r.p = s.p := by
 have h1 := okR_p hr
 have h2 := okR_p hs
 have e1 : r.p.a = s.p.a := congrArg Pn.a h
 have e2 : r.p.l.toNat = s.p.l.toNat := congrArg Pn.l h
 exact PI.ext' e1 (by omega)
theorem vkz {l : List Rt} (u : UpR l) (ho : ∀ r ∈ l, okR r = true) : Up (hopL l) := by
 unfold hopL Up
 rw [List.pairwise_map]
 refine List.Pairwise.imp_of_mem ?_ (u.filter stood)
 intro x y hx hy h
 have h1 := okR_p (ho x (List.mem_filter.1 hx).1)
 have h2 := okR_p (ho y (List.mem_filter.1 hy).1)
 show x.p.a < y.p.a ∨ (x.p.a = y.p.a ∧ x.p.l.toNat < y.p.l.toNat)
 unfold ltP at h
 omega
theorem vkA (h : Hp) : ∀ l : List Hp, (insH h l).length ≤ l.length + 1
 | [] => by simp [insH]
 | e :: l => by
  unfold insH
  split
  ·have := vkA h l
   simp only [List.length_cons]
   omega
  ·have : (delH h.p (e :: l)).length ≤ (e :: l).length := List.length_filter_le _ _
   simp only [List.length_cons] at this ⊢
   omega
theorem vff {r : Rt} {X : List Hp} (hr : okR r = true) (u : Up X) (hn : X.length < 512) :
  comeE r X = 0 ∧ (comeL r X).length ≤ X.length + 1 ∧ ∀ h, h ∈ comeL r X ↔ ((r.s = 1 ∨ r.s = 2) ∧ r.hop = h) ∨ (h ∈ X ∧ h.p ≠ r.p.pn) := by
 have hc : checkR r = 0 := by rw [vdC, hr]; rfl
 have hb : (hasP r.hop.p X || decide (X.length < 512)) = true := by rw [decide_eq_true hn, Bool.or_true]
 have hp : r.hop.p = r.p.pn := rfl
 unfold comeE comeL fputE putL
 rw [if_pos hc, if_pos hc, hb]
 by_cases hs : r.s = 1 ∨ r.s = 2
 ·rw [if_pos hs, if_pos hs]
  refine ⟨rfl, vkA _ _, fun h => ?_⟩
  simp only [if_true]
  rw [vdT u, hp]
  constructor
  ·rintro (rfl | h1)
   ·exact .inl ⟨hs, rfl⟩
   ·exact .inr ⟨h1.2, h1.1⟩
  ·rintro (h1 | h1)
   ·exact .inl h1.2.symm
   ·exact .inr ⟨h1.2, h1.1⟩
 ·rw [if_neg hs, if_neg hs]
  refine ⟨rfl, Nat.le_succ_of_le (List.length_filter_le _ _), fun h => ?_⟩
  rw [vfe]
  constructor
  ·exact fun h1 => .inr ⟨h1.2, h1.1⟩
  ·rintro (h1 | h1)
   ·exact absurd h1.1 hs
   ·exact ⟨h1.2, h1.1⟩
def runF (rs : List Rt) (X : List Hp) : List Hp := rs.foldl (fun L r => comeL r L) X
theorem vfg : ∀ (rs : List Rt) (X : List Hp), (∀ r ∈ rs, okR r = true) → Up X → X.length + rs.length ≤ 512 → UpR rs →
  Up (runF rs X) ∧ runL rs X = runF rs X ∧ (runF rs X).length ≤ X.length + rs.length ∧ ∀ h, h ∈ runF rs X ↔ (∃ r ∈ rs, (r.s = 1 ∨ r.s = 2) ∧ r.hop = h) ∨ (h ∈ X ∧ ∀ r ∈ rs, h.p ≠ r.p.pn)
 | [], X, _, u, _, _ => ⟨u, rfl, Nat.le_refl _, fun h => by simp [runF]⟩
 | r :: rs, X, ho, u, hn, up => by
  rw [List.length_cons] at hn
  obtain ⟨c1, c2, c3⟩ := vff (ho r List.mem_cons_self) u (by omega)
  have up' := List.pairwise_cons.1 up
  obtain ⟨i1, i2, i3, i4⟩ := vfg rs (comeL r X) (fun x hx => ho x (List.mem_cons_of_mem _ hx)) (vkx u) (by omega) up'.2
  refine ⟨i1, ?_, ?_, fun h => ?_⟩
  ·show (if comeE r X = 0 then runL rs (comeL r X) else X) = runF rs (comeL r X)
   rw [if_pos c1, i2]
  ·rw [List.length_cons]
   show (runF rs (comeL r X)).length ≤ _
   omega
  ·show h ∈ runF rs (comeL r X) ↔ _
   rw [i4, c3]
   constructor
   ·rintro (⟨x, hx, h1, h2⟩ | ⟨⟨h1, h2⟩ | ⟨h1, h2⟩, h3⟩)
    ·exact .inl ⟨x, List.mem_cons_of_mem _ hx, h1, h2⟩
    ·exact .inl ⟨r, List.mem_cons_self, h1, h2⟩
    ·refine .inr ⟨h1, fun x hx => ?_⟩
     rcases List.mem_cons.1 hx with rfl | hx
     ·exact h2
     ·exact h3 x hx
   ·rintro (⟨x, hx, h1, h2⟩ | ⟨h1, h2⟩)
    ·rcases List.mem_cons.1 hx with rfl | hx
     ·refine .inr ⟨.inl ⟨h1, h2⟩, fun y hy e => ?_⟩
      subst h2
      exact vbB (up'.1 y hy) (vky (ho _ List.mem_cons_self) (ho y (List.mem_cons_of_mem _ hy)) e)
     ·exact .inl ⟨x, hx, h1, h2⟩
    ·exact .inr ⟨.inr ⟨h1, h2 r List.mem_cons_self⟩, fun x hx => h2 x (List.mem_cons_of_mem _ hx)⟩
theorem vkB (rs : List Rt) (r : Rt) (X : List Hp) : runF (rs ++ [r]) X = comeL r (runF rs X) := by simp [runF]
theorem vkC (l : List Rt) : (hopL l).length ≤ l.length := by
 unfold hopL
 rw [List.length_map]
 exact List.length_filter_le _ _
theorem TbOk.len {T : Tb} (h : TbOk T) : T.l.length ≤ 256 := by
 have h1 := h.n
 have h2 := (vaO h.c).2.1
 omega
theorem TbOk.hops {T : Tb} (h : TbOk T) : Up (hopL T.l) := vkz h.u (fun r hr => (h.r r hr).1)
theorem voN {T : Tb} (h : TbOk T) : runF T.l [] = hopL T.l := by
 obtain ⟨i1, -, -, i4⟩ := vfg T.l [] (fun r hr => (h.r r hr).1) List.Pairwise.nil (by have := h.len; simp; omega) h.u
 exact vfQ i1 h.hops (fun x => by rw [i4, vbZ]; simp)
theorem vmz {T : Tb} (h : TbOk T) {k : Nat} (hk : k < T.l.length) : comeE T.l[k] (runF (T.l.take k) []) = 0 ∧ runF (T.l.take (k + 1)) [] = comeL T.l[k] (runF (T.l.take k) []) := by
 have hl := h.len
 obtain ⟨i1, -, i3, -⟩ := vfg (T.l.take k) [] (fun r hr => (h.r r (List.mem_of_mem_take hr)).1) List.Pairwise.nil (by simp; omega) (List.Pairwise.sublist (List.take_sublist _ _) h.u)
 refine ⟨(vff (h.r _ (List.getElem_mem hk)).1 i1 (by simp at i3; omega)).1, ?_⟩
 rw [List.take_succ_eq_append_getElem hk, vkB]
theorem vkD {T : Tb} (h : TbOk T) (p : PI) (k : Hd) (now : Int) : ((heardT T p k now).2.2 ≠ 0 → (heardT T p k now).1.l = T.l) ∧ ((heardT T p k now).2.2 = 0 → comeE (heardT T p k now).2.1 (hopL T.l) = 0 ∧ comeL (heardT T p k now).2.1 (hopL T.l) = hopL (heardT T p k now).1.l) := by
 have hT := vhb h p k now
 unfold heardT at hT ⊢
 split
 ·next e1 =>
  rw [if_pos e1] at hT
  rw [Bool.and_eq_true] at e1
  split
  ·next e2 =>
   rw [if_pos e2] at hT
   rw [vaX] at e2
   obtain ⟨w1, w2⟩ := vcx h e1.1
   have hr := vcN h.c w1 e1.2 (now := now) (by rw [okNow, vaa]; omega)
   obtain ⟨r, hrr⟩ : ∃ r, hearR T.c (wasR p T.l) k now = r := ⟨_, rfl⟩
   rw [hrr] at hr hT ⊢
   split
   ·exact ⟨fun _ => rfl, fun e => absurd e (show ¬ (200 : Int) = 0 by decide)⟩
   ·next e3 =>
    rw [if_neg e3] at hT
    refine ⟨fun e => absurd rfl e, fun _ => ?_⟩
    have hl := h.len
    have hl2 := vkC T.l
    obtain ⟨c1, _, c3⟩ := vff hr h.hops (by omega)
    refine ⟨c1, vfQ (vkx h.hops) hT.hops (fun x => ?_)⟩
    show x ∈ comeL r (hopL T.l) ↔ x ∈ hopL (setR r T.l)
    rw [c3, vbZ, vbZ]
    constructor
    ·rintro (⟨h1, h2⟩ | ⟨⟨y, hy, h1, h2⟩, h3⟩)
     ·exact ⟨r, vao.2 (.inl ⟨rfl, by omega⟩), h1, h2⟩
     ·refine ⟨y, vao.2 (.inr ⟨hy, fun e => h3 ?_⟩), h1, h2⟩
      rw [← h2, ← e]
      rfl
    ·rintro ⟨y, hy, h1, h2⟩
     rcases vao.1 hy with ⟨rfl, _⟩ | ⟨hy, hne⟩
     ·exact .inl ⟨h1, h2⟩
     ·refine .inr ⟨⟨y, hy, h1, h2⟩, fun e => hne (vky (h.r y hy).1 hr ?_)⟩
      rw [← e, ← h2]
      rfl
  ·exact ⟨fun _ => rfl, fun e => absurd e (show ¬ (170 : Int) = 0 by decide)⟩
 ·exact ⟨fun _ => rfl, fun e => absurd e (show ¬ (2 : Int) = 0 by decide)⟩
structure ExJ (L M : List Rt) (now : Int) : Prop where
 u : UpR M
 a : ∀ r ∈ L, (r.s = 1 ∨ r.s = 2) → r ∈ M ∨ ∃ x ∈ M, x.p = r.p ∧ x.c = true ∧ (x.s = 3 ∨ (x.s = 4 ∧ now < x.d))
 b : ∀ x ∈ M, (x.s = 1 ∨ x.s = 2) → x ∈ L
theorem ExJ.step {c : Cf} {L M : List Rt} {now : Int} (h : ExJ L M now) (hc : 1 ≤ c.t4) {x : Rt} (hx : x ∈ M) (h2 : 2 ≤ x.s) (hd : ¬ now < x.d) : ExJ L (setR (expR c x now) M) now := by
 have hp := exp_p c x now
 have he : (x.s = 2 ∧ expR c x now = lostR c x now) ∨ (x.s = 3 ∧ expR c x now = ⟨x.p, 4, x.m, 0, x.f, x.x, now + c.t4, x.c⟩) ∨ (¬ x.s = 2 ∧ ¬ x.s = 3 ∧ expR c x now = noR x.p) := by
  unfold expR
  rw [if_neg (by omega)]
  by_cases h3 : x.s = 2
  ·exact .inl ⟨h3, by rw [if_pos h3]⟩
  ·by_cases h4 : x.s = 3
   ·exact .inr (.inl ⟨h4, by rw [if_neg h3, if_pos h4]⟩)
   ·exact .inr (.inr ⟨h3, h4, by rw [if_neg h3, if_neg h4]⟩)
 refine ⟨vbw _ h.u, fun r hr hs => ?_, fun y hy hs => ?_⟩
 ·rcases h.a r hr hs with hm | ⟨y, hy, e1, e2, e3⟩
  ·by_cases e : r.p = x.p
   ·obtain rfl := h.u.inj hm hx e
    rcases he with ⟨_, e2⟩ | ⟨e2, _⟩ | ⟨e2, e3, _⟩
    ·refine .inr ⟨expR c r now, vao.2 (.inl ⟨rfl, by rw [e2]; exact (by decide : (3 : Int) ≠ 0)⟩), hp, by rw [e2]; rfl, .inl (by rw [e2]; rfl)⟩
    ·omega
    ·omega
   ·exact .inl (vao.2 (.inr ⟨hm, by rw [hp]; exact e⟩))
  ·by_cases e : y.p = x.p
   ·obtain rfl := h.u.inj hy hx e
    rcases he with ⟨e4, _⟩ | ⟨e4, e5⟩ | ⟨e4, e5, _⟩
    ·omega
    ·exact .inr ⟨expR c y now, vao.2 (.inl ⟨rfl, by rw [e5]; exact (by decide : (4 : Int) ≠ 0)⟩), by rw [hp]; exact e1, by rw [e5]; exact e2, .inr (by rw [e5]; exact ⟨rfl, by show now < now + c.t4; omega⟩)⟩
    ·omega
   ·exact .inr ⟨y, vao.2 (.inr ⟨hy, by rw [hp]; exact e⟩), e1, e2, e3⟩
 ·rcases vao.1 hy with ⟨rfl, h0⟩ | ⟨hy, _⟩
  ·rcases he with ⟨_, e⟩ | ⟨_, e⟩ | ⟨_, _, e⟩
   all_goals rw [e] at hs
   ·exact absurd hs (by show ¬ ((3 : Int) = 1 ∨ (3 : Int) = 2); decide)
   ·exact absurd hs (by show ¬ ((4 : Int) = 1 ∨ (4 : Int) = 2); decide)
   ·exact absurd hs (by show ¬ ((0 : Int) = 1 ∨ (0 : Int) = 2); decide)
  ·exact h.b y hy hs
theorem ExJ.all {c : Cf} {L : List Rt} {now : Int} (hc : 1 ≤ c.t4) : ∀ (k : Nat) (M : List Rt), ExJ L M now → ExJ L (expG c now k M).1 now
 | 0, M, h => h
 | k + 1, M, h => by
  unfold expG
  split
  ·exact h
  ·next r e =>
   split
   ·exact h
   ·next hd =>
    obtain ⟨h1, h2, _⟩ := (vba h.u).2 r e
    exact ExJ.all hc k _ (h.step hc h1 h2 hd)
theorem ExJ.news {L M : List Rt} {now : Int} (h : ExJ L M now) (hL : ∀ r ∈ L, okR r = true) (u : UpR L) (hM : ∀ r ∈ M, okR r = true) (n1 : L.length ≤ 256) (n2 : M.length ≤ 256) : runL (newsL M) (hopL L) = hopL M := by
 have hl := vkC L
 have hf : (newsL M).length ≤ M.length := List.length_filter_le _ _
 obtain ⟨i1, i2, -, i4⟩ := vfg (newsL M) (hopL L) (fun r hr => hM r (List.mem_filter.1 hr).1) (vkz u hL) (by omega) (h.u.filter _)
 rw [i2]
 refine vfQ i1 (vkz h.u hM) (fun y => ?_)
 rw [i4, vbZ, vbZ]
 constructor
 ·rintro (⟨x, hx, h1, h2⟩ | ⟨⟨x, hx, h1, h2⟩, h3⟩)
  ·exact ⟨x, (List.mem_filter.1 hx).1, h1, h2⟩
  ·rcases h.a x hx h1 with hm | ⟨z, hz, e1, e2, _⟩
   ·exact ⟨x, hm, h1, h2⟩
   ·refine absurd ?_ (h3 z (List.mem_filter.2 ⟨hz, e2⟩))
    rw [← h2, e1]
    rfl
 ·rintro ⟨x, hx, h1, h2⟩
  by_cases hc : x.c = true
  ·exact .inl ⟨x, List.mem_filter.2 ⟨hx, hc⟩, h1, h2⟩
  ·refine .inr ⟨⟨x, h.b x hx h1, h1, h2⟩, fun z hz e => ?_⟩
   obtain ⟨z1, z2⟩ := List.mem_filter.1 hz
   have e3 : x.p = z.p := vky (hM x hx) (hM z z1) (by rw [← e, ← h2]; rfl)
   have e4 := h.u.inj hx z1 e3
   rw [e4] at hc
   exact hc z2
theorem vok {T : Tb} (h : TbOk T) (now : Int) : runL (newsL (expT T now).1.l) (hopL T.l) = hopL (expT T now).1.l := by
 have hT := vnc h now
 have h4 : 1 ≤ T.c.t4 := (vbJ h.c 4 (by decide)).1
 have hJ : ExJ T.l (expT T now).1.l now := by
  have h0 : ExJ T.l T.l now := ⟨h.u, fun r hr _ => .inl hr, fun x hx _ => hx⟩
  unfold expT
  split
  ·exact ExJ.all h4 1000 T.l h0
  ·exact h0
 exact hJ.news (fun r hr => (h.r r hr).1) h.u (fun r hr => (hT.r r hr).1) h.len hT.len
theorem vmA (T : Tb) : hopL (seenT T).1.l = hopL T.l := by
 show hopL (T.l.map seenR) = hopL T.l
 unfold hopL
 rw [List.filter_map, List.map_map]
 rfl
theorem vol {c : Cf} (h : okCf c = true) : (hopL (newT c).l).length = c.own.length := by
 obtain ⟨-, h2, -⟩ := vaY c.own [] List.Pairwise.nil
 have e := vhV (OwnT.new c) (vjt h)
 have ha : ∀ x ∈ (newT c).l, x.s = 1 := fun x hx => by
  rcases (h2 x).1 hx with ⟨p, hp, rfl⟩ | ⟨hx, _⟩
  ·rfl
  ·simp at hx
 rw [show (newT c).c.own.length = c.own.length from rfl] at e
 rw [← e]
 unfold hopL directN
 rw [List.length_map]
 congr 1
 apply List.filter_congr
 intro x hx
 unfold stood
 rw [ha x hx]
 rfl
def lookStep (a : Nat) (s : Rt × Bool) (r : Rt) : Rt × Bool := if (r.s = 1 ∨ r.s = 2) ∧ r.p.pn.holds ⟨a, 32⟩ ∧ (s.2 = false ∨ s.1.p.l < r.p.l) then (r, true) else s
theorem vdV (a : Nat) : ∀ (l : List Rt) (s : Rt × Bool), (∀ r ∈ l, okR r = true) → 0 ≤ s.1.p.l →
  ((l.foldl (lookStep a) s).1.hop, (l.foldl (lookStep a) s).2) = (hopL l).foldl (findStep a) (s.1.hop, s.2)
 | [], s, _, _ => rfl
 | r :: l, s, ho, hs => by
  have hr := okR_p (ho r List.mem_cons_self)
  rw [List.foldl_cons]
  by_cases h1 : r.s = 1 ∨ r.s = 2
  ·have e : hopL (r :: l) = r.hop :: hopL l := by
    unfold hopL
    rw [List.filter_cons, if_pos (show stood r = true from decide_eq_true h1)]
    rfl
   have e2 : findStep a (s.1.hop, s.2) r.hop = ((lookStep a s r).1.hop, (lookStep a s r).2) := by
    unfold findStep lookStep
    have hl : s.1.hop.p.l < r.hop.p.l ↔ s.1.p.l < r.p.l := by
     show s.1.p.l.toNat < r.p.l.toNat ↔ _
     omega
    by_cases h2 : r.p.pn.holds ⟨a, 32⟩ ∧ (s.2 = false ∨ s.1.p.l < r.p.l)
    ·rw [if_pos ⟨h2.1, h2.2.imp id hl.2⟩, if_pos ⟨h1, h2⟩]
    ·rw [if_neg (fun z => h2 ⟨z.1, z.2.imp id hl.1⟩), if_neg (fun z => h2 z.2)]
   rw [e, List.foldl_cons, e2]
   refine vdV a l _ (fun x hx => ho x (List.mem_cons_of_mem _ hx)) ?_
   unfold lookStep
   split
   ·exact hr
   ·exact hs
  ·have e : hopL (r :: l) = hopL l := by
    unfold hopL
    rw [List.filter_cons, if_neg (show ¬ stood r = true from fun z => h1 (of_decide_eq_true z))]
   have e2 : lookStep a s r = s := by unfold lookStep; rw [if_neg (fun z => h1 z.1)]
   rw [e, e2]
   exact vdV a l s (fun x hx => ho x (List.mem_cons_of_mem _ hx)) hs
def lookR (a : Nat) (l : List Rt) : Rt × Bool := l.foldl (lookStep a) (zeroR, false)
theorem viq {T : Tb} (h : TbOk T) (ha : ∀ r ∈ T.l, r.p.a < 4294967296) (a : Nat) : foundH a (hopL T.l) = ((lookR a T.l).1.hop, (lookR a T.l).2) := by
 have e := vdV a T.l (zeroR, false) (fun r hr => (h.r r hr).1) (by decide)
 unfold lookR
 rw [e]
 have h1 := vdb (a := a) (hopL T.l) [] (by simpa using h.hops) (fun x hx => by
  obtain ⟨r, hr, _, rfl⟩ := vbZ.1 (by simpa using hx)
  have hk := (vaq r).1 (h.r r hr).1
  have h2 := hk.1
  unfold toldB at h2
  rw [Bool.and_eq_true] at h2
  exact (pn_ok h2.1 (ha r hr)).1)
 rw [vkw, List.nil_append] at h1
 exact h1.symm
theorem vfR (a : Nat) : ∀ (l : List Rt) (s : Rt × Bool), (l.foldl (lookStep a) s) = s ∨ ((l.foldl (lookStep a) s).1 ∈ l ∧ (l.foldl (lookStep a) s).2 = true)
 | [], s => .inl rfl
 | r :: l, s => by
  rw [List.foldl_cons]
  rcases vfR a l (lookStep a s r) with e | ⟨e1, e2⟩
  ·rw [e]
   unfold lookStep
   split
   ·exact .inr ⟨List.mem_cons_self, rfl⟩
   ·exact .inl rfl
  ·exact .inr ⟨List.mem_cons_of_mem _ e1, e2⟩
end

end Go.Proofs.YtgopnfacklmkaaaGreatDoor
