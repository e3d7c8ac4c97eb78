/- A table of hops, as routes come to it: Come. -/
import Derived.Test.YtfaiponmjjbgoaaDoorFbG
namespace Go.Proofs.YtfaiponmjjbgoaaDoor
open Go.RowKit
attribute [local go_sem] Oper.semAt_some

def runL : List Rt → List Hp → List Hp
  | [], L => L
  | r :: rs, L => if comeE r L = 0 then runL rs (comeL r L) else L
def runN : List Rt → List Hp → Nat
  | [], _ => 0
  | r :: rs, L => if comeE r L = 0 then runN rs (comeL r L) + 1 else 0
def runE : List Rt → List Hp → Int
  | [], _ => 0
  | r :: rs, L => if comeE r L = 0 then runE rs (comeL r L) else comeE r L
theorem come_err {r : Rt} {L : List Hp} (h : comeE r L ≠ 0) : comeL r L = L := by
  unfold comeE at h
  unfold comeL
  by_cases h1 : checkR r = 0
  · by_cases h2 : r.s = 1 ∨ r.s = 2
    · rw [if_pos h1, if_pos h2] at h
      rw [if_pos h1, if_pos h2]
      unfold putE at h
      unfold putL
      split at h
      · exact absurd rfl h
      · rename_i h3; rw [if_neg h3]
    · rw [if_pos h1, if_neg h2] at h; exact absurd rfl h
  · rw [if_neg h1]
theorem come_range (r : Rt) (L : List Hp) : comeE r L = 0 ∨ comeE r L = 2 ∨ comeE r L = 3 := by
  unfold comeE putE
  split
  · split
    · split <;> simp
    · simp
  · simp
/-- How far routes have come. -/
def RunAt (rs : List Rt) (L : List Hp) (k : Nat) (Lk : List Hp) : Prop := runL rs L = runL (rs.drop k) Lk ∧ runN rs L = k + runN (rs.drop k) Lk ∧ runE rs L = runE (rs.drop k) Lk
theorem RunAt.start (rs : List Rt) (L : List Hp) : RunAt rs L 0 L := ⟨rfl, by simp, rfl⟩
theorem RunAt.step {rs : List Rt} {L Lk : List Hp} {k : Nat} (h : RunAt rs L k Lk) (hk : k < rs.length) (he : comeE rs[k] Lk = 0) : RunAt rs L (k + 1) (comeL rs[k] Lk) := by
  unfold RunAt at *
  rw [List.drop_eq_getElem_cons hk] at h
  simp only [runL, runN, runE, he, if_true] at h
  exact ⟨h.1, by omega, h.2.2⟩
theorem RunAt.stop {rs : List Rt} {L Lk : List Hp} {k : Nat} (h : RunAt rs L k Lk) (hk : k < rs.length) (he : comeE rs[k] Lk ≠ 0) : runL rs L = Lk ∧ runN rs L = k ∧ runE rs L = comeE rs[k] Lk := by
  unfold RunAt at *
  rw [List.drop_eq_getElem_cons hk] at h
  simp only [runL, runN, runE, he, if_false] at h
  exact ⟨h.1, by omega, h.2.2⟩
theorem RunAt.done {rs : List Rt} {L Lk : List Hp} (h : RunAt rs L rs.length Lk) : runL rs L = Lk ∧ runN rs L = rs.length ∧ runE rs L = 0 := by
  unfold RunAt at *
  rw [List.drop_length] at h
  exact ⟨h.1, by simpa [runN] using h.2.1, h.2.2⟩

theorem rt_at {w : World} {A : Option Addr} {rs : List Rt} (h : Rd w 9 Rt.enc A rs) {k : Nat} (hk : k < rs.length) :
    ∃ b off : Nat, A = some ⟨b, off, none⟩ ∧ w.cell? ⟨b, off + k * 9, none⟩ = some (.int .u32 rs[k].p.a) ∧ w.cell? ⟨b, off + k * 9 + 1, none⟩ = some (.int .i64 rs[k].p.l) ∧ w.cell? ⟨b, off + k * 9 + 2, none⟩ = some (.int .i64 rs[k].s) ∧ w.cell? ⟨b, off + k * 9 + 3, none⟩ = some (.int .i64 rs[k].m) ∧ w.cell? ⟨b, off + k * 9 + 4, none⟩ = some (.int .i64 rs[k].l) ∧ w.cell? ⟨b, off + k * 9 + 5, none⟩ = some (.int .i64 rs[k].f) ∧ w.cell? ⟨b, off + k * 9 + 6, none⟩ = some (.int .u32 rs[k].x) ∧ w.cell? ⟨b, off + k * 9 + 7, none⟩ = some (.int .i64 rs[k].d) ∧ w.cell? ⟨b, off + k * 9 + 8, none⟩ = some (.bool rs[k].c) := by
  obtain ⟨b, off, e, hc⟩ := h k hk
  exact ⟨b, off, e, hc 0 _ rfl, hc 1 _ rfl, hc 2 _ rfl, hc 3 _ rfl, hc 4 _ rfl, hc 5 _ rfl, hc 6 _ rfl, hc 7 _ rfl, hc 8 _ rfl⟩
theorem Rd.lt {α : Type} {w : World} {sz : Nat} {enc : α → List Value} {A : Option Addr} {xs : List α} (h : Rd w sz enc A xs) (hs : 0 < xs.length) (hz : ∀ x, enc x ≠ []) : ∀ a, A = some a → a.block < w.heap.size := by
  intro a ha
  obtain ⟨b, off, e, hc⟩ := h 0 hs
  rw [e] at ha
  injection ha with ha
  subst ha
  cases he : enc xs[0] with
  | nil => exact absurd he (hz _)
  | cons u us => have := hc 0 u (by rw [he]; rfl); simp only [Nat.zero_mul, Nat.add_zero] at this; exact World.block_lt_of_cell? w _ this
/-- Routes that may lie in memory. -/
def Rt.fits (r : Rt) : Prop := r.p.a < 4294967296 ∧ r.x < 4294967296
def RunP (w : World) (f : Nat) (F : List Nat) (L : List Hp) (rs : List Rt) (e : Ending) (w' : World) : Prop := e = .returned (.tuple #[.int .i64 (runN rs L), .int .i64 (runE rs L)]) ∧ FT w w' f F (runL rs L)
def RunI (w : World) (f : Nat) (F : List Nat) (L : List Hp) (rs : List Rt) (k : Nat) (W : World) : Prop := ∃ Lk, RunAt rs L k Lk ∧ FT w W f F Lk
theorem rels_lt {w : World} (h : RelsAt w) : 0 < w.heap.size := World.block_lt_of_cell? w _ h.1
theorem FM.none {w : World} {f : Nat} {F : List Nat} {L : List Hp} (h : FM w f F L) : ∃ tr x, Blk w f 50 #[.pointer (some ⟨tr, 0, none⟩), x] := by
  obtain ⟨tr, t, A, c, H, _, m, _⟩ := h
  exact ⟨tr, _, m.blk⟩

set_option maxRecDepth 100000 in
set_option maxHeartbeats 2000000 in
theorem Come_any (f : Nat) (F : List Nat) (L : List Hp) (rs : List Rt) (A : Option Addr) (c : Nat) (w : World) (hG : RelsAt w) (hGn : 0 ∉ F) (hM : FM w f F L) (hR : Rd w 9 Rt.enc A rs) (hA : 0 < rs.length → ∀ a, A = some a → a.block ∉ F) (hn : rs.length ≤ 1000000) (hfit : ∀ r ∈ rs, r.fits) :
    Calls Tryd.prog 6 #[.pointer (some ⟨f, 0, none⟩), .slice A rs.length c] w (RunP w f F L rs) := by
  obtain ⟨tr, x, hB⟩ := hM.none
  have HB := Lib.hid hB
  have HG := Lib.hid hG
  have HGn := Lib.hid hGn
  have HM := Lib.hid hM
  have HR := Lib.hid hR
  have HA := Lib.hid hA
  have Hfit := Lib.hid hfit
  clear hG hGn hM hR hA hfit hB
  go_enter Tryd.func6, Tryd.ntmps6
  go_wp2_with fail
  refine wp_scope_fwd 0 rfl ?_
  go_wp2_with fail
  refine (fnone_any f tr x _ HB.out).mono ?_
  rintro e w' ⟨rfl, rfl⟩
  go_wp2_with fail
  go_loopw [14, 6, 7] (fun i n e wr => ∃ k : Nat, k ≤ rs.length ∧ i = .int .i64 k ∧ n = .int .i64 k ∧ (∃ z : Int, e = .int .i64 z) ∧ RunI w f F L rs k wr) (fun i _ _ _ => rs.length - (intOf i).toNat)
  case atStart => exact ⟨0, Nat.zero_le _, rfl, rfl, ⟨1, rfl⟩, L, RunAt.start rs L, FT.of_kp HM.out (Kp.refl _)⟩
  case round =>
    obtain ⟨k, hk, rfl, rfl, ⟨z, rfl⟩, Lk, hrun, F', hM', hO', hs'⟩ := hrel
    have Hrun := Lib.hid hrun
    have HM' := Lib.hid hM'
    have Hs' := Lib.hid hs'
    clear hrun hM' hs'
    by_cases hlt : k < rs.length
    · have hrt := rt_at HR.out hlt
      obtain ⟨b, off, rfl, c0, c1, c2, c3, c4, c5, c6, c7, c8⟩ := hrt
      have hbF : b ∉ F := HA.out (by omega) _ rfl
      have x0 := hO'.cell c0 hbF
      have x1 := hO'.cell c1 hbF
      have x2 := hO'.cell c2 hbF
      have x3 := hO'.cell c3 hbF
      have x4 := hO'.cell c4 hbF
      have x5 := hO'.cell c5 hbF
      have x6 := hO'.cell c6 hbF
      have x7 := hO'.cell c7 hbF
      have x8 := hO'.cell c8 hbF
      clear c0 c1 c2 c3 c4 c5 c6 c7 c8
      have HbF := Lib.hid hbF; clear hbF
      obtain ⟨r, hr⟩ : ∃ r, rs[k] = r := ⟨_, rfl⟩
      rw [hr] at x0 x1 x2 x3 x4 x5 x6 x7 x8
      have Hr := Lib.hid hr; clear hr
      have hrf := Hfit.out r (by rw [← Hr.out]; exact List.getElem_mem _)
      have Hrf := Lib.hid hrf; clear hrf
      have hGn' : 0 ∉ F' := fun hc => by
        rcases Hs'.out _ hc with e | e
        · exact HGn.out e
        · have := rels_lt HG.out; omega
      have HGn' := Lib.hid hGn'; clear hGn'
      have HG' := Lib.hid (HG.out.only hO' HGn.out)
      have ha : ∀ o, Kp wr (wr.alloc o) := fun o => (Kp.refl _).alloc o
      go_wp2_with fail
      refine (come_any f F' Lk r _ (HG'.out.keep (ha _)) HGn'.out (HM'.out.keep (ha _)) Hrf.out.1 Hrf.out.2).mono ?_
      rintro e w2 ⟨rfl, hT⟩
      have hT2 : FT w w2 f F (comeL r Lk) := FT.trans hO' Hs'.out (hT.keep (ha _))
      have HT2 := Lib.hid hT2; clear hT2 hT
      by_cases he : comeE r Lk = 0
      · have hrun2 := Hrun.out.step hlt (by rw [Hr.out]; exact he)
        rw [Hr.out] at hrun2
        have Hrun2 := Lib.hid hrun2; clear hrun2
        rw [he]
        have He := Lib.hid he; clear he
        go_wp2_with fail
        go_roundw
        case rel => exact ⟨k + 1, by omega, by go_num, by go_num, ⟨0, rfl⟩, _, Hrun2.out, HT2.out⟩
        case measure => simp [intOf]; omega
      · obtain ⟨s1, s2, s3⟩ := Hrun.out.stop hlt (by rw [Hr.out]; exact he)
        rw [Hr.out] at s3
        have hcl := come_err he
        have Hcl := Lib.hid hcl; clear hcl
        have hne : (comeE r Lk != 0) = true := by simpa using he
        have hne2 : (comeE r Lk == 0) = false := by simpa using he
        have HS1 := Lib.hid s1
        have HS2 := Lib.hid s2
        have HS3 := Lib.hid s3
        clear s1 s2 s3 he
        obtain ⟨ee, hee⟩ : ∃ ee, comeE r Lk = ee := ⟨_, rfl⟩
        rw [hee] at hne hne2 ⊢
        have Hee := Lib.hid hee; clear hee
        go_wp2_with fail
        go_step3
        refine ⟨rfl, ?_⟩
        go_wp2_with fail
        refine noGoto_ret ?_
        refine bodyPost_ret (v := .tuple #[.int .i64 k, .int .i64 ee]) (by simp [results, Tryd.results6, go_sem]) rfl ⟨?_, ?_⟩
        · rw [HS2.out, HS3.out, Hee.out]
        · rw [HS1.out]
          have := HT2.out
          rw [Hcl.out] at this
          exact this
    · have hke : k = rs.length := by omega
      subst hke
      obtain ⟨s1, s2, s3⟩ := Hrun.out.done
      have HS1 := Lib.hid s1
      have HS2 := Lib.hid s2
      have HS3 := Lib.hid s3
      clear s1 s2 s3
      go_wp2_with fail
      refine jump_ret ?_
      refine bodyPost_ret (v := .tuple #[.int .i64 rs.length, .int .i64 0]) (by simp [results, Tryd.results6, go_sem]) rfl ⟨?_, ?_⟩
      · rw [HS2.out, HS3.out]
      · rw [HS1.out]; exact ⟨F', HM'.out, hO', Hs'.out⟩
end Go.Proofs.YtfaiponmjjbgoaaDoor
