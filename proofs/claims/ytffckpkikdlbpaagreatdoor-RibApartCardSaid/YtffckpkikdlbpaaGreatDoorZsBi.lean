/- Lemmas and contracts for the theorem of this claim: SoC, SoD, ShR. -/
import Derived.Test.YtffckpkikdlbpaaGreatDoorZsBh
import Derived.LoopN
import Derived.RangeFuncCalls
import Derived.Shelf.SlSortCmp.WholeK
import Derived.Shelf.SlMaps.Clone
import Derived.Shelf.SlMaps.Equal
import Derived.Test.YtffckpkikdlbpaaGreatDoorProg
set_option linter.unusedSimpArgs false
set_option linter.unusedVariables false
namespace Go.Proofs.YtffckpkikdlbpaaGreatDoor
open Go.RowKit Go.Maps
attribute [local go_sem] Oper.semAt_some
theorem EHeld : ElemOf Tryz.prog 83 87 (.agg #[.int .u32 0, .int .i64 0, .int .i64 0, .int .i64 0, .int .i64 0, .int .i64 0, .int .u32 0, .int .i64 0, .bool false]) 9 72 := ⟨Tryz.underlying83, by kernel_rfl, rfl, by decide⟩
theorem takes_oneH {W : World} {r : Nat} (hd : W.heap[r]? = some (.deferred (some []))) {K : World → Prop} (h : ∀ W', Only [r] W W' → K W') : Takes [{ target := .collected r, args := #[] }] W K :=
  ⟨r, rfl, hd, h _ ((Only.refl [r] W).putObj (by simp) _)⟩
theorem no_out_roundH {w W : World} {I : World → Prop} {B : Nat} : ¬ LetsOut (rndPostH w I B W) := fun ⟨_, _, hh⟩ => hh
theorem perm_same : ∀ {L M : List Rt}, L.Nodup → M.Nodup → (∀ x, x ∈ L ↔ x ∈ M) → L.Perm M
  | [], M, _, _, h => by
    cases M with
    | nil => exact .nil
    | cons y t => exact absurd ((h y).2 List.mem_cons_self) (by simp)
  | a :: t, M, hL, hM, h => by
    obtain ⟨p, q, rfl⟩ := List.append_of_mem ((h a).1 List.mem_cons_self)
    refine (List.Perm.cons a ?_).trans List.perm_middle.symm
    have hM2 := (List.perm_middle (a := a) (l₁ := p) (l₂ := q)).nodup_iff.1 hM
    rw [List.nodup_cons] at hL hM2
    refine perm_same hL.2 hM2.2 (fun x => ?_)
    have hx := h x
    rw [List.mem_cons, List.mem_append, List.mem_cons] at hx
    rw [List.mem_append]
    constructor
    · intro hz
      rcases hx.1 (.inr hz) with k | k | k
      · exact .inl k
      · subst k; exact absurd hz hL.1
      · exact .inr k
    · intro hz
      rcases hx.2 (hz.elim .inl (fun k => .inr (.inr k))) with k | k
      · subst k; exact absurd (List.mem_append.2 hz) hM2.1
      · exact k
def CsI (w : World) (L : List Rt) (B : Nat) (s : List Rt) (W : World) : Prop := ∃ v, Blk W w.heap.size 83 #[v] ∧ Own W B 87 9 Rt.enc v s ∧ Kp w W ∧ s.Nodup ∧ ∀ r ∈ s, r ∈ L
def CsP (w : World) (L : List Rt) (e : Ending) (w' : World) : Prop := ∃ A n c s, e = .returned (.slice A n c) ∧ Own w' w.heap.size 87 9 Rt.enc (.slice A n c) s ∧ s.Perm L ∧ Kp w w'
theorem nodup_sub_len {s L : List Rt} (h : s.Nodup) (hs : ∀ r ∈ s, r ∈ L) : s.length ≤ L.length := by
  induction s generalizing L with
  | nil => exact Nat.zero_le _
  | cons a t ih =>
    rw [List.nodup_cons] at h
    obtain ⟨p, q, rfl⟩ := List.append_of_mem (hs a List.mem_cons_self)
    have := ih (L := p ++ q) h.2 (fun r hr => by
      have := hs r (List.mem_cons_of_mem _ hr)
      rw [List.mem_append, List.mem_cons] at this
      rw [List.mem_append]
      rcases this with k | k | k
      · exact .inl k
      · subst k; exact absurd hr h.1
      · exact .inr k)
    simp only [List.length_cons, List.length_append] at this ⊢
    omega
set_option maxRecDepth 100000 in
set_option maxHeartbeats 2000000 in
theorem appendSeqH_any (L : List Rt) (mp mb : Nat) (o : Obj) (u : UpR L) (hw : ∀ r ∈ L, wfP r.p) (hm : ∀ V : World, V.heap[mp]? = some o → MapR V mp L) (hn : L.length ≤ 900000) (w : World) (hb : Blk w mb 105 #[.map (some mp)]) (ho : w.heap[mp]? = some o) :
    Calls Tryz.prog 118 #[.slice none 0 0, valsV mb] w (CsP w L) := by
  have hit := vals1_iter L mp mb o u hw hm
  have hnd : L.Nodup := (List.pairwise_map.1 u.nodup).imp (fun {x y} h e => h (by rw [e]))
  have Hit := Lib.hid hit
  have HB := Lib.hid hb
  have HO := Lib.hid ho
  have HND := Lib.hid hnd
  have hmb := hb.lt
  have hmp := (Array.getElem?_eq_some_iff.1 ho).1
  clear hit hb ho hm u hw hnd
  unfold valsV
  refine calls_of_wp_marks Tryz.func118 rfl ?_; simp only [Tryz.ntmps118, List.size_toArray, List.length_cons, List.length_nil, Nat.reduceAdd, Nat.reduceSub, Array.replicate_succ, Array.replicate_zero, List.push_toArray, List.append_toArray, List.nil_append, List.cons_append]
  go_wp2_with fail
  refine wp_rangeH rfl call_vals1 Hit.out (fun s vs s' h => by obtain ⟨r, _, _, rfl, _⟩ := h; rfl) (CsI w L) ?_ ?_ ?_ ?_ ?_
  · rintro B s V V' hB ⟨v, h1, h2, h3, h4⟩ hT
    simp only [World.size_alloc] at hT hB
    exact ⟨v, h1.turn hT (.inl (by omega)), hT.own h2 (Nat.le_refl _), hT.kp h3 (by omega), h4⟩
  · rintro B s V hB ⟨v, h1, h2, h3, h4⟩
    exact ⟨HB.out.keep h3, (h3.heap hmp).trans HO.out⟩
  · rintro B V hK hB hV
    exact ⟨_, (Blk.new w _ _).keep hK, Own.nil _ _ _ _ _, ((Kp.refl _).alloc _).trans hK, List.nodup_nil, by simp⟩
  · rintro l B s V vs s' ⟨r, hrL, hrs, rfl, rfl⟩ hB hBV hi
    simp only [World.size_alloc] at hB
    have HI := Lib.hid hi
    have HRL := Lib.hid hrL
    have HRS := Lib.hid hrs
    clear hi hrL hrs
    gi_wp2_with fail
    refine ⟨Ring.alloc (Ring.refl _ _ _) hBV _, fun U => Blk U V.heap.size 87 (roC r) ∧ CsI w L B s U, ⟨Blk.new _ _ _, ?_⟩, ?_, ?_⟩
    · obtain ⟨v, h1, h2, h3, h4⟩ := HI.out
      exact ⟨v, h1.alloc _, h2.alloc _, h3.alloc _, h4⟩
    · rintro U U' ⟨h0, v, h1, h2, h3, h4⟩ hT
      simp only [World.size_alloc] at hT
      exact ⟨h0.turn hT (.inr hBV), v, h1.turn hT (.inl (by omega)), hT.own h2 (Nat.le_refl _), hT.kp h3 (by omega), h4⟩
    · rintro W2 ⟨h0, v, h1, h2, h3, h4, h5⟩ hsz
      have x0 : W2.cell? ⟨w.heap.size, 0, none⟩ = some v := h1.cell 0
      have z0 := h1.frozen 0
      obtain ⟨r0, r1, r2, r3, r4, r5, r6, r7, r8⟩ := ro_cells h0
      have hlen := nodup_sub_len h4 h5
      have H5 := Lib.hid h5
      have H4 := Lib.hid h4
      clear h4 h5
      refine wpIn_block ?_
      refine round_list (by kernel_rfl) (no_out_block no_out_roundH) ?_
      go_wp2_with (at_builtin; go_must (refine wpList_appx EHeld rfl _ _ rfl r rfl h2 h3 (by omega) (by omega) rfl rfl rfl rfl rfl (by omega) ?_); intro v' w2 hown' hK' hg; obtain ⟨A2, c2, rfl⟩ := hown'.form1; have B2 := h1.grown hg (h2.ne (by omega)); have cc2 : w2.cell? ⟨w.heap.size, 0, none⟩ = some v := B2.cell 0; have zz := B2.frozen 0)
      refine ⟨?_, _, B2.set_ 0 _, Own.setBelow (p := ⟨w.heap.size, 0, none⟩) hown' (show w.heap.size < B by omega) _, hK'.setCell (by simp) _, ?_, ?_⟩
      · simp only [World.size_alloc]
        exact ((Ring.refl _ _ _).grown (by omega) hg (fun k hk => .inr (World.ownsRow.lt h2 k hk).1)).setCell (p := ⟨w.heap.size, 0, none⟩) (.inl (by show w.heap.size < w.heap.size + 1; omega)) _
      · rw [List.nodup_append]
        exact ⟨H4.out, by simp, fun a ha b hb => by simp only [List.mem_cons, List.not_mem_nil, or_false] at hb; subst hb; rintro rfl; exact HRS.out ha⟩
      · intro x hx
        rcases List.mem_append.1 hx with h | h
        · exact H5.out x h
        · simp only [List.mem_cons, List.not_mem_nil, or_false] at h
          subst h
          exact HRL.out
  · rintro B s W hB hE ⟨v, h1, h2, h3, h4, h5⟩ hd
    simp only [World.size_alloc] at hd hB
    have x0 : W.cell? ⟨w.heap.size, 0, none⟩ = some v := h1.cell 0
    obtain ⟨A, c, rfl⟩ := h2.form
    have HP := Lib.hid (perm_same h4 HND.out (fun x => ⟨h5 x, hE x⟩))
    have HE := Lib.hid hE
    have H5 := Lib.hid h5
    clear hE h5 h4
    go_wp2_with fail
    simp only [World.size_alloc]
    refine takes_oneH hd (fun W' hO => ?_)
    refine ⟨.slice A s.length c, ?_, A, s.length, c, s, rfl, (h2.only hO (by simp <;> omega)).mono (by omega), HP.out, hO.kp h3 (by simp)⟩
    simp [results, Tryz.results118, go_sem]
set_option maxHeartbeats 400000 in
theorem collectH_any (L : List Rt) (mp mb : Nat) (o : Obj) (u : UpR L) (hw : ∀ r ∈ L, wfP r.p) (hm : ∀ V : World, V.heap[mp]? = some o → MapR V mp L) (hn : L.length ≤ 900000) (w : World) (hb : Blk w mb 105 #[.map (some mp)]) (ho : w.heap[mp]? = some o) :
    Calls Tryz.prog 82 #[valsV mb] w (CsP w L) := by
  have H := Lib.hid (appendSeqH_any L mp mb o u hw hm hn w hb ho)
  clear hb ho hm u hw
  obtain ⟨v, hv⟩ : ∃ v, valsV mb = v := ⟨_, rfl⟩
  rw [hv] at H ⊢
  clear hv
  go_enter Tryz.func82, Tryz.ntmps82
  go_wp2_with fail
  refine H.out.mono ?_
  rintro e w' ⟨A, n, c, s, rfl, hR, hP, hK⟩
  have HR := Lib.hid hR
  clear hR
  go_wp2_with fail
  go_ret
  exact ⟨A, n, c, s, rfl, HR.out, hP, hK⟩
end Go.Proofs.YtffckpkikdlbpaaGreatDoor

namespace Go.Proofs.YtffckpkikdlbpaaGreatDoor
open Go.RowKit Go.Maps
theorem rt9_at {w : World} {A : Option Addr} {xs : List Rt} (h : Rd w 9 Rt.enc A xs) {k : Nat} (hk : k < xs.length) : ∃ b off : Nat, A = some ⟨b, off, none⟩ ∧ w.cell? ⟨b, off + k * 9, none⟩ = some (.int .u32 (xs[k].p.a : Int)) ∧ w.cell? ⟨b, off + k * 9 + 1, none⟩ = some (.int .i64 xs[k].p.l) ∧ w.cell? ⟨b, off + k * 9 + 2, none⟩ = some (.int .i64 xs[k].s) ∧ w.cell? ⟨b, off + k * 9 + 3, none⟩ = some (.int .i64 xs[k].m) ∧ w.cell? ⟨b, off + k * 9 + 4, none⟩ = some (.int .i64 xs[k].l) ∧ w.cell? ⟨b, off + k * 9 + 5, none⟩ = some (.int .i64 xs[k].f) ∧ w.cell? ⟨b, off + k * 9 + 6, none⟩ = some (.int .u32 (xs[k].x : Int)) ∧ w.cell? ⟨b, off + k * 9 + 7, none⟩ = some (.int .i64 xs[k].d) ∧ w.cell? ⟨b, off + k * 9 + 8, none⟩ = some (.bool xs[k].c) := by
  obtain ⟨b, off, e, hc⟩ := h k hk
  exact ⟨b, off, e, by simpa using hc 0 _ rfl, by simpa using hc 1 _ rfl, by simpa using hc 2 _ rfl, by simpa using hc 3 _ rfl, by simpa using hc 4 _ rfl, by simpa using hc 5 _ rfl, by simpa using hc 6 _ rfl, by simpa using hc 7 _ rfl, by simpa using hc 8 _ rfl⟩
def SiftP (L : List Rt) (w : World) (e : Ending) (w' : World) : Prop := ∃ v, e = .returned v ∧ Own w' w.heap.size 87 9 Rt.enc v L ∧ Kp w w'
def SiI (w : World) (L : List Rt) (f : Rt → Bool) (i : Nat) (v : Value) (W : World) : Prop := Own W w.heap.size 87 9 Rt.enc v ((L.take i).filter f) ∧ Kp w W
theorem filt_next {L : List Rt} {f : Rt → Bool} {i : Nat} (h : i < L.length) : (L.take (i + 1)).filter f = (L.take i).filter f ++ (if f L[i] then [L[i]] else []) := by
  rw [List.take_succ_eq_append_getElem h, List.filter_append, List.filter_cons, List.filter_nil]
set_option maxRecDepth 100000 in
set_option maxHeartbeats 2000000 in
theorem sift_any (L : List Rt) (A : Option Addr) (c : Nat) (g : FuncId) (f : Rt → Bool) (eg : ∀ args w, (callFunc g args).run Tryz.prog w = .ok (.enter g args) w)
    (hg : ∀ (r : Rt) (W : World), Calls Tryz.prog g #[roV r] W fun e w' => e = .returned (.bool (f r)) ∧ Kp W w') (w : World) (hS : Rd w 9 Rt.enc A L) (hn : L.length ≤ 900000) :
    Calls Tryz.prog 81 #[.slice A L.length c, .func (.func g) #[] #[]] w (SiftP (L.filter f) w) := by
  have HG := Lib.hid hg
  have HS := Lib.hid hS
  have R0 : Hid (SiI w L f 0 (.slice none 0 0) w) := Lib.hid ⟨by rw [List.take_zero]; exact Own.nil _ _ _ _ _, Kp.refl _⟩
  clear hg hS
  go_enter Tryz.func81, Tryz.ntmps81
  go_wp2_with fail
  go_loopw [5, 10] (fun v k wr => ∃ i : Nat, i ≤ L.length ∧ k = .int .i64 i ∧ Hid (SiI w L f i v wr)) (fun _ k _ => L.length - (intOf k).toNat)
  case atStart => exact ⟨0, Nat.zero_le _, rfl, R0⟩
  case round =>
    obtain ⟨i, hi, rfl, R⟩ := hrel
    obtain ⟨A2, c2, hv⟩ := R.out.1.form
    subst hv
    by_cases hlt : i < L.length
    · have hgi : (i : Int) < (L.length : Int) := by omega
      have hg0 : (0 : Int) ≤ (i : Int) := by omega
      obtain ⟨b, off, hA, s0, s1, s2, s3, s4, s5, s6, s7, s8⟩ := rt9_at (HS.out.keep R.out.2) hlt
      subst hA
      have hnx := filt_next (f := f) hlt
      obtain ⟨r, hr⟩ : ∃ r, L[i] = r := ⟨_, rfl⟩
      rw [hr] at s0 s1 s2 s3 s4 s5 s6 s7 s8 hnx
      have HL : ((L.take i).filter f).length ≤ i := by
        have := List.length_filter_le f (L.take i)
        have h2 := List.length_take_le i L
        omega
      have HN := Lib.hid hnx
      obtain ⟨V, hV, bV, kV⟩ : ∃ V, wr.alloc (.cells (roC r) 87) = V ∧ Blk V wr.heap.size 87 (roC r) ∧ Kp wr V := ⟨_, rfl, Blk.new _ _ _, (Kp.refl _).alloc _⟩
      obtain ⟨n, hn0⟩ : ∃ n, wr.heap.size = n := ⟨_, rfl⟩
      rw [hn0] at bV
      obtain ⟨r0, r1, r2, r3, r4, r5, r6, r7, r8⟩ := ro_cells bV
      unfold roC at hV
      have HB := Lib.hid bV
      clear hr hnx bV
      cases hf : f r with
      | false =>
        have hc := HG.out r
        rw [hf] at hc
        have HC := Lib.hid hc
        have HF := Lib.hid hf
        clear hc hf
        go_wp2_with fail
        refine (HC.out _).mono ?_
        rintro e w1 ⟨rfl, K1⟩
        have R1 : Hid (SiI w L f (i + 1) (.slice A2 ((L.take i).filter f).length c2) w1) := Lib.hid ⟨by rw [HN.out, HF.out, if_neg (by simp), List.append_nil]; exact R.out.1.keep (kV.trans K1), R.out.2.trans (kV.trans K1)⟩
        clear s0 s1 s2 s3 s4 s5 s6 s7 s8 r0 r1 r2 r3 r4 r5 r6 r7 r8
        go_wp2_with fail
        go_roundw
        case rel => exact ⟨i + 1, by omega, by go_num, R1⟩
        case measure => simp [intOf]; omega
      | true =>
        have hc := HG.out r
        rw [hf] at hc
        have HC := Lib.hid hc
        have HF := Lib.hid hf
        clear hc hf
        go_wp2_with fail
        refine (HC.out _).mono ?_
        rintro e w1 ⟨rfl, K1⟩
        have b1 := HB.out.keep K1
        obtain ⟨q0, q1, q2, q3, q4, q5, q6, q7, q8⟩ := ro_cells b1
        have k1 := R.out.2.trans (kV.trans K1)
        have o1 := R.out.1.keep (kV.trans K1)
        have sz1 := k1.size
        clear s0 s1 s2 s3 s4 s5 s6 s7 s8 r0 r1 r2 r3 r4 r5 r6 r7 r8
        go_wp2_with (at_builtin; go_must (refine wpList_appx EHeld rfl _ _ rfl r rfl o1 k1 (Nat.le_refl _) sz1 rfl rfl rfl rfl rfl (by omega) ?_); intro v3 w3 hown3 hK3 hg3; obtain ⟨A3, c3, rfl⟩ := hown3.form1)
        have R1 : Hid (SiI w L f (i + 1) (.slice A3 (((L.take i).filter f).length + 1) c3) w3) := Lib.hid ⟨by rw [HN.out, HF.out, if_pos rfl]; exact hown3, hK3⟩
        clear hown3 hK3 hg3 o1
        go_wp2_with fail
        go_roundw
        case rel => exact ⟨i + 1, by omega, by go_num, R1⟩
        case measure => simp [intOf]; omega
    · obtain rfl : i = L.length := by omega
      have hlast := R.out
      unfold SiI at hlast
      rw [List.take_length] at hlast
      have HE := Lib.hid hlast
      clear hlast
      go_wp2_with fail
      go_ret
      exact ⟨_, rfl, by rw [List.take_length]; exact HE.out.1, HE.out.2⟩
end Go.Proofs.YtffckpkikdlbpaaGreatDoor

namespace Go.Proofs
open Go.Shelf
def Tryz.sortH_ren : Go.Shelf.Ren := ⟨fun | 6 => 84 | 15 => 121 | 14 => 120 | 28 => 161 | 29 => 162 | 20 => 153 | 21 => 154 | 22 => 155 | 23 => 156 | 24 => 157 | 25 => 158 | 26 => 159 | 27 => 160 | 46 => 185 | 47 => 186 | 48 => 187 | 49 => 188 | 50 => 189 | 57 => 197 | n => n, fun | 22 => 83 | 24 => 87 | 25 => 135 | 3 => 3 | 39 => 125 | 0 => 0 | 53 => 26 | 55 => 219 | 4 => 4 | 46 => 211 | 45 => 210 | 50 => 215 | 5 => 5 | 9 => 9 | 66 => 244 | 70 => 248 | 76 => 264 | 77 => 265 | n => n, fun | n => n⟩
theorem Tryz.sortH : Go.Proofs.SlLaysF0.n6 Tryz.prog Tryz.sortH_ren := {
  mixed := by kernel_rfl
  f6 := ⟨Tryz.f84.name, by decide, Tryz.func84.trans (congrArg some (by kernel_rfl))⟩
  f14 := ⟨Tryz.f120.name, by decide, Tryz.func120.trans (congrArg some (by kernel_rfl))⟩
  f15 := Tryz.func121.trans (congrArg some (by kernel_rfl))
  f20 := ⟨Tryz.f153.name, by decide, Tryz.func153.trans (congrArg some (by kernel_rfl))⟩
  f21 := ⟨Tryz.f154.name, by decide, Tryz.func154.trans (congrArg some (by kernel_rfl))⟩
  f22 := ⟨Tryz.f155.name, by decide, Tryz.func155.trans (congrArg some (by kernel_rfl))⟩
  f23 := ⟨Tryz.f156.name, by decide, Tryz.func156.trans (congrArg some (by kernel_rfl))⟩
  f24 := ⟨Tryz.f157.name, by decide, Tryz.func157.trans (congrArg some (by kernel_rfl))⟩
  f25 := ⟨Tryz.f158.name, by decide, Tryz.func158.trans (congrArg some (by kernel_rfl))⟩
  f26 := ⟨Tryz.f159.name, by decide, Tryz.func159.trans (congrArg some (by kernel_rfl))⟩
  f27 := ⟨Tryz.f160.name, by decide, Tryz.func160.trans (congrArg some (by kernel_rfl))⟩
  f28 := Tryz.func161.trans (congrArg some (by kernel_rfl))
  f29 := Tryz.func162.trans (congrArg some (by kernel_rfl))
  f46 := ⟨Tryz.f185.name, by decide, Tryz.func185.trans (congrArg some (by kernel_rfl))⟩
  f47 := Tryz.func186.trans (congrArg some (by kernel_rfl))
  f48 := Tryz.func187.trans (congrArg some (by kernel_rfl))
  f49 := ⟨Tryz.f188.name, by decide, Tryz.func188.trans (congrArg some (by kernel_rfl))⟩
  f50 := ⟨Tryz.f189.name, by decide, Tryz.func189.trans (congrArg some (by kernel_rfl))⟩
  f57 := ⟨Tryz.f197.name, by decide, Tryz.func197.trans (congrArg some (by kernel_rfl))⟩
  t0 := Tryz.underlying0
  a0 := Tryz.isAgg0
  z0 := Tryz.sizeOf0
  v0 := Tryz.zeroValue0
  t3 := Tryz.underlying3
  a3 := Tryz.isAgg3
  z3 := Tryz.sizeOf3
  v3 := Tryz.zeroValue3
  t4 := Tryz.underlying4
  a4 := Tryz.isAgg4
  z4 := Tryz.sizeOf4
  v4 := Tryz.zeroValue4
  t5 := Tryz.underlying5
  a5 := Tryz.isAgg5
  z5 := Tryz.sizeOf5
  v5 := Tryz.zeroValue5
  t9 := Tryz.underlying9
  a9 := Tryz.isAgg9
  z9 := Tryz.sizeOf9
  v9 := Tryz.zeroValue9
  t22 := Tryz.underlying83
  a22 := Tryz.isAgg83
  z22 := Tryz.sizeOf83
  v22 := Tryz.zeroValue83
  t25 := Tryz.underlying135
  a25 := Tryz.isAgg135
  z25 := Tryz.sizeOf135
  v25 := Tryz.zeroValue135
  t39 := Tryz.underlying125
  a39 := Tryz.isAgg125
  z39 := Tryz.sizeOf125
  v39 := Tryz.zeroValue125
  t45 := Tryz.underlying210
  a45 := Tryz.isAgg210
  z45 := Tryz.sizeOf210
  v45 := Tryz.zeroValue210
  t46 := Tryz.underlying211
  a46 := Tryz.isAgg211
  z46 := Tryz.sizeOf211
  v46 := Tryz.zeroValue211
  t50 := Tryz.underlying215
  a50 := Tryz.isAgg215
  z50 := Tryz.sizeOf215
  v50 := Tryz.zeroValue215
  t53 := Tryz.underlying26
  a53 := Tryz.isAgg26
  z53 := Tryz.sizeOf26
  v53 := Tryz.zeroValue26
  t55 := Tryz.underlying219
  a55 := Tryz.isAgg219
  z55 := Tryz.sizeOf219
  v55 := Tryz.zeroValue219
  t66 := Tryz.underlying244
  a66 := Tryz.isAgg244
  z66 := Tryz.sizeOf244
  v66 := Tryz.zeroValue244
  t70 := Tryz.underlying248
  a70 := Tryz.isAgg248
  z70 := Tryz.sizeOf248
  v70 := Tryz.zeroValue248
  t76 := Tryz.underlying264
  a76 := Tryz.isAgg264
  z76 := Tryz.sizeOf264
  v76 := Tryz.zeroValue264
  t77 := Tryz.underlying265
  a77 := Tryz.isAgg265
  z77 := Tryz.sizeOf265
  v77 := Tryz.zeroValue265 }
def Tryz.cloneH_ren : Go.Shelf.Ren := ⟨fun | 5 => 58 | 7 => 103 | n => n, fun | 23 => 105 | 25 => 29 | 3 => 87 | 4 => 4 | 20 => 20 | n => n, fun | n => n⟩
theorem Tryz.cloneH : Go.Proofs.SlLaysW.n5 Tryz.prog Tryz.cloneH_ren := {
  mixed := by kernel_rfl
  f5 := ⟨Tryz.f58.name, by decide, Tryz.func58.trans (congrArg some (by kernel_rfl))⟩
  f7 := Tryz.func103.trans (congrArg some (by kernel_rfl))
  t4 := Tryz.underlying4
  a4 := Tryz.isAgg4
  z4 := Tryz.sizeOf4
  v4 := Tryz.zeroValue4
  t20 := Tryz.underlying20
  a20 := Tryz.isAgg20
  z20 := Tryz.sizeOf20
  v20 := Tryz.zeroValue20
  t23 := Tryz.underlying105
  a23 := Tryz.isAgg105
  z23 := Tryz.sizeOf105
  v23 := Tryz.zeroValue105 }
def Tryz.cloneT_ren : Go.Shelf.Ren := ⟨fun | 5 => 102 | 7 => 103 | n => n, fun | 23 => 147 | 25 => 158 | 3 => 3 | 4 => 4 | 20 => 20 | n => n, fun | n => n⟩
theorem Tryz.cloneT : Go.Proofs.SlLaysW.n5 Tryz.prog Tryz.cloneT_ren := {
  mixed := by kernel_rfl
  f5 := ⟨Tryz.f102.name, by decide, Tryz.func102.trans (congrArg some (by kernel_rfl))⟩
  f7 := Tryz.func103.trans (congrArg some (by kernel_rfl))
  t4 := Tryz.underlying4
  a4 := Tryz.isAgg4
  z4 := Tryz.sizeOf4
  v4 := Tryz.zeroValue4
  t20 := Tryz.underlying20
  a20 := Tryz.isAgg20
  z20 := Tryz.sizeOf20
  v20 := Tryz.zeroValue20
  t23 := Tryz.underlying147
  a23 := Tryz.isAgg147
  z23 := Tryz.sizeOf147
  v23 := Tryz.zeroValue147 }
end Go.Proofs
