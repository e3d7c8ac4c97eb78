/- Lemmas and contracts for the theorem of this claim: SoC, SoD, R12A. -/
import Derived.Test.YtffckpkikdlbpaaGreatDoorZvBa
import Derived.LoopN
import Derived.RangeFuncCalls
set_option linter.all false
set_option maxHeartbeats 16000000
namespace Go.Proofs.YtffckpkikdlbpaaGreatDoor
section
open Go.RowKit Go.Maps
attribute [local go_sem] Oper.semAt_some
theorem EHeld : ElemOf Tryz.prog 83 87 (.agg #[.int .u32 0, .int .i64 0, .int .i64 0, .int .i64 0, .int .i64 0, .int .i64 0, .int .u32 0, .int .i64 0, .bool false]) 9 72 := ⟨Tryz.underlying83, by kernel_rfl, rfl, by decide⟩
theorem vhs {W : World} {r : Nat} (hd : W.heap[r]? = some (.deferred (some []))) {K : World → Prop} (h : ∀ W', Only [r] W W' → K W') : Takes [{ target := .collected r, args := #[] }] W K :=
 ⟨r, rfl, hd, h _ ((Only.refl [r] W).putObj (by simp) _)⟩
theorem vep {w W : World} {I : World → Prop} {B : Nat} : ¬ LetsOut (rndPostH w I B W) := fun ⟨_, _, hh⟩ => hh
theorem veV : ∀ {L M : List Rt}, L.Nodup → M.Nodup → (∀ x, x ∈ L ↔ x ∈ M) → L.Perm M
 | [], M, _, _, h => by
  cases M with
  | nil => exact .nil
  | cons y t => exact absurd ((h y).2 List.mem_cons_self) (by simp)
 | a :: t, M, hL, hM, h => by
  obtain ⟨p, q, rfl⟩ := List.append_of_mem ((h a).1 List.mem_cons_self)
  refine (List.Perm.cons a ?_).trans List.perm_middle.symm
  have hM2 := (List.perm_middle (a := a) (l₁ := p) (l₂ := q)).nodup_iff.1 hM
  rw [List.nodup_cons] at hL hM2
  refine veV hL.2 hM2.2 (fun x => ?_)
  have hx := h x
  rw [List.mem_cons, List.mem_append, List.mem_cons] at hx
  rw [List.mem_append]
  constructor
  ·intro hz
   rcases hx.1 (.inr hz) with k | k | k
   ·exact .inl k
   ·subst k; exact absurd hz hL.1
   ·exact .inr k
  ·intro hz
   rcases hx.2 (hz.elim .inl (fun k => .inr (.inr k))) with k | k
   ·subst k; exact absurd (List.mem_append.2 hz) hM2.1
   ·exact k
def CsI (w : World) (L : List Rt) (B : Nat) (s : List Rt) (W : World) : Prop := ∃ v, Blk W w.heap.size 83 #[v] ∧ Own W B 87 9 Rt.enc v s ∧ Kp w W ∧ s.Nodup ∧ ∀ r ∈ s, r ∈ L
def CsP (w : World) (L : List Rt) (e : Ending) (w' : World) : Prop := ∃ A n c s, e = .returned (.slice A n c) ∧ Own w' w.heap.size 87 9 Rt.enc (.slice A n c) s ∧ s.Perm L ∧ Kp w w'
theorem vcq {s L : List Rt} (h : s.Nodup) (hs : ∀ r ∈ s, r ∈ L) : s.length ≤ L.length := by
 induction s generalizing L with
 | nil => exact Nat.zero_le _
 | cons a t ih =>
  rw [List.nodup_cons] at h
  obtain ⟨p, q, rfl⟩ := List.append_of_mem (hs a List.mem_cons_self)
  have := ih (L := p ++ q) h.2 (fun r hr => by
   have := hs r (List.mem_cons_of_mem _ hr)
   rw [List.mem_append, List.mem_cons] at this
   rw [List.mem_append]
   rcases this with k | k | k
   ·exact .inl k
   ·subst k; exact absurd hr h.1
   ·exact .inr k)
  simp only [List.length_cons, List.length_append] at this ⊢
  omega
set_option maxRecDepth 100000 in
theorem vdz (L : List Rt) (mp mb : Nat) (o : Obj) (u : UpR L) (hw : ∀ r ∈ L, wfP r.p) (hm : ∀ V : World, V.heap[mp]? = some o → MapR V mp L) (hn : L.length ≤ 900000) (w : World) (hb : Blk w mb 105 #[.map (some mp)]) (ho : w.heap[mp]? = some o) :
  Calls Tryz.prog 118 #[.slice none 0 0, valsV mb] w (CsP w L) := by
 have hit := vhr L mp mb o u hw hm
 have hnd : L.Nodup := (List.pairwise_map.1 u.nodup).imp (fun {x y} h e => h (by rw [e]))
 have Hit := Lib.hid hit
 have HB := Lib.hid hb
 have HO := Lib.hid ho
 have HND := Lib.hid hnd
 have hmb := hb.lt
 have hmp := (Array.getElem?_eq_some_iff.1 ho).1
 clear hit hb ho hm u hw hnd
 unfold valsV
 refine calls_of_wp_marks Tryz.func118 rfl ?_; simp only [Tryz.ntmps118, List.size_toArray, List.length_cons, List.length_nil, Nat.reduceAdd, Nat.reduceSub, Array.replicate_succ, Array.replicate_zero, List.push_toArray, List.append_toArray, List.nil_append, List.cons_append]
 go_wp2_with fail
 refine viR rfl vhq Hit.out (fun s vs s' h => by obtain ⟨r, _, _, rfl, _⟩ := h; rfl) (CsI w L) ?_ ?_ ?_ ?_ ?_
 ·rintro B s V V' hB ⟨v, h1, h2, h3, h4⟩ hT
  simp only [World.size_alloc] at hT hB
  exact ⟨v, h1.turn hT (.inl (by omega)), hT.own h2 (Nat.le_refl _), hT.kp h3 (by omega), h4⟩
 ·rintro B s V hB ⟨v, h1, h2, h3, h4⟩
  exact ⟨HB.out.keep h3, (h3.heap hmp).trans HO.out⟩
 ·rintro B V hK hB hV
  exact ⟨_, (Blk.new w _ _).keep hK, Own.nil _ _ _ _ _, ((Kp.refl _).alloc _).trans hK, List.nodup_nil, by simp⟩
 ·rintro l B s V vs s' ⟨r, hrL, hrs, rfl, rfl⟩ hB hBV hi
  simp only [World.size_alloc] at hB
  have HI := Lib.hid hi
  have HRL := Lib.hid hrL
  have HRS := Lib.hid hrs
  clear hi hrL hrs
  gi_wp2_with fail
  refine ⟨Ring.alloc (Ring.refl _ _ _) hBV _, fun U => Blk U V.heap.size 87 (roC r) ∧ CsI w L B s U, ⟨Blk.new _ _ _, ?_⟩, ?_, ?_⟩
  ·obtain ⟨v, h1, h2, h3, h4⟩ := HI.out
   exact ⟨v, h1.alloc _, h2.alloc _, h3.alloc _, h4⟩
  ·rintro U U' ⟨h0, v, h1, h2, h3, h4⟩ hT
   simp only [World.size_alloc] at hT
   exact ⟨h0.turn hT (.inr hBV), v, h1.turn hT (.inl (by omega)), hT.own h2 (Nat.le_refl _), hT.kp h3 (by omega), h4⟩
  ·rintro W2 ⟨h0, v, h1, h2, h3, h4, h5⟩ hsz
   have x0 : W2.cell? ⟨w.heap.size, 0, none⟩ = some v := h1.cell 0
   have z0 := Blk.frozen h1
   have r0 := Blk.f h0 rfl
   have hlen := vcq h4 h5
   have H5 := Lib.hid h5
   have H4 := Lib.hid h4
   clear h4 h5
   refine wpIn_block ?_
   refine vgC (by kernel_rfl) (vcK vep) ?_
   go_wp2_with (at_builtin; go_must (refine vau EHeld rfl _ _ rfl r rfl h2 h3 (by omega) (by omega) rfl rfl rfl rfl rfl (by omega) ?_); intro v' w2 hown' hK' hg; obtain ⟨A2, c2, rfl⟩ := hown'.form1; have B2 := h1.grown hg (h2.ne (by omega)); have cc2 : w2.cell? ⟨w.heap.size, 0, none⟩ = some v := B2.cell 0; have zz := B2.frozen 0)
   refine ⟨?_, _, B2.set_ 0 _, Own.setBelow (p := ⟨w.heap.size, 0, none⟩) hown' (show w.heap.size < B by omega) _, hK'.setCell (by simp) _, ?_, ?_⟩
   ·simp only [World.size_alloc]
    exact ((Ring.refl _ _ _).grown (by omega) hg (fun k hk => .inr (World.ownsRow.lt h2 k hk).1)).setCell (p := ⟨w.heap.size, 0, none⟩) (.inl (by show w.heap.size < w.heap.size + 1; omega)) _
   ·rw [List.nodup_append]
    exact ⟨H4.out, by simp, fun a ha b hb => by simp only [List.mem_cons, List.not_mem_nil, or_false] at hb; subst hb; rintro rfl; exact HRS.out ha⟩
   ·intro x hx
    rcases List.mem_append.1 hx with h | h
    ·exact H5.out x h
    ·simp only [List.mem_cons, List.not_mem_nil, or_false] at h
     subst h
     exact HRL.out
 ·rintro B s W hB hE ⟨v, h1, h2, h3, h4, h5⟩ hd
  simp only [World.size_alloc] at hd hB
  have x0 : W.cell? ⟨w.heap.size, 0, none⟩ = some v := h1.cell 0
  obtain ⟨A, c, rfl⟩ := h2.form
  have HP := Lib.hid (veV h4 HND.out (fun x => ⟨h5 x, hE x⟩))
  have HE := Lib.hid hE
  have H5 := Lib.hid h5
  clear hE h5 h4
  go_wp2_with fail
  simp only [World.size_alloc]
  refine vhs hd (fun W' hO => ?_)
  refine ⟨.slice A s.length c, ?_, A, s.length, c, s, rfl, (h2.only hO (by simp <;> omega)).mono (by omega), HP.out, hO.kp h3 (by simp)⟩
  simp [results, Tryz.results118, go_sem]
theorem veW (L : List Rt) (mp mb : Nat) (o : Obj) (u : UpR L) (hw : ∀ r ∈ L, wfP r.p) (hm : ∀ V : World, V.heap[mp]? = some o → MapR V mp L) (hn : L.length ≤ 900000) (w : World) (hb : Blk w mb 105 #[.map (some mp)]) (ho : w.heap[mp]? = some o) :
  Calls Tryz.prog 82 #[valsV mb] w (CsP w L) := by
 have H := Lib.hid (vdz L mp mb o u hw hm hn w hb ho)
 clear hb ho hm u hw
 obtain ⟨v, hv⟩ : ∃ v, valsV mb = v := ⟨_, rfl⟩
 rw [hv] at H ⊢
 clear hv
 go_enter Tryz.func82, Tryz.ntmps82
 go_wp2_with fail
 refine H.out.mono ?_
 rintro e w' ⟨A, n, c, s, rfl, hR, hP, hK⟩
 have HR := Lib.hid hR
 clear hR
 go_wp2_with fail
 go_ret
 exact ⟨A, n, c, s, rfl, HR.out, hP, hK⟩
theorem vaU {w : World} {A : Option Addr} {xs : List Rt} (h : Rd w 9 Rt.enc A xs) {k : Nat} (hk : k < xs.length) : ∃ b off : Nat, A = some ⟨b, off, none⟩ ∧ w.cell? ⟨b, off + k * 9, none⟩ = some (.int .u32 (xs[k].p.a : Int)) ∧ w.cell? ⟨b, off + k * 9 + 1, none⟩ = some (.int .i64 xs[k].p.l) ∧ w.cell? ⟨b, off + k * 9 + 2, none⟩ = some (.int .i64 xs[k].s) ∧ w.cell? ⟨b, off + k * 9 + 3, none⟩ = some (.int .i64 xs[k].m) ∧ w.cell? ⟨b, off + k * 9 + 4, none⟩ = some (.int .i64 xs[k].l) ∧ w.cell? ⟨b, off + k * 9 + 5, none⟩ = some (.int .i64 xs[k].f) ∧ w.cell? ⟨b, off + k * 9 + 6, none⟩ = some (.int .u32 (xs[k].x : Int)) ∧ w.cell? ⟨b, off + k * 9 + 7, none⟩ = some (.int .i64 xs[k].d) ∧ w.cell? ⟨b, off + k * 9 + 8, none⟩ = some (.bool xs[k].c) := by
 obtain ⟨b, off, e, hc⟩ := h k hk
 exact ⟨b, off, e, by simpa using hc 0 _ rfl, by simpa using hc 1 _ rfl, by simpa using hc 2 _ rfl, by simpa using hc 3 _ rfl, by simpa using hc 4 _ rfl, by simpa using hc 5 _ rfl, by simpa using hc 6 _ rfl, by simpa using hc 7 _ rfl, by simpa using hc 8 _ rfl⟩
def SiftP (L : List Rt) (w : World) (e : Ending) (w' : World) : Prop := ∃ v, e = .returned v ∧ Own w' w.heap.size 87 9 Rt.enc v L ∧ Kp w w'
def SiI (w : World) (L : List Rt) (f : Rt → Bool) (i : Nat) (v : Value) (W : World) : Prop := Own W w.heap.size 87 9 Rt.enc v ((L.take i).filter f) ∧ Kp w W
theorem viU {L : List Rt} {f : Rt → Bool} {i : Nat} (h : i < L.length) : (L.take (i + 1)).filter f = (L.take i).filter f ++ (if f L[i] then [L[i]] else []) := by
 rw [List.take_succ_eq_append_getElem h, List.filter_append, List.filter_cons, List.filter_nil]
set_option maxRecDepth 100000 in
theorem vlc (L : List Rt) (A : Option Addr) (c : Nat) (g : FuncId) (f : Rt → Bool) (eg : ∀ args w, (callFunc g args).run Tryz.prog w = .ok (.enter g args) w)
  (hg : ∀ (r : Rt) (W : World), Calls Tryz.prog g #[roV r] W fun e w' => e = .returned (.bool (f r)) ∧ Kp W w') (w : World) (hS : Rd w 9 Rt.enc A L) (hn : L.length ≤ 900000) :
  Calls Tryz.prog 81 #[.slice A L.length c, .func (.func g) #[] #[]] w (SiftP (L.filter f) w) := by
 have HG := Lib.hid hg
 have HS := Lib.hid hS
 have R0 : Hid (SiI w L f 0 (.slice none 0 0) w) := Lib.hid ⟨by rw [List.take_zero]; exact Own.nil _ _ _ _ _, Kp.refl _⟩
 clear hg hS
 go_enter Tryz.func81, Tryz.ntmps81
 go_wp2_with fail
 go_loopw [5, 10] (fun v k wr => ∃ i : Nat, i ≤ L.length ∧ k = .int .i64 i ∧ Hid (SiI w L f i v wr)) (fun _ k _ => L.length - (intOf k).toNat)
 case atStart => exact ⟨0, Nat.zero_le _, rfl, R0⟩
 case round =>
  obtain ⟨i, hi, rfl, R⟩ := hrel
  obtain ⟨A2, c2, hv⟩ := R.out.1.form
  subst hv
  by_cases hlt : i < L.length
  ·have hgi : (i : Int) < (L.length : Int) := by omega
   have hg0 : (0 : Int) ≤ (i : Int) := by omega
   obtain ⟨b, off, hA, s0, s1, s2, s3, s4, s5, s6, s7, s8⟩ := vaU (HS.out.keep R.out.2) hlt
   subst hA
   have hnx := viU (f := f) hlt
   obtain ⟨r, hr⟩ : ∃ r, L[i] = r := ⟨_, rfl⟩
   rw [hr] at s0 s1 s2 s3 s4 s5 s6 s7 s8 hnx
   have HL : ((L.take i).filter f).length ≤ i := by
    have := List.length_filter_le f (L.take i)
    have h2 := List.length_take_le i L
    omega
   have HN := Lib.hid hnx
   obtain ⟨V, hV, bV, kV⟩ : ∃ V, wr.alloc (.cells (roC r) 87) = V ∧ Blk V wr.heap.size 87 (roC r) ∧ Kp wr V := ⟨_, rfl, Blk.new _ _ _, (Kp.refl _).alloc _⟩
   obtain ⟨n, hn0⟩ : ∃ n, wr.heap.size = n := ⟨_, rfl⟩
   rw [hn0] at bV
   have r0 := Blk.f bV rfl
   unfold roC at hV
   have HB := Lib.hid bV
   clear hr hnx bV
   cases hf : f r with
   | false =>
    have hc := HG.out r
    rw [hf] at hc
    have HC := Lib.hid hc
    have HF := Lib.hid hf
    clear hc hf
    go_wp2_with fail
    refine (HC.out _).mono ?_
    rintro e w1 ⟨rfl, K1⟩
    have R1 : Hid (SiI w L f (i + 1) (.slice A2 ((L.take i).filter f).length c2) w1) := Lib.hid ⟨by rw [HN.out, HF.out, if_neg (by simp), List.append_nil]; exact R.out.1.keep (kV.trans K1), R.out.2.trans (kV.trans K1)⟩
    clear s0 s1 s2 s3 s4 s5 s6 s7 s8 r0
    go_wp2_with fail
    go_roundw
    case rel => exact ⟨i + 1, by omega, by go_num, R1⟩
    case measure => simp [intOf]; omega
   | true =>
    have hc := HG.out r
    rw [hf] at hc
    have HC := Lib.hid hc
    have HF := Lib.hid hf
    clear hc hf
    go_wp2_with fail
    refine (HC.out _).mono ?_
    rintro e w1 ⟨rfl, K1⟩
    have b1 := HB.out.keep K1
    have q0 := Blk.f b1 rfl
    have k1 := R.out.2.trans (kV.trans K1)
    have o1 := R.out.1.keep (kV.trans K1)
    have sz1 := k1.size
    clear s0 s1 s2 s3 s4 s5 s6 s7 s8
    go_wp2_with (at_builtin; go_must (refine vau EHeld rfl _ _ rfl r rfl o1 k1 (Nat.le_refl _) sz1 rfl rfl rfl rfl rfl (by omega) ?_); intro v3 w3 hown3 hK3 hg3; obtain ⟨A3, c3, rfl⟩ := hown3.form1)
    have R1 : Hid (SiI w L f (i + 1) (.slice A3 (((L.take i).filter f).length + 1) c3) w3) := Lib.hid ⟨by rw [HN.out, HF.out, if_pos rfl]; exact hown3, hK3⟩
    clear hown3 hK3 hg3 o1
    go_wp2_with fail
    go_roundw
    case rel => exact ⟨i + 1, by omega, by go_num, R1⟩
    case measure => simp [intOf]; omega
  ·obtain rfl : i = L.length := by omega
   have hlast := R.out
   unfold SiI at hlast
   rw [List.take_length] at hlast
   have HE := Lib.hid hlast
   clear hlast
   go_wp2_with fail
   go_ret
   exact ⟨_, rfl, by rw [List.take_length]; exact HE.out.1, HE.out.2⟩
end

section
open Go.RowKit
def tbR (T : Tb) (A E : Option Addr) (m n : Nat) : Array Value := #[.int .i64 T.c.t0, .int .i64 T.c.t1, .int .i64 T.c.t2, .int .i64 T.c.t3, .int .i64 T.c.t4, .int .i64 T.c.t5, .int .i64 T.c.t6, .int .i64 T.c.cap, .slice A T.c.own.length m, .slice E T.l.length n, .int .i64 T.now, .int .i64 T.rf]
abbrev tbV (T : Tb) (A E : Option Addr) (m n : Nat) : Value := .agg #[.int .i64 T.c.t0, .int .i64 T.c.t1, .int .i64 T.c.t2, .int .i64 T.c.t3, .int .i64 T.c.t4, .int .i64 T.c.t5, .int .i64 T.c.t6, .int .i64 T.c.cap, .slice A T.c.own.length m, .slice E T.l.length n, .int .i64 T.now, .int .i64 T.rf]
structure RfM (W : World) (T : Tb) (A E : Option Addr) : Prop where
 own : Rd W 2 PI.enc A T.c.own
 l : Rd W 9 Rt.enc E T.l
theorem RfM.keep {W W' : World} {T : Tb} {A E : Option Addr} (h : RfM W T A E) (k : Kp W W') : RfM W' T A E := ⟨h.own.keep k, h.l.keep k⟩
theorem vbj {w : World} {g : Nat} {Y : TypeId} {T : Tb} {A E : Option Addr} {m n : Nat} (h : Blk w g Y (tbR T A E m n)) : w.cell? ⟨g, 0, none⟩ = some (.int .i64 T.c.t0) ∧ w.cell? ⟨g, 1, none⟩ = some (.int .i64 T.c.t1) ∧ w.cell? ⟨g, 2, none⟩ = some (.int .i64 T.c.t2) ∧ w.cell? ⟨g, 3, none⟩ = some (.int .i64 T.c.t3) ∧ w.cell? ⟨g, 4, none⟩ = some (.int .i64 T.c.t4) ∧ w.cell? ⟨g, 5, none⟩ = some (.int .i64 T.c.t5) ∧ w.cell? ⟨g, 6, none⟩ = some (.int .i64 T.c.t6) ∧ w.cell? ⟨g, 7, none⟩ = some (.int .i64 T.c.cap) ∧ w.cell? ⟨g, 8, none⟩ = some (.slice A T.c.own.length m) ∧ w.cell? ⟨g, 9, none⟩ = some (.slice E T.l.length n) ∧ w.cell? ⟨g, 10, none⟩ = some (.int .i64 T.now) ∧ w.cell? ⟨g, 11, none⟩ = some (.int .i64 T.rf) := ⟨h.cell 0, h.cell 1, h.cell 2, h.cell 3, h.cell 4, h.cell 5, h.cell 6, h.cell 7, h.cell 8, h.cell 9, h.cell 10, h.cell 11⟩
set_option maxRecDepth 100000 in
theorem vaJ (T : Tb) (A E : Option Addr) (m n : Nat) (now : Int) (w : World) : Calls Tryz.prog 89 #[tbV T A E m n, .int .i64 now] w fun e w' => e = .returned (.int .i64 (if timely T now then 0 else 170)) ∧ Kp w w' := by
 obtain ⟨b, hb⟩ : ∃ b, w.heap.size = b := ⟨_, rfl⟩
 obtain ⟨W, hW, kW, B0⟩ := Blk.al1 hb (tbR T A E m n) 39
 have s10 := Blk.f B0 rfl
 unfold tbR at hW
 clear B0
 obtain ⟨z, hz⟩ : ∃ z : Int, (if timely T now then (0 : Int) else 170) = z := ⟨_, rfl⟩
 rw [hz]
 cases ho : okNow now with
 | false =>
  have HO := Lib.hid ho
  have H := Lib.hid (show z = 170 by rw [← hz]; unfold timely; rw [ho]; rfl)
  clear ho hz
  go_enter Tryz.func89, Tryz.ntmps89
  go_wp2_with fail
  refine (vbW now _).mono ?_
  rintro e w1 ⟨rfl, hw1⟩
  rw [← hw1, HO.out]
  clear hw1 w1
  go_wp2_with fail
  go_ret
  exact ⟨by rw [H.out] <;> rfl, kW⟩
 | true =>
  have HO := Lib.hid ho
  by_cases hl : now < T.now
  ·have d : decide (now < T.now) = true := decide_eq_true hl
   have H := Lib.hid (show z = 170 by rw [← hz]; unfold timely; rw [ho, decide_eq_false (by omega)]; rfl)
   clear ho hl hz
   go_enter Tryz.func89, Tryz.ntmps89
   go_wp2_with fail
   refine (vbW now _).mono ?_
   rintro e w1 ⟨rfl, hw1⟩
   rw [← hw1, HO.out]
   clear hw1 w1
   go_wp2_with fail
   go_ret
   exact ⟨by rw [H.out] <;> rfl, kW⟩
  ·have d : decide (now < T.now) = false := decide_eq_false hl
   have H := Lib.hid (show z = 0 by rw [← hz]; unfold timely; rw [ho, decide_eq_true (by omega)]; rfl)
   clear ho hl hz
   go_enter Tryz.func89, Tryz.ntmps89
   go_wp2_with fail
   refine (vbW now _).mono ?_
   rintro e w1 ⟨rfl, hw1⟩
   rw [← hw1, HO.out]
   clear hw1 w1
   go_wp2_with fail
   go_ret
   exact ⟨by rw [H.out] <;> rfl, kW⟩
theorem vfF {fn : Func} {k j g : Nat} {ts : Array Value} {W : World} {R : Rt} {bv : Value} (hf : fn.results = #[.cell k 48, .tmp j]) (hk : ts.getD k undef = .pointer (some ⟨g, 0, none⟩)) (hj : ts.getD j undef = bv) (B : Blk W g 48 (roC R)) : (results fn ts).run Tryz.prog W = .ok (.tuple #[roV R, bv]) W := by
 obtain ⟨u0, u1, u2, u3, u4, u5, u6, u7, u8⟩ := vab B
 rw [Array.getD_eq_getD_getElem?] at hk hj
 simp [results, hf, hk, hj, go_sem, u0, u1, u2, u3, u4, u5, u6, u7, u8]
theorem vld {L : List Rt} {k : Nat} (hk : k < L.length) {p : PI} (h : ∀ x ∈ L.take k, x.p ≠ p) (e : L[k].p = p) : getR p L = some L[k] := by
 unfold getR
 rw [List.find?_eq_some_iff_getElem]
 refine ⟨by simpa using e, k, hk, rfl, fun j hj => ?_⟩
 have := h L[j] (by rw [List.mem_take_iff_getElem]; exact ⟨j, by omega, rfl⟩)
 simpa using this
theorem viV {L : List Rt} {k : Nat} (hk : k < L.length) {p : PI} (h : ∀ x ∈ L.take k, x.p ≠ p) (e : L[k].p ≠ p) : ∀ x ∈ L.take (k + 1), x.p ≠ p := by
 intro x hx
 rw [List.take_succ_eq_append_getElem hk, List.mem_append, List.mem_singleton] at hx
 rcases hx with hx | rfl
 ·exact h x hx
 ·exact e
theorem vgo (p q : PI) : ((p.a : Int) == (q.a : Int) && p.l == q.l) = decide (p = q) := by
 rw [Bool.eq_iff_iff]
 simp only [Bool.and_eq_true, beq_iff_eq, decide_eq_true_eq]
 exact ⟨fun h => PI.ext' (by omega) h.2, fun h => by subst h; exact ⟨rfl, rfl⟩⟩
set_option maxRecDepth 100000 in
theorem vmW (w : World) (a l b k : Int) : (binOp .eql 29 (.agg #[.int .u32 a, .int .i64 l]) (.agg #[.int .u32 b, .int .i64 k])).run Tryz.prog w = .ok (.bool (a == b && l == k)) w := by
 rw [run_eql_struct, run_equalIn_agg w 9999 _ _ _ Tryz.underlying29 (by kernel_rfl)]
 simp [Op.eqFields, part, go_sem, Tryz.underlying3, Tryz.underlying27]
 by_cases h1 : a = b <;> by_cases h2 : l = k <;> simp [h1, h2]
theorem vgp (w : World) (p q : PI) : (binOp .eql 29 (.agg #[.int .u32 (p.a : Int), .int .i64 p.l]) (.agg #[.int .u32 (q.a : Int), .int .i64 q.l])).run Tryz.prog w = .ok (.bool (decide (p = q))) w := by
 rw [vmW, vgo]
set_option maxRecDepth 100000 in
theorem vht (T : Tb) (A E : Option Addr) (m n : Nat) (p : PI) (w : World) (hR : Rd w 9 Rt.enc E T.l) (hn : T.l.length ≤ 1000000) :
  Calls Tryz.prog 33 #[tbV T A E m n, pfV p] w fun e w' => e = .returned (.tuple #[roV (wasR p T.l), .bool (getR p T.l).isSome]) ∧ Kp w w' := by
 obtain ⟨b, hb⟩ : ∃ b, w.heap.size = b := ⟨_, rfl⟩
 obtain ⟨W, hW, kW, B0, B1, B2⟩ : ∃ W, ((w.alloc (.cells (tbR T A E m n) 39)).alloc (.cells #[.int .u32 (p.a : Int), .int .i64 p.l] 29)).alloc (.cells zero9 48) = W ∧ Kp w W ∧ Blk W b 39 (tbR T A E m n) ∧ Blk W (b + 1) 29 #[.int .u32 (p.a : Int), .int .i64 p.l] ∧ Blk W (b + 1 + 1) 48 (roC zeroR) := ⟨_, rfl, (((Kp.refl _).alloc _).alloc _).alloc _, by rw [← hb]; exact ((Blk.new _ _ _).alloc _).alloc _, by rw [← hb]; exact (Blk.new1 _ _ _ _).alloc _, by rw [← hb]; exact Blk.new2 _ _ _ _ _⟩
 have HR := Lib.hid (hR.keep kW)
 have Hb := Lib.hid hb
 unfold tbR zero9 at hW
 clear hR
 go_enter Tryz.func33, Tryz.ntmps33
 go_wp2_with fail
 clear hW
 go_loopw [6] (fun i wr => ∃ k : Nat, k ≤ T.l.length ∧ i = .int .i64 k ∧ Hid (∀ x ∈ T.l.take k, x.p ≠ p) ∧ Kp W wr) (fun i _ => T.l.length - (intOf i).toNat)
 case atStart => exact ⟨0, Nat.zero_le _, rfl, Lib.hid (by simp), Kp.refl _⟩
 case round =>
  obtain ⟨k, hk, rfl, hN, hK⟩ := hrel
  have s9 := Blk.f (B0.keep hK) rfl
  have q0 := Blk.f (B1.keep hK) rfl
  by_cases hlt : k < T.l.length
  ·have hgi : (k : Int) < (T.l.length : Int) := by omega
   have hg0 : (0 : Int) ≤ (k : Int) := by omega
   obtain ⟨b', off, hE, c0, c1, c2, c3, c4, c5, c6, c7, c8⟩ := vaU (HR.out.keep hK) hlt
   subst hE
   have hne := fun u => vgp u T.l[k].p p
   by_cases he : T.l[k].p = p
   ·have H := Lib.hid (vld hlt hN.out he)
    rw [decide_eq_true he] at hne
    obtain ⟨r, hr⟩ : ∃ r, T.l[k] = r := ⟨_, rfl⟩
    rw [hr] at c0 c1 c2 c3 c4 c5 c6 c7 c8 hne H
    have HC := Lib.hid (And.intro c0 (And.intro c1 (And.intro c2 (And.intro c3 (And.intro c4 (And.intro c5 (And.intro c6 (And.intro c7 c8))))))))
    clear he hr
    go_wp2_with fail
    go_quiet (fail)
    clear hne
    have BZ := B2.keep hK
    have y0 := Blk.f BZ rfl
    have z0 := Blk.frozen BZ
    go_wp2_with fail
    have hgw : w.heap.size ≤ b + 1 + 1 := by have := Hb.out; omega
    refine bodyPost_ret (vfF (R := r) rfl rfl rfl (Blk.set9 (BZ.drewN _))) rfl ⟨?_, Kp.set9 ((kW.trans hK).drewN _) hgw⟩
    have hw : wasR p T.l = r := by unfold wasR; rw [H.out]; rfl
    rw [hw, H.out]
    rfl
   ·have H := Lib.hid (viV hlt hN.out he)
    rw [decide_eq_false he] at hne
    clear he
    go_wp2_with fail
    go_quiet (fail)
    go_wp2_with fail
    go_roundw
    case rel => exact ⟨k + 1, by omega, by go_num, H, hK.drewN _⟩
    case measure => simp [intOf]; omega
  ·obtain rfl : k = T.l.length := by omega
   have H := Lib.hid (show getR p T.l = none from vci.2 (fun x hx => hN.out x (by rw [List.take_length]; exact hx)))
   have BZ := B2.keep hK
   have y0 := Blk.f BZ rfl
   have z0 := Blk.frozen BZ
   go_wp2_with fail
   have hgw : w.heap.size ≤ b + 1 + 1 := by have := Hb.out; omega
   refine bodyPost_ret (vfF (R := noR p) rfl rfl rfl (Blk.set9 BZ)) rfl ⟨?_, Kp.set9 (kW.trans hK) hgw⟩
   have hw : wasR p T.l = noR p := by unfold wasR; rw [H.out]; rfl
   rw [hw, H.out]
   rfl
def Stays (w w' : World) (E : Option Addr) (L : List Rt) (E2 : Option Addr) (L2 : List Rt) : Prop := ∀ V, Rd V 9 Rt.enc E L → (∀ i, w.heap.size ≤ i → i < w'.heap.size → V.heap[i]? = w'.heap[i]?) → Rd V 9 Rt.enc E2 L2
theorem Stays.rd {w w' : World} {E E2 : Option Addr} {L L2 : List Rt} (h : Stays w w' E L E2 L2) (hR : Rd w 9 Rt.enc E L) (k : Kp w w') : Rd w' 9 Rt.enc E2 L2 := h w' (hR.keep k) (fun _ _ _ => rfl)
theorem Stays.same {w w' : World} {E : Option Addr} {L : List Rt} : Stays w w' E L E L := fun _ h _ => h
theorem Stays.new {w w' : World} {E E2 : Option Addr} {L L2 : List Rt} (hR : Rd w' 9 Rt.enc E2 L2) (h : ∀ a, E2 = some a → w.heap.size ≤ a.block) : Stays w w' E L E2 L2 := fun V _ hv i hi => by
 obtain ⟨b, off, e, hc⟩ := hR i hi
 exact ⟨b, off, e, fun j u hu => (World.cell?_of_block (w := w') (hv b (h _ e) (World.block_lt_of_cell? w' _ (hc j u hu)))).trans (hc j u hu)⟩
def RowSt (w : World) (E : Option Addr) (L : List Rt) (b : Nat) (V V' : World) : Prop := Rd V' 9 Rt.enc E L ∧ ∀ i, w.heap.size ≤ i → i < V.heap.size → i ≠ b → i ≠ b + 1 → V'.heap[i]? = V.heap[i]?
theorem RowSt.rd {w V V' : World} {E E2 : Option Addr} {L L2 : List Rt} {b : Nat} (h : RowSt w E L b V V') (hR : Rd V 9 Rt.enc E2 L2) (hA : ∀ a, E2 = some a → a.block ≠ b ∧ a.block ≠ b + 1 ∧ w.heap.size ≤ a.block) : Rd V' 9 Rt.enc E2 L2 := fun i hi => by
 obtain ⟨b2, off, e, hc⟩ := hR i hi
 obtain ⟨h1, h2, h3⟩ := hA _ e
 exact ⟨b2, off, e, fun j u hu => (World.cell?_of_block (w := V) (h.2 b2 h3 (World.block_lt_of_cell? V _ (hc j u hu)) h1 h2)).trans (hc j u hu)⟩
theorem RowSt.of {w V V' : World} {E : Option Addr} {L : List Rt} {b : Nat} {bs : List Nat} (hR : Rd V' 9 Rt.enc E L) (k : Only bs V V') (hb : ∀ i ∈ bs, i = b ∨ i = b + 1) : RowSt w E L b V V' := ⟨hR, fun i _ hl h1 h2 => k.block i hl (fun z => (hb i z).elim h1 h2)⟩
theorem RowSt.stays {w w' V : World} {E E2 : Option Addr} {L L2 : List Rt} {b : Nat} {bs : List Nat} (h : ∀ V', RowSt w E L b V V' → Rd V' 9 Rt.enc E2 L2) (k : Only bs V w') (hb : ∀ i ∈ bs, i = b ∨ i = b + 1) : Stays w w' E L E2 L2 := fun U h1 h2 => h U ⟨h1, fun i hi hl n1 n2 => (h2 i hi (Nat.lt_of_lt_of_le hl k.size)).trans (k.block i hl (fun z => (hb i z).elim n1 n2))⟩
end

end Go.Proofs.YtffckpkikdlbpaaGreatDoor
