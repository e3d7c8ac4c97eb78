/- Lemmas and contracts for the theorem of this claim: SoH, RxB. -/
import Derived.Test.YtffckpkikdlbpaaGreatDoorZtBj
set_option linter.unusedSimpArgs false
set_option linter.unusedVariables false
namespace Go.Proofs.YtffckpkikdlbpaaGreatDoor
open Go.RowKit
theorem jump_nrm {l : Nat} {J : Act → World → Prop} {Q : Exit → Act → World → Prop} {a : Act} {w : World} (h : Q .normal a w) : Exit.jump l J Q .normal a w := h
def allV (bx : Nat) : Value := .func (.func 42) #[] #[.pointer (some ⟨bx, 0, none⟩)]
structure AllM (bx : Nat) (A : Option Addr) (c : Nat) (L : List Rt) (W : World) : Prop where
  bx : Blk W bx 83 #[.slice A L.length c]
  rd : Rd W 9 Rt.enc A L
def AllP (L : List Rt) (w : World) (e : Ending) (w' : World) : Prop := ∃ bx A c, e = .returned (allV bx) ∧ AllM bx A c L w' ∧ Kp w w' ∧ w.heap.size ≤ bx ∧ ∀ a, A = some a → w.heap.size ≤ a.block ∧ a.block < bx
theorem AllM.only {bx : Nat} {A : Option Addr} {c : Nat} {L : List Rt} {w w' : World} {bs : List Nat} (h : AllM bx A c L w) (k : Only bs w w') (hb : bx ∉ bs) (hA : ∀ a, A = some a → a.block ∉ bs) : AllM bx A c L w' :=
  ⟨h.bx.only k hb, fun i hi => by
    obtain ⟨b, off, e, hc⟩ := h.rd i hi
    exact ⟨b, off, e, fun j u hu => k.cell (hc j u hu) (show b ∉ bs from hA ⟨b, off, none⟩ e)⟩⟩
theorem AllM.keep {bx : Nat} {A : Option Addr} {c : Nat} {L : List Rt} {w w' : World} (h : AllM bx A c L w) (k : Kp w w') : AllM bx A c L w' := ⟨h.bx.keep k, h.rd.keep k⟩
theorem own_lt9h {w : World} {B n c : Nat} {A : Option Addr} {rs : List Rt} (h : Own w B 87 9 Rt.enc (.slice A n c) rs) : ∀ a, A = some a → B ≤ a.block ∧ a.block < w.heap.size := by
  rintro a rfl
  exact World.ownsRow.lt h a.block rfl
set_option maxRecDepth 100000 in
set_option maxHeartbeats 2000000 in
theorem all_any (B t : Nat) (F : List Nat) (T : Tb) (w : World) (h : TabM w B t F T) : Calls Tryz.prog 12 #[.pointer (some ⟨t, 0, none⟩)] w (AllP T.l w) := by
  have HS := sorted_any B t F T 41 (fun _ => true) call_isAny isAny_any w h
  rw [List.filter_eq_self.2 (fun _ _ => rfl)] at HS
  have HS2 := Lib.hid HS
  clear HS h
  have hmf := makeFunc_runM
  obtain ⟨L, hL⟩ : ∃ L, T.l = L := ⟨_, rfl⟩
  rw [hL] at HS2 ⊢
  clear hL
  go_enter Tryz.func12, Tryz.ntmps12
  go_wp2_with fail
  refine HS2.out.mono ?_
  rintro e w1 ⟨v, rfl, hO, K1⟩
  obtain ⟨A, c, rfl, hR⟩ := hO.rd (by decide) Rt.len
  have hAl := Lib.hid (own_lt9h hO)
  have HR := Lib.hid hR
  have hs := K1.size
  clear hO hR HS2
  go_wp2_with fail
  go_ret
  exact ⟨w1.heap.size, A, c, rfl, ⟨Blk.new w1 _ _, HR.out.keep ((Kp.refl _).alloc _)⟩, K1.alloc _, hs, hAl.out⟩
theorem call_all1 (args : Array Value) (w : World) : (callFunc 42 args).run Tryz.prog w = .ok (.enter 42 args) w := by kernel_rfl
def rtAt (L : List Rt) (k : Nat) : Rt := L.getD k zeroR
theorem rtAt_eq {L : List Rt} {k : Nat} (h : k < L.length) : rtAt L k = L[k] := by simp [rtAt, List.getD, h]
set_option maxRecDepth 100000 in
set_option maxHeartbeats 2000000 in
theorem all1_iter (bx : Nat) (A : Option Addr) (c : Nat) (L : List Rt) (hn : L.length ≤ 900000) :
    Iter Tryz.prog 42 #[.pointer (some ⟨bx, 0, none⟩)] L.length (fun k => #[.int .i64 (k : Nat), roV (rtAt L k)]) (AllM bx A c L) := by
  intro l I Z W hI hZ hM hy h0
  have HI := Lib.hid hI
  have HM := Lib.hid hM
  have HY := Lib.hid hy
  have D0 := HM.out 0 W h0
  have c0 : W.cell? ⟨bx, 0, none⟩ = some (.slice A L.length c) := D0.bx.cell 0
  have H0 := Lib.hid h0
  clear hI hZ hM hy h0 D0
  go_enter Tryz.func42, Tryz.ntmps42
  go_wp2_with fail
  refine wp_scope_fwd 0 rfl ?_
  go_wp2_with fail
  refine wp_label ?_
  go_wp2_with fail
  clear c0
  go_loopw [7] (fun i wr => ∃ k : Nat, k ≤ L.length ∧ i = .int .i64 k ∧ Hid (I k wr)) (fun i _ => L.length - (intOf i).toNat)
  case atStart => exact ⟨0, Nat.zero_le _, rfl, H0⟩
  case round =>
    obtain ⟨k, hk, rfl, hi⟩ := hrel
    by_cases hlt : k < L.length
    · have hgi : (k : Int) < (L.length : Int) := by omega
      have hg0 : (0 : Int) ≤ (k : Int) := by omega
      have D := HM.out k wr hi.out
      obtain ⟨b, off, hA, s0, s1, s2, s3, s4, s5, s6, s7, s8⟩ := rt9_at D.rd hlt
      subst hA
      obtain ⟨r, hr⟩ : ∃ r, L[k] = r := ⟨_, rfl⟩
      rw [hr] at s0 s1 s2 s3 s4 s5 s6 s7 s8
      have Hr := Lib.hid (show rtAt L k = r by rw [rtAt_eq hlt, hr])
      obtain ⟨V, hV, bV, kV⟩ : ∃ V, wr.alloc (.cells (roC r) 87) = V ∧ Blk V wr.heap.size 87 (roC r) ∧ Kp wr V := ⟨_, rfl, Blk.new _ _ _, (Kp.refl _).alloc _⟩
      obtain ⟨n, hn0⟩ : ∃ n, wr.heap.size = n := ⟨_, rfl⟩
      rw [hn0] at bV
      obtain ⟨r0, r1, r2, r3, r4, r5, r6, r7, r8⟩ := ro_cells bV
      unfold roC at hV
      obtain ⟨fn, tmps, asg, bd, hrun, hround⟩ := HY.out k V hlt (HI.out k _ _ hi.out kV)
      rw [Hr.out] at hrun
      have HRN := Lib.hid hrun
      have HRO := Lib.hid hround
      clear hrun hround hr D kV bV
      go_upto_region 3 with (fail)
      refine (wpIn_wide (n := 0)).1 ?_
      gi_wp2_with fail
      rw [HRN.out, Oper.uponIn_round]
      refine ⟨(fun h => by cases h), HRO.out.mono ?_⟩
      clear s0 s1 s2 s3 s4 s5 s6 s7 s8 r0 r1 r2 r3 r4 r5 r6 r7 r8 hV
      rintro e W' (⟨rfl, hi2⟩ | ⟨rfl, hz⟩)
      · have Hi2 := Lib.hid hi2; clear hi2
        gi_wp2_with fail
        go_wp2_with fail
        go_roundw
        case rel => exact ⟨k + 1, by omega, by go_num, Hi2⟩
        case measure => simp [intOf]; omega
      · have Hz := Lib.hid hz; clear hz
        gi_wp2_with fail
        go_wp2_with fail
        refine jump_nrm ?_
        go_end0
        exact ⟨rfl, .inr ⟨k + 1, by omega, by omega, Hz.out⟩⟩
    · obtain rfl : k = L.length := by omega
      go_wp2_with fail
      refine jump_nrm ?_
      go_end0
      exact ⟨rfl, .inl hi.out⟩
end Go.Proofs.YtffckpkikdlbpaaGreatDoor

namespace Go.Proofs.YtffckpkikdlbpaaGreatDoor
open Go.RowKit Go.Maps
theorem expG_cnt (c : Cf) (now : Int) : ∀ (k : Nat) (L : List Rt), 0 ≤ (expG c now k L).2 ∧ (expG c now k L).2 ≤ k
  | 0, L => ⟨Int.le_refl _, Int.le_refl _⟩
  | k + 1, L => by
    unfold expG
    split
    · exact ⟨Int.le_refl _, by show (0 : Int) ≤ _; omega⟩
    · split
      · exact ⟨Int.le_refl _, by show (0 : Int) ≤ _; omega⟩
      · have := expG_cnt c now k (setR (expR c ‹Rt› now) L)
        show 0 ≤ (_ : Int) + 1 ∧ (_ : Int) + 1 ≤ _
        omega
theorem expE_cnt (c : Cf) (now : Int) (L : List Rt) : 0 ≤ (expE c now L).2 ∧ (expE c now L).2 ≤ 2 * L.length + 1 := by
  have h := expG_cnt c now (dueS now L + 1) L
  have h2 := dueS_le now L
  unfold expE
  omega
def DueSt (w : World) (B t q mp m : Nat) (A : Option Addr) (QF : List Nat) (l : List Tw) (T : Tb) (p : PI) (is : Bool) : Prop :=
  (is = false ∧ TabX w B t q mp m A QF l T ∧ ∀ y ∈ armL T.l, T.now < y.d) ∨ (is = true ∧ ∃ r, p = r.p ∧ firstR T.l = some r ∧ r ∈ T.l ∧ 2 ≤ r.s ∧ r.d ≤ T.now ∧ TabZ r.p w B t q mp m A QF l T)
theorem DueSt.only {w w' : World} {B t q mp m : Nat} {A : Option Addr} {QF bs : List Nat} {l : List Tw} {T : Tb} {p : PI} {is : Bool} (h : DueSt w B t q mp m A QF l T p is) (k : Only bs w w') (hb : ∀ b ∈ bs, b ∉ t :: mp :: QF) (hA : ∀ a, A = some a → a.block ∉ bs) : DueSt w' B t q mp m A QF l T p is := by
  rcases h with ⟨h1, h2, h3⟩ | ⟨h1, r, h2, h3, h4, h5, h6, h7⟩
  · exact .inl ⟨h1, h2.only k hb hA, h3⟩
  · exact .inr ⟨h1, r, h2, h3, h4, h5, h6, h7.only k hb hA⟩
theorem DueSt.keep {w w' : World} {B t q mp m : Nat} {A : Option Addr} {QF : List Nat} {l : List Tw} {T : Tb} {p : PI} {is : Bool} (h : DueSt w B t q mp m A QF l T p is) (k : Kp w w') : DueSt w' B t q mp m A QF l T p is :=
  h.only (bs := []) (Only.of_kp k) (by simp) (by simp)
theorem DueSt.lo {w : World} {B t q mp m : Nat} {A : Option Addr} {QF : List Nat} {l : List Tw} {T : Tb} {p : PI} {is : Bool} (h : DueSt w B t q mp m A QF l T p is) : ∀ b ∈ t :: mp :: QF, B ≤ b ∧ b < w.heap.size := by
  rcases h with ⟨_, h2, _⟩ | ⟨_, r, _, _, _, _, _, h7⟩
  · exact h2.lo
  · exact h7.lo
def DueT (w w' : World) (B t q mp m : Nat) (A : Option Addr) (QF : List Nat) (T : Tb) (p : PI) (is : Bool) : Prop := ∃ QF' l', DueSt w' B t q mp m A QF' l' T p is ∧ Only QF w w' ∧ ∀ b ∈ QF', b ∈ QF ∨ w.heap.size ≤ b
theorem due_st (B t q mp m : Nat) (A : Option Addr) (QF : List Nat) (l : List Tw) (T : Tb) (w : World) (X : TabX w B t q mp m A QF l T) : Calls Tryz.prog 71 #[.agg #[.pointer (some ⟨q, 0, none⟩)], .int .i64 T.now] w fun e w' => ∃ p is, e = .returned (.tuple #[pfV p, .bool is]) ∧ DueT w w' B t q mp m A QF T p is := by
  by_cases hd : ∃ y ∈ armL T.l, y.d ≤ T.now
  · refine (due_tab_yes B t q mp m A QF l T T.now w X hd).mono ?_
    rintro e w' ⟨r, h1, h2, h3, h4, rfl, QF', l', h5, h6, h7⟩
    exact ⟨r.p, true, rfl, QF', l', .inr ⟨rfl, r, rfl, h1, h2, h3, h4, h5⟩, h6, h7⟩
  · have hd' : ∀ y ∈ armL T.l, T.now < y.d := fun y hy => by
      by_cases h : T.now < y.d
      · exact h
      · exact absurd ⟨y, hy, by omega⟩ hd
    refine (due_tab_no B t q mp m A QF l T T.now w X hd').mono ?_
    rintro e w' ⟨rfl, K⟩
    exact ⟨⟨0, 0⟩, false, rfl, QF, l, .inl ⟨rfl, X.keep K, hd'⟩, Only.of_kp K, fun b hb => .inl hb⟩
structure ExI (w0 : World) (B t q mp m : Nat) (A : Option Addr) (QF0 : List Nat) (pt pn pc : Nat) (T : Tb) (L : List Rt) (k : Int) (g : Nat) (p : PI) (is : Bool) (QF : List Nat) (l : List Tw) (wr : World) : Prop where
  bt : Blk wr pt 36 #[.pointer (some ⟨t, 0, none⟩)]
  bn : Blk wr pn 2 #[.int .i64 T.now]
  bc : Blk wr pc 3 #[.int .i64 k]
  bg : Blk wr g 29 #[.int .u32 (p.a : Int), .int .i64 p.l]
  gg : w0.heap.size ≤ g ∧ g ∉ QF
  on : Only (pc :: t :: mp :: QF0) w0 wr
  nw : ∀ b ∈ QF, b ∈ QF0 ∨ w0.heap.size ≤ b
  ok : TbOk ⟨T.c, L, T.now, T.rf⟩
  xs : ∀ r ∈ L, r.x < 4294967296
  kk : 0 ≤ k
  ex : expE T.c T.now T.l = ((expE T.c T.now L).1, (expE T.c T.now L).2 + k)
  st : DueSt wr B t q mp m A QF l ⟨T.c, L, T.now, T.rf⟩ p is
theorem exp_x {c : Cf} {r : Rt} {now : Int} (h : r.x < 4294967296) : (expR c r now).x < 4294967296 := by
  unfold expR
  repeat' split
  all_goals first | exact h | exact (by decide : (0 : Nat) < 4294967296)
theorem Only.joinF {F bs : List Nat} {w w1 w2 : World} (h : Only F w w1) (k : Only bs w1 w2) (hb : ∀ b ∈ bs, b ∈ F ∨ w.heap.size ≤ b) : Only F w w2 :=
  ⟨k.os.trans h.os, k.tape.trans h.tape, k.output.trans h.output, Nat.le_trans h.size k.size, fun i hi hn => (k.block i (Nat.lt_of_lt_of_le hi h.size) (fun e => (hb i e).elim hn (fun z => by omega))).trans (h.block i hi hn)⟩
theorem Only.wider {F G : List Nat} {w w' : World} (h : Only F w w') (hs : ∀ b ∈ F, b ∈ G) : Only G w w' :=
  ⟨h.os, h.tape, h.output, h.size, fun i hi hn => h.block i hi (fun z => hn (hs i z))⟩
theorem field_held (v0 v1 v2 v3 v4 v5 v6 v7 v8 : Value) (w : World) : (Instr.field 87 (.agg #[v0, v1, v2, v3, v4, v5, v6, v7, v8]) 0).run Tryz.prog w = .ok (.agg #[v0, v1, v2, v3, v4, v5, v6, v7, v8]) w := by kernel_rfl
theorem look_r {w : World} {m : Nat} {L : List Rt} (h : MapR w m L) (u : UpR L) (hw : ∀ r ∈ L, wfP r.p) {r : Rt} (hr : r ∈ L) : ∀ w' w'', Kp w w' → w''.heap = w'.heap → (Instr.lookup 105 (.map (some m)) (pfV r.p) false).run Tryz.prog w'' = .ok (.agg #[.int .u32 (r.p.a : Int), .int .i64 r.p.l, .int .i64 r.s, .int .i64 r.m, .int .i64 r.l, .int .i64 r.f, .int .u32 (r.x : Int), .int .i64 r.d, .bool r.c]) w'' := by
  intro w' w'' k e
  have := look_ro1 (h.keep k) u hw (hw r hr) w'' e
  rw [getR_some u hr] at this
  exact this
end Go.Proofs.YtffckpkikdlbpaaGreatDoor
