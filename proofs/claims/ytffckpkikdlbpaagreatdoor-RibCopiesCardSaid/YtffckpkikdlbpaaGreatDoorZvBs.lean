/- Lemmas and contracts for the theorem of this claim: R12H. -/
import Derived.Test.YtffckpkikdlbpaaGreatDoorZvBd
import Derived.Test.YtffckpkikdlbpaaGreatDoorZvBq
import Derived.Test.YtffckpkikdlbpaaGreatDoorZvBr
set_option linter.all false
set_option maxHeartbeats 16000000
namespace Go.Proofs.YtffckpkikdlbpaaGreatDoor
section
open Go.RowKit
structure NewM (V : World) (g : Nat) (c : Cf) (A : Option Addr) (m : Nat) (L : List Rt) (E : Option Addr) (n : Nat) (y : Rt) (z : Value × Value) (D : Nat → Bool) (W : World) : Prop where
 only : Only [g] V W
 tb : D 10 = false → Blk W g 39 (tbR ⟨c, L, 0, 0⟩ A E m n)
 own : D 8 = false → Own W V.heap.size 48 9 Rt.enc (.slice E L.length n) L
 one : D 7 = true → D 8 = false → ∃ k, z.1 = .slice (some ⟨k, 0, none⟩) 1 1 ∧ Blk W k 48 (roC y) ∧ (.slice E L.length n : Value).ownBlock ≠ some k
 own8 : D 8 = true → Own W V.heap.size 48 9 Rt.enc z.2 (L ++ [y])
 tb10 : D 10 = true → ∃ A8 n8, z.2 = .slice A8 (L.length + 1) n8 ∧ Blk W g 39 (tbR ⟨c, L ++ [y], 0, 0⟩ A A8 m n8)
section
variable {V W W' : World} {g m n : Nat} {c : Cf} {A E : Option Addr} {L : List Rt} {y : Rt} {z : Value × Value} {D : Nat → Bool}
theorem NewM.start (k : Only [g] V W) (B : Blk W g 39 (tbR ⟨c, L, 0, 0⟩ A E m n)) (O : Own W V.heap.size 48 9 Rt.enc (.slice E L.length n) L) : NewM V g c A m L E n y z (fun _ => false) W.drew :=
 ⟨k.drew, fun _ => B.drew, fun _ => O.drew, fun h => absurd h (by decide), fun h => absurd h (by decide), fun h => absurd h (by decide)⟩
theorem NewM.cong {D' : Nat → Bool} (e : ∀ j ∈ [7, 8, 10], D' j = D j) (h : NewM V g c A m L E n y z D W) : NewM V g c A m L E n y z D' W := by
 have e7 := e 7 (by simp)
 have e8 := e 8 (by simp)
 have e10 := e 10 (by simp)
 exact ⟨h.only, fun d => h.tb (e10 ▸ d), fun d => h.own (e8 ▸ d), fun d d2 => h.one (e7 ▸ d) (e8 ▸ d2), fun d => h.own8 (e8 ▸ d), fun d => h.tb10 (e10 ▸ d)⟩
theorem NewM.keep (h : NewM V g c A m L E n y z D W) (k : Kp W W') : NewM V g c A m L E n y z D W' := by
 refine ⟨h.only.trans (Only.of_kp k), fun d => (h.tb d).keep k, fun d => (h.own d).keep k, fun d d2 => ?_, fun d => (h.own8 d).keep k, fun d => ?_⟩
 ·obtain ⟨q, h1, h2, h3⟩ := h.one d d2
  exact ⟨q, h1, h2.keep k, h3⟩
 ·obtain ⟨A8, n8, h1, h2⟩ := h.tb10 d
  exact ⟨A8, n8, h1, h2.keep k⟩
theorem NewM.at7 (h : NewM V g c A m L E n y z D W) (d8 : D 8 = false) (d10 : D 10 = false) : NewM V g c A m L E n y (.slice (some ⟨W.heap.size, 0, none⟩) 1 1, z.2) (fun j => j == 7 || D j) (W.alloc (.cells (roC y) 48)) := by
 refine ⟨h.only.alloc _, fun _ => (h.tb d10).alloc _, fun _ => (h.own d8).alloc _, fun _ _ => ⟨W.heap.size, rfl, Blk.new _ _ _, fun he => ?_⟩, fun d => ?_, fun d => ?_⟩
 ·have := (World.ownsRow.lt (h.own d8) _ he).2
  omega
 ·have : D 8 = true := d
  rw [d8] at this
  cases this
 ·have : D 10 = true := d
  rw [d10] at this
  cases this
theorem NewM.at8 {u : Value} (h : NewM V g c A m L E n y z D W) (hg : g < V.heap.size) (d10 : D 10 = false) (d8 : D 8 = false) (hO : Own W' V.heap.size 48 9 Rt.enc u (L ++ [y])) (hw : W.grownBy W' (.slice E L.length n : Value).ownBlock) : NewM V g c A m L E n y (z.1, u) (fun j => j == 8 || D j) W' := by
 have hr : ∀ k, (.slice E L.length n : Value).ownBlock = some k → V.heap.size ≤ k := fun k hk => (World.ownsRow.lt (h.own d8) k hk).1
 refine ⟨h.only.grown hw hr, fun _ => (h.tb d10).grown hw (fun e => ?_), fun d => ?_, fun _ d => ?_, fun _ => hO, fun d => ?_⟩
 ·have := hr g e.symm
  omega
 ·have : (true || D 8) = false := d
  cases this
 ·have : (true || D 8) = false := d
  cases this
 ·have : D 10 = true := d
  rw [d10] at this
  cases this
theorem NewM.at10 (h : NewM V g c A m L E n y z D W) (hg : g < V.heap.size) (d10 : D 10 = false) (d8 : D 8 = true) : NewM V g c A m L E n y z (fun j => j == 10 || D j) (W.setCell ⟨g, 9, none⟩ z.2) := by
 have hO := h.own8 d8
 refine ⟨h.only.setCell (.inl (by simp)) _, fun d => ?_, fun d => ?_, fun _ d => ?_, fun _ => hO.setBelow (p := ⟨g, 9, none⟩) hg _, fun _ => ?_⟩
 ·have : (true || D 10) = false := d
  cases this
 ·have : D 8 = false := d
  rw [d8] at this
  cases this
 ·have : D 8 = false := d
  rw [d8] at this
  cases this
 ·obtain ⟨A8, n8, e8⟩ := hO.form
  rw [List.length_append, List.length_singleton] at e8
  refine ⟨A8, n8, e8, ?_⟩
  have B := (h.tb d10).set_ 9 z.2
  rw [e8] at B ⊢
  have e : (tbR ⟨c, L, 0, 0⟩ A E m n).setIfInBounds 9 (.slice A8 (L.length + 1) n8) = tbR ⟨c, L ++ [y], 0, 0⟩ A A8 m n8 := by
   unfold tbR
   simp
  rw [e] at B
  exact B
theorem NewM.fin (h : NewM V g c A m L E n y z D W) (d8 : D 8 = true) (d10 : D 10 = true) : ∃ A8 n8, Only [g] V W ∧ Blk W g 39 (tbR ⟨c, L ++ [y], 0, 0⟩ A A8 m n8) ∧ Own W V.heap.size 48 9 Rt.enc (.slice A8 (L ++ [y]).length n8) (L ++ [y]) := by
 obtain ⟨A8, n8, e, B⟩ := h.tb10 d10
 have := h.own8 d8
 rw [e] at this
 refine ⟨A8, n8, h.only, B, ?_⟩
 rw [List.length_append, List.length_singleton]
 exact this
end
theorem vhC {α : Type} {enc : α → List Value} {P : Program} {t e : TypeId} {z : Value} {size bytes : Nat} (E : ElemOf P t e z size bytes) (henc : ∀ x, (enc x).length = size) (hone : ∀ x, ∀ u ∈ enc x, u.oneCell' = true)
  {w : World} {o : Oper} {a f : Act} {K : Act → World → Prop} {Q : Exit → Act → World → Prop} (s x : Operand) (ho : o.op = .call { callee := .builtin .append, args := #[s, x], argTypes := #[t, t] })
  {base : Nat} {v : Value} {xs ys : List α} {A : Option Addr} {c : Nat} (hs : f.eval s = v) (hx : f.eval x = .slice A ys.length c) (hown : Own w base e size enc v xs) (hrd : Rd w size enc A ys)
  (hfit : (xs.length + ys.length) * (bytes + 1) ≤ 140737488355328) (hbase : base ≤ w.heap.size)
  (h : ∀ v' w', Own w' base e size enc v' (xs ++ ys) → w.grownBy w' v.ownBlock → (v'.ownBlock = v.ownBlock ∨ v'.ownBlock = some w.heap.size) → K (a.put o.dst v') w') : o.upon P a K Q ((execOp f.eval o).run P w) := by
 obtain ⟨v', w', hr, h1, h2, h3⟩ := vef E o.type henc hone hown hrd hfit hbase
 simp [execOp, ho, resolve, invoke, builtin, hs, hx, Result.andThen]
 rw [hr]
 exact h v' w' h1 h2 h3
theorem vfP {α : Type} {w : World} {base e sz n c : Nat} {enc : α → List Value} {A : Option Addr} {xs : List α} (h : Own w base e sz enc (.slice A n c) xs) : ∀ a, A = some a → base ≤ a.block := by
 intro a e
 subst e
 rcases h.2 with ⟨h1, _⟩ | ⟨g, cap, cur, h1, hg, _⟩
 ·cases h1
 ·injection h1 with h1 _ _
  injection h1 with h1
  subst h1
  exact hg
theorem vno {w : World} {g : Nat} {y : Rt} (hB : Blk w g 48 (roC y)) : Rd w 9 Rt.enc (some ⟨g, 0, none⟩) [y] := fun i hi => by
 have : i = 0 := by simpa using hi
 subst this
 refine ⟨g, 0, rfl, fun j u hu => ?_⟩
 have e3 : 0 + 0 * 9 + j = j := by omega
 rw [e3, hB.cell]
 have hu2 : (roC y).toList[j]? = some u := hu
 simpa using hu2
def NwR (V : World) (g : Nat) (c : Cf) (A : Option Addr) (m : Nat) (S : List PI) (i : Nat) (W : World) : Prop := ∃ E n, Only [g] V W ∧ Blk W g 39 (tbR ⟨c, (S.take i).map ownR, 0, 0⟩ A E m n) ∧ Own W V.heap.size 48 9 Rt.enc (.slice E ((S.take i).map ownR).length n) ((S.take i).map ownR)
theorem vlu {S : List PI} {i : Nat} (hi : i < S.length) : (S.take (i + 1)).map ownR = (S.take i).map ownR ++ [ownR S[i]] := by
 rw [List.take_succ_eq_append_getElem hi, List.map_append]
 rfl
set_option maxRecDepth 100000 in
theorem vdS (c : Cf) (A : Option Addr) (m : Nat) (w : World) (hS : SlPI w A m c.own) (ha : ∀ k (hk : k < c.own.length), c.own[k].a < 4294967296) (hn : c.own.length ≤ 100000) :
  Calls Tryz.prog 39 #[cfV c A c.own.length m] w fun e w' => (okCf c = true → ∃ E n, e = .returned (.tuple #[tbV (newT c) A E m n, .int .i64 0]) ∧ Rd w' 9 Rt.enc E (newT c).l ∧ ∀ a, E = some a → w.heap.size ≤ a.block) ∧ (okCf c = false → e = .returned (.tuple #[tbV zeroTb none none 0 0, .int .i64 2])) ∧ Kp w w' := by
 obtain ⟨b, hb⟩ : ∃ b, w.heap.size = b := ⟨_, rfl⟩
 obtain ⟨W, hW, kW, B0, B1⟩ : ∃ W, (w.alloc (.cells (cfC c A c.own.length m) 24)).alloc (.cells zero12 39) = W ∧ Kp w W ∧ Blk W b 24 (cfC c A c.own.length m) ∧ Blk W (b + 1) 39 (tbR zeroTb none none 0 0) := ⟨_, rfl, ((Kp.refl _).alloc _).alloc _, by rw [← hb]; exact (Blk.new _ _ _).alloc _, by rw [← hb]; exact Blk.new1 _ _ _ _⟩
 have HB0 := Lib.hid B0
 have HB1 := Lib.hid B1
 have HkW := Lib.hid kW
 have Hb := Lib.hid hb
 have HS := Lib.hid hS
 have HWF := Lib.hid ha
 obtain ⟨c0, c1, c2, c3, c4, c5, c6, c7, c8⟩ := Blk.p9 B0
 unfold cfC zero12 at hW
 clear hS ha B0 B1 kW
 go_enter Tryz.func39, Tryz.ntmps39
 go_wp2_with fail
 clear hW
 refine (vfO c A m _ (HS.out.keep HkW.out) HWF.out (by omega)).mono ?_
 rintro e w1 ⟨rfl, K1⟩
 have B0 := HB0.out.keep K1
 have B1 := HB1.out.keep K1
 clear c0 c1 c2 c3 c4 c5 c6 c7 c8
 have HB0 := Lib.hid B0
 have HB1 := Lib.hid B1
 have HkW := Lib.hid (HkW.out.trans K1)
 obtain ⟨c0, c1, c2, c3, c4, c5, c6, c7, c8⟩ := Blk.p9 B0
 have z0 := Blk.frozen B1
 have y0 := Blk.f B1 rfl
 clear B0 B1 K1
 cases hok : okCf c with
 | false =>
  have HOK := Lib.hid hok
  clear hok
  go_wp2_with fail
  have hgw : w.heap.size ≤ b + 1 := by have := Hb.out; omega
  refine bodyPost_ret (vfG (T := zeroTb) (A := none) (E := none) (m := 0) (n := 0) rfl rfl rfl (Blk.set12 HB1.out)) rfl ?_
  exact ⟨(fun h => absurd (HOK.out.symm.trans h) (by decide)), (fun _ => rfl), Kp.set12 HkW.out hgw⟩
 | true =>
  have HOK := Lib.hid hok
  clear hok
  clear y0 z0
  obtain ⟨g, hg⟩ : ∃ g, w1.heap.size = g := ⟨_, rfl⟩
  have k2 : Kp w1 (w1.alloc (.cells (tbR ⟨c, [], 0, 0⟩ A none m 0) 39)) := (Kp.refl _).alloc _
  have HB2 : Hid (Blk (w1.alloc (.cells (tbR ⟨c, [], 0, 0⟩ A none m 0) 39)) g 39 (tbR ⟨c, [], 0, 0⟩ A none m 0)) := Lib.hid (by rw [← hg]; exact Blk.new _ _ _)
  have Hg := Lib.hid hg
  have HkW2 := Lib.hid (HkW.out.trans k2)
  clear hg
  have d8 : (w1.alloc (.cells (tbR ⟨c, [], 0, 0⟩ A none m 0) 39)).cell? ⟨b, 8, none⟩ = some (.slice A c.own.length m) := (HB0.out.keep k2).cell 8
  unfold tbR at d8
  simp only [List.length_nil, Int.natCast_zero] at d8
  clear k2
  go_wp2_with fail
  clear d8 c0 c1 c2 c3 c4 c5 c6 c7 c8
  rw [Hg.out]
  refine (vjs c.own A m _ (HS.out.rd.keep HkW2.out) hn).mono ?_
  rintro e w3 ⟨S, E2, n2, rfl, hup, hmem, hOS, K3⟩
  have hgs : g < w3.heap.size := (HB2.out.keep K3).lt
  have HK3 := Lib.hid (HkW2.out.trans K3)
  have HK13 : Hid (Kp w1 w3) := Lib.hid (((Kp.refl _).alloc _).trans K3)
  have HUP := Lib.hid (vhn hup hmem)
  have hSl : S.length ≤ 100000 := by
   have h1 := vcr (vlG HOK.out)
   rw [← HUP.out, List.length_map] at h1
   omega
  have HRS := Lib.hid (Own.rdAt (by decide) PI.len hOS)
  have HAS : Hid (∀ a, E2 = some a → a.block ≠ g) := Lib.hid (fun a e z => by
   have h1 := vfP hOS a e
   have h2 := HB2.out.lt
   omega)
  have R0 : Hid (NwR w3 g c A m S 0 w3) := Lib.hid ⟨none, 0, Only.refl _ _, HB2.out.keep K3, Own.nil _ _ _ _ _⟩
  clear hup hmem hOS K3
  go_wp2_with fail
  go_loopw [6] (fun s6 wr => ∃ i : Nat, i ≤ S.length ∧ s6 = .int .i64 i ∧ Hid (NwR w3 g c A m S i wr)) (fun s _ => S.length - (intOf s).toNat)
  case atStart => exact ⟨0, Nat.zero_le _, rfl, R0⟩
  case round =>
   obtain ⟨i, hi, rfl, HN⟩ := hrel
   by_cases hlt : i < S.length
   ·have hgi : (i : Int) < (S.length : Int) := by omega
    have hg0 : (0 : Int) ≤ (i : Int) := by omega
    obtain ⟨E3, n3, hO3, hB3, hW3⟩ := HN.out
    obtain ⟨L, hL⟩ : ∃ L, (S.take i).map ownR = L := ⟨_, rfl⟩
    rw [hL] at hB3 hW3
    have hLl : L.length = i := by rw [← hL, List.length_map, List.length_take]; omega
    have HL := Lib.hid hL
    have HLl := Lib.hid hLl
    clear hLl
    obtain ⟨y, hy⟩ : ∃ y, ownR S[i] = y := ⟨_, rfl⟩
    have HY := Lib.hid hy
    obtain ⟨b1, off1, hA, p0, p1⟩ := pi_at HRS.out hlt
    subst hA
    obtain ⟨p, hp⟩ : ∃ p, S[i] = p := ⟨_, rfl⟩
    have HPI := Lib.hid hp
    rw [hp] at p0 p1 hy
    have HP := Lib.hid (And.intro p0 p1)
    have HLP := Lib.hid (show (S.take (i + 1)).map ownR = L ++ [y] by rw [vlu hlt, hL, HY.out])
    have HY := Lib.hid hy
    have hbn : b1 ≠ g := HAS.out _ rfl
    clear hL hy p0 p1 hp
    have HM0 := Lib.hid (NewM.start (z := (undef, undef)) (y := y) hO3 hB3 hW3)
    have HO3 := Lib.hid hO3
    have hgs2 := hgs
    clear hO3 hB3 hW3
    go_upto_region 8 with (fail)
    refine' vag (NewM w3 g c A m L E3 n3 y) [22, 23, 24, 25, 26, 27, 28, 29, 30, 31, 10010] (fun z => [.pointer (some ⟨g, 9, none⟩), .slice E3 L.length n3, .slice (some ⟨b1, off1, none⟩) S.length n2, .int .i64 i, .pointer (some ⟨b1, off1 + i * 2, none⟩), .agg #[.int .u32 (p.a : Int), .int .i64 p.l], roV y, z.1, z.2, .pointer (some ⟨g, 9, none⟩), undef]) (List.replicate 11 true) [7, 8, 10] (by kernel_rfl) (by kernel_rfl) (fun _ => rfl) (fun _ => rfl) (fun _ => rfl) (undef, undef) HM0.out (fun _ _ _ _ e h => h.cong e) ?_ ?_ ?_
    rotate_left
    ·intro z; simp only [List.zip_cons_cons, List.zip_nil_right, wrC, wrN, List.set_cons_zero, List.set_cons_succ, List.set_nil]; rfl
    ·repeat' (first | refine And.intro ?_ ?_ | exact trivial)
     all_goals intro z L9 a w9 hLi d hcl hM hO K hK
     all_goals have c0 : w9.cell? ⟨b1, off1 + i * 2, none⟩ = some (.int .u32 (p.a : Int)) := hM.only.cell HP.out.1 (by simpa using hbn)
     all_goals have c1 : w9.cell? ⟨b1, off1 + i * 2 + 1, none⟩ = some (.int .i64 p.l) := hM.only.cell HP.out.2 (by simpa using hbn)
     all_goals try (go_simp; exact hK z _ _ (hO rfl) (fun _ _ => rfl) rfl)
     ·have s9 := Blk.f (hM.tb (vac _ hcl (i := 10) (j := 1) rfl rfl hLi)) rfl
      go_simp
      exact hK z _ _ (hO rfl) (fun _ _ => rfl) rfl
     ·go_simp
      refine (vhe p _).mono ?_
      rintro e9 wb ⟨rfl, hKc⟩
      rw [HY.out]
      exact hK z _ _ ((hO rfl).keep hKc) (fun _ _ => rfl) rfl
     ·have n8 : L9 8 = false := vac _ hcl (i := 8) (j := 7) rfl rfl hLi
      go_simp
      exact hK (.slice (some ⟨w9.heap.size, 0, none⟩) 1 1, z.2) _ _ (hM.at7 n8 (vac _ hcl (i := 10) (j := 8) rfl rfl n8)) (but1 hLi rfl) rfl
     ·have n10 : L9 10 = false := vac _ hcl (i := 10) (j := 8) rfl rfl hLi
      obtain ⟨k7, e7, hB7, _⟩ := hM.one (d 7 rfl) hLi
      refine vhC ERt12 Rt.len Rt.one (.tmp 23) (.tmp 29) rfl (v := .slice E3 L.length n3) (A := some ⟨k7, 0, none⟩) (c := 1) (xs := L) (ys := [y]) rfl e7 (hM.own hLi) (vno hB7) (by have h9 := HLl.out; simp only [List.length_cons, List.length_nil]; omega) hM.only.size (fun v2 w2 h1 h2 h3 => ?_)
      exact hK (z.1, v2) _ _ (hM.at8 hgs2 n10 hLi h1 h2) (but1 hLi rfl) rfl
     ·have l8 : L9 8 = true := d 8 rfl
      have s9 := Blk.f (hM.tb hLi) rfl
      have f9 : w9.frozen? ⟨g, 9, none⟩ = false := (hM.tb hLi).frozen 9
      have hM2 := hM.at10 hgs2 hLi l8
      obtain ⟨A8, n8, e8⟩ := (hM.own8 l8).form
      rw [List.length_append, List.length_singleton] at e8
      rw [e8] at hM2
      go_simp
      exact hK z _ _ hM2 (fun _ _ => rfl) rfl
    intro z L9 w9 hL hM
    (try simp only [Exit.then])
    obtain ⟨A8, n8, hO8, hB8, hW8⟩ := hM.fin (hL 8 (by simp)) (hL 10 (by simp))
    have HN2 : Hid (NwR w3 g c A m S (i + 1) w9) := Lib.hid ⟨A8, n8, hO8, by rw [HLP.out]; exact hB8, by rw [HLP.out]; exact hW8⟩
    clear hM hL hO8 hB8 hW8
    go_wp2_with fail
    go_roundw
    case rel => exact ⟨i + 1, by omega, by go_num, HN2⟩
    case measure => simp [intOf]; omega
   ·obtain rfl : i = S.length := by omega
    obtain ⟨E3, n3, hO3, hB3, hW3⟩ := HN.out
    rw [List.take_length, HUP.out] at hB3 hW3
    have HW3 := Lib.hid hW3
    have HKw : Hid (Kp w wr) := Lib.hid (hO3.kp HK3.out (fun q hq => by have h1 : q = g := (by simpa using hq); have h2 := HkW.out.size; have h3 := Hg.out; omega))
    have B1r : Blk wr (b + 1) 39 (tbR zeroTb none none 0 0) := ((HB1.out.keep HK13.out).only hO3 (by have := HB1.out.lt; have := Hg.out; simp; omega))
    have HB1r := Lib.hid B1r
    have u0 := Blk.f hB3 rfl
    have y0 := Blk.f B1r rfl
    have z0 := Blk.frozen B1r
    clear hO3 hB3 hW3 B1r
    go_wp2_with fail
    have hgw : w.heap.size ≤ b + 1 := by have := Hb.out; omega
    refine bodyPost_ret (vfG (T := newT c) (A := A) (E := E3) (m := m) (n := n3) rfl rfl rfl (Blk.set12 HB1r.out)) rfl ?_
    exact ⟨(fun _ => ⟨E3, ⟨n3, rfl⟩, Rd.set12 (Own.rdAt (by decide) Rt.len HW3.out) (fun a e z => by have h1 := vfP HW3.out a e; have h2 := HB1.out.lt; have h3 := HK13.out.size; omega), fun a e => by have h1 := vfP HW3.out a e; have h2 := HB1.out.lt; have h3 := HK13.out.size; have h4 := Hb.out; omega⟩), (fun h => absurd (HOK.out.symm.trans h) (by decide)), Kp.set12 HKw.out hgw⟩
end

end Go.Proofs.YtffckpkikdlbpaaGreatDoor
