/- Lemmas and contracts for the theorem of this claim: RqA, PkE. -/
import Derived.Test.YtgopnfacklmkaaaGreatDoorZyAi
set_option linter.all false
set_option maxHeartbeats 16000000
namespace Go.Proofs.YtgopnfacklmkaaaGreatDoor
section
open Go.RowKit
structure Pc where
 c : Int
 A : Option Addr
 n : Nat
 m : Nat
def Pc.encD (p : Pc) : List Value := [.int .i64 p.c, .slice p.A p.n p.m]
def Pc.encB (p : Pc) : List Value := [.slice p.A p.n p.m]
theorem Pc.encD_len (p : Pc) : p.encD.length = 2 := rfl
theorem Pc.encB_len (p : Pc) : p.encB.length = 1 := rfl
theorem Pc.oneD (p : Pc) : ∀ u ∈ p.encD, u.oneCell' = true := by
 intro u h
 simp only [Pc.encD, List.mem_cons, List.not_mem_nil, or_false] at h
 rcases h with rfl | rfl <;> rfl
theorem Pc.oneB (p : Pc) : ∀ u ∈ p.encB, u.oneCell' = true := by
 intro u h
 simp only [Pc.encB, List.mem_cons, List.not_mem_nil, or_false] at h
 subst h
 rfl
theorem vex {α : Type} {w : World} {B e sz n c : Nat} {enc : α → List Value} {A : Option Addr} {xs : List α} (h : Own w B e sz enc (.slice A n c) xs) : xs.length ≤ c := by
 rcases h.2 with ⟨_, h2⟩ | ⟨g, cap, cur, hv, _, _, h3, _⟩
 ·omega
 ·injection hv with _ _ h4
  omega
structure PcR {β : Type} (e sz : Nat) (enc : Pc → List Value) (s2 : Nat) (enc2 : β → List Value) (w0 W : World) (v : Value) (ps : List Pc) (ls : List (List β)) : Prop where
 own : Own W w0.heap.size e sz enc v ps
 kp : Kp w0 W
 len : ps.length = ls.length
 ent : ∀ (i : Nat) (p : Pc) (l : List β), ps[i]? = some p → ls[i]? = some l → (p.n = l.length ∧ l.length ≤ p.m) ∧ Rd W s2 enc2 p.A l ∧ ∀ a, p.A = some a → w0.heap.size ≤ a.block ∧ a.block < W.heap.size ∧ v.ownBlock ≠ some a.block
section
variable {β : Type} {e sz s2 : Nat} {enc : Pc → List Value} {enc2 : β → List Value} {w0 W W' : World} {v v' : Value} {ps : List Pc} {ls : List (List β)} {p : Pc} {l : List β}
theorem PcR.nil (k : Kp w0 W) : PcR e sz enc s2 enc2 w0 W (.slice none 0 0) [] [] := ⟨Own.nil _ _ _ _ _, k, rfl, fun i p l h => by simp at h⟩
theorem PcR.keep (h : PcR e sz enc s2 enc2 w0 W v ps ls) (k : Kp W W') : PcR e sz enc s2 enc2 w0 W' v ps ls := ⟨h.own.keep k, h.kp.trans k, h.len, fun i p l h1 h2 => by
 obtain ⟨a1, a2, a3⟩ := h.ent i p l h1 h2
 exact ⟨a1, a2.keep k, fun a ha => ⟨(a3 a ha).1, Nat.lt_of_lt_of_le (a3 a ha).2.1 k.size, (a3 a ha).2.2⟩⟩⟩
theorem Rd.grownR {α : Type} {w w' : World} {sz : Nat} {enc : α → List Value} {A : Option Addr} {xs : List α} {row : Option Nat} (h : Rd w sz enc A xs) (hg : w.grownBy w' row) (hA : ∀ a, A = some a → row ≠ some a.block) : Rd w' sz enc A xs := h.grownB hg (fun a ha z => hA a ha z.symm)
theorem PcR.push (h : PcR e sz enc s2 enc2 w0 W v ps ls) (hO : Own W' w0.heap.size e sz enc v' (ps ++ [p])) (hg : W.grownBy W' v.ownBlock) (hv : v'.ownBlock = v.ownBlock ∨ v'.ownBlock = some (W.heap.size + 1)) (hn : p.n = l.length ∧ l.length ≤ p.m) (hR : Rd W s2 enc2 p.A l) (hp : ∀ a, p.A = some a → w0.heap.size ≤ a.block ∧ a.block < W.heap.size ∧ v.ownBlock ≠ some a.block) : PcR e sz enc s2 enc2 w0 W' v' (ps ++ [p]) (ls ++ [l]) := by
 have hne : ∀ q : Pc, (∀ a, q.A = some a → w0.heap.size ≤ a.block ∧ a.block < W.heap.size ∧ v.ownBlock ≠ some a.block) → ∀ a, q.A = some a → w0.heap.size ≤ a.block ∧ a.block < W'.heap.size ∧ v'.ownBlock ≠ some a.block := by
  intro q hq a ha
  obtain ⟨b1, b2, b3⟩ := hq a ha
  refine ⟨b1, Nat.lt_of_lt_of_le b2 hg.size, fun z => ?_⟩
  rcases hv with hv | hv
  ·exact b3 (hv ▸ z)
  ·rw [hv] at z
   injection z with z
   omega
 refine ⟨hO, h.kp.grown hg (fun k hk => (World.ownsRow.lt h.own k hk).1), by simp [h.len], fun i q m h1 h2 => ?_⟩
 by_cases hi : i < ps.length
 ·rw [List.getElem?_append_left hi] at h1
  rw [List.getElem?_append_left (by rw [← h.len]; exact hi)] at h2
  obtain ⟨a1, a2, a3⟩ := h.ent i q m h1 h2
  exact ⟨a1, a2.grownR hg (fun a ha => (a3 a ha).2.2), hne q a3⟩
 ·rw [List.getElem?_append_right (by omega)] at h1
  rw [List.getElem?_append_right (by rw [← h.len]; omega), ← h.len] at h2
  obtain ⟨k, hk⟩ : ∃ k, i - ps.length = k := ⟨_, rfl⟩
  rw [hk] at h1 h2
  cases k with
  | zero =>
   simp only [List.getElem?_cons_zero, Option.some.injEq] at h1 h2
   subst h1 h2
   exact ⟨hn, hR.grownR hg (fun a ha => (hp a ha).2.2), hne _ hp⟩
  | succ k => simp at h1
theorem PcR.blk (h : PcR e sz enc s2 enc2 w0 W v ps ls) : ∀ k, v.ownBlock = some k → w0.heap.size ≤ k ∧ k < W.heap.size := fun k hk => World.ownsRow.lt h.own k hk
end
def piecesE (es : List En) : List (List En) := if h : es = [] then [] else es.take 25 :: piecesE (es.drop 25)
termination_by es.length
decreasing_by
 have : 0 < es.length := List.length_pos_iff.2 h
 rw [List.length_drop]
 omega
theorem vaC : piecesE [] = [] := by rw [piecesE]; rfl
theorem van {es : List En} (h : es ≠ []) : piecesE es = es.take 25 :: piecesE (es.drop 25) := by rw [piecesE, dif_neg h]
theorem vcW (es : List En) : (piecesE es).length ≤ es.length := by
 by_cases h : es = []
 ·subst h; rw [vaC]; simp
 ·rw [van h, List.length_cons]
  have h1 : 0 < es.length := List.length_pos_iff.2 h
  have := vcW (es.drop 25)
  rw [List.length_drop] at this
  omega
termination_by es.length
decreasing_by
 have : 0 < es.length := List.length_pos_iff.2 h
 rw [List.length_drop]
 omega
theorem vie {α : Type} {w : World} {sz : Nat} {enc : α → List Value} {A : Option Addr} {xs : List α} (h : Rd w sz enc A xs) (k : Nat) : Rd w sz enc A (xs.take k) := fun i hi => by
 have hi' : i < xs.length := by rw [List.length_take] at hi; omega
 obtain ⟨b, off, e, hc⟩ := h i hi'
 refine ⟨b, off, e, fun j u hu => hc j u ?_⟩
 rw [List.getElem_take] at hu
 exact hu
theorem vko {α : Type} {w : World} {sz : Nat} {enc : α → List Value} {g off : Nat} {xs : List α} (h : Rd w sz enc (some ⟨g, off, none⟩) xs) (k : Nat) : Rd w sz enc (some ⟨g, off + k * sz, none⟩) (xs.drop k) := fun i hi => by
 have hi' : k + i < xs.length := by rw [List.length_drop] at hi; omega
 obtain ⟨b, o2, e, hc⟩ := h (k + i) hi'
 injection e with e
 injection e with e1 e2
 subst e1 e2
 refine ⟨g, off + k * sz, rfl, fun j u hu => ?_⟩
 rw [List.getElem_drop] at hu
 have := hc j u hu
 rwa [show off + (k + i) * sz + j = off + k * sz + i * sz + j by rw [Nat.add_mul]; omega] at this
theorem EDg : ElemOf Tryz.prog 225 30 (.agg #[.int .i64 0, .slice none 0 0]) 2 32 := ⟨Tryz.underlying225, by kernel_rfl, rfl, by decide⟩
set_option maxRecDepth 100000 in
theorem vfx (g : Addr) (c : Nat) (es : List En) (w : World) (hR : Rd w 6 En.enc (some g) es) (hn : es.length ≤ 1000000) :
  Calls Tryz.prog 182 #[.slice (some g) es.length c] w fun r w' => ∃ A m, r = .returned (.slice A es.length m) ∧ Own w' w.heap.size 66 6 En.enc (.slice A es.length m) es ∧ Kp w w' := by
 have hE : Own (w.alloc (.cells #[] 66)) w.heap.size 66 6 En.enc (.slice (some ⟨w.heap.size, 0, none⟩) 0 0) [] := Own.empty (Nat.le_refl _) (Blk.new w _ _)
 have hnil : ∀ w : World, (binOp .eql 28 (.slice (some g) es.length c) (.slice none 0 0)).run Tryz.prog w = .ok (.bool false) w := fun _ => by kernel_rfl
 go_enter Tryz.func182, Tryz.ntmps182
 go_wp2_with (at_builtin; go_loud (refine vat EEn En.enc_len En.one rfl _ _ rfl rfl rfl hE (hR.keep ((Kp.refl _).alloc _)) (by simp; omega) (by simp) ?_; intro v' w1 hown hg hat; rw [List.nil_append] at hown; have hK1 : Kp w w1 := ((Kp.refl w).alloc _).grown hg (fun q hq => (World.ownsRow.lt hE q hq).1); clear hg hat hE; obtain ⟨A', c', rfl⟩ := hown.form))
 go_ret
 exact ⟨_, _, rfl, hown, hK1⟩
theorem Own.far2 {α : Type} {w : World} {B e sz g : Nat} {enc : α → List Value} {v : Value} {xs : List α} {x y : Value} (h : Own w B e sz enc v xs) (hk : ∀ k, v.ownBlock = some k → g ≠ k) : Own ((w.setCell ⟨g, 0, none⟩ x).setCell ⟨g, 1, none⟩ y) B e sz enc v xs := by
 refine ⟨h.1, ?_⟩
 rcases h.2 with h2 | ⟨q, cap, cur, hv, hg, hh, r⟩
 ·exact .inl h2
 ·refine .inr ⟨q, cap, cur, hv, hg, ?_, r⟩
  have hq : g ≠ q := hk q (by rw [hv]; rfl)
  have hB : Blk w q e cur := hh
  exact (hB.far (p := ⟨g, 0, none⟩) hq.symm x).far (p := ⟨g, 1, none⟩) hq.symm y
set_option maxRecDepth 100000 in
theorem vif (bc : Nat) (c : Int) (g : Addr) (m : Nat) (l : List En) (w : World) (hc : w.cell? ⟨bc, 0, none⟩ = some (.int .i64 c)) (hR : Rd w 6 En.enc (some g) l) (hn : l.length ≤ 1000000) :
    Calls Tryz.prog 181 #[.slice (some g) l.length m, .pointer (some ⟨bc, 0, none⟩)] w fun r w' => ∃ A2 m2, r = .returned (dgV c A2 l.length m2) ∧ Own w' w.heap.size 66 6 En.enc (.slice A2 l.length m2) l ∧ Kp w w' := by
  obtain ⟨b, hb⟩ : ∃ b, w.heap.size = b := ⟨_, rfl⟩
  obtain ⟨W, hW, kW, B0⟩ := Blk.al1 hb #[.int .i64 0, .slice none 0 0] 30
  have HB := Lib.hid B0
  have HC := Lib.hid hc
  have HR := Lib.hid hR
  have hb9 : w.heap.size ≤ b := by omega
  clear hc hR B0
  go_enter Tryz.func181, Tryz.ntmps181
  go_upto_region 1 with (fail)
  clear hW
  refine' vau (fun (z : Option Addr × Nat) L V9 => Kp w V9 ∧ (L 2 = true → Own V9 w.heap.size 66 6 En.enc (.slice z.1 l.length z.2) l ∧ ∀ k, (Value.slice z.1 l.length z.2).ownBlock = some k → b < k) ∧ Blk V9 b 30 (bif L 4 then #[.int .i64 c, .slice z.1 l.length z.2] else #[.int .i64 0, .slice none 0 0])) [4, 5, 6, 7, 10004] (fun z => [.int .i64 c, .slice (some g) l.length m, .slice z.1 l.length z.2, dgV c z.1 l.length z.2, undef]) (List.replicate 5 true) [2, 4] (by kernel_rfl) (by kernel_rfl) (fun _ => rfl) (fun _ => rfl) (fun _ => rfl) (none, 0) ⟨kW.drew, fun h => (by cases h), HB.out.drew⟩ (fun _ L L' _ e h => by simpa only [e 2 (by simp), e 4 (by simp)] using h) ?_ ?_ ?_
  rotate_left
  · intro z; simp only [List.zip_cons_cons, List.zip_nil_right, wrC, wrN, List.set_cons_zero, List.set_cons_succ, List.set_nil]; rfl
  · repeat' (first | refine And.intro ?_ ?_ | exact trivial)
    all_goals intro z L a w9 hLi d hcl hM hO K hK
    all_goals try (go_simp; exact hK z _ _ (hO rfl) (fun _ _ => rfl) rfl)
    · have cc := hM.1.cell HC.out
      go_simp
      exact hK z _ _ (hO rfl) (fun _ _ => rfl) rfl
    · have n3 : L 3 = false := vac _ hcl (i := 3) rfl (by rfl) hLi
      have n4 : L 4 = false := vac _ hcl (i := 4) rfl (by rfl) hLi
      rw [n4] at hM
      have hB9 := hM.2.2
      simp only [cond_false] at hB9
      go_simp
      refine (vfx g m l w9 (HR.out.keep hM.1) hn).mono ?_
      rintro r w3 ⟨A3, m3, rfl, hO3, hK3⟩
      exact hK (A3, m3) _ _ ⟨hM.1.trans hK3, fun _ => ⟨hO3.mono hM.1.size, fun k hk => Nat.lt_of_lt_of_le hB9.lt (World.ownsRow.lt hO3 k hk).1⟩, by simp [n4]; exact hB9.keep hK3⟩ (fun j hj => by
              match j, hj with
              | 0, _ => rfl
              | 1, _ => rfl
              | 2, h => exact absurd h (by simp [hLi])
              | 3, h => exact absurd h (by simp [n3])
              | 4, _ => rfl
              | (q + 5), _ => rfl) rfl
    · have hB9 := hM.2.2
      rw [hLi] at hB9
      simp only [cond_false] at hB9
      have y := Blk.f hB9 rfl
      have f := Blk.frozen hB9
      have d3 : L 3 = true := d 3 rfl
      have d2 : L 2 = true := hcl 3 _ 2 rfl d3 rfl
      have hO2 := hM.2.1 d2
      go_simp
      exact hK z _ _ ⟨(hM.1.setCell (p := ⟨b, 0, none⟩) hb9 _).setCell (p := ⟨b, 1, none⟩) hb9 _, fun _ => ⟨hO2.1.far2 (fun k hk => by have := hO2.2 k hk; omega), hO2.2⟩, by simp; exact (hB9.set_ 0 _).set_ 1 _⟩ (fun _ _ => rfl) rfl
  intro z L w9 hL hM
  (try simp only [Exit.then])
  have HO := Lib.hid (hM.2.1 (hL 2 (by decide))).1
  have HK := Lib.hid hM.1
  have h4 := hM.2.2
  rw [hL 4 (by decide)] at h4
  have u := Blk.f (l := [.int .i64 c, .slice z.1 l.length z.2]) h4 rfl
  clear hM hL h4
  go_wp2_with fail
  exact bodyPost_ret (v := dgV c z.1 l.length z.2) (by simp [results, Tryz.results181, go_sem, u]) rfl ⟨_, _, rfl, HO.out, HK.out⟩
theorem vgE (args : Array Value) (w : World) : (callFunc 181 args).run Tryz.prog w = .ok (.enter 181 args) w := by kernel_rfl
abbrev DgR (w0 W : World) (v : Value) (ps : List Pc) (ls : List (List En)) : Prop := PcR 30 2 Pc.encD 6 En.enc w0 W v ps ls
def CutP (c : Int) (es : List En) (w : World) (v : Value) (w' : World) : Prop := ∃ ps, DgR w w' v ps (piecesE es) ∧ ∀ p ∈ ps, p.c = c
set_option maxRecDepth 100000 in
theorem vig (bc : Nat) (c : Int) (A : Option Addr) (m : Nat) (es : List En) (w : World) (hc : w.cell? ⟨bc, 0, none⟩ = some (.int .i64 c)) (hR : Rd w 6 En.enc A es) (hn : es.length ≤ 1000000) (hm : es.length ≤ m) :
  Calls Tryz.prog 180 #[.slice A es.length m, .int .i64 25, .func (.func 181) #[] #[.pointer (some ⟨bc, 0, none⟩)]] w fun r w' => ∃ v, r = .returned v ∧ CutP c es w v w' := by
 have HC := Lib.hid hc
 have S0 : Hid (∃ ps ls, DgR w w (.slice none 0 0) ps ls ∧ (∀ p ∈ ps, p.c = c) ∧ ls.length + es.length ≤ 1000000 ∧ ls ++ piecesE es = piecesE es ∧ Rd w 6 En.enc A es) := Lib.hid ⟨[], [], PcR.nil (Kp.refl _), by simp, by simpa using hn, rfl, hR⟩
 have hcall := vgE
 clear hc hR
 go_enter Tryz.func180, Tryz.ntmps180
 go_wp2_with fail
 go_loopw [0, 7] (fun s v wr => ∃ (B : Option Addr) (k : Nat) (R : List En), R.length ≤ k ∧ s = .slice B R.length k ∧ Hid (∃ ps ls, DgR w wr v ps ls ∧ (∀ p ∈ ps, p.c = c) ∧ ls.length + R.length ≤ 1000000 ∧ ls ++ piecesE R = piecesE es ∧ Rd w 6 En.enc B R)) (fun s _ _ => match s with | .slice _ n _ => n | _ => 0)
 case atStart => exact ⟨A, m, es, hm, rfl, S0⟩
 case round =>
  obtain ⟨B, k, R, hk, rfl, HS⟩ := hrel
  by_cases hlt : R = []
  ·subst hlt
   have hend := HS.out
   go_wp2_with fail
   go_ret
   obtain ⟨ps, ls, h1, h2, _, h4, _⟩ := hend
   rw [vaC, List.append_nil] at h4
   subst h4
   exact ⟨_, rfl, ps, h1, h2⟩
  ·have hpos : 0 < R.length := List.length_pos_iff.2 hlt
   obtain ⟨g, off, hB⟩ : ∃ g off, B = some ⟨g, off, none⟩ := by
    obtain ⟨_, _, _, _, _, _, hr⟩ := HS.out
    obtain ⟨b, off, e, _⟩ := hr 0 hpos
    exact ⟨b, off, e⟩
   subst hB
   obtain ⟨n, hn1⟩ : ∃ n, (R.take 25).length = n := ⟨_, rfl⟩
   have hn2 : n = min 25 R.length := by rw [← hn1, List.length_take]
   have hnR : n ≤ R.length := by omega
   have hn0 : 0 < n := by omega
   have hgt : (0 : Int) < (R.length : Int) := by omega
   have hdl : (R.drop 25).length = R.length - n := by rw [List.length_drop]; omega
   have HN := Lib.hid (And.intro hn1 (And.intro hn2 hdl))
   have HL := Lib.hid hlt
   have h25 : R.length < 25 ∧ n = R.length ∨ 25 ≤ R.length ∧ n = 25 := by omega
   clear hn1 hn2 hdl hlt
   obtain ⟨ps, ls, hD, hpc, hle, hpe, hrd⟩ := HS.out
   have hrt : Rd wr 6 En.enc (some ⟨g, off, none⟩) (R.take 25) := vie (hrd.keep hD.kp) 25
   have hcut := vif bc c ⟨g, off, none⟩ n (R.take 25) wr (hD.kp.cell HC.out) hrt (by rw [HN.out.1]; omega)
   rw [HN.out.1] at hcut
   obtain ⟨Av, cv, hv⟩ := hD.own.form
   subst hv
   have HD := Lib.hid hD
   have HCT := Lib.hid hcut
   have HR2 := Lib.hid hrd
   have HPC := Lib.hid hpc
   have HPE := Lib.hid hpe
   clear hD hcut hrd hpc hpe hrt
   rcases h25 with ⟨h25, hnn⟩ | ⟨h25, hnn⟩
   all_goals
    subst hnn
    first
     | have hi : (R.length : Int) < 25 := by omega
     | have hi : ¬ ((R.length : Int) < 25) := by omega
    go_upto_region 4 with (fail)
    go_wp2_with fail
    refine HCT.out.mono ?_
    rintro r w1 ⟨A2, m2, rfl, hO2, K1⟩
    have D1 := HD.out.keep K1
    have hfit : (ps.length + 1) * (32 + 1) ≤ 140737488355328 := by rw [D1.len]; omega
    have HO2 := Lib.hid hO2
    have HD1 := Lib.hid D1
    have HK1 := Lib.hid K1
    clear hO2 K1 D1
    go_wp2_with (at_builtin; go_must (refine vcu EDg Pc.encD_len Pc.oneD rfl _ _ rfl (⟨c, A2, _, m2⟩ : Pc) rfl HD1.out.own HD1.out.kp.size rfl rfl rfl hfit ?_); intro v3 w3 hown3 hg3 hv3; obtain ⟨A3, c3, rfl⟩ := hown3.form)
    have D3 := HD1.out.push hown3 hg3 hv3 (l := R.take 25) ⟨HN.out.1.symm, vex HO2.out⟩ (HO2.out.rdAt (by decide) En.enc_len) (fun a ha => by
     have h1 := World.ownsRow.lt HO2.out a.block (by rw [show A2 = some a from ha]; rfl)
     refine ⟨Nat.le_trans HD.out.kp.size h1.1, h1.2, fun z => ?_⟩
     have := (HD.out.blk _ z).2
     omega)
    simp only [List.length_append, List.length_cons, List.length_nil, Nat.zero_add] at D3
    have HD3 := Lib.hid D3
    clear D3 hown3 hg3 hv3
    go_wp2_with fail
    go_roundw
    case rel =>
     have hdl := HN.out.2.2
     generalize hB9 : (ite (k = _) _ _ : Option Addr) = B9
     refine ⟨B9, k - (R.take 25).length, R.drop 25, ?_, ?_, Lib.hid ⟨_, _, HD3.out, ?_, ?_, ?_, ?_⟩⟩
     ·rw [HN.out.1]; omega
     ·rw [hdl, HN.out.1]
      try rw [Nat.sub_self]
     ·intro q hq
      rcases List.mem_append.1 hq with hq | hq
      ·exact HPC.out q hq
      ·simp only [List.mem_cons, List.not_mem_nil, or_false] at hq
       subst hq
       rfl
     ·rw [hdl, List.length_append, List.length_cons, List.length_nil]
      omega
     ·rw [← HPE.out, van HL.out, List.append_assoc]
      rfl
     ·subst hB9
      split
      ·rw [List.length_eq_zero_iff.1 (show (R.drop 25).length = 0 by omega)]
       exact Rd.nil _ _ _ _
      ·first
        | exact vko HR2.out 25
        | (rw [List.length_eq_zero_iff.1 (show (R.drop 25).length = 0 by omega)]; exact Rd.nil _ _ _ _)
    case measure => first | (show R.length - 25 < R.length; omega) | (show 0 < R.length; omega)
def CutR (c : Int) (es : List En) (w : World) (r : Ending) (w' : World) : Prop := ∃ v, r = .returned (.tuple #[v, .int .i64 0]) ∧ CutP c es w v w'
theorem PcR.mono {β : Type} {e sz s2 : Nat} {enc : Pc → List Value} {enc2 : β → List Value} {w0 w1 W : World} {v : Value} {ps : List Pc} {ls : List (List β)} (h : PcR e sz enc s2 enc2 w1 W v ps ls) (k : Kp w0 w1) : PcR e sz enc s2 enc2 w0 W v ps ls :=
 ⟨h.own.mono k.size, k.trans h.kp, h.len, fun i p l h1 h2 => by
  obtain ⟨a1, a2, a3⟩ := h.ent i p l h1 h2
  exact ⟨a1, a2, fun a ha => ⟨Nat.le_trans k.size (a3 a ha).1, (a3 a ha).2⟩⟩⟩
set_option maxRecDepth 100000 in
theorem vih (A : Option Addr) (m : Nat) (es : List En) (w : World) (hW : WidAt w) (hR : Rd w 6 En.enc A es) (hw : ∀ e ∈ es, e.wf) (ho : es.all okEn = true) (hn : es.length ≤ 1000000) (hm : es.length ≤ m) :
  Calls Tryz.prog 125 #[.int .i64 2, .slice A es.length m] w (CutR 2 es w) := by
 obtain ⟨b, hb⟩ : ∃ b, w.heap.size = b := ⟨_, rfl⟩
 obtain ⟨W, hW1, kW, B0⟩ := Blk.al1 hb #[.int .i64 2] 27
 have u := Blk.f B0 rfl
 have HC0 := Lib.hid B0
 have HB := vct A m es W (hW.keep kW) (hR.keep kW) hw hn
 rw [ho] at HB
 have HBB := Lib.hid HB
 have HR := Lib.hid (hR.keep kW)
 have HkW := Lib.hid kW
 clear HB hR hW ho hw B0 kW
 have hcm := fun V => vaJ 2 V
 rw [show okC 2 = true from rfl] at hcm
 have HCM := Lib.hid hcm
 clear hcm
 go_enter Tryz.func125, Tryz.ntmps125
 go_wp2_with (first | (go_at_call 165; refine (HCM.out _).mono ?_; rintro e w1 ⟨rfl, rfl⟩) | (go_at_call 166; refine HBB.out.mono ?_; rintro e w1 ⟨rfl, K1⟩; have HK1 := Lib.hid K1; clear K1 u hW1))
 refine (vig b 2 A m es w1 ((HC0.out.keep HK1.out).cell 0) (HR.out.keep HK1.out) hn hm).mono ?_
 rintro e w2 ⟨v, rfl, ps, hP, hc⟩
 have HP := Lib.hid (hP.mono (HkW.out.trans HK1.out))
 clear hP
 go_wp2_with fail
 exact bodyPost_ret (v := .tuple #[v, .int .i64 0]) (by simp [results, Tryz.results125, go_sem]) rfl ⟨v, rfl, ps, HP.out, hc⟩
end

section
open Go.RowKit
theorem vjr (x y : En) : decide (x = y) = (decide (x.f = y.f) && (decide (x.t = y.t) && (decide ((x.a : Int) = (y.a : Int)) && (decide ((x.m : Int) = (y.m : Int)) && (decide ((x.n : Int) = (y.n : Int)) && decide ((x.k : Int) = (y.k : Int))))))) := by
 rw [Bool.eq_iff_iff]
 simp only [decide_eq_true_eq, Bool.and_eq_true, Int.ofNat_inj]
 exact ⟨fun h => by subst h; simp, fun ⟨h1, h2, h3, h4, h5, h6⟩ => by cases x; cases y; simp only at h1 h2 h3 h4 h5 h6; subst h1 h2 h3 h4 h5 h6; rfl⟩
set_option maxRecDepth 100000 in
theorem vls (x y : En) (w : World) : (binOp .eql 66 (enV x) (enV y)).run Tryz.prog w = .ok (.bool (decide (x = y))) w := by
 rw [run_eql_struct, run_equalIn_agg w 9999 _ _ _ Tryz.underlying66 (by kernel_rfl), vjr]
 simp [Op.eqFields, part, go_sem, Tryz.underlying3, Tryz.underlying37, Tryz.underlying36]
 repeat (split; rotate_left; · simp [*])
 simp [*]
set_option maxRecDepth 100000 in
theorem vlt (x y : En) (w : World) : (binOp .neq 66 (enV x) (enV y)).run Tryz.prog w = .ok (.bool (!decide (x = y))) w := by
 rw [run_neq_struct, run_equalIn_agg w 9999 _ _ _ Tryz.underlying66 (by kernel_rfl), vjr]
 simp [Op.eqFields, part, go_sem, Tryz.underlying3, Tryz.underlying37, Tryz.underlying36]
 repeat (split; rotate_left; · simp [*])
 simp [*]
def asksB (c : Int) (es : List En) : Bool := (c == 1) && (((es.length : Int) == 1) && decide (es.head? = some allE))
set_option maxRecDepth 100000 in
theorem vlu (c : Int) (A : Option Addr) (m : Nat) (es : List En) (w : World) (hR : Rd w 6 En.enc A es) (hn : es.length ≤ 1000000) (hc : (c == 1) = false) : Calls Tryz.prog 46 #[dgV c A es.length m] w fun e w' => e = .returned (.bool false) ∧ Kp w w' := by
 obtain ⟨b, hb⟩ : ∃ b, w.heap.size = b := ⟨_, rfl⟩
 obtain ⟨W, hW, kW, B0⟩ := Blk.al1 hb #[.int .i64 c, .slice A es.length m] 30
 have HB0 := Lib.hid B0
 have HR := Lib.hid (hR.keep kW)
 clear hR B0
 go_enter Tryz.func46, Tryz.ntmps46
 go_upto_region 1 with (fail)
 clear hW
 refine' vau (fun (_ : Unit) _ V9 => Kp _ V9) [3, 4, 5, 6, 7, 8, 9, 10, 11, 12, 13, 14, 15, 16, 17, 18, 19, 2] (fun (_ : Unit) => [.pointer (some ⟨b, 0, none⟩), .int .i64 c, .bool false, .bool false, undef, undef, undef, undef, .bool false, .bool false, undef, undef, undef, undef, undef, undef, .bool false, .bool false]) [true, true, true, true, false, false, false, false, true, true, false, false, false, false, false, false, true, true] [] (by kernel_rfl) (by kernel_rfl) (fun _ => rfl) (fun _ => rfl) (fun _ => rfl) () (Kp.refl _).drew (fun _ _ _ _ _ h => h) ?_ ?_ ?_
 rotate_left
 ·intro z; simp only [List.zip_cons_cons, List.zip_nil_right, wrC, wrN, List.set_cons_zero, List.set_cons_succ, List.set_nil]; rfl
 ·repeat' (first | refine And.intro ?_ ?_ | exact trivial)
  all_goals intro z L a w9 hLi d hcl hM hO K hK
  all_goals try (go_simp; exact hK z _ _ (hO rfl) (fun _ _ => rfl) rfl)
  ·have u := Blk.f (HB0.out.keep hM) rfl
   go_simp
   exact hK z _ _ (hO rfl) (fun _ _ => rfl) rfl
 intro z L w9 hL KV
 (try simp only [Exit.then])
 have HKV := Lib.hid (kW.trans KV)
 go_wp2_with fail
 go_ret
 exact ⟨rfl, HKV.out⟩
set_option maxRecDepth 100000 in
theorem vlv (c : Int) (A : Option Addr) (m : Nat) (es : List En) (w : World) (hR : Rd w 6 En.enc A es) (hn : es.length ≤ 1000000) (hc : (c == 1) = true) (hl : ((es.length : Int) == 1) = false) : Calls Tryz.prog 46 #[dgV c A es.length m] w fun e w' => e = .returned (.bool false) ∧ Kp w w' := by
 obtain ⟨b, hb⟩ : ∃ b, w.heap.size = b := ⟨_, rfl⟩
 obtain ⟨W, hW, kW, B0⟩ := Blk.al1 hb #[.int .i64 c, .slice A es.length m] 30
 have HB0 := Lib.hid B0
 have HR := Lib.hid (hR.keep kW)
 clear hR B0
 go_enter Tryz.func46, Tryz.ntmps46
 go_upto_region 1 with (fail)
 clear hW
 refine' vau (fun (_ : Unit) _ V9 => Kp _ V9) [3, 4, 5, 6, 7, 8, 9, 10, 11, 12, 13, 14, 15, 16, 17, 18, 19, 2] (fun (_ : Unit) => [.pointer (some ⟨b, 0, none⟩), .int .i64 c, .bool true, .bool true, .pointer (some ⟨b, 1, none⟩), .slice A es.length m, .int .i64 es.length, .bool false, .bool false, .bool false, undef, undef, undef, undef, undef, undef, .bool false, .bool false]) [true, true, true, true, true, true, true, true, true, true, false, false, false, false, false, false, true, true] [] (by kernel_rfl) (by kernel_rfl) (fun _ => rfl) (fun _ => rfl) (fun _ => rfl) () (Kp.refl _).drew (fun _ _ _ _ _ h => h) ?_ ?_ ?_
 rotate_left
 ·intro z; simp only [List.zip_cons_cons, List.zip_nil_right, wrC, wrN, List.set_cons_zero, List.set_cons_succ, List.set_nil]; rfl
 ·repeat' (first | refine And.intro ?_ ?_ | exact trivial)
  all_goals intro z L a w9 hLi d hcl hM hO K hK
  all_goals try (go_simp; exact hK z _ _ (hO rfl) (fun _ _ => rfl) rfl)
  ·have u := Blk.f (HB0.out.keep hM) rfl
   go_simp
   exact hK z _ _ (hO rfl) (fun _ _ => rfl) rfl
  ·have u := Blk.f (HB0.out.keep hM) rfl
   go_simp
   exact hK z _ _ (hO rfl) (fun _ _ => rfl) rfl
 intro z L w9 hL KV
 (try simp only [Exit.then])
 have HKV := Lib.hid (kW.trans KV)
 go_wp2_with fail
 go_ret
 exact ⟨rfl, HKV.out⟩
set_option maxRecDepth 100000 in
theorem vlw (c : Int) (A : Option Addr) (m : Nat) (x : En) (w : World) (hR : Rd w 6 En.enc A [x]) (hc : (c == 1) = true) : Calls Tryz.prog 46 #[dgV c A 1 m] w fun e w' => e = .returned (.bool (decide (x = allE))) ∧ Kp w w' := by
 obtain ⟨b, hb⟩ : ∃ b, w.heap.size = b := ⟨_, rfl⟩
 obtain ⟨g, off, hA, x0, x1, x2, x3, x4, x5⟩ := en_at hR (k := 0) (by simp)
 subst hA
 obtain ⟨W, hW, kW, B0⟩ := Blk.al1 hb #[.int .i64 c, .slice (some ⟨g, off, none⟩) 1 m] 30
 have HB0 := Lib.hid B0
 clear hR B0
 simp only [Nat.zero_mul, Nat.add_zero, List.getElem_cons_zero] at x0 x1 x2 x3 x4 x5
 have HX := Lib.hid (And.intro (kW.cell x0) (And.intro (kW.cell x1) (And.intro (kW.cell x2) (And.intro (kW.cell x3) (And.intro (kW.cell x4) (kW.cell x5))))))
 obtain ⟨q, hq⟩ : ∃ q, decide (x = allE) = q := ⟨_, rfl⟩
 have heq : ∀ w, (binOp .eql 66 (enV x) (enV allE)).run Tryz.prog w = .ok (.bool q) w := fun w => by rw [← hq]; exact vls x allE w
 rw [hq]
 clear x0 x1 x2 x3 x4 x5 hq
 go_enter Tryz.func46, Tryz.ntmps46
 go_upto_region 1 with (fail)
 clear hW
 refine' vau (fun (_ : Unit) _ V9 => Kp _ V9) [3, 4, 5, 6, 7, 8, 9, 10, 11, 12, 13, 14, 15, 16, 17, 18, 19, 2] (fun (_ : Unit) => [.pointer (some ⟨b, 0, none⟩), .int .i64 c, .bool true, .bool true, .pointer (some ⟨b, 1, none⟩), .slice (some ⟨g, off, none⟩) 1 m, .int .i64 1, .bool true, .bool true, .bool true, .pointer (some ⟨b, 1, none⟩), .slice (some ⟨g, off, none⟩) 1 m, .pointer (some ⟨g, off, none⟩), enV x, enV allE, .bool q, .bool q, .bool q]) (List.replicate 18 true) [] (by kernel_rfl) (by kernel_rfl) (fun _ => rfl) (fun _ => rfl) (fun _ => rfl) () (Kp.refl _).drew (fun _ _ _ _ _ h => h) ?_ ?_ ?_
 rotate_left
 ·intro z; simp only [List.zip_cons_cons, List.zip_nil_right, wrC, wrN, List.set_cons_zero, List.set_cons_succ, List.set_nil]; rfl
 ·repeat' (first | refine And.intro ?_ ?_ | exact trivial)
  all_goals intro z L a w9 hLi d hcl hM hO K hK
  all_goals try (go_simp; exact hK z _ _ (hO rfl) (fun _ _ => rfl) rfl)
  ·have u := Blk.f (HB0.out.keep hM) rfl
   go_simp
   exact hK z _ _ (hO rfl) (fun _ _ => rfl) rfl
  ·have u := Blk.f (HB0.out.keep hM) rfl
   go_simp
   exact hK z _ _ (hO rfl) (fun _ _ => rfl) rfl
  ·have u := Blk.f (HB0.out.keep hM) rfl
   go_simp
   exact hK z _ _ (hO rfl) (fun _ _ => rfl) rfl
  ·have y0 := hM.cell HX.out.1
   have y1 := hM.cell HX.out.2.1
   have y2 := hM.cell HX.out.2.2.1
   have y3 := hM.cell HX.out.2.2.2.1
   have y4 := hM.cell HX.out.2.2.2.2.1
   have y5 := hM.cell HX.out.2.2.2.2.2
   go_simp
   exact hK z _ _ (hO rfl) (fun _ _ => rfl) rfl
  ·go_simp
   refine (vhZ _).mono ?_
   rintro e9 wb ⟨rfl, hKc⟩
   exact hK z _ _ (hM.trans hKc) (fun _ _ => rfl) rfl
 intro z L w9 hL KV
 (try simp only [Exit.then])
 have HKV := Lib.hid (kW.trans KV)
 go_wp2_with fail
 go_ret
 exact ⟨rfl, HKV.out⟩
theorem vdu (c : Int) (A : Option Addr) (m : Nat) (es : List En) (w : World) (hR : Rd w 6 En.enc A es) (hn : es.length ≤ 1000000) : Calls Tryz.prog 46 #[dgV c A es.length m] w fun e w' => e = .returned (.bool (asksB c es)) ∧ Kp w w' := by
 unfold asksB
 cases hc : (c == 1) with
 | false => exact vlu c A m es w hR hn hc
 | true =>
  cases hl : ((es.length : Int) == 1) with
  | false => exact vlv c A m es w hR hn hc hl
  | true =>
   have h1 : es.length = 1 := by rw [beq_iff_eq] at hl; omega
   obtain ⟨x, hx⟩ := List.length_eq_one_iff.1 h1
   have e : (true && (true && decide (es.head? = some allE))) = decide (x = allE) := by rw [hx]; simp
   rw [e]
   subst hx
   exact vlw c A m x w hR hc
end

end Go.Proofs.YtgopnfacklmkaaaGreatDoor
