/- The trie's tidy and Take. -/
import Derived.Test.YtfaiponmjjbgoaaDoorColl
namespace Go.Proofs.YtfaiponmjjbgoaaDoor
open Go.RowKit
attribute [local go_sem] Oper.semAt_some

theorem way_len (q : Pn) : ∀ {t : Tr} {A : Nat × Nat} {m : Nat}, t.Wf → (∀ r ∈ t.pfx, m ≤ r.l) → (Tr.way q A t).length ≤ 33 - m
  | .nil, A, m, _, _ => by simp [Tr.way]
  | .node b p v h x y, A, m, ⟨hp, h0, h1, hx, hy⟩, hm => by
    have hpm := hm p (by simp [Tr.pfx])
    have hpl := hp.2.1
    have ix := way_len q (A := (b, 4)) (m := p.l + 1) hx (fun r hr => (h0 r hr).1)
    have iy := way_len q (A := (b, 5)) (m := p.l + 1) hy (fun r hr => (h1 r hr).1)
    unfold Tr.way
    split
    · split
      · simp; omega
      · split
        · simp only [List.length_cons]; omega
        · simp only [List.length_cons]; omega
    · simp

def TidI (w : World) (tr : Nat) (q : Pn) (t : Tr) (many : Int) (N k : Nat) (W : World) : Prop :=
  Only (tr :: t.bs) w W ∧ TM W (tidyK q (N - k) t) ∧ Blk W tr 57 #[(tidyK q (N - k) t).ptr, .int .i64 many, .bool true]

set_option maxRecDepth 100000 in
set_option maxHeartbeats 2000000 in
theorem tidy_any (tr : Nat) (q : Pn) (many : Int) (t : Tr) (w : World) (hG : RelsAt w) (hT : TrieM w tr t many) (hq : q.ok) :
    Calls Tryd.prog 42 #[.pointer (some ⟨tr, 0, none⟩), .agg #[.int .u32 q.a, .int .i64 q.l]] w fun e w' => e = .returned (.tuple #[]) ∧ Turned w w' tr t (tidyT q t) many := by
  have Hq := Lib.hid hq
  have HT := Lib.hid hT
  have HG := Lib.hid hG
  have hwl := way_len q (A := (tr, 0)) (m := 0) hT.wf (fun _ _ => Nat.zero_le _)
  have hlt := Lib.hid (fun b (hb : b ∈ tr :: t.bs) => show b < w.heap.size by
    rcases List.mem_cons.1 hb with rfl | hb
    · exact hT.blk.lt
    · exact hT.tm.lt b hb)
  clear hT hq hG
  obtain ⟨ps, hps⟩ : ∃ ps, Tr.way q (tr, 0) t = ps := ⟨_, rfl⟩
  rw [hps] at hwl
  have Hps := Lib.hid hps; clear hps
  refine calls_of_wp_marks Tryd.func42 rfl ?_; simp only [Tryd.ntmps42, List.size_toArray, List.length_cons, List.length_nil, Nat.reduceAdd, Nat.reduceSub, Array.replicate_succ, Array.replicate_zero, List.push_toArray, List.append_toArray, List.nil_append, List.cons_append]
  go_wp2_with fail
  refine (down_any tr q _).mono ?_
  simp only [World.size_alloc]
  rintro e w1 ⟨rfl, Dx, Dp, hK1⟩
  have kw : Kp w w1 := ((Kp.refl _).alloc _).trans hK1
  have D1 : DownMem (w.heap.size + 1) (w.heap.size + 1 + 1) tr q many t w1 := ⟨Dx, Dp, HT.out.blk.keep kw, HT.out.tm.keep kw, HG.out.keep kw⟩
  have hDk := Lib.hid (fun W (k : Kp w1 W) => show DownMem (w.heap.size + 1) (w.heap.size + 1 + 1) tr q many t W from ⟨D1.tx.keep k, D1.px.keep k, D1.tr.keep k, D1.tm.keep k, D1.rels.keep k⟩)
  have hit := down1_iter (w.heap.size + 1) (w.heap.size + 1 + 1) tr q many t Hq.out HT.out.wf
  rw [Hps.out] at hit
  have Hit := Lib.hid hit; clear hit
  clear hK1 Dx Dp D1
  go_wp2_with fail
  refine (collect_any ps (by omega) call_down1 Hit.out w1 hDk.out).mono ?_
  rintro e w2 ⟨A, c, rfl, hR, hK2, hA⟩
  have HR := Lib.hid hR; clear hR
  have HA := Lib.hid hA; clear hA
  have k2 := kw.trans hK2
  go_wp2_with fail
  refine (backward_any A ps.length c _).mono ?_
  rintro e w3 ⟨rfl, Bx, hK3⟩
  have k3 := k2.trans hK3
  have HR3 := Lib.hid (HR.out.keep hK3)
  have T3 := Lib.hid (HT.out.keep k3)
  have hs1 := kw.size
  have hs2 := hK2.size
  have hs3 := Bx.lt
  have hs0 := k3.size
  go_wp2_with fail
  refine wp_range (N := ps.length) rfl call_back1 (back1_iter w2.heap.size A c ps (by omega)) (fun _ _ => rfl) (TidI w3 tr q t many ps.length) (fun _ _ _ => False) ?_ (fun _ _ _ _ h => h.elim) ?_ ?_ ?_ ?_ (fun _ _ _ _ _ h => h.elim)
  · rintro k W W' ⟨h1, h2, h3⟩ hO
    refine ⟨⟨hO.os.trans h1.os, hO.tape.trans h1.tape, hO.output.trans h1.output, Nat.le_trans h1.size hO.size, fun i hi hn => (hO.block i (Nat.lt_of_lt_of_le hi h1.size) (by simp; omega)).trans (h1.block i hi hn)⟩, h2.only hO (fun b hb => ?_), h3.only hO ?_⟩
    · have := hlt.out b (List.mem_cons.2 (.inr ((tidyK_bs q _ t).subset hb))); simp; omega
    · have := hlt.out tr (by simp); simp; omega
  · rintro k W ⟨h1, _, _⟩
    refine ⟨Bx.only h1 (fun hc => by have := hlt.out _ hc; omega), HR3.out.only h1 (fun a ha hc => by have := hlt.out _ hc; have := HA.out a ha; omega)⟩
  · refine ⟨Only.refl _ _, ?_, ?_⟩
    · rw [Nat.sub_zero, tidyK_end q _ t (tr, 0) (by rw [Hps.out]; exact Nat.le_refl _)]; exact T3.out.tm
    · rw [Nat.sub_zero, tidyK_end q _ t (tr, 0) (by rw [Hps.out]; exact Nat.le_refl _)]; exact T3.out.blk
  · intro l k W hk _
    have hj : ps.length - 1 - k < ps.length := by omega
    obtain ⟨B, hB⟩ : ∃ B, ps[ps.length - 1 - k] = B := ⟨_, rfl⟩
    have hget : ps.getD (ps.length - 1 - k) (0, 0) = B := by simp only [List.getD]; rw [List.getElem?_eq_getElem hj]; exact hB
    have hB? : (Tr.way q (tr, 0) t)[ps.length - 1 - k]? = some B := by rw [Hps.out, List.getElem?_eq_getElem hj, hB]
    rw [hget]
    have HB := Lib.hid hB?; clear hB? hB hget
    gi_wp2_with fail
    refine ⟨trivial, ?_⟩
    rintro W2 ⟨h1, h2, h3⟩ hsz
    have hidx : ps.length - k = ps.length - 1 - k + 1 := by omega
    have hidx2 : ps.length - (k + 1) = ps.length - 1 - k := by omega
    rw [hidx] at h2 h3
    obtain ⟨s, S⟩ := tidy_step (A := (tr, 0)) h2 ⟨_, _, h3, rfl⟩ HT.out.out HT.out.nd HB.out
    have Hidx2 := Lib.hid hidx2; clear hidx hidx2
    obtain ⟨b, p, v, h, x, y, rfl⟩ := S.node
    obtain ⟨ty, cs, hPB, hPC⟩ := S.cell
    have cB : W2.cell? ⟨B.1, B.2, none⟩ = some (.pointer (some ⟨b, 0, none⟩)) := (hPB.cell _).trans hPC
    have zB := hPB.frozen B.2
    have NB := S.tm.1
    have HS := Lib.hid S; clear S
    have Hpc := Lib.hid hPC; clear hPC
    have hBlt := hPB.lt
    have hBin := HS.out.inn
    have hBw : B.1 < w.heap.size := by
      rcases hBin with e | e
      · rw [e]; exact hlt.out tr (by simp)
      · exact hlt.out _ (by simp [e])
    clear hBin
    refine wpIn_block ?_
    refine round_list (by kernel_rfl) (no_out_block no_out_round) ?_
    obtain ⟨kp, hkp⟩ : ∃ a, (keptT (.node b p v h x y)).ptr = .pointer a := by
      rcases keptT (.node b p v h x y) with _ | ⟨b', _, _, _, _, _⟩
      · exact ⟨_, rfl⟩
      · exact ⟨_, rfl⟩
    have Hkp := Lib.hid hkp; clear hkp
    go_wp2_with (go_at_call 54; refine (kept_any b p v h x y _ NB).mono ?_; rintro e w' ⟨rfl, rfl⟩; rw [Hkp.out])
    have hOB : Only (tr :: t.bs) w3 (W2.setCell ⟨B.1, B.2, none⟩ (.pointer kp)) := h1.setCell (.inl (by
      rcases HS.out.inn with e | e
      · simp [e]
      · simp [e])) _
    have haf := HS.out.after
    rw [Hkp.out] at haf
    refine ⟨⟨Below.heap_setCell _ _ _ _ (by simp; omega), Below.heap_setCell _ _ _ _ (by simp; omega)⟩, hOB, by rw [Hidx2.out]; exact haf, ?_⟩
    rw [Hidx2.out]
    rcases HS.out.top with ⟨ea, eb⟩ | ⟨ea, eb⟩
    · rw [eb, Hkp.out, ea]; exact h3.set_ 0 _
    · rw [eb]; exact h3.far (by simp only; intro e'; rw [← e'] at ea; exact HT.out.out ea) _
  · rintro W ⟨h1, h2, h3⟩ hd
    rw [Nat.sub_self] at h2 h3
    have hO3 : Only (tr :: t.bs) w W := (Only.of_kp k3).trans ⟨h1.os, h1.tape, h1.output, h1.size, h1.block⟩
    go_wp2_with fail
    refine takes_one hd (fun W' hO => ⟨.tuple #[], by simp [results, Tryd.results42, go_sem], rfl, ⟨?_, ?_, HT.out.wf |> fun hw => (tidy_wf q hw).1, (tidy_bs q t).nodup HT.out.nd, fun hc => HT.out.out ((tidy_bs q t).subset hc)⟩, ?_, fun b hb => .inl ((tidy_bs q t).subset hb)⟩)
    · exact h3.only hO (by have := hlt.out tr (by simp); simp; omega)
    · exact TM.only hO h2 (fun b hb => by have := hlt.out b (List.mem_cons.2 (.inr ((tidy_bs q t).subset hb))); simp; omega)
    · refine ⟨hO.os.trans hO3.os, hO.tape.trans hO3.tape, hO.output.trans hO3.output, Nat.le_trans hO3.size hO.size, fun i hi hn => (hO.block i (Nat.lt_of_lt_of_le hi hO3.size) (by simp; omega)).trans (hO3.block i hi hn)⟩
end Go.Proofs.YtfaiponmjjbgoaaDoor
