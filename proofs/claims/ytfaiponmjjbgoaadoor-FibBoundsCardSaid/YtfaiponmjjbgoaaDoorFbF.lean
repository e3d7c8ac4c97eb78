/- A table of hops, as one route comes to it: put, take, come. -/
import Derived.Test.YtfaiponmjjbgoaaDoorFbE
import Derived.Test.YtfaiponmjjbgoaaDoorRtD
namespace Go.Proofs.YtfaiponmjjbgoaaDoor
open Go.RowKit
attribute [local go_sem] Oper.semAt_some

def hasP (q : Pn) (L : List Hp) : Bool := L.any (fun e => decide (e.p = q))
def putE (h : Hp) (L : List Hp) : Int := if hasP h.p L || decide (L.length < 512) then 0 else 3
def putL (h : Hp) (L : List Hp) : List Hp := if hasP h.p L || decide (L.length < 512) then insH h L else L
theorem hasP_iff {q : Pn} {L : List Hp} : hasP q L = true ↔ ∃ e ∈ L, e.p = q := by simp [hasP]

theorem FI.nodup {t : Tr} {H : List Hp} (h : FI t H) : H.Nodup := by
  rw [List.nodup_iff_pairwise_ne, List.pairwise_iff_getElem]
  intro i j hi hj hij e
  have := h.inj hi hj (by rw [e])
  omega
theorem Up.nodup {l : List Hp} (h : Up l) : l.Nodup := List.Pairwise.imp (fun {a b} hab e => by rw [e] at hab; exact lt_irrefl _ hab) h
theorem perm_of {t : Tr} {H L : List Hp} (h : FI t H) (u : Up L) (e : ∀ x, x ∈ H ↔ x ∈ L) : H.Perm L := (List.perm_ext_iff_of_nodup h.nodup u.nodup).2 e

theorem FT.of_kp {w w' : World} {f : Nat} {F : List Nat} {L : List Hp} (h : FM w f F L) (k : Kp w w') : FT w w' f F L := ⟨F, h.keep k, Only.of_kp k, fun _ hb => .inl hb⟩
theorem FT.keep {w w1 w2 : World} {f : Nat} {F : List Nat} {L : List Hp} (k : Kp w w1) (h : FT w1 w2 f F L) : FT w w2 f F L := by
  obtain ⟨F', h1, h2, h3⟩ := h
  exact ⟨F', h1, (Only.of_kp k).trans h2, fun b hb => (h3 b hb).imp id (fun e => Nat.le_trans k.size e)⟩
theorem FT.after {w w1 w2 : World} {f : Nat} {F : List Nat} {L : List Hp} (h : FT w w1 f F L) (k : Kp w1 w2) : FT w w2 f F L := by
  obtain ⟨F', h1, h2, h3⟩ := h
  exact ⟨F', h1.keep k, h2.trans (Only.of_kp k), h3⟩
theorem FT.trans {w w1 w2 : World} {f : Nat} {F F1 : List Nat} {L : List Hp} (ho : Only F w w1) (hs : ∀ b ∈ F1, b ∈ F ∨ w.heap.size ≤ b) (k : FT w1 w2 f F1 L) : FT w w2 f F L := by
  obtain ⟨F', h1, h2, h3⟩ := k
  refine ⟨F', h1, ho.join h2 (fun _ h => h) hs, fun b hb => ?_⟩
  rcases h3 b hb with e | e
  · exact hs b e
  · exact .inr (Nat.le_trans ho.size e)

def PutAny (w : World) (f : Nat) (F : List Nat) (L : List Hp) (h : Hp) (e : Ending) (w' : World) : Prop := e = .returned (.int .i64 (putE h L)) ∧ FT w w' f F (putL h L)
theorem fput_any (f : Nat) (F : List Nat) (L : List Hp) (h : Hp) (w : World) (hG : RelsAt w) (hM : FM w f F L) (hq : h.p.ok) :
    Calls Tryd.prog 17 #[.pointer (some ⟨f, 0, none⟩), .agg #[.int .u32 h.p.a, .int .i64 h.p.l, .bool h.d, .int .i64 h.f, .int .u32 h.x, .int .i64 h.m]] w (PutAny w f F L h) := by
  obtain ⟨tr, t, A, c, H, rfl, m, u, pm⟩ := hM
  rcases got_at m.fi hq with ⟨k, hk, hp, hgot, _⟩ | ⟨hno, hgot, hrows⟩
  · refine (fput_had f tr t A c H h k w hG m hk hgot hq).mono ?_
    rintro e w' ⟨rfl, g, rfl, W, kW, rfl⟩
    have hh : hasP h.p L = true := hasP_iff.2 ⟨H[k], pm.mem_iff.1 (List.getElem_mem hk), hp⟩
    obtain ⟨d1, d2⟩ := m.fi.set hk (e := h) hp.symm
    have mW := m.keep kW
    have O6 : Only [g] W (set6 W g (k * 6) h) := (Only.refl [g] W).set6 (by simp) _ _
    obtain ⟨r1, r2, r3⟩ := m.row _ rfl
    refine ⟨by simp [putE, hh], _, ⟨tr, t, _, c, H.set k h, rfl, ⟨?_, ?_, ?_, d1, m.ftr, m.fbs, m.row, by simpa using m.room, ?_⟩, ?_, ?_⟩, (Only.of_kp kW).join O6 (fun _ h => h) (fun b hb => by simp at hb; left; simp [Fp, rowB, hb]), fun b hb => .inl hb⟩
    · rw [List.length_set]; exact mW.blk.only O6 (by simp; exact fun e => r1 e.symm)
    · rw [List.length_set]; exact mW.trie.only O6 (by simp; exact fun e => r2 e.symm) (fun b hb => by simp; intro e; subst e; exact r3 hb)
    · rw [List.length_set]; exact mW.own.set6 hk h
    · intro e he
      rcases (d2 e).1 he with e1 | e1
      · rw [e1]; exact hq
      · exact m.oks e e1.2
    · have : putL h L = insH h L := by simp [putL, hh]
      rw [this]; exact ins_up u
    · have e1 : putL h L = insH h L := by simp [putL, hh]
      rw [e1]
      exact perm_of d1 (ins_up u) (fun x => by rw [d2, ins_mem u, pm.mem_iff])
  · have hh : hasP h.p L = false := by
      rw [Bool.eq_false_iff]
      intro hc
      obtain ⟨e, he, hp⟩ := hasP_iff.1 hc
      exact hno e (pm.mem_iff.2 he) hp
    by_cases hf : H.length < 512
    · refine (fput_new f tr t A c H h w hG m hf hgot hrows hq).mono ?_
      rintro e w' ⟨rfl, t', A', c', m', O, hs⟩
      have hl : L.length < 512 := by rw [← pm.length_eq]; exact hf
      have e1 : putL h L = insH h L := by simp [putL, hl]
      refine ⟨by simp [putE, hl], _, ⟨tr, t', A', c', H ++ [h], rfl, m', ?_, ?_⟩, O, hs⟩
      · rw [e1]; exact ins_up u
      · rw [e1]
        refine perm_of m'.fi (ins_up u) (fun x => ?_)
        rw [ins_mem u, List.mem_append, List.mem_singleton, pm.mem_iff]
        constructor
        · rintro (h1 | h1)
          · exact .inr ⟨hno x (pm.mem_iff.2 h1), h1⟩
          · exact .inl h1
        · rintro (h1 | h1)
          · exact .inr h1
          · exact .inl h1.2
    · refine (fput_full f tr t A c H h w hG m (by omega) hgot hrows hq).mono ?_
      rintro e w' ⟨rfl, kW⟩
      have hl : ¬ L.length < 512 := by rw [← pm.length_eq]; exact hf
      have e1 : putL h L = L := by simp [putL, hh, hl]
      refine ⟨by simp [putE, hh, hl], ?_⟩
      rw [e1]
      exact FT.of_kp ⟨tr, t, A, c, H, rfl, m, u, pm⟩ kW

def TakeAny (w : World) (f : Nat) (F : List Nat) (L : List Hp) (q : Pn) (e : Ending) (w' : World) : Prop := e = .returned (.int .i64 0) ∧ FT w w' f F (delH q L)
theorem ftake_any (f : Nat) (F : List Nat) (L : List Hp) (q : Pn) (w : World) (hG : RelsAt w) (hGn : 0 ∉ F) (hM : FM w f F L) (hq : q.ok) :
    Calls Tryd.prog 19 #[.pointer (some ⟨f, 0, none⟩), .agg #[.int .u32 q.a, .int .i64 q.l]] w (TakeAny w f F L q) := by
  obtain ⟨tr, t, A, c, H, rfl, m, u, pm⟩ := hM
  rcases got_at m.fi hq with ⟨k, hk, hp, _, b, x, y, hl⟩ | ⟨hno, _, hrows⟩
  · refine (ftake_had f tr t A c H q k (H.length - 1) b x y w hG hGn m (by omega) hk hp hl hq).mono ?_
    rintro e w' ⟨rfl, t2, H', m', hm, O, hs⟩
    exact ⟨rfl, _, ⟨tr, t2, A, c, H', rfl, m', del_up u, perm_of m'.fi (del_up u) (fun x => by rw [hm, del_mem, pm.mem_iff])⟩, O, hs⟩
  · refine (ftake_not f tr t A c H q w hG m hrows hq).mono ?_
    rintro e w' ⟨rfl, kW⟩
    have e1 : delH q L = L := by
      unfold delH
      rw [List.filter_eq_self]
      intro e he
      simpa using hno e (pm.mem_iff.2 he)
    refine ⟨rfl, ?_⟩
    rw [e1]
    exact FT.of_kp ⟨tr, t, A, c, H, rfl, m, u, pm⟩ kW

/-- A route's cells. -/
def rtC (q : Pn) (s m l fc : Int) (x : Nat) (d : Int) (ch : Bool) : Array Value := #[.int .u32 q.a, .int .i64 q.l, .int .i64 s, .int .i64 m, .int .i64 l, .int .i64 fc, .int .u32 x, .int .i64 d, .bool ch]

set_option maxRecDepth 100000 in
set_option maxHeartbeats 1000000 in
theorem come1_any (c2 c3 f : Nat) (F : List Nat) (L : List Hp) (q : Pn) (s m l fc : Int) (x : Nat) (d : Int) (ch : Bool) (w : World) (hG : RelsAt w) (hM : FM w f F L) (hq : q.ok) (B2 : Blk w c2 23 #[.pointer (some ⟨f, 0, none⟩)]) (B3 : Blk w c3 31 (rtC q s m l fc x d ch)) :
    Calls Tryd.prog 16 #[.pointer (some ⟨c2, 0, none⟩), .pointer (some ⟨c3, 0, none⟩)] w (PutAny w f F L ⟨q, s == 1, fc, x, m⟩) := by
  have HG := Lib.hid hG
  have HM := Lib.hid hM
  have Hq := Lib.hid hq
  have a0 : w.cell? ⟨c2, 0, none⟩ = some (.pointer (some ⟨f, 0, none⟩)) := B2.cell 0
  have r0 : w.cell? ⟨c3, 0, none⟩ = some (.int .u32 q.a) := B3.cell 0
  have r1 : w.cell? ⟨c3, 1, none⟩ = some (.int .i64 q.l) := B3.cell 1
  have r2 : w.cell? ⟨c3, 2, none⟩ = some (.int .i64 s) := B3.cell 2
  have r3 : w.cell? ⟨c3, 3, none⟩ = some (.int .i64 m) := B3.cell 3
  have r5 : w.cell? ⟨c3, 5, none⟩ = some (.int .i64 fc) := B3.cell 5
  have r6 : w.cell? ⟨c3, 6, none⟩ = some (.int .u32 x) := B3.cell 6
  clear hG hM hq B2 B3
  go_enter Tryd.func16, Tryd.ntmps16
  go_wp2_with fail
  refine (fput_any f F L ⟨q, s == 1, fc, x, m⟩ _ HG.out HM.out Hq.out).mono ?_
  rintro e w' ⟨rfl, hT⟩
  have HT := Lib.hid hT; clear hT
  go_wp2_with fail
  go_ret
  exact ⟨rfl, HT.out⟩
set_option maxRecDepth 100000 in
set_option maxHeartbeats 1000000 in
theorem come2_any (c2 c3 f : Nat) (F : List Nat) (L : List Hp) (q : Pn) (s m l fc : Int) (x : Nat) (d : Int) (ch : Bool) (w : World) (hG : RelsAt w) (hGn : 0 ∉ F) (hM : FM w f F L) (hq : q.ok) (B2 : Blk w c2 23 #[.pointer (some ⟨f, 0, none⟩)]) (B3 : Blk w c3 31 (rtC q s m l fc x d ch)) :
    Calls Tryd.prog 18 #[.pointer (some ⟨c2, 0, none⟩), .pointer (some ⟨c3, 0, none⟩)] w (TakeAny w f F L q) := by
  have HG := Lib.hid hG
  have HGn := Lib.hid hGn
  have HM := Lib.hid hM
  have Hq := Lib.hid hq
  have a0 : w.cell? ⟨c2, 0, none⟩ = some (.pointer (some ⟨f, 0, none⟩)) := B2.cell 0
  have r0 : w.cell? ⟨c3, 0, none⟩ = some (.int .u32 q.a) := B3.cell 0
  have r1 : w.cell? ⟨c3, 1, none⟩ = some (.int .i64 q.l) := B3.cell 1
  clear hG hM hq B2 B3 hGn
  go_enter Tryd.func18, Tryd.ntmps18
  go_wp2_with fail
  refine (ftake_any f F L q _ HG.out HGn.out HM.out Hq.out).mono ?_
  rintro e w' ⟨rfl, hT⟩
  have HT := Lib.hid hT; clear hT
  go_wp2_with fail
  go_ret
  exact ⟨rfl, HT.out⟩
end Go.Proofs.YtfaiponmjjbgoaaDoor
