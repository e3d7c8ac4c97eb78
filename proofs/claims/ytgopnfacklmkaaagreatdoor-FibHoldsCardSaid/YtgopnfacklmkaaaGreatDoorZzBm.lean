/- Lemmas and contracts for the theorem of this claim: SoI, FhB, FhD, SoM, LwG. -/
import Derived.Test.YtgopnfacklmkaaaGreatDoorZzBj
import Derived.Test.YtgopnfacklmkaaaGreatDoorZzBl
set_option linter.all false
set_option maxHeartbeats 16000000
namespace Go.Proofs.YtgopnfacklmkaaaGreatDoor
section
open Go.RowKit Go.Maps
def seenA (L : List Rt) (i : Nat) : List Rt := ((newsL L).take i).foldl (fun M r => setR (seenR r) M) L
theorem vca {L : List Rt} {i : Nat} (h : i < (newsL L).length) : seenA L (i + 1) = setR (seenR (newsL L)[i]) (seenA L i) := by
 unfold seenA
 rw [List.take_succ_eq_append_getElem h, List.foldl_append]
 rfl
theorem vbi {L : List Rt} {r : Rt} : r ∈ newsL L ↔ r ∈ L ∧ r.c = true := by unfold newsL; rw [List.mem_filter]
theorem vfn {L : List Rt} (u : UpR L) : ∀ i, UpR (seenA L i)
 | 0 => by unfold seenA; rw [List.take_zero]; exact u
 | i + 1 => by
  by_cases h : i < (newsL L).length
  ·rw [vca h]; exact vbw _ (vfn u i)
  ·have : seenA L (i + 1) = seenA L i := by unfold seenA; rw [List.take_of_length_le (by omega), List.take_of_length_le (by omega)]
   rw [this]; exact vfn u i
theorem vcJ {L : List Rt} (u : UpR L) (hs : ∀ x ∈ L, x.s ≠ 0) : ∀ i x, x ∈ seenA L i ↔ (x ∈ L ∧ x ∉ (newsL L).take i) ∨ ∃ r ∈ (newsL L).take i, x = seenR r
 | 0, x => by unfold seenA; rw [List.take_zero]; simp
 | i + 1, x => by
  by_cases h : i < (newsL L).length
  ·have hm := vbi.1 (List.getElem_mem h)
   have hn : (newsL L)[i] ∉ (newsL L).take i := fun hz => by
    have hnd : (newsL L).Nodup := (List.pairwise_map.1 (u.filter _).nodup).imp (fun {x y} h e => h (by rw [e]))
    obtain ⟨j, hj, e⟩ := List.mem_take_iff_getElem.1 hz
    exact (List.pairwise_iff_getElem.1 hnd) j i (by omega) h (by omega) e
   rw [vca h, vao, vcJ u hs i x, List.take_succ_eq_append_getElem h]
   obtain ⟨y, hy⟩ : ∃ y, (newsL L)[i] = y := ⟨_, rfl⟩
   rw [hy] at hm hn ⊢
   have hsn : (seenR y).s ≠ 0 := hs y hm.1
   have hpn : (seenR y).p = y.p := rfl
   rw [hpn]
   have hsub : ∀ z ∈ (newsL L).take i, z ∈ L := fun z hz => (vbi.1 (List.mem_of_mem_take hz)).1
   constructor
   ·rintro (⟨rfl, _⟩ | ⟨⟨h1, h2⟩ | ⟨r, h1, rfl⟩, h3⟩)
    ·exact .inr ⟨y, by simp, rfl⟩
    ·exact .inl ⟨h1, by
      rw [List.mem_append, List.mem_singleton, not_or]
      exact ⟨h2, fun e => h3 (by rw [e])⟩⟩
    ·exact .inr ⟨r, by simp [h1], rfl⟩
   ·rintro (⟨h1, h2⟩ | ⟨r, h1, rfl⟩)
    ·rw [List.mem_append, List.mem_singleton, not_or] at h2
     exact .inr ⟨.inl ⟨h1, h2.1⟩, fun e => h2.2 (u.inj h1 hm.1 e)⟩
    ·rw [List.mem_append, List.mem_singleton] at h1
     rcases h1 with h1 | rfl
     ·exact .inr ⟨.inr ⟨r, h1, rfl⟩, fun e => hn (by rw [← u.inj (hsub r h1) hm.1 e]; exact h1)⟩
     ·exact .inl ⟨rfl, hsn⟩
  ·have : seenA L (i + 1) = seenA L i := by unfold seenA; rw [List.take_of_length_le (by omega), List.take_of_length_le (by omega)]
   rw [this, vcJ u hs i x, List.take_of_length_le (by omega), List.take_of_length_le (by omega)]
theorem vhA {r : Rt} (h : r.c = false) : seenR r = r := by cases r; simp only at h; subst h; rfl
theorem vkZ {L : List Rt} (u : UpR L) (hs : ∀ x ∈ L, x.s ≠ 0) : seenA L (newsL L).length = L.map seenR := by
 refine (vfn u _).eq ((vjs L).2 u) (fun x => ?_)
 rw [vcJ u hs, List.take_length, List.mem_map]
 constructor
 ·rintro (⟨h1, h2⟩ | ⟨r, h1, rfl⟩)
  ·refine ⟨x, h1, vhA ?_⟩
   cases e : x.c with
   | false => rfl
   | true => exact absurd (vbi.2 ⟨h1, e⟩) h2
  ·exact ⟨r, (vbi.1 h1).1, rfl⟩
 ·rintro ⟨r, h1, rfl⟩
  cases e : r.c with
  | true => exact .inr ⟨r, vbi.2 ⟨h1, e⟩, rfl⟩
  | false =>
   rw [vhA e]
   exact .inl ⟨h1, fun h => by have := (vbi.1 h).2; rw [e] at this; cases this⟩
theorem vmQ (L : List Rt) : armL (L.map seenR) = armL L := by
 unfold armL
 rw [List.filter_map, List.map_map]
 rfl
theorem vox {L : List Rt} (u : UpR L) (hs : ∀ x ∈ L, x.s ≠ 0) {i : Nat} {x : Rt} (h : x ∈ seenA L i) : ∃ y ∈ L, x.p = y.p := by
 rcases (vcJ u hs i x).1 h with ⟨h1, _⟩ | ⟨r, h1, rfl⟩
 ·exact ⟨x, h1, rfl⟩
 ·exact ⟨r, (vbi.1 (List.mem_of_mem_take h1)).1, rfl⟩
theorem vgb (L : List Rt) : ∀ i, (seenA L i).length ≤ L.length + i
 | 0 => by unfold seenA; rw [List.take_zero]; exact Nat.le_refl _
 | i + 1 => by
  have ih := vgb L i
  by_cases h : i < (newsL L).length
  ·rw [vca h]
   have h1 := (vas (seenR (newsL L)[i]) (seenA L i)).length_eq
   have h2 : (offR (seenR (newsL L)[i]).p (seenA L i)).length ≤ (seenA L i).length := List.length_filter_le _ _
   rw [List.length_append] at h1
   have : (if (seenR (newsL L)[i]).s = 0 then [] else [seenR (newsL L)[i]]).length ≤ 1 := by split <;> simp
   omega
  ·have : seenA L (i + 1) = seenA L i := by unfold seenA; rw [List.take_of_length_le (by omega), List.take_of_length_le (by omega)]
   rw [this]
   omega
def SeenI (w : World) (mp : Nat) (L : List Rt) (A : Option Addr) (i : Nat) (wr : World) : Prop := MapR wr mp (seenA L i) ∧ Rd wr 9 Rt.enc A (newsL L) ∧ Only [mp] w wr ∧ ∀ a, A = some a → w.heap.size ≤ a.block
def SeenP (B t : Nat) (F : List Nat) (T : Tb) (w : World) (e : Ending) (w' : World) : Prop := e = .returned (.int .i64 (seenT T).2) ∧ TabT w w' B t F (seenT T).1
set_option maxRecDepth 100000 in
theorem vla (B t : Nat) (F : List Nat) (T : Tb) (w : World) (h : TabM w B t F T) (hok : TbOk T) : Calls Tryz.prog 29 #[.pointer (some ⟨t, 0, none⟩)] w (SeenP B t F T w) := by
 have HS := vcW B t F T 82 (fun r => r.c) vcc vcI w h
 obtain ⟨q, mp, m, A, QF, l, hFe, X⟩ := h
 have hs : ∀ x ∈ T.l, x.s ≠ 0 := fun x hx => (hok.r x hx).2
 have htl := X.bk.lt
 have htm : t ≠ mp := fun e => X.mt e.symm
 have hml := X.mr.lt
 have hTl := X.n
 obtain ⟨L, hL⟩ : ∃ L, newsL T.l = L := ⟨_, rfl⟩
 have hlen : L.length ≤ 900000 := by
  have h1 := List.length_filter_le (fun r : Rt => r.c) T.l
  have h3 : L.length = (T.l.filter (fun r => r.c)).length := by rw [← hL]; rfl
  omega
 have HS2 : Hid (Calls Tryz.prog 81 #[.pointer (some ⟨t, 0, none⟩), .func (.func 82) #[] #[]] w (SiftP L w)) := by rw [← hL]; exact Lib.hid HS
 have HL := Lib.hid hL
 have HX := Lib.hid X
 have HOK := Lib.hid hok
 have HSS := Lib.hid hs
 have HFe := Lib.hid hFe
 clear HS hL X hok hs hFe
 go_enter Tryz.func29, Tryz.ntmps29
 go_wp2_with fail
 refine HS2.out.mono ?_
 rintro e w1 ⟨v, rfl, hO, K1⟩
 obtain ⟨A1, c, rfl, hR⟩ := hO.rd (by decide) Rt.len
 have hAl := vhz hO
 have I0 : Hid (SeenI w mp T.l A1 0 w1) := Lib.hid ⟨by unfold seenA; rw [List.take_zero]; exact HX.out.mr.keep K1, by rw [HL.out]; exact hR, Only.of_kp K1, fun a e => (hAl a e).1⟩
 clear hO hR hAl HS2
 go_wp2_with fail
 go_loopw [10] (fun k wr => ∃ i : Nat, i ≤ L.length ∧ k = .int .i64 i ∧ Hid (SeenI w mp T.l A1 i wr)) (fun k _ => L.length - (intOf k).toNat)
 case atStart => exact ⟨0, Nat.zero_le _, rfl, I0⟩
 case round =>
  obtain ⟨i, hi, rfl, I⟩ := hrel
  have hsz0 := I.out.2.2.1.size
  by_cases hlt : i < L.length
  ·have hgi : (i : Int) < (L.length : Int) := by omega
   have hg0 : (0 : Int) ≤ (i : Int) := by omega
   have hrd := I.out.2.1
   rw [HL.out] at hrd
   obtain ⟨b, off, hA, s0, s1, s2, s3, s4, s5, s6, s7, s8⟩ := vhw hrd hlt
   subst hA
   have hnext := vca (L := T.l) (i := i) (by rw [HL.out]; exact hlt)
   have hel : (newsL T.l)[i]'(by rw [HL.out]; exact hlt) = L[i] := by
    have := HL.out
    subst this
    rfl
   rw [hel] at hnext
   obtain ⟨r, hr⟩ : ∃ r, L[i] = r := ⟨_, rfl⟩
   rw [hr] at s0 s1 s2 s3 s4 s5 s6 s7 s8 hnext
   have hrm : r ∈ T.l := (vbi.1 (by rw [HL.out, ← hr]; exact List.getElem_mem hlt)).1
   have hwr : wfP r.p := HX.out.wf r hrm
   have HNX := Lib.hid hnext
   have HRM := Lib.hid hrm
   have HWR := Lib.hid hwr
   obtain ⟨g, hg⟩ : ∃ g, wr.heap.size = g := ⟨_, rfl⟩
   obtain ⟨V, hV, bV, kV⟩ : ∃ V, wr.alloc (.cells (roC r) 132) = V ∧ Blk V g 132 (roC r) ∧ Kp wr V := ⟨_, rfl, by rw [← hg]; exact Blk.new _ _ _, (Kp.refl _).alloc _⟩
   have r8 := Blk.f bV rfl
   have z8 := bV.frozen 8
   obtain ⟨U, hU, bU, kU⟩ : ∃ U, V.setCell ⟨g, 8, none⟩ (.bool false) = U ∧ Blk U g 132 (roC (seenR r)) ∧ Kp wr U := ⟨_, rfl, by
    have := bV.set_ 8 (.bool false)
    unfold roC at this
    simp only [List.setIfInBounds_toArray, List.set_cons_zero, List.set_cons_succ] at this
    exact this, kV.setCell (p := ⟨g, 8, none⟩) (by show wr.heap.size ≤ g; omega) _⟩
   obtain ⟨u0, u1, u2, u3, u4, u5, u6, u7, u8⟩ := vae bU
   have tb : U.cell? ⟨t, 10, none⟩ = some (.map (some mp)) := kU.cell ((I.out.2.2.1).cell (HX.out.bk.cell 10) (by simpa using htm))
   unfold roC at hV
   obtain ⟨es, hD, hes⟩ := I.out.1.keep kU
   have hls := vgb T.l i
   have hwM : ∀ x ∈ seenA T.l i, wfP x.p := fun x hx => by
    obtain ⟨y, hy, e⟩ := vox HX.out.u HSS.out hx
    rw [e]
    exact HX.out.wf y hy
   have HD := Lib.hid hD
   have HES := Lib.hid hes
   have HWM := Lib.hid hwM
   have HKU := Lib.hid kU
   simp only [seenR] at u0 u1 u2 u3 u4 u5 u6 u7 u8
   clear hr hnext hrm hwr hel hrd hD hes hwM bV bU kV kU
   go_upto_region 6 with (fail)
   try rw [hU]
   clear r8 z8 hV hU s0 s1 s2 s3 s4 s5 s6 s7 s8
   go_still_tail 8, (by kernel_rfl)
   change wpList _ _ _ _ _ U.drew
   refine wpList_mapUpdate_in U.drew rfl _ _ _ 123 rfl 39 132 keyedPf Tryz.underlying123 rdAll mp (seenA T.l i).length (.map es) rfl (vcA HD.out rfl) (by simp only [maxLen]; omega) (pfV r.p) (roV (seenR r)) (pfKey r.p) rfl rfl (vbx HWR.out) (.held (roV (seenR r))) [] rfl ?_
   intro W1 hD1 hT1
   have hO1 : Only [mp] wr W1 := ((Only.of_kp HKU.out).drew).trans (Only.of_turned hT1)
   have M1 := (MapR.put_ (r := seenR r) HES.out HWM.out HWR.out hD1).perm (show (seenR r :: offR (seenR r).p (seenA T.l i)).Perm (setR (seenR r) (seenA T.l i)) from by
    have := (vas (seenR r) (seenA T.l i)).symm
    rw [if_neg (show ¬ (seenR r).s = 0 from HSS.out r HRM.out)] at this
    exact this)
   have I1 : Hid (SeenI w mp T.l (some ⟨b, off, none⟩) (i + 1) W1) := Lib.hid ⟨by rw [HNX.out]; exact M1, fun j hj => by
    obtain ⟨b', off', e', hc'⟩ := I.out.2.1 j hj
    refine ⟨b', off', e', fun jj uu hu => hO1.cell (hc' jj uu hu) ?_⟩
    have h1 := I.out.2.2.2 _ e'
    simp only [List.mem_cons, List.not_mem_nil, or_false]
    have h2 : w.heap.size ≤ b' := h1
    show ¬ b' = mp
    omega, I.out.2.2.1.trans hO1, I.out.2.2.2⟩
   clear hD1 hT1 hO1 M1 u0 u1 u2 u3 u4 u5 u6 u7 u8 tb hls
   go_wp2_with fail
   go_roundw
   case rel => exact ⟨i + 1, by omega, by go_num, I1⟩
   case measure => simp [intOf]; omega
  ·obtain rfl : i = L.length := by omega
   have hM := I.out.1
   have hO := I.out.2.2.1
   have hall := vkZ HX.out.u HSS.out
   rw [HL.out] at hall
   rw [hall] at hM
   have hE : Hid (SeenP B t F T w (.returned (.int .i64 (L.length : Int))) wr) := by
    refine Lib.hid ⟨by unfold seenT; rw [HL.out], F, ⟨q, mp, m, A, QF, l, HFe.out, HX.out.bk.only hO (by simpa using htm), HX.out.qs.only hO (fun x hx => by simp only [List.mem_cons, List.not_mem_nil, or_false]; rintro rfl; exact HX.out.mq hx), by show l.Perm (armL (T.l.map seenR)); rw [vmQ]; exact HX.out.pm, hM, vaU HX.out.ow hO (fun a e => by simpa using (HX.out.an a e).2.2), HX.out.tq, HX.out.mq, HX.out.mt, HX.out.an, HX.out.bt, HX.out.bm, (vjs _).2 HX.out.u, fun x hx => ?_, by show (T.l.map seenR).length ≤ _; rw [List.length_map]; exact HX.out.n⟩, hO.wider (fun x hx => by simp only [List.mem_cons, List.not_mem_nil, or_false] at hx; subst hx; rw [HFe.out]; simp), fun x hx => .inl hx⟩
    obtain ⟨y, hy, rfl⟩ := List.mem_map.1 hx
    exact HX.out.wf y hy
   clear hM hO hall
   go_wp2_with fail
   go_ret
   exact hE.out
end

section
open Go.RowKit Go.Maps
theorem TM.noPre {w : World} : ∀ {t : Tr}, TM w t → NoPre w t.bs
 | .nil, _ => fun b hb => by simp [Tr.bs] at hb
 | .node b p v h x y, ⟨h0, hx, hy⟩ => fun c hc => by
  simp only [Tr.bs, List.cons_append, List.mem_cons, List.mem_append] at hc
  rcases hc with rfl | hc | hc
  ·exact NoPre.of_blk h0 (by decide)
  ·exact TM.noPre hx c hc
  ·exact TM.noPre hy c hc
theorem FM.noPre {w : World} {f : Nat} {F : List Nat} {L : List Hp} (h : FM w f F L) : NoPre w F := by
 obtain ⟨tr, t, A, c, H, rfl, m, _⟩ := h
 intro b hb
 simp only [Fp, List.mem_cons, List.mem_append] at hb
 rcases hb with rfl | rfl | hb | hb
 ·exact NoPre.of_blk m.blk (by decide)
 ·exact NoPre.of_blk m.trie.blk (by decide)
 ·exact m.trie.tm.noPre b hb
 ·cases A with
  | none => cases hb
  | some a =>
   simp only [rowB, List.mem_singleton] at hb
   subst hb
   rcases m.own.2 with ⟨hv, _⟩ | ⟨g', cap, cur, hv, _, hc, _⟩
   ·cases hv
   ·injection hv with e1
    injection e1 with e1
    subst e1
    exact ⟨_, hc, fun xs e => by injection e with _ e; exact absurd e (by decide)⟩
def Stay (bs : List Nat) (W W' : World) : Prop := ∀ b ∈ bs, W'.heap[b]? = W.heap[b]?
theorem Stay.blk {bs : List Nat} {W W' : World} (h : Stay bs W W') {b : Nat} (hb : b ∈ bs) {t : TypeId} {cs : Array Value} (k : Blk W b t cs) : Blk W' b t cs := (h b hb).trans k
structure FbS (w0 W : World) (B t : Nat) (T : Tb) (f : Nat) (L : List Hp) (bs : List Nat) : Prop where
 kp : Kp w0 W
 lb : w0.heap.size ≤ B
 tm : ∃ F G, TabM W B t F T ∧ FM W f G L ∧ (∀ b ∈ F, b ∉ G) ∧ (∀ b ∈ G, w0.heap.size ≤ b) ∧ ∀ b ∈ bs, b ∉ F ∧ b ∉ G
 lt : ∀ b ∈ bs, b < W.heap.size
 gd : Good T
 ca : CapAt w0
 rl : RelsAt w0
section
variable {w0 W W' : World} {B t : Nat} {F G : List Nat} {T T' : Tb} {f : Nat} {L L' : List Hp} {bs cs : List Nat}
theorem FbS.add (S : FbS w0 W B t T f L bs) (k : Kp W W') (hc : ∀ b ∈ cs, W.heap.size ≤ b ∧ b < W'.heap.size) : FbS w0 W' B t T f L (cs ++ bs) := by
 obtain ⟨F, G, h1, h2, h3, h4, h5⟩ := S.tm
 refine ⟨S.kp.trans k, S.lb, ⟨F, G, h1.keep k, h2.keep k, h3, h4, fun b hb => ?_⟩, fun b hb => ?_, S.gd, S.ca, S.rl⟩
 ·rcases List.mem_append.1 hb with hb | hb
  ·exact ⟨fun z => by have := (h1.lo b z).2; have := (hc b hb).1; omega, fun z => by have := h2.lt b z; have := (hc b hb).1; omega⟩
  ·exact h5 b hb
 ·rcases List.mem_append.1 hb with hb | hb
  ·exact (hc b hb).2
  ·exact Nat.lt_of_lt_of_le (S.lt b hb) k.size
theorem FbS.keep (S : FbS w0 W B t T f L bs) (k : Kp W W') : FbS w0 W' B t T f L bs := S.add (cs := []) k (by simp)
theorem FbS.cut (S : FbS w0 W B t T f L bs) (hc : ∀ b ∈ cs, b ∈ bs) : FbS w0 W B t T f L cs := by
 obtain ⟨F, G, h1, h2, h3, h4, h5⟩ := S.tm
 exact ⟨S.kp, S.lb, ⟨F, G, h1, h2, h3, h4, fun b hb => h5 b (hc b hb)⟩, fun b hb => S.lt b (hc b hb), S.gd, S.ca, S.rl⟩
theorem FbS.turnT (S : FbS w0 W B t T f L bs) (hM : TabM W B t F T) (hF : FM W f G L) (hd : ∀ b ∈ F, b ∉ G) (hl : ∀ b ∈ G, w0.heap.size ≤ b) (hb : ∀ b ∈ bs, b ∉ F ∧ b ∉ G) (k : TabT W W' B t F T') (g : Good T') : FbS w0 W' B t T' f L bs ∧ Stay bs W W' := by
 obtain ⟨F', k1, k2, k3⟩ := k
 refine ⟨⟨k2.kp S.kp (fun b hb => Nat.le_trans S.lb (hM.lo b hb).1), S.lb, ⟨F', G, k1, hF.only k2 (fun b hb z => hd b z hb), fun b hb hg => ?_, hl, fun b h => ⟨fun z => ?_, (hb b h).2⟩⟩, fun b h => Nat.lt_of_lt_of_le (S.lt b h) k2.size, g, S.ca, S.rl⟩, fun b h => k2.block b (S.lt b h) (hb b h).1⟩
 ·rcases k3 b hb with e | e
  ·exact hd b e hg
  ·have := hF.lt b hg
   omega
 ·rcases k3 b z with e | e
  ·exact (hb b h).1 e
  ·have := S.lt b h
   omega
theorem FbS.turnF (S : FbS w0 W B t T f L bs) (hM : TabM W B t F T) (hF : FM W f G L) (hd : ∀ b ∈ F, b ∉ G) (hl : ∀ b ∈ G, w0.heap.size ≤ b) (hb : ∀ b ∈ bs, b ∉ F ∧ b ∉ G) (k : FT W W' f G L') : FbS w0 W' B t T f L' bs := by
 obtain ⟨G', k1, k2, k3⟩ := k
 have hs := S.kp.size
 refine ⟨k2.kp S.kp hl, S.lb, ⟨F, G', hM.by_ k2 (fun b hb z => hd b z hb) hF.noPre, k1, fun b hb hg => ?_, fun b hb => ?_, fun b h => ⟨(hb b h).1, fun z => ?_⟩⟩, fun b h => Nat.lt_of_lt_of_le (S.lt b h) k2.size, S.gd, S.ca, S.rl⟩
 ·rcases k3 b hg with e | e
  ·exact hd b hb e
  ·have := (hM.lo b hb).2
   omega
 ·rcases k3 b hb with e | e
  ·exact hl b e
  ·omega
 ·rcases k3 b z with e | e
  ·exact (hb b h).2 e
  ·have := S.lt b h
   omega
theorem FbS.caps (S : FbS w0 W B t T f L bs) : CapAt W ∧ 1 < B ∧ RelsAt W ∧ 3 < w0.heap.size := by
 have h1 := World.block_lt_of_cell? w0 _ S.ca.1
 have h2 := World.block_lt_of_cell? w0 _ S.rl.1
 exact ⟨S.ca.keep S.kp, Nat.lt_of_lt_of_le h1 S.lb, S.rl.keep S.kp, h2⟩
theorem FbS.tab (S : FbS w0 W B t T f L bs) : ∃ F, TabM W B t F T := by
 obtain ⟨F, _, h, _⟩ := S.tm
 exact ⟨F, h⟩
end
theorem TabM.fits {w : World} {B t : Nat} {F : List Nat} {T : Tb} (h : TabM w B t F T) (g : Good T) : ∀ r ∈ T.l, r.fits := by
 obtain ⟨_, _, _, _, _, _, _, X⟩ := h
 exact fun r hr => ⟨(X.wf r hr).1, g.xs r hr⟩
def FbP (w0 W : World) (B t : Nat) (T' : Tb) (f : Nat) (L : List Hp) (bs : List Nat) (v : Value) (e : Ending) (W' : World) : Prop := e = .returned v ∧ FbS w0 W' B t T' f L bs ∧ Stay bs W W'
theorem voy (w0 W : World) (B t : Nat) (T : Tb) (f : Nat) (L : List Hp) (bs : List Nat) (S : FbS w0 W B t T f L bs) (p : PI) (h : Hd) (now : Int) (hp : wfP p) (hh : h.a < 4294967296) :
  Calls Tryz.prog 14 #[.pointer (some ⟨t, 0, none⟩), pfV p, .agg #[.int .i64 h.f, .int .u32 (h.a : Int), .int .i64 h.m], .int .i64 now] W (FbP w0 W B t (heardT T p h now).1 f L bs (.tuple #[roV (heardT T p h now).2.1, .int .i64 (heardT T p h now).2.2])) := by
 obtain ⟨F, G, h1, h2, h3, h4, h5⟩ := S.tm
 refine (vjP B t F T p h now W h1 S.gd.ok S.gd.xs S.gd.own S.caps.1 hp hh).mono ?_
 rintro e W' ⟨rfl, k⟩
 exact ⟨rfl, S.turnT h1 h2 h3 h4 h5 k (S.gd.heard p now hh)⟩
theorem voP (w0 W : World) (B t : Nat) (T : Tb) (f : Nat) (L : List Hp) (bs : List Nat) (S : FbS w0 W B t T f L bs) (now : Int) :
  Calls Tryz.prog 27 #[.pointer (some ⟨t, 0, none⟩), .int .i64 now] W (FbP w0 W B t (expT T now).1 f L bs (.tuple #[.int .i64 (expT T now).2.1, .int .i64 (expT T now).2.2])) := by
 obtain ⟨F, G, h1, h2, h3, h4, h5⟩ := S.tm
 refine (vmC B t F T now W h1 S.gd.ok S.gd.xs S.gd.own S.caps.1 S.caps.2.1).mono ?_
 rintro e W' ⟨rfl, k⟩
 exact ⟨rfl, S.turnT h1 h2 h3 h4 h5 k (S.gd.exp now)⟩
theorem voz (w0 W : World) (B t : Nat) (T : Tb) (f : Nat) (L : List Hp) (bs : List Nat) (S : FbS w0 W B t T f L bs) :
  Calls Tryz.prog 29 #[.pointer (some ⟨t, 0, none⟩)] W (FbP w0 W B t (seenT T).1 f L bs (.int .i64 (seenT T).2)) := by
 obtain ⟨F, G, h1, h2, h3, h4, h5⟩ := S.tm
 refine (vla B t F T W h1 S.gd.ok).mono ?_
 rintro e W' ⟨rfl, k⟩
 exact ⟨rfl, S.turnT h1 h2 h3 h4 h5 k S.gd.seen⟩
theorem vlb (w0 W W' : World) (B t : Nat) (T : Tb) (f : Nat) (L : List Hp) (bs : List Nat) (S : FbS w0 W B t T f L bs) (k : Kp W W') (rs : List Rt) (A : Option Addr) (c : Nat) (hR : Rd W' 9 Rt.enc A rs) (hA : ∀ a, A = some a → W.heap.size ≤ a.block) (hn : rs.length ≤ 1000000) (hf : ∀ r ∈ rs, r.fits) :
  Calls Tryz.prog 26 #[.pointer (some ⟨f, 0, none⟩), .slice A rs.length c] W' fun e V => e = .returned (.tuple #[.int .i64 (runN rs L), .int .i64 (runE rs L)]) ∧ FbS w0 V B t T f (runL rs L) bs := by
 have hS' := S.keep k
 obtain ⟨F, G, h1, h2, h3, h4, h5⟩ := S.tm
 refine (vdm f G L rs A c W' hS'.caps.2.2.1 (fun z => ?_) (h2.keep k) hR (fun _ a ha z => ?_) hn hf).mono ?_
 ·have := h4 _ z
  have := S.caps.2.2.2
  omega
 ·have := h2.lt _ z
  have := hA a ha
  omega
 rintro e V ⟨rfl, hT⟩
 exact ⟨rfl, hS'.turnF (h1.keep k) (h2.keep k) h3 h4 h5 hT⟩
end

section
open Go.RowKit Go.Maps
theorem Only.over {F F1 : List Nat} {w w1 w2 : World} (k : Only F w w1) (hF : ∀ b ∈ F1, b ∈ F ∨ w.heap.size ≤ b) (h : Only F1 w1 w2) : Only F w w2 :=
 ⟨h.os.trans k.os, h.tape.trans k.tape, h.output.trans k.output, Nat.le_trans k.size h.size, fun i hi hn => by
  rw [h.block i (Nat.lt_of_lt_of_le hi k.size) (fun e => (hF i e).elim hn (fun z => by omega)), k.block i hi hn]⟩
theorem Only.more {F F1 : List Nat} {w w1 : World} (k : Only F w w1) (hF : ∀ b ∈ F, b ∈ F1) : Only F1 w w1 :=
 ⟨k.os, k.tape, k.output, k.size, fun i hi hn => k.block i hi (fun z => hn (hF i z))⟩
theorem vbd {P : Program} {fn : Func} {R : Ending → World → Prop} {a : Act} {w : World} (h : Takes a.defers w (fun w' => ∃ v, (results fn a.tmps).run P w' = .ok v w' ∧ R (.returned v) w')) : bodyPostM P fn R Exit.ret a w := h
def markF (r : Nat) : Deferred := { target := .collected r, args := #[] }
def MkF (rs : List Nat) (W : World) : Prop := ∀ r ∈ rs, W.heap[r]? = some (.deferred (some []))
theorem MkF.only {rs bs : List Nat} {W W' : World} (h : MkF rs W) (k : Only bs W W') (hn : ∀ r ∈ rs, r ∉ bs) : MkF rs W' := fun r hr =>
 (k.block r (Array.getElem?_eq_some_iff.1 (h r hr)).1 (hn r hr)).trans (h r hr)
theorem MkF.keep {rs : List Nat} {W W' : World} (h : MkF rs W) (k : Kp W W') : MkF rs W' := h.only (bs := []) (Only.of_kp k) (by simp)
theorem veD {K : World → Prop} : ∀ (rs : List Nat) (W : World), rs.Nodup → MkF rs W → (∀ W', Only rs W W' → K W') → Takes (rs.map markF) W K
 | [], W, _, _, h => h W (Only.refl _ _)
 | r :: rs, W, hn, hm, h => by
  rw [List.nodup_cons] at hn
  have hr := hm r List.mem_cons_self
  have k1 : Only [r] W (W.putObj r (.deferred none)) := (Only.refl [r] W).putObj (by simp) _
  refine ⟨r, rfl, hr, veD rs _ hn.2 (fun x hx => ?_) (fun W' hW' => h W' ?_)⟩
  ·have hx2 := hm x (List.mem_cons_of_mem _ hx)
   have hne : x ∉ [r] := by simp; rintro rfl; exact hn.1 hx
   exact (k1.block x (Array.getElem?_eq_some_iff.1 hx2).1 hne).trans hx2
  ·exact (k1.more (F1 := r :: rs) (by simp)).over (fun b hb => .inl (List.mem_cons_of_mem _ hb)) hW'
theorem lit224 (ts : Array Value) (h : ts.size = 224) : ∃ u : Nat → Value, ts = #[u 0, u 1, u 2, u 3, u 4, u 5, u 6, u 7, u 8, u 9, u 10, u 11, u 12, u 13, u 14, u 15, u 16, u 17, u 18, u 19, u 20, u 21, u 22, u 23, u 24, u 25, u 26, u 27, u 28, u 29, u 30, u 31, u 32, u 33, u 34, u 35, u 36, u 37, u 38, u 39, u 40, u 41, u 42, u 43, u 44, u 45, u 46, u 47, u 48, u 49, u 50, u 51, u 52, u 53, u 54, u 55, u 56, u 57, u 58, u 59, u 60, u 61, u 62, u 63, u 64, u 65, u 66, u 67, u 68, u 69, u 70, u 71, u 72, u 73, u 74, u 75, u 76, u 77, u 78, u 79, u 80, u 81, u 82, u 83, u 84, u 85, u 86, u 87, u 88, u 89, u 90, u 91, u 92, u 93, u 94, u 95, u 96, u 97, u 98, u 99, u 100, u 101, u 102, u 103, u 104, u 105, u 106, u 107, u 108, u 109, u 110, u 111, u 112, u 113, u 114, u 115, u 116, u 117, u 118, u 119, u 120, u 121, u 122, u 123, u 124, u 125, u 126, u 127, u 128, u 129, u 130, u 131, u 132, u 133, u 134, u 135, u 136, u 137, u 138, u 139, u 140, u 141, u 142, u 143, u 144, u 145, u 146, u 147, u 148, u 149, u 150, u 151, u 152, u 153, u 154, u 155, u 156, u 157, u 158, u 159, u 160, u 161, u 162, u 163, u 164, u 165, u 166, u 167, u 168, u 169, u 170, u 171, u 172, u 173, u 174, u 175, u 176, u 177, u 178, u 179, u 180, u 181, u 182, u 183, u 184, u 185, u 186, u 187, u 188, u 189, u 190, u 191, u 192, u 193, u 194, u 195, u 196, u 197, u 198, u 199, u 200, u 201, u 202, u 203, u 204, u 205, u 206, u 207, u 208, u 209, u 210, u 211, u 212, u 213, u 214, u 215, u 216, u 217, u 218, u 219, u 220, u 221, u 222, u 223] ∧ ∀ i, u i = ts.getD i undef := by
 refine ⟨fun i => ts.getD i undef, ?_, fun _ => rfl⟩
 have e : ts.toList = (List.range 224).map (fun i => ts.getD i undef) := by
  refine List.ext_getElem (by simp [h]) (fun i h1 h2 => ?_)
  have hi : i < ts.size := by simpa using h1
  simp [hi]
 apply Array.ext'
 rw [e]
 rfl
structure Fa where
 wh : Int
 p : PI
 h : Hd
 more : Int
def Fa.enc (x : Fa) : List Value := [.int .i64 x.wh, .int .u32 (x.p.a : Int), .int .i64 x.p.l, .int .i64 x.h.f, .int .u32 (x.h.a : Int), .int .i64 x.h.m, .int .i64 x.more]
def faC (x : Fa) : Array Value := #[.int .i64 x.wh, .int .u32 (x.p.a : Int), .int .i64 x.p.l, .int .i64 x.h.f, .int .u32 (x.h.a : Int), .int .i64 x.h.m, .int .i64 x.more]
structure Fa.fits (x : Fa) : Prop where
 p : wfP x.p
 a : x.h.a < 4294967296
theorem fa_at {w : World} {A : Option Addr} {xs : List Fa} (h : Rd w 7 Fa.enc A xs) {k : Nat} (hk : k < xs.length) : ∃ b off : Nat, A = some ⟨b, off, none⟩ ∧ w.cell? ⟨b, off + k * 7, none⟩ = some (.int .i64 xs[k].wh) ∧ w.cell? ⟨b, off + k * 7 + 1, none⟩ = some (.int .u32 (xs[k].p.a : Int)) ∧ w.cell? ⟨b, off + k * 7 + 2, none⟩ = some (.int .i64 xs[k].p.l) ∧ w.cell? ⟨b, off + k * 7 + 3, none⟩ = some (.int .i64 xs[k].h.f) ∧ w.cell? ⟨b, off + k * 7 + 4, none⟩ = some (.int .u32 (xs[k].h.a : Int)) ∧ w.cell? ⟨b, off + k * 7 + 5, none⟩ = some (.int .i64 xs[k].h.m) ∧ w.cell? ⟨b, off + k * 7 + 6, none⟩ = some (.int .i64 xs[k].more) := by
 obtain ⟨b, off, e, hc⟩ := h k hk
 exact ⟨b, off, e, by simpa using hc 0 _ rfl, by simpa using hc 1 _ rfl, by simpa using hc 2 _ rfl, by simpa using hc 3 _ rfl, by simpa using hc 4 _ rfl, by simpa using hc 5 _ rfl, by simpa using hc 6 _ rfl⟩
def adE (a : Nat) : List Value := [.int .u32 (a : Int)]
theorem ad_at {w : World} {A : Option Addr} {xs : List Nat} (h : Rd w 1 adE A xs) {k : Nat} (hk : k < xs.length) : ∃ b off : Nat, A = some ⟨b, off, none⟩ ∧ w.cell? ⟨b, off + k, none⟩ = some (.int .u32 (xs[k] : Int)) := by
 obtain ⟨b, off, e, hc⟩ := h k hk
 exact ⟨b, off, e, by simpa using hc 0 _ rfl⟩
theorem viD {T : Tb} (g : Good T) {p : PI} (hp : wfP p) {k : Hd} (hk : k.a < 4294967296) (now : Int) : (heardT T p k now).2.1.fits := by
 have hz : zeroR.fits := ⟨by decide, by decide⟩
 unfold heardT
 split
 ·split
  ·split
   ·exact hz
   ·refine ⟨?_, vne (was_x g.xs p) hk⟩
    show (hearR T.c (wasR p T.l) k now).p.a < 4294967296
    rw [vjh, was_p]
    exact hp.1
  ·exact hz
 ·exact hz
theorem voQ {α : Type} {w : World} {base e sz n c : Nat} {enc : α → List Value} {A : Option Addr} {xs : List α} (h : Own w base e sz enc (.slice A n c) xs) : ∀ a, A = some a → base ≤ a.block := by
 intro a ha
 rcases h.2 with ⟨hv, _⟩ | ⟨g, cap, cur, hv, hg, _⟩
 ·injection hv with h1
  rw [ha] at h1
  cases h1
 ·injection hv with h1
  rw [ha] at h1
  injection h1 with h1
  subst h1
  exact hg
theorem FbS.other {w0 W W' : World} {B t : Nat} {T : Tb} {f : Nat} {L : List Hp} {bs : List Nat} (S : FbS w0 W B t T f L bs) {z : Nat} {ty : TypeId} {xs : Array Value} (hz : z ∈ bs) (h0 : w0.heap.size ≤ z) (hB : Blk W z ty xs) (ht : ty ≠ 39) (k : Only [z] W W') : FbS w0 W' B t T f L bs := by
 obtain ⟨F, G, h1, h2, h3, h4, h5⟩ := S.tm
 refine ⟨k.kp S.kp (by simp; omega), S.lb, ⟨F, G, h1.by_ k (fun b hb => ?_) (fun b hb => ?_), h2.only k (fun b hb e => ?_), h3, h4, h5⟩, fun b hb => Nat.lt_of_lt_of_le (S.lt b hb) k.size, S.gd, S.ca, S.rl⟩
 ·rw [List.mem_singleton] at hb
  subst hb
  exact (h5 b hz).1
 ·rw [List.mem_singleton] at hb
  subst hb
  exact NoPre.of_blk hB ht
 ·rw [List.mem_singleton] at e
  subst e
  exact (h5 b hz).2 hb
theorem FbS.new {w W W' : World} {t f : Nat} {F : List Nat} {T : Tb} {L : List Hp} (hM : TabM W w.heap.size t F T) (hF : ∃ G, FM W' f G L ∧ ∀ b ∈ G, W.heap.size ≤ b) (k0 : Kp w W) (k : Kp W W') (g : Good T) (ca : CapAt w) (rl : RelsAt w) : FbS w W' w.heap.size t T f L [] := by
 obtain ⟨G, h1, h2⟩ := hF
 exact ⟨k0.trans k, Nat.le_refl _, ⟨F, G, hM.keep k, h1, fun b hb hg => by have := (hM.lo b hb).2; have := h2 b hg; omega, fun b hb => Nat.le_trans k0.size (h2 b hb), by simp⟩, by simp, g, ca, rl⟩
def LkI (ws : World) (bw bf a : Nat) (L : List Rt) (q : Nat) (V : World) : Prop := Blk V bw 52 (roC ((L.take q).foldl (lookStep a) (zeroR, false)).1) ∧ Blk V bf 4 #[.bool ((L.take q).foldl (lookStep a) (zeroR, false)).2] ∧ Only [bw, bf] ws V
theorem LkI.only {ws V V' : World} {bw bf a q : Nat} {L : List Rt} {bs : List Nat} (h : LkI ws bw bf a L q V) (k : Only bs V V') (hb : ∀ b ∈ bs, ws.heap.size ≤ b) (h1 : bw < ws.heap.size) (h2 : bf < ws.heap.size) : LkI ws bw bf a L q V' :=
 ⟨h.1.only k (fun z => by have := hb bw z; omega), h.2.1.only k (fun z => by have := hb bf z; omega), h.2.2.over (F1 := [bw, bf] ++ bs) (fun b z => by
  rcases List.mem_append.1 z with z | z
  ·exact .inl z
  ·exact .inr (hb b z)) (k.more (fun b z => List.mem_append.2 (.inr z)))⟩
theorem LkI.start {ws : World} {bw bf a : Nat} {L : List Rt} (h : Blk ws bw 52 (roC zeroR)) (k : Blk ws bf 4 #[.bool false]) : LkI ws bw bf a L 0 ws := by
 unfold LkI
 rw [List.take_zero]
 exact ⟨h, k, Only.refl _ _⟩
section
variable {ws V W : World} {bw bf a q : Nat} {L : List Rt} {wt r : Rt} {fd : Bool}
theorem LkI.no (hn : (L.take (q + 1)).foldl (lookStep a) (zeroR, false) = (wt, fd)) (hW : Blk V bw 52 (roC wt)) (hF : Blk V bf 4 #[.bool fd]) (hO : Only [bw, bf] ws V) (k : Kp V W) (hs : ws.heap.size + 1 < V.heap.size) : Kept2 ws V W ∧ LkI ws bw bf a L (q + 1) W := by
 refine ⟨⟨k.heap (by omega), k.heap (by omega)⟩, ?_⟩
 unfold LkI
 rw [hn]
 exact ⟨hW.keep k, hF.keep k, hO.trans (Only.of_kp k)⟩
theorem LkI.yes (hn : (L.take (q + 1)).foldl (lookStep a) (zeroR, false) = (r, true)) (hW : Blk V bw 52 (roC wt)) (hF : Blk V bf 4 #[.bool fd]) (hO : Only [bw, bf] ws V) (k : Kp V W) (hs : ws.heap.size + 1 < V.heap.size) (h1 : bw < ws.heap.size) (h2 : bf < ws.heap.size) (hne : bw ≠ bf) : Kept2 ws V ((roSet W bw r).setCell ⟨bf, 0, none⟩ (.bool true)) ∧ LkI ws bw bf a L (q + 1) ((roSet W bw r).setCell ⟨bf, 0, none⟩ (.bool true)) := by
 have o1 : Only [bw, bf] V ((roSet W bw r).setCell ⟨bf, 0, none⟩ (.bool true)) := ((Only.of_kp k).putRo (.inl (by simp)) r).setCell (p := ⟨bf, 0, none⟩) (.inl (by simp)) _
 refine ⟨⟨o1.heap (by omega) (by simp; omega), o1.heap (by omega) (by simp; omega)⟩, ?_⟩
 unfold LkI
 rw [hn]
 refine ⟨(Blk.putRo (hW.keep k) r).far hne _, ?_, hO.trans o1⟩
 simpa using (Blk.putRo_far (hF.keep k) hne.symm r).set_ 0 (.bool true)
end
theorem vlc {a : Nat} {L : List Rt} (h : ∀ r ∈ L, okR r = true) : 0 ≤ (lookR a L).1.p.l := by
 unfold lookR
 rcases vfR a L (zeroR, false) with e | ⟨e, _⟩
 ·rw [e]
  decide
 ·exact okR_p (h _ e)
theorem vld (a : Nat) {L : List Rt} {q : Nat} (hq : q < L.length) : (L.take (q + 1)).foldl (lookStep a) (zeroR, false) = lookStep a ((L.take q).foldl (lookStep a) (zeroR, false)) L[q] := by
 rw [List.take_succ_eq_append_getElem hq, List.foldl_append]
 rfl
theorem voA (a : Nat) (s : Rt × Bool) (r : Rt) : lookStep a s r = bif ((r.s == 1) || (r.s == 2)) && (hasA r.p.pn a && (!s.2 || decide (s.1.p.l < r.p.l))) then (r, true) else s := by
 unfold lookStep hasA
 by_cases h : (r.s = 1 ∨ r.s = 2) ∧ r.p.pn.holds ⟨a, 32⟩ ∧ (s.2 = false ∨ s.1.p.l < r.p.l)
 ·rw [if_pos h]
  have e : (((r.s == 1) || (r.s == 2)) && (decide (r.p.pn.holds ⟨a, 32⟩) && (!s.2 || decide (s.1.p.l < r.p.l)))) = true := by
   obtain ⟨h1, h2, h3⟩ := h
   simp only [Bool.and_eq_true, Bool.or_eq_true, beq_iff_eq, decide_eq_true_eq, Bool.not_eq_true']
   exact ⟨h1, h2, h3⟩
  rw [e]
  rfl
 ·rw [if_neg h]
  have e : (((r.s == 1) || (r.s == 2)) && (decide (r.p.pn.holds ⟨a, 32⟩) && (!s.2 || decide (s.1.p.l < r.p.l)))) = false := by
   rw [Bool.eq_false_iff]
   intro z
   simp only [Bool.and_eq_true, Bool.or_eq_true, beq_iff_eq, decide_eq_true_eq, Bool.not_eq_true'] at z
   exact h z
  rw [e]
  rfl
theorem vle (bx : Nat) (w : World) : (binOp .eql 85 (.func (.func 86) #[] #[.pointer (some ⟨bx, 0, none⟩)]) .nilFunc).run Tryz.prog w = .ok (.bool false) w := by kernel_rfl
end

section
open Go.RowKit
theorem voR (p q : PI) : ((p.a : Int) == (q.a : Int) && p.l == q.l) = decide (p = q) := by
 rw [Bool.eq_iff_iff]
 simp only [Bool.and_eq_true, beq_iff_eq, decide_eq_true_eq]
 exact ⟨fun h => PI.ext' (by omega) h.2, fun h => by subst h; exact ⟨rfl, rfl⟩⟩
theorem seven {k : Nat} (h : k < 7) : k = 0 ∨ k = 1 ∨ k = 2 ∨ k = 3 ∨ k = 4 ∨ k = 5 ∨ k = 6 := by omega
end

section
open Go.RowKit Go.Maps
attribute [local go_sem] Oper.semAt_some
set_option maxRecDepth 100000 in
theorem viE (c : Cf) (A : Option Addr) (n m : Nat) (w : World) : Calls Tryz.prog 70 #[cfV c A n m] w fun e w' => e = .returned (.agg #[.int .i64 c.t0, .int .i64 c.t1, .int .i64 c.t2, .int .i64 c.t3, .int .i64 c.t4, .int .i64 c.t5, .int .i64 c.t6]) ∧ Kp w w' := by
 go_enter Tryz.func70, Tryz.ntmps70
 go_wp2_with fail
 have B1 := Blk.new1 w (.cells (cfC c A n m) 49) 155 #[.int .i64 c.t0, .int .i64 c.t1, .int .i64 c.t2, .int .i64 c.t3, .int .i64 c.t4, .int .i64 c.t5, .int .i64 c.t6]
 have K1 : Kp w ((w.alloc (.cells (cfC c A n m) 49)).alloc (.cells #[.int .i64 c.t0, .int .i64 c.t1, .int .i64 c.t2, .int .i64 c.t3, .int .i64 c.t4, .int .i64 c.t5, .int .i64 c.t6] 155)) := ((Kp.refl _).alloc _).alloc _
 unfold cfC at B1 K1
 revert B1 K1
 generalize (w.alloc (.cells _ 49)).alloc (.cells _ 155) = X
 intro B1 K1
 obtain ⟨y0, y1, y2, y3, y4, y5, y6⟩ := Blk.p7 B1
 refine bodyPost_ret (v := .agg #[.int .i64 c.t0, .int .i64 c.t1, .int .i64 c.t2, .int .i64 c.t3, .int .i64 c.t4, .int .i64 c.t5, .int .i64 c.t6]) ?_ rfl ⟨rfl, K1⟩
 clear B1 K1
 simp [results, Tryz.results70, go_sem, y0, y1, y2, y3, y4, y5, y6]
end

end Go.Proofs.YtgopnfacklmkaaaGreatDoor
