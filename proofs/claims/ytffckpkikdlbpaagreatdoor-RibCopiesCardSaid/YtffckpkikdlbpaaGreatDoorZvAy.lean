/- Lemmas and contracts for the theorem of this claim: RxB. -/
import Derived.Test.YtffckpkikdlbpaaGreatDoorZvAu
set_option linter.all false
set_option maxHeartbeats 16000000
namespace Go.Proofs.YtffckpkikdlbpaaGreatDoor
section
open Go.RowKit Go.Maps
theorem vgl (c : Cf) (now : Int) : ∀ (k : Nat) (L : List Rt), 0 ≤ (expG c now k L).2 ∧ (expG c now k L).2 ≤ k
 | 0, L => ⟨Int.le_refl _, Int.le_refl _⟩
 | k + 1, L => by
  unfold expG
  split
  ·exact ⟨Int.le_refl _, by show (0 : Int) ≤ _; omega⟩
  ·split
   ·exact ⟨Int.le_refl _, by show (0 : Int) ≤ _; omega⟩
   ·have := vgl c now k (setR (expR c ‹Rt› now) L)
    show 0 ≤ (_ : Int) + 1 ∧ (_ : Int) + 1 ≤ _
    omega
theorem vgm (c : Cf) (now : Int) (L : List Rt) : 0 ≤ (expE c now L).2 ∧ (expE c now L).2 ≤ 2 * L.length + 1 := by
 have h := vgl c now (dueS now L + 1) L
 have h2 := vft now L
 unfold expE
 omega
def DueSt (w : World) (B t q mp m : Nat) (A : Option Addr) (QF : List Nat) (l : List Tw) (T : Tb) (p : PI) (is : Bool) : Prop :=
 (is = false ∧ TabX w B t q mp m A QF l T ∧ ∀ y ∈ armL T.l, T.now < y.d) ∨ (is = true ∧ ∃ r, p = r.p ∧ firstR T.l = some r ∧ r ∈ T.l ∧ 2 ≤ r.s ∧ r.d ≤ T.now ∧ TabZ r.p w B t q mp m A QF l T)
theorem DueSt.only {w w' : World} {B t q mp m : Nat} {A : Option Addr} {QF bs : List Nat} {l : List Tw} {T : Tb} {p : PI} {is : Bool} (h : DueSt w B t q mp m A QF l T p is) (k : Only bs w w') (hb : ∀ b ∈ bs, b ∉ t :: mp :: QF) (hA : ∀ a, A = some a → a.block ∉ bs) : DueSt w' B t q mp m A QF l T p is := by
 rcases h with ⟨h1, h2, h3⟩ | ⟨h1, r, h2, h3, h4, h5, h6, h7⟩
 ·exact .inl ⟨h1, h2.only k hb hA, h3⟩
 ·exact .inr ⟨h1, r, h2, h3, h4, h5, h6, h7.only k hb hA⟩
theorem DueSt.keep {w w' : World} {B t q mp m : Nat} {A : Option Addr} {QF : List Nat} {l : List Tw} {T : Tb} {p : PI} {is : Bool} (h : DueSt w B t q mp m A QF l T p is) (k : Kp w w') : DueSt w' B t q mp m A QF l T p is :=
 h.only (bs := []) (Only.of_kp k) (by simp) (by simp)
theorem DueSt.lo {w : World} {B t q mp m : Nat} {A : Option Addr} {QF : List Nat} {l : List Tw} {T : Tb} {p : PI} {is : Bool} (h : DueSt w B t q mp m A QF l T p is) : ∀ b ∈ t :: mp :: QF, B ≤ b ∧ b < w.heap.size := by
 rcases h with ⟨_, h2, _⟩ | ⟨_, r, _, _, _, _, _, h7⟩
 ·exact h2.lo
 ·exact h7.lo
def DueT (w w' : World) (B t q mp m : Nat) (A : Option Addr) (QF : List Nat) (T : Tb) (p : PI) (is : Bool) : Prop := ∃ QF' l', DueSt w' B t q mp m A QF' l' T p is ∧ Only QF w w' ∧ ∀ b ∈ QF', b ∈ QF ∨ w.heap.size ≤ b
theorem viS (B t q mp m : Nat) (A : Option Addr) (QF : List Nat) (l : List Tw) (T : Tb) (w : World) (X : TabX w B t q mp m A QF l T) : Calls Tryz.prog 71 #[.agg #[.pointer (some ⟨q, 0, none⟩)], .int .i64 T.now] w fun e w' => ∃ p is, e = .returned (.tuple #[pfV p, .bool is]) ∧ DueT w w' B t q mp m A QF T p is := by
 by_cases hd : ∃ y ∈ armL T.l, y.d ≤ T.now
 ·refine (vfC B t q mp m A QF l T T.now w X hd).mono ?_
  rintro e w' ⟨r, h1, h2, h3, h4, rfl, QF', l', h5, h6, h7⟩
  exact ⟨r.p, true, rfl, QF', l', .inr ⟨rfl, r, rfl, h1, h2, h3, h4, h5⟩, h6, h7⟩
 ·have hd' : ∀ y ∈ armL T.l, T.now < y.d := fun y hy => by
   by_cases h : T.now < y.d
   ·exact h
   ·exact absurd ⟨y, hy, by omega⟩ hd
  refine (vhd B t q mp m A QF l T T.now w X hd').mono ?_
  rintro e w' ⟨rfl, K⟩
  exact ⟨⟨0, 0⟩, false, rfl, QF, l, .inl ⟨rfl, X.keep K, hd'⟩, Only.of_kp K, fun b hb => .inl hb⟩
structure ExI (w0 : World) (B t q mp m : Nat) (A : Option Addr) (QF0 : List Nat) (pt pn pc : Nat) (T : Tb) (L : List Rt) (k : Int) (g : Nat) (p : PI) (is : Bool) (QF : List Nat) (l : List Tw) (wr : World) : Prop where
 bt : Blk wr pt 36 #[.pointer (some ⟨t, 0, none⟩)]
 bn : Blk wr pn 2 #[.int .i64 T.now]
 bc : Blk wr pc 3 #[.int .i64 k]
 bg : Blk wr g 29 #[.int .u32 (p.a : Int), .int .i64 p.l]
 gg : w0.heap.size ≤ g ∧ g ∉ QF
 on : Only (pc :: t :: mp :: QF0) w0 wr
 nw : ∀ b ∈ QF, b ∈ QF0 ∨ w0.heap.size ≤ b
 ok : TbOk ⟨T.c, L, T.now, T.rf⟩
 xs : ∀ r ∈ L, r.x < 4294967296
 kk : 0 ≤ k
 ex : expE T.c T.now T.l = ((expE T.c T.now L).1, (expE T.c T.now L).2 + k)
 st : DueSt wr B t q mp m A QF l ⟨T.c, L, T.now, T.rf⟩ p is
theorem exp_x {c : Cf} {r : Rt} {now : Int} (h : r.x < 4294967296) : (expR c r now).x < 4294967296 := by
 unfold expR
 repeat' split
 all_goals first | exact h | exact (by decide : (0 : Nat) < 4294967296)
theorem Only.joinF {F bs : List Nat} {w w1 w2 : World} (h : Only F w w1) (k : Only bs w1 w2) (hb : ∀ b ∈ bs, b ∈ F ∨ w.heap.size ≤ b) : Only F w w2 :=
 ⟨k.os.trans h.os, k.tape.trans h.tape, k.output.trans h.output, Nat.le_trans h.size k.size, fun i hi hn => (k.block i (Nat.lt_of_lt_of_le hi h.size) (fun e => (hb i e).elim hn (fun z => by omega))).trans (h.block i hi hn)⟩
theorem Only.wider {F G : List Nat} {w w' : World} (h : Only F w w') (hs : ∀ b ∈ F, b ∈ G) : Only G w w' :=
 ⟨h.os, h.tape, h.output, h.size, fun i hi hn => h.block i hi (fun z => hn (hs i z))⟩
theorem vhm (v0 v1 v2 v3 v4 v5 v6 v7 v8 : Value) (w : World) : (Instr.field 87 (.agg #[v0, v1, v2, v3, v4, v5, v6, v7, v8]) 0).run Tryz.prog w = .ok (.agg #[v0, v1, v2, v3, v4, v5, v6, v7, v8]) w := by kernel_rfl
theorem vgn {w : World} {m : Nat} {L : List Rt} (h : MapR w m L) (u : UpR L) (hw : ∀ r ∈ L, wfP r.p) {r : Rt} (hr : r ∈ L) : ∀ w' w'', Kp w w' → w''.heap = w'.heap → (Instr.lookup 105 (.map (some m)) (pfV r.p) false).run Tryz.prog w'' = .ok (.agg #[.int .u32 (r.p.a : Int), .int .i64 r.p.l, .int .i64 r.s, .int .i64 r.m, .int .i64 r.l, .int .i64 r.f, .int .u32 (r.x : Int), .int .i64 r.d, .bool r.c]) w'' := by
 intro w' w'' k e
 have := vkN (h.keep k) u hw (hw r hr) w'' e
 rw [vay u hr] at this
 exact this
end

end Go.Proofs.YtffckpkikdlbpaaGreatDoor
