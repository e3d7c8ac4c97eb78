/- Plain regions inside a round of a range over a function: walked as plain ones. No condition. -/
import Derived.Test.YtfaiponmjjbgoaaDoorRound
namespace Go.Proofs.YtfaiponmjjbgoaaDoor
open Go.RowKit

theorem wpListIn_of_wpList {l : Nat} {P : Program} {ops : Array Oper} {Q : Exit → Act → World → Prop} (hQ : ¬ LetsOut Q) : ∀ (rest : List Oper) (a : Act) (w : World), rest.all (fun o => match o.op with | .defer _ => false | _ => true) = true →
    wpList P ops Q rest a w → wpListIn (Fence.wide.inRound l) 0 P ops Q rest a w
  | [], _, _, _, h => h
  | o :: rest, a, w, hnd, h => by
    have hnd' := List.all_eq_true.1 hnd
    have hr : rest.all (fun o => match o.op with | .defer _ => false | _ => true) = true := List.all_eq_true.2 (fun x hx => hnd' x (List.mem_cons_of_mem _ hx))
    have ho : ∀ c, o.op ≠ .defer c := fun c hc => by
      have := hnd' o (by simp)
      rw [hc] at this; cases this
    unfold wpList at h
    unfold wpListIn
    split
    · rename_i hw
      rw [if_pos hw] at h
      rcases h with h | h
      · refine ⟨fun _ _ => trivial, ?_⟩
        rw [Oper.semAt_eq _ _ _ ho]
        unfold Oper.wp at h
        generalize (execOp a.eval o).run P w = r at h
        unfold Oper.upon at h
        unfold Oper.uponIn
        split at h
        · exact wpListIn_of_wpList hQ rest _ _ hr h
        · exact wpListIn_of_wpList hQ rest _ _ hr h
        · exact wpListIn_of_wpList hQ rest _ _ hr h
        · refine ⟨(fun h => by cases h), CallsIn.inRound l (callsIn_wide.2 (h.mono fun e w'' hh => ?_))⟩
          cases e with
          | returned v => exact wpListIn_of_wpList hQ rest _ _ hr hh
          | panicked ch => exact hh
          | outgrown => exact hh
        · refine ⟨(fun h => by cases h), fun c cs _ => ?_⟩
          obtain ⟨v, w', r, s⟩ := h c cs
          exact ⟨v, w', wpListIn_of_wpList hQ rest _ _ hr r, stepsIn_wide.2 s⟩
        · exact h
        · exact h.elim
      · exact absurd h.2 hQ
    · rename_i hw
      rw [if_neg hw] at h
      exact ⟨fun _ _ => trivial, wpListIn_of_wpList hQ rest _ _ hr h⟩

/-- A region in a round, walked as a plain one. -/
theorem round_list {r id : Nat} {P : Program} {Q : Exit → Act → World → Prop} {a : Act} {w : World} {l : List Oper} (hnd : l.all (fun o => match o.op with | .defer _ => false | _ => true) = true) (hQ : ¬ LetsOut Q)
    (h : wpList P l.toArray Q l a w) : (Code.region id l.toArray false).wpIn (Fence.wide.inRound r) 0 P Q a w :=
  wpIn_region_lit (wpListIn_of_wpList hQ l a w hnd h)
end Go.Proofs.YtfaiponmjjbgoaaDoor
