/- A region that draws its order inside a fence, behind an operation that was met by hand: the rest only reads. No condition. -/
import Derived.Test.YtfaiponmjjbgoaaDoorRange2
import Derived.Sort.QuietTacIn
namespace Go.Proofs.YtfaiponmjjbgoaaDoor
open Go.RowKit

theorem wpAnyIn_rest {F : Fence} {n : Nat} {P : Program} {Q : Exit → Act → World → Prop} {a : Act} {w : World} {fuel : Nat} {L : List Oper} {listed : Array Bool} (k : Nat) (hro : F.round = none) (hf : fuel = (L.drop k).length)
    (hs : Region.noSelect L.toArray = true) (hB : Region.lexFrom .any L.toArray (L.drop k).length k listed = true)
    (h : wpQuietIn F n P L.toArray (fun w' => ∃ n, w' = w.drewN n) (fun a' => ∀ w', (∃ n, w' = w.drewN n) → Q .normal a' w') (L.drop k) a) : wpAnyIn F n P .any L.toArray Q fuel listed a w := by
  subst hf
  refine wpAnyIn_of_quiet (C := fun w' => ∃ n, w' = w.drewN n) (Q := fun a' => ∀ w', (∃ n, w' = w.drewN n) → Q .normal a' w') hro (fun _ w' hw' h => h w' hw') _ _ _ _ ⟨0, rfl⟩ ?_
  exact wpAnyQIn_lex hs (L.drop k) k listed a (fun j => by simp) hB h
end Go.Proofs.YtfaiponmjjbgoaaDoor
