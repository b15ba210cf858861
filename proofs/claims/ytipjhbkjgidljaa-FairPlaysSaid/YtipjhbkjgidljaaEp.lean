/- A step engine for walks: pieces of a function, found by the number of a block, each with a statement of its own. -/
import Derived.Test.YtipjhbkjgidljaaErow
set_option linter.unusedVariables false
namespace Go.Proofs.Ytipjhbkjgidljaa.E
open Go Go.RowKit
/-- what stands in the block with a number. -/
def bkC (k : Nat) : Code → Option Code
  | .block i c => cond (Nat.beq i k) (some c) (bkC k c)
  | .seq x y => match bkC k x with | some c => some c | none => bkC k y
  | .loop c => bkC k c
  | .cond _ x y => match bkC k x with | some c => some c | none => bkC k y
  | _ => none
def bk (fn : Func) (k : Nat) : Option Code := fn.body.bind (bkC k)
section
variable {P : Program} {n k : Nat} {Q : Exit → Fr → World → Prop} {f : Fr} {w : World}
theorem W_piece {fn : Func} {c c' : Code} {vs : List (Nat × Value)} (hc : bk fn k = some c) (h' : bk fn k = some c') (hf : Fits f vs) (h : updAll vs f = f → W P n c' (inB k Q) (updAll vs f) w) : W P n (.block k c) Q f w := by
  have e : c' = c := Option.some.inj (h'.symm.trans hc)
  subst e
  have := h (updAll_self hf)
  rw [updAll_self hf] at this
  exact W_block this
theorem leave {S : List Nat} {F : Fr} {vs : List (Nat × Value)} {e : Exit} (h : ∀ g, Q e (updAll vs (over S f g)) w) (ha : Agree S f F) (hf : Fits F vs) : Q e F w := by
  have := h F
  rwa [base_self ha hf] at this
theorem agree_eq {S : List Nat} {F : Fr} (h : F = f) : Agree S f F := fun _ _ => by rw [h]
end
end Go.Proofs.Ytipjhbkjgidljaa.E
