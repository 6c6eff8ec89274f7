/- Lemmas on the evaluator over abstract memory: what it does is what the model does. Conditions: those of each statement. -/
import Derived.Test.YtcbiknklbhiloaaGreatAmDraw7
namespace Go.AM
open Go
def BT.All {α : Type} (Q : Nat → α → Prop) : BT α → Prop
  | .e => True
  | .n x k a y => BT.All Q x ∧ Q k a ∧ BT.All Q y
theorem BT.get_all {α : Type} {Q : Nat → α → Prop} : ∀ (t : BT α), BT.All Q t → ∀ k a, t.get k = some a → Q k a
  | .e, _, k, a, h => by cases h
  | .n x i b y, hA, k, a, h => by
    have h : cond (Nat.blt k i) (x.get k) (cond (Nat.beq k i) (some b) (y.get k)) = some a := h
    cases h1 : Nat.blt k i with
    | true => rw [h1] at h; exact BT.get_all x hA.1 k a h
    | false =>
      rw [h1] at h
      cases h2 : Nat.beq k i with
      | true => rw [h2] at h; rw [beq_iff] at h2; cases h; subst h2; exact hA.2.1
      | false => rw [h2] at h; exact BT.get_all y hA.2.2 k a h
end Go.AM
