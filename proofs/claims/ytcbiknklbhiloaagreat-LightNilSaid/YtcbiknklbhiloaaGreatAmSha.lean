import Derived.Test.YtcbiknklbhiloaaGreatAmRep
namespace Go.AM
open Go Go.RowKit
variable {A : AP} {P : Program} {ng : Nat}
/- WORDS OF 32 BITS, AS THE EVALUATOR RECKONS THEM -/
def orW (x y : Int) : Int := wrapF .u32 (.ofNat <| Nat.lor (bitsOf .u32 x) (bitsOf .u32 y))
def shlW (x : Int) (n : Nat) : Int := wrapF .u32 (x * 2 ^ n)
def shrW (x : Int) (n : Nat) : Int := x.fdiv (2 ^ n)
/-- a word turned right -/
def turnW (x : Int) (n : Nat) : Int := orW (shlW x (32 - n)) (shrW x n)
def turns : Nat → Bool
  | 2 => true
  | 6 => true
  | 7 => true
  | 11 => true
  | 13 => true
  | 17 => true
  | 18 => true
  | 19 => true
  | 22 => true
  | 25 => true
  | _ => false
def turnS : List AV → AH → Res
  | [.int .u32 x, .int .i64 (.ofNat n)], H => cond (turns n) (some (.int .u32 (turnW x n), H)) none
  | _, _ => none
theorem turns_cases {n : Nat} (h : turns n = true) : n = 2 ∨ n = 6 ∨ n = 7 ∨ n = 11 ∨ n = 13 ∨ n = 17 ∨ n = 18 ∨ n = 19 ∨ n = 22 ∨ n = 25 := by
  unfold turns at h
  split at h <;> first | omega | cases h
theorem turn_ok {call : CallT} (hc : CallOK A P call) {f : Nat}
    (h2 : ∀ x H, call f [.int .u32 x, .int .i64 (.ofNat 2)] H = some (.int .u32 (turnW x 2), H))
    (h6 : ∀ x H, call f [.int .u32 x, .int .i64 (.ofNat 6)] H = some (.int .u32 (turnW x 6), H))
    (h7 : ∀ x H, call f [.int .u32 x, .int .i64 (.ofNat 7)] H = some (.int .u32 (turnW x 7), H))
    (h11 : ∀ x H, call f [.int .u32 x, .int .i64 (.ofNat 11)] H = some (.int .u32 (turnW x 11), H))
    (h13 : ∀ x H, call f [.int .u32 x, .int .i64 (.ofNat 13)] H = some (.int .u32 (turnW x 13), H))
    (h17 : ∀ x H, call f [.int .u32 x, .int .i64 (.ofNat 17)] H = some (.int .u32 (turnW x 17), H))
    (h18 : ∀ x H, call f [.int .u32 x, .int .i64 (.ofNat 18)] H = some (.int .u32 (turnW x 18), H))
    (h19 : ∀ x H, call f [.int .u32 x, .int .i64 (.ofNat 19)] H = some (.int .u32 (turnW x 19), H))
    (h22 : ∀ x H, call f [.int .u32 x, .int .i64 (.ofNat 22)] H = some (.int .u32 (turnW x 22), H))
    (h25 : ∀ x H, call f [.int .u32 x, .int .i64 (.ofNat 25)] H = some (.int .u32 (turnW x 25), H)) : SumOK A.ng P f turnS := by
  intro args H v H' hg m w args' hI ha
  unfold turnS at hg
  split at hg
  · rename_i x n
    cases ht : turns n with
    | false => rw [ht] at hg; cases hg
    | true =>
      rw [ht] at hg
      cases hg
      refine hc f _ H _ H ?_ m w args' hI ha
      rcases turns_cases ht with rfl | rfl | rfl | rfl | rfl | rfl | rfl | rfl | rfl | rfl <;> first | exact h2 x H | exact h6 x H | exact h7 x H | exact h11 x H | exact h13 x H | exact h17 x H | exact h18 x H | exact h19 x H | exact h22 x H | exact h25 x H
  · cases hg
end Go.AM
