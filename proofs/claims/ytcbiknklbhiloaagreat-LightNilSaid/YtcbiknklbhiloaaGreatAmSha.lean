/- The digest's words, as the evaluator reckons them; a word turned is a function that only reckons. Conditions: those of each statement. -/
import Derived.Test.YtcbiknklbhiloaaGreatAmRep
namespace Go.AM
open Go Go.RowKit
variable {A : AP} {P : Program} {ng : Nat}
/- WORDS OF 32 BITS, AS THE EVALUATOR RECKONS THEM -/
def orW (x y : Int) : Int := wrapF .u32 (.ofNat <| Nat.lor (bitsOf .u32 x) (bitsOf .u32 y))
def shlW (x : Int) (n : Nat) : Int := wrapF .u32 (x * 2 ^ n)
def shrW (x : Int) (n : Nat) : Int := x.fdiv (2 ^ n)
def addW (x y : Int) : Int := wrapF .u32 (Int.add x y)
def andW (x y : Int) : Int := wrapF .u32 (.ofNat <| Nat.land (bitsOf .u32 x) (bitsOf .u32 y))
def xorW (x y : Int) : Int := wrapF .u32 (.ofNat <| Nat.xor (bitsOf .u32 x) (bitsOf .u32 y))
def notW (x : Int) : Int := wrapF .u32 (.ofNat <| Nat.xor (bitsOf .u32 (if IntKind.u32.signed then -1 else IntKind.u32.max)) (bitsOf .u32 x))
def wideW (x : Int) : Int := wrapF .u32 x
/-- a word turned right -/
def turnW (x : Int) (n : Nat) : Int := orW (shlW x (32 - n)) (shrW x n)
def turns : Nat → Bool
  | 2 => true
  | 6 => true
  | 7 => true
  | 11 => true
  | 13 => true
  | 17 => true
  | 18 => true
  | 19 => true
  | 22 => true
  | 25 => true
  | _ => false
def turnP : List AV → Option AV
  | [.int .u32 x, .int .i64 (.ofNat n)] => cond (turns n) (some (.int .u32 (turnW x n))) none
  | _ => none
theorem turns_cases {n : Nat} (h : turns n = true) : n = 2 ∨ n = 6 ∨ n = 7 ∨ n = 11 ∨ n = 13 ∨ n = 17 ∨ n = 18 ∨ n = 19 ∨ n = 22 ∨ n = 25 := by
  unfold turns at h
  split at h <;> first | omega | cases h
theorem noEnv_inv (w : World) : Inv 0 { blk := fun _ => none, room := fun _ => 0, opq := fun _ => undef } ⟨0, .e⟩ w where
  live := fun b ob h => by rw [AH.get_e] at h; cases h
  dom := fun b ob h => by rw [AH.get_e] at h; cases h
  fresh := fun _ _ => rfl
  bound := fun b ab ao h => by cases h
  sep := fun i j oi oj a xi xj _ h => by rw [AH.get_e] at h; cases h
  glob := fun g h => by omega
  ngle := Nat.le_refl _
/-- what a call alone gives, it gives everywhere -/
theorem alone_ok {call : CallT} (hng : A.ng = 0) (hc : CallOK A P call) {f : Nat} (hen : ∀ args w, (callFunc f args).run P w = .ok (.enter f args) w) {args : List AV} {v : AV} {H' : AH} (h : call f args ⟨0, .e⟩ = some (v, H'))
    (ha : frees args = true) (hv : free v = true) {m : Env} {args' : List Value} (hr : VsRel m args args') (w : World) :
    Calls P f args'.toArray w fun e w' => (∃ r, e = .returned r ∧ VRel m v r) ∧ Below w.heap.size w w' := by
  have hI := noEnv_inv w
  rcases hc f args ⟨0, .e⟩ v H' h _ w args' (by rw [hng]; exact hI) (VsRel.free args args' ha hr) with ⟨v', w', m', h1, _⟩ | ⟨g, as, h1, hC⟩
  · rcases h1 with h1 | ⟨h1, _⟩ <;> (rw [hen] at h1; cases h1)
  · rw [hen] at h1
    cases h1
    refine Calls.mono hC fun e w' he => ?_
    cases e with
    | returned r =>
      obtain ⟨m', _, hS, hv'⟩ := he
      exact ⟨⟨r, rfl, VRel.free _ _ hv hv'⟩, hS.os, hS.tape, hS.output, hS.size, fun k hk => hS.frame k hk fun b ob ao hg => by rw [AH.get_e] at hg; cases hg⟩
    | panicked _ => exact he.elim
    | outgrown => exact he.elim
theorem turn_pure {call : CallT} (hng : A.ng = 0) (hc : CallOK A P call) {f : Nat} (hen : ∀ args w, (callFunc f args).run P w = .ok (.enter f args) w)
    (h2 : ∀ x, call f [.int .u32 x, .int .i64 (.ofNat 2)] ⟨0, .e⟩ = some (.int .u32 (turnW x 2), ⟨0, .e⟩))
    (h6 : ∀ x, call f [.int .u32 x, .int .i64 (.ofNat 6)] ⟨0, .e⟩ = some (.int .u32 (turnW x 6), ⟨0, .e⟩))
    (h7 : ∀ x, call f [.int .u32 x, .int .i64 (.ofNat 7)] ⟨0, .e⟩ = some (.int .u32 (turnW x 7), ⟨0, .e⟩))
    (h11 : ∀ x, call f [.int .u32 x, .int .i64 (.ofNat 11)] ⟨0, .e⟩ = some (.int .u32 (turnW x 11), ⟨0, .e⟩))
    (h13 : ∀ x, call f [.int .u32 x, .int .i64 (.ofNat 13)] ⟨0, .e⟩ = some (.int .u32 (turnW x 13), ⟨0, .e⟩))
    (h17 : ∀ x, call f [.int .u32 x, .int .i64 (.ofNat 17)] ⟨0, .e⟩ = some (.int .u32 (turnW x 17), ⟨0, .e⟩))
    (h18 : ∀ x, call f [.int .u32 x, .int .i64 (.ofNat 18)] ⟨0, .e⟩ = some (.int .u32 (turnW x 18), ⟨0, .e⟩))
    (h19 : ∀ x, call f [.int .u32 x, .int .i64 (.ofNat 19)] ⟨0, .e⟩ = some (.int .u32 (turnW x 19), ⟨0, .e⟩))
    (h22 : ∀ x, call f [.int .u32 x, .int .i64 (.ofNat 22)] ⟨0, .e⟩ = some (.int .u32 (turnW x 22), ⟨0, .e⟩))
    (h25 : ∀ x, call f [.int .u32 x, .int .i64 (.ofNat 25)] ⟨0, .e⟩ = some (.int .u32 (turnW x 25), ⟨0, .e⟩)) : PureOK P f turnP := by
  refine ⟨hen, fun args v hv m args' w ha => ?_⟩
  unfold turnP at hv
  split at hv
  · rename_i x n
    cases ht : turns n with
    | false => rw [ht] at hv; cases hv
    | true =>
      rw [ht] at hv
      cases hv
      refine alone_ok hng hc hen (H' := ⟨0, .e⟩) ?_ rfl rfl ha w
      rcases turns_cases ht with rfl | rfl | rfl | rfl | rfl | rfl | rfl | rfl | rfl | rfl <;> first | exact h2 x | exact h6 x | exact h7 x | exact h11 x | exact h13 x | exact h17 x | exact h18 x | exact h19 x | exact h22 x | exact h25 x
  · cases hv

/- A BLOCK: the words of the rounds, newest first, and the rounds -/
def nthI : List Int → Nat → Int
  | [], _ => .ofNat 0
  | x :: _, 0 => x
  | _ :: l, n + 1 => nthI l n
def word4 (a b c d : Int) : Int := orW (shlW (orW (shlW (orW (shlW (orW (shlW (.ofNat 0) 8) (wideW a)) 8) (wideW b)) 8) (wideW c)) 8) (wideW d)
def nextW (l : List Int) : Int :=
  addW (addW (addW (nthI l 15) (xorW (xorW (turnW (nthI l 14) 7) (turnW (nthI l 14) 18)) (shrW (nthI l 14) 3))) (nthI l 6)) (xorW (xorW (turnW (nthI l 1) 17) (turnW (nthI l 1) 19)) (shrW (nthI l 1) 10))
def moreW : Nat → List Int → List Int
  | 0, l => l
  | n + 1, l => moreW n (nextW l :: l)
def first16 (y : Nat → Int) : Nat → List Int
  | 0 => []
  | n + 1 => word4 (y (4 * n)) (y (4 * n + 1)) (y (4 * n + 2)) (y (4 * n + 3)) :: first16 y n
def wordsW (y : Nat → Int) : List Int := (moreW 48 (first16 y 16)).reverse
def roundW (k w h0 h1 h2 h3 h4 h5 h6 h7 : Int) : List Int :=
  let t := addW (addW (addW (addW h7 (xorW (xorW (turnW h4 6) (turnW h4 11)) (turnW h4 25))) (xorW (andW h4 h5) (andW (notW h4) h6))) k) w
  [addW (addW t (xorW (xorW (turnW h0 2) (turnW h0 13)) (turnW h0 22))) (xorW (xorW (andW h0 h1) (andW h0 h2)) (andW h1 h2)), h0, h1, h2, addW h3 t, h4, h5, h6]
def roundsW : List Int → List Int → List Int → List Int
  | k :: ks, w :: ws, [h0, h1, h2, h3, h4, h5, h6, h7] => roundsW ks ws (roundW k w h0 h1 h2 h3 h4 h5 h6 h7)
  | _, _, h => h
def sumsW : List Int → List Int → List Int
  | x :: xs, y :: ys => addW x y :: sumsW xs ys
  | _, _ => []
def blockW (ks : List Int) (x : List Int) (y : Nat → Int) : List Int := sumsW x (roundsW ks (wordsW y) x)
def intsAV (k : IntKind) : List Int → List AV
  | [] => []
  | x :: l => .int k x :: intsAV k l
end Go.AM
