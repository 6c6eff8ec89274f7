/- The run of LightNil: whatever the text and the header, in every world, it returns true and leaves all old memory as it was. No conditions but that each cell of the arguments is one cell. -/
import Derived.Test.YtcbiknklbhiloaaGreatTab0
import Derived.Test.YtcbiknklbhiloaaGreatTab1
import Derived.Test.YtcbiknklbhiloaaGreatLawRow
namespace Go.Proofs.YtcbiknklbhiloaaGreat
open Go Go.AM Go.RowKit
def tab38 : List Row := [row0, row1, row2, row3, row4, row5, row6, row7, row8, row9, row10, row11, row12, row13, row14, row15, row16, row18, row19]
theorem tab38_ok : ∀ r ∈ tab38, RowOK 0 call2 38 r := rows_cons row0_ok (rows_cons row1_ok (rows_cons row2_ok (rows_cons row3_ok (rows_cons row4_ok (rows_cons row5_ok (rows_cons row6_ok (rows_cons row7_ok (rows_cons row8_ok (rows_cons row9_ok (rows_cons row10_ok (rows_cons row11_ok (rows_cons row12_ok (rows_cons row13_ok (rows_cons row14_ok (rows_cons row15_ok (rows_cons row16_ok (rows_cons row18_ok (rows_cons row19_ok rows_nil))))))))))))))))))
def tab129 : List Row := [row17, row22, row23, row26, row27]
theorem tab129_ok : ∀ r ∈ tab129, RowOK 0 call2 129 r := rows_cons row17_ok (rows_cons row22_ok (rows_cons row23_ok (rows_cons row26_ok (rows_cons row27_ok rows_nil))))
def tab143 : List Row := [row20, row21, row24, row25]
theorem tab143_ok : ∀ r ∈ tab143, RowOK 0 call2 143 r := rows_cons row20_ok (rows_cons row21_ok (rows_cons row24_ok (rows_cons row25_ok rows_nil)))
theorem sum38 : SumOK 0 Tryz.prog 38 (apart 0 call2 38 1 tab38) := apart_ok (A := ap2) call2OK tab38_ok
theorem sum129 : SumOK 0 Tryz.prog 129 (apart 0 call2 129 1 tab129) := apart_ok (A := ap2) call2OK tab129_ok
theorem sum143 : SumOK 0 Tryz.prog 143 (apart 0 call2 143 1 tab143) := apart_ok (A := ap2) call2OK tab143_ok
noncomputable def sums : BT (List AV → AH → Res) := .n (.n (.n .e 38 (apart 0 call2 38 1 tab38) .e) 84 insF .e) 123 ovS (.n (.n .e 129 (apart 0 call2 129 1 tab129) .e) 143 (apart 0 call2 143 1 tab143) (.n .e 155 repS .e))
noncomputable def ap : AP := apOf sums pf1
theorem sumsok : SumsOK ap Tryz.prog := sums_ok (A := ap) ⟨⟨⟨trivial, sum38, trivial⟩, sum84, trivial⟩, sum123, ⟨⟨trivial, sum129, trivial⟩, sum143, ⟨trivial, sum155, trivial⟩⟩⟩
noncomputable def call : CallT := callF ap 10000 60
theorem callOK : CallOK ap Tryz.prog call := callF_ok (apok sums pf1 pf1ok) sumsok 10000 60
set_option maxRecDepth 1000000 in
theorem evalE : resIs (.bool true) (call 4 [.opq 0, .agg [.opq 1, .opq 2, .opq 3, .opq 4, .opq 5]] ⟨0, .e⟩) = true := by kernel_rfl
/-- no memory known; the arguments' cells by their numbers -/
def env (q : Nat → Value) : Env := { blk := fun _ => none, room := fun _ => 0, opq := q }
theorem inv0 (q : Nat → Value) (w : World) : Inv 0 (env q) ⟨0, .e⟩ w where
  live := fun b ob h => by rw [AH.get_e] at h; cases h
  dom := fun b ob h => by rw [AH.get_e] at h; cases h
  fresh := fun _ _ => rfl
  bound := fun b ab ao h => by cases h
  sep := fun i j oi oj a xi xj _ h => by rw [AH.get_e] at h; cases h
  glob := fun g h => by omega
  ngle := Nat.le_refl _
theorem resIs_spec {v : AV} {r : Res} (h : resIs v r = true) : ∃ H', r = some (v, H') := by
  unfold resIs at h
  split at h
  · rename_i u H' 
    exact ⟨H', by rw [avEq_eq _ _ h]⟩
  · cases h
theorem nil_run (v c0 c1 c2 c3 c4 : Value) (hv : v.oneCell' = true) (h0 : c0.oneCell' = true) (h1 : c1.oneCell' = true) (h2 : c2.oneCell' = true) (h3 : c3.oneCell' = true) (h4 : c4.oneCell' = true) (w : World) :
    Calls Tryz.prog 4 #[v, .agg #[c0, c1, c2, c3, c4]] w fun e w' => e = .returned (.bool true) ∧ Below w.heap.size w w' := by
  obtain ⟨H', h⟩ := resIs_spec evalE
  let q : Nat → Value := fun i => match i with | 0 => v | 1 => c0 | 2 => c1 | 3 => c2 | 4 => c3 | _ => c4
  have ha : VsRel (env q) [.opq 0, .agg [.opq 1, .opq 2, .opq 3, .opq 4, .opq 5]] [v, .agg #[c0, c1, c2, c3, c4]] := by
    simp only [VsRel, VRel]
    exact ⟨v, _, rfl, ⟨rfl, hv⟩, _, _, rfl, ⟨_, rfl, _, _, rfl, ⟨rfl, h0⟩, _, _, rfl, ⟨rfl, h1⟩, _, _, rfl, ⟨rfl, h2⟩, _, _, rfl, ⟨rfl, h3⟩, _, _, rfl, ⟨rfl, h4⟩, rfl⟩, rfl⟩
  have hw := (callOK 4 _ _ _ _ h (env q) w _ (inv0 q w) ha).whole (m := env q) (H := ⟨0, .e⟩) (inv0 q w) (allRo_e 0) rfl
  rcases hw with ⟨v', w', m', hr, _⟩ | ⟨f, args, hr, hC⟩
  · have := Tryz.call4 #[v, .agg #[c0, c1, c2, c3, c4]] w
    rcases hr with hr | ⟨hr, _⟩ <;> (rw [this] at hr; cases hr)
  · have := Tryz.call4 #[v, .agg #[c0, c1, c2, c3, c4]] w
    rw [this] at hr
    cases hr
    refine Calls.mono hC fun e w' he => ?_
    cases e with
    | returned r =>
      obtain ⟨m', _, hS, hv⟩ := he
      simp only [VRel] at hv
      subst hv
      exact ⟨rfl, hS.os, hS.tape, hS.output, hS.size, fun k hk => hS.frame k hk fun b ob ao hg => by rw [AH.get_e] at hg; cases hg⟩
    | panicked _ => exact he.elim
    | outgrown => exact he.elim
end Go.Proofs.YtcbiknklbhiloaaGreat
#print axioms Go.Proofs.YtcbiknklbhiloaaGreat.nil_run
