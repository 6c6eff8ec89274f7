/- LightNil returns true for every text and every header, and its arguments read afterwards as before. No conditions. -/
import Derived.Test.YtcbiknklbhiloaaGreatMain
import Derived.Test.YtcbiknklbhiloaaGreatRows
import Derived.ProofKit
namespace Go.Proofs.YtcbiknklbhiloaaGreat
open Go Go.AM Go.ChangeShapes Go.WideShapes Go.ChangeAt Go.RowKit
theorem own : ownKnob Tryz.prog.godebug = none := by kernel_rfl
theorem laidOut : laidOutB Tryz.prog = true := by kernel_rfl
theorem cells25 : Tryz.prog.cellsOf 25 = 5 := by kernel_rfl
theorem read9 : Tryz.prog.readableRec 9 = true := by kernel_rfl
theorem read25 : Tryz.prog.readableRec 25 = true := by kernel_rfl
theorem many : 25 < Tryz.prog.types.size := Nat.le_of_ble_eq_true (by kernel_rfl)
theorem params_ok : ∀ t ∈ Tryz.f4.params.toList, Tryz.prog.readableRec t = true ∧ t < Tryz.prog.types.size := by
  intro t ht
  rw [Tryz.params4] at ht
  rcases List.mem_cons.1 ht with rfl | ht
  · exact ⟨read9, Nat.lt_trans (Nat.le_of_ble_eq_true rfl) many⟩
  · rcases List.mem_cons.1 ht with rfl | ht
    · exact ⟨read25, many⟩
    · cases ht
theorem results4 : Tryz.f4.resultTypes = #[4] := rfl
theorem spec_fn (H : Type) (d1 d2 : DataW H) : Rows.lightNilSpec.fn H [d1, d2] = { results := [.lit (.bool true)], args := [d1, d2] } := rfl
set_option maxRecDepth 100000 in
theorem contract (H : Type) (enc : TypeId × Value → H) (W : World) (base : Nat) (args : Array Value) (ds gs : List (DataW H)) (before : List MemPlace)
    (hval : ∀ (j : Nat) t v, Tryz.f4.params[j]? = some t → args[j]? = some v → Value.okWide Tryz.prog W .any base t v)
    (hW : DataW.Whole enc Tryz.prog Tryz.f4.params.toList Rows.lightNilSpec.vars false W args.toList ds gs before) :
    Calls Tryz.prog 4 args W fun e W' => ∃ v, e = .returned v ∧ Rows.lightNilSpec.post enc Tryz.prog Tryz.f4 false true false false W args v W' := by
  have hW' := hW
  obtain ⟨p, q, hA0, _, _, _, _⟩ := hW
  have hA : DataW.TrodAll enc Tryz.prog W 0 (fun _ => true) true Tryz.f4.params.toList args.toList ds p := hA0
  rw [Tryz.params4] at hA hval
  obtain ⟨v0, v1, d0, d1, p0, p1, rfl, rfl, rfl, _, _⟩ := trodAll_two hA
  have hone := param_one Tryz.underlying9 rfl (hval 0 9 v0 rfl rfl)
  obtain ⟨cs, rfl, hsz, hcs⟩ := param_struct Tryz.underlying25 (hval 1 25 v1 rfl rfl)
  rw [cells25] at hsz
  obtain ⟨l⟩ := cs
  match l, hsz, hcs with
  | [c0, c1, c2, c3, c4], _, hcs =>
    refine (nil_run v0 c0 c1 c2 c3 c4 hone (hcs c0 (by simp)) (hcs c1 (by simp)) (hcs c2 (by simp)) (hcs c3 (by simp)) (hcs c4 (by simp)) W).mono fun e W' he => ?_
    exact ⟨_, he.1, law_post laidOut params_ok (s := Rows.lightNilSpec) rfl results4 Tryz.underlying4 (spec_fn H d0 d1) hW' he.2⟩
set_option maxRecDepth 100000 in
theorem nil_lifted (os : Os) (started : os.Started) (H : Type) (enc : TypeId × Value → H) :
    ReturnsInHanded {} Tryz.checked os 4 .any (Rows.lightNilSpec.pre6 enc Tryz.prog Tryz.f4 Rows.lightNilRow.domain false) (Rows.lightNilSpec.post enc Tryz.prog Tryz.f4 false true false false) := by
  refine returnsInHanded_of_change (C := Tryz.checked) own started (by kernel_rfl) Tryz.func4
    (ChangeSpec.witness6 (enc := enc) (C := Tryz.checked) false ⟨#[], #[.string ⟨#[]⟩, .agg #[.int .u64 0, .string ⟨#[]⟩, .string ⟨#[]⟩, .string ⟨#[]⟩, .slice none 0 0]], []⟩ 8 (by kernel_rfl) (by kernel_rfl) (by kernel_rfl) (by kernel_rfl)) ?_
  intro W base args ds gs before hval hW _ _
  exact contract H enc W base args ds gs before hval hW
theorem lightNil_holds : Rows.LightNilSaid :=
  OpenClaim.holds_of_wide 4 Tryz.f4 rfl rfl rfl rfl rfl rfl rfl ⟨rfl, rfl, rfl, rfl, rfl⟩ rfl rfl rfl rfl rfl (by kernel_rfl) Tryz.func4 (by kernel_rfl)
    (of_decide_eq_true (by kernel_rfl)) (by unfold Func.isWrapper; first | (rw [if_pos (by decide +kernel)]; kernel_rfl) | (rw [if_neg (by decide +kernel)]; exact ⟨rfl, rfl⟩))
    (fun os started H enc _ => nil_lifted os started H enc)
end Go.Proofs.YtcbiknklbhiloaaGreat
#print axioms Go.Proofs.YtcbiknklbhiloaaGreat.lightNil_holds
