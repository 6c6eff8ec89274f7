/- The library's Repeat, as a summary. Conditions: its contract, of at most a million bytes. -/
import Derived.Test.YtcbiknklbhiloaaGreatAmIso
import Derived.Lib.Repeat
namespace Go.AM
open Go Go.RowKit
variable {P : Program} {ng : Nat}
/- THE LIBRARY'S Repeat -/
def repL (s : List Nat) : Nat → List Nat
  | 0 => []
  | n + 1 => s ++ repL s n
def repS : List AV → AH → Res
  | [.str s, .int .i64 (.ofNat c)], H => cond (Nat.ble (s.length * c) 1000000) (cond (Nat.ble c 1000000) (some (.str (repL s c), H)) none) none
  | _, _ => none
theorem repL_map (s : List Nat) : ∀ c, (repL s c).map UInt8.ofNat = Lib.repeatL (s.map UInt8.ofNat) c
  | 0 => rfl
  | c + 1 => by simp only [repL, Lib.repeatL, List.map_append, repL_map s c]
theorem rep_ok {f : Nat} (hcall : ∀ args w, (callFunc f args).run P w = .ok (.enter f args) w)
    (h : ∀ (s : ByteArray) (c : Nat) (w : World), c ≤ 9223372036854775807 → s.size * c ≤ 140737488355328 →
      Calls P f #[.string s, .int .i64 c] w fun e w' => e = .returned (.string ⟨(Lib.repeatL s.data.toList c).toArray⟩) ∧ Below w.heap.size w w') : SumOK ng P f repS := by
  refine below_ok hcall fun args H v H' hg => ?_
  unfold repS at hg
  split at hg
  · rename_i s c
    cases h1 : Nat.ble (s.length * c) 1000000 with
    | false => rw [h1] at hg; cases hg
    | true =>
      cases h2 : Nat.ble c 1000000 with
      | false => rw [h1, h2] at hg; cases hg
      | true =>
        rw [h1, h2] at hg
        cases hg
        rw [ble_iff] at h1 h2
        refine ⟨rfl, rfl, fun m w args' ha => ?_⟩
        simp only [VsRel, VRel] at ha
        obtain ⟨_, _, rfl, rfl, _, _, rfl, rfl, rfl⟩ := ha
        have hsz : (bstr s).size = s.length := bstr_size s
        refine (h (bstr s) c w (by omega) (by rw [hsz]; omega)).mono fun e w' he => ⟨⟨_, he.1, ?_⟩, he.2⟩
        simp only [VRel]
        have : (⟨(Lib.repeatL (bstr s).data.toList c).toArray⟩ : ByteArray) = bstr (repL s c) := by
          unfold bstr
          rw [repL_map]
        rw [this]
  · cases hg
end Go.AM
