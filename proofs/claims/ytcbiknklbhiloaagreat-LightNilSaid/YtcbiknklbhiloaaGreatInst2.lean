/- Lemmas on the evaluator over abstract memory: what it does is what the model does. Conditions: those of each statement. -/
import Derived.Test.YtcbiknklbhiloaaGreatBlock
namespace Go.Proofs.YtcbiknklbhiloaaGreat
open Go Go.AM
noncomputable def sums2 : BT (List AV → AH → Res) := .n (.n (.n .e 84 insF .e) 113 (blockS ks) .e) 123 ovS (.n .e 155 repS .e)
noncomputable def ap2 : AP := apOf sums2 pf1
theorem apok2 : APok ap2 Tryz.prog := apok sums2 pf1 pf1ok
theorem sums2ok : SumsOK ap2 Tryz.prog := sums_ok (A := ap2) ⟨⟨⟨trivial, sum84, trivial⟩, sum113, trivial⟩, sum123, ⟨trivial, sum155, trivial⟩⟩
noncomputable def call2 : CallT := callF ap2 10000 40
theorem call2OK : CallOK ap2 Tryz.prog call2 := callF_ok apok2 sums2ok 10000 40
end Go.Proofs.YtcbiknklbhiloaaGreat
