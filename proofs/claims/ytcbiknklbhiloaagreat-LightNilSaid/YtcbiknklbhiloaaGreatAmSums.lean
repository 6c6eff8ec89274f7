/- Lemmas on the evaluator over abstract memory: what it does is what the model does. Conditions: those of each statement. -/
import Derived.Test.YtcbiknklbhiloaaGreatAmBT
import Derived.Lib.Overlaps
import Derived.Lib.Bytealg
namespace Go.AM
open Go
variable {A : AP} {P : Program} {ng : Nat} {m : Env} {H H' : AH} {w : World}

def SumOK (ng : Nat) (P : Program) (f : Nat) (g : List AV → AH → Res) : Prop := ∀ args H v H', g args H = some (v, H') →
  ∀ m w args', Inv ng m H w → VsRel m args args' → OpRes P ng m H w (callFunc f args'.toArray) v H'
theorem sums_ok (h : BT.All (SumOK A.ng P) A.sums) : SumsOK A P := fun f g hg => BT.get_all A.sums h f g hg

/- comparing strings -/
def cmpN : List Nat → List Nat → Int
  | [], [] => 0
  | [], _ :: _ => -1
  | _ :: _, [] => 1
  | a :: x, b :: y => cond (Nat.blt a b) (-1) (cond (Nat.blt b a) 1 (cmpN x y))
def cmpS : List AV → AH → Res
  | [.str a, .str b], H => cond (allB a) (cond (allB b) (some (.int .i64 (cmpN a b), H)) none) none
  | _, _ => none
theorem cmpN_spec : ∀ (x y : List Nat), allB x = true → allB y = true → Go.Lib.compareBytes (x.map UInt8.ofNat) (y.map UInt8.ofNat) = cmpN x y
  | [], [], _, _ => rfl
  | [], _ :: _, _, _ => rfl
  | _ :: _, [], _, _ => rfl
  | a :: x, b :: y, ha, hb => by
    obtain ⟨ha1, ha2⟩ := allB_cons ha
    obtain ⟨hb1, hb2⟩ := allB_cons hb
    simp only [List.map_cons, Go.Lib.compareBytes, cmpN, ofNat_lt_iff ha1 hb1, ofNat_lt_iff hb1 ha1]
    cases h1 : Nat.blt a b with
    | true => rw [if_pos (blt_iff.1 h1)]; rfl
    | false =>
      rw [if_neg (by rw [blt_false] at h1; omega)]
      cases h2 : Nat.blt b a with
      | true => rw [if_pos (blt_iff.1 h2)]; rfl
      | false => rw [if_neg (by rw [blt_false] at h2; omega)]; exact cmpN_spec x y ha2 hb2
theorem cmp_ok {f : Nat} (h : ∀ args w, (callFunc f args).run P w = ((Extern.BytealgCompare.compare args).run P w).andThen fun v w' => .ok (.value v) w') : SumOK ng P f cmpS := by
  intro args H v H' hg m w args' hI ha
  unfold cmpS at hg
  split at hg
  · rename_i a b
    cases h1 : allB a with
    | false => rw [h1] at hg; cases hg
    | true =>
      cases h2 : allB b with
      | false => rw [h1, h2] at hg; cases hg
      | true =>
        rw [h1, h2] at hg
        cases hg
        simp only [VsRel, VRel] at ha
        obtain ⟨_, _, rfl, rfl, _, _, rfl, rfl, rfl⟩ := ha
        refine .inl ⟨.int .i64 (cmpN a b), w, m, .inl ?_, hI, Stp.refl hI, VRel.int'⟩
        rw [h, Go.Lib.run_compareString]
        simp only [Result.andThen_ok]
        have : Go.Lib.compareBytes (bstr a).data.toList (bstr b).data.toList = cmpN a b := cmpN_spec a b h1 h2
        rw [this]
  · cases hg
/- overlaps: slices of blocks that are not one -/
noncomputable def ovS : List AV → AH → Res
  | [.sl b _ (_ + 1) _, .sl b' _ (_ + 1) _], H => match H.get b with
    | some (.cells _ .rwr) => match H.get b' with
      | some (.cells (_ :: _) .rwr) => cond (Nat.beq b b') none (some (.bool false, H))
      | _ => none
    | _ => none
  | _, _ => none
theorem ov_ok (hA : APok A P) {f t tr e es : Nat} (ht : A.desc t = some (.slice e)) (he : A.size e = some (es + 1))
    (h : ∀ args w, (callFunc f args).run P w = ((Extern.SlicesOverlaps.overlaps #[t, t] #[tr] args).run P w).andThen fun v w' => .ok (.value v) w') : SumOK ng P f ovS := by
  intro args H v H' hg m w args' hI ha
  unfold ovS at hg
  split at hg
  · rename_i b o n cap b' o' n' cap'
    split at hg
    · rename_i cs hb
      split at hg
      · rename_i c0 cs' hb'
        cases hne : Nat.beq b b' with
        | true => rw [hne] at hg; cases hg
        | false =>
          rw [hne] at hg
          cases hg
          rw [beq_false] at hne
          simp only [VsRel, VRel] at ha
          obtain ⟨_, _, rfl, ⟨ab, ao, x, c, hmb, rfl, hc, hx, hn⟩, _, _, rfl, ⟨ab', ao', x', c', hmb', rfl, hc', hx', hn'⟩, rfl⟩ := ha
          have hx := hx.resolve_left (by omega)
          have hx' := hx'.resolve_left (by omega)
          subst hx; subst hx'
          have hreal : ab ≠ ab' := by
            intro e
            subst e
            have := hI.sep b b' _ _ ab ao ao' hne hb hb' hmb hmb'
            cases this
          obtain ⟨d, el, fz, d1, d2, d3, d4, d5⟩ := hI.live b _ hb ab ao hmb
          obtain ⟨d', el', fz', e1, e2, e3, e4, e5⟩ := hI.live b' _ hb' ab' ao' hmb'
          have fr : ∀ off, w.frozen? ⟨ab, off, none⟩ = false := by
            intro off
            have := d2 off
            simp only [World.frozen?, d1]
            obtain ⟨lo, hi⟩ := fz
            simp only at this
            simp only [Bool.and_eq_false_iff, decide_eq_false_iff_not]
            omega
          refine .inl ⟨.bool false, w, m, .inl ?_, hI, Stp.refl hI, VRel.bool'⟩
          rw [h]
          have hsz : d'.size ≠ 0 := by
            simp only [List.length_cons] at e3
            omega
          rw [Go.Lib.run_overlaps_apart w t tr e (und hA ht) (es + 1) (run_sizeOf hA he) ⟨ab, ao + o, none⟩ ⟨ab', ao' + o', none⟩ _ _ _ _ hreal el el' d.size d'.size (by simp [World.shape?, d1]) (by simp [World.shape?, e1]) hsz (fr _) (fr _)]
          rfl
      · cases hg
    · cases hg
  · cases hg
end Go.AM
