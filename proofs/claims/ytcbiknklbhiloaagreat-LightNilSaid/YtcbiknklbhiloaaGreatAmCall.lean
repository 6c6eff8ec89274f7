/- A function's run by the evaluator is a run of the model. Conditions: the callees' runs are. -/
import Derived.Test.YtcbiknklbhiloaaGreatAmCode
namespace Go.AM
open Go
variable {A : AP} {P : Program} {m : Env} {H H' : AH} {w : World}

theorem enterT_spec {n : Nat} : ∀ (args : List AV) (i : Nat) (t t' : TV), enterT n i args t = some t' →
    (args = [] ∨ i + args.length ≤ n) ∧ ∀ j, t'.getP (pathOf j) = if i ≤ j ∧ j < i + args.length then args[j - i]? else t.getP (pathOf j)
  | [], i, t, t', h => by
    cases h
    refine ⟨.inl rfl, fun j => ?_⟩
    rw [if_neg (by simp only [List.length_nil]; omega)]
  | v :: r, i, t, t', h => by
    have h : cond (Nat.blt i n) (enterT n (i + 1) r (TV.setP t (pathOf i) (some v))) none = some t' := h
    cases hi : Nat.blt i n with
    | false => rw [hi] at h; cases h
    | true =>
      rw [hi] at h
      rw [blt_iff] at hi
      obtain ⟨h1, h2⟩ := enterT_spec r (i + 1) _ t' h
      refine ⟨.inr ?_, fun j => ?_⟩
      · rcases h1 with rfl | h1
        · simp only [List.length_cons, List.length_nil]; omega
        · simp only [List.length_cons]; omega
      · rw [h2 j]
        by_cases e : j = i
        · subst e
          rw [if_neg (by omega), TV.getP_setP, if_pos (by simp only [List.length_cons]; omega)]
          simp
        · have hne : (TV.setP t (pathOf i) (some v)).getP (pathOf j) = t.getP (pathOf j) := by
            rw [TV.getP_setP_ne]
            exact fun e' => e (pathOf_inj e').symm
          rw [hne]
          by_cases c : i + 1 ≤ j ∧ j < i + 1 + r.length
          · rw [if_pos c, if_pos (by simp only [List.length_cons]; omega)]
            obtain ⟨k, hk⟩ : ∃ k, j - i = k + 1 := ⟨j - i - 1, by omega⟩
            rw [hk, List.getElem?_cons_succ]
            congr 1; omega
          · rw [if_neg c, if_neg (by simp only [List.length_cons]; omega)]
theorem getP_e : ∀ p : List Bool, TV.getP .e p = none := by
  intro p; cases p <;> rfl
theorem enter_rel {n : Nat} {args : List AV} {args' : List Value} {t : TV} (ha : VsRel m args args') (h : enterT n 0 args .e = some t) :
    TRel m ⟨n, t⟩ (args'.toArray ++ Array.replicate (n - args'.toArray.size) undef) := by
  obtain ⟨h1, h2⟩ := enterT_spec args 0 .e t h
  have hlen := ha.length
  have hle : args.length ≤ n := by
    rcases h1 with rfl | h1
    · simp
    · omega
  refine ⟨by simp only [Array.size_append, Array.size_replicate, List.size_toArray]; show _ = n; omega, fun j v hv => ?_⟩
  unfold TM.get at hv
  · rw [h2 j] at hv
    by_cases c : j < args.length
    · rw [if_pos (by omega)] at hv
      have hx : args[j - 0]? = some args[j] := by simp [c]
      rw [hx] at hv
      cases hv
      obtain ⟨u, hu, hr⟩ := ha.get j args[j] (by simp [c])
      have : (args'.toArray ++ Array.replicate (n - args'.toArray.size) undef).getD j undef = u := by
        have hj' : j < args'.length := by omega
        simp only [Array.getD_eq_getD_getElem?]
        rw [Array.getElem?_append_left (by simpa using hj')]
        simp [hu]
      rw [this]; exact hr
    · rw [if_neg (by omega), getP_e] at hv
      cases hv
theorem cell_rel (hA : APok A P) (hI : Inv A.ng m H w) {t : Nat} {x v : AV} {x' : Value} (hx : VRel m x x') (h : load A H t x = some v) :
    ∃ v', (do loadVar t (← asAddr x') : Sem Value).run P w = .ok v' w ∧ VRel m v v' := by
  obtain ⟨v', h1, h2⟩ := load_rel (P := P) hA hI hx h
  refine ⟨v', ?_, h2⟩
  unfold load at h
  split at h
  · simp only [VRel] at hx
    obtain ⟨ab, ao, _, rfl⟩ := hx
    exact h1
  · cases h
theorem results_rel (hA : APok A P) (hI : Inv A.ng m H w) {T : TM} {tmps : Array Value} (hT : TRel m T tmps) : ∀ (rs : List ResultVar) (l : List AV), resultsOf A T H rs = some l →
    ∃ vs, (rs.mapM (m := Sem) fun
      | .tmp t => pure (tmps.getD t undef)
      | .cell a t => do loadVar t (← asAddr (tmps.getD a undef))).run P w = .ok vs w ∧ VsRel m l vs
  | [], l, h => by cases h; exact ⟨[], rfl, VsRel.nil⟩
  | .tmp t :: r, l, h => by
    simp only [resultsOf] at h
    split at h
    · rename_i v hv
      split at h
      · rename_i l1 hl1
        cases h
        obtain ⟨vs, h1, h2⟩ := results_rel hA hI hT r l1 hl1
        refine ⟨_, ?_, VsRel.cons (hT.rel t v hv) h2⟩
        simp only [List.mapM_cons, Sem.run_bind, Sem.run_pure, Result.andThen_ok, h1]
      · cases h
    · cases h
  | .cell a t :: r, l, h => by
    simp only [resultsOf] at h
    split at h
    · rename_i x hx
      split at h
      · rename_i v hv
        split at h
        · rename_i l1 hl1
          cases h
          obtain ⟨vs, h1, h2⟩ := results_rel hA hI hT r l1 hl1
          obtain ⟨v', h3, h4⟩ := cell_rel (P := P) hA hI (hT.rel a x hx) hv
          refine ⟨_, ?_, VsRel.cons h4 h2⟩
          simp only [Sem.run_bind] at h3
          simp only [List.mapM_cons, Sem.run_bind, Sem.run_pure, h3, Result.andThen_ok, h1]
        · cases h
      · cases h
    · cases h
theorem leave_rel (hA : APok A P) (hI : Inv A.ng m H w) {T : TM} {tmps : Array Value} (hT : TRel m T tmps) {fn : Func} {v : AV} (h : oneOr H (resultsOf A T H fn.results.toList) = some (v, H')) :
    H' = H ∧ ∃ v', (results fn tmps).run P w = .ok v' w ∧ VRel m v v' := by
  cases hr : resultsOf A T H fn.results.toList with
  | none => rw [hr] at h; cases h
  | some l =>
    rw [hr] at h
    obtain ⟨vs, h1, h2⟩ := results_rel (P := P) hA hI hT _ l hr
    have hres : (results fn tmps).run P w = .ok (if h : vs.toArray.size = 1 then vs.toArray[0] else .tuple vs.toArray) w := by
      unfold results
      rw [Array.mapM_eq_mapM_toList]
      simp only [Sem.run_bind, Sem.run_map, Sem.run_pure]
      exact congrArg (fun (r : Result (List Value)) => ((r.andThen fun a w' => .ok a.toArray w').andThen fun a w' => Result.ok (if h : a.size = 1 then a[0] else Value.tuple a) w')) h1
    unfold oneOr at h
    split at h
    · rename_i x heq
      cases h; cases heq
      simp only [VsRel] at h2
      obtain ⟨u, us, rfl, h3, rfl⟩ := h2
      exact ⟨rfl, u, by rw [hres]; rfl, h3⟩
    · rename_i ws hne heq
      cases h; cases heq
      have hl := h2.length
      refine ⟨rfl, .tuple vs.toArray, ?_, VRel.tup h2⟩
      rw [hres, dif_neg]
      intro h1
      have h1 : vs.length = 1 := h1
      rw [h1] at hl
      obtain ⟨x, rfl⟩ := List.length_eq_one_iff.1 hl
      exact hne _ rfl
    · rename_i heq; cases heq
theorem runFn_ok (hA : APok A P) {call : CallT} (hc : CallOK A P call) (hd : DrawOK A P call) {L : Nat} {f : Nat} {fn : Func} (hf : P.funcs[f]? = some fn) {args : List AV} {args' : List Value} {v : AV}
    (hI : Inv A.ng m H w) (ha : VsRel m args args') (h : runFn A call L fn args H = some (v, H')) : ∃ c, fn.body = some c ∧ Calls P f args'.toArray w (AEnd A.ng m H w v H') := by
  unfold runFn at h
  split at h
  · rename_i c hb
    refine ⟨c, hb, ?_⟩
    split at h
    · rename_i t ht
      · have hT := enter_rel (m := m) ha ht
        refine calls_of_wp hf hb ?_
        cases hr : execC A call L c ⟨fn.ntmps, t⟩ H with
        | none => rw [hr] at h; cases h
        | some r =>
          obtain ⟨X, T1, H1⟩ := r
          rw [hr] at h
          refine code_ok hA hc hd L c m _ H _ w X T1 H1 _ hr ⟨hI, hT, rfl⟩ fun a' w' m' s' st' => ?_
          cases X with
          | exit id => cases h
          | norm =>
            obtain ⟨rfl, v', h1, h2⟩ := leave_rel hA s'.inv s'.tm h
            exact ⟨s'.df, v', h1, m', s'.inv, st', h2⟩
          | ret =>
            obtain ⟨rfl, v', h1, h2⟩ := leave_rel hA s'.inv s'.tm h
            exact ⟨s'.df, v', h1, m', s'.inv, st', h2⟩
    · cases h
  · cases h
/-- the summaries that stand in A are sound -/
def SumsOK (A : AP) (P : Program) : Prop := ∀ f g, A.sums.get f = some g → ∀ args H v H', g args H = some (v, H') →
  ∀ m w args', Inv A.ng m H w → VsRel m args args' → OpRes P A.ng m H w (callFunc f args'.toArray) v H'
theorem callF_ok' (hA : APok A P) (hs : SumsOK A P) (hdraw : ∀ call, CallOK A P call → DrawOK A P call) (L : Nat) : ∀ d, CallOK A P (callF A L d)
  | 0 => by intro f args H v H' h; cases h
  | d + 1 => by
    intro f args H v H' h m w args' hI ha
    have h : callStep A L (callF A L d) f args H = some (v, H') := h
    have hc := callF_ok' hA hs hdraw L d
    unfold callStep at h
    split at h
    · rename_i g hg
      exact hs f g hg args H v H' h m w args' hI ha
    · split at h
      · rename_i fn hfn
        obtain ⟨h1, h2⟩ := hA.fn f fn hfn
        obtain ⟨c, hb, hC⟩ := runFn_ok hA hc (hdraw _ hc) h1 hI ha h
        exact .inr ⟨f, args'.toArray, h2 (by rw [hb]; simp) _ w, hC⟩
      · cases h
end Go.AM
