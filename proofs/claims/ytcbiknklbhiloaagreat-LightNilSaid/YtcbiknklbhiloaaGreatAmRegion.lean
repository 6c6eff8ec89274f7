/- Lemmas on the evaluator over abstract memory: what it does is what the model does. Conditions: those of each statement. -/
import Derived.Test.YtcbiknklbhiloaaGreatAmExec
import Derived.LoopN
namespace Go.AM
open Go
variable {A : AP} {P : Program} {m : Env} {H H' : AH} {w : World}

theorem TRel.mono {m' : Env} (h : Env.Le m m') {T : TM} {t : Array Value} (hT : TRel m T t) : TRel m' T t := ⟨hT.size, fun i v hv => VRel.mono h _ _ (hT.rel i v hv)⟩
theorem put_rel {T T' : TM} {a : Act} {d : Option Nat} {v : AV} {v' : Value} (hT : TRel m T a.tmps) (hv : VRel m v v') (h : T.put d v = some T') : TRel m T' (a.put d v').tmps := by
  cases d with
  | none => cases h; exact hT
  | some d =>
    have h : T.set d v = some T' := h
    obtain ⟨hn, hlt⟩ := TM.set_n h
    have hget := TM.set_get h
    refine ⟨by simp [Act.put, hT.size, hn], fun t u hu => ?_⟩
    rw [hget] at hu
    by_cases e : t = d
    · subst e
      simp only [if_true, Option.some.injEq] at hu
      subst hu
      simp only [Act.put]
      have : (a.tmps.setIfInBounds t v').getD t undef = v' := by
        have hlt' : t < a.tmps.size := by rw [hT.size]; exact hlt
        simp [hlt']
      rw [this]; exact hv
    · rw [if_neg e] at hu
      have : (a.put (some d) v').tmps.getD t undef = a.tmps.getD t undef := by
        simp [Act.put, Array.getElem?_setIfInBounds_ne (Ne.symm e)]
      rw [this]; exact hT.rel t u hu
theorem put_defers (a : Act) (d : Option Nat) (v : Value) : (a.put d v).defers = a.defers := by cases d <;> rfl
theorem dstAt_eq (ops : Array Oper) (j : Nat) : dstAt ops.toList j = (ops[j]?).bind (·.dst) := by
  unfold dstAt
  rw [nth_eq]
  simp only [Array.getElem?_toList]
  cases ops[j]? <;> rfl
theorem guardIs_rel {av : AV} {u : Value} {want b : Bool} (hr : VRel m av u) (h : guardIs av want = some b) : ((match (some u : Option Value) with | some (.bool c) => some c | _ => none : Option Bool) == some want) = b := by
  cases av
  case bool c =>
    simp only [VRel] at hr; subst hr
    cases c <;> cases want <;> cases h <;> rfl
  case opq i => cases h
  case unk => cases h
  case map r => cases r <;> (cases h; cases u <;> first | rfl | (simp [VRel] at hr))
  all_goals (cases h; cases u <;> first | rfl | (simp [VRel] at hr))
theorem wanted_rel {ops : Array Oper} {T : TM} {t : Array Value} {o : Oper} {b : Bool} (hT : TRel m T t) (h : wanted ops.toList T o = some b) : Region.wanted o (yielded ops t) = b := by
  unfold wanted at h
  unfold Region.wanted
  cases hg : o.guard with
  | none => rw [hg] at h; cases h; rfl
  | some jw =>
    obtain ⟨j, want⟩ := jw
    rw [hg] at h
    simp only [dstAt_eq] at h
    simp only
    unfold yielded
    cases hd : (ops[j]?).bind (·.dst) with
    | none => rw [hd] at h; cases h; rfl
    | some d =>
      rw [hd] at h
      simp only at h
      cases hg : T.get d with
      | none => rw [hg] at h; cases h
      | some gv =>
      rw [hg] at h
      simp only at h
      have hr := hT.rel d gv hg
      simp only [Option.bind_some]
      cases hx : t[d]? with
      | none =>
        have hu : t.getD d undef = undef := by simp [hx]
        rw [hu] at hr
        have := guardIs_rel hr h
        exact this
      | some x =>
        have hu : t.getD d undef = x := by simp [hx]
        rw [hu] at hr
        exact guardIs_rel hr h

structure SRel (A : AP) (m : Env) (T : TM) (H : AH) (a : Act) (w : World) : Prop where
  inv : Inv A.ng m H w
  tm : TRel m T a.tmps
  df : a.defers = []

theorem oper_wp {o : Oper} {a : Act} {v : AV} {Q : Exit → Act → World → Prop} {K : Act → World → Prop}
    (h : OpRes P A.ng m H w (execOp a.eval o) v H') (hK : ∀ v' w' m', Inv A.ng m' H' w' → Stp m H w m' H' w' → VRel m' v v' → K (a.put o.dst v') w') : o.wp P a w K Q := by
  unfold Oper.wp
  rcases h with ⟨v', w', m', hr, h1, h2, h3⟩ | ⟨f, args, hr, hc⟩
  · rcases hr with hr | ⟨hr, rfl⟩
    · rw [hr]; exact hK _ _ _ h1 h2 h3
    · rw [hr]; exact hK _ _ _ h1 h2 h3
  · rw [hr]
    show Calls P f args w _
    refine Calls.mono hc fun e w' he => ?_
    cases e with
    | returned r => obtain ⟨m', h1, h2, h3⟩ := he; exact hK _ _ _ h1 h2 h3
    | panicked c => exact he.elim
    | outgrown => exact he.elim

theorem runOps_ok (hA : APok A P) {call : CallT} (hc : CallOK A P call) {ops : Array Oper} {Q : Exit → Act → World → Prop} :
    ∀ (l : List Oper) (i : Nat) (m : Env) (T : TM) (H : AH) (a : Act) (w : World) (T' : TM) (H' : AH), ops.toList.drop i = l → runOps A call ops.toList l T H = some (T', H') → SRel A m T H a w →
      (∀ a' w' m', SRel A m' T' H' a' w' → Stp m H w m' H' w' → Q .normal a' w') → wpOps P ops Q (List.range' i l.length) a w
  | [], i, m, T, H, a, w, T', H', _, h, hS, hQ => by
    cases h
    exact hQ a w m hS (Stp.refl hS.inv)
  | o :: l, i, m, T, H, a, w, T', H', hd, h, hS, hQ => by
    have h : stepOp A call ops.toList o (runOps A call ops.toList l) T H = some (T', H') := h
    have hi : ops[i]? = some o := by
      have := congrArg (·[0]?) hd
      simpa [List.getElem?_drop] using this
    have hd' : ops.toList.drop (i + 1) = l := by
      have := congrArg List.tail hd
      simpa [List.tail_drop] using this
    show wpOps P ops Q (i :: List.range' (i + 1) l.length) a w
    unfold wpOps
    simp only [hi]
    unfold stepOp at h
    split at h
    · rename_i hw
      rw [wanted_rel hS.tm hw]
      simp only [if_true]
      split at h
      · rename_i v H1 hv
        split at h
        · rename_i T1 hT1
          refine .inl (oper_wp (opEval_ok hA hc hS.inv hS.tm hv) fun v' w' m' h1 h2 h3 => ?_)
          refine runOps_ok hA hc l (i + 1) m' T1 H1 _ _ T' H' hd' h ⟨h1, put_rel (hS.tm.mono (hS.inv.le h2)) h3 hT1, (put_defers _ _ _).trans hS.df⟩ ?_
          exact fun a' w'' m'' k1 k2 => hQ _ _ _ k1 (h2.trans k2)
        · cases h
      · cases h
    · rename_i hw
      rw [wanted_rel hS.tm hw]
      simp only [Bool.false_eq_true, if_false]
      split at h
      · rename_i T1 hT1
        exact runOps_ok hA hc l (i + 1) m T1 H _ _ T' H' hd' h ⟨hS.inv, put_rel hS.tm undef_rel hT1, (put_defers _ _ _).trans hS.df⟩ hQ
      · cases h
    · cases h
end Go.AM
