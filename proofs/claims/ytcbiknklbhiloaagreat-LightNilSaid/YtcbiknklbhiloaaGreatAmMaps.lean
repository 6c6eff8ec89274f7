/- Lemmas on the evaluator over abstract memory: what it does is what the model does. Conditions: those of each statement. -/
import Derived.Test.YtcbiknklbhiloaaGreatAmPure
namespace Go.AM
open Go
variable {A : AP} {P : Program} {ng : Nat} {m : Env} {H H' : AH} {w : World}

theorem checkKey_plain' {k : Nat} {kd : TypeDesc} {x : AV} {x' : Value} (hk : P.underlying k = some kd) (hp : plainKey kd x = true) (hx : VRel m x x') (empty : Bool) (n : Nat) :
    (Instr.checkKey empty (n + 1) k x').run P w = .ok () w := by
  cases kd <;> simp only [plainKey, Bool.false_eq_true] at hp
  · cases x <;> simp only [Bool.false_eq_true] at hp
    simp only [VRel] at hx; subst hx
    simp [Instr.checkKey, Go.run_underlying hk]
  · cases x <;> simp only [Bool.false_eq_true] at hp
    simp only [VRel] at hx; subst hx
    simp [Instr.checkKey, Go.run_underlying hk]
  · cases x <;> simp only [Bool.false_eq_true] at hp
    simp only [VRel] at hx; subst hx
    simp [Instr.checkKey, Go.run_underlying hk]
theorem checkKey_plain {k : Nat} {kd : TypeDesc} {x : AV} {x' : Value} (hk : P.underlying k = some kd) (hp : plainKey kd x = true) (hx : VRel m x x') (empty : Bool) :
    (Instr.checkKey empty 10000 k x').run P w = .ok () w := checkKey_plain' hk hp hx empty 9999
theorem keyEq_same {kd : TypeDesc} {x y : AV} {x' y' : Value} {b : Bool} (hx : VRel m x x') (hy : VRel m y y') (h : keyEq kd x y = some b) : Instr.sameNow kd x' y' = some b := by
  cases kd <;> simp only [keyEq, reduceCtorEq] at h
  · cases x <;> simp only [reduceCtorEq] at h
    cases y <;> simp only [reduceCtorEq] at h
    simp only [VRel] at hx hy; subst hx; subst hy
    exact h
  · cases x <;> simp only [reduceCtorEq] at h
    cases y <;> simp only [reduceCtorEq] at h
    simp only [VRel] at hx hy; subst hx; subst hy
    unfold intEq at h
    split at h
    · rename_i e; subst e; cases h
      simp only [Instr.sameNow, if_true, iEq_eq]; rfl
    · cases h
  · cases x <;> simp only [reduceCtorEq] at h
    cases y <;> simp only [reduceCtorEq] at h
    simp only [VRel] at hx hy; subst hx; subst hy
    simp only [Instr.sameNow, beq_toListBytes, strEq_spec h]
theorem findKey_none {kd : TypeDesc} {k : AV} {k' : Value} (hk : VRel m k k') : ∀ {es : List (AV × AV × Nat)} {es' : List MapEntry} (i : Nat), EsRel m es es' → findKey kd k es = some none →
    Instr.findNow kd k' es' i = some none
  | [], es', i, he, _ => by have e : es' = [] := he; subst e; rfl
  | e :: r, es', i, he, h => by
    obtain ⟨x, xs, rfl, h1, h2, h3, h4⟩ := he
    unfold findKey at h
    split at h
    · cases h
    · rename_i heq
      simp only [Instr.findNow, keyEq_same hk h1 heq]
      exact findKey_none hk (i + 1) h4 h
    · cases h
theorem findKey_some {kd : TypeDesc} {k v : AV} {k' : Value} (hk : VRel m k k') : ∀ {es : List (AV × AV × Nat)} {es' : List MapEntry} (i : Nat), EsRel m es es' → findKey kd k es = some (some v) →
    ∃ j v', Instr.findNow kd k' es' i = some (some (i + j, v')) ∧ VRel m v v' ∧ j < es'.length ∧
      (∀ v2 v2', VRel m v2 v2' → ∃ es2, putKey kd k v2 es = some es2 ∧ EsRel m es2 (es'.modify j fun e => { e with key := k', val := v2' })) ∧
      (∃ es2, delKey kd k es = some es2 ∧ EsRel m es2 (es'.eraseIdx j)) ∧ ∃ e, es'[j]? = some e ∧ Instr.sameNow kd k' e.key = some true
  | [], es', i, he, h => by cases h
  | e :: r, es', i, he, h => by
    obtain ⟨x, xs, rfl, h1, h2, h3, h4⟩ := he
    unfold findKey at h
    split at h
    · rename_i heq
      cases h
      have hs := keyEq_same hk h1 heq
      refine ⟨0, x.val, by simp only [Instr.findNow, hs]; rfl, h2, by simp, ?_, ?_, x, by simp, hs⟩
      · intro v2 v2' hv2
        refine ⟨(k, v2, e.2.2) :: r, by simp only [putKey, heq], ?_⟩
        refine ⟨{ x with key := k', val := v2' }, xs, by simp, hk, hv2, h3, h4⟩
      · exact ⟨r, by simp only [delKey, heq], by simpa using h4⟩
    · rename_i heq
      have hs := keyEq_same hk h1 heq
      obtain ⟨j, v', g1, g2, g3, g4, ⟨es3, g5, g6⟩, e4, g7, g8⟩ := findKey_some hk (i + 1) h4 h
      refine ⟨j + 1, v', by simp only [Instr.findNow, hs]; rw [g1]; congr 3; omega, g2, by simpa using g3, ?_, ?_, e4, by simpa using g7, g8⟩
      · intro v2 v2' hv2
        obtain ⟨es2, g9, g10⟩ := g4 v2 v2' hv2
        refine ⟨e :: es2, by simp only [putKey, heq, g9], ?_⟩
        exact ⟨x, xs.modify j fun e => { e with key := k', val := v2' }, by simp, h1, h2, h3, g10⟩
      · exact ⟨e :: es3, by simp only [delKey, heq, g5], x, xs.eraseIdx j, by simp, h1, h2, h3, g6⟩
    · cases h
theorem sameBits_of' {kd : TypeDesc} {a b : Value} (h : Instr.sameNow kd b a = some true) (n : Nat) : Instr.sameBits n a b = true := by
  unfold Instr.sameNow at h
  split at h
  · rename_i k x k' y
    split at h
    · rename_i e; subst e
      simp only [Option.some.injEq, beq_iff_eq] at h; subst h
      simp [Instr.sameBits]
    · cases h
  · simp only [Option.some.injEq, beq_toListBytes] at h
    have h2 := eq_of_beq h
    simp only [Instr.sameBits, beq_toListBytes, h2, beq_self_eq_true]
  · simp only [Option.some.injEq] at h
    have := eq_of_beq h
    subst this
    simp [Instr.sameBits]
  · cases h
theorem sameBits_of {kd : TypeDesc} {a b : Value} (h : Instr.sameNow kd b a = some true) : Instr.sameBits 10000 a b = true := sameBits_of' h 10000
theorem mapAt_spec (hI : Inv ng m H w) {r clock ar : Nat} {es : List (AV × AV × Nat)} (hr : m.blk r = some (ar, 0)) (h : mapAt H r = some (es, clock)) :
    H.get r = some (.map es clock) ∧ ∃ es', w.heap[ar]? = some (.map es' clock) ∧ EsRel m es es'.toList := by
  unfold mapAt at h
  split at h
  · rename_i e c hg
    cases h
    exact ⟨hg, (hI.live r _ hg ar 0 hr).2⟩
  · cases h
theorem run_getObj_map {ar clock : Nat} {es' : Array MapEntry} (h : w.heap[ar]? = some (.map es' clock)) : (getObj ar).run P w = .ok (.map es' clock) w := by
  simp only [getObj, Sem.run, h]
theorem run_setObj_map {ar clock : Nat} {es' : Array MapEntry} {o : Obj} (h : w.heap[ar]? = some (.map es' clock)) : (setObj ar o).run P w = .ok () (wput w ar o) := by
  simp only [setObj, Sem.run, h]; rfl
theorem keyD_spec (hA : APok A P) {kt : Nat} {k : AV} {kd : TypeDesc} (h : keyD A kt k = some kd) : P.underlying kt = some kd ∧ plainKey kd k = true := by
  unfold keyD at h
  split at h
  · rename_i d hd
    split at h
    · rename_i hp; cases h; exact ⟨und hA hd, hp⟩
    · cases h
  · cases h
theorem lookup_rel (hA : APok A P) (hI : Inv ng m H w) {t : Nat} {x k v : AV} {x' k' : Value} {ok : Bool} (hx : VRel m x x') (hk : VRel m k k') (h : lookup A H t x k ok = some v) :
    ∃ v', (Instr.lookup t x' k' ok).run P w = .ok v' w ∧ VRel m v v' := by
  unfold lookup at h
  split at h
  · rename_i kt e hd
    split at h
    · rename_i kd hkd
      obtain ⟨hu, hp⟩ := keyD_spec hA hkd
      have main : ∀ (es : List (AV × AV × Nat)) (es' : Array MapEntry), EsRel m es es'.toList → lookIn A kd e k ok es = some v →
          ∃ v', VRel m v v' ∧ ((do
            Instr.checkKey es'.isEmpty 10000 kt k'
            let (v, ok') ← match ← Instr.findKey kt k' es'.toList with
              | some (_, v) => pure (v, true)
              | none => pure (← zeroValue e, false)
            pure (if ok then .tuple #[v, .bool ok'] else v) : Sem Value)).run P w = .ok v' w := by
        intro es es' he hl
        unfold lookIn at hl
        have hfound : ∀ {y : AV} {y' : Value} (b : Bool), VRel m y y' → VRel m (found ok y b) (if ok = true then .tuple #[y', .bool b] else y') := by
          intro y y' b hy
          cases ok with
          | true =>
            simp only [found, VRel, if_true]
            exact ⟨[y', .bool b], rfl, VsRel.cons hy (VsRel.cons (by simp only [VRel]) VsRel.nil)⟩
          | false => exact hy
        split at hl
        · rename_i u hf
          cases hl
          obtain ⟨j, v', g1, g2, _⟩ := findKey_some hk 0 he hf
          refine ⟨_, hfound true g2, ?_⟩
          simp only [Sem.run_bind, checkKey_plain hu hp hk, Result.andThen_ok, Instr.findKey, Go.run_underlying hu, g1, Sem.run_pure]
        · rename_i hf
          split at hl
          · rename_i z hz
            cases hl
            obtain ⟨zv, hzr, hzv⟩ := run_zero (P := P) hA m hz w
            refine ⟨_, hfound false hzv, ?_⟩
            simp only [Sem.run_bind, checkKey_plain hu hp hk, Result.andThen_ok, Instr.findKey, Go.run_underlying hu, findKey_none hk 0 he hf, Sem.run_pure, hzr]
          · cases hl
        · cases hl
      split at h
      · simp only [VRel] at hx; subst hx
        obtain ⟨v', hv, hr⟩ := main [] #[] rfl h
        refine ⟨v', ?_, hv⟩
        simp only [Instr.lookup, Sem.run_bind, run_und hA hd, Result.andThen_ok, Sem.run_pure]
        simp only [Sem.run_bind] at hr
        exact hr
      · rename_i r
        split at h
        · rename_i es clock hm
          simp only [VRel] at hx
          obtain ⟨ar, hr, rfl⟩ := hx
          obtain ⟨hg, es', hw, he⟩ := mapAt_spec hI hr hm
          obtain ⟨v', hv, hrun⟩ := main es es' he h
          refine ⟨v', ?_, hv⟩
          simp only [Instr.lookup, Sem.run_bind, run_und hA hd, Result.andThen_ok, Sem.run_pure, run_getObj_map hw]
          simp only [Sem.run_bind] at hrun
          exact hrun
        · cases h
      · cases h
    · cases h
  · cases h
theorem EsRel.push {k v : AV} {n : Nat} {x : MapEntry} (hk : VRel m k x.key) (hv : VRel m v x.val) (hn : n = x.born) : ∀ {es : List (AV × AV × Nat)} {es' : List MapEntry}, EsRel m es es' →
    EsRel m (es ++ [(k, v, n)]) (es' ++ [x])
  | [], es', he => by have e : es' = [] := he; subst e; exact ⟨x, [], rfl, hk, hv, hn, rfl⟩
  | e :: r, es', he => by
    obtain ⟨y, ys, rfl, h1, h2, h3, h4⟩ := he
    exact ⟨y, ys ++ [x], rfl, h1, h2, h3, EsRel.push hk hv hn h4⟩
theorem mapUpdate_rel (hA : APok A P) (hI : Inv ng m H w) {t : Nat} {x k v : AV} {x' k' v' : Value} (hx : VRel m x x') (hk : VRel m k k') (hv : VRel m v v') (h : mapUpdate A H t x k v = some H') :
    ∃ w', (Instr.mapUpdate t x' k' v').run P w = .ok () w' ∧ Inv ng m H' w' ∧ Stp m H w m H' w' := by
  unfold mapUpdate at h
  split at h
  · rename_i kt e hd
    split at h
    · rename_i kd hkd
      obtain ⟨hu, hp⟩ := keyD_spec hA hkd
      split at h
      · rename_i r
        split at h
        · rename_i es clock hm
          simp only [VRel] at hx
          obtain ⟨ar, hr, rfl⟩ := hx
          obtain ⟨hg, es', hw, he⟩ := mapAt_spec hI hr hm
          unfold putIn at h
          split at h
          · rename_i u hf
            obtain ⟨j, u', g1, g2, g3, g4, _, e4, g7, g8⟩ := findKey_some hk 0 he hf
            obtain ⟨es2, g9, g10⟩ := g4 v v' hv
            rw [g9] at h
            cases h
            have hkey : ((es'[j]?).map (·.key)).getD k' = e4.key := by
              have : es'[j]? = some e4 := by rw [← g7]; simp
              rw [this]; rfl
            refine ⟨wput w ar (.map (es'.modify j fun e => { e with key := k', val := v' }) clock), ?_, ?_⟩
            · simp only [Instr.mapUpdate, Sem.run_bind, run_und hA hd, Result.andThen_ok, run_getObj_map hw, checkKey_plain hu hp hk, Instr.findKey, Go.run_underlying hu, g1, Sem.run_pure, Nat.zero_add, hkey, Instr.keyThatStays, if_pos (sameBits_of g8), run_setObj_map hw]
            · refine put_inv hI hg rfl hr ⟨rfl, _, wput_same hw, ?_⟩
              have : (es'.modify j fun e => { e with key := k', val := v' }).toList = es'.toList.modify j fun e => { e with key := k', val := v' } := by simp
              rw [this]; exact g10
          · rename_i hf
            cases h
            refine ⟨wput w ar (.map (es'.push { key := k', val := v', born := clock }) (clock + 1)), ?_, ?_⟩
            · simp only [Instr.mapUpdate, Sem.run_bind, run_und hA hd, Result.andThen_ok, run_getObj_map hw, checkKey_plain hu hp hk, Instr.findKey, Go.run_underlying hu, findKey_none hk 0 he hf, Sem.run_pure, run_setObj_map hw]
            · refine put_inv hI hg rfl hr ⟨rfl, _, wput_same hw, ?_⟩
              rw [Array.toList_push]
              exact EsRel.push (x := { key := k', val := v', born := clock }) hk hv rfl he
          · cases h
        · cases h
      · cases h
    · cases h
  · cases h
theorem delete_rel (hA : APok A P) (hI : Inv ng m H w) {t : Nat} {ts : List Nat} {x k : AV} {x' k' : Value} {rest : List Value} (hx : VRel m x x') (hk : VRel m k k') (h : deleteB A H t x k = some H') (ty : TypeId) :
    ∃ w', (Builtin.delete_ (t :: ts).toArray ty (x' :: k' :: rest).toArray).run P w = .ok (.tuple #[]) w' ∧ Inv ng m H' w' ∧ Stp m H w m H' w' := by
  unfold deleteB at h
  split at h
  · rename_i kt e hd
    split at h
    · rename_i kd hkd
      obtain ⟨hu, hp⟩ := keyD_spec hA hkd
      split at h
      · cases h
        simp only [VRel] at hx; subst hx
        refine ⟨w, ?_, hI, Stp.refl hI⟩
        simp [Builtin.delete_, run_und hA hd, checkKey_plain hu hp hk]
      · rename_i r
        split at h
        · rename_i es clock hm
          simp only [VRel] at hx
          obtain ⟨ar, hr, rfl⟩ := hx
          obtain ⟨hg, es', hw, he⟩ := mapAt_spec hI hr hm
          split at h
          · rename_i u hf
            obtain ⟨j, u', g1, g2, g3, _, ⟨es3, g5, g6⟩, _⟩ := findKey_some hk 0 he hf
            rw [g5] at h
            cases h
            refine ⟨wput w ar (.map (es'.eraseIdxIfInBounds j) clock), ?_, ?_⟩
            · simp [Builtin.delete_, run_und hA hd, checkKey_plain hu hp hk, run_getObj_map hw, Instr.findKey, Go.run_underlying hu, g1, run_setObj_map hw]
            · refine put_inv hI hg rfl hr ⟨rfl, _, wput_same hw, ?_⟩
              have : (es'.eraseIdxIfInBounds j).toList = es'.toList.eraseIdx j := by
                unfold Array.eraseIdxIfInBounds
                split
                · simp
                · rename_i hn; exact absurd (by simpa using g3) hn
              rw [this]; exact g6
          · rename_i hf
            cases h
            refine ⟨wput w ar (.map es' clock), ?_, ?_⟩
            · simp [Builtin.delete_, run_und hA hd, checkKey_plain hu hp hk, run_getObj_map hw, Instr.findKey, Go.run_underlying hu, findKey_none hk 0 he hf, run_setObj_map hw]
            · rw [wput_self hw]; exact ⟨hI, Stp.refl hI⟩
          · cases h
        · cases h
      · cases h
    · cases h
  · cases h
end Go.AM
