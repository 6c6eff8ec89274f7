/- Lemmas on the evaluator over abstract memory: what it does is what the model does. Conditions: those of each statement. -/
import Derived.Test.YtcbiknklbhiloaaGreatAmBin
namespace Go.AM
open Go
variable {A : AP} {P : Program} {ng : Nat} {m : Env} {H H' : AH} {w : World}

theorem part_rel (hA : APok A P) {t off : Nat} {cs : List AV} {vs : List Value} {v : AV} (hc : VsRel m cs vs) (h : partOf A t cs off = some v) :
    ∃ v', (part t ⟨vs⟩ off).run P w = .ok v' w ∧ VRel m v v' := by
  unfold partOf at h
  split at h
  · rename_i d n hd hs
    unfold partOfD at h
    cases hdr : dropN off cs with
    | none => rw [hdr] at h; cases h
    | some r =>
      rw [hdr] at h
      simp only at h
      obtain ⟨e1, e2⟩ := dropN_eq _ _ _ hdr
      have hl := hc.length
      cases hag : isAggD d with
      | true =>
        rw [hag] at h
        simp only at h
        cases ht : takeN n r with
        | none => rw [ht] at h; cases h
        | some l =>
          rw [ht] at h; cases h
          obtain ⟨e3, e4⟩ := takeN_eq _ _ _ ht
          refine ⟨.agg ((⟨vs⟩ : Array Value).extract off (off + n)), ?_, ?_⟩
          · simp only [part, Sem.run_bind, run_isAgg hA hd, hag, Result.andThen_ok, if_true, run_sizeOf hA hs, Sem.run_pure]
          · simp only [VRel]
            refine ⟨(vs.drop off).take n, ?_, ?_⟩
            · congr 1; apply Array.ext'; simp [List.extract_eq_take_drop]
            · rw [e3, e1]; exact (hc.drop off).take n
      | false =>
        rw [hag] at h
        simp only at h
        cases r with
        | nil => cases h
        | cons x xs =>
          simp only [Option.some.injEq] at h
          subst h
          have hx : cs[off]? = some x := by
            have : (cs.drop off)[0]? = some x := by rw [← e1]; rfl
            simpa using this
          obtain ⟨u, hu, hr⟩ := hc.get off x hx
          refine ⟨u, ?_, hr⟩
          have hu' : (⟨vs⟩ : Array Value)[off]? = some u := by rw [← hu]; simp
          simp only [part, Sem.run_bind, run_isAgg hA hd, hag, Result.andThen_ok, Bool.false_eq_true, if_false, hu', Sem.run_pure]
  · cases h

theorem cellEq_rel (hA : APok A P) {t : Nat} {d : TypeDesc} {x y : AV} {x' y' : Value} {b : Bool} (hd : A.desc t = some d) (hfx : fits A d x = true) (hfy : fits A d y = true)
    (hx : VRel m x x') (hy : VRel m y y') (h : cellEq x y = some b) (n : Nat) : (Op.equalIn (n + 1) t x' y').run P w = .ok b w := by
  have hu := und hA hd
  cases d with
  | bool =>
    cases x <;> simp only [fits, Bool.false_eq_true] at hfx
    cases y <;> simp only [fits, Bool.false_eq_true] at hfy
    simp only [VRel] at hx hy; subst hx; subst hy
    simp only [cellEq] at h; cases h
    simp [Op.equalIn, Go.run_underlying hu]
  | int k =>
    cases x <;> simp only [fits, Bool.false_eq_true] at hfx
    cases y <;> simp only [fits, Bool.false_eq_true] at hfy
    simp only [VRel] at hx hy; subst hx; subst hy
    simp only [cellEq, intEq] at h
    split at h
    · rename_i e; subst e; cases h
      simp only [Op.equalIn, Sem.run_bind, Go.run_underlying hu, Result.andThen_ok, if_true, Sem.run_pure, iEq_eq]
      rfl
    · cases h
  | string =>
    cases x <;> simp only [fits, Bool.false_eq_true] at hfx
    cases y <;> simp only [fits, Bool.false_eq_true] at hfy
    simp only [VRel] at hx hy; subst hx; subst hy
    simp only [cellEq] at h
    rw [Go.run_equalIn_string w n t _ _ hu, strEq_spec h]
  | pointer e =>
    cases x <;> simp only [fits, Bool.false_eq_true] at hfx <;> cases y <;> simp only [fits, Bool.false_eq_true] at hfy <;> simp only [cellEq] at h
    · cases h; simp only [VRel] at hx hy; subst hx; subst hy
      simp [Op.equalIn, Go.run_underlying hu]
    · cases h; simp only [VRel] at hx hy; subst hx; obtain ⟨_, _, _, rfl⟩ := hy
      simp [Op.equalIn, Go.run_underlying hu]
    · cases h; simp only [VRel] at hx hy; subst hy; obtain ⟨_, _, _, rfl⟩ := hx
      simp [Op.equalIn, Go.run_underlying hu]
    · rename_i b1 o1 b2 o2
      unfold ptrEq at h
      cases hb : Nat.beq b1 b2 with
      | false => rw [hb] at h; cases h
      | true =>
        rw [hb] at h; cases h
        obtain rfl := beq_iff.1 hb
        simp only [VRel] at hx hy
        obtain ⟨ab, ao, h1, rfl⟩ := hx
        obtain ⟨ab', ao', h2, rfl⟩ := hy
        rw [h1] at h2; cases h2
        split at hfx
        · rename_i sz hsz
          simp only [Op.equalIn, Sem.run_bind, Go.run_underlying hu, Result.andThen_ok, run_sizeOf hA hsz]
          simp only [ne_eq, Nat.succ_ne_zero, not_false_eq_true, if_true, sameAddr, beq_self_eq_true, Sem.run_pure]
          congr 1
          by_cases e : o1 = o2
          · subst e; rw [Nat.beq_refl]; simp
          · rw [beq_false.2 e]; simp; omega
        · cases hfx
  | slice e =>
    cases x <;> simp only [fits, Bool.false_eq_true] at hfx <;> cases y <;> simp only [fits, Bool.false_eq_true] at hfy <;> simp only [cellEq] at h <;> try (cases h; done)
    · cases h; simp only [VRel] at hx hy; subst hx; subst hy
      simp [Op.equalIn, Go.run_underlying hu]
    · cases h; simp only [VRel] at hx hy; subst hx; obtain ⟨_, _, _, _, _, rfl, _⟩ := hy
      simp [Op.equalIn, Go.run_underlying hu]
    · cases h; simp only [VRel] at hx hy; subst hy; obtain ⟨_, _, _, _, _, rfl, _⟩ := hx
      simp [Op.equalIn, Go.run_underlying hu]
  | map k e =>
    cases x <;> simp only [fits, Bool.false_eq_true] at hfx <;> cases y <;> simp only [fits, Bool.false_eq_true] at hfy
    rename_i r1 r2
    cases r1 <;> cases r2 <;> simp only [cellEq] at h <;> try (cases h; done)
    · cases h; simp only [VRel] at hx hy; subst hx; subst hy
      simp [Op.equalIn, Go.run_underlying hu]
    · cases h; simp only [VRel] at hx hy; subst hx; obtain ⟨_, _, rfl⟩ := hy
      simp [Op.equalIn, Go.run_underlying hu]
    · cases h; simp only [VRel] at hx hy; subst hy; obtain ⟨_, _, rfl⟩ := hx
      simp [Op.equalIn, Go.run_underlying hu]
  | func ps rs v =>
    cases x <;> simp only [fits, Bool.false_eq_true] at hfx <;> cases y <;> simp only [fits, Bool.false_eq_true] at hfy <;> simp only [cellEq] at h <;> try (cases h; done)
    · cases h; simp only [VRel] at hx hy; subst hy; obtain ⟨_, _, rfl, _⟩ := hx
      simp [Op.equalIn, Go.run_underlying hu]
    · cases h; simp only [VRel] at hx hy; subst hx; obtain ⟨_, _, rfl, _⟩ := hy
      simp [Op.equalIn, Go.run_underlying hu]
    · cases h; simp only [VRel] at hx hy; subst hx; subst hy
      simp [Op.equalIn, Go.run_underlying hu]
  | interface ms =>
    cases x <;> simp only [fits, Bool.false_eq_true] at hfx <;> cases y <;> simp only [fits, Bool.false_eq_true] at hfy <;> simp only [cellEq] at h <;> try (cases h; done)
    · cases h; simp only [VRel] at hx hy; subst hy; obtain ⟨_, rfl, _⟩ := hx
      simp [Op.equalIn, Go.run_underlying hu]
    · cases h; simp only [VRel] at hx hy; subst hx; obtain ⟨_, rfl, _⟩ := hy
      simp [Op.equalIn, Go.run_underlying hu]
    · cases h; simp only [VRel] at hx hy; subst hx; subst hy
      simp [Op.equalIn, Go.run_underlying hu]
  | _ => simp [fits] at hfx

theorem valEq_rel (hA : APok A P) : ∀ (n t : Nat) (x y : AV) (x' y' : Value) (b : Bool), VRel m x x' → VRel m y y' → valEq A n t x y = some b →
    ∀ d, n ≤ d → (Op.equalIn d t x' y').run P w = .ok b w
  | 0, _, _, _, _, _, _, _, _, h, _, _ => by cases h
  | n + 1, t, x, y, x', y', b, hx, hy, h, d, hn => by
    obtain ⟨d, rfl⟩ : ∃ e, d = e + 1 := ⟨d - 1, by omega⟩
    change valEqS A (valEq A n) t x y = some b at h
    unfold valEqS at h
    split at h
    · rename_i fs hd
      split at h
      · rename_i xs ys
        split at h
        · rename_i heq
          have hheld := hA.eqs t heq
          split at h
          · rename_i hnb
            simp only [VRel] at hx hy
            obtain ⟨xv, rfl, hxs⟩ := hx
            obtain ⟨yv, rfl, hys⟩ := hy
            have hu := und hA hd
            have hf : P.fieldsOf t = fs := by unfold Program.fieldsOf; rw [hu]
            rw [run_equalIn_struct w d t _ _ (by rw [hf]; exact hu) hheld, hf]
            clear hheld hd hu hf heq
            generalize fs.toList = l at h hnb
            induction l with
            | nil => simp only [eqFields] at h; cases h; rfl
            | cons f l ih =>
              unfold noBlank at hnb
              cases hfn : (f.name == "_") with
              | true => rw [hfn] at hnb; cases hnb
              | false =>
                rw [hfn] at hnb
                simp only at hnb
                have hne : f.name ≠ "_" := by simpa using hfn
                unfold eqFields at h
                split at h
                · rename_i u1 u2 hp1 hp2
                  obtain ⟨v1, hr1, hv1⟩ := part_rel (P := P) (w := w) hA hxs hp1
                  obtain ⟨v2, hr2, hv2⟩ := part_rel (P := P) (w := w) hA hys hp2
                  simp only [Op.eqFields, if_pos hne, Sem.run_bind, hr1, hr2, Result.andThen_ok]
                  split at h
                  · rename_i heq
                    rw [valEq_rel hA n _ _ _ _ _ _ hv1 hv2 heq d (by omega)]
                    simp only [Result.andThen_ok, Bool.not_true, Bool.false_eq_true, if_false]
                    exact ih h hnb
                  · rename_i heq
                    cases h
                    rw [valEq_rel hA n _ _ _ _ _ _ hv1 hv2 heq d (by omega)]
                    simp only [Result.andThen_ok, Bool.not_false, if_true, Sem.run_pure]
                  · cases h
                · cases h
          · cases h
        · cases h
      · cases h
    · rename_i dd hns hd
      split at h
      · rename_i hfx
        split at h
        · rename_i hfy
          exact cellEq_rel hA hd hfx hfy hx hy h d
        · cases h
      · cases h
    · cases h

theorem noIface_spec (hA : APok A P) : ∀ (n t : Nat), noIface A n t = true → ∀ d, n ≤ d → P.eqGuardType d t = false
  | 0, _, h, _, _ => by cases h
  | n + 1, t, h, d, hn => by
    obtain ⟨d, rfl⟩ : ∃ e, d = e + 1 := ⟨d - 1, by omega⟩
    change (match A.desc t with
      | some (.interface _) => false
      | some (.struct fs) => noIfaceL (noIface A n) fs.toList
      | some (.array _ e) => noIface A n e
      | some _ => true
      | none => false) = true at h
    unfold Program.eqGuardType
    split at h
    · cases h
    · rename_i fs hd
      rw [und hA hd]
      simp only
      rw [← Array.any_toList]
      generalize fs.toList = l at h
      induction l with
      | nil => rfl
      | cons f l ih =>
        unfold noIfaceL at h
        split at h
        · rename_i hf
          rw [List.any_cons, noIface_spec hA n _ hf d (by omega), ih h]; simp
        · cases h
    · rename_i k e hd
      rw [und hA hd]
      exact noIface_spec hA n _ h d (by omega)
    · rename_i dd h1 h2 h3 hd
      rw [und hA hd]
      cases dd <;> first | rfl | exact absurd rfl (h1 _) | exact absurd rfl (h2 _) | exact absurd rfl (h3 _ _)
    · cases h
end Go.AM
