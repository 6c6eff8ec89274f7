/- Lemmas on the evaluator over abstract memory: what it does is what the model does. Conditions: those of each statement. -/
import Derived.Test.YtcbiknklbhiloaaGreatAmOp
namespace Go.AM
open Go
variable {A : AP} {P : Program} {m : Env} {H H' : AH} {w : World}

theorem VRel.str' {s : List Nat} : VRel m (.str s) (.string (bstr s)) := by simp only [VRel]
theorem convert_rel (hA : APok A P) (hI : Inv A.ng m H w) {s d : Nat} {x v : AV} {x' : Value} (hx : VRel m x x') (h : convert A H s d x = some (v, H')) : Eff P A.ng m H w (Go.convert s d x') v H' := by
  unfold convert at h
  split at h
  · rename_i ds hds
    split at h
    · rename_i k hd
      split at h
      · rename_i k0 n
        split at h
        · rename_i ks
          cases h
          simp only [VRel] at hx; subst hx
          refine pure_eff hI ⟨.int k (k.wrap n), ?_, by rw [wrapF_eq]; exact VRel.int'⟩
          simp only [Go.convert, Sem.run_bind, run_und hA hds, run_und hA hd, Result.andThen_ok, Conv.intToInt, Sem.run_pure]
        · cases h
      · cases h
    · rename_i hd
      split at h
      · split at h
        · cases h
          simp only [VRel] at hx; subst hx
          refine pure_eff hI ⟨_, ?_, VRel.str'⟩
          simp only [Go.convert, Sem.run_bind, run_und hA hds, run_und hA hd, Result.andThen_ok, Sem.run_pure]
        · cases h
      · obtain ⟨rfl, h2⟩ := bytesToStr_rel (P := P) hA hI hds hd hx h
        exact pure_eff hI h2
      · cases h
    · rename_i e hd
      split at h
      · split at h
        · simp only [VRel] at hx; subst hx
          exact strToBytes_rel hA hI hds hd h
        · cases h
      · cases h
    · cases h
  · cases h
theorem mkIface_rel (hA : APok A P) {t : Nat} {x v : AV} {x' : Value} (hx : VRel m x x') (h : mkIface A t x = some v) : ∃ v', (Instr.makeInterface t x').run P w = .ok v' w ∧ VRel m v v' := by
  unfold mkIface at h
  split at h
  · cases h
  · rename_i d hne hd
    cases h
    refine ⟨.iface t x', ?_, by simp only [VRel]; exact ⟨x', rfl, hx⟩⟩
    simp only [Instr.makeInterface, Sem.run_bind, run_und hA hd, Result.andThen_ok, Sem.run_pure]
  · cases h
theorem nilChk_rel (hI : Inv A.ng m H w) {x v : AV} {x' : Value} (hx : VRel m x x') (h : nilChk H x = some (v, H')) {o : Oper} {ρ : Operand → Value} {y : Operand} (ho : o.op = .nilCheck y) (hy : ρ y = x') :
    OpRes P A.ng m H w (execOp ρ o) v H' := by
  unfold nilChk at h
  obtain ⟨dst, op, type, pos, after, guard⟩ := o
  simp only at ho; subst ho
  split at h
  · cases h
    have hx' := hx
    simp only [VRel] at hx
    obtain ⟨ab, ao, hb, rfl⟩ := hx
    refine .inl ⟨_, w, m, .inl ?_, hI, Stp.refl hI, hx'⟩
    simp only [execOp, hy, Sem.run_pure]
  · cases h
    have hx' := hx
    simp only [VRel] at hx
    obtain ⟨a', b', rfl, _, _⟩ := hx
    refine .inl ⟨_, w, m, .inl ?_, hI, Stp.refl hI, hx'⟩
    simp only [execOp, hy, Sem.run_pure]
  · cases h
theorem builtin_rel (hA : APok A P) (hI : Inv A.ng m H w) {ts : Array TypeId} {args : List AV} {args' : List Value} {b : Builtin} {v : AV} (ha : VsRel m args args') (h : builtin A H ts.toList args b = some (v, H')) (ty : TypeId) (cs : Array Bool) :
    OpRes P A.ng m H w (Go.builtin b ts ty cs args'.toArray) v H' := by
  obtain ⟨ts⟩ := ts
  cases b <;> simp only [builtin] at h <;> try (cases h; done)
  case append =>
    unfold bAppend at h
    split at h
    · simp only [VsRel] at ha
      obtain ⟨s', _, rfl, hs, x', _, rfl, hx, rfl⟩ := ha
      exact eff_op (append_rel hA hI hs hx h)
    · cases h
  case len =>
    unfold bLen at h
    split at h
    · obtain ⟨h1, rfl⟩ := pureRes_some h
      simp only [VsRel] at ha
      obtain ⟨x', r, rfl, hx, _⟩ := ha
      exact eff_op (pure_eff hI (len_rel hA hI hx h1 ty))
    · cases h
  case cap =>
    unfold bCap at h
    split at h
    · obtain ⟨h1, rfl⟩ := pureRes_some h
      simp only [VsRel] at ha
      obtain ⟨x', r, rfl, hx, _⟩ := ha
      exact eff_op (pure_eff hI (cap_rel hA hI hx h1 ty))
    · cases h
  case copy =>
    unfold bCopy at h
    split at h
    · simp only [VsRel] at ha
      obtain ⟨d', r, rfl, hd, s', r', rfl, hs, _⟩ := ha
      exact eff_op (copy_rel hA hI hd hs h ty)
    · cases h
  case clear =>
    unfold bClear at h
    split at h
    · simp only [VsRel] at ha
      obtain ⟨d', r, rfl, hd, _⟩ := ha
      exact eff_op (clear_rel hA hI hd h ty)
    · cases h
  case delete =>
    unfold bDelete at h
    split at h
    · obtain ⟨h1, rfl⟩ := unitRes_some h
      simp only [VsRel] at ha
      obtain ⟨d', r, rfl, hd, k', r', rfl, hk, _⟩ := ha
      obtain ⟨w', q1, q2, q3⟩ := delete_rel (rest := r') (ts := _) hA hI hd hk h1 ty
      exact eff_op ⟨_, _, _, q1, q2, q3, undef_rel⟩
    · cases h
  case min =>
    unfold bMin at h
    split at h
    · obtain ⟨h1, rfl⟩ := pureRes_some h
      simp only [VsRel] at ha
      obtain ⟨a', r, rfl, hx, hr⟩ := ha
      exact eff_op (pure_eff hI (min_rel hr hx h1 _ ty))
    · cases h
  case max =>
    unfold bMax at h
    split at h
    · obtain ⟨h1, rfl⟩ := pureRes_some h
      simp only [VsRel] at ha
      obtain ⟨a', r, rfl, hx, hr⟩ := ha
      exact eff_op (pure_eff hI (max_rel hr hx h1 _ ty))
    · cases h

theorem doCall_rel {call : CallT} (hc : CallOK A P call) (hI : Inv A.ng m H w) {f : AV} {f' : Value} {args : List AV} {args' : List Value} {v : AV} (hf : VRel m f f') (ha : VsRel m args args')
    (h : doCall call H args (some f) = some (v, H')) : OpRes P A.ng m H w (do let d ← Deferred.ofValue f' args'.toArray; Go.invoke d.target d.args) v H' := by
  unfold doCall at h
  split at h
  · rename_i g first cap heq
    cases heq
    simp only [VRel] at hf
    obtain ⟨a', b', rfl, h1, h2⟩ := hf
    have := hc _ _ _ _ _ h m w _ hI (VsRel.append (VsRel.append h1 ha) h2)
    have e : (do let d ← Deferred.ofValue (.func (.func g) ⟨a'⟩ ⟨b'⟩) args'.toArray; Go.invoke d.target d.args) = callFunc g ((a' ++ args') ++ b').toArray := by
      simp only [Deferred.ofValue]
      show callFunc g ((⟨a'⟩ ++ args'.toArray) ++ ⟨b'⟩) = _
      congr 1
      simp
    rw [e]; exact this
  · cases h
theorem opCall_rel (hA : APok A P) {call : CallT} (hc : CallOK A P call) (hI : Inv A.ng m H w) {T : TM} {a : Act} (hT : TRel m T a.tmps) {c : Call} {v : AV} (h : opCall A call T H c = some (v, H')) (ty : TypeId) :
    OpRes P A.ng m H w (do let d ← resolve a.eval c ty; Go.invoke d.target d.args) v H' := by
  unfold opCall at h
  split at h
  · rename_i args hargs
    have ha := opds_rel hI hT hargs
    have hmap : c.args.map a.eval = (c.args.toList.map a.eval).toArray := by apply Array.toList_inj.1; simp
    unfold opCallee at h
    unfold resolve
    simp only [hmap]
    split at h
    · rename_i b hb
      rw [hb]
      exact builtin_rel hA hI ha h ty _
    · rename_i f hf
      rw [hf]
      have gen : doCall call H args (opd A T f) = some (v, H') → OpRes P A.ng m H w (do let d ← Deferred.ofValue (a.eval f) (c.args.toList.map a.eval).toArray; Go.invoke d.target d.args) v H' := by
        intro h
        cases ho : opd A T f with
        | none => rw [ho] at h; cases h
        | some fv =>
          rw [ho] at h
          exact doCall_rel hc hI (opd_rel hI hT ho) ha h
      unfold callVal at h
      split at h
      · rename_i g
        split at h
        · rename_i p hp
          obtain ⟨h1, rfl⟩ := pureRes_some h
          obtain ⟨hen, hC⟩ := hA.pf g p hp
          have e : (do let d ← Deferred.ofValue (a.eval (.func g)) (c.args.toList.map a.eval).toArray; Go.invoke d.target d.args) = callFunc g (c.args.toList.map a.eval).toArray := by
            show callFunc g ((#[] ++ (c.args.toList.map a.eval).toArray) ++ #[]) = _
            congr 1
            simp
          refine .inr ⟨g, _, (by rw [e]; exact hen _ w), Calls.mono (hC args v h1 m _ w ha) fun en w' he => ?_⟩
          obtain ⟨⟨r, rfl, hr⟩, hB⟩ := he
          exact ⟨m, (below_keep hI hB).1, (below_keep hI hB).2, hr⟩
        · exact gen h
      · exact gen h
    · cases h
  · cases h
theorem opEval_ok (hA : APok A P) {call : CallT} (hc : CallOK A P call) (hI : Inv A.ng m H w) {T : TM} {a : Act} (hT : TRel m T a.tmps) {o : Oper} {v : AV} (h : opEval A call T H o.op = some (v, H')) :
    OpRes P A.ng m H w (execOp a.eval o) v H' := by
  obtain ⟨dst, op, type, pos, after, guard⟩ := o
  have idle : ∀ {x : Operand} {v : AV}, pureRes H (opd A T x) = some (v, H') → OpRes P A.ng m H w (pure (.value (a.eval x))) v H' := by
    intro x v h
    obtain ⟨h1, rfl⟩ := pureRes_some h
    exact .inl ⟨_, w, m, .inl rfl, hI, Stp.refl hI, opd_rel hI hT h1⟩
  cases op
  case move x => exact idle h
  case assign x => exact idle h
  case pick c x y =>
    have h : opPick A T H c x y = some (v, H') := h
    unfold opPick at h
    split at h
    · rename_i cb hcb
      split at h
      · rename_i xv hx
        split at h
        · rename_i yv hy
          cases h
          have h1 := opd_rel hI hT hcb
          simp only [VRel] at h1
          refine .inl ⟨if cb then a.eval x else a.eval y, w, m, .inl ?_, hI, Stp.refl hI, ?_⟩
          · simp only [execOp, h1, asBool, Sem.run_bind, Sem.run_pure, Result.andThen_ok]
          · cases cb
            · exact opd_rel hI hT hy
            · exact opd_rel hI hT hx
        · cases h
      · cases h
    · cases h
  case alloc e =>
    have h : newOb H (allocAlloc A e) = some (v, H') := h
    refine eff_op ?_
    cases ho : allocAlloc A e with
    | none => rw [ho] at h; cases h
    | some r => obtain ⟨ob, mk⟩ := r; rw [ho] at h; exact newOb_rel hI (alloc_ok hA ho) h
  case box e x =>
    have h : newOb H (allocBox A T x) = some (v, H') := h
    refine eff_op ?_
    cases ho : allocBox A T x with
    | none => rw [ho] at h; cases h
    | some r => obtain ⟨ob, mk⟩ := r; rw [ho] at h; exact newOb_rel hI (box_ok hI hT ho) h
  case build t ps =>
    have h : opBuild A T H t ps.toList = some (v, H') := h
    unfold opBuild at h
    split at h
    · rename_i l hl
      obtain ⟨h1, rfl⟩ := pureRes_some h
      have hp := partsOf_rel hI hT hl
      refine eff_op (pure_eff hI (build_rel hA ?_ h1))
      simpa using hp
    · cases h
  case buildSlice t n ps =>
    have h : newOb H (allocSlice A T t n ps.toList) = some (v, H') := h
    refine eff_op ?_
    cases ho : allocSlice A T t n ps.toList with
    | none => rw [ho] at h; cases h
    | some r => obtain ⟨ob, mk⟩ := r; rw [ho] at h; exact newOb_rel hI (buildSlice_ok hA hI hT ho) h
  case insert t x k y =>
    have h : op3 A T x k y (fun m k v => unitRes (mapUpdate A H t m k v)) = some (v, H') := h
    obtain ⟨xv, kv, yv, h1, h2, h3, h4⟩ := op3_some h
    obtain ⟨h5, rfl⟩ := unitRes_some h4
    exact unit_op (mapUpdate_rel hA hI (opd_rel hI hT h1) (opd_rel hI hT h2) (opd_rel hI hT h3) h5)
  case load t x =>
    have h : op1 A T x (fun a => pureRes H (load A H t a)) = some (v, H') := h
    obtain ⟨xv, h1, h2⟩ := op1_some h
    obtain ⟨h3, rfl⟩ := pureRes_some h2
    exact eff_op (pure_eff hI (load_rel hA hI (opd_rel hI hT h1) h3))
  case store t x y =>
    have h : op2 A T x y (fun a v => unitRes (store A H t a v)) = some (v, H') := h
    obtain ⟨xv, yv, h1, h2, h3⟩ := op2_some h
    obtain ⟨h4, rfl⟩ := unitRes_some h3
    exact unit_op (store_rel hA hI (opd_rel hI hT h1) (opd_rel hI hT h2) h4)
  case nilCheck x =>
    have h : op1 A T x (nilChk H) = some (v, H') := h
    obtain ⟨xv, h1, h2⟩ := op1_some h
    exact nilChk_rel hI (opd_rel hI hT h1) h2 rfl rfl
  case binOp op t x y c =>
    have h : op2 A T x y (fun a b => cond (eqGuardOK A t x y a b op) (pureRes H (binOp A t op a b)) none) = some (v, H') := h
    obtain ⟨xv, yv, h1, h2, h3⟩ := op2_some h
    cases hg : eqGuardOK A t x y xv yv op with
    | false => rw [hg] at h3; cases h3
    | true =>
      rw [hg] at h3
      obtain ⟨h4, rfl⟩ := pureRes_some h3
      obtain ⟨v', h5, h6⟩ := binOp_rel (P := P) (w := w) hA (opd_rel hI hT h1) (opd_rel hI hT h2) h4
      refine eff_op (pure_eff hI ⟨v', ?_, h6⟩)
      simp only [Sem.run_bind, guard_rel (w := w) hA (opd_rel hI hT h1) (opd_rel hI hT h2) hg, Result.andThen_ok, h5]
  case unOp op t x =>
    have h : op1 A T x (fun x => pureRes H (unOp op x)) = some (v, H') := h
    obtain ⟨xv, h1, h2⟩ := op1_some h
    obtain ⟨h3, rfl⟩ := pureRes_some h2
    exact eff_op (pure_eff hI (unOp_rel (opd_rel hI hT h1) h3))
  case convert s d x =>
    have h : op1 A T x (convert A H s d) = some (v, H') := h
    obtain ⟨xv, h1, h2⟩ := op1_some h
    exact eff_op (convert_rel hA hI (opd_rel hI hT h1) h2)
  case makeInterface t x =>
    have h : op1 A T x (fun x => pureRes H (mkIface A t x)) = some (v, H') := h
    obtain ⟨xv, h1, h2⟩ := op1_some h
    obtain ⟨h3, rfl⟩ := pureRes_some h2
    exact eff_op (pure_eff hI (mkIface_rel hA (opd_rel hI hT h1) h3))
  case makeFunc fn first cap =>
    have h : opMakeFunc A T H fn first.toList cap.toList = some (v, H') := h
    unfold opMakeFunc at h
    split at h
    · rename_i g _
      split at h
      · rename_i fs hfs
        split at h
        · rename_i cs hcs
          cases h
          refine eff_op (pure_eff hI ⟨.func (.func g) (first.map a.eval) (cap.map a.eval), rfl, ?_⟩)
          simp only [VRel]
          exact ⟨first.toList.map a.eval, cap.toList.map a.eval, by rw [show first.map a.eval = ⟨first.toList.map a.eval⟩ from Array.toList_inj.1 (by simp), show cap.map a.eval = ⟨cap.toList.map a.eval⟩ from Array.toList_inj.1 (by simp)], opds_rel hI hT hfs, opds_rel hI hT hcs⟩
        · cases h
      · cases h
    · cases h
  case makeMap t r =>
    have h : newOb H (allocOf A T (.makeMap t r)) = some (v, H') := h
    cases r with
    | some _ => cases h
    | none => exact eff_op (newOb_rel hI makeMap_ok h)
  case makeSlice t l c =>
    have h : op2 A T l c (makeSlice A H t) = some (v, H') := h
    obtain ⟨xv, yv, h1, h2, h3⟩ := op2_some h
    exact eff_op (makeSlice_rel hA hI (opd_rel hI hT h1) (opd_rel hI hT h2) h3)
  case slice t x lo hi mx =>
    have h : opSlice A T H t x lo hi mx = some (v, H') := h
    unfold opSlice at h
    split at h
    · rename_i xv hx
      split at h
      · rename_i lv hl
        split at h
        · rename_i hv hh
          split at h
          · rename_i mv hm
            obtain ⟨h3, rfl⟩ := pureRes_some h
            exact eff_op (pure_eff hI (slice_rel hA hI (opd_rel hI hT hx) (optOpd_rel hI hT hl) (optOpd_rel hI hT hh) (optOpd_rel hI hT hm) h3))
          · cases h
        · cases h
      · cases h
    · cases h
  case fieldAddr t x f =>
    have h : op1 A T x (fun x => pureRes H (fieldAddr A t x f)) = some (v, H') := h
    obtain ⟨xv, h1, h2⟩ := op1_some h
    obtain ⟨h3, rfl⟩ := pureRes_some h2
    exact eff_op (pure_eff hI (fieldAddr_rel hA (opd_rel hI hT h1) h3))
  case field t x f =>
    have h : op1 A T x (fun x => pureRes H (field A t x f)) = some (v, H') := h
    obtain ⟨xv, h1, h2⟩ := op1_some h
    obtain ⟨h3, rfl⟩ := pureRes_some h2
    exact eff_op (pure_eff hI (field_rel hA (opd_rel hI hT h1) h3))
  case indexAddr t x i =>
    have h : op2 A T x i (fun x i => pureRes H (indexAddr A t x i)) = some (v, H') := h
    obtain ⟨xv, yv, h1, h2, h3⟩ := op2_some h
    obtain ⟨h4, rfl⟩ := pureRes_some h3
    exact eff_op (pure_eff hI (indexAddr_rel hA (opd_rel hI hT h1) (opd_rel hI hT h2) h4))
  case index t x i =>
    have h : op2 A T x i (fun x i => pureRes H (index A t x i)) = some (v, H') := h
    obtain ⟨xv, yv, h1, h2, h3⟩ := op2_some h
    obtain ⟨h4, rfl⟩ := pureRes_some h3
    exact eff_op (pure_eff hI (index_rel hA (opd_rel hI hT h1) (opd_rel hI hT h2) h4))
  case lookup t x k ok =>
    have h : op2 A T x k (fun x k => pureRes H (lookup A H t x k ok)) = some (v, H') := h
    obtain ⟨xv, yv, h1, h2, h3⟩ := op2_some h
    obtain ⟨h4, rfl⟩ := pureRes_some h3
    exact eff_op (pure_eff hI (lookup_rel hA hI (opd_rel hI hT h1) (opd_rel hI hT h2) h4))
  case mapUpdate t x k y =>
    have h : op3 A T x k y (fun m k v => unitRes (mapUpdate A H t m k v)) = some (v, H') := h
    obtain ⟨xv, kv, yv, h1, h2, h3, h4⟩ := op3_some h
    obtain ⟨h5, rfl⟩ := unitRes_some h4
    exact unit_op (mapUpdate_rel hA hI (opd_rel hI hT h1) (opd_rel hI hT h2) (opd_rel hI hT h3) h5)
  case range t x =>
    have h : op1 A T x (opRange A H t) = some (v, H') := h
    obtain ⟨xv, h1, h2⟩ := op1_some h
    exact eff_op (range_rel hA hI (opd_rel hI hT h1) h2)
  case next it isStr =>
    have h : op1 A T it (fun it => next H it isStr) = some (v, H') := h
    obtain ⟨xv, h1, h2⟩ := op1_some h
    exact eff_op (next_rel hI (opd_rel hI hT h1) h2 _)
  case entry it =>
    have h : op1 A T it (opEntry H) = some (v, H') := h
    obtain ⟨xv, h1, h2⟩ := op1_some h
    exact eff_op (entry_rel hI (opd_rel hI hT h1) h2)
  case extract t i =>
    have h : op1 A T t (opExtract H i) = some (v, H') := h
    obtain ⟨xv, h1, h2⟩ := op1_some h
    have hr := opd_rel hI hT h1
    unfold opExtract at h2
    split at h2
    · rename_i vs
      obtain ⟨h3, rfl⟩ := pureRes_some h2
      simp only [VRel] at hr
      obtain ⟨us, hu, hus⟩ := hr
      obtain ⟨u, hu1, hu2⟩ := hus.get i v (by rw [← nth_eq]; exact h3)
      refine eff_op (pure_eff hI ⟨u, ?_, hu2⟩)
      have hux : a.eval t = .tuple ⟨us⟩ := hu
      have hu2 : (⟨us⟩ : Array Value)[i]? = some u := by simpa using hu1
      simp only [hux, Instr.extract, hu2, Sem.run_pure]
    · cases h2
  case call c =>
    have h : opCall A call T H c = some (v, H') := h
    exact opCall_rel hA hc hI hT h type
  all_goals (exact absurd h (by intro h; cases h))
end Go.AM
