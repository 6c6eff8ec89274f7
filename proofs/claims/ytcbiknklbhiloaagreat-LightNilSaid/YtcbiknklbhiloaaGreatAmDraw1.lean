/- Lemmas on the evaluator over abstract memory: what it does is what the model does. Conditions: those of each statement. -/
import Derived.Test.YtcbiknklbhiloaaGreatAmCall
namespace Go.AM
open Go
variable {A : AP} {P : Program} {m : Env} {H H' : AH} {w : World}

/- what an operation looks at -/
theorem opds_congr {T T' : TM} : ∀ {xs : List Operand}, (∀ x ∈ xs, opd A T x = opd A T' x) → opds A T xs = opds A T' xs
  | [], _ => rfl
  | x :: xs, h => by
    unfold opds
    rw [h x (by simp), opds_congr fun y hy => h y (by simp [hy])]
theorem partsOf_congr {T T' : TM} : ∀ {xs : List (Nat × Operand)}, (∀ x ∈ xs, opd A T x.2 = opd A T' x.2) → partsOf A T xs = partsOf A T' xs
  | [], _ => rfl
  | (i, x) :: xs, h => by
    unfold partsOf
    rw [h (i, x) (by simp), partsOf_congr fun y hy => h y (by simp [hy])]
theorem optOpd_congr {T T' : TM} {x : Option Operand} (h : ∀ y, x = some y → opd A T y = opd A T' y) : optOpd A T x = optOpd A T' x := by
  cases x with
  | none => rfl
  | some y => simp only [optOpd, h y rfl]
theorem opEval_congr {call : CallT} {T T' : TM} {H : AH} {o : Op} (h : ∀ x ∈ o.operands, opd A T x = opd A T' x) : opEval A call T H o = opEval A call T' H o := by
  cases o <;> simp only [Op.operands] at h
  case move x => exact congrArg (pureRes H) (h x (by simp))
  case assign x => exact congrArg (pureRes H) (h x (by simp))
  case pick c a b => show opPick A T H c a b = opPick A T' H c a b; unfold opPick; rw [h c (by simp), h a (by simp), h b (by simp)]
  case alloc e => rfl
  case box e x => show newOb H (allocBox A T x) = newOb H (allocBox A T' x); unfold allocBox; rw [h x (by simp)]
  case build t ps => show opBuild A T H t ps.toList = opBuild A T' H t ps.toList; unfold opBuild; rw [partsOf_congr fun x hx => h x.2 (by simpa using ⟨x.1, by simpa using hx⟩)]
  case buildSlice t n ps => show newOb H (allocSlice A T t n ps.toList) = newOb H (allocSlice A T' t n ps.toList); unfold allocSlice; rw [partsOf_congr fun x hx => h x.2 (by simpa using ⟨x.1, by simpa using hx⟩)]
  case insert t x k y => show op3 A T x k y _ = op3 A T' x k y _; unfold op3; rw [h x (by simp), h k (by simp), h y (by simp)]
  case load t x => show op1 A T x _ = op1 A T' x _; unfold op1; rw [h x (by simp)]
  case store t x y => show op2 A T x y _ = op2 A T' x y _; unfold op2; rw [h x (by simp), h y (by simp)]
  case nilCheck x => show op1 A T x _ = op1 A T' x _; unfold op1; rw [h x (by simp)]
  case binOp op t x y c => show op2 A T x y _ = op2 A T' x y _; unfold op2; rw [h x (by simp), h y (by simp)]
  case unOp op t x => show op1 A T x _ = op1 A T' x _; unfold op1; rw [h x (by simp)]
  case convert s d x => show op1 A T x _ = op1 A T' x _; unfold op1; rw [h x (by simp)]
  case makeInterface t x => show op1 A T x _ = op1 A T' x _; unfold op1; rw [h x (by simp)]
  case makeFunc fn first cap =>
    show opMakeFunc A T H fn first.toList cap.toList = opMakeFunc A T' H fn first.toList cap.toList
    unfold opMakeFunc
    rw [opds_congr (xs := first.toList) fun x hx => h x (by simp at hx; simp [hx]), opds_congr (xs := cap.toList) fun x hx => h x (by simp at hx; simp [hx])]
  case makeMap t r => cases r <;> rfl
  case makeSlice t l c => show op2 A T l c _ = op2 A T' l c _; unfold op2; rw [h l (by simp), h c (by simp)]
  case slice t x lo hi mx =>
    show opSlice A T H t x lo hi mx = opSlice A T' H t x lo hi mx
    unfold opSlice
    rw [h x (by simp), optOpd_congr fun y hy => h y (by simp [hy]), optOpd_congr (x := hi) fun y hy => h y (by simp [hy]), optOpd_congr (x := mx) fun y hy => h y (by simp [hy])]
  case fieldAddr t x f => show op1 A T x _ = op1 A T' x _; unfold op1; rw [h x (by simp)]
  case field t x f => show op1 A T x _ = op1 A T' x _; unfold op1; rw [h x (by simp)]
  case indexAddr t x i => show op2 A T x i _ = op2 A T' x i _; unfold op2; rw [h x (by simp), h i (by simp)]
  case index t x i => show op2 A T x i _ = op2 A T' x i _; unfold op2; rw [h x (by simp), h i (by simp)]
  case lookup t x k ok => show op2 A T x k _ = op2 A T' x k _; unfold op2; rw [h x (by simp), h k (by simp)]
  case mapUpdate t x k y => show op3 A T x k y _ = op3 A T' x k y _; unfold op3; rw [h x (by simp), h k (by simp), h y (by simp)]
  case range t x => show op1 A T x _ = op1 A T' x _; unfold op1; rw [h x (by simp)]
  case next it s => show op1 A T it _ = op1 A T' it _; unfold op1; rw [h it (by simp)]
  case entry it => show op1 A T it _ = op1 A T' it _; unfold op1; rw [h it (by simp)]
  case extract t i => show op1 A T t _ = op1 A T' t _; unfold op1; rw [h t (by simp)]
  case call c =>
    show opCall A call T H c = opCall A call T' H c
    unfold opCall
    rw [opds_congr (xs := c.args.toList) fun x hx => h x (by simp at hx; simp [Call.operands, hx])]
    split
    · unfold opCallee
      split
      · rfl
      · rename_i f hf
        have hf' := h f (by simp [Call.operands, hf])
        unfold callVal
        split
        · rename_i g
          split
          · rfl
          · rw [hf']
        · rw [hf']
      · rfl
    · rfl
  all_goals rfl
theorem allocOf_congr {T T' : TM} {o : Op} (h : ∀ x ∈ o.operands, opd A T x = opd A T' x) : allocOf A T o = allocOf A T' o := by
  cases o <;> simp only [Op.operands] at h <;> try rfl
  case makeMap t r => cases r <;> rfl
  case box e x => show allocBox A T x = allocBox A T' x; unfold allocBox; rw [h x (by simp)]
  case buildSlice t n ps => show allocSlice A T t n ps.toList = allocSlice A T' t n ps.toList; unfold allocSlice; rw [partsOf_congr fun x hx => h x.2 (by simpa using ⟨x.1, by simpa using hx⟩)]

/- pure ones -/
theorem op1_pure {T : TM} {x : Operand} {f : AV → Option AV} {v : AV} (h : op1 A T x (fun x => pureRes H (f x)) = some (v, H')) :
    H' = H ∧ ∀ H2, op1 A T x (fun x => pureRes H2 (f x)) = some (v, H2) := by
  unfold op1 at *
  split at h
  · obtain ⟨h1, rfl⟩ := pureRes_some h
    exact ⟨rfl, fun H2 => by simp only [h1]; rfl⟩
  · cases h
theorem op2_pure {T : TM} {x y : Operand} {f : AV → AV → Option AV} {v : AV} (h : op2 A T x y (fun x y => pureRes H (f x y)) = some (v, H')) :
    H' = H ∧ ∀ H2, op2 A T x y (fun x y => pureRes H2 (f x y)) = some (v, H2) := by
  unfold op2 at *
  split at h
  · split at h
    · obtain ⟨h1, rfl⟩ := pureRes_some h
      exact ⟨rfl, fun H2 => by simp only [h1]; rfl⟩
    · cases h
  · cases h
theorem pure_any {call : CallT} {T : TM} {o : Op} {v : AV} (hk : kindOf A o = .pure) (h : opEval A call T H o = some (v, H')) : H' = H ∧ ∀ H2, opEval A call T H2 o = some (v, H2) := by
  cases o <;> simp only [kindOf, reduceCtorEq] at hk
  case move x =>
    have h : pureRes H (opd A T x) = some (v, H') := h
    obtain ⟨h1, rfl⟩ := pureRes_some h
    exact ⟨rfl, fun H2 => by show pureRes H2 (opd A T x) = _; rw [h1]; rfl⟩
  case assign x =>
    have h : pureRes H (opd A T x) = some (v, H') := h
    obtain ⟨h1, rfl⟩ := pureRes_some h
    exact ⟨rfl, fun H2 => by show pureRes H2 (opd A T x) = _; rw [h1]; rfl⟩
  case pick c a b =>
    have h : opPick A T H c a b = some (v, H') := h
    show H' = H ∧ ∀ H2, opPick A T H2 c a b = some (v, H2)
    unfold opPick at *
    split at h
    · split at h
      · split at h
        · cases h; exact ⟨rfl, fun H2 => rfl⟩
        · cases h
      · cases h
    · cases h
  case convert s d x =>
    have h : op1 A T x (convert A H s d) = some (v, H') := h
    show H' = H ∧ ∀ H2, op1 A T x (convert A H2 s d) = some (v, H2)
    cases h1 : plainT A s with
    | false => rw [h1] at hk; cases hk
    | true =>
      cases h2 : plainT A d with
      | false => rw [h1, h2] at hk; cases hk
      | true =>
        unfold plainT at h1 h2
        split at h1
        · rename_i k1 e1
          split at h2
          · rename_i k2 e2
            unfold op1 at *
            split at h
            · unfold convert at *
              simp only [e1, e2] at *
              split at h
              · cases h; exact ⟨rfl, fun _ => rfl⟩
              · cases h
            · cases h
          · cases h2
        · cases h1
  case build t ps =>
    have h : opBuild A T H t ps.toList = some (v, H') := h
    show H' = H ∧ ∀ H2, opBuild A T H2 t ps.toList = some (v, H2)
    unfold opBuild at *
    split at h
    · obtain ⟨h1, rfl⟩ := pureRes_some h
      exact ⟨rfl, fun H2 => by simp only [h1]; rfl⟩
    · cases h
  case nilCheck x =>
    have h : op1 A T x (nilChk H) = some (v, H') := h
    show H' = H ∧ ∀ H2, op1 A T x (nilChk H2) = some (v, H2)
    unfold op1 at *
    split at h
    · unfold nilChk at *
      split at h
      · cases h; exact ⟨rfl, fun _ => rfl⟩
      · cases h; exact ⟨rfl, fun _ => rfl⟩
      · cases h
    · cases h
  case binOp op t x y c =>
    have h : op2 A T x y (fun a b => cond (eqGuardOK A t x y a b op) (pureRes H (binOp A t op a b)) none) = some (v, H') := h
    show H' = H ∧ ∀ H2, op2 A T x y (fun a b => cond (eqGuardOK A t x y a b op) (pureRes H2 (binOp A t op a b)) none) = some (v, H2)
    obtain ⟨xv, yv, h1, h2, h3⟩ := op2_some h
    cases hg : eqGuardOK A t x y xv yv op with
    | false => rw [hg] at h3; cases h3
    | true =>
      rw [hg] at h3
      obtain ⟨h4, rfl⟩ := pureRes_some h3
      exact ⟨rfl, fun H2 => by unfold op2; simp only [h1, h2, hg, h4]; rfl⟩
  case unOp op t x => exact op1_pure h
  case makeInterface t x => exact op1_pure h
  case makeFunc fn first cap =>
    have h : opMakeFunc A T H fn first.toList cap.toList = some (v, H') := h
    show H' = H ∧ ∀ H2, opMakeFunc A T H2 fn first.toList cap.toList = some (v, H2)
    unfold opMakeFunc at *
    split at h
    · split at h
      · split at h
        · cases h; exact ⟨rfl, fun H2 => rfl⟩
        · cases h
      · cases h
    · cases h
  case fieldAddr t x f => exact op1_pure h
  case field t x f => exact op1_pure h
  case indexAddr t x i => exact op2_pure h
  case index t x i => exact op2_pure h
  case extract t i =>
    have h : op1 A T t (opExtract H i) = some (v, H') := h
    show H' = H ∧ ∀ H2, op1 A T t (opExtract H2 i) = some (v, H2)
    unfold op1 at *
    split at h
    · unfold opExtract at *
      split at h
      · obtain ⟨h1, rfl⟩ := pureRes_some h
        exact ⟨rfl, fun H2 => by simp only [h1]; rfl⟩
      · cases h
    · cases h
  case call c =>
    have h : opCall A call T H c = some (v, H') := h
    show H' = H ∧ ∀ H2, opCall A call T H2 c = some (v, H2)
    unfold opCall at *
    split at h
    · unfold opCallee at *
      cases hc : c.callee with
      | value f =>
        rw [hc] at hk h
        simp only at h
        unfold callVal at *
        cases f with
        | func g =>
          simp only [kindC, kindV] at hk
          cases hg : A.pf.get g with
          | none => rw [hg] at hk; cases hk
          | some p =>
            simp only [hg] at h ⊢
            obtain ⟨h1, rfl⟩ := pureRes_some h
            exact ⟨rfl, fun H2 => by simp only [h1]; rfl⟩
        | tmp t => cases hk
        | const v => cases hk
        | global g => cases hk
      | invoke r n => rw [hc] at hk; cases hk
      | builtin b =>
        rw [hc] at hk h
        simp only at h
        cases b <;> simp only [kindC, kindB, reduceCtorEq] at hk <;> simp only [builtin] at h ⊢
        · unfold bMax at *
          split at h
          · obtain ⟨h1, rfl⟩ := pureRes_some h
            exact ⟨rfl, fun H2 => by simp only [h1]; rfl⟩
          · cases h
        · unfold bMin at *
          split at h
          · obtain ⟨h1, rfl⟩ := pureRes_some h
            exact ⟨rfl, fun H2 => by simp only [h1]; rfl⟩
          · cases h
    · cases h
theorem read_same {call : CallT} {T : TM} {o : Op} {v : AV} (hk : kindOf A o = .read) (h : opEval A call T H o = some (v, H')) : H' = H := by
  cases o <;> simp only [kindOf, reduceCtorEq] at hk
  case convert s d x =>
    cases h1 : plainT A s <;> cases h2 : plainT A d <;> rw [h1] at hk <;> first | (rw [h2] at hk; cases hk) | cases hk
  case load t x =>
    have h : op1 A T x (fun a => pureRes H (load A H t a)) = some (v, H') := h
    obtain ⟨_, _, h2⟩ := op1_some h
    exact (pureRes_some h2).2
  case slice t x lo hi mx =>
    have h : opSlice A T H t x lo hi mx = some (v, H') := h
    unfold opSlice at h
    split at h
    · split at h
      · split at h
        · split at h
          · exact (pureRes_some h).2
          · cases h
        · cases h
      · cases h
    · cases h
  case lookup t x k ok =>
    have h : op2 A T x k (fun x k => pureRes H (lookup A H t x k ok)) = some (v, H') := h
    obtain ⟨_, _, _, _, h2⟩ := op2_some h
    exact (pureRes_some h2).2
  case call c =>
    have h : opCall A call T H c = some (v, H') := h
    unfold opCall at h
    split at h
    · unfold opCallee at h
      cases hc : c.callee with
      | value f =>
        rw [hc] at hk
        cases f with
        | func g =>
          simp only [kindC, kindV] at hk
          cases hg : A.pf.get g with
          | none => rw [hg] at hk; cases hk
          | some p => rw [hg] at hk; cases hk
        | tmp t => cases hk
        | const v => cases hk
        | global g => cases hk
      | invoke r n => rw [hc] at hk; cases hk
      | builtin b =>
        rw [hc] at hk h
        simp only at h
        cases b <;> simp only [kindC, kindB, reduceCtorEq] at hk
        · simp only [builtin] at h
          unfold bCap at h
          split at h
          · exact (pureRes_some h).2
          · cases h
        · simp only [builtin] at h
          unfold bLen at h
          split at h
          · exact (pureRes_some h).2
          · cases h
    · cases h
theorem natsEq_eq : ∀ (x y : List Nat), natsEq x y = true → x = y
  | [], [], _ => rfl
  | [], _ :: _, h => by simp [natsEq] at h
  | _ :: _, [], h => by simp [natsEq] at h
  | a :: x, b :: y, h => by
    unfold natsEq at h
    cases hb : Nat.beq a b with
    | false => rw [hb] at h; cases h
    | true => rw [hb] at h; rw [beq_iff] at hb; rw [hb, natsEq_eq x y h]
mutual
theorem avEq_eq : ∀ (a b : AV), avEq a b = true → a = b
  | .bool x, b, h => by cases b <;> simp [avEq] at h ⊢; exact h
  | .int k x, b, h => by cases b <;> simp [avEq] at h ⊢; exact h
  | .str x, b, h => by cases b <;> simp [avEq] at h ⊢; exact natsEq_eq _ _ h
  | .nilp, b, h => by cases b <;> simp [avEq] at h ⊢
  | .ptr x o, b, h => by cases b <;> simp [avEq] at h ⊢; exact h
  | .nils, b, h => by cases b <;> simp [avEq] at h ⊢
  | .sl x o n c, b, h => by cases b <;> simp [avEq] at h ⊢; exact ⟨h.1.1.1, h.1.1.2, h.1.2, h.2⟩
  | .map r, b, h => by cases b <;> simp [avEq] at h ⊢; exact h
  | .fn f x y, b, h => by
    cases b <;> simp only [avEq, Bool.and_eq_true, Bool.false_eq_true] at h
    rw [beq_iff.1 h.1.1, avsEq_eq _ _ h.1.2, avsEq_eq _ _ h.2]
  | .nilf, b, h => by cases b <;> simp [avEq] at h ⊢
  | .iface t v, b, h => by
    cases b <;> simp only [avEq, Bool.and_eq_true, Bool.false_eq_true] at h
    rw [beq_iff.1 h.1, avEq_eq _ _ h.2]
  | .nili, b, h => by cases b <;> simp [avEq] at h ⊢
  | .agg x, b, h => by
    cases b <;> simp only [avEq, Bool.false_eq_true] at h
    rw [avsEq_eq _ _ h]
  | .tup x, b, h => by
    cases b <;> simp only [avEq, Bool.false_eq_true] at h
    rw [avsEq_eq _ _ h]
  | .opq i, b, h => by cases b <;> simp [avEq] at h ⊢; exact h
  | .unk, b, h => by simp [avEq] at h
  | .ge n, b, h => by cases b <;> simp [avEq] at h ⊢; exact h
theorem avsEq_eq : ∀ (a b : List AV), avsEq a b = true → a = b
  | [], b, h => by cases b <;> simp [avsEq] at h ⊢
  | x :: xs, b, h => by
    cases b with
    | nil => simp [avsEq] at h
    | cons y ys =>
      simp only [avsEq, Bool.and_eq_true] at h
      rw [avEq_eq _ _ h.1, avsEq_eq _ _ h.2]
end
end Go.AM
