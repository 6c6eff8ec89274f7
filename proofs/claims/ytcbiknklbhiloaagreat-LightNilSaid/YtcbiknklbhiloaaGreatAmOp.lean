/- Lemmas on the evaluator over abstract memory: what it does is what the model does. Conditions: those of each statement. -/
import Derived.Test.YtcbiknklbhiloaaGreatAmIter
namespace Go.AM
open Go
variable {A : AP} {P : Program} {ng : Nat} {m : Env} {H H' : AH} {w w' : World}

def AEnd (ng : Nat) (m : Env) (H : AH) (w : World) (v : AV) (H' : AH) : Ending → World → Prop
  | .returned r, w' => ∃ m', Inv ng m' H' w' ∧ Stp m H w m' H' w' ∧ VRel m' v r
  | _, _ => False
/-- what an operation comes to -/
def OpRes (P : Program) (ng : Nat) (m : Env) (H : AH) (w : World) (s : Sem Next) (v : AV) (H' : AH) : Prop :=
  (∃ v' w' m', (s.run P w = .ok (.value v') w' ∨ (s.run P w = .ok .skip w' ∧ v' = undef)) ∧ Inv ng m' H' w' ∧ Stp m H w m' H' w' ∧ VRel m' v v') ∨
  (∃ f args, s.run P w = .ok (.enter f args) w ∧ Calls P f args w (AEnd ng m H w v H'))
def CallOK (A : AP) (P : Program) (call : CallT) : Prop :=
  ∀ f args H v H', call f args H = some (v, H') → ∀ m w args', Inv A.ng m H w → VsRel m args args' → OpRes P A.ng m H w (callFunc f args'.toArray) v H'

open Go.RowKit in
/-- what leaves all old memory leaves what is known -/
theorem below_keep (hI : Inv ng m H w) (hB : Below w.heap.size w w') : Inv ng m H w' ∧ Stp m H w m H w' := by
  refine ⟨⟨fun b ob hb ab ao hm => (hI.live b ob hb ab ao hm).mono (Env.Le.refl m) (hB.block ab (hI.bound b ab ao hm)), hI.dom, hI.fresh, fun b ab ao hm => Nat.lt_of_lt_of_le (hI.bound b ab ao hm) hB.size, hI.sep, hI.glob, hI.ngle⟩, ?_⟩
  exact ⟨Nat.le_refl _, fun _ _ => ⟨rfl, rfl⟩, rfl, hB.os, hB.tape, hB.output, hB.size, fun ab hab _ => hB.block ab hab, fun b hb ab ao hm => (by rw [hI.fresh b hb] at hm; cases hm), fun _ _ _ => rfl, fun _ _ h => h, fun _ _ o h hw => ⟨o, h, hw⟩⟩
theorem eff_op {s : Sem Value} {v : AV} (h : Eff P ng m H w s v H') : OpRes P ng m H w (do pure (.value (← s))) v H' := by
  obtain ⟨v', w', m', hr, hI, hS, hv⟩ := h
  exact .inl ⟨v', w', m', .inl (by simp only [Sem.run_bind, hr, Result.andThen_ok, Sem.run_pure]), hI, hS, hv⟩
theorem pure_eff (hI : Inv ng m H w) {s : Sem Value} {v : AV} (h : ∃ v', s.run P w = .ok v' w ∧ VRel m v v') : Eff P ng m H w s v H := by
  obtain ⟨v', hr, hv⟩ := h
  exact ⟨v', w, m, hr, hI, Stp.refl hI, hv⟩
theorem undef_rel : VRel m (.tup []) undef := by simp only [VRel]; exact ⟨[], rfl, VsRel.nil⟩
theorem unit_op {s : Sem Unit} (h : ∃ w', s.run P w = .ok () w' ∧ Inv ng m H' w' ∧ Stp m H w m H' w') : OpRes P ng m H w (do s; pure .skip) (.tup []) H' := by
  obtain ⟨w', hr, hI, hS⟩ := h
  exact .inl ⟨undef, w', m, .inr ⟨by simp only [Sem.run_bind, hr, Result.andThen_ok, Sem.run_pure], rfl⟩, hI, hS, undef_rel⟩
theorem pureRes_some {o : Option AV} {v : AV} (h : pureRes H o = some (v, H')) : o = some v ∧ H' = H := by
  cases o with
  | none => cases h
  | some x => cases h; exact ⟨rfl, rfl⟩
theorem unitRes_some {o : Option AH} {v : AV} (h : unitRes o = some (v, H')) : o = some H' ∧ v = .tup [] := by
  cases o with
  | none => cases h
  | some x => cases h; exact ⟨rfl, rfl⟩
theorem op1_some {T : TM} {x : Operand} {f : AV → Res} {r : AV × AH} (h : op1 A T x f = some r) : ∃ v, opd A T x = some v ∧ f v = some r := by
  unfold op1 at h
  split at h
  · rename_i v hv; exact ⟨v, hv, h⟩
  · cases h
theorem op2_some {T : TM} {x y : Operand} {f : AV → AV → Res} {r : AV × AH} (h : op2 A T x y f = some r) : ∃ v u, opd A T x = some v ∧ opd A T y = some u ∧ f v u = some r := by
  unfold op2 at h
  split at h
  · rename_i v hv
    split at h
    · rename_i u hu; exact ⟨v, u, hv, hu, h⟩
    · cases h
  · cases h
theorem op3_some {T : TM} {x y z : Operand} {f : AV → AV → AV → Res} {r : AV × AH} (h : op3 A T x y z f = some r) : ∃ v u s, opd A T x = some v ∧ opd A T y = some u ∧ opd A T z = some s ∧ f v u s = some r := by
  unfold op3 at h
  split at h
  · rename_i v hv
    split at h
    · rename_i u hu
      split at h
      · rename_i s hs; exact ⟨v, u, s, hv, hu, hs, h⟩
      · cases h
    · cases h
  · cases h
theorem optOpd_rel (hI : Inv A.ng m H w) {T : TM} {a : Act} (hT : TRel m T a.tmps) {x : Option Operand} {r : Option AV} (h : optOpd A T x = some r) : OptRel m r (x.map a.eval) := by
  cases x with
  | none => simp only [optOpd] at h; cases h; rfl
  | some x =>
    simp only [optOpd] at h
    split at h
    · rename_i v hv; cases h; exact ⟨_, rfl, opd_rel hI hT hv⟩
    · cases h

/- == -/
theorem guard_else {op : BinOp} {t : TypeId} {x y : Operand} {a b : Value} (h1 : a ≠ .nilIface ∨ b ≠ .nilIface) (h2 : ∀ u, a ≠ .agg u) : (Go.eqGuard op t x y a b).run P w = .ok () w := by
  cases op <;> first
    | rfl
    | (cases a <;> first
        | rfl
        | exact absurd rfl (h2 _)
        | (cases b <;> first | rfl | simp at h1))
theorem guard_nil {op : BinOp} {t : TypeId} {x y : Operand} (h : isC x = true ∨ isC y = true) : (Go.eqGuard op t x y .nilIface .nilIface).run P w = .ok () w := by
  cases op <;> first
    | rfl
    | (cases x <;> first
        | rfl
        | (cases y <;> first | rfl | simp [isC] at h))
theorem guard_agg {op : BinOp} {t : TypeId} {x y : Operand} {u : Array Value} {b : Value} (hm : P.eqGuardType P.depth t = false) : (Go.eqGuard op t x y (.agg u) b).run P w = .ok () w := by
  cases b with
  | agg v => exact run_eqGuard_agg w op t x y u v hm
  | _ => cases op <;> rfl
theorem guard_go (hA : APok A P) {t : Nat} {x y : Operand} {a b : AV} {a' b' : Value} {op : BinOp} (ha : VRel m a a') (hb : VRel m b b') (h : eqGuardOK.go A t x y a b = true) :
    (Go.eqGuard op t x y a' b').run P w = .ok () w := by
  cases a
  case nili =>
    simp only [VRel] at ha; subst ha
    cases b
    case nili =>
      simp only [VRel] at hb; subst hb
      refine guard_nil ?_
      simp only [eqGuardOK.go] at h
      split at h
      · rename_i h1; exact .inl h1
      · exact .inr h
    case opq => simp [eqGuardOK.go] at h
    case unk => simp [eqGuardOK.go] at h
    case map r => cases r <;> exact guard_else (.inr (by rintro rfl; simp [VRel] at hb)) (by intro u hu; cases hu)
    all_goals exact guard_else (.inr (by rintro rfl; simp [VRel] at hb)) (by intro u hu; cases hu)
  case agg cs =>
    simp only [VRel] at ha
    obtain ⟨vs, rfl, _⟩ := ha
    exact guard_agg (noIface_spec hA 8 t h _ hA.depth)
  case opq => simp [eqGuardOK.go] at h
  case unk => simp [eqGuardOK.go] at h
  case map r => cases r <;> exact guard_else (.inl (by rintro rfl; simp [VRel] at ha)) (by rintro u rfl; simp [VRel] at ha)
  all_goals exact guard_else (.inl (by rintro rfl; simp [VRel] at ha)) (by rintro u rfl; simp [VRel] at ha)
theorem guard_rel (hA : APok A P) {t : Nat} {x y : Operand} {a b : AV} {a' b' : Value} {op : BinOp} (ha : VRel m a a') (hb : VRel m b b') (h : eqGuardOK A t x y a b op = true) :
    (Go.eqGuard op t x y a' b').run P w = .ok () w := by
  cases op
  case eql => exact guard_go hA ha hb h
  case neq => exact guard_go hA ha hb h
  all_goals rfl
theorem eqBin_rel (hA : APok A P) {t : Nat} {a b v : AV} {a' b' : Value} {op : BinOp} (ha : VRel m a a') (hb : VRel m b b') (h : eqBin A t a b op = some v)
    (hn : ∀ k n, a' ≠ .int k n) (hs : ∀ s, a' ≠ .string s) (hf : ∀ k n, a' ≠ .float k n) (hc : ∀ k n u, a' ≠ .complex k n u) : ∃ v', (Go.binOp op t a' b').run P w = .ok v' w ∧ VRel m v v' := by
  have heq : ∀ {c : Bool}, valEq A 8 t a b = some c → (Op.equal t a' b').run P w = .ok c w := fun hv => valEq_rel hA 8 t a b a' b' _ ha hb hv 10000 (by omega)
  cases op <;> simp only [eqBin] at h <;> try (cases h; done)
  · cases hv : valEq A 8 t a b with
    | none => rw [hv] at h; cases h
    | some c =>
      rw [hv] at h; cases h
      refine ⟨.bool c, ?_, VRel.bool'⟩
      have : Go.binOp .eql t a' b' = (do pure (.bool (← Op.equal t a' b'))) := by
        unfold Go.binOp
        split <;> simp_all
      rw [this]
      simp only [Sem.run_bind, heq hv, Result.andThen_ok, Sem.run_pure]
  · cases hv : valEq A 8 t a b with
    | none => rw [hv] at h; cases h
    | some c =>
      rw [hv] at h; cases h
      refine ⟨.bool !c, ?_, VRel.bool'⟩
      have : Go.binOp .neq t a' b' = (do pure (.bool (!(← Op.equal t a' b')))) := by
        unfold Go.binOp
        split <;> simp_all
      rw [this]
      simp only [Sem.run_bind, heq hv, Result.andThen_ok, Sem.run_pure]
theorem valEq_unfit {t : Nat} {a b : AV} {n : Nat} (ha : ∀ d, fits A d a = false) (hs : ∀ xs, a ≠ .agg xs) : valEq A n t a b = none := by
  cases n with
  | zero => rfl
  | succ n =>
    show valEqS A (valEq A n) t a b = none
    unfold valEqS
    split
    · split
      · exact absurd rfl (hs _)
      · rfl
    · rename_i d _ _
      rw [ha d]
    · rfl
theorem geBin_rel {op : BinOp} {t : TypeId} {k : IntKind} {a : Int} {n c : Nat} {v : AV} (hc : n ≤ c) (h : geBin k a n op = some v) :
    ∃ v', (Go.binOp op t (.int k a) (.int .i64 c)).run P w = .ok v' w ∧ VRel m v v' := by
  cases op <;> simp only [geBin] at h <;> try (cases h; done)
  split at h
  · split at h
    · rename_i x
      cases hb : Nat.ble x n with
      | false => rw [hb] at h; cases h
      | true =>
        rw [hb] at h; cases h
        rw [ble_iff] at hb
        refine ⟨.bool false, ?_, VRel.bool'⟩
        have : ¬ (Int.ofNat x > (c : Int)) := by have : Int.ofNat x = (x : Int) := rfl; omega
        simp only [Go.binOp, ne_eq, not_true_eq_false, if_false, Op.intCmp, this, decide_false]
        rfl
    · cases h
  · cases h
theorem binOp_rel (hA : APok A P) {t : Nat} {a b v : AV} {a' b' : Value} {op : BinOp} (ha : VRel m a a') (hb : VRel m b b') (h : binOp A t op a b = some v) : ∃ v', (Go.binOp op t a' b').run P w = .ok v' w ∧ VRel m v v' := by
  cases a
  case int k x =>
    simp only [VRel] at ha; subst ha
    simp only [binOp] at h
    split at h
    · simp only [VRel] at hb; subst hb
      exact intBin_rel h
    · rename_i n
      simp only [VRel] at hb
      obtain ⟨c, hc, rfl⟩ := hb
      exact geBin_rel hc h
    · cases h
  case str s =>
    simp only [VRel] at ha; subst ha
    simp only [binOp] at h
    split at h
    · simp only [VRel] at hb; subst hb
      obtain ⟨v', h1, h2⟩ := strOp_rel (P := P) (w := w) (m := m) h
      refine ⟨v', ?_, h2⟩
      rw [← h1]; cases op <;> rfl
    · cases h
  case opq i =>
    simp only [binOp] at h
    cases op <;> simp only [eqBin] at h <;> try (cases h; done)
    all_goals (rw [valEq_unfit (fun d => by cases d <;> rfl) (fun _ e => by cases e)] at h; cases h)
  case unk =>
    simp only [binOp] at h
    cases op <;> simp only [eqBin] at h <;> try (cases h; done)
    all_goals (rw [valEq_unfit (fun d => by cases d <;> rfl) (fun _ e => by cases e)] at h; cases h)
  case ge =>
    simp only [binOp] at h
    cases op <;> simp only [eqBin] at h <;> try (cases h; done)
    all_goals (rw [valEq_unfit (fun d => by cases d <;> rfl) (fun _ e => by cases e)] at h; cases h)
  case map r => cases r <;> exact eqBin_rel hA ha hb h (by rintro k n rfl; simp [VRel] at ha) (by rintro k rfl; simp [VRel] at ha) (by rintro k n rfl; simp [VRel] at ha) (by rintro k n u rfl; simp [VRel] at ha)
  all_goals exact eqBin_rel hA ha hb h (by rintro k n rfl; simp [VRel] at ha) (by rintro k rfl; simp [VRel] at ha) (by rintro k n rfl; simp [VRel] at ha) (by rintro k n u rfl; simp [VRel] at ha)
end Go.AM
