/- Lemmas on the evaluator over abstract memory: what it does is what the model does. Conditions: those of each statement. -/
import Derived.Test.YtcbiknklbhiloaaGreatAmMem
import Derived.Laws.StructEq
import Derived.Laws.BytesString
import Derived.Laws.BitsAllLaws
namespace Go.AM
open Go
variable {A : AP} {P : Program} {ng : Nat} {m : Env} {H H' : AH} {w : World}

structure TRel (m : Env) (T : TM) (tmps : Array Value) : Prop where
  size : tmps.size = T.n
  rel : ∀ t v, T.get t = some v → VRel m v (tmps.getD t undef)

theorem opd_rel (hI : Inv A.ng m H w) {T : TM} {a : Act} (hT : TRel m T a.tmps) {x : Operand} {v : AV} (h : opd A T x = some v) : VRel m v (a.eval x) := by
  cases x with
  | tmp t => exact hT.rel t v h
  | const u => exact ofVal_rel m u v h
  | global g =>
    simp only [opd] at h
    cases hg : Nat.blt g A.ng with
    | false => rw [hg] at h; cases h
    | true =>
      rw [hg] at h; cases h
      simp only [VRel]
      exact ⟨g, 0, hI.glob g (blt_iff.1 hg), by simp [Act.eval]⟩
  | func f => simp only [opd] at h; cases h; simp only [VRel]; exact ⟨[], [], rfl, VsRel.nil, VsRel.nil⟩
theorem opds_rel (hI : Inv A.ng m H w) {T : TM} {a : Act} (hT : TRel m T a.tmps) : ∀ {xs : List Operand} {vs : List AV}, opds A T xs = some vs → VsRel m vs (xs.map a.eval)
  | [], vs, h => by simp only [opds] at h; cases h; exact VsRel.nil
  | x :: xs, vs, h => by
    unfold opds at h
    cases h1 : opd A T x with
    | none => rw [h1] at h; cases h
    | some u =>
      rw [h1] at h
      cases h2 : opds A T xs with
      | none => rw [h2] at h; cases h
      | some us => rw [h2] at h; cases h; exact VsRel.cons (opd_rel hI hT h1) (opds_rel hI hT h2)

/- LOAD, STORE -/
theorem load_rel (hA : APok A P) (hI : Inv ng m H w) {t : Nat} {x v : AV} {x' : Value} (hx : VRel m x x') (h : load A H t x = some v) :
    ∃ v', (Instr.loadAt t x').run P w = .ok v' w ∧ VRel m v v' := by
  unfold load at h
  split at h
  · rename_i b o
    simp only [VRel] at hx
    obtain ⟨ab, ao, hb, rfl⟩ := hx
    cases hd : A.desc t with
    | none => rw [hd] at h; cases h
    | some d =>
      rw [hd] at h
      simp only at h
      cases hag : isAggD d with
      | true =>
        rw [hag] at h
        simp only at h
        cases hs : A.size t with
        | none => rw [hs] at h; cases h
        | some n =>
          rw [hs] at h
          simp only [loadAgg] at h
          cases hl : H.loadN b o n with
          | none => rw [hl] at h; cases h
          | some l =>
            rw [hl] at h; cases h
            obtain ⟨vs, hv, _, hrun⟩ := loadN_rel (P := P) hI hb hl
            refine ⟨.agg vs.toArray, ?_, ?_⟩
            · simp only [Instr.loadAt, Instr.sureAddr, loadVar, Sem.run_bind, Sem.run_pure, Result.andThen_ok, run_isAgg hA hd, hag, if_true, run_sizeOf hA hs, hrun]
            · simp only [VRel]; exact ⟨vs, rfl, hv⟩
      | false =>
        rw [hag] at h
        simp only at h
        obtain ⟨v', hv, hrun⟩ := load1_rel (P := P) hI hb h
        refine ⟨v', ?_, hv⟩
        simp only [Instr.loadAt, Instr.sureAddr, loadVar, Sem.run_bind, Sem.run_pure, Result.andThen_ok, run_isAgg hA hd, hag, Bool.false_eq_true, if_false, hrun]
  · cases h
theorem store_rel (hA : APok A P) (hI : Inv ng m H w) {t : Nat} {x v : AV} {x' v' : Value} (hx : VRel m x x') (hv : VRel m v v') (h : store A H t x v = some H') :
    ∃ w', (Instr.storeAt t x' v').run P w = .ok () w' ∧ Inv ng m H' w' ∧ Stp m H w m H' w' := by
  unfold store at h
  split at h
  · rename_i b o
    simp only [VRel] at hx
    obtain ⟨ab, ao, hb, rfl⟩ := hx
    cases hs : A.size t with
    | none => rw [hs] at h; cases h
    | some n =>
      rw [hs] at h
      simp only at h
      cases hl : Nat.beq v.cells.length n with
      | false => rw [hl] at h; cases h
      | true =>
        rw [hl] at h
        simp only [cond_true] at h
        have hc := hv.cells
        obtain ⟨w', hrun, hI', hS⟩ := storeN_rel (P := P) hI hb h hc
        refine ⟨w', ?_, hI', hS⟩
        have hn : v'.cells.size = n := by
          have := hc.length
          rw [beq_iff.1 hl] at this
          simpa using this.symm
        simp only [Instr.storeAt, Instr.sureAddr, storeVar, Sem.run_bind, Sem.run_pure, Result.andThen_ok, run_sizeOf hA hs, hn, ne_eq, not_true_eq_false, if_false]
        exact hrun
  · cases h

/- INTEGERS -/
theorem iLt_eq (x y : Int) : iLt x y = decide (x < y) := by
  cases x <;> cases y <;> simp only [iLt] <;> rename_i a b
  · by_cases h : a < b
    · rw [blt_iff.2 h]; symm; simp; omega
    · rw [blt_false.2 (by omega)]; symm; simp; omega
  · symm; simp; omega
  · symm; simp; omega
  · by_cases h : b < a
    · rw [blt_iff.2 h]; symm; simp; omega
    · rw [blt_false.2 (by omega)]; symm; simp; omega
theorem iEq_eq (x y : Int) : iEq x y = decide (x = y) := by
  cases x <;> cases y <;> simp only [iEq] <;> rename_i a b
  · by_cases h : a = b
    · rw [beq_iff.2 h]; symm; simp; omega
    · rw [beq_false.2 h]; symm; simp; omega
  · symm; simp
  · symm; simp
  · by_cases h : a = b
    · rw [beq_iff.2 h]; symm; simp; omega
    · rw [beq_false.2 h]; symm; simp; omega
theorem wrap_small (k : IntKind) (n : Int) (h : if k.signed then -(kHalf k : Int) ≤ n ∧ n < (kHalf k : Int) else 0 ≤ n ∧ n < (kHalf k : Int)) : k.wrap n = n := by
  unfold IntKind.wrap
  cases k <;> simp only [IntKind.signed, kHalf, if_true, Bool.false_eq_true, if_false] at h <;>
    simp only [IntKind.bits, IntKind.signed, Bool.true_and, Bool.false_and, Bool.false_eq_true, if_false, decide_eq_true_eq, ge_iff_le] <;>
    (try split) <;> omega
theorem wrapF_eq (k : IntKind) (n : Int) : wrapF k n = k.wrap n := by
  cases n with
  | ofNat a =>
    simp only [wrapF]
    cases hb : Nat.blt a (kHalf k) with
    | false => rfl
    | true =>
      have h1 := blt_iff.1 hb
      simp only [cond_true]
      refine (wrap_small k _ ?_).symm
      have h2 : (Int.ofNat a) = (a : Int) := rfl
      rw [h2]
      split <;> omega
  | negSucc a =>
    simp only [wrapF]
    cases hs : k.signed with
    | false => rfl
    | true =>
      simp only [cond_true]
      cases hb : Nat.blt a (kHalf k) with
      | false => rfl
      | true =>
        have h1 := blt_iff.1 hb
        simp only [cond_true]
        refine (wrap_small k _ ?_).symm
        rw [if_pos hs]
        omega
theorem kFull_eq (k : IntKind) : kFull k = 2 ^ k.bits := by cases k <;> rfl
theorem bitsOf_eq (k : IntKind) (x : Int) : bitsOf k x = (BitVec.ofInt k.bits x).toNat := by
  rw [BitVec.toNat_ofInt]
  cases x with
  | ofNat a =>
    simp only [bitsOf, kFull_eq]
    show a % 2 ^ k.bits = _
    have : (Int.ofNat a) % ((2 ^ k.bits : Nat) : Int) = ((a % 2 ^ k.bits : Nat) : Int) := by simp
    show a % 2 ^ k.bits = ((Int.ofNat a) % ((2 ^ k.bits : Nat) : Int)).toNat
    rw [this]; exact (Int.toNat_natCast _).symm
  | negSucc a =>
    simp only [bitsOf, kFull_eq]
    have h2 : 0 < 2 ^ k.bits := Nat.two_pow_pos _
    show 2 ^ k.bits - 1 - a % 2 ^ k.bits = _
    have h3 : a % 2 ^ k.bits < 2 ^ k.bits := Nat.mod_lt _ h2
    have : (Int.negSucc a) % ((2 ^ k.bits : Nat) : Int) = ((2 ^ k.bits - 1 - a % 2 ^ k.bits : Nat) : Int) := by
      rw [Int.negSucc_emod _ (by omega)]
      omega
    rw [this]
    simp
end Go.AM
