/- Lemmas on the evaluator over abstract memory: what it does is what the model does. Conditions: those of each statement. -/
import Derived.Test.YtcbiknklbhiloaaGreatAmOps
namespace Go.AM
open Go
variable {A : AP} {P : Program} {ng : Nat} {m : Env} {H H' : AH} {w : World}

/- STRINGS -/
theorem bstr_toList (s : List Nat) : (bstr s).toList = s.map UInt8.ofNat := by rw [ByteArray.toList_eq]; rfl
theorem bstr_size (s : List Nat) : (bstr s).size = s.length := by
  show (s.map UInt8.ofNat).toArray.size = _
  simp
theorem allB_mem : ∀ (l : List Nat), allB l = true → ∀ x ∈ l, x < 256
  | [], _, x, hx => by cases hx
  | v :: vs, h, x, hx => by
    unfold allB at h
    cases h1 : Nat.blt v 256 with
    | false => rw [h1] at h; cases h
    | true =>
      rw [h1] at h
      rcases List.mem_cons.1 hx with e | e
      · rw [e]; exact blt_iff.1 h1
      · exact allB_mem vs h x e
theorem allB_cons {v : Nat} {vs : List Nat} (h : allB (v :: vs) = true) : v < 256 ∧ allB vs = true := by
  unfold allB at h
  cases h1 : Nat.blt v 256 with
  | false => rw [h1] at h; cases h
  | true => rw [h1] at h; exact ⟨blt_iff.1 h1, h⟩
theorem ofNat_eq_iff {a b : Nat} (ha : a < 256) (hb : b < 256) : UInt8.ofNat a = UInt8.ofNat b ↔ a = b := by
  constructor
  · intro h
    have := congrArg UInt8.toNat h
    simp only [UInt8.toNat_ofNat'] at this
    omega
  · intro h; rw [h]
theorem ofNat_lt_iff {a b : Nat} (ha : a < 256) (hb : b < 256) : UInt8.ofNat a < UInt8.ofNat b ↔ a < b := by
  rw [UInt8.lt_iff_toNat_lt]
  simp only [UInt8.toNat_ofNat']
  omega
theorem natsEq_spec : ∀ (x y : List Nat), allB x = true → allB y = true → natsEq x y = (x.map UInt8.ofNat == y.map UInt8.ofNat)
  | [], [], _, _ => rfl
  | [], _ :: _, _, _ => rfl
  | _ :: _, [], _, _ => rfl
  | a :: x, b :: y, hx, hy => by
    obtain ⟨ha, hx'⟩ := allB_cons hx
    obtain ⟨hb, hy'⟩ := allB_cons hy
    simp only [natsEq, List.map_cons, List.cons_beq_cons]
    rw [← natsEq_spec x y hx' hy']
    by_cases e : a = b
    · subst e; rw [Nat.beq_refl]; simp
    · rw [beq_false.2 e]
      have : (UInt8.ofNat a == UInt8.ofNat b) = false := by simpa using fun h => e ((ofNat_eq_iff ha hb).1 h)
      rw [this]; rfl
theorem natsLt_spec : ∀ (x y : List Nat), allB x = true → allB y = true → natsLt x y = Op.bytesLess (x.map UInt8.ofNat) (y.map UInt8.ofNat)
  | [], [], _, _ => rfl
  | _ :: _, [], _, _ => rfl
  | [], _ :: _, _, _ => rfl
  | a :: x, b :: y, hx, hy => by
    obtain ⟨ha, hx'⟩ := allB_cons hx
    obtain ⟨hb, hy'⟩ := allB_cons hy
    simp only [natsLt, List.map_cons, Op.bytesLess]
    rw [← natsLt_spec x y hx' hy']
    by_cases h : a < b
    · rw [blt_iff.2 h]
      have : decide (UInt8.ofNat a < UInt8.ofNat b) = true := by simpa using (ofNat_lt_iff ha hb).2 h
      rw [this]; rfl
    · rw [blt_false.2 (by omega)]
      have : decide (UInt8.ofNat a < UInt8.ofNat b) = false := by simpa using fun h' => h ((ofNat_lt_iff ha hb).1 h')
      rw [this]
      by_cases e : a = b
      · subst e; rw [Nat.beq_refl]; simp
      · rw [beq_false.2 e]
        have : (UInt8.ofNat a == UInt8.ofNat b) = false := by simpa using fun h => e ((ofNat_eq_iff ha hb).1 h)
        rw [this]; rfl
theorem strEq_spec {x y : List Nat} {b : Bool} (h : strEq x y = some b) : ((bstr x).toList == (bstr y).toList) = b := by
  unfold strEq at h
  cases hx : allB x with
  | false => rw [hx] at h; cases h
  | true =>
    cases hy : allB y with
    | false => rw [hx, hy] at h; cases h
    | true =>
      rw [hx, hy] at h; cases h
      rw [bstr_toList, bstr_toList, natsEq_spec x y hx hy]
theorem strLt_spec {x y : List Nat} {b : Bool} (h : strLt x y = some b) : Op.bytesLess (bstr x).toList (bstr y).toList = b := by
  unfold strLt at h
  cases hx : allB x with
  | false => rw [hx] at h; cases h
  | true =>
    cases hy : allB y with
    | false => rw [hx, hy] at h; cases h
    | true =>
      rw [hx, hy] at h; cases h
      rw [bstr_toList, bstr_toList, natsLt_spec x y hx hy]
theorem bytesLess_total : ∀ (x y : List UInt8), (Op.bytesLess x y || x == y) = !Op.bytesLess y x
  | [], [] => rfl
  | [], _ :: _ => rfl
  | _ :: _, [] => rfl
  | a :: x, b :: y => by
    simp only [Op.bytesLess, List.cons_beq_cons]
    have ih := bytesLess_total x y
    by_cases h1 : a < b
    · have h2 : ¬ b < a := by rw [UInt8.lt_iff_toNat_lt] at h1 ⊢; omega
      have h3 : ¬ b = a := by intro e; rw [e] at h1; exact h2 (e ▸ h1)
      simp [h1, h2, h3]
    · by_cases h2 : b < a
      · have h3 : ¬ a = b := by intro e; rw [e] at h2; exact h1 (e ▸ h2)
        simp [h1, h2, h3]
      · have h3 : a = b := by
          rw [UInt8.lt_iff_toNat_lt] at h1 h2
          exact UInt8.toNat_inj.1 (by omega)
        subst h3
        simp only [h1, decide_false, Bool.false_or, beq_self_eq_true, Bool.true_and]
        exact ih
theorem bstr_append (x y : List Nat) : bstr x ++ bstr y = bstr (x ++ y) := by
  apply ByteArray.ext
  simp [bstr]
theorem strOp_rel {op : BinOp} {x y : List Nat} {v : AV} (h : strOp x y op = some v) : ∃ v', (Op.stringOp op (bstr x) (bstr y)).run P w = .ok v' w ∧ VRel m v v' := by
  have ob : ∀ {o : Option Bool}, obool o = some v → ∃ b, o = some b ∧ v = .bool b := by
    intro o ho; cases o with | none => cases ho | some b => cases ho; exact ⟨b, rfl, rfl⟩
  have on : ∀ {o : Option Bool}, onot o = some v → ∃ b, o = some b ∧ v = .bool !b := by
    intro o ho; cases o with | none => cases ho | some b => cases ho; exact ⟨b, rfl, rfl⟩
  cases op <;> simp only [strOp] at h <;> try (cases h; done)
  case add =>
    cases hl : Nat.blt (x.length + y.length) 1000000000 with
    | false => rw [hl] at h; cases h
    | true =>
      rw [hl] at h; cases h
      have := blt_iff.1 hl
      refine ⟨.string (bstr x ++ bstr y), ?_, by simp only [VRel, bstr_append]⟩
      simp only [Op.stringOp, bstr_size]
      rw [if_neg (by simp [IntKind.max, IntKind.signed, IntKind.bits]; omega)]
      rfl
  case eql => obtain ⟨b, hb, rfl⟩ := ob h; exact ⟨.bool b, by simp only [Op.stringOp, strEq_spec hb]; rfl, by simp only [VRel]⟩
  case neq => obtain ⟨b, hb, rfl⟩ := on h; exact ⟨.bool !b, by simp only [Op.stringOp, strEq_spec hb]; rfl, by simp only [VRel]⟩
  case lss => obtain ⟨b, hb, rfl⟩ := ob h; exact ⟨.bool b, by simp only [Op.stringOp, strLt_spec hb]; rfl, by simp only [VRel]⟩
  case leq => obtain ⟨b, hb, rfl⟩ := on h; exact ⟨.bool !b, by simp only [Op.stringOp, bytesLess_total, strLt_spec hb]; rfl, by simp only [VRel]⟩
  case gtr => obtain ⟨b, hb, rfl⟩ := ob h; exact ⟨.bool b, by simp only [Op.stringOp, bytesLess_total, strLt_spec hb, Bool.not_not]; rfl, by simp only [VRel]⟩
  case geq => obtain ⟨b, hb, rfl⟩ := on h; exact ⟨.bool !b, by simp only [Op.stringOp, strLt_spec hb]; rfl, by simp only [VRel]⟩

/- INTEGERS -/
theorem intBin_rel {op : BinOp} {t : TypeId} {k k' : IntKind} {a b : Int} {v : AV} (h : intBin k a k' b op = some v) :
    ∃ v', (Go.binOp op t (.int k a) (.int k' b)).run P w = .ok v' w ∧ VRel m v v' := by
  have cmp : ∀ {op : BinOp}, (intCmp a b op = some v) → ∃ v', (Op.intCmp op a b).run P w = .ok v' w ∧ VRel m v v' := by
    intro op h
    cases op <;> simp only [intCmp] at h <;> try (cases h; done)
    all_goals
      cases h
      refine ⟨_, by simp only [Op.intCmp]; rfl, ?_⟩
      simp only [VRel, iEq_eq, iLt_eq]
    · rfl
    · rfl
    · congr 1; rw [Bool.eq_iff_iff]; simp
    · congr 1; rw [Bool.eq_iff_iff]; simp
  have same : ∀ {op : BinOp} {r : Option AV}, (if k = k' then r else none) = some v → k = k' ∧ r = some v := by
    intro op r h; split at h
    · exact ⟨by assumption, h⟩
    · cases h
  have z : ∀ {r : Option AV}, (match iEq b 0 with | true => none | false => r) = some v → b ≠ 0 ∧ r = some v := by
    intro r h
    cases hz : iEq b 0 with
    | true => rw [hz] at h; cases h
    | false => rw [hz] at h; rw [iEq_eq] at hz; exact ⟨by simpa using hz, h⟩
  have ng : ∀ {r : Option AV}, (match iLt b 0 with | true => none | false => r) = some v → ¬ b < 0 ∧ r = some v := by
    intro r h
    cases hz : iLt b 0 with
    | true => rw [hz] at h; cases h
    | false => rw [hz] at h; rw [iLt_eq] at hz; exact ⟨by simpa using hz, h⟩
  cases op <;> simp only [intBin] at h
  case shl =>
    obtain ⟨hb, h⟩ := ng h; cases h
    exact ⟨_, by simp only [Go.binOp, Op.shift, if_neg hb]; rfl, by simp only [VRel, wrapF_eq]⟩
  case shr =>
    obtain ⟨hb, h⟩ := ng h; cases h
    exact ⟨_, by simp only [Go.binOp, Op.shift, if_neg hb]; rfl, by simp only [VRel]⟩
  all_goals
    obtain ⟨rfl, h⟩ := same (op := .add) h
    simp only [intOp] at h
    simp only [Go.binOp, ne_eq, not_true_eq_false, if_false]
  case add => cases h; exact ⟨_, rfl, by simp only [VRel, wrapF_eq]; rfl⟩
  case sub => cases h; exact ⟨_, rfl, by simp only [VRel, wrapF_eq]; rfl⟩
  case mul => cases h; exact ⟨_, rfl, by simp only [VRel, wrapF_eq]; rfl⟩
  case quo =>
    obtain ⟨hb, h⟩ := z h; cases h
    exact ⟨_, by simp only [Op.intDiv, if_neg hb]; rfl, by simp only [VRel, wrapF_eq]⟩
  case rem =>
    obtain ⟨hb, h⟩ := z h; cases h
    exact ⟨_, by simp only [Op.intDiv, if_neg hb]; rfl, by simp only [VRel]⟩
  case and => cases h; exact ⟨_, rfl, by simp only [VRel, wrapF_eq, bitsOf_eq, BitVec.toNat_and]; rfl⟩
  case or => cases h; exact ⟨_, rfl, by simp only [VRel, wrapF_eq, bitsOf_eq, BitVec.toNat_or]; rfl⟩
  case xor => cases h; exact ⟨_, rfl, by simp only [VRel, wrapF_eq, bitsOf_eq, BitVec.toNat_xor]; rfl⟩
  case andNot =>
    cases h
    refine ⟨_, rfl, ?_⟩
    simp only [VRel, wrapF_eq, bitsOf_eq, BitVec.toNat_and, BitVec.toNat_not]
    congr 2
    have hlt := (BitVec.ofInt k.bits b).isLt
    generalize (BitVec.ofInt k.bits b).toNat = q at hlt
    have : Nat.xor q (2 ^ k.bits - 1) = 2 ^ k.bits - 1 - q := by
      apply Nat.eq_of_testBit_eq
      intro i
      show (q ^^^ (2 ^ k.bits - 1)).testBit i = _
      rw [Nat.testBit_xor, Nat.testBit_two_pow_sub_one, show 2 ^ k.bits - 1 - q = 2 ^ k.bits - (q + 1) by omega, Nat.testBit_two_pow_sub_succ hlt]
      by_cases hi : i < k.bits
      · simp [hi]
      · have : q.testBit i = false := Nat.testBit_lt_two_pow (Nat.lt_of_lt_of_le hlt (Nat.pow_le_pow_right (by omega) (by omega)))
        simp [hi, this]
    rw [this]; rfl
  all_goals exact cmp h
end Go.AM
