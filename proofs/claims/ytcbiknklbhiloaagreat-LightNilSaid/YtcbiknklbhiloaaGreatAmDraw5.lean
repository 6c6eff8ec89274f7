/- Lemmas on the evaluator over abstract memory: what it does is what the model does. Conditions: those of each statement. -/
import Derived.Test.YtcbiknklbhiloaaGreatAmDraw4
namespace Go.AM
open Go
variable {A : AP} {P : Program} {ng : Nat} {m : Env} {H H' : AH} {w : World}
section
variable {call : CallT} {l : List Oper} {b0 : Nat} {d : DR A call l b0}

theorem valAt_congr {S S' : Nat → Prop} {t : Nat} : ∀ k, (∀ i, i < k → (l[i]?).bind (·.dst) = some t → (S i ↔ S' i)) → valAt d S t k = valAt d S' t k
  | 0, _ => rfl
  | k + 1, h => by
    simp only [valAt]
    rw [valAt_congr k fun i hi => h i (by omega)]
    by_cases hd : (l[k]?).bind (·.dst) = some t
    · have := h k (by omega) hd
      by_cases hs : S k
      · rw [if_pos ⟨hs, hd⟩, if_pos ⟨this.1 hs, hd⟩]
      · rw [if_neg (fun c => hs c.1), if_neg (fun c => hs (this.2 c.1))]
    · rw [if_neg (fun c => hd c.2), if_neg (fun c => hd c.2)]
theorem valAt_skip {S : Nat → Prop} {t j : Nat} : ∀ k, (∀ i, j ≤ i → i < j + k → S i → (l[i]?).bind (·.dst) ≠ some t) → valAt d S t (j + k) = valAt d S t j
  | 0, _ => rfl
  | k + 1, h => by
    rw [show j + (k + 1) = (j + k) + 1 by omega]
    simp only [valAt]
    rw [if_neg (fun c => h (j + k) (by omega) (by omega) c.1 c.2)]
    exact valAt_skip k fun i h1 h2 => h i h1 (by omega)

variable {m0 : Env} {H0 : AH} {w0 : World} {S : Nat → Prop} {q : Nat} {K : AH} {TS : TM} {a : Act}

structure Rdy (d : DR A call l b0) (S : Nat → Prop) (j : Nat) (o : Oper) : Prop where
  at_ : l[j]? = some o
  out : ¬ S j
  msk : ∀ i, bit (d.mask j) i = true → S i
theorem Rdy.lt {j : Nat} {o : Oper} (h : Rdy d S j o) : j < l.length := (List.getElem?_eq_some_iff.1 h.at_).1
theorem agree (hD : DI d m0 H0 w0 S q m K TS a w) {j : Nat} {o : Oper} (hr : Rdy d S j o) {t : Nat} (ht : t ∈ looksOf l o) : TS.get t = (d.Ts j).get t := by
  have hlt := hr.lt
  rw [hD.tv, (Ts_spec j (by omega)).2]
  have e1 : valAt d S t (j + (l.length - j)) = valAt d S t j := by
    refine valAt_skip _ fun i hi hi2 hs hdst => ?_
    have hne : i ≠ j := fun e => hr.out (e ▸ hs)
    have hil : i < l.length := by omega
    have hoi : l[i]? = some l[i] := List.getElem?_eq_getElem hil
    rcases d.pairs j i o l[i] (by omega) hr.at_ hoi with h | ⟨_, _, h, _⟩
    · exact hr.out (hD.down i hil hs j h)
    · rw [hoi] at hdst
      simp only [Option.bind_some] at hdst
      rw [hdst] at h
      exact memO_false h ht
  rw [show j + (l.length - j) = l.length by omega] at e1
  rw [e1]
  refine valAt_congr j fun i hi hdst => ⟨fun _ => trivial, fun _ => ?_⟩
  have hoi : l[i]? = some l[i] := List.getElem?_eq_getElem (by omega)
  rcases d.pairs i j l[i] o hi hoi hr.at_ with h | ⟨h, _⟩
  · exact hr.msk i h
  · rw [hoi] at hdst
    simp only [Option.bind_some] at hdst
    rw [hdst] at h
    exact absurd ht (memO_false h)
theorem look_mem {ops : List Oper} {o : Oper} {t : Nat} (h : Operand.tmp t ∈ o.op.operands) : t ∈ looksOf ops o := by
  have : ∀ xs : List Operand, Operand.tmp t ∈ xs → t ∈ lookOpds xs := by
    intro xs
    induction xs with
    | nil => intro h; simp at h
    | cons x xs ih =>
      intro h
      rcases List.mem_cons.1 h with e | h'
      · subst e; simp [lookOpds]
      · have ih' := ih h'
        clear h
        cases x <;> simp only [lookOpds] <;> first | exact List.mem_cons_of_mem _ ih' | exact ih'
  have h1 := this _ (Array.mem_toList_iff.2 h)
  unfold looksOf
  split
  · split
    · exact List.mem_cons_of_mem _ h1
    · exact h1
  · exact h1
theorem agree_opd (hD : DI d m0 H0 w0 S q m K TS a w) {j : Nat} {o : Oper} (hr : Rdy d S j o) : ∀ x ∈ o.op.operands, opd A (d.Ts j) x = opd A TS x := by
  intro x hx
  cases x with
  | tmp t => simp only [opd]; rw [agree hD hr (look_mem hx)]
  | _ => rfl
theorem agree_wanted (hD : DI d m0 H0 w0 S q m K TS a w) {j : Nat} {o : Oper} (hr : Rdy d S j o) : wanted l TS o = wanted l (d.Ts j) o := by
  unfold wanted
  cases hg : o.guard with
  | none => rfl
  | some gw =>
    obtain ⟨g, want⟩ := gw
    simp only
    cases hd : dstAt l g with
    | none => rfl
    | some x =>
      simp only
      rw [agree hD hr (t := x) (by unfold looksOf; rw [hg]; simp only [hd]; simp)]
theorem put_at (hD : DI d m0 H0 w0 S q m K TS a w) {j : Nat} {o : Oper} (hr : Rdy d S j o) : ∃ TS', TS.put o.dst (d.vs j) = some TS' ∧ TS'.n = TS.n ∧ ∀ t, TS'.get t = valAt d (fun i => S i ∨ i = j) t l.length := by
  have hlt := hr.lt
  have hex : ∃ TS', TS.put o.dst (d.vs j) = some TS' := by
    have : ∃ v T1, (d.Ts j).put o.dst v = some T1 := by
      rcases d.step j o hr.at_ with ⟨_, _, _, hp⟩ | ⟨_, _, _, _, hp⟩
      · exact ⟨_, _, hp⟩
      · exact ⟨_, _, hp⟩
    obtain ⟨v, T1, hp⟩ := this
    cases hd : o.dst with
    | none => exact ⟨TS, rfl⟩
    | some x =>
      rw [hd] at hp
      have hp : (d.Ts j).set x v = some T1 := hp
      have hx := (TM.set_n hp).2
      rw [(Ts_spec j (by omega)).1, ← hD.tn] at hx
      obtain ⟨n, t⟩ := TS
      refine ⟨⟨n, t.setP (pathOf x) (some (d.vs j))⟩, ?_⟩
      show cond (Nat.blt x n) _ _ = _
      rw [blt_iff.2 hx]; rfl
  obtain ⟨TS', hp⟩ := hex
  obtain ⟨p1, p2⟩ := put_get hp
  refine ⟨TS', hp, p1, fun t => ?_⟩
  rw [p2]
  by_cases hd : o.dst = some t
  · rw [if_pos hd]
    have e1 : valAt d (fun i => S i ∨ i = j) t ((j + 1) + (l.length - (j + 1))) = valAt d (fun i => S i ∨ i = j) t (j + 1) := by
      refine valAt_skip _ fun i hi hi2 hs hdst => ?_
      have hil : i < l.length := by omega
      have hs : S i := hs.resolve_right (by omega)
      have hoi : l[i]? = some l[i] := List.getElem?_eq_getElem hil
      rcases d.pairs j i o l[i] (by omega) hr.at_ hoi with h | ⟨_, h, _, _⟩
      · exact hr.out (hD.down i hil hs j h)
      · rw [hoi] at hdst
        simp only [Option.bind_some] at hdst
        rw [hdst, hd] at h
        exact sameO_false h rfl
    rw [show (j + 1) + (l.length - (j + 1)) = l.length by omega] at e1
    rw [e1, valAt, if_pos ⟨.inr rfl, by rw [hr.at_]; exact hd⟩]
  · rw [if_neg hd, hD.tv]
    refine valAt_congr _ fun i hi hdst => ⟨.inl, fun h => h.resolve_right ?_⟩
    rintro rfl
    rw [hr.at_] at hdst
    exact hd hdst
/-- an operation that is no effect: the level stays -/
theorem di_same (hD : DI d m0 H0 w0 S q m K TS a w) {j : Nat} {o : Oper} (hr : Rdy d S j o) (hne : ¬ EffAt A l j) {m' : Env} {w' : World} {v' : Value} (hI : Inv A.ng m' K w') (hS : Stp m0 H0 w0 m' K w') (hle : Env.Le m m')
    (hun : ∀ i, i < l.length → ¬ S i → i ≠ j → m'.blk (b0 + i) = none) (hv : VRel m' (d.vs j) v') : ∃ TS', DI d m0 H0 w0 (fun i => S i ∨ i = j) q m' K TS' (a.put o.dst v') w' := by
  obtain ⟨TS', hp, pn, pv⟩ := put_at hD hr
  refine ⟨TS', ⟨hD.qn, fun i hi => ⟨fun h => h.elim (hD.eff i hi).1 (fun e => absurd (e ▸ hi) hne), fun h => .inl ((hD.eff i hi).2 h)⟩, ?_, hI, hD.knx, hD.ka, hD.kb, hD.nn, fun i hi => hD.pend i (fun h => hi (.inl h)), fun i hl hi => hun i hl (fun h => hi (.inl h)) (fun h => hi (.inr h)), hD.big, put_rel (hD.tm.mono hle) hv hp, pv, by rw [pn, hD.tn], (put_defers _ _ _).trans hD.df, hS, hD.lo, hD.gl⟩⟩
  intro i hi hs k hk
  rcases hs with hs | rfl
  · exact .inl (hD.down i hi hs k hk)
  · exact .inl (hr.msk k hk)
theorem exK (j : Nat) (H : AH) : ∀ k, ∃ K' : AH, K'.nx = H.nx ∧ (∀ i, j < i → i ≤ j + k → AlAt d i → K'.get (b0 + i) = (d.Hs (i + 1)).get (b0 + i)) ∧ (∀ b, (∀ i, j < i → i ≤ j + k → AlAt d i → b ≠ b0 + i) → K'.get b = H.get b)
  | 0 => ⟨H, rfl, fun i h1 h2 => by omega, fun _ _ => rfl⟩
  | k + 1 => by
    obtain ⟨K1, h1, h2, h3⟩ := exK j H k
    by_cases ha : AlAt d (j + (k + 1))
    · obtain ⟨o, ob, mk, ho, hal, hv, hlt, hset, hget⟩ := ha.spec
      refine ⟨K1.set (b0 + (j + (k + 1))) (some ob), h1, fun i hi1 hi2 hai => ?_, fun b hb => ?_⟩
      · by_cases e : i = j + (k + 1)
        · subst e; rw [AH.get_set, hget]
        · rw [AH.get_set_ne (by omega)]; exact h2 i hi1 (by omega) hai
      · rw [AH.get_set_ne (hb _ (by omega) (by omega) ha)]
        exact h3 b fun i hi1 hi2 => hb i hi1 (by omega)
    · refine ⟨K1, h1, fun i hi1 hi2 hai => ?_, fun b hb => h3 b fun i hi1 hi2 => hb i hi1 (by omega)⟩
      by_cases e : i = j + (k + 1)
      · subst e; exact absurd hai ha
      · exact h2 i hi1 (by omega) hai
theorem eff_lt (hD : DI d m0 H0 w0 S q m K TS a w) {j : Nat} {o : Oper} (hr : Rdy d S j o) (he : EffAt A l j) {i : Nat} (hi : EffAt A l i) : S i ↔ i < j := by
  have hej : isEff (kindOf A o.op) = true := by
    obtain ⟨o', h1, h2⟩ := he
    rw [hr.at_] at h1; cases h1; exact h2
  obtain ⟨oi, h1, h2⟩ := hi
  have hil : i < l.length := (List.getElem?_eq_some_iff.1 h1).1
  constructor
  · intro hs
    rcases Nat.lt_trichotomy i j with h | h | h
    · exact h
    · subst h; exact absurd hs hr.out
    · rcases d.pairs j i o oi h hr.at_ h1 with hb | ⟨_, _, _, hb⟩
      · exact absurd (hD.down i hil hs j hb) hr.out
      · rw [hb hej] at h2; cases h2
  · intro h
    rcases d.pairs i j oi o h h1 hr.at_ with hb | ⟨_, _, _, hb⟩
    · exact hr.msk i hb
    · rw [hb h2] at hej; cases hej
theorem q_le (hD : DI d m0 H0 w0 S q m K TS a w) {j : Nat} {o : Oper} (hr : Rdy d S j o) (he : EffAt A l j) : q ≤ j ∧ ∀ i, q ≤ i → i < j → ¬ EffAt A l i := by
  refine ⟨?_, fun i h1 h2 hi => ?_⟩
  · rcases hD.qn with h | ⟨e, rfl, hee⟩
    · omega
    · have := (hD.eff e hee).2 (by omega)
      have := (eff_lt hD hr he hee).1 this
      omega
  · have := (eff_lt hD hr he hi).2 h2
    have := (hD.eff i hi).1 this
    omega
end
end Go.AM
