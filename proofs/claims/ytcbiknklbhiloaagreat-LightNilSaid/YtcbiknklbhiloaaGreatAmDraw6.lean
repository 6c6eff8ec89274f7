/- Lemmas on the evaluator over abstract memory: what it does is what the model does. Conditions: those of each statement. -/
import Derived.Test.YtcbiknklbhiloaaGreatAmDraw5
namespace Go.AM
open Go
variable {A : AP} {P : Program} {ng : Nat} {m : Env} {H H' : AH} {w : World}
section
variable {call : CallT} {l : List Oper} {b0 : Nat} {d : DR A call l b0} {m0 : Env} {H0 : AH} {w0 : World} {S : Nat → Prop} {q : Nat} {K : AH} {TS : TM} {a : Act}

theorem late_wr (hD : DI d m0 H0 w0 S q m K TS a w) {i : Nat} (hi : q ≤ i) (ha : AlAt d i) {ob : AO} (hg : K.get (b0 + i) = some ob) : ob.wr = true := by
  obtain ⟨o, ob', mk, ho, hal, _, _, _, hget⟩ := ha.spec
  rw [hD.ka i hi ha, hget] at hg
  cases hg
  exact allocOf_wr hal
theorem sub_q (hD : DI d m0 H0 w0 S q m K TS a w) : ∀ b ob, (d.Hs q).get b = some ob → K.get b = some ob := by
  intro b ob hb
  rw [hD.kb b fun i hi ha e => ?_]
  · exact hb
  · subst e; rw [hD.nn i hi ha] at hb; cases hb
/-- a step of the model on the level's memory, seen on the whole -/
theorem frame_q (hD : DI d m0 H0 w0 S q m K TS a w) {m' : Env} {w' : World} (hI : Inv A.ng m' (d.Hs q) w') (hS : Stp m (d.Hs q) w m' (d.Hs q) w') : Inv A.ng m' K w' ∧ Stp m K w m' K w' := by
  refine frame_inv (fun b => ∃ i, q ≤ i ∧ AlAt d i ∧ b = b0 + i) hD.inv ?_ ?_ ?_ hD.knx.symm hI hS hD.knx (fun _ _ => rfl) ?_
  · rintro b ⟨i, hi, ha, rfl⟩
    exact ⟨by rw [hD.knx]; have := hD.big; have := ha.lt; omega, hD.nn i hi ha⟩
  · intro b hb
    exact (hD.kb b fun i hi ha e => hb ⟨i, hi, ha, e⟩).symm
  · rintro b ob ⟨i, hi, ha, rfl⟩ hg
    exact late_wr hD hi ha hg
  · intro b hb
    exact hD.kb b fun i hi ha e => hb ⟨i, hi, ha, e⟩
/-- the memory just before operation j, an effect -/
theorem before (hD : DI d m0 H0 w0 S q m K TS a w) {j : Nat} {o : Oper} (hr : Rdy d S j o) (he : EffAt A l j) :
    (d.Hs j).nx = K.nx ∧ (∀ b, (∀ i, j < i → AlAt d i → b ≠ b0 + i) → (d.Hs j).get b = K.get b) ∧ (∀ i, j < i → AlAt d i → (d.Hs j).get (b0 + i) = none) := by
  obtain ⟨hq, hno⟩ := q_le hD hr he
  have hlt := hr.lt
  obtain ⟨h1, h2, h3⟩ := quiet (d := d) (j - q) q (by omega) (fun i a b => hno i a (by omega))
  rw [show q + (j - q) = j by omega] at h1 h2 h3
  have hnaj : ¬ AlAt d j := by
    rintro ⟨o1, p1, p2, _⟩
    obtain ⟨o2, p3, p4⟩ := he
    rw [p1] at p3; cases p3
    rw [p2] at p4; cases p4
  refine ⟨by rw [h1, hD.knx], fun b hb => ?_, fun i hi ha => ?_⟩
  · by_cases c : ∃ i, q ≤ i ∧ i < j ∧ AlAt d i ∧ b = b0 + i
    · obtain ⟨i, c1, c2, c3, rfl⟩ := c
      rw [h3 i c1 c2 c3, hD.ka i c1 c3]
    · rw [h2 b fun i c1 c2 c3 e => c ⟨i, c1, c2, c3, e⟩]
      refine (hD.kb b fun i c1 c3 e => ?_).symm
      rcases Nat.lt_trichotomy i j with h | h | h
      · exact c ⟨i, c1, h, c3, e⟩
      · subst h; exact hnaj c3
      · exact hb i h c3 e
  · rw [h2 (b0 + i) fun k _ _ _ => by omega]
    exact hD.nn i (by omega) ha
/-- an effect: the level rises -/
theorem di_eff (hD : DI d m0 H0 w0 S q m K TS a w) {j : Nat} {o : Oper} (hr : Rdy d S j o) (he : EffAt A l j) {m' : Env} {w' : World} {v' : Value} (hI : Inv A.ng m' (d.Hs (j + 1)) w') (hS : Stp m (d.Hs j) w m' (d.Hs (j + 1)) w')
    (hv : VRel m' (d.vs j) v') : ∃ K' TS', DI d m0 H0 w0 (fun i => S i ∨ i = j) (j + 1) m' K' TS' (a.put o.dst v') w' := by
  obtain ⟨hq, hno⟩ := q_le hD hr he
  have hlt := hr.lt
  obtain ⟨b1, b2, b3⟩ := before hD hr he
  have hnaj : ¬ AlAt d j := by
    rintro ⟨o1, p1, p2, _⟩
    obtain ⟨o2, p3, p4⟩ := he
    rw [p1] at p3; cases p3
    rw [p2] at p4; cases p4
  obtain ⟨K', k1, k2, k3⟩ := exK (d := d) j (d.Hs (j + 1)) (l.length - j)
  have k2 : ∀ i, j < i → AlAt d i → K'.get (b0 + i) = (d.Hs (i + 1)).get (b0 + i) := fun i h1 h2 => k2 i h1 (by have := h2.lt; omega) h2
  have k3 : ∀ b, (∀ i, j < i → AlAt d i → b ≠ b0 + i) → K'.get b = (d.Hs (j + 1)).get b := fun b h => k3 b fun i h1 _ h2 => h i h1 h2
  have hbig := hD.big
  rw [← hD.knx] at hbig
  obtain ⟨f1, f2⟩ := frame_inv (fun b => ∃ i, j < i ∧ AlAt d i ∧ b = b0 + i) hD.inv (K' := K') (H2 := d.Hs j) (H2' := d.Hs (j + 1))
    (by rintro b ⟨i, hi, ha, rfl⟩; exact ⟨by have := ha.lt; omega, b3 i hi ha⟩)
    (by intro b hb; exact b2 b fun i hi ha e => hb ⟨i, hi, ha, e⟩)
    (by rintro b ob ⟨i, hi, ha, rfl⟩ hg; exact late_wr hD (by omega) ha hg)
    b1 hI hS k1
    (by rintro b ⟨i, hi, ha, rfl⟩; rw [k2 i hi ha, hD.ka i (by omega) ha])
    (by intro b hb; exact k3 b fun i hi ha e => hb ⟨i, hi, ha, e⟩)
  obtain ⟨TS', hp, pn, pv⟩ := put_at hD hr
  have hle := hD.inv.le f2
  refine ⟨K', TS', ⟨.inr ⟨j, rfl, he⟩, fun i hi => ⟨fun h => ?_, fun h => ?_⟩, ?_, f1, k1, fun i hi => k2 i (by omega), fun b hb => k3 b fun i hi => hb i (by omega), fun i hi ha => ?_, fun i hi ha => ?_, fun i hl hi => ?_, ?_,
    put_rel (hD.tm.mono hle) hv hp, pv, by rw [pn, hD.tn], (put_defers _ _ _).trans hD.df, hD.stp.trans f2, hD.lo, hD.gl⟩⟩
  · rcases h with h | rfl
    · have := (eff_lt hD hr he hi).1 h; omega
    · omega
  · rcases Nat.lt_or_eq_of_le (Nat.le_of_lt_succ h) with h | h
    · exact .inl ((eff_lt hD hr he hi).2 h)
    · exact .inr h
  · intro i hi hs k hk
    rcases hs with hs | rfl
    · exact .inl (hD.down i hi hs k hk)
    · exact .inl (hr.msk k hk)
  · refine hS.dead _ ?_ (b3 i (by omega) ha)
    rw [b1]; have := ha.lt; omega
  · have hi' : ¬ S i := fun h => hi (.inl h)
    rcases Nat.lt_trichotomy i j with h | h | h
    · rw [k3 (b0 + i) fun k hk _ e => by omega]
      rw [hS.still (b0 + i) (by rw [b1]; have := ha.lt; omega) (hD.unm i ha.lt hi')]
      rw [b2 (b0 + i) fun k hk _ e => by omega]
      exact hD.pend i hi' ha
    · exact absurd (.inr h) hi
    · exact k2 i h ha
  · rw [(hS.old (b0 + i) (by rw [b1]; omega)).1]
    exact hD.unm i hl fun h => hi (.inl h)
  · have := hS.nx; rw [b1] at this; omega
/-- an effect that is not wanted -/
theorem di_off (hD : DI d m0 H0 w0 S q m K TS a w) {j : Nat} {o : Oper} (hr : Rdy d S j o) (hoff : d.on j = false) : ∃ q' K' TS', DI d m0 H0 w0 (fun i => S i ∨ i = j) q' m K' TS' (a.put o.dst undef) w := by
  have hst : d.vs j = .tup [] ∧ d.Hs (j + 1) = d.Hs j := by
    rcases d.step j o hr.at_ with ⟨hon, _⟩ | ⟨_, _, h1, h2, _⟩
    · rw [hoff] at hon; cases hon
    · exact ⟨h1, h2⟩
  have hv : VRel m (d.vs j) undef := by rw [hst.1]; exact undef_rel
  by_cases he : EffAt A l j
  · obtain ⟨b1, b2, b3⟩ := before hD hr he
    have hsub : Inv A.ng m (d.Hs j) w := hD.inv.sub b1 fun b ob hb => by
      rw [← b2 b fun i hi ha e => ?_]
      · exact hb
      · subst e; rw [b3 i hi ha] at hb; cases hb
    obtain ⟨K', TS', h⟩ := di_eff hD hr he (m' := m) (w' := w) (v' := undef) (by rw [hst.2]; exact hsub) (by rw [hst.2]; exact Stp.refl hsub) hv
    exact ⟨_, K', TS', h⟩
  · obtain ⟨TS', h⟩ := di_same hD hr he hD.inv hD.stp (Env.Le.refl m) (fun i hl hi _ => hD.unm i hl hi) hv
    exact ⟨_, _, _, h⟩
theorem not_eff_of {j : Nat} {o : Oper} (h : l[j]? = some o) (hk : isEff (kindOf A o.op) = false) : ¬ EffAt A l j := by
  rintro ⟨o', h1, h2⟩
  rw [h] at h1; cases h1
  rw [hk] at h2; cases h2
theorem di_step (hA : APok A P) (hc : CallOK A P call) {ops : Array Oper} (hl : ops.toList = l) {Q : Exit → Act → World → Prop} {Kont : Act → World → Prop} (hD : DI d m0 H0 w0 S q m K TS a w) {j : Nat} {o : Oper} (hr : Rdy d S j o)
    (hK : ∀ a' w' q' m' K' TS', DI d m0 H0 w0 (fun i => S i ∨ i = j) q' m' K' TS' a' w' → Kont a' w') : wpOp P ops Q j Kont a w := by
  have hj : ops[j]? = some o := by rw [← Array.getElem?_toList, hl]; exact hr.at_
  unfold wpOp
  simp only [hj]
  have hwant : ∀ b, wanted l (d.Ts j) o = some b → Region.wanted o (yielded ops a.tmps) = b := by
    intro b hb
    rw [← agree_wanted hD hr, ← hl] at hb
    exact wanted_rel hD.tm hb
  rcases d.step j o hr.at_ with ⟨hon, hw, hat, _⟩ | ⟨hoff, hw, _⟩
  · rw [hwant _ hw]
    simp only [if_true]
    refine .inl ?_
    unfold opAt at hat
    cases hk : kindOf A o.op with
    | alloc =>
      have hne : ¬ EffAt A l j := not_eff_of hr.at_ (by rw [hk]; rfl)
      have ha : AlAt d j := ⟨o, hr.at_, hk, hon⟩
      obtain ⟨o', ob, mk, ho', hal, hvs, hlt, hset, hget⟩ := ha.spec
      rw [hr.at_] at ho'; cases ho'
      rw [allocOf_congr (agree_opd hD hr)] at hal
      obtain ⟨s, hs, o1, room, hrun, hO⟩ := alloc_all (P := P) hA hD.inv hD.tm hal
      have hun := hD.unm j hr.lt hr.out
      have hg : K.get (b0 + j) = some ob := by rw [hD.pend j hr.out ha]; exact hget
      have hle := Env.with_le (m := m) (ab := w.heap.size) (ao := 0) (room := room) hun
      have hbig := hD.big
      rw [← hD.knx] at hbig
      have hIn := alloc_at hD.inv (b := b0 + j) (by have := hr.lt; omega) (by have := hD.gl; omega) hg hun (o := o1) (room := room) (hO _ _ _ hle walloc_new)
      have hSt := alloc_stp hD.stp (b := b0 + j) (by rw [hD.lo]; omega) (o := o1) (room := room)
      obtain ⟨TS', hD'⟩ := di_same hD hr hne hIn hSt hle (fun i hil hi hij => by
        have : (m.with_ (b0 + j) w.heap.size 0 room).blk (b0 + i) = m.blk (b0 + i) := by simp [Env.with_, hij]
        rw [this]; exact hD.unm i hil hi) (v' := mk.real w.heap.size) (by rw [hvs]; exact Mk.val_rel (by simp [Env.with_]) mk)
      unfold Oper.wp
      rw [hs]
      simp only [Sem.run_bind, hrun, Result.andThen_ok, Sem.run_pure]
      exact hK _ _ _ _ _ _ hD'
    | pure =>
      rw [hk] at hat
      have hne : ¬ EffAt A l j := not_eff_of hr.at_ (by rw [hk]; rfl)
      have h1 := (pure_any hk hat).2 K
      rw [opEval_congr (agree_opd hD hr)] at h1
      refine oper_wp (opEval_ok hA hc hD.inv hD.tm h1) fun v' w' m' p1 p2 p3 => ?_
      have hbig := hD.big
      rw [← hD.knx] at hbig
      obtain ⟨TS', hD'⟩ := di_same hD hr hne p1 (hD.stp.trans p2) (hD.inv.le p2) (fun i hil hi _ => by rw [(p2.old (b0 + i) (by omega)).1]; exact hD.unm i hil hi) p3
      exact hK _ _ _ _ _ _ hD'
    | read =>
      rw [hk] at hat
      have hne : ¬ EffAt A l j := not_eff_of hr.at_ (by rw [hk]; rfl)
      obtain ⟨H'', h1⟩ := d.reads j o hr.at_ hk hon q (hD.qn.imp id fun ⟨e, h1, oe, h2, h3⟩ => ⟨e, oe, h2, h3, h1⟩) fun k ok hok hke => ⟨fun hkq => by
          cases hb : bit (d.mask k) j with
          | false => rfl
          | true => exact absurd (hD.down k (List.getElem?_eq_some_iff.1 hok).1 ((hD.eff k ⟨ok, hok, hke⟩).2 hkq) j hb) hr.out, fun hkq => by
          cases hb : bit (d.mask j) k with
          | false => rfl
          | true => have := (hD.eff k ⟨ok, hok, hke⟩).1 (hr.msk k hb); omega⟩
      have := read_same hk h1
      subst this
      rw [opEval_congr (agree_opd hD hr)] at h1
      have hsub : Inv A.ng m (d.Hs q) w := hD.inv.sub hD.knx.symm (sub_q hD)
      refine oper_wp (opEval_ok hA hc hsub hD.tm h1) fun v' w' m' p1 p2 p3 => ?_
      obtain ⟨f1, f2⟩ := frame_q hD p1 p2
      have hbig := hD.big
      obtain ⟨TS', hD'⟩ := di_same hD hr hne f1 (hD.stp.trans f2) (hD.inv.le f2) (fun i hil hi _ => by rw [(p2.old (b0 + i) (by omega)).1]; exact hD.unm i hil hi) p3
      exact hK _ _ _ _ _ _ hD'
    | eff =>
      rw [hk] at hat
      have he : EffAt A l j := ⟨o, hr.at_, by rw [hk]; rfl⟩
      obtain ⟨b1, b2, b3⟩ := before hD hr he
      have hsub : Inv A.ng m (d.Hs j) w := hD.inv.sub b1 fun b ob hb => by
        rw [← b2 b fun i hi ha e => ?_]
        · exact hb
        · subst e; rw [b3 i hi ha] at hb; cases hb
      rw [opEval_congr (agree_opd hD hr)] at hat
      refine oper_wp (opEval_ok hA hc hsub hD.tm hat) fun v' w' m' p1 p2 p3 => ?_
      obtain ⟨K', TS', hD'⟩ := di_eff hD hr he p1 p2 p3
      exact hK _ _ _ _ _ _ hD'
  · rw [hwant _ hw]
    simp only [Bool.false_eq_true, if_false]
    obtain ⟨q', K', TS', hD'⟩ := di_off hD hr hoff
    exact hK _ _ _ _ _ _ hD'
/-- all done -/
theorem di_end (hD : DI d m0 H0 w0 S q m K TS a w) (hall : ∀ i, i < l.length → S i) : SRel A m (d.Ts l.length) (d.Hs l.length) a w ∧ Stp m0 H0 w0 m (d.Hs l.length) w := by
  have hq : q ≤ l.length := by
    rcases hD.qn with h | ⟨e, rfl, he⟩
    · omega
    · have := he.lt; omega
  obtain ⟨h1, h2, h3⟩ := quiet (d := d) (l.length - q) q (by omega) (fun i a b he => by
    have := (hD.eff i he).1 (hall i he.lt); omega)
  rw [show q + (l.length - q) = l.length by omega] at h1 h2 h3
  have hget : ∀ b, (d.Hs l.length).get b = K.get b := by
    intro b
    by_cases c : ∃ i, q ≤ i ∧ AlAt d i ∧ b = b0 + i
    · obtain ⟨i, c1, c2, rfl⟩ := c
      rw [h3 i c1 c2.lt c2, hD.ka i c1 c2]
    · rw [h2 b fun i c1 _ c2 e => c ⟨i, c1, c2, e⟩, hD.kb b fun i c1 c2 e => c ⟨i, c1, c2, e⟩]
  have hnx : (d.Hs l.length).nx = K.nx := by rw [h1, hD.knx]
  obtain ⟨t1, t2⟩ := Ts_spec l.length (Nat.le_refl _)
  refine ⟨⟨hD.inv.get_eq hnx hget, ⟨?_, fun t v hv => ?_⟩, hD.df⟩, hD.stp.get_eq hnx hget⟩
  · rw [hD.tm.size, hD.tn, t1]
  · rw [t2, ← valAt_congr (S := S) (S' := fun _ => True) l.length fun i hi _ => ⟨fun _ => trivial, fun _ => hall i hi⟩, ← hD.tv] at hv
    exact hD.tm.rel t v hv
end
end Go.AM
