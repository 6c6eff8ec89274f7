/- Lemmas on the evaluator over abstract memory: what it does is what the model does. Conditions: those of each statement. -/
import Derived.Test.YtcbiknklbhiloaaGreatAmDraw2
namespace Go.AM
open Go
variable {A : AP} {P : Program} {ng : Nat} {m : Env} {H H' : AH} {w : World}

/- BITS -/
theorem bit_testBit (m i : Nat) : bit m i = m.testBit i := by
  unfold bit
  have : (m.shiftRight i).land 1 = (m >>> i) &&& 1 := rfl
  rw [this, Nat.and_one_is_mod]
  rw [Nat.testBit_eq_decide_div_mod_eq, Nat.shiftRight_eq_div_pow]
  rw [Bool.eq_iff_iff, beq_iff, decide_eq_true_iff]
theorem bit_lor (a b i : Nat) : bit (Nat.lor a b) i = (bit a i || bit b i) := by
  simp only [bit_testBit]
  exact Nat.testBit_or a b i
theorem bit_one (k i : Nat) : bit (Nat.shiftLeft 1 k) i = true → i = k := by
  intro h
  rw [bit_testBit] at h
  have : (Nat.shiftLeft 1 k) = 1 <<< k := rfl
  rw [this, Nat.one_shiftLeft, Nat.testBit_two_pow] at h
  simpa using (decide_eq_true_iff.1 h).symm
theorem bit_zero (i : Nat) : bit 0 i = false := by rw [bit_testBit]; simp

def Binds (e : Edge) : Prop := Region.binds .any e = true
theorem edgeMask_spec {p : List Nat} : ∀ {es : List Edge} {M : Nat}, edgeMask p es = some M →
    (∀ e ∈ es, Binds e → e.on < p.length) ∧ ∀ j, bit M j = true → ∃ e ∈ es, Binds e ∧ (j = e.on ∨ ∃ mm, p[e.on]? = some mm ∧ bit mm j = true)
  | [], M, h => by
    cases h
    exact ⟨fun e he => by simp at he, fun j hj => by rw [bit_zero] at hj; cases hj⟩
  | e :: es, M, h => by
    unfold edgeMask at h
    cases ha : edgeMask p es with
    | none => rw [ha] at h; cases h
    | some a =>
      rw [ha] at h
      obtain ⟨h1, h2⟩ := edgeMask_spec ha
      simp only at h
      split at h
      · rename_i hb
        split at h
        · rename_i mm hm
          cases h
          rw [nth_eq] at hm
          have hlt : e.on < p.length := (List.getElem?_eq_some_iff.1 hm).1
          refine ⟨fun e' he' hb' => ?_, fun j hj => ?_⟩
          · rcases List.mem_cons.1 he' with rfl | he'
            · exact hlt
            · exact h1 e' he' hb'
          · rw [bit_lor, bit_lor] at hj
            rcases Bool.or_eq_true_iff.1 hj with hj | hj
            · obtain ⟨e', he', hb', hj'⟩ := h2 j hj
              exact ⟨e', List.mem_cons_of_mem _ he', hb', hj'⟩
            · rcases Bool.or_eq_true_iff.1 hj with hj | hj
              · exact ⟨e, by simp, hb, .inr ⟨mm, hm, hj⟩⟩
              · exact ⟨e, by simp, hb, .inl (bit_one _ _ hj)⟩
        · cases h
      · rename_i hb
        cases h
        refine ⟨fun e' he' hb' => ?_, fun j hj => ?_⟩
        · rcases List.mem_cons.1 he' with rfl | he'
          · unfold Binds at hb'; rw [hb] at hb'; cases hb'
          · exact h1 e' he' hb'
        · obtain ⟨e', he', hb', hj'⟩ := h2 j hj
          exact ⟨e', List.mem_cons_of_mem _ he', hb', hj'⟩
theorem masks_spec : ∀ {l : List Oper} {ms0 ms : List Nat}, masks l ms0 = some ms →
    ms.length = ms0.length + l.length ∧ (∀ i, i < ms0.length → ms[i]? = ms0[i]?) ∧
    ∀ k o, l[k]? = some o → ∃ M, ms[ms0.length + k]? = some M ∧ edgeMask (ms.take (ms0.length + k)) o.after.toList = some M
  | [], ms0, ms, h => by
    cases h
    exact ⟨by simp, fun _ _ => rfl, fun k o hk => by simp at hk⟩
  | o :: r, ms0, ms, h => by
    unfold masks at h
    split at h
    · rename_i M hM
      obtain ⟨h1, h2, h3⟩ := masks_spec h
      simp only [List.length_append, List.length_cons, List.length_nil] at h1 h2 h3
      have h0 : ∀ i, i < ms0.length → ms[i]? = ms0[i]? := fun i hi => by
        rw [h2 i (by omega), List.getElem?_append_left hi]
      refine ⟨by simp only [List.length_cons]; omega, h0, fun k o' hk => ?_⟩
      cases k with
      | zero =>
        cases hk
        refine ⟨M, ?_, ?_⟩
        · rw [h2 _ (by omega)]; simp
        · have : ms.take (ms0.length + 0) = ms0 := by
            apply List.ext_getElem?
            intro i
            rw [List.getElem?_take]
            by_cases c : i < ms0.length + 0
            · rw [if_pos c, h0 i (by omega)]
            · rw [if_neg c, List.getElem?_eq_none (by omega)]
          rw [this]; exact hM
      | succ k =>
        obtain ⟨M', q1, q2⟩ := h3 k o' (by simpa using hk)
        have e : ms0.length + (0 + 1) + k = ms0.length + (k + 1) := by omega
        rw [e] at q1 q2
        exact ⟨M', q1, q2⟩
    · cases h
theorem infoOf_spec {ops : List Oper} : ∀ {l : List Oper} {ms : List Nat}, ms.length = l.length → (infoOf A ops l ms).length = l.length ∧ ∀ (k : Nat) (o : Oper) (M : Nat), l[k]? = some o → ms[k]? = some M → (infoOf A ops l ms)[k]? = some (OI.mk o.dst (looksOf ops o) (kindOf A o.op) M)
  | [], ms, h => by
    have : ms = [] := List.eq_nil_of_length_eq_zero h
    subst this
    exact ⟨rfl, fun k o M hk => by simp at hk⟩
  | o :: r, [], h => by simp at h
  | o :: r, m1 :: ms, h => by
    obtain ⟨h1, h2⟩ := infoOf_spec (ops := ops) (l := r) (ms := ms) (by simpa using h)
    refine ⟨by simp [infoOf, h1], fun k o' M hk hm => ?_⟩
    cases k with
    | zero => cases hk; cases hm; rfl
    | succ k =>
      simp only [infoOf, List.getElem?_cons_succ] at *
      exact h2 k o' M hk hm
theorem rowOK_spec {y : OI} : ∀ {l : List OI} {i : Nat}, rowOK y l i = true → ∀ k x, l[k]? = some x → pairOK (i + k) x y = true
  | [], i, _, k, x, hk => by simp at hk
  | z :: r, i, h, k, x, hk => by
    unfold rowOK at h
    cases hp : pairOK i z y with
    | false => rw [hp] at h; cases h
    | true =>
      rw [hp] at h
      cases k with
      | zero => cases hk; exact hp
      | succ k =>
        have := rowOK_spec (l := r) h k x (by simpa using hk)
        rw [show i + (k + 1) = i + 1 + k by omega]; exact this
theorem rowsOK_spec : ∀ {ys seen : List OI}, rowsOK seen ys = true → ∀ j y, ys[j]? = some y → ∀ i x, (seen ++ ys)[i]? = some x → i < seen.length + j → pairOK i x y = true
  | [], seen, _, j, y, hj, _, _, _, _ => by simp at hj
  | z :: r, seen, h, j, y, hj, i, x, hi, hlt => by
    unfold rowsOK at h
    cases hp : rowOK z seen 0 with
    | false => rw [hp] at h; cases h
    | true =>
      rw [hp] at h
      cases j with
      | zero =>
        cases hj
        rw [List.getElem?_append_left (by omega)] at hi
        have := rowOK_spec hp i x hi
        simpa using this
      | succ j =>
        exact rowsOK_spec (ys := r) (seen := seen ++ [z]) h j y (by simpa using hj) i x (by simpa using hi) (by simp only [List.length_append, List.length_cons, List.length_nil]; omega)
theorem pairOK_spec {i : Nat} {x y : OI} (h : pairOK i x y = true) : bit y.mask i = true ∨ (memO x.dst y.looks = false ∧ sameO x.dst y.dst = false ∧ memO y.dst x.looks = false ∧ (isEff x.kind = true → isEff y.kind = false)) := by
  unfold pairOK at h
  cases hb : bit y.mask i with
  | true => exact .inl rfl
  | false =>
    rw [hb] at h
    refine .inr ?_
    cases h1 : memO x.dst y.looks <;> cases h2 : sameO x.dst y.dst <;> cases h3 : memO y.dst x.looks <;> simp_all
    intro h4; rw [h4] at h; simpa using h

/- READS -/
theorem possible_spec {r rm q : Nat} : ∀ {xs : List OI} {i : Nat}, (∀ k x, xs[k]? = some x → isEff x.kind = true → (i + k < q → bit x.mask r = false) ∧ (q ≤ i + k → bit rm (i + k) = false)) → possible r rm q xs i = true
  | [], _, _ => rfl
  | x :: xs, i, h => by
    have ih : possible r rm q xs (i + 1) = true := possible_spec fun k y hk he => by
      have := h (k + 1) y (by simpa using hk) he
      rw [show i + (k + 1) = i + 1 + k by omega] at this
      exact this
    unfold possible
    rw [ih]
    cases he : isEff x.kind with
    | false => rfl
    | true =>
      obtain ⟨h1, h2⟩ := h 0 x rfl he
      simp only [Nat.add_zero] at h1 h2
      cases hb : Nat.blt i q with
      | true => rw [h1 (blt_iff.1 hb)]; rfl
      | false => rw [h2 (blt_false.1 hb)]; rfl
theorem readAll_spec {call : CallT} {T : TM} {o : Op} {v : AV} {r rm : Nat} {all : List OI} : ∀ {lv : List (Nat × AH)}, readAll A call T o v r rm all lv = true → ∀ q H, (q, H) ∈ lv → possible r rm q all 0 = true → ∃ H', opEval A call T H o = some (v, H')
  | [], _, q, H, hm, _ => by simp at hm
  | (q0, H0) :: lv, h, q, H, hm, hp => by
    unfold readAll at h
    rcases List.mem_cons.1 hm with heq | hm
    · cases heq
      rw [hp] at h
      cases hs : readSame A call T H0 o v with
      | false => rw [hs] at h; cases h
      | true =>
        unfold readSame at hs
        split at hs
        · rename_i u H' ho; exact ⟨H', by rw [ho, avEq_eq _ _ hs]⟩
        · cases hs
    · cases hp0 : possible r rm q0 all 0 with
      | false => rw [hp0] at h; exact readAll_spec h q H hm hp
      | true =>
        rw [hp0] at h
        cases hs : readSame A call T H0 o v with
        | false => rw [hs] at h; cases h
        | true => rw [hs] at h; exact readAll_spec h q H hm hp
theorem readAll_tail {call : CallT} {T : TM} {o : Op} {v : AV} {r rm : Nat} {all : List OI} {q : Nat} {H0 : AH} {lv : List (Nat × AH)} (h : readAll A call T o v r rm all ((q, H0) :: lv) = true) : readAll A call T o v r rm all lv = true := by
  unfold readAll at h
  cases hp : possible r rm q all 0 with
  | false => rw [hp] at h; exact h
  | true =>
    rw [hp] at h
    cases hs : readSame A call T H0 o v with
    | false => rw [hs] at h; cases h
    | true => rw [hs] at h; exact h
theorem readsOK_spec {call : CallT} {all : List OI} {H0 : AH} {lv : List (Nat × AH)} : ∀ {c : Bool} {os : List Oper} {xs : List OI} {es : List Ent} {i : Nat}, readsOK A call all H0 lv c os xs es i = true → ∀ k o x e, os[k]? = some o → xs[k]? = some x → es[k]? = some e →
    x.kind = .read → e.on = true → readAll A call e.T o.op e.v (i + k) x.mask all lv = true ∧ (readAll A call e.T o.op e.v (i + k) x.mask all ((0, H0) :: lv) = true ∨ (c = true ∧ ∀ j, j < k → ∃ y, xs[j]? = some y ∧ stillK y.kind = true))
  | _, [], _, _, _, _, k, o, _, _, ho, _, _, _, _ => by simp at ho
  | _, _ :: _, [], _, _, _, k, o, _, _, _, hx, _, _, _ => by simp at hx
  | _, _ :: _, _ :: _, [], _, _, k, o, _, _, _, _, he, _, _ => by simp at he
  | c, o0 :: os, x0 :: xs, e0 :: es, i, h, k, o, x, e, ho, hx, he, hk, hon => by
    have tl : ∃ c', readsOK A call all H0 lv c' os xs es (i + 1) = true ∧ (c' = true → c = true ∧ stillK x0.kind = true) ∧ (x0.kind = .read → e0.on = true → readAll A call e0.T o0.op e0.v i x0.mask all (cond c lv ((0, H0) :: lv)) = true) := by
      unfold readsOK at h
      split at h
      · rename_i hr0
        split at h
        · cases hr : readAll A call e0.T o0.op e0.v i x0.mask all (cond c lv ((0, H0) :: lv)) with
          | false => rw [hr] at h; cases h
          | true => rw [hr] at h; exact ⟨c, h, fun hc => ⟨hc, by rw [hr0]; rfl⟩, fun _ _ => rfl⟩
        · rename_i hon'; exact ⟨c, h, fun hc => ⟨hc, by rw [hr0]; rfl⟩, fun _ h2 => by rw [hon'] at h2; cases h2⟩
      · rename_i hne
        refine ⟨_, h, fun hc => ?_, fun h1 => absurd h1 (by intro h1; exact hne h1)⟩
        cases hs : stillK x0.kind with
        | false => rw [hs] at hc; cases hc
        | true => rw [hs] at hc; exact ⟨hc, rfl⟩
    obtain ⟨c', h1, h2, h3⟩ := tl
    cases k with
    | zero =>
      cases ho; cases hx; cases he
      have := h3 hk hon
      cases c with
      | true => exact ⟨this, .inr ⟨rfl, fun j hj => by omega⟩⟩
      | false => exact ⟨readAll_tail this, .inl this⟩
    | succ k =>
      have := readsOK_spec h1 k o x e (by simpa using ho) (by simpa using hx) (by simpa using he) hk hon
      rw [show i + (k + 1) = i + 1 + k by omega]
      refine ⟨this.1, this.2.imp id fun hc => ?_⟩
      obtain ⟨hc1, hc2⟩ := hc
      obtain ⟨g1, g2⟩ := h2 hc1
      refine ⟨g1, fun j hj => ?_⟩
      cases j with
      | zero => exact ⟨x0, rfl, g2⟩
      | succ j => simpa using hc2 j (by omega)
theorem levels_spec {e0 Hn : AH} : ∀ {xs : List OI} {es : List Ent} {i : Nat} (k : Nat) (x : OI), xs[k]? = some x → isEff x.kind = true → k < es.length →
    (i + k + 1, (match es[k + 1]? with | some f => f.H | none => Hn)) ∈ levels e0 xs es i Hn
  | [], _, _, k, x, hx, _, _ => by simp at hx
  | _ :: _, [], _, k, x, _, _, hlt => by simp at hlt
  | x0 :: xs, e1 :: es, i, k, x, hx, he, hlt => by
    unfold levels
    cases k with
    | zero =>
      cases hx
      rw [he]
      simp only [Nat.add_zero]
      cases es <;> simp
    | succ k =>
      have := levels_spec (e0 := e0) (Hn := Hn) (xs := xs) (es := es) (i := i + 1) k x (by simpa using hx) he (by simpa using hlt)
      rw [show i + (k + 1) + 1 = i + 1 + k + 1 by omega]
      have e : (e1 :: es)[k + 1 + 1]? = es[k + 1]? := by simp
      rw [e]
      split
      · exact List.mem_cons_of_mem _ this
      · exact this

/- THE RUN -/
structure DR (A : AP) (call : CallT) (l : List Oper) (b0 : Nat) where
  Ts : Nat → TM
  Hs : Nat → AH
  on : Nat → Bool
  vs : Nat → AV
  mask : Nat → Nat
  step : ∀ i o, l[i]? = some o → (on i = true ∧ wanted l (Ts i) o = some true ∧ opAt A call (Ts i) (Hs i) (b0 + i) o.op = some (vs i, Hs (i + 1)) ∧ (Ts i).put o.dst (vs i) = some (Ts (i + 1))) ∨
    (on i = false ∧ wanted l (Ts i) o = some false ∧ vs i = .tup [] ∧ Hs (i + 1) = Hs i ∧ (Ts i).put o.dst (.tup []) = some (Ts (i + 1)))
  edges : ∀ i o, l[i]? = some o → ∀ e ∈ o.after.toList, Binds e → e.on < i
  msk : ∀ i o, l[i]? = some o → ∀ j, bit (mask i) j = true → ∃ e ∈ o.after.toList, Binds e ∧ (j = e.on ∨ bit (mask e.on) j = true)
  pairs : ∀ i j oi oj, i < j → l[i]? = some oi → l[j]? = some oj → bit (mask j) i = true ∨
    (memO oi.dst (looksOf l oj) = false ∧ sameO oi.dst oj.dst = false ∧ memO oj.dst (looksOf l oi) = false ∧ (isEff (kindOf A oi.op) = true → isEff (kindOf A oj.op) = false))
  reads : ∀ i o, l[i]? = some o → kindOf A o.op = .read → on i = true → ∀ q, (q = 0 ∨ ∃ e oe, l[e]? = some oe ∧ isEff (kindOf A oe.op) = true ∧ q = e + 1) →
    (∀ k ok, l[k]? = some ok → isEff (kindOf A ok.op) = true → (k < q → bit (mask k) i = false) ∧ (q ≤ k → bit (mask i) k = false)) → ∃ H'', opEval A call (Ts i) (Hs q) o.op = some (vs i, H'')
def entT (T' : TM) (es : List Ent) (i : Nat) : TM := match es[i]? with | some e => e.T | none => T'
def entH (H' : AH) (es : List Ent) (i : Nat) : AH := match es[i]? with | some e => e.H | none => H'
def entOn (es : List Ent) (i : Nat) : Bool := match es[i]? with | some e => e.on | none => false
def entV (es : List Ent) (i : Nat) : AV := match es[i]? with | some e => e.v | none => .tup []
theorem runD_spec {call : CallT} {ops : List Oper} : ∀ {l : List Oper} {b : Nat} {T : TM} {H : AH} {es : List Ent} {T' : TM} {H' : AH}, runD A call ops b l T H = some (es, T', H') →
    es.length = l.length ∧ entT T' es 0 = T ∧ entH H' es 0 = H ∧
    ∀ i o, l[i]? = some o → (entOn es i = true ∧ wanted ops (entT T' es i) o = some true ∧ opAt A call (entT T' es i) (entH H' es i) (b + i) o.op = some (entV es i, entH H' es (i + 1)) ∧ (entT T' es i).put o.dst (entV es i) = some (entT T' es (i + 1))) ∨
    (entOn es i = false ∧ wanted ops (entT T' es i) o = some false ∧ entV es i = .tup [] ∧ entH H' es (i + 1) = entH H' es i ∧ (entT T' es i).put o.dst (.tup []) = some (entT T' es (i + 1)))
  | [], b, T, H, es, T', H', h => by
    cases h
    exact ⟨rfl, rfl, rfl, fun i o hi => by simp at hi⟩
  | o :: r, b, T, H, es, T', H', h => by
    unfold runD at h
    split at h
    · rename_i hw
      split at h
      · rename_i v H1 hv
        split at h
        · rename_i T1 hT1
          split at h
          · rename_i es1 T2 H2 hr
            cases h
            obtain ⟨h1, h2, h3, h4⟩ := runD_spec hr
            have hh : ∀ i, entT T' (⟨T, H, true, v⟩ :: es1) (i + 1) = entT T' es1 i ∧ entH H' (⟨T, H, true, v⟩ :: es1) (i + 1) = entH H' es1 i ∧ entOn (⟨T, H, true, v⟩ :: es1) (i + 1) = entOn es1 i ∧ entV (⟨T, H, true, v⟩ :: es1) (i + 1) = entV es1 i :=
              fun i => by simp [entT, entH, entOn, entV]
            refine ⟨by simp [h1], rfl, rfl, fun i o' hi => ?_⟩
            cases i with
            | zero =>
              cases hi
              refine .inl ⟨rfl, hw, ?_, ?_⟩
              · rw [(hh 0).2.1, h3]; exact hv
              · rw [(hh 0).1, h2]; exact hT1
            | succ i =>
              rw [(hh i).1, (hh i).2.1, (hh i).2.2.1, (hh i).2.2.2, (hh (i + 1)).1, (hh (i + 1)).2.1, show b + (i + 1) = b + 1 + i by omega]
              exact h4 i o' (by simpa using hi)
          · cases h
        · cases h
      · cases h
    · rename_i hw
      split at h
      · rename_i T1 hT1
        split at h
        · rename_i es1 T2 H2 hr
          cases h
          obtain ⟨h1, h2, h3, h4⟩ := runD_spec hr
          have hh : ∀ i, entT T' (⟨T, H, false, .tup []⟩ :: es1) (i + 1) = entT T' es1 i ∧ entH H' (⟨T, H, false, .tup []⟩ :: es1) (i + 1) = entH H' es1 i ∧ entOn (⟨T, H, false, .tup []⟩ :: es1) (i + 1) = entOn es1 i ∧ entV (⟨T, H, false, .tup []⟩ :: es1) (i + 1) = entV es1 i :=
            fun i => by simp [entT, entH, entOn, entV]
          refine ⟨by simp [h1], rfl, rfl, fun i o' hi => ?_⟩
          cases i with
          | zero =>
            cases hi
            refine .inr ⟨rfl, hw, rfl, ?_, ?_⟩
            · rw [(hh 0).2.1, h3]; rfl
            · rw [(hh 0).1, h2]; exact hT1
          | succ i =>
            rw [(hh i).1, (hh i).2.1, (hh i).2.2.1, (hh i).2.2.2, (hh (i + 1)).1, (hh (i + 1)).2.1, show b + (i + 1) = b + 1 + i by omega]
            exact h4 i o' (by simpa using hi)
        · cases h
      · cases h
    · cases h
end Go.AM
