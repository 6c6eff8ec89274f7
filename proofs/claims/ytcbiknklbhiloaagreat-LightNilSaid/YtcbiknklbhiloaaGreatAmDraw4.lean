/- Lemmas on the evaluator over abstract memory: what it does is what the model does. Conditions: those of each statement. -/
import Derived.Test.YtcbiknklbhiloaaGreatAmDraw3
namespace Go.AM
open Go
variable {A : AP} {P : Program} {ng : Nat} {m : Env} {H H' : AH} {w : World}

theorem nth_some {l : List Nat} {k : Nat} {M : Nat} (h : l[k]? = some M) : l.getD k 0 = M := by simp [h]
theorem runDraw_spec {call : CallT} {l : List Oper} {T T' : TM} (h : runDraw A call l T H = some (T', H')) :
    ∃ d : DR A call l H.nx, d.Ts 0 = T ∧ d.Hs 0 = ⟨H.nx + l.length, H.t⟩ ∧ d.Ts l.length = T' ∧ d.Hs l.length = H' := by
  unfold runDraw at h
  split at h
  · rename_i xs hxs
    split at h
    · rename_i es T1 H1 hr
      cases hok : readsOK A call xs ⟨H.nx + l.length, H.t⟩ (levels H xs es 0 H1) true l xs es 0 with
      | false => rw [hok] at h; cases h
      | true =>
        rw [hok] at h; cases h
        unfold drawInfo at hxs
        split at hxs
        · rename_i ms hms
          split at hxs
          · rename_i hrows
            cases hxs
            obtain ⟨hl, h0, hT, hstep⟩ := runD_spec hr
            obtain ⟨m1, _, m3⟩ := masks_spec hms
            simp only [List.length_nil, Nat.zero_add] at m1 m3
            obtain ⟨i1, i2⟩ := infoOf_spec (ops := l) m1
            have info : ∀ i o, l[i]? = some o → (infoOf A l l ms)[i]? = some (OI.mk o.dst (looksOf l o) (kindOf A o.op) (ms.getD i 0)) := by
              intro i o hi
              obtain ⟨M, hM, _⟩ := m3 i o hi
              rw [i2 i o M hi hM, nth_some hM]
            have noinfo : ∀ i x, (infoOf A l l ms)[i]? = some x → ∃ o, l[i]? = some o ∧ x = OI.mk o.dst (looksOf l o) (kindOf A o.op) (ms.getD i 0) := by
              intro i x hx
              have hlt : i < l.length := by rw [← i1]; exact (List.getElem?_eq_some_iff.1 hx).1
              have ho : l[i]? = some l[i] := by simp [hlt]
              rw [info i _ ho] at hx
              cases hx
              exact ⟨_, ho, rfl⟩
            refine ⟨⟨entT T' es, entH H' es, entOn es, entV es, fun i => ms.getD i 0, hstep, ?_, ?_, ?_, ?_⟩, h0, hT, ?_, ?_⟩
            · intro i o hi e he hb
              obtain ⟨M, hM, hE⟩ := m3 i o hi
              have := (edgeMask_spec hE).1 e he hb
              simp only [List.length_take] at this
              omega
            · intro i o hi j hj
              obtain ⟨M, hM, hE⟩ := m3 i o hi
              simp only [nth_some hM] at hj
              obtain ⟨e, he, hb, hj⟩ := (edgeMask_spec hE).2 j hj
              refine ⟨e, he, hb, hj.imp id ?_⟩
              rintro ⟨mm, h1, h2⟩
              rw [List.getElem?_take] at h1
              split at h1
              · simp only [nth_some h1]; exact h2
              · cases h1
            · intro i j oi oj hij hi hj
              have := rowsOK_spec (seen := []) hrows j _ (info j oj hj) i _ (by simpa using info i oi hi) (by simpa using hij)
              exact pairOK_spec this
            · intro i o hi hk hon q hq hpos
              have hlt : i < l.length := (List.getElem?_eq_some_iff.1 hi).1
              have he : ∃ e, es[i]? = some e := ⟨es[i], by simp [hl, hlt]⟩
              obtain ⟨e, he⟩ := he
              have hon' : e.on = true := by simpa [entOn, he] using hon
              have := readsOK_spec hok i o _ e hi (info i o hi) he hk hon'
              rw [Nat.zero_add] at this
              have hps : possible i (ms.getD i 0) q (infoOf A l l ms) 0 = true := possible_spec fun k x hx hxe => by
                obtain ⟨o', ho', rfl⟩ := noinfo k x hx
                have := hpos k o' ho' hxe
                simpa using this
              rcases hq with rfl | ⟨k, ok, hk1, hk2, rfl⟩
              · rcases this.2 with h0' | ⟨_, hcl⟩
                · obtain ⟨H'', hE⟩ := readAll_spec h0' 0 _ (by rw [← hT]; exact List.mem_cons_self) hps
                  exact ⟨H'', by simpa [entT, entV, he] using hE⟩
                · -- all ahead leave the memory
                  have same : ∀ j, j ≤ i → entH H' es j = entH H' es 0 := by
                    intro j
                    induction j with
                    | zero => intro _; rfl
                    | succ j ih =>
                      intro hj
                      rw [← ih (by omega)]
                      have hoj : l[j]? = some l[j] := List.getElem?_eq_getElem (by omega)
                      obtain ⟨y, hy, hst⟩ := hcl j (by omega)
                      rw [info j _ hoj] at hy
                      cases hy
                      have hst : stillK (kindOf A l[j].op) = true := hst
                      rcases hstep j _ hoj with ⟨_, _, hat, _⟩ | ⟨_, _, _, hH, _⟩
                      · unfold opAt at hat
                        cases hkj : kindOf A l[j].op with
                        | alloc => rw [hkj] at hst; cases hst
                        | eff => rw [hkj] at hst; cases hst
                        | pure => rw [hkj] at hat; exact (pure_any hkj hat).1
                        | read => rw [hkj] at hat; exact read_same hkj hat
                      · exact hH
                  rcases hstep i o hi with ⟨_, _, hat, _⟩ | ⟨hoff, _⟩
                  · unfold opAt at hat
                    rw [hk] at hat
                    rw [same i (Nat.le_refl _)] at hat
                    exact ⟨_, hat⟩
                  · rw [hon] at hoff; cases hoff
              · have hkl : k < es.length := by rw [hl]; exact (List.getElem?_eq_some_iff.1 hk1).1
                have hm := levels_spec (e0 := H) (Hn := H') (xs := infoOf A l l ms) (es := es) (i := 0) k _ (info k ok hk1) hk2 hkl
                rw [Nat.zero_add] at hm
                obtain ⟨H'', hE⟩ := readAll_spec this.1 (k + 1) _ hm hps
                refine ⟨H'', ?_⟩
                show opEval A call (entT T' es i) (entH H' es (k + 1)) o.op = some (entV es i, H'')
                simp only [entT, entV, he]
                exact hE
            · simp [entT, hl]
            · simp [entH, hl]
          · cases hxs
        · cases hxs
    · cases h
  · cases h

theorem allocOf_wr {T : TM} {o : Op} {ob : AO} {mk : Mk} (h : allocOf A T o = some (ob, mk)) : ob.wr = true := by
  cases o <;> simp only [allocOf] at h <;> try (cases h; done)
  case alloc e =>
    unfold allocAlloc at h
    split at h
    · rw [(cellsOb_eq h).1]; rfl
    · cases h
  case box e x =>
    unfold allocBox at h
    split at h
    · rw [(cellsOb_eq h).1]; rfl
    · cases h
  case buildSlice t n ps =>
    unfold allocSlice at h
    repeat' split at h
    all_goals first | (cases h; done) | (rw [(cellsOb_eq h).1]; rfl)
  case makeMap t r =>
    cases r with
    | none => cases h; rfl
    | some r => cases h
theorem alloc_all (hA : APok A P) (hI : Inv A.ng m H w) {T : TM} {a : Act} (hT : TRel m T a.tmps) {o : Oper} {ob : AO} {mk : Mk} (h : allocOf A T o.op = some (ob, mk)) :
    ∃ s : Sem Value, execOp a.eval o = (do pure (.value (← s))) ∧ AllocOK P m w s ob mk := by
  obtain ⟨dst, op, type, pos, after, guard⟩ := o
  cases op <;> simp only [allocOf] at h <;> try (cases h; done)
  case alloc e => exact ⟨_, rfl, alloc_ok hA h⟩
  case box e x => exact ⟨_, rfl, box_ok hI hT h⟩
  case buildSlice t n ps => exact ⟨_, rfl, buildSlice_ok hA hI hT h⟩
  case makeMap t r =>
    cases r with
    | none => cases h; exact ⟨_, rfl, makeMap_ok⟩
    | some r => cases h

/- THE INVARIANT OF A DRAWN REGION -/
section
variable {call : CallT} {l : List Oper} {b0 : Nat}
def EffAt (A : AP) (l : List Oper) (i : Nat) : Prop := ∃ o, l[i]? = some o ∧ isEff (kindOf A o.op) = true
def AlAt (d : DR A call l b0) (i : Nat) : Prop := ∃ o, l[i]? = some o ∧ kindOf A o.op = .alloc ∧ d.on i = true
open Classical in
noncomputable def valAt (d : DR A call l b0) (S : Nat → Prop) (t : Nat) : Nat → Option AV
  | 0 => (d.Ts 0).get t
  | k + 1 => if S k ∧ (l[k]?).bind (·.dst) = some t then some (d.vs k) else valAt d S t k
structure DI (d : DR A call l b0) (m0 : Env) (H0 : AH) (w0 : World) (S : Nat → Prop) (q : Nat) (m : Env) (K : AH) (TS : TM) (a : Act) (w : World) : Prop where
  qn : q = 0 ∨ ∃ e, q = e + 1 ∧ EffAt A l e
  eff : ∀ i, EffAt A l i → (S i ↔ i < q)
  down : ∀ i, i < l.length → S i → ∀ j, bit (d.mask i) j = true → S j
  inv : Inv A.ng m K w
  knx : K.nx = (d.Hs q).nx
  ka : ∀ i, q ≤ i → AlAt d i → K.get (b0 + i) = (d.Hs (i + 1)).get (b0 + i)
  kb : ∀ b, (∀ i, q ≤ i → AlAt d i → b ≠ b0 + i) → K.get b = (d.Hs q).get b
  nn : ∀ i, q ≤ i → AlAt d i → (d.Hs q).get (b0 + i) = none
  pend : ∀ i, ¬ S i → AlAt d i → K.get (b0 + i) = (d.Hs (i + 1)).get (b0 + i)
  unm : ∀ i, i < l.length → ¬ S i → m.blk (b0 + i) = none
  big : b0 + l.length ≤ (d.Hs q).nx
  tm : TRel m TS a.tmps
  tv : ∀ t, TS.get t = valAt d S t l.length
  tn : TS.n = (d.Ts 0).n
  df : a.defers = []
  stp : Stp m0 H0 w0 m K w
  lo : H0.nx = b0
  gl : A.ng ≤ b0

variable {d : DR A call l b0}
theorem AlAt.lt {i : Nat} (h : AlAt d i) : i < l.length := by obtain ⟨o, ho, _⟩ := h; exact (List.getElem?_eq_some_iff.1 ho).1
theorem EffAt.lt {i : Nat} (h : EffAt A l i) : i < l.length := by obtain ⟨o, ho, _⟩ := h; exact (List.getElem?_eq_some_iff.1 ho).1
/-- an alloc: what it writes into the abstract memory -/
theorem AlAt.spec {i : Nat} (h : AlAt d i) : ∃ o ob mk, l[i]? = some o ∧ allocOf A (d.Ts i) o.op = some (ob, mk) ∧ d.vs i = mk.val (b0 + i) ∧ True ∧ d.Hs (i + 1) = (d.Hs i).set (b0 + i) (some ob) ∧ (d.Hs (i + 1)).get (b0 + i) = some ob := by
  obtain ⟨o, ho, hk, hon⟩ := h
  rcases d.step i o ho with ⟨_, _, hat, _⟩ | ⟨hoff, _⟩
  · unfold opAt at hat
    rw [hk] at hat
    simp only at hat
    unfold putOb at hat
    split at hat
    · rename_i ob mk hal
      simp only [Option.some.injEq, Prod.mk.injEq] at hat
      refine ⟨o, ob, mk, ho, hal, hat.1.symm, trivial, hat.2.symm, ?_⟩
      rw [← hat.2]; exact AH.get_set
    · cases hat
  · rw [hon] at hoff; cases hoff
/-- one step that is no effect and no alloc leaves the abstract memory -/
theorem still_step {i : Nat} (hi : i < l.length) (he : ¬ EffAt A l i) (ha : ¬ AlAt d i) : d.Hs (i + 1) = d.Hs i := by
  have ho : l[i]? = some l[i] := by simp [hi]
  generalize l[i] = o at ho
  rcases d.step i o ho with ⟨hon, _, hat, _⟩ | ⟨_, _, _, hH, _⟩
  · unfold opAt at hat
    cases hk : kindOf A o.op with
    | alloc => exact absurd ⟨o, ho, hk, hon⟩ ha
    | eff => exact absurd ⟨o, ho, by rw [hk]; rfl⟩ he
    | pure => rw [hk] at hat; exact (pure_any hk hat).1
    | read => rw [hk] at hat; exact read_same hk hat
  · exact hH
theorem quiet : ∀ (k q : Nat), q + k ≤ l.length → (∀ i, q ≤ i → i < q + k → ¬ EffAt A l i) →
    (d.Hs (q + k)).nx = (d.Hs q).nx ∧ (∀ b, (∀ i, q ≤ i → i < q + k → AlAt d i → b ≠ b0 + i) → (d.Hs (q + k)).get b = (d.Hs q).get b) ∧
    ∀ i, q ≤ i → i < q + k → AlAt d i → (d.Hs (q + k)).get (b0 + i) = (d.Hs (i + 1)).get (b0 + i)
  | 0, q, _, _ => ⟨rfl, fun _ _ => rfl, fun i h1 h2 => by omega⟩
  | k + 1, q, hle, hne => by
    obtain ⟨h1, h2, h3⟩ := quiet k q (by omega) (fun i a b => hne i a (by omega))
    rw [show q + (k + 1) = (q + k) + 1 by omega] at *
    by_cases ha : AlAt d (q + k)
    · obtain ⟨o, ob, mk, ho, hal, hv, hlt, hset, hget⟩ := ha.spec
      refine ⟨by rw [hset]; exact h1, fun b hb => ?_, fun i hi1 hi2 hai => ?_⟩
      · rw [hset, AH.get_set_ne (hb (q + k) (by omega) (by omega) ha)]
        exact h2 b fun i hi1 hi2 => hb i hi1 (by omega)
      · by_cases e : i = q + k
        · subst e; rfl
        · rw [hset, AH.get_set_ne (by omega)]
          exact h3 i hi1 (by omega) hai
    · rw [still_step (by omega) (hne (q + k) (by omega) (by omega)) ha]
      refine ⟨h1, fun b hb => h2 b fun i hi1 hi2 => hb i hi1 (by omega), fun i hi1 hi2 hai => ?_⟩
      by_cases e : i = q + k
      · subst e; exact absurd hai ha
      · exact h3 i hi1 (by omega) hai

/- the temporaries -/
theorem put_get {T T' : TM} {dst : Option Nat} {v : AV} (h : T.put dst v = some T') : T'.n = T.n ∧ ∀ t, T'.get t = if dst = some t then some v else T.get t := by
  cases dst with
  | none => cases h; exact ⟨rfl, fun t => by simp⟩
  | some x =>
    have h : T.set x v = some T' := h
    refine ⟨(TM.set_n h).1, fun t => ?_⟩
    rw [TM.set_get h]
    by_cases e : t = x
    · subst e; simp
    · rw [if_neg e, if_neg (by simpa using fun e' => e e'.symm)]
theorem Ts_spec : ∀ k, k ≤ l.length → (d.Ts k).n = (d.Ts 0).n ∧ ∀ t, (d.Ts k).get t = valAt d (fun _ => True) t k
  | 0, _ => ⟨rfl, fun t => rfl⟩
  | k + 1, hk => by
    obtain ⟨h1, h2⟩ := Ts_spec k (by omega)
    have ho : l[k]? = some l[k] := List.getElem?_eq_getElem (by omega)
    have : ∃ v, v = d.vs k ∧ (d.Ts k).put l[k].dst v = some (d.Ts (k + 1)) := by
      rcases d.step k _ ho with ⟨_, _, _, hp⟩ | ⟨_, _, hv, _, hp⟩
      · exact ⟨_, rfl, hp⟩
      · exact ⟨_, hv.symm, hp⟩
    obtain ⟨v, rfl, hp⟩ := this
    obtain ⟨p1, p2⟩ := put_get hp
    refine ⟨by rw [p1, h1], fun t => ?_⟩
    rw [p2, valAt, ho]
    simp only [Option.bind_some, true_and]
    rw [h2]
theorem memO_false {x : Nat} {l : List Nat} (h : memO (some x) l = false) : x ∉ l := by
  have : mem x l = false := h
  clear h
  induction l with
  | nil => simp
  | cons y r ih =>
    unfold mem at this
    cases hb : Nat.beq x y with
    | true => rw [hb] at this; cases this
    | false =>
      rw [hb] at this
      rw [beq_false] at hb
      simp only [List.mem_cons, not_or]
      exact ⟨hb, ih this⟩
theorem sameO_false {x y : Nat} (h : sameO (some x) (some y) = false) : x ≠ y := beq_false.1 h
end
end Go.AM
