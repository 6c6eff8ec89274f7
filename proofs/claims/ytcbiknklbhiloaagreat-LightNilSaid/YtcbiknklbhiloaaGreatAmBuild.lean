/- Lemmas on the evaluator over abstract memory: what it does is what the model does. Conditions: those of each statement. -/
import Derived.Test.YtcbiknklbhiloaaGreatAmMaps
namespace Go.AM
open Go
variable {A : AP} {P : Program} {ng : Nat} {m : Env} {H H' : AH} {w : World}

def PRel (m : Env) : List (Nat × AV) → List (Nat × Value) → Prop
  | [], vs => vs = []
  | p :: r, vs => ∃ v us, vs = (p.1, v) :: us ∧ VRel m p.2 v ∧ PRel m r us
theorem partsOf_rel (hI : Inv A.ng m H w) {T : TM} {a : Act} (hT : TRel m T a.tmps) : ∀ {ps : List (Nat × Operand)} {l : List (Nat × AV)}, partsOf A T ps = some l →
    PRel m l (ps.map fun p => (p.1, a.eval p.2))
  | [], l, h => by simp only [partsOf] at h; cases h; rfl
  | (i, x) :: ps, l, h => by
    unfold partsOf at h
    cases h1 : opd A T x with
    | none => rw [h1] at h; cases h
    | some u =>
      rw [h1] at h
      cases h2 : partsOf A T ps with
      | none => rw [h2] at h; cases h
      | some us => rw [h2] at h; cases h; exact ⟨a.eval x, _, rfl, opd_rel hI hT h1, partsOf_rel hI hT h2⟩
theorem foldl_laid (off : Nat) : ∀ (l : List Value) (k : Nat) (c : Array Value),
    (l.zipIdx k).foldl (fun cs (x : Value × Nat) => cs.setIfInBounds (off + x.2) x.1) c = laid c (off + k) l
  | [], _, _ => rfl
  | v :: l, k, c => by
    simp only [List.zipIdx_cons, List.foldl_cons, laid]
    rw [foldl_laid off l (k + 1)]
    rw [Nat.add_assoc]
theorem splice_laid {off : Nat} {vs cs cs' : List AV} {v c : List Value} (hv : VsRel m vs v) (hc : VsRel m cs c) (h : splice off vs cs = some cs') :
    VsRel m cs' (laid ⟨c⟩ off v).toList := by
  obtain ⟨e1, e2⟩ := splice_eq _ _ _ _ h
  have hl1 := hv.length
  have hl2 := hc.length
  have hsz : (⟨c⟩ : Array Value).size = c.length := rfl
  have hll : (laid ⟨c⟩ off v).toList.length = c.length := by rw [Array.length_toList, laid_size]; rfl
  refine VsRel.of_get (by rw [hll, e1]; simp; omega) fun k a hk => ?_
  rw [Array.getElem?_toList, laid_get _ _ _ _ (by rw [hsz]; omega)]
  rw [e1] at hk
  by_cases hin : off ≤ k ∧ k < off + vs.length
  · rw [if_pos (by omega)]
    rw [List.append_assoc, List.getElem?_append_right (by simp; omega), List.getElem?_append_left (by simp; omega)] at hk
    simp only [List.length_take] at hk
    obtain ⟨u, hu, hr⟩ := hv.get _ a hk
    refine ⟨u, ?_, hr⟩
    rw [← hu]
    congr 1
    omega
  · rw [if_neg (by omega)]
    have : cs[k]? = some a := by
      by_cases hlt : k < off
      · rw [List.append_assoc, List.getElem?_append_left (by simp; omega), List.getElem?_take, if_pos hlt] at hk
        exact hk
      · rw [List.append_assoc, List.getElem?_append_right (by simp; omega), List.getElem?_append_right (by simp; omega), List.getElem?_drop] at hk
        rw [← hk]
        congr 1
        simp; omega
    obtain ⟨u, hu, hr⟩ := hc.get k a this
    exact ⟨u, by rw [← hu]; simp, hr⟩
theorem fill_rel {place place' : Nat → Option (Nat × Nat)} (hpl : ∀ i x, place i = some x → place' i = some x) : ∀ {parts : List (Nat × AV)} {parts' : List (Nat × Value)} {cs l : List AV} {c : List Value},
    VsRel m cs c → PRel m parts parts' → fill place cs parts = some l → ∃ lv, Instr.fill place' ⟨c⟩ parts' = some lv ∧ VsRel m l lv.toList
  | [], parts', cs, l, c, hc, hp, h => by
    have e : parts' = [] := hp
    subst e
    simp only [fill] at h; cases h
    exact ⟨⟨c⟩, rfl, hc⟩
  | (i, v) :: r, parts', cs, l, c, hc, hp, h => by
    obtain ⟨u, us, rfl, hu, hr⟩ := hp
    unfold fill at h
    split at h
    · rename_i off size hpi
      split at h
      · rename_i hsz
        split at h
        · rename_i cs' hsp
          have hcells := hu.cells
          have hsl := splice_laid hcells hc hsp
          obtain ⟨_, hle⟩ := splice_eq _ _ _ _ hsp
          have e1 : u.cells.size = size := by
            have := hcells.length
            rw [beq_iff.1 hsz] at this
            simpa using this.symm
          have hcl := hc.length
          have e2 := beq_iff.1 hsz
          obtain ⟨lv, h1, h2⟩ := fill_rel hpl hsl hr h
          refine ⟨lv, ?_, h2⟩
          unfold Instr.fill
          rw [hpl i _ hpi]
          have hsz2 : (⟨c⟩ : Array Value).size = c.length := rfl
          have hno : ¬(u.cells.size ≠ size ∨ off + u.cells.size > (⟨c⟩ : Array Value).size) := by
            rw [hsz2, e1]; omega
          simp only
          have hno' : (decide (u.cells.size ≠ size) || decide (off + u.cells.size > (⟨c⟩ : Array Value).size)) = false := by
            simpa using hno
          simp only [ne_eq, e1, not_true_eq_false, decide_false, Bool.false_or] at hno' ⊢
          rw [if_neg (by simpa using hno')]
          rw [← Array.foldl_toList, Array.toList_zipIdx, foldl_laid]
          simpa using h1
        · cases h
      · cases h
    · cases h
theorem run_places' (hA : APok A P) : ∀ (fs : List Field), allSized A fs = true → ∃ places, (fs.mapM fun f => Prod.mk f.offset <$> sizeOf f.type).run P w = .ok places w ∧
    ∀ i, placeS A fs i = places[i]?
  | [], _ => ⟨[], rfl, fun i => by simp [placeS, nth]⟩
  | f :: fs, h => by
    unfold allSized at h
    split at h
    · rename_i n hn
      obtain ⟨places, h1, h2⟩ := run_places' hA fs h
      refine ⟨(f.offset, n) :: places, ?_, ?_⟩
      · simp [List.mapM_cons, run_sizeOf hA hn, h1]
      · intro i
        cases i with
        | zero => simp [placeS, nth, hn]
        | succ i =>
          have := h2 i
          simp only [placeS, nth] at this ⊢
          simpa using this
    · cases h
theorem build_rel (hA : APok A P) {t : Nat} {parts : List (Nat × AV)} {parts' : Array (Nat × Value)} {v : AV} (hp : PRel m parts parts'.toList) (h : build A t parts = some v) :
    ∃ v', (Instr.build t parts').run P w = .ok v' w ∧ VRel m v v' := by
  have oa : ∀ {o : Option (List AV)}, oagg o = some v → ∃ l, o = some l ∧ v = .agg l := by
    intro o ho; cases o with | none => cases ho | some b => cases ho; exact ⟨b, rfl, rfl⟩
  unfold build at h
  split at h
  · rename_i z hz
    obtain ⟨zv, hzr, hzv⟩ := run_zero (P := P) hA m hz w
    have hzc := hzv.cells
    split at h
    · rename_i fs hd
      split at h
      · rename_i hsz
        obtain ⟨l, hl, rfl⟩ := oa h
        obtain ⟨places, h1, h2⟩ := run_places' (P := P) (w := w) hA fs.toList hsz
        obtain ⟨lv, h3, h4⟩ := fill_rel (place' := fun i => places[i]?) (fun i x hx => by rw [h2 i] at hx; exact hx) hzc hp hl
        refine ⟨.agg lv, ?_, by simp only [VRel]; exact ⟨lv.toList, by simp, h4⟩⟩
        have h3' : Instr.fill (fun i => places[i]?) zv.cells parts'.toList = some lv := by simpa using h3
        simp [Instr.build, hzr, run_und hA hd, Array.mapM_eq_mapM_toList, h1, h3']
      · cases h
    · rename_i k e hd
      split at h
      · rename_i es hes
        obtain ⟨l, hl, rfl⟩ := oa h
        obtain ⟨lv, h3, h4⟩ := fill_rel (place' := fun i => some (i * es, es)) (fun i x hx => hx) hzc hp hl
        refine ⟨.agg lv, ?_, by simp only [VRel]; exact ⟨lv.toList, by simp, h4⟩⟩
        have h3' : Instr.fill (fun i => some (i * es, es)) zv.cells parts'.toList = some lv := by simpa using h3
        simp [Instr.build, hzr, run_und hA hd, run_sizeOf hA hes, h3']
      · cases h
    · cases h
  · cases h

/- LENGTHS -/
theorem len_rel (hA : APok A P) (hI : Inv ng m H w) {t : Nat} {ts : List Nat} {x v : AV} {x' : Value} {rest : List Value} (hx : VRel m x x') (h : lenB A H t x = some v) (ty : TypeId) :
    ∃ v', (Builtin.len_ (t :: ts).toArray ty (x' :: rest).toArray).run P w = .ok v' w ∧ VRel m v v' := by
  unfold lenB at h
  split at h
  · rename_i hd
    split at h
    · cases h; simp only [VRel] at hx; subst hx
      exact ⟨_, by simp [Builtin.len_, run_und hA hd]; rfl, by simp only [VRel, bstr_size, goInt]⟩
    · cases h
  · rename_i n e hd
    cases h
    exact ⟨_, by simp [Builtin.len_, run_und hA hd]; rfl, by simp only [VRel, goInt]⟩
  · rename_i e hd
    split at h
    · cases h; simp only [VRel] at hx; obtain ⟨_, _, _, _, _, rfl, _⟩ := hx
      exact ⟨_, by simp [Builtin.len_, run_und hA hd]; rfl, by simp only [VRel, goInt]⟩
    · cases h; simp only [VRel] at hx; subst hx
      exact ⟨_, by simp [Builtin.len_, run_und hA hd]; rfl, by simp only [VRel, goInt]⟩
    · cases h
  · rename_i k e hd
    split at h
    · cases h; simp only [VRel] at hx; subst hx
      exact ⟨_, by simp [Builtin.len_, run_und hA hd]; rfl, by simp only [VRel, goInt]⟩
    · rename_i r
      split at h
      · rename_i es clock hm
        cases h
        simp only [VRel] at hx
        obtain ⟨ar, hr, rfl⟩ := hx
        obtain ⟨hg, es', hw, he⟩ := mapAt_spec hI hr hm
        have hl : es.length = es'.size := by
          rw [← Array.length_toList]
          clear hw hm hg
          generalize es'.toList = l at he
          induction es generalizing l with
          | nil => have e : l = [] := he; subst e; rfl
          | cons e r ih => obtain ⟨y, ys, rfl, _, _, _, h4⟩ := he; simp [ih _ h4]
        exact ⟨_, by simp [Builtin.len_, run_und hA hd, run_getObj_map hw]; rfl, by simp only [VRel, goInt, hl]⟩
      · cases h
    · cases h
  · cases h
theorem cap_rel (hA : APok A P) (hI : Inv ng m H w) {t : Nat} {ts : List Nat} {x v : AV} {x' : Value} {rest : List Value} (hx : VRel m x x') (h : capB A H t x = some v) (ty : TypeId) :
    ∃ v', (Builtin.cap_ (t :: ts).toArray ty (x' :: rest).toArray).run P w = .ok v' w ∧ VRel m v v' := by
  unfold capB at h
  split at h
  · rename_i e hd
    split at h
    · cases h; simp only [VRel] at hx; obtain ⟨_, _, _, c, _, rfl, hc, _⟩ := hx
      simp only [capR] at hc; subst hc
      exact ⟨_, by simp [Builtin.cap_, run_und hA hd]; rfl, by simp only [VRel, goInt]⟩
    · split at h
      · rename_i c0 hs
        cases h; simp only [VRel] at hx; obtain ⟨_, _, _, c, hb, rfl, hc, _⟩ := hx
        exact ⟨_, by simp [Builtin.cap_, run_und hA hd]; rfl, by simp only [VRel, goInt]; exact ⟨c, sure_le hI hb hs hc, rfl⟩⟩
      · cases h
    · cases h; simp only [VRel] at hx; subst hx
      exact ⟨_, by simp [Builtin.cap_, run_und hA hd]; rfl, by simp only [VRel, goInt]⟩
    · cases h
  · cases h
theorem minMaxL_rel {f : Int → Int → Int} {g : Value → Value → Sem Value} (hg : ∀ k x k' y, (g (.int k x) (.int k' y)).run P w = .ok (.int k (f x y)) w) :
    ∀ {r : List AV} {r' : List Value} {a v : AV} {a' : Value}, VsRel m r r' → VRel m a a' → minMaxL f r a = some v → ∃ v', (r'.foldlM g a').run P w = .ok v' w ∧ VRel m v v'
  | [], r', a, v, a', hr, ha, h => by simp only [VsRel] at hr; subst hr; simp only [minMaxL] at h; cases h; exact ⟨a', rfl, ha⟩
  | b :: r, r', a, v, a', hr, ha, h => by
    simp only [VsRel] at hr
    obtain ⟨b', r'', rfl, hb, hr⟩ := hr
    unfold minMaxL at h
    split at h
    · rename_i c hc
      unfold minMax at hc
      split at hc
      · rename_i k x
        split at hc
        · rename_i k' y
          cases hc
          simp only [VRel] at ha hb; subst ha; subst hb
          obtain ⟨v', h1, h2⟩ := minMaxL_rel hg hr (a' := .int k (f x y)) (by simp only [VRel]) h
          refine ⟨v', ?_, h2⟩
          simp only [List.foldlM_cons, Sem.run_bind, hg, Result.andThen_ok, h1]
        · cases hc
      · cases hc
    · cases h
theorem min_rel {r : List AV} {r' : List Value} {a v : AV} {a' : Value} (hr : VsRel m r r') (ha : VRel m a a') (h : minMaxL minOf r a = some v) (ts : Array TypeId) (ty : TypeId) :
    ∃ v', (Builtin.min_ ts ty (a' :: r').toArray).run P w = .ok v' w ∧ VRel m v v' := by
  obtain ⟨v', h1, h2⟩ := minMaxL_rel (P := P) (w := w) (g := Builtin.min2) (fun k x k' y => by
    simp only [Builtin.min2, minOf, iLt_eq, Sem.run_pure]
    congr 2
    by_cases h : y < x <;> simp [h]) hr ha h
  exact ⟨v', by simpa [Builtin.min_] using h1, h2⟩
theorem max_rel {r : List AV} {r' : List Value} {a v : AV} {a' : Value} (hr : VsRel m r r') (ha : VRel m a a') (h : minMaxL maxOf r a = some v) (ts : Array TypeId) (ty : TypeId) :
    ∃ v', (Builtin.max_ ts ty (a' :: r').toArray).run P w = .ok v' w ∧ VRel m v v' := by
  obtain ⟨v', h1, h2⟩ := minMaxL_rel (P := P) (w := w) (g := Builtin.max2) (fun k x k' y => by
    simp only [Builtin.max2, maxOf, iLt_eq, Sem.run_pure]
    congr 2
    by_cases h : x < y <;> simp [h]) hr ha h
  exact ⟨v', by simpa [Builtin.max_] using h1, h2⟩
end Go.AM
