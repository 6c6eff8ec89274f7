/- Whatever the evaluator answers of a call, the model's call comes to. Conditions: the program's tables and the summaries are sound. -/
import Derived.Test.YtcbiknklbhiloaaGreatAmDraw6
namespace Go.AM
open Go
variable {A : AP} {P : Program} {ng : Nat} {m : Env} {H H' : AH} {w : World}

theorem countP_same {p p' : Nat → Bool} : ∀ n, (∀ i, i < n → p i = p' i) → (List.range n).countP p = (List.range n).countP p'
  | 0, _ => rfl
  | n + 1, h => by
    rw [List.range_succ, List.countP_append, List.countP_append, countP_same n fun i hi => h i (by omega)]
    simp only [List.countP_cons, List.countP_nil, h n (by omega)]
theorem countP_one {p p' : Nat → Bool} {j : Nat} (h1 : p j = true) (h2 : p' j = false) (h : ∀ i, i ≠ j → p i = p' i) : ∀ n, j < n → (List.range n).countP p = (List.range n).countP p' + 1
  | 0, hj => by omega
  | n + 1, hj => by
    rw [List.range_succ, List.countP_append, List.countP_append]
    by_cases e : j = n
    · subst e
      rw [countP_same j fun i hi => h i (by omega)]
      simp [h1, h2]
    · rw [countP_one h1 h2 h n (by omega)]
      simp only [List.countP_cons, List.countP_nil, h n (fun e' => e e'.symm)]
      omega
section
variable {call : CallT} {l : List Oper} {b0 : Nat} {d : DR A call l b0} {m0 : Env} {H0 : AH} {w0 : World}

def isIn (ls : Array Bool) (i : Nat) : Prop := ls.getD i false = true
def cnt (n : Nat) (ls : Array Bool) : Nat := (List.range n).countP fun i => !ls.getD i false
theorem ready_nil (d : DR A call l b0) {ops : Array Oper} (hl : ops.toList = l) {ls : Array Bool} (hs : ls.size = l.length) (h : Region.ready .any ops ls = []) : ∀ n i, i < n → i < l.length → isIn ls i
  | 0, i, hi, _ => by omega
  | n + 1, i, hi, hil => by
    have ih := ready_nil d hl hs h n
    cases hg : ls.getD i false with
    | true => exact hg
    | false =>
      have hoi : l[i]? = some l[i] := List.getElem?_eq_getElem hil
      have : i ∈ Region.ready .any ops ls := by
        rw [mem_ready]
        refine ⟨?_, l[i], by rw [← Array.getElem?_toList, hl]; exact hoi, fun e he hb => ?_⟩
        · have : i < ls.size := by omega
          simp only [Array.getD_eq_getD_getElem?] at hg ⊢
          rw [Array.getElem?_eq_getElem this] at hg ⊢
          exact hg
        · have := d.edges i _ hoi e (Array.mem_toList_iff.2 he) hb
          exact ih e.on (by omega) (by omega)
      rw [h] at this
      simp at this
theorem any_ok (hA : APok A P) (hc : CallOK A P call) {ops : Array Oper} (hl : ops.toList = l) {Q : Exit → Act → World → Prop}
    (hQ : ∀ a' w' m', SRel A m' (d.Ts l.length) (d.Hs l.length) a' w' → Stp m0 H0 w0 m' (d.Hs l.length) w' → Q .normal a' w') :
    ∀ (fuel : Nat) (ls : Array Bool) (a : Act) (w : World), ls.size = l.length → cnt l.length ls = fuel → (∃ q m K TS, DI d m0 H0 w0 (isIn ls) q m K TS a w) → wpAny P .any ops Q fuel ls a w := by
  have fin : ∀ (ls : Array Bool) (a : Act) (w : World), ls.size = l.length → (∃ q m K TS, DI d m0 H0 w0 (isIn ls) q m K TS a w) → Region.ready .any ops ls = [] → Q .normal a w := by
    rintro ls a w hs ⟨q, m, K, TS, hD⟩ hr
    obtain ⟨e1, e2⟩ := di_end hD fun i hi => ready_nil d hl hs hr (i + 1) i (by omega) hi
    exact hQ _ _ _ e1 e2
  intro fuel
  induction fuel with
  | zero =>
    intro ls a w hs hcnt hD
    have hr : Region.ready .any ops ls = [] := by
      cases hr : Region.ready .any ops ls with
      | nil => rfl
      | cons j r =>
        have hj : j ∈ Region.ready .any ops ls := by rw [hr]; simp
        rw [mem_ready] at hj
        obtain ⟨h0, o, ho, _⟩ := hj
        have hlt : j < l.length := by
          rw [← hl]; simpa using (Array.getElem?_eq_some_iff.1 ho).1
        have h0' : ls.getD j false = false := by
          have : j < ls.size := by omega
          simp only [Array.getD_eq_getD_getElem?] at h0 ⊢
          rw [Array.getElem?_eq_getElem this] at h0 ⊢
          exact h0
        unfold cnt at hcnt
        rw [List.countP_eq_zero] at hcnt
        have := hcnt j (List.mem_range.2 hlt)
        rw [h0'] at this
        simp at this
    exact ⟨hr, fin ls a w hs hD hr⟩
  | succ fuel ih =>
    intro ls a w hs hcnt hD
    refine ⟨fin ls a w hs hD, fun j hj => ?_⟩
    obtain ⟨q, m, K, TS, hD⟩ := hD
    rw [mem_ready] at hj
    obtain ⟨h0, o, ho, hed⟩ := hj
    have hlt : j < l.length := by rw [← hl]; simpa using (Array.getElem?_eq_some_iff.1 ho).1
    have hlo : l[j]? = some o := by rw [← hl, Array.getElem?_toList]; exact ho
    have h0' : ls.getD j false = false := by
      have : j < ls.size := by omega
      simp only [Array.getD_eq_getD_getElem?] at h0 ⊢
      rw [Array.getElem?_eq_getElem this] at h0 ⊢
      exact h0
    have hr : Rdy d (isIn ls) j o := by
      refine ⟨hlo, fun h => (by unfold isIn at h; rw [h0'] at h; cases h), fun i hb => ?_⟩
      obtain ⟨e, he, hbd, hi⟩ := d.msk j o hlo i hb
      have hon := hed e (Array.mem_toList_iff.1 he) hbd
      rcases hi with rfl | hi
      · exact hon
      · have := d.edges j o hlo e he hbd
        exact hD.down e.on (by omega) hon i hi
    have hget : ∀ i, (ls.setIfInBounds j true).getD i false = if i = j then true else ls.getD i false := by
      intro i
      by_cases e : i = j
      · subst e
        have : i < ls.size := by omega
        simp [this]
      · rw [if_neg e, getD_set_ne false (Ne.symm e)]
    refine di_step hA hc hl (Q := Q) hD hr fun a' w' q' m' K' TS' hD' => ih _ a' w' (by simp [hs]) ?_ ⟨q', m', K', TS', ?_⟩
    · have := countP_one (p := fun i => !ls.getD i false) (p' := fun i => !(ls.setIfInBounds j true).getD i false) (j := j) (by simp only [h0']; rfl) (by simp only [hget, if_true]; rfl)
        (fun i hi => by simp only [hget, if_neg hi]) l.length hlt
      unfold cnt at hcnt ⊢
      omega
    · have : isIn (ls.setIfInBounds j true) = fun i => isIn ls i ∨ i = j := by
        funext i
        apply propext
        unfold isIn
        rw [hget]
        by_cases e : i = j
        · simp [e]
        · simp [e]
      rw [this]; exact hD'
theorem exK0 (H : AH) : ∀ k, ∃ K' : AH, K'.nx = H.nx ∧ (∀ i, i < k → AlAt d i → K'.get (b0 + i) = (d.Hs (i + 1)).get (b0 + i)) ∧ (∀ b, (∀ i, i < k → AlAt d i → b ≠ b0 + i) → K'.get b = H.get b)
  | 0 => ⟨H, rfl, fun i h1 => by omega, fun _ _ => rfl⟩
  | k + 1 => by
    obtain ⟨K1, h1, h2, h3⟩ := exK0 H k
    by_cases ha : AlAt d k
    · obtain ⟨o, ob, mk, ho, hal, hv, hlt, hset, hget⟩ := ha.spec
      refine ⟨K1.set (b0 + k) (some ob), h1, fun i hi1 hai => ?_, fun b hb => ?_⟩
      · by_cases e : i = k
        · subst e; rw [AH.get_set, hget]
        · rw [AH.get_set_ne (by omega)]; exact h2 i (by omega) hai
      · rw [AH.get_set_ne (hb _ (by omega) ha)]
        exact h3 b fun i hi1 => hb i (by omega)
    · refine ⟨K1, h1, fun i hi1 hai => ?_, fun b hb => h3 b fun i hi1 => hb i (by omega)⟩
      by_cases e : i = k
      · subst e; exact absurd hai ha
      · exact h2 i (by omega) hai
end
theorem draw_ok (hA : APok A P) {call : CallT} (hc : CallOK A P call) : DrawOK A P call := by
  intro ops id m T H a w T' H' Q h hS hQ
  obtain ⟨d, hT, hH, hT', hH'⟩ := runDraw_spec h
  refine wp_region_any hA.mixed ?_
  have hsz : ops.toList.length = ops.size := by simp
  rw [← hsz]
  have hI := hS.inv
  obtain ⟨K, k1, k2, k3⟩ := exK0 (d := d) (d.Hs 0) ops.toList.length
  have hHg : ∀ b, (d.Hs 0).get b = H.get b := fun b => by rw [hH]; rfl
  have hHn : (d.Hs 0).nx = H.nx + ops.toList.length := by rw [hH]
  have kold : ∀ b, b < H.nx → K.get b = H.get b := fun b hb => by rw [k3 b fun i _ _ => by omega, hHg]
  have map_lt : ∀ b x, m.blk b = some x → b < H.nx := fun b x hb => by
    rcases Nat.lt_or_ge b H.nx with h | h
    · exact h
    · rw [hI.fresh b h] at hb; cases hb
  have hIK : Inv A.ng m K w := by
    refine ⟨?_, ?_, ?_, hI.bound, ?_, hI.glob, ?_⟩
    · intro b ob hg ab ao hm
      rw [kold b (map_lt b _ hm)] at hg
      exact hI.live b ob hg ab ao hm
    · intro b ob hg
      rw [k1, hHn]
      by_cases c : ∃ i, i < ops.toList.length ∧ AlAt d i ∧ b = H.nx + i
      · obtain ⟨i, c1, _, rfl⟩ := c; omega
      · rw [k3 b fun i c1 c2 e => c ⟨i, c1, c2, e⟩, hHg] at hg
        have := hI.dom b ob hg; omega
    · intro b hb
      rw [k1, hHn] at hb
      exact hI.fresh b (by omega)
    · intro i j oi oj x xi xj hne hi hj hmi hmj
      rw [kold i (map_lt i _ hmi)] at hi
      rw [kold j (map_lt j _ hmj)] at hj
      exact hI.sep i j oi oj x xi xj hne hi hj hmi hmj
    · rw [k1, hHn]; have := hI.ngle; omega
  have hSK : Stp m H w m K w := by
    refine ⟨by rw [k1, hHn]; omega, fun _ _ => ⟨rfl, rfl⟩, rfl, rfl, rfl, rfl, Nat.le_refl _, fun _ _ _ => rfl, fun b hb ab ao hm => (by rw [hI.fresh b hb] at hm; cases hm), fun b hb _ => kold b hb, fun b hb hg => by rw [kold b hb]; exact hg, fun b hb o ho hw => ⟨o, by rw [← kold b hb]; exact ho, hw⟩⟩
  obtain ⟨i1, s1⟩ := drawn_inv hIK (w.drawn + 1)
  have hD : DI d m H w (isIn (Array.replicate ops.toList.length false)) 0 m K T a { w with drawn := w.drawn + 1 } := by
    have hno : ∀ i, ¬ isIn (Array.replicate ops.toList.length false) i := by
      intro i h
      unfold isIn at h
      simp only [Array.getD_eq_getD_getElem?, Array.getElem?_replicate] at h
      split at h <;> simp at h
    refine ⟨.inl rfl, fun i _ => ⟨fun h => absurd h (hno i), fun h => by omega⟩, fun i _ h => absurd h (hno i), i1, k1, fun i _ ha => k2 i ha.lt ha, fun b hb => k3 b fun i _ ha => hb i (by omega) ha, fun i _ ha => ?_, fun i _ ha => k2 i ha.lt ha, fun i _ _ => hI.fresh _ (by omega), by rw [hHn]; omega, hS.tm, fun t => ?_, by rw [hT], hS.df, hSK.trans s1, rfl, hI.ngle⟩
    · rw [hHg]
      cases hg : H.get (H.nx + i) with
      | none => rfl
      | some ob => have := hI.dom _ _ hg; omega
    · have := valAt_skip (d := d) (S := isIn (Array.replicate ops.toList.length false)) (t := t) (j := 0) ops.toList.length fun i _ _ h => absurd h (hno i)
      rw [Nat.zero_add] at this
      rw [this]
      show T.get t = (d.Ts 0).get t
      rw [hT]
  refine any_ok (d := d) hA hc rfl (fun a' w' m' e1 e2 => ?_) _ _ a _ (by simp) ?_ ⟨0, m, K, T, hD⟩
  · rw [hT', hH'] at e1; rw [hH'] at e2
    exact hQ a' w' m' e1 e2
  · unfold cnt
    rw [List.countP_eq_length.2 ?_]
    · simp
    · intro i hi
      have : (Array.replicate ops.toList.length false).getD i false = false := by
        simp only [Array.getD_eq_getD_getElem?, Array.getElem?_replicate]
        split <;> rfl
      rw [this]; rfl
/-- THE THEOREM: what the evaluator finds, the model's call does -/
theorem callF_ok (hA : APok A P) (hs : SumsOK A P) (L d : Nat) : CallOK A P (callF A L d) := callF_ok' hA hs (fun _ hc => draw_ok hA hc) L d
end Go.AM
#print axioms Go.AM.callF_ok
