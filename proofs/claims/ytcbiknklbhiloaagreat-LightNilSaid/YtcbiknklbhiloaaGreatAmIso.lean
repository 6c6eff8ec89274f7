/- Calls that read their arguments alone may be reckoned apart, or looked up in a table of reckoned rows. Conditions: the rows are reckoned. -/
import Derived.Test.YtcbiknklbhiloaaGreatAmOuter
import Derived.Below
namespace Go.AM
open Go Go.RowKit
variable {A : AP} {P : Program} {ng : Nat} {m : Env} {H H' : AH} {w w' : World}

/- CALLS THAT READ NO MORE THAN THEIR ARGUMENTS, AND GIVE PLAIN VALUES: what they do stands apart -/
mutual
def free : AV → Bool
  | .bool _ => true
  | .int _ _ => true
  | .str _ => true
  | .nilp => true
  | .nils => true
  | .map none => true
  | .nilf => true
  | .nili => true
  | .agg l => frees l
  | .tup l => frees l
  | _ => false
def frees : List AV → Bool
  | [] => true
  | a :: as => cond (free a) (frees as) false
end
mutual
theorem VRel.free {m m' : Env} : ∀ (a : AV) (v : Value), free a = true → VRel m a v → VRel m' a v
  | .bool _, _, _, e => by simpa only [VRel] using e
  | .int _ _, _, _, e => by simpa only [VRel] using e
  | .str _, _, _, e => by simpa only [VRel] using e
  | .nilp, _, _, e => by simpa only [VRel] using e
  | .nils, _, _, e => by simpa only [VRel] using e
  | .map none, _, _, e => by simpa only [VRel] using e
  | .nilf, _, _, e => by simpa only [VRel] using e
  | .nili, _, _, e => by simpa only [VRel] using e
  | .agg l, v, h, e => by
    simp only [AM.free] at h
    simp only [VRel] at e ⊢
    obtain ⟨vs, h1, h2⟩ := e
    exact ⟨vs, h1, VsRel.free l vs h h2⟩
  | .tup l, v, h, e => by
    simp only [AM.free] at h
    simp only [VRel] at e ⊢
    obtain ⟨vs, h1, h2⟩ := e
    exact ⟨vs, h1, VsRel.free l vs h h2⟩
  | .ptr _ _, _, h, _ => by simp [AM.free] at h
  | .sl _ _ _ _, _, h, _ => by simp [AM.free] at h
  | .map (some _), _, h, _ => by simp [AM.free] at h
  | .fn _ _ _, _, h, _ => by simp [AM.free] at h
  | .iface _ _, _, h, _ => by simp [AM.free] at h
  | .opq _, _, h, _ => by simp [AM.free] at h
  | .unk, _, h, _ => by simp [AM.free] at h
  | .ge _, _, h, _ => by simp [AM.free] at h
theorem VsRel.free {m m' : Env} : ∀ (a : List AV) (v : List Value), frees a = true → VsRel m a v → VsRel m' a v
  | [], _, _, e => by simpa only [VsRel] using e
  | a :: as, v, h, e => by
    simp only [AM.frees] at h
    cases h1 : AM.free a with
    | false => rw [h1] at h; cases h
    | true =>
    rw [h1] at h
    simp only [VsRel] at e ⊢
    obtain ⟨u, us, h2, h3, h4⟩ := e
    exact ⟨u, us, h2, VRel.free a u h1 h3, VsRel.free as us h h4⟩
end
/-- arguments as they stand apart: a slice of plain cells becomes a block of its own, that is not written -/
noncomputable def canonA (H : AH) (k : Nat) (es : Nat) : AV → Option (AV × Option (List AV))
  | .sl b o n (.exact c) => match H.loadN b o (n * es) with
    | some l => cond (frees l) (some (.sl k 0 n (.exact c), some l)) none
    | none => none
  | a => cond (free a) (some (a, none)) none
noncomputable def canon (H : AH) (es : Nat) : Nat → List AV → Option (List AV × List (List AV))
  | _, [] => some ([], [])
  | k, a :: r => match canonA H k es a with
    | some (a', some l) => match canon H es (k + 1) r with
      | some (r', ls) => some (a' :: r', l :: ls)
      | none => none
    | some (a', none) => match canon H es k r with
      | some (r', ls) => some (a' :: r', ls)
      | none => none
    | none => none
noncomputable def layAll : List (List AV) → AH → AH
  | [], H => H
  | l :: r, H => layAll r ⟨H.nx + 1, (H.set H.nx (some (.cells l .rdo))).t⟩
def apartRes (H : AH) : Res → Res
  | some (v, _) => cond (free v) (some (v, H)) none
  | none => none
/-- an entry of a table: arguments as they stand apart, and the result -/
structure Row where
  args : List AV
  cells : List (List AV)
  v : AV
mutual
def avsEqL : List (List AV) → List (List AV) → Bool
  | [], [] => true
  | a :: r, b :: s => cond (avsEq a b) (avsEqL r s) false
  | _, _ => false
end
def lookRow (args : List AV) (cells : List (List AV)) : List Row → Option AV
  | [] => none
  | r :: l => cond (avsEq args r.args) (cond (avsEqL cells r.cells) (some r.v) (lookRow args cells l)) (lookRow args cells l)
noncomputable def apart (ng : Nat) (call : CallT) (f es : Nat) (tab : List Row) : List AV → AH → Res := fun args H => match canon H es ng args with
  | some (a, ls) => match lookRow a ls tab with
    | some v => some (v, H)
    | none => apartRes H (call f a (layAll ls ⟨ng, .e⟩))
  | none => none
def RowOK (ng : Nat) (call : CallT) (f : Nat) (r : Row) : Prop := free r.v = true ∧ ∃ H', call f r.args (layAll r.cells ⟨ng, .e⟩) = some (r.v, H')

theorem avsEqL_eq : ∀ a b, avsEqL a b = true → a = b
  | [], [], _ => rfl
  | a :: r, b :: s, h => by
    simp only [avsEqL] at h
    cases h1 : avsEq a b with
    | false => rw [h1] at h; cases h
    | true => rw [h1] at h; rw [avsEq_eq _ _ h1, avsEqL_eq r s h]
  | [], _ :: _, h => by cases h
  | _ :: _, [], h => by cases h
theorem lookRow_mem {args : List AV} {cells : List (List AV)} {v : AV} : ∀ (l : List Row), lookRow args cells l = some v → ∃ r ∈ l, r.args = args ∧ r.cells = cells ∧ r.v = v
  | [], h => by cases h
  | r :: l, h => by
    simp only [lookRow] at h
    have rest : lookRow args cells l = some v → ∃ r' ∈ r :: l, r'.args = args ∧ r'.cells = cells ∧ r'.v = v := fun h =>
      let ⟨r', h1, h2⟩ := lookRow_mem l h
      ⟨r', List.mem_cons_of_mem _ h1, h2⟩
    cases h1 : avsEq args r.args with
    | false => rw [h1] at h; exact rest h
    | true =>
      cases h2 : avsEqL cells r.cells with
      | false => rw [h1, h2] at h; exact rest h
      | true =>
        rw [h1, h2] at h
        cases h
        exact ⟨r, List.mem_cons_self, (avsEq_eq _ _ h1).symm, (avsEqL_eq _ _ h2).symm, rfl⟩
theorem frees_mem : ∀ (l : List AV), frees l = true → ∀ (k : Nat) (v : AV), l[k]? = some v → free v = true
  | [], _, k, v, h => by simp at h
  | a :: r, h, k, v, hk => by
    simp only [frees] at h
    cases h1 : free a with
    | false => rw [h1] at h; cases h
    | true =>
      rw [h1] at h
      cases k with
      | zero => simp only [List.getElem?_cons_zero, Option.some.injEq] at hk; rw [← hk]; exact h1
      | succ k => rw [List.getElem?_cons_succ] at hk; exact frees_mem r h k v hk
def AllRo (K : AH) : Prop := ∀ b ob, K.get b = some ob → ob.wr = false
theorem cut_inv (hI : Inv ng m H w) : Inv ng (m.cut ng) ⟨ng, .e⟩ w where
  live := fun b ob h => by rw [AH.get_e] at h; cases h
  dom := fun b ob h => by rw [AH.get_e] at h; cases h
  fresh := fun b hb => by
    have hb : ng ≤ b := hb
    simp [Env.cut]; omega
  bound := fun b ab ao h => by
    simp only [Env.cut] at h
    split at h
    · exact hI.bound b ab ao h
    · cases h
  sep := fun i j oi oj a xi xj _ h => by rw [AH.get_e] at h; cases h
  glob := fun g hg => by rw [Env.cut_blk hg]; exact hI.glob g hg
  ngle := Nat.le_refl _
/-- a view of memory that is only read -/
theorem ro_inv {K : AH} {m0 : Env} (hK : Inv ng m0 K w) (hro : AllRo K) {ab x room : Nat} {l : List AV} (hab : ab < w.heap.size) (hO : ORel (m0.with_ K.nx ab x room) w ab x room (.cells l .rdo)) :
    Inv ng (m0.with_ K.nx ab x room) ⟨K.nx + 1, (K.set K.nx (some (.cells l .rdo))).t⟩ w ∧ AllRo ⟨K.nx + 1, (K.set K.nx (some (.cells l .rdo))).t⟩ := by
  have hfr := hK.fresh K.nx (Nat.le_refl _)
  have hle := Env.with_le (m := m0) (ab := ab) (ao := x) (room := room) hfr
  have blk_ne : ∀ y, y ≠ K.nx → (m0.with_ K.nx ab x room).blk y = m0.blk y := fun y hy => by simp [Env.with_, hy]
  have blk_b : (m0.with_ K.nx ab x room).blk K.nx = some (ab, x) := by simp [Env.with_]
  have room_ne : ∀ y, y ≠ K.nx → (m0.with_ K.nx ab x room).room y = m0.room y := fun y hy => by simp [Env.with_, hy]
  have room_b : (m0.with_ K.nx ab x room).room K.nx = room := by simp [Env.with_]
  have get_b : AH.get ⟨K.nx + 1, (K.set K.nx (some (.cells l .rdo))).t⟩ K.nx = some (.cells l .rdo) := AH.get_set (H := K)
  have get_ne : ∀ y, y ≠ K.nx → AH.get ⟨K.nx + 1, (K.set K.nx (some (.cells l .rdo))).t⟩ y = K.get y := fun y hy => AH.get_set_ne (H := K) hy
  have ro : AllRo ⟨K.nx + 1, (K.set K.nx (some (.cells l .rdo))).t⟩ := by
    intro b ob h
    by_cases e : b = K.nx
    · subst e; rw [get_b] at h; cases h; rfl
    · rw [get_ne b e] at h; exact hro b ob h
  refine ⟨⟨?_, ?_, ?_, ?_, ?_, ?_, ?_⟩, ro⟩
  · intro b1 o1 h1 a1 x1 hm1
    by_cases e : b1 = K.nx
    · subst e
      rw [get_b] at h1; cases h1
      rw [blk_b] at hm1; cases hm1
      rw [room_b]; exact hO
    · rw [get_ne b1 e] at h1
      rw [blk_ne b1 e] at hm1
      rw [room_ne b1 e]
      exact (hK.live b1 o1 h1 a1 x1 hm1).mono hle rfl
  · intro b1 o1 h1
    show b1 < K.nx + 1
    by_cases e : b1 = K.nx
    · omega
    · rw [get_ne b1 e] at h1; have := hK.dom b1 o1 h1; omega
  · intro b1 h1
    have h1 : K.nx + 1 ≤ b1 := h1
    rw [blk_ne b1 (by omega)]; exact hK.fresh b1 (by omega)
  · intro b1 a1 x1 hm1
    by_cases e : b1 = K.nx
    · subst e; rw [blk_b] at hm1; cases hm1; exact hab
    · rw [blk_ne b1 e] at hm1; exact hK.bound b1 a1 x1 hm1
  · intro i j oi oj a xi xj _ _ hj _ _
    exact ro j oj hj
  · intro g hg
    have := hK.ngle
    rw [blk_ne g (by omega)]; exact hK.glob g hg
  · show ng ≤ K.nx + 1
    have := hK.ngle; omega
theorem canonA_slice {b o n : Nat} {cap : ACap} {k es : Nat} {a : AV} {l : List AV} (h : canonA H k es (.sl b o n cap) = some (a, some l)) : ∃ c, cap = .exact c ∧ H.loadN b o (n * es) = some l ∧ frees l = true ∧ a = .sl k 0 n (.exact c) := by
  unfold canonA at h
  split at h
  · rename_i b' o' n' c heq
    cases heq
    cases hl : H.loadN b o (n * es) with
    | none => rw [hl] at h; cases h
    | some l0 =>
      rw [hl] at h
      simp only at h
      cases hf : frees l0 with
      | false => rw [hf] at h; cases h
      | true => rw [hf] at h; cases h; exact ⟨c, rfl, rfl, hf, rfl⟩
  · cases hf : free (.sl b o n cap) with
    | false => rw [hf] at h; cases h
    | true => rw [hf] at h; cases h
theorem canonA_free {x a : AV} {k es : Nat} (h : canonA H k es x = some (a, none)) : free x = true ∧ a = x := by
  unfold canonA at h
  split at h
  · rename_i b o n c
    cases hl : H.loadN b o (n * es) with
    | none => rw [hl] at h; cases h
    | some l0 =>
      rw [hl] at h
      simp only at h
      cases hf : frees l0 with
      | false => rw [hf] at h; cases h
      | true => rw [hf] at h; cases h
  · cases hf : free x with
    | false => rw [hf] at h; cases h
    | true => rw [hf] at h; cases h; exact ⟨rfl, rfl⟩
theorem canonA_some {x a : AV} {l : List AV} {k es : Nat} (h : canonA H k es x = some (a, some l)) : ∃ b o n cap, x = .sl b o n cap := by
  unfold canonA at h
  split at h
  · exact ⟨_, _, _, _, rfl⟩
  · cases hf : free x with
    | false => rw [hf] at h; cases h
    | true => rw [hf] at h; cases h
theorem canon_ok (hI : Inv ng m H w) {es : Nat} : ∀ (args a : List AV) (ls : List (List AV)) (args' : List Value) (m0 : Env) (K : AH), canon H es K.nx args = some (a, ls) → Inv ng m0 K w → AllRo K → VsRel m args args' →
    ∃ m1, Inv ng m1 (layAll ls K) w ∧ AllRo (layAll ls K) ∧ Env.Le m0 m1 ∧ VsRel m1 a args'
  | [], a, ls, args', m0, K, h, hK, hro, ha => by
    cases h
    exact ⟨m0, hK, hro, Env.Le.refl _, by simp only [VsRel] at ha ⊢; exact ha⟩
  | x :: r, a, ls, args', m0, K, h, hK, hro, ha => by
    simp only [VsRel] at ha
    obtain ⟨v, vs, rfl, hv, hvs⟩ := ha
    unfold canon at h
    split at h
    · rename_i a' l heq
      split at h
      · rename_i r' ls' hr
        cases h
        obtain ⟨b, o, n, cap, rfl⟩ := canonA_some heq
        obtain ⟨c, rfl, hl, hf, rfl⟩ := canonA_slice heq
        simp only [VRel] at hv
        obtain ⟨ab, ao, x, c', hm, rfl, hc, hx, hn⟩ := hv
        simp only [capR] at hc
        subst hc
        obtain ⟨cs, ro, hg, hleq, hlen, hkn⟩ := loadN_eq hl
        obtain ⟨cv, el, fz, d1, d2, d3, d4, d5⟩ := hI.live b _ hg ab ao hm
        have hab := hI.bound b ab ao hm
        have hll : l.length ≤ cs.length - o := by rw [hleq]; simp only [List.length_take, List.length_drop]; omega
        have hO : ORel (m0.with_ K.nx ab (ao + o) l.length) w ab (ao + o) l.length (.cells l .rdo) := by
          refine ⟨cv, el, fz, d1, trivial, Nat.le_refl _, ?_, fun k v hk => ?_⟩
          · rcases Nat.eq_zero_or_pos l.length with h0 | h0 <;> omega
          · have hk' : cs[o + k]? = some v := by
              rw [hleq, List.getElem?_take] at hk
              split at hk
              · rw [List.getElem?_drop] at hk; exact hk
              · cases hk
            obtain ⟨u, hu, hr⟩ := d5 (o + k) v hk'
            have hfv := frees_mem l hf k v hk
            refine ⟨u, by rw [← hu, Nat.add_assoc], .inr ?_⟩
            rcases hr with rfl | hr
            · cases hfv
            · exact VRel.free v u hfv hr
        obtain ⟨hK1, hro1⟩ := ro_inv hK hro hab hO
        obtain ⟨m1, g1, g2, g3, g4⟩ := canon_ok hI r r' ls' vs _ ⟨K.nx + 1, (K.set K.nx (some (.cells l .rdo))).t⟩ hr hK1 hro1 hvs
        refine ⟨m1, g1, g2, (Env.with_le (hK.fresh K.nx (Nat.le_refl _))).trans g3, VsRel.cons ?_ g4⟩
        simp only [VRel]
        exact ⟨ab, ao + o, x, c', (g3.blk K.nx (ab, ao + o) (by simp [Env.with_])).1, rfl, by simp only [capR], by simpa using hx, hn⟩
      · cases h
    · rename_i a' heq
      split at h
      · rename_i r' ls' hr
        cases h
        obtain ⟨hf, rfl⟩ := canonA_free heq
        obtain ⟨m1, g1, g2, g3, g4⟩ := canon_ok hI r r' ls vs m0 K hr hK hro hvs
        exact ⟨m1, g1, g2, g3, VsRel.cons (VRel.free _ _ hf hv) g4⟩
      · cases h
    · cases h
/-- what a call that stands apart does to the whole -/
theorem OpRes.whole {K K' : AH} {m0 : Env} (hI : Inv ng m H w) (hro : AllRo K) {s : Sem Next} {v : AV} (hf : free v = true) (h : OpRes P ng m0 K w s v K') : OpRes P ng m H w s v H := by
  have key : ∀ {m' w'}, Stp m0 K w m' K' w' → Inv ng m H w' ∧ Stp m H w m H w' := fun hS =>
    below_keep hI ⟨hS.os, hS.tape, hS.output, hS.size, fun k hk => hS.frame k hk fun b ob ao hg hw => by rw [hro b ob hg] at hw; cases hw⟩
  rcases h with ⟨v', w', m', h1, h2, h3, h4⟩ | ⟨f, args, h1, h2⟩
  · exact .inl ⟨v', w', m, h1, (key h3).1, (key h3).2, VRel.free _ _ hf h4⟩
  · refine .inr ⟨f, args, h1, Calls.mono h2 fun e w' he => ?_⟩
    cases e with
    | returned r =>
      obtain ⟨m', g1, g2, g3⟩ := he
      exact ⟨m, (key g2).1, (key g2).2, VRel.free _ _ hf g3⟩
    | panicked _ => exact he.elim
    | outgrown => exact he.elim
theorem allRo_e (n : Nat) : AllRo ⟨n, .e⟩ := fun b ob h => by rw [AH.get_e] at h; cases h
theorem apart_ok {call : CallT} (hc : CallOK A P call) {f es : Nat} {tab : List Row} (ht : ∀ r ∈ tab, RowOK A.ng call f r) : SumOK A.ng P f (apart A.ng call f es tab) := by
  intro args H v H' hg m w args' hI ha
  unfold apart at hg
  split at hg
  · rename_i a ls hcn
    obtain ⟨m1, g1, g2, g3, g4⟩ := canon_ok hI args a ls args' (m.cut A.ng) ⟨A.ng, .e⟩ hcn (cut_inv hI) (allRo_e _) ha
    split at hg
    · rename_i v' hrow
      cases hg
      obtain ⟨r, hr, rfl, rfl, rfl⟩ := lookRow_mem tab hrow
      obtain ⟨hf, H1, he⟩ := ht r hr
      exact (hc f _ _ _ _ he m1 w args' g1 g4).whole hI g2 hf
    · unfold apartRes at hg
      split at hg
      · rename_i v' H1 he
        cases hf : free v' with
        | false => rw [hf] at hg; cases hg
        | true =>
          rw [hf] at hg
          cases hg
          exact (hc f _ _ _ _ he m1 w args' g1 g4).whole hI g2 hf
      · cases hg
  · cases hg
def resIs (v : AV) : Res → Bool
  | some (u, _) => avEq u v
  | none => false
noncomputable def rowB (ng : Nat) (call : CallT) (f : Nat) (r : Row) : Bool := cond (free r.v) (resIs r.v (call f r.args (layAll r.cells ⟨ng, .e⟩))) false
theorem rowOK_of {call : CallT} {f : Nat} {r : Row} (h : rowB ng call f r = true) : RowOK ng call f r := by
  unfold rowB at h
  cases hf : free r.v with
  | false => rw [hf] at h; cases h
  | true =>
    rw [hf] at h
    refine ⟨hf, ?_⟩
    simp only [cond_true] at h
    unfold resIs at h
    split at h
    · rename_i u H' he
      exact ⟨H', by rw [he, avEq_eq _ _ h]⟩
    · cases h
theorem rows_nil {call : CallT} {f : Nat} : ∀ r ∈ ([] : List Row), RowOK ng call f r := fun _ h => by cases h
theorem rows_cons {call : CallT} {f : Nat} {r : Row} {l : List Row} (h : RowOK ng call f r) (k : ∀ r ∈ l, RowOK ng call f r) : ∀ x ∈ r :: l, RowOK ng call f x := fun x hx => by
  rcases List.mem_cons.1 hx with rfl | hx
  · exact h
  · exact k x hx
/-- what a contract gives whose world is as it was -/
theorem below_ok {f : Nat} {g : List AV → AH → Res} (hcall : ∀ args w, (callFunc f args).run P w = .ok (.enter f args) w)
    (h : ∀ args H v H', g args H = some (v, H') → H' = H ∧ free v = true ∧ ∀ m w args', VsRel m args args' → Calls P f args'.toArray w fun e w' => (∃ r, e = .returned r ∧ VRel m v r) ∧ Below w.heap.size w w') : SumOK ng P f g := by
  intro args H v H' hg m w args' hI ha
  obtain ⟨rfl, hf, hC⟩ := h args H v H' hg
  refine .inr ⟨f, _, hcall _ w, Calls.mono (hC m w args' ha) fun e w' he => ?_⟩
  obtain ⟨⟨r, rfl, hr⟩, hB⟩ := he
  exact ⟨m, (below_keep hI hB).1, (below_keep hI hB).2, hr⟩
end Go.AM
