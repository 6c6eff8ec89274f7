/- Lemmas on the evaluator over abstract memory: what it does is what the model does. Conditions: those of each statement. -/
import Derived.Test.YtcbiknklbhiloaaGreatAmRun
namespace Go.AM
open Go
variable {A : AP} {P : Program} {ng : Nat} {m : Env} {H H' : AH} {w : World}

/- READING -/
theorem cells_some {b : Nat} {cs : List AV} (h : H.cells b = some cs) : ∃ ro, H.get b = some (.cells cs ro) := by
  unfold AH.cells at h
  split at h
  · rename_i c r hg; cases h; exact ⟨r, hg⟩
  · cases h
theorem loadN_eq {b o n : Nat} {l : List AV} (h : H.loadN b o n = some l) : ∃ cs ro, H.get b = some (.cells cs ro) ∧ l = (cs.drop o).take n ∧ o + n ≤ cs.length ∧ known l = true := by
  unfold AH.loadN at h
  cases h1 : H.cells b with
  | none => rw [h1] at h; cases h
  | some cs =>
    rw [h1] at h
    simp only at h
    cases h2 : dropN o cs with
    | none => rw [h2] at h; cases h
    | some r =>
      rw [h2] at h
      simp only at h
      cases h3 : takeN n r with
      | none => rw [h3] at h; cases h
      | some l' =>
      rw [h3] at h
      simp only [knownL] at h
      cases hk : known l' with
      | false => rw [hk] at h; cases h
      | true =>
      rw [hk] at h
      cases h
      obtain ⟨e1, e2⟩ := dropN_eq _ _ _ h2
      obtain ⟨e3, e4⟩ := takeN_eq _ _ _ h3
      obtain ⟨ro, hg⟩ := cells_some h1
      refine ⟨cs, ro, hg, by rw [e3, e1], ?_, hk⟩
      rw [e1, List.length_drop] at e4
      omega
theorem load1_eq {b o : Nat} {v : AV} (h : H.load1 b o = some v) : ∃ cs ro, H.get b = some (.cells cs ro) ∧ cs[o]? = some v ∧ v ≠ .unk := by
  unfold AH.load1 at h
  cases h1 : H.cells b with
  | none => rw [h1] at h; cases h
  | some cs =>
    rw [h1] at h
    simp only at h
    cases h2 : dropN o cs with
    | none => rw [h2] at h; cases h
    | some r =>
      rw [h2] at h
      obtain ⟨e1, e2⟩ := dropN_eq _ _ _ h2
      obtain ⟨ro, hg⟩ := cells_some h1
      cases r with
      | nil => cases h
      | cons x xs =>
        cases hu : isUnk x with
        | true => simp only [hu] at h; cases h
        | false =>
        simp only [hu, cond_false, Option.some.injEq] at h
        subst h
        refine ⟨cs, ro, hg, ?_, fun e => by subst e; cases hu⟩
        have : (cs.drop o)[0]? = some x := by rw [← e1]; rfl
        simpa using this
theorem known_mem : ∀ (l : List AV), known l = true → ∀ x ∈ l, x ≠ .unk
  | [], _, x, hx => by simp at hx
  | v :: vs, h, x, hx => by
    unfold known at h
    cases hu : isUnk v with
    | true => rw [hu] at h; cases h
    | false =>
      rw [hu] at h
      rcases List.mem_cons.1 hx with e | e
      · subst e; intro e; subst e; cases hu
      · exact known_mem vs h x e
theorem loadN_rel (hI : Inv ng m H w) {b ab ao o n : Nat} (hb : m.blk b = some (ab, ao)) {l : List AV} (h : H.loadN b o n = some l) :
    ∃ vs : List Value, VsRel m l vs ∧ vs.length = n ∧ (loadCells ⟨ab, ao + o, none⟩ n).run P w = .ok vs.toArray w := by
  obtain ⟨cs, ro, hg, hleq, hlen, hkn0⟩ := loadN_eq h
  have hkn := known_mem l hkn0
  subst hleq
  obtain ⟨c, elem, fz, h1, _, h3, h4, h5⟩ := hI.live b _ hg ab ao hb
  let vs : List Value := (c.toList.drop (ao + o)).take n
  have hl : vs.length = n := by simp [vs]; omega
  have hv : ∀ (k : Nat) (v : Value), vs[k]? = some v → c[ao + o + k]? = some v := by
    intro k v hk
    simp only [vs, List.getElem?_take, List.getElem?_drop] at hk
    split at hk
    · rw [← hk]; simp
    · cases hk
  refine ⟨vs, ?_, hl, ?_⟩
  · refine VsRel.of_get (by rw [hl]; simp; omega) fun k a hk => ?_
    have hne := hkn a (List.mem_of_getElem? hk)
    simp only [List.getElem?_take, List.getElem?_drop] at hk
    split at hk
    · rename_i hkn'
      obtain ⟨u, hu, hr⟩ := h5 (o + k) a hk
      refine ⟨u, ?_, hr.resolve_left hne⟩
      simp only [vs, List.getElem?_take, List.getElem?_drop, if_pos hkn']
      rw [← hu, ← Nat.add_assoc]; simp
    · cases hk
  · have := run_loadCells (P := P) h1 vs hv
    rw [hl] at this
    exact this
theorem load1_rel (hI : Inv ng m H w) {b ab ao o : Nat} (hb : m.blk b = some (ab, ao)) {x : AV} (h : H.load1 b o = some x) :
    ∃ v, VRel m x v ∧ (Go.load ⟨ab, ao + o, none⟩).run P w = .ok v w := by
  obtain ⟨cs, ro, hg, hx, hne⟩ := load1_eq h
  obtain ⟨c, elem, fz, h1, _, h3, h4, h5⟩ := hI.live b _ hg ab ao hb
  obtain ⟨u, hu, hr⟩ := h5 o x hx
  refine ⟨u, hr.resolve_left hne, ?_⟩
  have : w.cell? ⟨ab, ao + o, none⟩ = some u := by simp [World.cell?, h1, hu]
  simp only [run_load, this]

/- WRITING -/
theorem put_inv (hI : Inv ng m H w) {b ab ao : Nat} {ob ob' : AO} {o' : Obj} (hg : H.get b = some ob) (hw : ob.wr = true) (hb : m.blk b = some (ab, ao))
    (hO : ORel m (wput w ab o') ab ao (m.room b) ob') : Inv ng m (H.set b (some ob')) (wput w ab o') ∧ Stp m H w m (H.set b (some ob')) (wput w ab o') := by
  have get_ne : ∀ b', b' ≠ b → (H.set b (some ob')).get b' = H.get b' := fun b' h => AH.get_set_ne h
  have get_b : (H.set b (some ob')).get b = some ob' := AH.get_set
  have other : ∀ b' o1, b' ≠ b → H.get b' = some o1 → ∀ a x, m.blk b' = some (a, x) → a ≠ ab := by
    intro b' o1 hne hg1 a x hm e
    subst e
    have := hI.sep b' b o1 ob a x ao hne hg1 hg hm hb
    rw [hw] at this; cases this
  refine ⟨⟨?_, ?_, hI.fresh, ?_, ?_, hI.glob, hI.ngle⟩, ?_⟩
  · intro b1 o1 h1 a1 x1 hm1
    by_cases e : b1 = b
    · subst e
      rw [get_b] at h1; cases h1
      rw [hb] at hm1; cases hm1
      exact hO
    · rw [get_ne b1 e] at h1
      exact (hI.live b1 o1 h1 a1 x1 hm1).mono (Env.Le.refl m) (wput_ne (other b1 o1 e h1 a1 x1 hm1))
  · intro b1 o1 h1
    by_cases e : b1 = b
    · subst e; exact hI.dom b1 ob hg
    · rw [get_ne b1 e] at h1; exact hI.dom b1 o1 h1
  · intro b1 a1 x1 hm1
    rw [wput_size]; exact hI.bound b1 a1 x1 hm1
  · intro i j oi oj a xi xj hne hi hj hmi hmj
    by_cases e : j = b
    · subst e
      rw [get_ne i hne] at hi
      rw [hb] at hmj; cases hmj
      exact absurd rfl (other i oi hne hi _ xi hmi)
    · rw [get_ne j e] at hj
      by_cases e2 : i = b
      · subst e2
        rw [hb] at hmi; cases hmi
        exact absurd rfl (other j oj e hj _ xj hmj)
      · rw [get_ne i e2] at hi
        exact hI.sep i j oi oj a xi xj hne hi hj hmi hmj
  · refine ⟨Nat.le_refl _, fun _ _ => ⟨rfl, rfl⟩, rfl, rfl, rfl, rfl, by rw [wput_size]; exact Nat.le_refl _, ?_, ?_, ?_, ?_, ?_⟩
    · intro a1 _ hno
      exact wput_ne fun e => hno b ob ao hg hw (e ▸ hb)
    · intro b1 h1 a1 x1 hm1
      rw [hI.fresh b1 h1] at hm1; cases hm1
    · intro b1 _ hm1
      exact get_ne b1 fun e => by rw [e, hb] at hm1; cases hm1
    · intro b1 _ hg1
      rw [get_ne b1 fun e => by rw [e, hg] at hg1; cases hg1]; exact hg1
    · intro b1 _ o1 h1 hw1
      by_cases e : b1 = b
      · subst e; exact ⟨ob, hg, hw⟩
      · rw [get_ne b1 e] at h1; exact ⟨o1, h1, hw1⟩
theorem storeN_rel (hI : Inv ng m H w) {b ab ao o : Nat} (hb : m.blk b = some (ab, ao)) {l : List AV} {vs : List Value} (h : H.storeN b o l = some H') (hv : VsRel m l vs) :
    ∃ w', (storeCells ⟨ab, ao + o, none⟩ vs).run P w = .ok () w' ∧ Inv ng m H' w' ∧ Stp m H w m H' w' := by
  unfold AH.storeN at h
  cases hone : allOne l with
  | false => rw [hone] at h; cases h
  | true =>
    rw [hone] at h
    simp only at h
    split at h
    · rename_i cs k hg
      cases hkw : k.w with
      | false => rw [hkw] at h; cases h
      | true =>
      rw [hkw] at h
      cases hsp : splice o l cs with
      | none => rw [hsp] at h; cases h
      | some cs' =>
        rw [hsp] at h
        cases h
        obtain ⟨e1, e2⟩ := splice_eq _ _ _ _ hsp
        obtain ⟨c, elem, fz, h1, h2, h3, h4, h5⟩ := hI.live b _ hg ab ao hb
        have hlen := hv.length
        have hrun := run_storeCells (P := P) vs w c 0 h1 (h2.bound hkw) (off := ao + o) (by omega) (by
          intro v hmem
          obtain ⟨k, hk⟩ := List.getElem?_of_mem hmem
          have hkl : k < l.length := by
            rcases Nat.lt_or_ge k vs.length with h6 | h6
            · omega
            · rw [List.getElem?_eq_none h6] at hk; cases hk
          obtain ⟨u, hu, hr⟩ := hv.get k l[k] (by simp [hkl])
          rw [hk] at hu; cases hu
          exact hr.one (allOne_mem l hone _ (List.getElem_mem hkl)))
        refine ⟨_, hrun, put_inv hI hg hkw hb ?_⟩
        refine ⟨laid c (ao + o + 0) vs, elem, fz, wput_same h1, by rw [laid_size]; exact h2, ?_, by rw [laid_size]; exact h4, ?_⟩
        · rw [e1]; simp; omega
        · intro k v hk
          rw [laid_get _ _ _ _ (by omega)]
          rw [e1] at hk
          by_cases hin : o ≤ k ∧ k < o + l.length
          · rw [if_pos (by omega)]
            rw [List.append_assoc, List.getElem?_append_right (by simp; omega), List.getElem?_append_left (by simp; omega)] at hk
            simp only [List.length_take] at hk
            obtain ⟨u, hu, hr⟩ := hv.get _ v hk
            refine ⟨u, ?_, .inr hr⟩
            rw [← hu]
            congr 1
            omega
          · rw [if_neg (by omega)]
            have : cs[k]? = some v := by
              by_cases hlt : k < o
              · rw [List.append_assoc, List.getElem?_append_left (by simp; omega), List.getElem?_take, if_pos hlt] at hk
                exact hk
              · rw [List.append_assoc, List.getElem?_append_right (by simp; omega), List.getElem?_append_right (by simp; omega), List.getElem?_drop] at hk
                rw [← hk]
                congr 1
                simp; omega
            exact h5 k v this
    · cases h

/- NEW BLOCKS -/
def Env.with_ (m : Env) (b ab ao room : Nat) : Env := { m with blk := fun x => if x = b then some (ab, ao) else m.blk x, room := fun x => if x = b then room else m.room x }
theorem Env.with_le {b ab ao room : Nat} (h : m.blk b = none) : Env.Le m (m.with_ b ab ao room) :=
  ⟨fun x y e => by
    have : x ≠ b := fun e2 => by rw [e2, h] at e; cases e
    simp [Env.with_, this, e], rfl⟩
def walloc (w : World) (o : Obj) : World := { w with heap := w.heap.push o }
theorem walloc_new {o : Obj} : (walloc w o).heap[w.heap.size]? = some o := by
  show (w.heap.push o)[w.heap.size]? = some o
  exact Array.getElem?_push_size
theorem walloc_old {o : Obj} {b : Nat} (h : b < w.heap.size) : (walloc w o).heap[b]? = w.heap[b]? := by
  show (w.heap.push o)[b]? = _
  rw [Array.getElem?_push, if_neg (by omega)]
theorem walloc_size {o : Obj} : (walloc w o).heap.size = w.heap.size + 1 := by
  show (w.heap.push o).size = _
  simp
theorem new_eq {ob : AO} {b : Nat} (h : H.new ob = some (b, H')) : b = H.nx ∧ True ∧ H'.nx = H.nx + 1 ∧ H'.get b = some ob ∧ ∀ b', b' ≠ b → H'.get b' = H.get b' := by
  unfold AH.new at h
  cases h
  exact ⟨rfl, trivial, rfl, get_put _ _ _ _, fun b' hne => get_put_ne _ _ _ _ _ _ hne⟩
/-- a new block at the heap's end -/
theorem new_inv (hI : Inv ng m H w) {ob : AO} {o : Obj} {b room : Nat} (h : H.new ob = some (b, H'))
    (hO : ORel (m.with_ b w.heap.size 0 room) (walloc w o) w.heap.size 0 room ob) :
    Inv ng (m.with_ b w.heap.size 0 room) H' (walloc w o) ∧ Stp m H w (m.with_ b w.heap.size 0 room) H' (walloc w o) := by
  obtain ⟨rfl, hlt, hnx, hgb, hgo⟩ := new_eq h
  have hfr := hI.fresh H.nx (Nat.le_refl _)
  have hgn : H.get H.nx = none := by
    cases hg : H.get H.nx with
    | none => rfl
    | some x => have := hI.dom _ _ hg; omega
  have hle := Env.with_le (m := m) (ab := w.heap.size) (ao := 0) (room := room) hfr
  have blk_ne : ∀ x, x ≠ H.nx → (m.with_ H.nx w.heap.size 0 room).blk x = m.blk x := fun x hx => by simp [Env.with_, hx]
  have blk_b : (m.with_ H.nx w.heap.size 0 room).blk H.nx = some (w.heap.size, 0) := by simp [Env.with_]
  have room_ne : ∀ x, x ≠ H.nx → (m.with_ H.nx w.heap.size 0 room).room x = m.room x := fun x hx => by simp [Env.with_, hx]
  have room_b : (m.with_ H.nx w.heap.size 0 room).room H.nx = room := by simp [Env.with_]
  refine ⟨⟨?_, ?_, ?_, ?_, ?_, ?_, ?_⟩, ?_⟩
  · intro b1 o1 h1 a1 x1 hm1
    by_cases e : b1 = H.nx
    · subst e
      rw [hgb] at h1; cases h1
      rw [blk_b] at hm1; cases hm1
      rw [room_b]; exact hO
    · rw [hgo b1 e] at h1
      rw [blk_ne b1 e] at hm1
      rw [room_ne b1 e]
      exact (hI.live b1 o1 h1 a1 x1 hm1).mono hle (walloc_old (hI.bound b1 a1 x1 hm1))
  · intro b1 o1 h1
    by_cases e : b1 = H.nx
    · omega
    · rw [hgo b1 e] at h1; have := hI.dom b1 o1 h1; omega
  · intro b1 h1
    rw [blk_ne b1 (by omega)]; exact hI.fresh b1 (by omega)
  · intro b1 a1 x1 hm1
    rw [walloc_size]
    by_cases e : b1 = H.nx
    · subst e; rw [blk_b] at hm1; cases hm1; omega
    · rw [blk_ne b1 e] at hm1; have := hI.bound b1 a1 x1 hm1; omega
  · intro i j oi oj a xi xj hne hi hj hmi hmj
    by_cases e : j = H.nx
    · subst e
      rw [blk_b] at hmj; cases hmj
      rw [blk_ne i hne] at hmi
      have := hI.bound i _ xi hmi; omega
    · by_cases e2 : i = H.nx
      · subst e2
        rw [blk_b] at hmi; cases hmi
        rw [blk_ne j e] at hmj
        have := hI.bound j _ xj hmj; omega
      · rw [hgo i e2] at hi; rw [hgo j e] at hj; rw [blk_ne i e2] at hmi; rw [blk_ne j e] at hmj
        exact hI.sep i j oi oj a xi xj hne hi hj hmi hmj
  · intro g hg
    have := hI.ngle
    rw [blk_ne g (by omega)]; exact hI.glob g hg
  · have := hI.ngle; omega
  · refine ⟨by omega, fun b1 h1 => ⟨blk_ne b1 (by omega), room_ne b1 (by omega)⟩, rfl, rfl, rfl, rfl, by rw [walloc_size]; omega, ?_, ?_, ?_, ?_, ?_⟩
    · intro a1 h1 _; exact walloc_old h1
    · intro b1 h1 a1 x1 hm1
      by_cases e : b1 = H.nx
      · subst e; rw [blk_b] at hm1; cases hm1; exact .inl (Nat.le_refl _)
      · rw [blk_ne b1 e, hI.fresh b1 h1] at hm1; cases hm1
    · intro b1 h1 _; exact hgo b1 (by omega)
    · intro b1 h1 hg1; rw [hgo b1 (by omega)]; exact hg1
    · intro b1 h1 o1 hg1 hw1; rw [hgo b1 (by omega)] at hg1; exact ⟨o1, hg1, hw1⟩
/-- a block that goes -/
theorem kill_inv (hI : Inv ng m H w) {b : Nat} {x : Nat × Nat} (hb : m.blk b = some x) : Inv ng m (H.set b none) w ∧ Stp m H w m (H.set b none) w := by
  have get_ne : ∀ b', b' ≠ b → (H.set b none).get b' = H.get b' := fun b' h => AH.get_set_ne h
  have get_b : (H.set b none).get b = none := AH.get_set
  have back : ∀ b' o, (H.set b none).get b' = some o → b' ≠ b ∧ H.get b' = some o := by
    intro b' o h
    have : b' ≠ b := fun e => by rw [e, get_b] at h; cases h
    exact ⟨this, by rw [← get_ne b' this]; exact h⟩
  refine ⟨⟨?_, ?_, hI.fresh, hI.bound, ?_, hI.glob, hI.ngle⟩, ?_⟩
  · intro b1 o1 h1; exact hI.live b1 o1 (back b1 o1 h1).2
  · intro b1 o1 h1; exact hI.dom b1 o1 (back b1 o1 h1).2
  · intro i j oi oj a xi xj hne hi hj
    exact hI.sep i j oi oj a xi xj hne (back i oi hi).2 (back j oj hj).2
  · refine ⟨Nat.le_refl _, fun _ _ => ⟨rfl, rfl⟩, rfl, rfl, rfl, rfl, Nat.le_refl _, fun _ _ _ => rfl, ?_, ?_, ?_, fun b1 _ o1 h1 hw1 => ⟨o1, (back b1 o1 h1).2, hw1⟩⟩
    · intro b1 h1 a1 x1 hm1
      rw [hI.fresh b1 h1] at hm1; cases hm1
    · intro b1 _ hm1
      exact get_ne b1 fun e => by rw [e, hb] at hm1; cases hm1
    · intro b1 _ hg1
      by_cases e : b1 = b
      · rw [e, get_b]
      · rw [get_ne b1 e]; exact hg1
/-- draws alone -/
theorem drawn_inv (hI : Inv ng m H w) (n : Nat) : Inv ng m H { w with drawn := n } ∧ Stp m H w m H { w with drawn := n } := by
  refine ⟨⟨fun b ob h ab ao hm => (hI.live b ob h ab ao hm).mono (Env.Le.refl m) rfl, hI.dom, hI.fresh, hI.bound, hI.sep, hI.glob, hI.ngle⟩, ?_⟩
  exact ⟨Nat.le_refl _, fun _ _ => ⟨rfl, rfl⟩, rfl, rfl, rfl, rfl, Nat.le_refl _, fun _ _ _ => rfl,
    fun b hb ab ao h => (by rw [hI.fresh b hb] at h; cases h), fun _ _ _ => rfl, fun _ _ h => h, fun _ _ o h hw => ⟨o, h, hw⟩⟩
end Go.AM
