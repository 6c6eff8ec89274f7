/- Lemmas on the evaluator over abstract memory: what it does is what the model does. Conditions: those of each statement. -/
import Derived.Test.YtcbiknklbhiloaaGreatAmRel
import Derived.Below
namespace Go.AM
open Go

open Go.RowKit in
/-- a function that only reckons -/
def PureOK (P : Program) (g : Nat) (h : List AV → Option AV) : Prop := (∀ args w, (callFunc g args).run P w = .ok (.enter g args) w) ∧
  ∀ args v, h args = some v → ∀ m args' w, VsRel m args args' → Calls P g args'.toArray w fun e w' => (∃ r, e = .returned r ∧ VRel m v r) ∧ Below w.heap.size w w'
structure APok (A : AP) (P : Program) : Prop where
  ty : ∀ t i, A.types.get t = some i → P.info? t = some i
  fn : ∀ f fn, A.funcs.get f = some fn → P.funcs[f]? = some fn ∧ (fn.body ≠ none → ∀ args w, (callFunc f args).run P w = .ok (.enter f args) w)
  mixed : P.follows .mixedOrders = true
  eqs : ∀ t, A.eqs.get t = some () → P.stoodInHeld t = false
  depth : 8 ≤ P.depth
  pf : ∀ g h, A.pf.get g = some h → PureOK P g h

variable {A : AP} {P : Program}

theorem run_typeInfo (hA : APok A P) {t : Nat} {i : TypeInfo} (h : A.types.get t = some i) (w : World) : (typeInfo t).run P w = .ok i w := by
  have := hA.ty t i h
  simp only [typeInfo, Sem.run_bind, run_program, Result.andThen_ok, this, Sem.run_pure]
theorem und (hA : APok A P) {t : Nat} {d : TypeDesc} (h : A.desc t = some d) : P.underlying t = some d := by
  unfold AP.desc at h
  cases hi : A.types.get t with
  | none => rw [hi] at h; cases h
  | some i =>
    rw [hi] at h
    have h1 := hA.ty t i hi
    unfold Program.underlying
    rw [h1]
    obtain ⟨desc, str, size, bytes, hp, al, fa, z, cmp, ms⟩ := i
    simp only at h
    cases desc <;> simp only [descVia] at h
    case named n u =>
      cases hj : A.types.get u with
      | none => rw [hj] at h; cases h
      | some j =>
        rw [hj] at h
        simp only [hA.ty u j hj, Option.map_some]
        exact h
    all_goals exact h
theorem run_und (hA : APok A P) {t : Nat} {d : TypeDesc} (h : A.desc t = some d) (w : World) : (underlying t).run P w = .ok d w := by
  simp only [underlying, Sem.run_bind, run_program, Result.andThen_ok, und hA h, Sem.run_pure]
theorem run_sizeOf (hA : APok A P) {t n : Nat} (h : A.size t = some n) (w : World) : (sizeOf t).run P w = .ok n w := by
  unfold AP.size at h
  cases hi : A.types.get t with
  | none => rw [hi] at h; cases h
  | some i =>
    rw [hi] at h
    cases h
    simp only [sizeOf, Sem.run_bind, run_typeInfo hA hi, Result.andThen_ok, Sem.run_pure]
theorem run_isAgg (hA : APok A P) {t : Nat} {d : TypeDesc} (h : A.desc t = some d) (w : World) : (isAgg t).run P w = .ok (isAggD d) w := by
  simp only [isAgg, Sem.run_bind, run_und hA h, Result.andThen_ok]
  cases d <;> rfl

/- CONSTANTS -/
theorem bstr_toNat (s : ByteArray) : bstr (s.data.toList.map UInt8.toNat) = s := by
  obtain ⟨⟨l⟩⟩ := s
  simp only [bstr, List.map_map]
  congr 2
  have : (UInt8.ofNat ∘ UInt8.toNat) = id := by funext x; simp
  rw [this, List.map_id]
theorem ofCell_rel (m : Env) (v : Value) (a : AV) (h : ofCell v = some a) : VRel m a v := by
  unfold ofCell at h
  split at h <;> first
    | (cases h; simp only [VRel]; done)
    | (cases h; simp only [VRel, bstr_toNat]; done)
    | (cases h; simp only [VRel, VsRel]; exact ⟨[], [], rfl, rfl, rfl⟩)
    | cases h
theorem ofCells_rel (m : Env) : ∀ (vs : List Value) (as : List AV), ofCells vs = some as → VsRel m as vs
  | [], as, h => by cases h; simp only [VsRel]
  | v :: vs, as, h => by
    unfold ofCells at h
    cases h1 : ofCell v with
    | none => rw [h1] at h; cases h
    | some a =>
      rw [h1] at h
      cases h2 : ofCells vs with
      | none => rw [h2] at h; cases h
      | some l =>
        rw [h2] at h
        cases h
        simp only [VsRel]
        exact ⟨v, vs, rfl, ofCell_rel m v a h1, ofCells_rel m vs l h2⟩
theorem ofVal_rel (m : Env) (v : Value) (a : AV) (h : ofVal v = some a) : VRel m a v := by
  unfold ofVal at h
  split at h
  · rename_i cs
    cases h1 : ofCells cs.toList with
    | none => rw [h1] at h; cases h
    | some l => rw [h1] at h; cases h; simp only [VRel]; exact ⟨cs.toList, by simp, ofCells_rel m _ _ h1⟩
  · rename_i cs
    cases h1 : ofCells cs.toList with
    | none => rw [h1] at h; cases h
    | some l => rw [h1] at h; cases h; simp only [VRel]; exact ⟨cs.toList, by simp, ofCells_rel m _ _ h1⟩
  · exact ofCell_rel m v a h
theorem run_zero (hA : APok A P) (m : Env) {t : Nat} {z : AV} (h : A.zero t = some z) (w : World) : ∃ v, (zeroValue t).run P w = .ok v w ∧ VRel m z v := by
  unfold AP.zero at h
  cases hi : A.types.get t with
  | none => rw [hi] at h; cases h
  | some i =>
    rw [hi] at h
    simp only at h
    cases hz : i.zero with
    | none => rw [hz] at h; cases h
    | some v =>
      rw [hz] at h
      refine ⟨v, ?_, ofVal_rel m v z h⟩
      simp only [zeroValue, Sem.run_bind, run_typeInfo hA hi, Result.andThen_ok, hz, Sem.run_pure]

/- LISTS OF VALUES -/
theorem VsRel.length {m : Env} : ∀ {as : List AV} {vs : List Value}, VsRel m as vs → as.length = vs.length
  | [], vs, h => by simp only [VsRel] at h; subst h; rfl
  | a :: as, vs, h => by
    simp only [VsRel] at h
    obtain ⟨v, us, rfl, _, h2⟩ := h
    simp [VsRel.length h2]
theorem VsRel.get {m : Env} : ∀ {as : List AV} {vs : List Value}, VsRel m as vs → ∀ (k : Nat) (a : AV), as[k]? = some a → ∃ v, vs[k]? = some v ∧ VRel m a v
  | [], _, _, k, a, hk => by simp at hk
  | a :: as, vs, h, k, x, hk => by
    simp only [VsRel] at h
    obtain ⟨v, us, rfl, h1, h2⟩ := h
    cases k with
    | zero => simp at hk; subst hk; exact ⟨v, by simp, h1⟩
    | succ k => simp at hk; obtain ⟨u, hu, hr⟩ := VsRel.get h2 k x hk; exact ⟨u, by simpa using hu, hr⟩
theorem VsRel.nil {m : Env} : VsRel m [] [] := by simp only [VsRel]
theorem VsRel.cons {m : Env} {a : AV} {v : Value} {as : List AV} {vs : List Value} (h : VRel m a v) (k : VsRel m as vs) : VsRel m (a :: as) (v :: vs) := by
  simp only [VsRel]; exact ⟨v, vs, rfl, h, k⟩
theorem VsRel.append {m : Env} : ∀ {as bs : List AV} {vs us : List Value}, VsRel m as vs → VsRel m bs us → VsRel m (as ++ bs) (vs ++ us)
  | [], _, vs, us, h, k => by simp only [VsRel] at h; subst h; simpa using k
  | a :: as, bs, vs, us, h, k => by
    simp only [VsRel] at h
    obtain ⟨v, vs', rfl, h1, h2⟩ := h
    exact VsRel.cons h1 (VsRel.append h2 k)
theorem VsRel.of_get {m : Env} : ∀ {as : List AV} {vs : List Value}, as.length = vs.length → (∀ (k : Nat) (a : AV), as[k]? = some a → ∃ v, vs[k]? = some v ∧ VRel m a v) → VsRel m as vs
  | [], [], _, _ => VsRel.nil
  | a :: as, v :: vs, hl, h => by
    refine VsRel.cons ?_ (VsRel.of_get (by simpa using hl) fun k x hk => ?_)
    · obtain ⟨u, hu, hr⟩ := h 0 a (by simp); simp at hu; subst hu; exact hr
    · obtain ⟨u, hu, hr⟩ := h (k + 1) x (by simpa using hk); exact ⟨u, by simpa using hu, hr⟩
theorem VsRel.take {m : Env} {as : List AV} {vs : List Value} (h : VsRel m as vs) (n : Nat) : VsRel m (as.take n) (vs.take n) := by
  refine VsRel.of_get (by simp [h.length]) fun k a hk => ?_
  rw [List.getElem?_take] at hk ⊢
  split at hk
  · rename_i hlt; rw [if_pos hlt]; exact h.get k a hk
  · cases hk
theorem VsRel.drop {m : Env} {as : List AV} {vs : List Value} (h : VsRel m as vs) (n : Nat) : VsRel m (as.drop n) (vs.drop n) := by
  refine VsRel.of_get (by simp [h.length]) fun k a hk => ?_
  rw [List.getElem?_drop] at hk ⊢
  exact h.get _ a hk
theorem takeN_eq : ∀ (n : Nat) (l r : List AV), takeN n l = some r → r = l.take n ∧ n ≤ l.length
  | 0, l, r, h => by unfold takeN at h; cases h; simp
  | n + 1, [], r, h => by simp [takeN] at h
  | n + 1, x :: xs, r, h => by
    unfold takeN at h
    cases h1 : takeN n xs with
    | none => rw [h1] at h; cases h
    | some q =>
      rw [h1] at h; cases h
      obtain ⟨h2, h3⟩ := takeN_eq n xs q h1
      exact ⟨by rw [h2]; rfl, by simpa using h3⟩
theorem dropN_eq {α : Type} : ∀ (n : Nat) (l r : List α), dropN n l = some r → r = l.drop n ∧ n ≤ l.length
  | 0, l, r, h => by simp [dropN] at h; simp [h]
  | n + 1, [], r, h => by simp [dropN] at h
  | n + 1, x :: xs, r, h => by
    simp only [dropN] at h
    obtain ⟨h2, h3⟩ := dropN_eq n xs r h
    exact ⟨by rw [h2]; rfl, by simpa using h3⟩
theorem nth_eq {α : Type} : ∀ (l : List α) (n : Nat), nth l n = l[n]?
  | [], n => by simp [nth]
  | x :: xs, 0 => by simp [nth]
  | x :: xs, n + 1 => by simp [nth, nth_eq xs n]
theorem over_eq : ∀ (vs xs r : List AV), over vs xs = some r → r = vs ++ xs.drop vs.length ∧ vs.length ≤ xs.length
  | [], xs, r, h => by simp [over] at h; simp [h]
  | v :: vs, [], r, h => by simp [over] at h
  | v :: vs, x :: xs, r, h => by
    unfold over at h
    cases h1 : over vs xs with
    | none => rw [h1] at h; cases h
    | some q =>
      rw [h1] at h; cases h
      obtain ⟨h2, h3⟩ := over_eq vs xs q h1
      exact ⟨by rw [h2]; rfl, by simpa using h3⟩
theorem splice_eq : ∀ (o : Nat) (vs xs r : List AV), splice o vs xs = some r → r = xs.take o ++ vs ++ xs.drop (o + vs.length) ∧ o + vs.length ≤ xs.length
  | 0, vs, xs, r, h => by
    simp only [splice] at h
    obtain ⟨h1, h2⟩ := over_eq vs xs r h
    exact ⟨by simp [h1], by omega⟩
  | o + 1, vs, [], r, h => by simp [splice] at h
  | o + 1, vs, x :: xs, r, h => by
    unfold splice at h
    cases h1 : splice o vs xs with
    | none => rw [h1] at h; cases h
    | some q =>
      rw [h1] at h; cases h
      obtain ⟨h2, h3⟩ := splice_eq o vs xs q h1
      refine ⟨?_, by simp; omega⟩
      rw [h2]
      simp [show o + 1 + vs.length = (o + vs.length) + 1 by omega]
theorem allOne_mem : ∀ (l : List AV), allOne l = true → ∀ x ∈ l, x.one = true
  | [], _, x, hx => by cases hx
  | v :: vs, h, x, hx => by
    unfold allOne at h
    cases h1 : v.one with
    | false => rw [h1] at h; cases h
    | true =>
      rw [h1] at h
      rcases List.mem_cons.1 hx with e | e
      · rw [e]; exact h1
      · exact allOne_mem vs h x e
theorem VRel.one {m : Env} {a : AV} {v : Value} (h : VRel m a v) (ha : a.one = true) : v.oneCell' = true := by
  cases a with
  | agg cs => cases ha
  | tup cs => cases ha
  | opq i => simp only [VRel] at h; exact h.2
  | unk => simp only [VRel] at h
  | ge n => simp only [VRel] at h; obtain ⟨_, _, rfl⟩ := h; rfl
  | map r => cases r <;> simp only [VRel] at h <;> first | (subst h; rfl) | (obtain ⟨_, _, rfl⟩ := h; rfl)
  | ptr b o => simp only [VRel] at h; obtain ⟨_, _, _, rfl⟩ := h; rfl
  | sl b o n c => simp only [VRel] at h; obtain ⟨_, _, _, _, _, rfl, _⟩ := h; rfl
  | fn f a b => simp only [VRel] at h; obtain ⟨_, _, rfl, _⟩ := h; rfl
  | iface t x => simp only [VRel] at h; obtain ⟨_, rfl, _⟩ := h; rfl
  | _ => simp only [VRel] at h; subst h; rfl
theorem VRel.cells {m : Env} {a : AV} {v : Value} (h : VRel m a v) : VsRel m a.cells v.cells.toList := by
  have single : ∀ {x : AV} {u : Value}, VRel m x u → x.cells = [x] → u.cells = #[u] → VsRel m x.cells u.cells.toList := by
    intro x u hx e1 e2
    rw [e1, e2]
    exact VsRel.cons hx VsRel.nil
  cases a with
  | agg cs => simp only [VRel] at h; obtain ⟨vs, rfl, h2⟩ := h; exact h2
  | opq i =>
    refine single h rfl ?_
    simp only [VRel] at h
    have := h.2
    cases v <;> first | rfl | (cases this)
  | unk => simp only [VRel] at h
  | ge n => refine single h rfl ?_; simp only [VRel] at h; obtain ⟨_, _, rfl⟩ := h; rfl
  | tup cs => refine single h rfl ?_; simp only [VRel] at h; obtain ⟨vs, rfl, h2⟩ := h; rfl
  | map r =>
    refine single h rfl ?_
    cases r <;> simp only [VRel] at h <;> first | (subst h; rfl) | (obtain ⟨_, _, rfl⟩ := h; rfl)
  | ptr b o => refine single h rfl ?_; simp only [VRel] at h; obtain ⟨_, _, _, rfl⟩ := h; rfl
  | sl b o n c => refine single h rfl ?_; simp only [VRel] at h; obtain ⟨_, _, _, _, _, rfl, _⟩ := h; rfl
  | fn f a b => refine single h rfl ?_; simp only [VRel] at h; obtain ⟨_, _, rfl, _⟩ := h; rfl
  | iface t x => refine single h rfl ?_; simp only [VRel] at h; obtain ⟨_, rfl, _⟩ := h; rfl
  | _ => refine single h rfl ?_; simp only [VRel] at h; subst h; rfl

/- CELLS -/
theorem add_cell {w : World} {ab off i : Nat} {c : Array Value} {elem : TypeId} {fz : Nat × Nat} (h : w.heap[ab]? = some (.cells c elem fz)) :
    w.cell? (Addr.add ⟨ab, off, none⟩ i) = c[off + i]? := by
  unfold Addr.add
  by_cases h0 : i = 0
  · subst h0; simp [World.cell?, h]
  · simp [World.cell?, h, h0]
theorem run_loadCellsFrom {w : World} {ab off : Nat} {c : Array Value} {elem : TypeId} {fz : Nat × Nat} (h : w.heap[ab]? = some (.cells c elem fz)) :
    ∀ (vs : List Value) (i : Nat) (acc : Array Value), (∀ k v, vs[k]? = some v → c[off + i + k]? = some v) →
      (loadCellsFrom ⟨ab, off, none⟩ i vs.length acc).run P w = .ok (acc ++ vs.toArray) w
  | [], i, acc, _ => by simp [loadCellsFrom]
  | v :: vs, i, acc, hv => by
    have h0 : w.cell? (Addr.add ⟨ab, off, none⟩ i) = some v := by rw [add_cell h]; exact hv 0 v (by simp)
    simp only [List.length_cons, loadCellsFrom, Sem.run_bind, run_load, h0, Result.andThen_ok]
    rw [run_loadCellsFrom h vs (i + 1) (acc.push v) fun k u hk => by
      have := hv (k + 1) u (by simpa using hk)
      rw [show off + (i + 1) + k = off + i + (k + 1) by omega]; exact this]
    simp
theorem run_loadCells {w : World} {ab off : Nat} {c : Array Value} {elem : TypeId} {fz : Nat × Nat} (h : w.heap[ab]? = some (.cells c elem fz))
    (vs : List Value) (hv : ∀ k v, vs[k]? = some v → c[off + k]? = some v) :
    (loadCells ⟨ab, off, none⟩ vs.length).run P w = .ok vs.toArray w := by
  unfold loadCells
  rw [run_loadCellsFrom h vs 0 #[] (by simpa using hv)]
  simp

/-- the world with block ab holding o -/
def wput (w : World) (ab : Nat) (o : Obj) : World := { w with heap := w.heap.setIfInBounds ab o }
theorem wput_same {w : World} {ab : Nat} {o o' : Obj} (h : w.heap[ab]? = some o') : (wput w ab o).heap[ab]? = some o := by
  have : ab < w.heap.size := by
    rcases Nat.lt_or_ge ab w.heap.size with h1 | h1
    · exact h1
    · rw [Array.getElem?_eq_none h1] at h; cases h
  simp [wput, this]
theorem wput_ne {w : World} {ab b : Nat} {o : Obj} (h : b ≠ ab) : (wput w ab o).heap[b]? = w.heap[b]? := by
  simp [wput, Array.getElem?_setIfInBounds_ne (Ne.symm h)]
theorem wput_size {w : World} {ab : Nat} {o : Obj} : (wput w ab o).heap.size = w.heap.size := by simp [wput]
theorem wput_wput {w : World} {ab : Nat} {o o' : Obj} : wput (wput w ab o) ab o' = wput w ab o' := by simp [wput]
theorem wput_self {w : World} {ab : Nat} {o : Obj} (h : w.heap[ab]? = some o) : wput w ab o = w := by
  unfold wput
  congr 1
  apply Array.ext_getElem?
  intro i
  by_cases hi : i = ab
  · subst hi
    have : i < w.heap.size := by
      rcases Nat.lt_or_ge i w.heap.size with h1 | h1
      · exact h1
      · rw [Array.getElem?_eq_none h1] at h; cases h
    rw [Array.getElem?_setIfInBounds_self_of_lt this, h]
  · rw [Array.getElem?_setIfInBounds_ne (Ne.symm hi)]
theorem setCell_put {w : World} {ab off : Nat} {c : Array Value} {elem : TypeId} {fz : Nat × Nat} {v : Value} (h : w.heap[ab]? = some (.cells c elem fz)) :
    w.setCell ⟨ab, off, none⟩ v = wput w ab (.cells (c.setIfInBounds off v) elem fz) := by
  unfold World.setCell wput
  congr 1
  apply Array.ext_getElem?
  intro i
  have hb : ab < w.heap.size := by
    rcases Nat.lt_or_ge ab w.heap.size with h1 | h1
    · exact h1
    · rw [Array.getElem?_eq_none h1] at h; cases h
  by_cases hi : i = ab
  · subst hi; rw [Array.getElem?_setIfInBounds_self_of_lt hb, Array.getElem?_modify, if_pos rfl, h]; rfl
  · rw [Array.getElem?_setIfInBounds_ne (Ne.symm hi), Array.getElem?_modify, if_neg (Ne.symm hi)]
/-- an array with a list laid over it -/
def laid (c : Array Value) (off : Nat) : List Value → Array Value
  | [] => c
  | v :: vs => laid (c.setIfInBounds off v) (off + 1) vs
theorem laid_size : ∀ (vs : List Value) (c : Array Value) (off : Nat), (laid c off vs).size = c.size
  | [], _, _ => rfl
  | v :: vs, c, off => by rw [laid, laid_size vs]; simp
theorem laid_get : ∀ (vs : List Value) (c : Array Value) (off k : Nat), off + vs.length ≤ c.size →
    (laid c off vs)[k]? = if off ≤ k ∧ k < off + vs.length then vs[k - off]? else c[k]?
  | [], c, off, k, _ => by rw [if_neg (by simp)]; rfl
  | v :: vs, c, off, k, h => by
    simp only [List.length_cons] at h
    rw [laid, laid_get vs _ _ _ (by simp; omega)]
    by_cases h1 : off + 1 ≤ k ∧ k < off + 1 + vs.length
    · rw [if_pos h1, if_pos (by simp; omega)]
      rw [show k - off = (k - (off + 1)) + 1 by omega]; simp
    · rw [if_neg h1]
      by_cases h2 : k = off
      · subst h2
        rw [if_pos (by simp), Array.getElem?_setIfInBounds_self_of_lt (by omega)]; simp
      · rw [if_neg (by simp; omega), Array.getElem?_setIfInBounds_ne (Ne.symm h2)]
theorem run_storeCells {ab off : Nat} {elem : TypeId} {fz : Nat × Nat} : ∀ (vs : List Value) (w : World) (c : Array Value) (i : Nat),
    w.heap[ab]? = some (.cells c elem fz) → (∀ o, o < c.size → ¬(fz.1 ≤ o ∧ o < fz.2)) → off + i + vs.length ≤ c.size → (∀ v ∈ vs, v.oneCell' = true) →
    (storeCells ⟨ab, off, none⟩ vs i).run P w = .ok () (wput w ab (.cells (laid c (off + i) vs) elem fz))
  | [], w, c, i, h, _, _, _ => by
    simp only [storeCells, laid, Sem.run_pure]
    rw [wput_self h]
  | v :: vs, w, c, i, h, hf, hs, hv => by
    simp only [List.length_cons] at hs
    have hcell : w.cell? (Addr.add ⟨ab, off, none⟩ i) = some c[off + i] := by rw [add_cell h]; simp
    have hfz : w.frozen? (Addr.add ⟨ab, off, none⟩ i) = false := by
      have h3 := hf (off + i) (by omega)
      obtain ⟨f1, f2⟩ := fz
      have key : w.frozen? ⟨ab, off + i, none⟩ = false := by
        unfold World.frozen?
        simp only [h]
        simp only [Bool.and_eq_false_iff, decide_eq_false_iff_not]
        by_cases h1 : f1 ≤ off + i
        · exact .inr fun h2 => h3 ⟨h1, h2⟩
        · exact .inl h1
      unfold Addr.add
      by_cases h0 : i = 0
      · subst h0; rw [if_pos rfl]; exact key
      · rw [if_neg h0]; exact key
    have hset : w.setCell (Addr.add ⟨ab, off, none⟩ i) v = wput w ab (.cells (c.setIfInBounds (off + i) v) elem fz) := by
      unfold Addr.add
      by_cases h0 : i = 0
      · subst h0; rw [if_pos rfl]; exact setCell_put h
      · rw [if_neg h0]; exact setCell_put h
    simp only [storeCells, Sem.run_bind, run_store P w _ v _ (hv v (List.mem_cons_self ..)), hcell, hfz, hset, Bool.false_eq_true, if_false, Result.andThen_ok]
    rw [run_storeCells vs _ (c.setIfInBounds (off + i) v) (i + 1) (wput_same h) (by simpa using hf) (by simp; omega) fun u hu => hv u (List.mem_cons_of_mem _ hu)]
    rw [wput_wput]
    rfl
end Go.AM
