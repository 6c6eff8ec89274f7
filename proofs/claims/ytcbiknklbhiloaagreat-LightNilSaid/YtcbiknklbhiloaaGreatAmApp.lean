/- Lemmas on the evaluator over abstract memory: what it does is what the model does. Conditions: those of each statement. -/
import Derived.Test.YtcbiknklbhiloaaGreatAmBuild
namespace Go.AM
open Go
variable {A : AP} {P : Program} {ng : Nat} {m : Env} {H H' : AH} {w : World}

theorem rep_length (z : List AV) : ∀ n, (rep z n).length = n * z.length
  | 0 => by simp [rep]
  | n + 1 => by simp [rep, rep_length z n, Nat.add_mul, Nat.add_comm]
theorem rep_get (z : List AV) : ∀ n k, k < n * z.length → (rep z n)[k]? = z[k % z.length]?
  | 0, k, h => by simp at h
  | n + 1, k, h => by
    simp only [rep]
    by_cases hk : k < z.length
    · rw [List.getElem?_append_left hk, Nat.mod_eq_of_lt hk]
    · have h' : k < n * z.length + z.length := by rw [Nat.add_mul, Nat.one_mul] at h; exact h
      have hz : 0 < z.length := by
        rcases Nat.eq_zero_or_pos z.length with h0 | h0
        · rw [h0] at h'; simp at h'
        · exact h0
      rw [List.getElem?_append_right (by omega), rep_get z n (k - z.length) (by omega)]
      rw [Nat.mod_eq_sub_mod (a := k) (by omega)]
theorem zeroCells_rel {z : List AV} {zv : Array Value} (h : VsRel m z zv.toList) (n N : Nat) (hN : N = n * z.length) :
    VsRel m (rep z n) ((Array.range N).map fun i => zv[i % zv.size]!).toList := by
  subst hN
  have hl : z.length = zv.size := by rw [← Array.length_toList]; exact h.length
  refine VsRel.of_get (by simp [rep_length]) fun k a hk => ?_
  have hkl : k < n * z.length := by
    rcases Nat.lt_or_ge k (rep z n).length with h1 | h1
    · rwa [rep_length] at h1
    · rw [List.getElem?_eq_none h1] at hk; cases hk
  rw [rep_get z n k hkl] at hk
  obtain ⟨u, hu, hr⟩ := h.get _ a hk
  refine ⟨u, ?_, hr⟩
  rw [← hl]
  simp only [Array.getElem?_toList, Array.getElem?_map, Array.getElem?_range, hkl, if_true, Option.map_some]
  rw [Array.getElem?_toList] at hu
  simp only [Array.getElem!_eq_getD, Array.getD_eq_getD_getElem?, hu, Option.getD_some]
theorem elemOK_spec (hA : APok A P) {e : Nat} {ei : TypeInfo} (he : A.types.get e = some ei) (h : elemOK A e ei = true) (m : Env) (w : World) :
    0 < ei.size ∧ A.size e = some ei.size ∧ ∃ z zv, A.zero e = some z ∧ (zeroValue e).run P w = .ok zv w ∧ VRel m z zv ∧ z.cells.length = ei.size ∧ zv.cells.size = ei.size := by
  unfold elemOK at h
  split at h
  · rename_i z hz
    split at h
    · rename_i hl
      obtain ⟨zv, h1, h2⟩ := run_zero (P := P) hA m hz w
      refine ⟨blt_iff.1 h, by unfold AP.size; rw [he], z, zv, hz, h1, h2, beq_iff.1 hl, ?_⟩
      have := h2.cells.length
      rw [beq_iff.1 hl] at this
      simpa using this.symm
    · cases h
  · cases h

/- BYTES -/
theorem bytesCells_rel : ∀ (s : List Nat), allB s = true → VsRel m (bytesCells s) ((bstr s).data.map fun b => Value.int .u8 b.toNat).toList
  | [], _ => by simp [bytesCells, bstr, VsRel]
  | c :: cs, h => by
    obtain ⟨h1, h2⟩ := allB_cons h
    have ih := bytesCells_rel cs h2
    simp only [bytesCells, bstr, List.map_cons] at ih ⊢
    simp only [List.map_toArray, List.map_cons] at ih ⊢
    refine VsRel.cons ?_ ih
    simp only [VRel, UInt8.toNat_ofNat']
    rw [Nat.mod_eq_of_lt h1]
theorem bytesCells_length : ∀ (s : List Nat), (bytesCells s).length = s.length
  | [] => rfl
  | _ :: s => by simp [bytesCells, bytesCells_length s]
theorem allB_take : ∀ (n : Nat) (s : List Nat), allB s = true → allB (s.take n) = true
  | 0, _, _ => by simp [allB]
  | _ + 1, [], _ => by simp [allB]
  | n + 1, c :: s, h => by
    obtain ⟨h1, h2⟩ := allB_cons h
    simp only [List.take_succ_cons, allB, blt_iff.2 h1, cond_true]
    exact allB_take n s h2
theorem cellsBytes_spec : ∀ (cs : List AV) (l : List Nat) (vs : List Value), VsRel m cs vs → cellsBytes cs = some l →
    ∃ ns : List Int, vs = ns.map (Value.int .u8) ∧ ∀ s : ByteArray, ns.foldl (fun r n => r.push (UInt8.ofNat n.toNat)) s = s ++ bstr l
  | [], l, vs, hr, h => by
    simp only [VsRel] at hr; subst hr
    simp only [cellsBytes] at h; cases h
    refine ⟨[], rfl, fun s => ?_⟩
    apply ByteArray.ext
    simp [bstr]
  | c :: cs, l, vs, hr, h => by
    simp only [VsRel] at hr
    obtain ⟨v, us, rfl, hv, hus⟩ := hr
    cases c <;> try (simp only [cellsBytes, reduceCtorEq] at h; done)
    rename_i k i
    cases k <;> try (simp only [cellsBytes, reduceCtorEq] at h; done)
    cases i <;> try (simp only [cellsBytes, reduceCtorEq] at h; done)
    rename_i n
    simp only [cellsBytes] at h
    split at h
    · split at h
      · rename_i l' hl'
        cases h
        simp only [VRel] at hv
        subst hv
        obtain ⟨ns, rfl, h2⟩ := cellsBytes_spec cs l' us hus hl'
        refine ⟨(Int.ofNat n) :: ns, rfl, fun s => ?_⟩
        simp only [List.foldl_cons]
        rw [h2]
        apply ByteArray.ext
        simp [bstr, ByteArray.push]
      · cases h
    · cases h
theorem bytesToStr_rel (hA : APok A P) (hI : Inv ng m H w) {src dst e : Nat} {x v : AV} {x' : Value} (hs : A.desc src = some (.slice e)) (hd : A.desc dst = some .string)
    (hx : VRel m x x') (h : bytesToStr A H e x = some (v, H')) : H' = H ∧ ∃ v', (Go.convert src dst x').run P w = .ok v' w ∧ VRel m v v' := by
  unfold bytesToStr at h
  split at h
  · rename_i he
    split at h
    · cases h
      simp only [VRel] at hx; subst hx
      refine ⟨rfl, .string .empty, ?_, by simp only [VRel]; rfl⟩
      rw [run_convert_bytes_string w src dst e none 0 0 (und hA hs) (und hA he) (und hA hd)]
      rfl
    · rename_i b o len cap0
      split at h
      · rename_i cs hcs
        split at h
        · rename_i l hl
          cases h
          simp only [VRel] at hx
          obtain ⟨ab, ao, a, c, hb, rfl, hcap, ha, hlen⟩ := hx
          refine ⟨rfl, .string (bstr l), ?_, by simp only [VRel]⟩
          rw [run_convert_bytes_string w src dst e (some a) len c (und hA hs) (und hA he) (und hA hd)]
          obtain ⟨vs, hv, hvl, hrun⟩ := loadN_rel (P := P) hI hb hcs
          obtain ⟨ns, rfl, hns⟩ := cellsBytes_spec cs l vs hv hl
          have hrun' : (loadCells a len).run P w = .ok (ns.map (Value.int .u8)).toArray w := by
            rcases ha with h0 | h0
            · have : len = 0 := by omega
              subst this
              have : ns = [] := by simpa using hvl
              subst this
              rfl
            · subst h0; exact hrun
          rw [run_bytesToString w a len c ns hrun', hns]
          congr 2
        · cases h
      · cases h
    · cases h
  · cases h

/- WHAT IS APPENDED OR COPIED -/
theorem lenOf_rel {x : AV} {x' : Value} {n : Nat} (hx : VRel m x x') (h : lenOf x = some n) : (Builtin.lenOf x').run P w = .ok n w := by
  cases x <;> simp only [lenOf, reduceCtorEq] at h
  · cases h; simp only [VRel] at hx; subst hx; simp only [Builtin.lenOf, bstr_size, Sem.run_pure]
  · cases h; simp only [VRel] at hx; subst hx; rfl
  · cases h; simp only [VRel] at hx; obtain ⟨_, _, _, _, _, rfl, _⟩ := hx; rfl
theorem firstCells_rel (hI : Inv ng m H w) {x : AV} {x' : Value} {es n N : Nat} {l : List AV} (hx : VRel m x x') (hn : lenOf x = some N) (hnN : n ≤ N) (h : firstCells H es n x = some l) :
    ∃ vs : Array Value, (Builtin.firstCells es n x').run P w = .ok vs w ∧ VsRel m l vs.toList := by
  cases x <;> simp only [lenOf, reduceCtorEq] at hn
  · rename_i s
    cases hn
    simp only [VRel] at hx; subst hx
    simp only [firstCells] at h
    cases he1 : Nat.beq es 1 with
    | false => rw [he1] at h; cases h
    | true =>
    rw [he1] at h
    simp only [cond_true] at h
    cases hb : allB s with
    | false => rw [hb] at h; cases h
    | true =>
      rw [hb] at h; cases h
      refine ⟨_, rfl, ?_⟩
      have := bytesCells_rel (m := m) (s.take n) (allB_take n s hb)
      have e : (bstr s).extract 0 n = bstr (s.take n) := by
        apply ByteArray.ext
        simp [bstr, ByteArray.data_extract, List.extract_eq_take_drop, List.map_take]
      rw [e]; exact this
  · simp only [firstCells] at h; cases h
    simp only [VRel] at hx; subst hx
    exact ⟨#[], rfl, VsRel.nil⟩
  · rename_i b o len cap
    cases hn
    simp only [firstCells] at h
    simp only [VRel] at hx
    obtain ⟨ab, ao, a, c, hb, rfl, hcap, ha, hlen⟩ := hx
    obtain ⟨vs, hv, hvl, hrun⟩ := loadN_rel (P := P) hI hb h
    refine ⟨vs.toArray, ?_, by simpa using hv⟩
    rcases ha with h0 | h0
    · have : n = 0 := by omega
      subst this
      have : vs = [] := by simpa using hvl
      subst this
      simp [Builtin.firstCells, loadCells, loadCellsFrom]
    · subst h0; exact hrun
theorem firstCells_length {x : AV} {es n N : Nat} {l : List AV} (hn : lenOf x = some N) (hnN : n ≤ N) (h : firstCells H es n x = some l) : l.length = n * es := by
  cases x <;> simp only [lenOf, reduceCtorEq] at hn
  · rename_i s
    cases hn
    simp only [firstCells] at h
    cases he1 : Nat.beq es 1 with
    | false => rw [he1] at h; cases h
    | true =>
    rw [he1] at h
    simp only [cond_true] at h
    cases hb : allB s with
    | false => rw [hb] at h; cases h
    | true => rw [hb] at h; cases h; rw [bytesCells_length, beq_iff.1 he1]; simp; omega
  · simp only [firstCells] at h; cases h; cases hn; have : n = 0 := by omega
    subst this; simp
  · simp only [firstCells] at h
    obtain ⟨cs, ro, _, rfl, h3⟩ := loadN_eq h
    simp; omega
end Go.AM
