/- Lemmas on the evaluator over abstract memory: what it does is what the model does. Conditions: those of each statement. -/
import Derived.Test.YtcbiknklbhiloaaGreatAmEff
namespace Go.AM
open Go
variable {A : AP} {P : Program} {ng : Nat} {m : Env} {H H' : AH} {w : World}

theorem copy_rel (hA : APok A P) (hI : Inv ng m H w) {t : Nat} {ts : List Nat} {d s v : AV} {d' s' : Value} {rest : List Value} (hd : VRel m d d') (hs : VRel m s s') (h : copyB A H t d s = some (v, H')) (ty : TypeId) :
    Eff P ng m H w (Builtin.copy_ (t :: ts).toArray ty (d' :: s' :: rest).toArray) v H' := by
  unfold copyB at h
  split at h
  · rename_i e hde
    split at h
    · rename_i es hes
      split at h
      · rename_i n0 hn0
        have hlr := fun w1 => lenOf_rel (P := P) (w := w1) hs hn0
        split at h
        · rename_i b o len cap
          simp only [VRel] at hd
          obtain ⟨ab, ao, a, c, hb, rfl, hcap, ha, hlen⟩ := hd
          unfold copyTo at h
          split at h
          · rename_i cs hcs
            obtain ⟨vs, h1, h2⟩ := firstCells_rel (P := P) hI hs hn0 (Nat.min_le_left _ _) hcs
            split at h
            · cases h
              have e0 : vs = #[] := by
                have := h2.length
                apply Array.ext'
                simpa using this.symm
              subst e0
              refine ⟨.int .i64 (Nat.min n0 len), w, m, ?_, hI, Stp.refl hI, by simp only [VRel]⟩
              simp [Builtin.copy_, run_und hA hde, run_sizeOf hA hes, hlr, h1, storeCells, goInt]
            · split at h
              · rename_i x1 x2 H1 hst
                cases h
                obtain ⟨w', hrun, hI', hS'⟩ := storeN_rel (P := P) hI hb hst h2
                refine ⟨.int .i64 (Nat.min n0 len), w', m, ?_, hI', hS', by simp only [VRel]⟩
                have ha' : a = ⟨ab, ao + o, none⟩ := by
                  refine ha.resolve_left fun e0 => ?_
                  have e1 : len = 0 := by omega
                  subst e1
                  have e2 : Nat.min n0 0 = 0 := Nat.min_zero _
                  rw [e2] at hcs
                  have := firstCells_length hn0 (Nat.zero_le _) hcs
                  simp at this
                subst ha'
                simp [Builtin.copy_, run_und hA hde, run_sizeOf hA hes, hlr, h1, hrun, goInt]
              · cases h
          · cases h
        · cases h
          simp only [VRel] at hd; subst hd
          refine ⟨.int .i64 0, w, m, ?_, hI, Stp.refl hI, by simp only [VRel]⟩
          have hz : ∃ vs, (Builtin.firstCells es 0 s').run P w = .ok vs w := by
            cases s <;> simp only [lenOf, reduceCtorEq] at hn0 <;> simp only [VRel] at hs
            · subst hs; exact ⟨_, rfl⟩
            · subst hs; exact ⟨_, rfl⟩
            · obtain ⟨_, _, a, _, _, rfl, _⟩ := hs
              exact ⟨#[], by simp [Builtin.firstCells, loadCells, loadCellsFrom]⟩
          obtain ⟨vs, hvs⟩ := hz
          simp [Builtin.copy_, run_und hA hde, run_sizeOf hA hes, hlr, hvs, goInt]
        · cases h
      · cases h
    · cases h
  · cases h
theorem clear_rel (hA : APok A P) (hI : Inv ng m H w) {t : Nat} {ts : List Nat} {x v : AV} {x' : Value} {rest : List Value} (hx : VRel m x x') (h : clearB A H t x = some (v, H')) (ty : TypeId) :
    Eff P ng m H w (Builtin.clear_ (t :: ts).toArray ty (x' :: rest).toArray) v H' := by
  have tup : VRel m (.tup []) (.tuple #[]) := by simp only [VRel]; exact ⟨[], rfl, VsRel.nil⟩
  unfold clearB at h
  split at h
  · rename_i e hd
    split at h
    · cases h; simp only [VRel] at hx; subst hx
      exact ⟨.tuple #[], w, m, by simp [Builtin.clear_, run_und hA hd], hI, Stp.refl hI, tup⟩
    · rename_i b o n cap
      split at h
      · cases h; simp only [VRel] at hx; obtain ⟨_, _, _, _, _, rfl, _⟩ := hx
        exact ⟨.tuple #[], w, m, by simp [Builtin.clear_, run_und hA hd], hI, Stp.refl hI, tup⟩
      · rename_i n
        split at h
        · rename_i z hz
          split at h
          · rename_i H1 hst
            cases h
            simp only [VRel] at hx
            obtain ⟨ab, ao, a, c, hb, rfl, hcap, ha, hlen⟩ := hx
            have ha' := ha.resolve_left (by omega)
            subst ha'
            obtain ⟨zv, hzr, hzv⟩ := run_zeroAll (P := P) hA m hz
            have hzc := hzv.cells
            have hzl : z.cells.length = zv.cells.size := by rw [← Array.length_toList]; exact hzc.length
            obtain ⟨w', hrun, hI', hS'⟩ := storeN_rel (P := P) hI hb hst (zeroCells_rel hzc (n + 1) ((n + 1) * zv.cells.size) (by rw [hzl]))
            refine ⟨.tuple #[], w', m, ?_, hI', hS', tup⟩
            have hrun' : (storeCells ⟨ab, ao + o, none⟩ (Builtin.zeroCells zv.cells (n + 1)).toList).run P w = .ok () w' := hrun
            simp only [Array.toList_map, Array.toList_range, Builtin.zeroCells] at hrun'
            simp [Builtin.clear_, run_und hA hd, hzr, Builtin.zeroCells, hrun']
          · cases h
        · cases h
    · cases h
  · rename_i k e hd
    split at h
    · cases h; simp only [VRel] at hx; subst hx
      exact ⟨.tuple #[], w, m, by simp [Builtin.clear_, run_und hA hd], hI, Stp.refl hI, tup⟩
    · rename_i r
      split at h
      · rename_i es clock hg
        cases h
        simp only [VRel] at hx
        obtain ⟨ar, hr, rfl⟩ := hx
        obtain ⟨_, es', hw, he⟩ := hI.live r _ hg ar 0 hr
        obtain ⟨q1, q2⟩ := put_inv (o' := .map #[] clock) (ob' := .map [] clock) hI hg rfl hr ⟨rfl, #[], wput_same hw, rfl⟩
        refine ⟨.tuple #[], _, m, ?_, q1, q2, tup⟩
        simp [Builtin.clear_, run_und hA hd, run_getObj_map hw, run_setObj_map hw]
      · cases h
    · cases h
  · cases h
theorem strToBytes_rel (hA : APok A P) (hI : Inv ng m H w) {src dst e : Nat} {s : List Nat} {v : AV} (hs : A.desc src = some .string) (hd : A.desc dst = some (.slice e))
    (h : strToBytes A H e s = some (v, H')) : Eff P ng m H w (Go.convert src dst (.string (bstr s))) v H' := by
  unfold strToBytes at h
  split at h
  · rename_i he
    split at h
    · rename_i hall
      split at h
      · rename_i hlt
        split at h
        · rename_i b H1 hnew
          cases h
          obtain ⟨hId, hSd⟩ := drawn_inv hI (w.drawn + 1)
          let N := (Question.appendCap (bstr s).size 0 e).cut (w.tape w.drawn (Question.appendCap (bstr s).size 0 e))
          have hN : s.length ≤ N := by simp only [N, Question.cut, bstr_size]; exact Nat.le_add_right _ _
          have hcells := bytesCells_rel (m := m) s hall
          let cs : Array Value := ((bstr s).data.map fun b => Value.int .u8 b.toNat) ++ Array.replicate (N - (bstr s).size) (.int .u8 0)
          have hsz0 : ((bstr s).data.map fun b => Value.int .u8 b.toNat).size = s.length := by simp [bstr]
          have hsz : cs.size = N := by
            simp only [cs, Array.size_append, hsz0, Array.size_replicate, bstr_size]; omega
          have hfr := hId.fresh b (by rw [(new_eq hnew).1]; exact Nat.le_refl _)
          have hle := Env.with_le (m := m) (ab := w.heap.size) (ao := 0) (room := N) hfr
          -- the new block, with the mark behind its end
          let o' : Obj := .cells cs e (cs.size, cs.size + 1)
          obtain ⟨q1, q2⟩ := new_inv (w := { w with drawn := w.drawn + 1 }) hId (room := N) hnew (o := o') (by
            refine ⟨cs, e, (cs.size, cs.size + 1), walloc_new, (fun o ho hx => by simp only at hx; omega), by rw [bytesCells_length]; exact hN, by omega, fun k v hk => ?_⟩
            obtain ⟨u, hu, hr⟩ := hcells.get k v hk
            refine ⟨u, ?_, .inr (VRel.mono hle _ _ hr)⟩
            have hk' : k < s.length := by
              rcases Nat.lt_or_ge k (bytesCells s).length with h6 | h6
              · rwa [bytesCells_length] at h6
              · rw [List.getElem?_eq_none h6] at hk; cases hk
            rw [Nat.zero_add]
            simp only [cs]
            rw [Array.getElem?_append_left (by rw [hsz0]; exact hk'), ← hu, Array.getElem?_toList])
          refine ⟨.slice (some ⟨w.heap.size, 0, none⟩) (bstr s).size N, _, _, ?_, q1, hSd.trans q2, ?_⟩
          · have hconv : (Go.convert src dst (.string (bstr s))).run P w = (Conv.stringToBytes e (bstr s)).run P w := by
              simp [Go.convert, run_und hA hs, run_und hA hd, run_und hA he]
            rw [hconv]
            have hforced : (Question.appendCap (bstr s).size 0 e).forced = false := rfl
            have hshape : World.shape? { w with drawn := w.drawn + 1, heap := w.heap.push (.cells cs e) } w.heap.size = some (e, cs.size) := by
              unfold World.shape?
              have : (w.heap.push (Obj.cells cs e))[w.heap.size]? = some (.cells cs e) := Array.getElem?_push_size
              rw [this]
            have hcs : (((bstr s).data.map fun b => Value.int .u8 b.toNat) ++ Array.replicate ((Question.appendCap (bstr s).size 0 e).cut (w.tape w.drawn (Question.appendCap (bstr s).size 0 e)) - (bstr s).size) (.int .u8 0)) = cs := rfl
            have hfreeze : World.freeze { w with drawn := w.drawn + 1, heap := w.heap.push (.cells cs e) } { block := w.heap.size, off := cs.size } 1 = walloc { w with drawn := w.drawn + 1 } o' := by
              unfold World.freeze walloc
              rw [if_neg (by omega)]
              congr 1
              apply Array.ext_getElem?
              intro i
              rw [Array.getElem?_modify]
              by_cases hi : i = w.heap.size
              · subst hi
                rw [if_pos rfl, Array.getElem?_push_size]
                show _ = (w.heap.push o')[w.heap.size]?
                rw [Array.getElem?_push_size]
                rfl
              · rw [if_neg (Ne.symm hi), Array.getElem?_push, if_neg hi]
                show _ = (w.heap.push o')[i]?
                rw [Array.getElem?_push, if_neg hi]
            unfold Conv.stringToBytes
            simp only [Sem.run_bind, run_choose, hforced, Bool.false_eq_true, if_false, Result.andThen_ok, newRow, run_newObj, Sem.run_pure, markStringish, run_shape, hcs, hshape, run_freeze, hfreeze]
            rfl
          · simp only [VRel, bstr_size]
            refine ⟨w.heap.size, 0, _, N, by simp [Env.with_], rfl, ⟨Nat.one_pos, Nat.zero_le _, ?_⟩, .inr rfl, hN⟩
            simp [Env.with_]
        · cases h
      · cases h
    · cases h
  · cases h
end Go.AM
