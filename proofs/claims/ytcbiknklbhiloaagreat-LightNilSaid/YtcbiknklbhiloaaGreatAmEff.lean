/- Lemmas on the evaluator over abstract memory: what it does is what the model does. Conditions: those of each statement. -/
import Derived.Test.YtcbiknklbhiloaaGreatAmAppend
namespace Go.AM
open Go
variable {A : AP} {P : Program} {ng : Nat} {m : Env} {H H' : AH} {w : World}

theorem run_zeroAll (hA : APok A P) (m : Env) {t : Nat} {z : AV} (h : A.zero t = some z) : ∃ v, (∀ w, (zeroValue t).run P w = .ok v w) ∧ VRel m z v := by
  unfold AP.zero at h
  cases hi : A.types.get t with
  | none => rw [hi] at h; cases h
  | some i =>
    rw [hi] at h
    simp only at h
    cases hz : i.zero with
    | none => rw [hz] at h; cases h
    | some v =>
      rw [hz] at h
      refine ⟨v, fun w => ?_, ofVal_rel m v z h⟩
      simp only [zeroValue, Sem.run_bind, run_typeInfo hA hi, Result.andThen_ok, hz, Sem.run_pure]
theorem elemOK_all (hA : APok A P) {e : Nat} {ei : TypeInfo} (he : A.types.get e = some ei) (h : elemOK A e ei = true) (m : Env) :
    0 < ei.size ∧ A.size e = some ei.size ∧ ∃ z zv, A.zero e = some z ∧ (∀ w, (zeroValue e).run P w = .ok zv w) ∧ VRel m z zv ∧ z.cells.length = ei.size ∧ zv.cells.size = ei.size := by
  unfold elemOK at h
  split at h
  · rename_i z hz
    split at h
    · rename_i hl
      obtain ⟨zv, h1, h2⟩ := run_zeroAll (P := P) hA m hz
      refine ⟨blt_iff.1 h, by unfold AP.size; rw [he], z, zv, hz, h1, h2, beq_iff.1 hl, ?_⟩
      have := h2.cells.length
      rw [beq_iff.1 hl] at this
      simpa using this.symm
    · cases h
  · cases h
/-- an effect: what it comes to -/
def Eff (P : Program) (ng : Nat) (m : Env) (H : AH) (w : World) (s : Sem Value) (v : AV) (H' : AH) : Prop :=
  ∃ v' w' m', s.run P w = .ok v' w' ∧ Inv ng m' H' w' ∧ Stp m H w m' H' w' ∧ VRel m' v v'

theorem appendNew_rel (hA : APok A P) {H0 : AH} {st xt e : Nat} {ei : TypeInfo} {ty : TypeId} {base : Option Addr} {sLen sCap n : Nat} {x' : Value} {old new : List AV} {v : AV} {newv oldv : Array Value}
    (hI0 : Inv A.ng m H0 w.drew) (hS0 : Stp m H w m H0 w.drew) (hs : A.desc st = some (.slice e)) (hei : A.types.get e = some ei) (hok : elemOK A e ei = true)
    (hg : Given P w.drew e ei.size ei.bytes xt x' n newv) (hnew : VsRel m new newv.toList) (hnl : new.length = n * ei.size) (hfit : sCap < sLen + n)
    (hb : (sLen + n) * (ei.size + ei.bytes) < 1000000000)
    (hold : (Builtin.firstCells ei.size sLen (.slice base sLen sCap)).run P w.drew = .ok oldv w.drew) (hor : VsRel m old oldv.toList) (hol : old.length = sLen * ei.size)
    (h : appendNew H0 ei.size sLen n old new = some (v, H')) : Eff P A.ng m H w (Builtin.append_ #[st, xt] ty #[.slice base sLen sCap, x']) v H' := by
  obtain ⟨hpos, hsz, z, zv, hz, hzr, hzv, hzl, hzl'⟩ := elemOK_all (P := P) hA hei hok m
  obtain ⟨N, hN, hrun⟩ := append_grow (ty := ty) (base := base) hA hs hei hpos hg hfit hb hzr hold
  unfold appendNew at h
  split at h
  · rename_i hone
    split at h
    · rename_i b H1 hH1
      cases h
      have hlr := hnew.length
      have hlo := hor.length
      obtain ⟨m', h1, h2, h3⟩ := cells_new (H1 := H0) (w1 := w.drew) (elem := e) (es := ei.size) (cap := N) (len := sLen + n) (cs := oldv ++ newv ++ Builtin.zeroCells zv.cells (N - (sLen + n))) hI0 hpos (by
        have e1 : (oldv ++ newv ++ Builtin.zeroCells zv.cells (N - (sLen + n))).toList.take (old ++ new).length = oldv.toList ++ newv.toList := by
          simp only [Array.toList_append, List.append_assoc]
          have q1 : oldv.toList.length = oldv.size := Array.length_toList
          have q2 : newv.toList.length = newv.size := Array.length_toList
          rw [← List.append_assoc, List.take_append_of_le_length (by simp; omega), List.take_of_length_le (by simp; omega)]
        rw [e1]
        exact hor.append hnew) (by
        rw [List.length_append, hol, hnl, ← Nat.add_mul]
        exact Nat.mul_le_mul_right _ hN) (by
        have e2 : oldv.size = sLen * ei.size := by rw [← Array.length_toList]; omega
        have e3 : newv.size = n * ei.size := by rw [← Array.length_toList]; omega
        simp only [Array.size_append, e2, e3, Builtin.zeroCells, Array.size_map, Array.size_range, hzl']
        rw [← Nat.add_mul, ← Nat.add_mul]
        congr 1; omega) hN hH1
      exact ⟨_, _, m', hrun, h1, hS0.trans h2, h3⟩
    · cases h
  · cases h
theorem append_rel (hA : APok A P) (hI : Inv A.ng m H w) {st xt : Nat} {s x v : AV} {s' x' : Value} {ty : TypeId} (hs : VRel m s s') (hx : VRel m x x')
    (h : append A H st xt s x = some (v, H')) : Eff P A.ng m H w (Builtin.append_ #[st, xt] ty #[s', x']) v H' := by
  unfold append at h
  split at h
  · rename_i e hd
    split at h
    · rename_i ei hei
      split at h
      · rename_i hok
        split at h
        · rename_i n new happ
          obtain ⟨hpos, hsz, z, zv, hz, hzr, hzv, hzl, hzl'⟩ := elemOK_all (P := P) hA hei hok m
          obtain ⟨hId, hSd⟩ := drawn_inv hI (w.drawn + 1)
          obtain ⟨newv, hg, hnew, hnl⟩ := appended_given (P := P) hA hI hei hok hx happ
          obtain ⟨newv1, hg1, hnew1, _⟩ := appended_given (P := P) hA hId hei hok hx happ
          unfold appendTo at h
          split at h
          · simp only [VRel] at hs; subst hs
            cases n with
            | zero =>
              simp only at h
              cases h
              refine ⟨.slice none 0 0, w, m, ?_, hI, Stp.refl hI, by simp only [VRel]⟩
              rw [append_in hA hd hei hpos hg (Nat.le_refl _)]
              rfl
            | succ n =>
              simp only at h
              cases hb : Nat.blt ((n + 1) * (ei.size + ei.bytes)) 1000000000 with
              | false => rw [hb] at h; cases h
              | true =>
                rw [hb] at h
                have hb' := blt_iff.1 hb
                exact appendNew_rel hA hId hSd hd hei hok hg1 hnew1 hnl (by omega) (by rw [Nat.zero_add]; exact hb') (base := none) (oldv := #[]) rfl VsRel.nil (by simp) h
          · rename_i b o len cap
            cases hb : Nat.blt ((len + n) * (ei.size + ei.bytes)) 1000000000 with
            | false => rw [hb] at h; cases h
            | true =>
              rw [hb] at h
              have hb' := blt_iff.1 hb
              simp only [cond_true] at h
              simp only [VRel] at hs
              obtain ⟨ab, ao, a, c, hbk, rfl, hcap, ha, hlen⟩ := hs
              unfold appendSl at h
              split at h
              · rename_i c0 hc0
                have hcc := sure_le hI hbk hc0 hcap
                split at h
                · rename_i hfit0
                  have hfit := ble_iff.1 hfit0
                  split at h
                  · rename_i H1 hst
                    cases h
                    obtain ⟨w', hrun, hI', hS'⟩ := storeN_rel (P := P) hI hbk hst hnew
                    refine ⟨.slice (some a) (len + n) c, w', m, ?_, hI', hS', ?_⟩
                    · rw [append_in hA hd hei hpos hg (by omega)]
                      rcases ha with h0 | h0
                      · have e1 : len = 0 := by omega
                        have e2 : n = 0 := by omega
                        subst e1; subst e2
                        have e3 : newv = #[] := by
                          have := hnew.length
                          rw [hnl] at this
                          apply Array.ext'
                          simpa using this.symm
                        subst e3
                        simp only [storeCells, Sem.run_pure, Result.ok.injEq, true_and] at hrun
                        subst hrun
                        simp [storeCells]
                      · subst h0
                        simp only [add_addr, Sem.run_bind, Nat.add_assoc, hrun, Result.andThen_ok, Sem.run_pure]
                    · simp only [VRel]
                      exact ⟨ab, ao, a, c, hbk, rfl, hcap, ha, by omega⟩
                  · cases h
                · rename_i hfit0
                  have hnf := ble_false.1 hfit0
                  unfold appendGrow at h
                  split at h
                  · rename_i old hold
                    obtain ⟨_, _, _, hol1, hol2⟩ := loadN_eq hold
                    have hol : old.length = len * ei.size := by rw [hol1]; simp; omega
                    have oldrun : ∃ oldv : Array Value, (Builtin.firstCells ei.size len (.slice (some a) len c)).run P w.drew = .ok oldv w.drew ∧ VsRel m old oldv.toList := by
                      refine firstCells_rel (P := P) hId (x := .sl b o len cap) (N := len) ?_ rfl (Nat.le_refl _) (by simp only [firstCells]; exact hold)
                      simp only [VRel]
                      exact ⟨ab, ao, a, c, hbk, rfl, hcap, ha, hlen⟩
                    obtain ⟨oldv, hor1, hor2⟩ := oldrun
                    split at h
                    · rename_i n0
                      simp only [AH.sure, Option.some.injEq] at hc0
                      simp only [capR] at hcap
                      exact appendNew_rel hA hId hSd hd hei hok hg1 hnew1 hnl (by omega) hb' hor1 hor2 hol h
                    · rename_i es'
                      split at h
                      · rename_i hes
                        obtain rfl := beq_iff.1 hes
                        unfold appendVer at h
                        split at h
                        · rename_i cs0 hgb
                          obtain ⟨hK, hSK⟩ := kill_inv hId hbk
                          by_cases hreal : c < len + n
                          · exact appendNew_rel hA hK (hSd.trans hSK) hd hei hok hg1 hnew1 hnl hreal hb' hor1 hor2 hol h
                          · -- in place
                            unfold appendNew at h
                            split at h
                            · rename_i hone
                              split at h
                              · rename_i j H1 hH1
                                cases h
                                obtain ⟨g1, g2, g3⟩ := hcap
                                have hcpos : c ≠ 0 := by
                                  intro e0
                                  have e1 : len = 0 := by omega
                                  have e2 : n = 0 := by omega
                                  omega
                                have ha' := ha.resolve_left hcpos
                                subst ha'
                                obtain ⟨cv, elem, fz, k1, k2, k3, k4, k5⟩ := hI.live b _ hgb ab ao hbk
                                have hfitR : (len + n) * ei.size ≤ m.room b - o := (Nat.le_div_iff_mul_le g1).1 (by omega)
                                have hnvl := hnew.length
                                have hone' : ∀ u ∈ newv.toList, u.oneCell' = true := by
                                  intro u hu
                                  obtain ⟨k, hk⟩ := List.getElem?_of_mem hu
                                  have hkl : k < new.length := by
                                    rcases Nat.lt_or_ge k newv.toList.length with h6 | h6
                                    · omega
                                    · rw [List.getElem?_eq_none h6] at hk; cases hk
                                  obtain ⟨u', hu', hr'⟩ := hnew.get k new[k] (by simp [hkl])
                                  rw [hk] at hu'; cases hu'
                                  exact hr'.one (allOne_mem _ hone _ (List.mem_append_right _ (List.getElem_mem hkl)))
                                have hadd : (len + n) * ei.size = len * ei.size + n * ei.size := Nat.add_mul _ _ _
                                have hrun := run_storeCells (P := P) newv.toList w cv 0 k1 (fun o _ => k2 o) (off := ao + o + len * ei.size) (by omega) hone'
                                have hfrj := hK.fresh j (by rw [(new_eq hH1).1]; exact Nat.le_refl _)
                                have hle := Env.with_le (m := m) (ab := ab) (ao := ao + o) (room := m.room b - o) hfrj
                                obtain ⟨q1, q2⟩ := inplace_inv (H' := H') (x := ao + o) (room := m.room b - o) (o' := .cells (laid cv (ao + o + len * ei.size + 0) newv.toList) elem fz) hI hgb rfl hbk hH1 (by
                                  refine ⟨_, elem, fz, wput_same k1, k2, by rw [List.length_append]; omega, by rw [laid_size]; omega, ?_⟩
                                  intro k u hk
                                  rw [laid_get _ _ _ _ (by omega)]
                                  by_cases hin : k < old.length
                                  · rw [if_neg (by omega)]
                                    rw [List.getElem?_append_left hin] at hk
                                    obtain ⟨cs1, ro1, hg1', hq1, hq2⟩ := loadN_eq hold
                                    rw [hgb] at hg1'
                                    cases hg1'
                                    rw [hq1, List.getElem?_take] at hk
                                    split at hk
                                    · rw [List.getElem?_drop] at hk
                                      obtain ⟨u', hu', hr'⟩ := k5 (o + k) u hk
                                      exact ⟨u', by rw [← hu', Nat.add_assoc], hr'.imp id (VRel.mono hle _ _)⟩
                                    · cases hk
                                  · rw [List.getElem?_append_right (by omega)] at hk
                                    obtain ⟨u', hu', hr'⟩ := hnew.get _ u hk
                                    have hkn : k - old.length < new.length := by
                                      rcases Nat.lt_or_ge (k - old.length) new.length with h6 | h6
                                      · exact h6
                                      · rw [List.getElem?_eq_none h6] at hk; cases hk
                                    rw [if_pos (by omega)]
                                    refine ⟨u', ?_, .inr (VRel.mono hle _ _ hr')⟩
                                    rw [← hu']
                                    congr 1
                                    omega)
                                refine ⟨.slice (some ⟨ab, ao + o, none⟩) (len + n) c, _, _, ?_, q1, q2, ?_⟩
                                · rw [append_in hA hd hei hpos hg (by omega)]
                                  simp only [add_addr, Sem.run_bind, hrun, Result.andThen_ok, Sem.run_pure]
                                · simp only [VRel]
                                  refine ⟨ab, ao + o, _, c, by simp [Env.with_], rfl, ⟨g1, Nat.zero_le _, ?_⟩, .inr rfl, by omega⟩
                                  simp only [Env.with_, if_true, Nat.sub_zero]
                                  exact g3
                              · cases h
                            · cases h
                        · cases h
                      · cases h
                  · cases h
              · cases h
          · cases h
        · cases h
      · cases h
    · cases h
  · cases h
end Go.AM
