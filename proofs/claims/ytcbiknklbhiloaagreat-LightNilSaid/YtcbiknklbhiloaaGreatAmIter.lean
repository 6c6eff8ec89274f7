/- Lemmas on the evaluator over abstract memory: what it does is what the model does. Conditions: those of each statement. -/
import Derived.Test.YtcbiknklbhiloaaGreatAmAlloc
namespace Go.AM
open Go
variable {A : AP} {P : Program} {ng : Nat} {m : Env} {H H' : AH} {w : World}

theorem range_rel (hA : APok A P) (hI : Inv ng m H w) {t : Nat} {x v : AV} {x' : Value} (hx : VRel m x x') (h : opRange A H t x = some (v, H')) :
    Eff P ng m H w (Instr.range t x') v H' := by
  unfold opRange at h
  split at h
  · rename_i hd
    split at h
    · rename_i s
      refine newOb_rel (mk := .ptr) hI ?_ h
      simp only [VRel] at hx; subst hx
      refine ⟨.stringIter (bstr s) 0, 0, ?_, fun m' w2 ab _ hh => ⟨rfl, hh⟩⟩
      simp only [Instr.range, Sem.run_bind, run_und hA hd, Result.andThen_ok, Sem.run_pure, run_newObj]; rfl
    · cases h
  · rename_i kt vt hd
    split at h
    · refine newOb_rel (mk := .ptr) hI ?_ h
      simp only [VRel] at hx; subst hx
      refine ⟨.mapIter none 0 #[] 0, 0, ?_, fun m' w2 ab _ hh => ⟨rfl, none, hh, rfl⟩⟩
      simp only [Instr.range, Sem.run_bind, run_und hA hd, Result.andThen_ok, Sem.run_pure, run_newObj]; rfl
    · rename_i r
      split at h
      · rename_i es clock hm
        refine newOb_rel (mk := .ptr) hI ?_ h
        simp only [VRel] at hx
        obtain ⟨ar, hr, rfl⟩ := hx
        obtain ⟨_, es', hh, hes⟩ := mapAt_spec hI hr hm
        refine ⟨.mapIter (some ar) clock #[] clock, 0, ?_, fun m' w2 ab hle hh => ⟨rfl, some ar, hh, ar, (hle.blk _ _ hr).1, rfl⟩⟩
        simp only [Instr.range, Sem.run_bind, run_und hA hd, Result.andThen_ok, Sem.run_pure, run_getObj_map hh, run_newObj]; rfl
      · cases h
    · cases h
  · cases h

theorem EsRel.born : ∀ {es : List (AV × AV × Nat)} {es' : List MapEntry}, EsRel m es es' → es.map (·.2.2) = es'.map (·.born)
  | [], _, h => by simp only [EsRel] at h; subst h; rfl
  | e :: r, _, h => by
    obtain ⟨x, xs, rfl, _, _, hb, hr⟩ := h
    simp only [List.map_cons, hb, EsRel.born hr]
theorem unseen_nil {seen : List Nat} : ∀ {es : List (AV × AV × Nat)}, unseen seen es = [] → ∀ b ∈ es.map (·.2.2), seen.contains b = true
  | [], _ => fun b hb => by simp at hb
  | e :: es, h => by
    intro b hb
    simp only [unseen] at h
    split at h
    · rename_i hs
      simp only [List.map_cons, List.mem_cons] at hb
      rcases hb with rfl | hb
      · simp only [List.any_eq_true] at hs
        obtain ⟨s, h1, h2⟩ := hs
        rw [beq_iff] at h2; subst h2
        simpa using h1
      · exact unseen_nil h b hb
    · cases h
theorem unseen_self : ∀ {es : List (AV × AV × Nat)}, unseen [] es = es
  | [] => rfl
  | e :: es => by simp only [unseen, List.any_nil]; rw [unseen_self]
theorem anyOlder_spec {last : Nat} : ∀ {es : List (AV × AV × Nat)}, anyOlder last es = true → ∃ b ∈ es.map (·.2.2), b < last
  | [], h => by simp [anyOlder] at h
  | e :: es, h => by
    simp only [anyOlder] at h
    cases hb : Nat.blt e.2.2 last with
    | true => exact ⟨e.2.2, by simp, blt_iff.1 hb⟩
    | false => rw [hb] at h; obtain ⟨b, h1, h2⟩ := anyOlder_spec h; exact ⟨b, by simp only [List.map_cons, List.mem_cons]; exact .inr h1, h2⟩
theorem VRel.tup {as : List AV} {vs : List Value} (h : VsRel m as vs) : VRel m (.tup as) (.tuple ⟨vs⟩) := by simp only [VRel]; exact ⟨vs, rfl, h⟩
theorem VRel.int' {k : IntKind} {n : Int} : VRel m (.int k n) (.int k n) := by simp only [VRel]
theorem VRel.bool' {b : Bool} : VRel m (.bool b) (.bool b) := by simp only [VRel]
theorem over_rel (hI : Inv ng m H w) {s : Sem Value} (hr : s.run P w = .ok (.tuple #[.bool false]) w) : Eff P ng m H w s (.tup [.bool false]) H := by
  exact ⟨_, _, _, hr, hI, Stp.refl hI, VRel.tup (VsRel.cons VRel.bool' VsRel.nil)⟩
theorem run_forced {q : Question} (h : q.forced = true) : (choose q).run P w = .ok 0 w := by
  simp only [choose, Sem.run, h, if_true]
theorem nextStr_rel (hI : Inv ng m H w) {b ab : Nat} (hb : m.blk b = some (ab, 0)) {s : List Nat} {pos : Nat} (hg : H.get b = some (.strIter s pos)) {v : AV} (h : nextStr H b s pos = some (v, H')) (ty : TypeId) :
    Eff P ng m H w (Instr.next (.pointer (some ⟨ab, 0, none⟩)) true ty) v H' := by
  have hO := hI.live b _ hg ab 0 hb
  obtain ⟨_, hh⟩ := hO
  have hgo : (getObj ab).run P w = .ok (.stringIter (bstr s) pos) w := by simp only [getObj, Sem.run, hh]
  unfold nextStr at h
  split at h
  · rename_i c r hd
    obtain ⟨hdr', hle⟩ := dropN_eq _ _ _ hd
    have hdr := hdr'.symm
    have hlt : pos < s.length := by
      rcases Nat.lt_or_ge pos s.length with h' | h'
      · exact h'
      · rw [List.drop_of_length_le h'] at hdr; cases hdr
    have hc : s[pos]? = some c := by
      have := congrArg (·[0]?) hdr
      simpa [List.getElem?_drop] using this
    split at h
    · rename_i hc128
      cases h
      rw [blt_iff] at hc128
      have hget : ((bstr s).get! pos).toNat = c := by
        have h1 : (bstr s)[pos]? = some (UInt8.ofNat c) := by rw [bstr_get, hc]; rfl
        have h2 : (bstr s).get! pos = UInt8.ofNat c := by
          have h3 : pos < (bstr s).size := by rw [bstr_size]; exact hlt
          have h4 : (bstr s).get! pos = (bstr s)[pos]'h3 := by
            show (bstr s).data[pos]! = (bstr s).data[pos]'h3
            exact getElem!_pos (bstr s).data pos h3
          rw [h4]
          rw [getElem?_pos (bstr s) pos h3] at h1
          exact Option.some.inj h1
        rw [h2]; show (UInt8.ofNat c).toNat = c
        simp only [UInt8.toNat_ofNat']; omega
      have hdec : Utf8.decode (bstr s) pos = (c, 1) := by
        simp only [Utf8.decode, Nat.add_zero, hget, hc128, if_true]
      obtain ⟨q1, q2⟩ := put_inv hI hg (by rfl) hb (ob' := .strIter s (pos + 1)) (o' := .stringIter (bstr s) (pos + 1)) ⟨rfl, wput_same hh⟩
      refine ⟨.tuple #[.bool true, .int .i64 pos, .int .i32 c], _, _, ?_, q1, q2, ?_⟩
      · simp only [Instr.next, Sem.run_bind, hgo, Result.andThen_ok, bstr_size, if_pos hlt, hdec]
        simp only [setObj, Sem.run, hh]
        rfl
      · exact VRel.tup (VsRel.cons VRel.bool' (VsRel.cons VRel.int' (VsRel.cons VRel.int' VsRel.nil)))
    · cases h
  · rename_i hd
    cases h
    obtain ⟨hdr', hle⟩ := dropN_eq _ _ _ hd
    have hdr := hdr'.symm
    have hlt : ¬ pos < s.length := by
      intro h'
      have := congrArg List.length hdr
      simp at this; omega
    exact over_rel hI (by simp only [Instr.next, Sem.run_bind, hgo, Result.andThen_ok, bstr_size, if_neg hlt, Sem.run_pure])
  · cases h
theorem nextMap_rel (hI : Inv ng m H w) {b ab r since last : Nat} (hb : m.blk b = some (ab, 0)) {seen : List Nat} (hg : H.get b = some (.mapIter (some r) since seen last)) {v : AV} (h : nextMap H b r since seen last = some (v, H')) (ty : TypeId) :
    Eff P ng m H w (Instr.next (.pointer (some ⟨ab, 0, none⟩)) false ty) v H' := by
  have hO := hI.live b _ hg ab 0 hb
  obtain ⟨_, r', hh, ar, hr, rfl⟩ := hO
  have f0 : ∀ p : MapEntry → Bool, (#[] : Array MapEntry).filter p = #[] := fun p => by simp
  have hgo : (getObj ab).run P w = .ok (.mapIter (some ar) since seen.toArray last) w := by simp only [getObj, Sem.run, hh]
  unfold nextMap at h
  split at h
  · rename_i es clock hm
    obtain ⟨_, es2, hh2, hes⟩ := mapAt_spec hI hr hm
    have hgm := run_getObj_map (P := P) hh2
    have hborn := hes.born
    split at h
    · rename_i hun
      have hall := unseen_nil hun
      have hfil : (es2.filter fun e => !seen.toArray.contains e.born) = #[] := by
        apply Array.filter_eq_empty_iff.2
        intro e he
        have := hall e.born (by rw [hborn]; exact List.mem_map.2 ⟨e, Array.mem_toList_iff.2 he, rfl⟩)
        simpa using this
      have hcond : (!seen.toArray.isEmpty && !es2.isEmpty && es2.all (·.born ≥ last)) = false ∧ v = .tup [.bool false] ∧ H' = H := by
        cases es with
        | nil =>
          simp only at h
          cases h
          simp only [EsRel] at hes
          have : es2 = #[] := by cases es2; simp_all
          subst this; simp
        | cons e0 er =>
          simp only at h
          cases ho : anyOlder last (e0 :: er) with
          | false => rw [ho] at h; cases h
          | true =>
            rw [ho] at h; cases h
            refine ⟨?_, rfl, rfl⟩
            obtain ⟨x, hx, hxl⟩ := anyOlder_spec ho
            rw [hborn] at hx
            obtain ⟨e, he, rfl⟩ := List.mem_map.1 hx
            have : es2.all (fun e => decide (e.born ≥ last)) = false := by
              apply Bool.eq_false_iff.2
              intro hc
              have := Array.all_eq_true_iff_forall_mem.1 hc e (Array.mem_toList_iff.1 he)
              simp only [decide_eq_true_eq] at this
              omega
            rw [this]; simp
      obtain ⟨hcond, rfl, rfl⟩ := hcond
      refine over_rel hI ?_
      simp only [Instr.next, Sem.run_bind, hgo, Result.andThen_ok, hgm, hcond, Bool.false_eq_true, if_false, hfil, f0]
      have he : ((if (#[] : Array MapEntry).isEmpty = true then #[none] else #[]) ++ Array.map some ((#[] : Array MapEntry) ++ #[]) : Array (Option MapEntry)) = #[none] := by simp
      simp only [he]
      rw [run_forced (by rfl)]
      rfl
    · rename_i e hun
      split at h
      · split at h
        · rename_i hlt
          cases h
          rw [blt_iff] at hlt
          rw [unseen_self] at hun
          subst hun
          simp only [EsRel] at hes
          obtain ⟨x, xs, hx, hk, hv, hbn, rfl⟩ := hes
          have hes2 : es2 = #[x] := by cases es2; simp_all
          subst hes2
          have hlt' : x.born < since := by rw [← hbn]; exact hlt
          obtain ⟨q1, q2⟩ := put_inv hI hg (by rfl) hb (ob' := .mapIter (some r) since [e.2.2] clock) (o' := .mapIter (some ar) since #[x.born] clock) ⟨rfl, some ar, by rw [wput_same hh, hbn], ar, hr, rfl⟩
          refine ⟨.tuple #[.bool true, x.key, x.val], _, _, ?_, q1, q2, VRel.tup (VsRel.cons VRel.bool' (VsRel.cons hk (VsRel.cons hv VsRel.nil)))⟩
          have hse : ([] : List Nat).toArray.isEmpty = true := rfl
          have hf1 : (#[x].filter fun e => !(([] : List Nat).toArray).contains e.born) = #[x] := by simp
          have hf2 : (#[x].filter fun e => decide (e.born < since)) = #[x] := by simp [hlt']
          have hf3 : (#[x].filter fun e => decide (e.born ≥ since)) = #[] := by simp [hlt']
          simp only [Instr.next, Sem.run_bind, hgo, Result.andThen_ok, hgm, hf1, hf2, hf3, hse, Bool.not_true, Bool.false_and, Bool.false_eq_true, if_false]
          have he : ((if (#[x] : Array MapEntry).isEmpty = true then #[none] else #[]) ++ Array.map some (#[x] ++ #[]) : Array (Option MapEntry)) = #[some x] := by simp
          simp only [he]
          rw [run_forced (by rfl)]
          have he2 : (#[some x] : Array (Option MapEntry))[0]? = some (some x) := by simp
          simp only [Result.andThen_ok, he2, Sem.run_bind, setObj, Sem.run, hh]
          rfl
        · cases h
      · cases h
    · cases h
  · cases h

theorem next_rel (hI : Inv ng m H w) {x v : AV} {x' : Value} {isStr : Bool} (hx : VRel m x x') (h : next H x isStr = some (v, H')) (ty : TypeId) :
    Eff P ng m H w (Instr.next x' isStr ty) v H' := by
  unfold next at h
  split at h
  · rename_i b
    simp only [VRel] at hx
    obtain ⟨ab, ao, hb, rfl⟩ := hx
    split at h
    · rename_i s pos hg
      have h0 : ao = 0 := (hI.live b _ hg ab ao hb).1
      subst h0
      split at h
      · exact nextStr_rel hI hb hg h ty
      · cases h
    · rename_i since seen last hg
      obtain ⟨h0, r', hh, rfl⟩ := hI.live b _ hg ab ao hb
      subst h0
      split at h
      · cases h
        refine over_rel hI ?_
        have hgo : (getObj ab).run P w = .ok (.mapIter none since seen.toArray last) w := by simp only [getObj, Sem.run, hh]
        simp only [Instr.next, Sem.run_bind, Nat.add_zero, hgo, Result.andThen_ok, Sem.run_pure]
      · cases h
    · rename_i r since seen last hg
      have h0 : ao = 0 := (hI.live b _ hg ab ao hb).1
      subst h0
      split at h
      · exact nextMap_rel hI hb hg h ty
      · cases h
    · cases h
  · cases h
theorem find_born {s : Nat} {e : AV × AV × Nat} : ∀ {es : List (AV × AV × Nat)} {es' : List MapEntry}, EsRel m es es' → es.find? (fun e => Nat.beq e.2.2 s) = some e →
    ∃ x, es'.find? (·.born == s) = some x ∧ VRel m e.1 x.key ∧ VRel m e.2.1 x.val
  | [], _, _, h => by simp at h
  | e0 :: r, _, hr, h => by
    obtain ⟨x, xs, rfl, h1, h2, h3, h4⟩ := hr
    simp only [List.find?_cons] at h ⊢
    have hb : (x.born == s) = Nat.beq e0.2.2 s := by
      rw [h3, Bool.eq_iff_iff, beq_iff_eq, beq_iff]
    rw [hb]
    split at h
    · cases h; exact ⟨x, rfl, h1, h2⟩
    · exact find_born h4 h
theorem entry_rel (hI : Inv ng m H w) {x v : AV} {x' : Value} (hx : VRel m x x') (h : opEntry H x = some (v, H')) :
    Eff P ng m H w (Instr.entry x') v H' := by
  unfold opEntry at h
  split at h
  · rename_i b
    simp only [VRel] at hx
    obtain ⟨ab, ao, hb, rfl⟩ := hx
    split at h
    · rename_i r since s last hg
      obtain ⟨h0, r', hh, ar, hr, rfl⟩ := hI.live b _ hg ab ao hb
      subst h0
      have hgo : (getObj ab).run P w = .ok (.mapIter (some ar) since [s].toArray last) w := by simp only [getObj, Sem.run, hh]
      split at h
      · rename_i es clock hm
        obtain ⟨_, es2, hh2, hes⟩ := mapAt_spec hI hr hm
        have hgm := run_getObj_map (P := P) hh2
        split at h
        · rename_i hc
          rw [beq_iff] at hc; subst hc
          split at h
          · rename_i e he
            cases h
            obtain ⟨y, hy, h1, h2⟩ := find_born hes he
            refine ⟨_, _, _, ?_, hI, Stp.refl hI, VRel.tup (VsRel.cons h1 (VsRel.cons h2 VsRel.nil))⟩
            have hback : ([s].toArray).back? = some s := rfl
            have hy' : es2.find? (·.born == s) = some y := by rw [← Array.find?_toList]; exact hy
            simp only [Instr.entry, Sem.run_bind, Nat.add_zero, hgo, Result.andThen_ok, hback, hgm, bne_self_eq_false, Bool.false_eq_true, if_false, hy', Sem.run_pure]
          · cases h
        · cases h
      · cases h
    · cases h
  · cases h
end Go.AM
