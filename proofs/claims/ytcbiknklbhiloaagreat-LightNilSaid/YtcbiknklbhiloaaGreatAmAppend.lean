/- Lemmas on the evaluator over abstract memory: what it does is what the model does. Conditions: those of each statement. -/
import Derived.Test.YtcbiknklbhiloaaGreatAmGrow
namespace Go.AM
open Go
variable {A : AP} {P : Program} {ng : Nat} {m : Env} {H H' : AH} {w : World}

/-- what the appended thing comes to, in the model's words: its kind, its length, its cells -/
inductive Given (P : Program) (w : World) (elem size bytes : Nat) (xt : Nat) : Value → Nat → Array Value → Prop
  | zeros (k k' : IntKind) (n : Nat) (newv : Array Value) (hu : P.underlying xt = some (.int k)) (hb : n * (size + bytes) < 1000000)
      (hr : (if n * size = 0 then pure #[] else do pure (Builtin.zeroCells (← zeroValue elem).cells n) : Sem (Array Value)).run P w = .ok newv w) : Given P w elem size bytes xt (.int k' n) n newv
  | cells (d : TypeDesc) (x' : Value) (n : Nat) (newv : Array Value) (hu : P.underlying xt = some d) (hd : ∀ k, d ≠ .int k) (hl : ∀ w1, (Builtin.lenOf x').run P w1 = .ok n w1)
      (hr : (Builtin.firstCells size n x').run P w = .ok newv w) : Given P w elem size bytes xt x' n newv
theorem appended_given (hA : APok A P) (hI : Inv ng m H w) {e : Nat} {ei : TypeInfo} {xt n : Nat} {x : AV} {x' : Value} {new : List AV} (hei : A.types.get e = some ei) (hok : elemOK A e ei = true)
    (hx : VRel m x x') (h : appended A H e ei.size ei.bytes xt x = some (n, new)) :
    ∃ newv, Given P w e ei.size ei.bytes xt x' n newv ∧ VsRel m new newv.toList ∧ new.length = n * ei.size := by
  obtain ⟨hpos, hsz, z, zv, hz, hzr, hzv, hzl, hzl'⟩ := elemOK_spec hA hei hok m w
  unfold appended at h
  split at h
  · rename_i k hd
    split at h
    · rename_i k' l
      rw [hz] at h
      simp only at h
      cases hb : Nat.blt (l * (ei.size + ei.bytes)) 1000000 with
      | false => rw [hb] at h; cases h
      | true =>
        rw [hb] at h; cases h
        have hb' := blt_iff.1 hb
        simp only [VRel] at hx; subst hx
        refine ⟨Builtin.zeroCells zv.cells n, .zeros k k' n _ (und hA hd) hb' ?_, ?_, ?_⟩
        · by_cases h0 : n * ei.size = 0
          · rw [if_pos h0]
            have hn0 : n = 0 := by
              rcases Nat.mul_eq_zero.1 h0 with h1 | h1
              · exact h1
              · omega
            subst hn0
            simp [Builtin.zeroCells]
          · rw [if_neg h0]
            simp [hzr]
        · exact zeroCells_rel (zv := zv.cells) hzv.cells n (n * zv.cells.size) (by rw [hzl, hzl'])
        · rw [rep_length, hzl]
    · cases h
  · rename_i d hno hd
    split at h
    · rename_i n0 hn0
      split at h
      · rename_i new0 hnew
        cases h
        obtain ⟨vs, h1, h2⟩ := firstCells_rel (P := P) hI hx hn0 (Nat.le_refl _) hnew
        exact ⟨vs, .cells d x' _ vs (und hA hd) (fun k hk => hno k hk) (fun w1 => lenOf_rel hx hn0) h1, h2, firstCells_length hn0 (Nat.le_refl _) hnew⟩
      · cases h
    · cases h
  · cases h
set_option maxHeartbeats 4000000 in
theorem append_in (hA : APok A P) {st xt e : Nat} {ei : TypeInfo} {ty : TypeId} {base : Option Addr} {sLen sCap n : Nat} {x' : Value} {newv : Array Value} (hs : A.desc st = some (.slice e))
    (hei : A.types.get e = some ei) (hpos : 0 < ei.size) (hg : Given P w e ei.size ei.bytes xt x' n newv) (hfit : sLen + n ≤ sCap) :
    (Builtin.append_ #[st, xt] ty #[.slice base sLen sCap, x']).run P w = (do
      if let some a := base then storeCells (a.add (sLen * ei.size)) newv.toList
      pure (.slice base (sLen + n) sCap) : Sem Value).run P w := by
  have hsz : A.size e = some ei.size := by unfold AP.size; rw [hei]
  cases hg with
  | zeros k k' n newv hu hb hr =>
    have hn := need_small hpos (Nat.lt_trans hb (by omega))
    have hw : IntKind.i64.wrap (n : Int) = n := wrap_small .i64 _ (by simp only [IntKind.signed, kHalf, if_true]; omega)
    have hb2 : ¬ (281474976710656 < (n : Int) * (ei.bytes : Int)) := by
      have h1 : n * ei.bytes ≤ n * (ei.size + ei.bytes) := Nat.mul_le_mul_left _ (by omega)
      have h2 : (n : Int) * (ei.bytes : Int) = ((n * ei.bytes : Nat) : Int) := by simp
      rw [h2]; omega
    have hneg : ¬ ((n : Int) < 0) := by omega
    by_cases h0 : n * ei.size = 0
    · rw [if_pos h0] at hr
      simp only [Sem.run_pure, Result.ok.injEq, and_true] at hr
      subst hr
      cases base <;> simp [Builtin.append_, run_und hA hs, run_sizeOf hA hsz, run_typeInfo hA hei, Go.run_underlying hu, asInt, asIntOf, hw, hb2, hneg, hfit, h0]
    · rw [if_neg h0] at hr
      simp only [Sem.run_bind, Sem.run_pure] at hr
      cases base <;> simp [Builtin.append_, run_und hA hs, run_sizeOf hA hsz, run_typeInfo hA hei, Go.run_underlying hu, asInt, asIntOf, hw, hb2, hneg, hfit, h0, hr]
  | cells d x' n newv hu hd hl hr =>
    cases d <;> first
      | exact absurd rfl (hd _)
      | (cases base <;> simp [Builtin.append_, run_und hA hs, run_sizeOf hA hsz, run_typeInfo hA hei, Go.run_underlying hu, hl, hfit, hr])
set_option maxHeartbeats 4000000 in
theorem append_grow (hA : APok A P) {st xt e : Nat} {ei : TypeInfo} {ty : TypeId} {base : Option Addr} {sLen sCap n : Nat} {x' : Value} {newv oldv : Array Value} {zv : Value} (hs : A.desc st = some (.slice e))
    (hei : A.types.get e = some ei) (hpos : 0 < ei.size) (hg : Given P w.drew e ei.size ei.bytes xt x' n newv) (hfit : sCap < sLen + n)
    (hb : (sLen + n) * (ei.size + ei.bytes) < 1000000000) (hz : ∀ w1, (zeroValue e).run P w1 = .ok zv w1)
    (hold : (Builtin.firstCells ei.size sLen (.slice base sLen sCap)).run P w.drew = .ok oldv w.drew) :
    ∃ N, sLen + n ≤ N ∧ (Builtin.append_ #[st, xt] ty #[.slice base sLen sCap, x']).run P w =
      .ok (.slice (some ⟨w.heap.size, 0, none⟩) (sLen + n) N) (walloc w.drew (.cells (oldv ++ newv ++ Builtin.zeroCells zv.cells (N - (sLen + n))) e)) := by
  have hsz : A.size e = some ei.size := by unfold AP.size; rw [hei]
  have hroom : ¬ (281474976710656 < Builtin.nextslicecap (sLen + n) sCap * ei.bytes) := room_ok hfit hpos hb
  have hsm := need_small hpos hb
  have hmax : ¬ (9223372036854775807 < (sLen : Int) + (n : Int)) := by omega
  have hnf : ¬ (sLen + n ≤ sCap) := by omega
  refine ⟨(Question.appendCap (sLen + n) sCap e).cut (w.tape w.drawn (Question.appendCap (sLen + n) sCap e)), by simp [Question.cut], ?_⟩
  cases hg with
  | zeros k k' n newv hu hb' hr =>
    have hn := need_small hpos (Nat.lt_trans hb' (by omega))
    have hw : IntKind.i64.wrap (n : Int) = n := wrap_small .i64 _ (by simp only [IntKind.signed, kHalf, if_true]; omega)
    have hb2 : ¬ (281474976710656 < (n : Int) * (ei.bytes : Int)) := by
      have h1 : n * ei.bytes ≤ n * (ei.size + ei.bytes) := Nat.mul_le_mul_left _ (by omega)
      have h2 : (n : Int) * (ei.bytes : Int) = ((n * ei.bytes : Nat) : Int) := by simp
      rw [h2]; omega
    have hneg : ¬ ((n : Int) < 0) := by omega
    have hforced : (Question.appendCap (sLen + n) sCap e).forced = false := rfl
    by_cases h0 : n * ei.size = 0
    · rw [if_pos h0] at hr
      simp only [Sem.run_pure, Result.ok.injEq, and_true] at hr
      subst hr
      simp [Builtin.append_, run_und hA hs, run_sizeOf hA hsz, run_typeInfo hA hei, Go.run_underlying hu, asInt, asIntOf, hw, hb2, hneg, hnf, hmax, hroom, hforced, hold, hz, h0, newRow]
      rfl
    · rw [if_neg h0] at hr
      simp only [Sem.run_bind, Sem.run_pure, hz, Result.andThen_ok, Result.ok.injEq, and_true] at hr
      subst hr
      simp [Builtin.append_, run_und hA hs, run_sizeOf hA hsz, run_typeInfo hA hei, Go.run_underlying hu, asInt, asIntOf, hw, hb2, hneg, hnf, hmax, hroom, hforced, hold, hz, h0, newRow]
      rfl
  | cells d x' n newv hu hd hl hr =>
    have hforced : (Question.appendCap (sLen + n) sCap e).forced = false := rfl
    cases d <;> first
      | exact absurd rfl (hd _)
      | (simp [Builtin.append_, run_und hA hs, run_sizeOf hA hsz, run_typeInfo hA hei, Go.run_underlying hu, hl, hnf, hmax, hroom, hforced, hold, hz, hr, newRow]; rfl)
end Go.AM
