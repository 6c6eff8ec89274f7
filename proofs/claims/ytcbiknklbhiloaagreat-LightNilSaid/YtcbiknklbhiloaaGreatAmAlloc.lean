/- Lemmas on the evaluator over abstract memory: what it does is what the model does. Conditions: those of each statement. -/
import Derived.Test.YtcbiknklbhiloaaGreatAmEff2
namespace Go.AM
open Go
variable {A : AP} {P : Program} {ng : Nat} {m : Env} {H H' : AH} {w : World}

def Mk.real (b : Nat) : Mk → Value
  | .ptr => .pointer (some ⟨b, 0, none⟩)
  | .sl n => .slice (some ⟨b, 0, none⟩) n n
  | .map => .map (some b)
/-- a block laid at the heap's end -/
def AllocOK (P : Program) (m : Env) (w : World) (s : Sem Value) (ob : AO) (mk : Mk) : Prop :=
  ∃ o' room, s.run P w = .ok (mk.real w.heap.size) (walloc w o') ∧ ∀ m' w2 ab, Env.Le m m' → w2.heap[ab]? = some o' → ORel m' w2 ab 0 room ob
theorem Mk.val_rel {b ab : Nat} (hb : m.blk b = some (ab, 0)) (mk : Mk) : VRel m (mk.val b) (mk.real ab) := by
  cases mk with
  | ptr => simp only [Mk.val, Mk.real, VRel]; exact ⟨ab, 0, hb, rfl⟩
  | sl n => simp only [Mk.val, Mk.real, VRel]; exact ⟨ab, 0, _, n, hb, rfl, rfl, .inr rfl, Nat.le_refl _⟩
  | map => simp only [Mk.val, Mk.real, VRel]; exact ⟨ab, hb, rfl⟩
theorem newOb_rel (hI : Inv ng m H w) {s : Sem Value} {ob : AO} {mk : Mk} {v : AV} (hok : AllocOK P m w s ob mk) (h : newOb H (some (ob, mk)) = some (v, H')) : Eff P ng m H w s v H' := by
  unfold newOb at h
  simp only at h
  split at h
  · rename_i b H1 hnew
    cases h
    obtain ⟨o', room, hrun, hO⟩ := hok
    have hfr := hI.fresh b (by rw [(new_eq hnew).1]; exact Nat.le_refl _)
    have hle := Env.with_le (m := m) (ab := w.heap.size) (ao := 0) (room := room) hfr
    obtain ⟨q1, q2⟩ := new_inv hI (room := room) hnew (hO _ _ _ hle walloc_new)
    exact ⟨_, _, _, hrun, q1, q2, Mk.val_rel (by simp [Env.with_]) mk⟩
  · cases h
theorem mapRange0 {β : Type} (f : Nat → β) : (Array.range 0).map f = #[] := by simp
theorem cellsO {l : List AV} {vs : List Value} {elem : TypeId} (hl : VsRel m l vs) : ∀ m' w2 ab, Env.Le m m' → w2.heap[ab]? = some (.cells ⟨vs⟩ elem) → ORel m' w2 ab 0 vs.length (.cells l .rwr) := by
  intro m' w2 ab hle hh
  refine ⟨⟨vs⟩, elem, (0, 0), hh, fun o hx => by simp at hx, by rw [hl.length]; exact Nat.le_refl _, by simp, fun k v hk => ?_⟩
  obtain ⟨u, hu, hr⟩ := hl.get k v hk
  exact ⟨u, by rw [← hu]; simp, .inr (VRel.mono hle _ _ hr)⟩
theorem cellsOb_eq {l : List AV} {k mk : Mk} {ob : AO} (h : cellsOb l k = some (ob, mk)) : ob = .cells l .rwr ∧ mk = k := by
  unfold cellsOb at h
  split at h
  · cases h; exact ⟨rfl, rfl⟩
  · cases h
theorem alloc_ok (hA : APok A P) {e : Nat} {ob : AO} {mk : Mk} (h : allocAlloc A e = some (ob, mk)) : AllocOK P m w (Instr.alloc e true (.tuple #[])) ob mk := by
  unfold allocAlloc at h
  split at h
  · rename_i z hz
    obtain ⟨rfl, rfl⟩ := cellsOb_eq h
    obtain ⟨zv, hzr, hzv⟩ := run_zero (P := P) hA m hz w
    refine ⟨.cells zv.cells e, _, ?_, cellsO hzv.cells⟩
    simp only [Instr.alloc, Sem.run_bind, hzr, Result.andThen_ok, newVar, newRow, run_newObj, Sem.run_pure]
    rfl
  · cases h
theorem box_ok (hI : Inv A.ng m H w) {T : TM} {a : Act} (hT : TRel m T a.tmps) {e : Nat} {x : Operand} {ob : AO} {mk : Mk} (h : allocBox A T x = some (ob, mk)) : AllocOK P m w (Instr.box e (a.eval x)) ob mk := by
  unfold allocBox at h
  split at h
  · rename_i v hv
    obtain ⟨rfl, rfl⟩ := cellsOb_eq h
    have hr := opd_rel hI hT hv
    refine ⟨.cells (a.eval x).cells e, _, ?_, cellsO hr.cells⟩
    simp only [Instr.box, Sem.run_bind, Result.andThen_ok, newVar, newRow, run_newObj, Sem.run_pure]
    rfl
  · cases h
theorem buildSlice_ok (hA : APok A P) (hI : Inv A.ng m H w) {T : TM} {a : Act} (hT : TRel m T a.tmps) {t len : Nat} {ps : Array (Nat × Operand)} {ob : AO} {mk : Mk} (h : allocSlice A T t len ps.toList = some (ob, mk)) :
    AllocOK P m w (Instr.buildSlice t len (ps.map fun (i, x) => (i, a.eval x))) ob mk := by
  unfold allocSlice at h
  split at h
  · rename_i l0 hl0
    have hp := partsOf_rel hI hT hl0
    split at h
    · rename_i e hd
      split at h
      · rename_i es hes
        split at h
        · rename_i z hz
          split at h
          · rename_i hlt
            split at h
            · rename_i hzl
              split at h
              · rename_i l hl
                obtain ⟨rfl, rfl⟩ := cellsOb_eq h
                obtain ⟨zv, hzr, hzv⟩ := run_zero (P := P) hA m hz w
                have hzc := hzv.cells
                have hzl' := beq_iff.1 hzl
                have hlt' := blt_iff.1 hlt
                have hno : ¬ (len * es > 2 ^ 24) := by omega
                have hps : (ps.map fun (i, x) => (i, a.eval x)).toList = ps.toList.map fun p => (p.1, a.eval p.2) := by simp
                by_cases h0 : len * es = 0
                · have hrep : VsRel m (rep z.cells len) [] := by
                    have hlz : (rep z.cells len).length = 0 := by rw [rep_length, hzl']; exact h0
                    rw [List.eq_nil_of_length_eq_zero hlz]; exact VsRel.nil
                  obtain ⟨lv, q1, q2⟩ := fill_rel (place' := fun i => some (i * es, es)) (fun i x hx => hx) hrep hp hl
                  rw [← hps] at q1
                  refine ⟨.cells lv e, _, ?_, by have := cellsO (elem := e) q2; simpa using this⟩
                  have q1' : Instr.fill (fun i => some (i * es, es)) ((Array.range (len * es)).map fun i => (#[] : Array Value)[i % (#[] : Array Value).size]!) (ps.map fun (i, x) => (i, a.eval x)).toList = some lv := by
                    rw [h0, mapRange0]; exact q1
                  simp only [Instr.buildSlice, Sem.run_bind, run_und hA hd, run_sizeOf hA hes, Result.andThen_ok, if_neg hno, if_pos h0, Sem.run_pure, q1', newRow, run_newObj]
                  rfl
                · obtain ⟨lv, q1, q2⟩ := fill_rel (place' := fun i => some (i * es, es)) (fun i x hx => hx) (zeroCells_rel hzc len (len * es) (by rw [hzl'])) hp hl
                  rw [← hps] at q1
                  refine ⟨.cells lv e, _, ?_, by have := cellsO (elem := e) q2; simpa using this⟩
                  have q1' : Instr.fill (fun i => some (i * es, es)) ((Array.range (len * es)).map fun i => zv.cells[i % zv.cells.size]!) (ps.map fun (i, x) => (i, a.eval x)).toList = some lv := by
                    exact q1
                  simp only [Instr.buildSlice, Sem.run_bind, run_und hA hd, run_sizeOf hA hes, Result.andThen_ok, if_neg hno, if_neg h0, Sem.run_pure, hzr, q1', newRow, run_newObj]
                  rfl
              · cases h
            · cases h
          · cases h
        · cases h
      · cases h
    · cases h
  · cases h
theorem makeMap_ok {t : Nat} : AllocOK P m w (Instr.makeMap t none) (.map [] 0) .map := by
  refine ⟨.map #[] 0, 0, ?_, fun m' w2 ab hle hh => ⟨rfl, #[], hh, rfl⟩⟩
  simp only [Instr.makeMap, Sem.run_bind, Result.andThen_ok, run_newObj, Sem.run_pure]
  rfl
theorem makeSlice_rel (hA : APok A P) (hI : Inv ng m H w) {t : Nat} {l c v : AV} {l' c' : Value} (hl : VRel m l l') (hc : VRel m c c') (h : makeSlice A H t l c = some (v, H')) :
    Eff P ng m H w (Instr.makeSlice t l' c') v H' := by
  unfold makeSlice at h
  split at h
  · rename_i e hd
    split at h
    · rename_i ei hei
      split at h
      · rename_i hok
        obtain ⟨hpos, hsz, z, zv, hz, hzr, hzv, hzl, hzl'⟩ := elemOK_all (P := P) hA hei hok m
        rw [hz] at h
        simp only at h
        unfold makeSl at h
        split at h
        · rename_i k1 n
          split at h
          · rename_i k2 c0
            split at h
            · rename_i hle
              split at h
              · rename_i hlt
                split at h
                · rename_i b H1 hnew
                  cases h
                  have h1 := ble_iff.1 hle
                  have h2 := blt_iff.1 hlt
                  have hcs := need_small hpos (Nat.lt_trans h2 (by omega))
                  simp only [VRel] at hl hc; subst hl; subst hc
                  have hw1 : IntKind.i64.wrap (Int.ofNat n) = n := wrap_small .i64 _ (by simp only [IntKind.signed, kHalf, if_true]; have : (Int.ofNat n) = (n : Int) := rfl; omega)
                  have hw2 : IntKind.i64.wrap (Int.ofNat c0) = c0 := wrap_small .i64 _ (by simp only [IntKind.signed, kHalf, if_true]; have : (Int.ofNat c0) = (c0 : Int) := rfl; omega)
                  have hby : ¬ (2 ^ 48 < (ei.bytes : Int) * (c0 : Int)) := by
                    have h3 : c0 * ei.bytes ≤ c0 * (ei.size + ei.bytes) := Nat.mul_le_mul_left _ (by omega)
                    have h4 : (ei.bytes : Int) * (c0 : Int) = ((c0 * ei.bytes : Nat) : Int) := by rw [Nat.mul_comm]; simp
                    rw [h4]; omega
                  have hcond : ((((c0 : Int) < 0 : Bool) || ((ei.bytes : Int) * (c0 : Int) > 2 ^ 48 : Bool)) || ((n : Int) < 0 : Bool) || ((n : Int) > (c0 : Int) : Bool)) = false := by
                    have e1 : ¬ ((c0 : Int) < 0) := by omega
                    have e2 : ¬ ((n : Int) < 0) := by omega
                    have e3 : ¬ ((n : Int) > (c0 : Int)) := by omega
                    simp only [gt_iff_lt, e1, e2, e3, hby, decide_false, Bool.or_self]
                  obtain ⟨cs, hcs1, hcs2⟩ : ∃ cs : Array Value, VsRel m (rep z.cells c0) cs.toList ∧
                      (do
                        let zero ← if c0 * ei.size = 0 then pure #[] else do pure (← zeroValue e).cells
                        newRow e ((Array.range (c0 * ei.size)).map (zero[· % zero.size]!)) : Sem Addr).run P w = .ok ⟨w.heap.size, 0, none⟩ (walloc w (.cells cs e)) := by
                    by_cases h0 : c0 * ei.size = 0
                    · refine ⟨#[], ?_, ?_⟩
                      · have hlz : (rep z.cells c0).length = 0 := by rw [rep_length, hzl]; exact h0
                        rw [List.eq_nil_of_length_eq_zero hlz]; exact VsRel.nil
                      · simp only [Sem.run_bind, Sem.run_pure, Result.andThen_ok, newRow, run_newObj, h0, if_true, mapRange0]
                        rfl
                    · refine ⟨_, zeroCells_rel hzv.cells c0 (c0 * ei.size) (by rw [hzl]), ?_⟩
                      simp only [Sem.run_bind, if_neg h0, Sem.run_pure, Result.andThen_ok, hzr, newRow, run_newObj]
                      rfl
                  have hfr := hI.fresh b (by rw [(new_eq hnew).1]; exact Nat.le_refl _)
                  have hle2 := Env.with_le (m := m) (ab := w.heap.size) (ao := 0) (room := cs.toList.length) hfr
                  obtain ⟨q1, q2⟩ := new_inv hI (room := cs.toList.length) hnew (o := .cells cs e) (cellsO hcs1 _ _ _ hle2 walloc_new)
                  refine ⟨.slice (some ⟨w.heap.size, 0, none⟩) n c0, _, _, ?_, q1, q2, ?_⟩
                  · simp only [Instr.makeSlice, asInt, asIntOf, Sem.run_bind, run_und hA hd, Result.andThen_ok, Sem.run_pure, run_typeInfo hA hei, hw1, hw2, hcond, Bool.false_eq_true, if_false, run_askRoom, Int.toNat_natCast, run_sizeOf hA hsz]
                    by_cases h0 : c0 * ei.size = 0
                    · simp only [if_pos h0, Sem.run_bind, Sem.run_pure, Result.andThen_ok] at hcs2 ⊢
                      rw [hcs2]; simp only [Result.andThen_ok]
                    · simp only [if_neg h0, Sem.run_bind, Sem.run_pure, Result.andThen_ok, hzr] at hcs2 ⊢
                      rw [hcs2]; simp only [Result.andThen_ok]
                  · simp only [VRel]
                    exact ⟨w.heap.size, 0, _, c0, by simp [Env.with_], rfl, rfl, .inr rfl, h1⟩
                · cases h
              · cases h
            · cases h
          · cases h
        · cases h
      · cases h
    · cases h
  · cases h
end Go.AM
