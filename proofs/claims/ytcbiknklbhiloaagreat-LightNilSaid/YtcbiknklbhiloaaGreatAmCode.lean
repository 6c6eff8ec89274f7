/- Lemmas on the evaluator over abstract memory: what it does is what the model does. Conditions: those of each statement. -/
import Derived.Test.YtcbiknklbhiloaaGreatAmRegion
import Derived.Scope
namespace Go.AM
open Go
variable {A : AP} {P : Program} {m : Env} {H H' : AH} {w : World}

def DrawOK (A : AP) (P : Program) (call : CallT) : Prop :=
  ∀ (ops : Array Oper) (id : Nat) (m : Env) (T : TM) (H : AH) (a : Act) (w : World) (T' : TM) (H' : AH) (Q : Exit → Act → World → Prop), runDraw A call ops.toList T H = some (T', H') → SRel A m T H a w →
    (∀ a' w' m', SRel A m' T' H' a' w' → Stp m H w m' H' w' → Q .normal a' w') → (Code.region id ops true).wp P Q a w
def exitOf : AX → Exit
  | .norm => .normal
  | .exit id => .exit id
  | .ret => .ret
def After (A : AP) (m : Env) (H : AH) (w : World) (X : AX) (T' : TM) (H' : AH) (Q : Exit → Act → World → Prop) : Prop :=
  ∀ a' w' m', SRel A m' T' H' a' w' → Stp m H w m' H' w' → Q (exitOf X) a' w'
/-- what it says that an abstract step is sound for a piece of code -/
def CodeOK (A : AP) (P : Program) (c : Code) (f : TM → AH → Option (AX × TM × AH)) : Prop :=
  ∀ m T H a w X T' H' Q, f T H = some (X, T', H') → SRel A m T H a w → After A m H w X T' H' Q → c.wp P Q a w
theorem seq_ok {x y : Code} {f g : TM → AH → Option (AX × TM × AH)} (hf : CodeOK A P x f) (hg : CodeOK A P y g) : CodeOK A P (.seq x y) (fun T H => thenR (f T H) g) := by
  intro m T H a w X T' H' Q h hS hQ
  cases hr : f T H with
  | none => simp only [hr, thenR] at h; cases h
  | some r =>
    obtain ⟨X1, T1, H1⟩ := r
    simp only [hr] at h
    refine wp_seq (hf m T H a w X1 T1 H1 _ hr hS fun a1 w1 m1 s1 st1 => ?_)
    cases X1 with
    | norm =>
      exact hg m1 T1 H1 a1 w1 X T' H' Q h s1 fun a' w' m' s' st' => hQ a' w' m' s' (st1.trans st')
    | exit id => cases h; exact hQ a1 w1 m1 s1 st1
    | ret => cases h; exact hQ a1 w1 m1 s1 st1
theorem loop_rounds {c : Code} {f : TM → AH → Option (AX × TM × AH)} (hf : CodeOK A P c f) : ∀ (n : Nat) m T H a w X T' H' Q, iter f n T H = some (X, T', H') → SRel A m T H a w → After A m H w X T' H' Q → Code.rounds P c Q n a w
  | 0, _, _, _, _, _, _, _, _, _, h, _, _ => by cases h
  | n + 1, m, T, H, a, w, X, T', H', Q, h, hS, hQ => by
    have h : thenR (f T H) (iter f n) = some (X, T', H') := h
    show c.wp P (Exit.then (Code.rounds P c Q n) Q) a w
    cases hr : f T H with
    | none => simp only [hr, thenR] at h; cases h
    | some r =>
      obtain ⟨X1, T1, H1⟩ := r
      simp only [hr] at h
      refine hf m T H a w X1 T1 H1 _ hr hS fun a1 w1 m1 s1 st1 => ?_
      cases X1 with
      | norm => exact loop_rounds hf n m1 T1 H1 a1 w1 X T' H' Q h s1 fun a' w' m' s' st' => hQ a' w' m' s' (st1.trans st')
      | exit id => cases h; exact hQ a1 w1 m1 s1 st1
      | ret => cases h; exact hQ a1 w1 m1 s1 st1
theorem code_ok (hA : APok A P) {call : CallT} (hc : CallOK A P call) (hd : DrawOK A P call) (L : Nat) (c : Code) : CodeOK A P c (execC A call L c) := by
  induction c with
  | skip => intro m T H a w X T' H' Q h hS hQ; cases h; exact wp_skip (hQ a w m hS (Stp.refl hS.inv))
  | region id ops draw =>
    intro m T H a w X T' H' Q h hS hQ
    have h : region A call ops.toList draw T H = some (X, T', H') := h
    unfold region at h
    cases draw with
    | true =>
      simp only at h
      cases hr : runDraw A call ops.toList T H with
      | none => rw [hr] at h; cases h
      | some r => obtain ⟨T1, H1⟩ := r; rw [hr] at h; cases h; exact hd ops id m T H a w _ _ Q hr hS hQ
    | false =>
      simp only at h
      cases hr : runOps A call ops.toList ops.toList T H with
      | none => rw [hr] at h; cases h
      | some r =>
        obtain ⟨T1, H1⟩ := r; rw [hr] at h; cases h
        have := runOps_ok (Q := Q) hA hc (ops := ops) ops.toList 0 m T H a w _ _ (by simp) hr hS hQ
        refine wp_region ?_
        rw [List.range_eq_range']
        simpa using this
  | seq x y ihx ihy => exact seq_ok ihx ihy
  | cond c x y ihx ihy =>
    intro m T H a w X T' H' Q h hS hQ
    have h : condR (opd A T c) (fun _ => execC A call L x T H) (fun _ => execC A call L y T H) = some (X, T', H') := h
    unfold condR at h
    split at h
    · rename_i hcv
      have hr := opd_rel hS.inv hS.tm hcv
      simp only [VRel] at hr
      exact wp_cond_true hr (ihx m T H a w X T' H' Q h hS hQ)
    · rename_i hcv
      have hr := opd_rel hS.inv hS.tm hcv
      simp only [VRel] at hr
      exact wp_cond_false hr (ihy m T H a w X T' H' Q h hS hQ)
    · cases h
  | block id c ih =>
    intro m T H a w X T' H' Q h hS hQ
    have h : blockR id (execC A call L c T H) = some (X, T', H') := h
    cases hr : execC A call L c T H with
    | none => rw [hr] at h; cases h
    | some r =>
      obtain ⟨X1, T1, H1⟩ := r
      rw [hr] at h
      refine wp_block (ih m T H a w X1 T1 H1 _ hr hS fun a1 w1 m1 s1 st1 => ?_)
      cases X1 with
      | norm => cases h; exact hQ a1 w1 m1 s1 st1
      | ret => cases h; exact hQ a1 w1 m1 s1 st1
      | exit j =>
        simp only [blockR] at h
        simp only [exitOf, Exit.inBlock]
        split at h
        · rename_i hj; rw [beq_iff] at hj; rw [if_pos hj]; cases h; exact hQ a1 w1 m1 s1 st1
        · rename_i hj; rw [beq_false] at hj; rw [if_neg hj]; cases h; exact hQ a1 w1 m1 s1 st1
  | loop c ih =>
    intro m T H a w X T' H' Q h hS hQ
    exact wp_loop_rounds L (loop_rounds ih L m T H a w X T' H' Q h hS hQ)
  | rangeFunc => intro m T H a w X T' H' Q h; cases h
  | exit id => intro m T H a w X T' H' Q h hS hQ; cases h; exact wp_exit (hQ a w m hS (Stp.refl hS.inv))
  | scope c ih =>
    intro m T H a w X T' H' Q h hS hQ
    refine wp_scope_straight (ih m T H a w X T' H' _ h hS fun a1 w1 m1 s1 st1 => ?_)
    have := hQ a1 w1 m1 s1 st1
    cases X <;> exact this
  | label l => intro m T H a w X T' H' Q h hS hQ; cases h; exact wp_label (hQ a w m hS (Stp.refl hS.inv))
  | goto => intro m T H a w X T' H' Q h; cases h
  | ret => intro m T H a w X T' H' Q h hS hQ; cases h; exact wp_ret (hQ a w m hS (Stp.refl hS.inv))
  | refuse => intro m T H a w X T' H' Q h; cases h
end Go.AM
