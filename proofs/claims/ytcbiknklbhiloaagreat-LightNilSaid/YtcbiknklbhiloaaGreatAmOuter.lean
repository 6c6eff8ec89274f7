/- Lemmas on the evaluator over abstract memory: what it does is what the model does. Conditions: those of each statement. -/
import Derived.Test.YtcbiknklbhiloaaGreatAmForget
namespace Go.AM
open Go
variable {A : AP} {P : Program} {m : Env} {H H' : AH} {w : World}

/-- what stays: every old block, and what is outside of the memory -/
structure Kept (w w' : World) : Prop where
  size : w.heap.size ≤ w'.heap.size
  old : ∀ b, b < w.heap.size → w'.heap[b]? = w.heap[b]?
  os : w'.os = w.os
  tape : w'.tape = w.tape
  output : w'.output = w.output
theorem Kept.refl (w : World) : Kept w w := ⟨Nat.le_refl _, fun _ _ => rfl, rfl, rfl, rfl⟩
/-- a state of a function that is walked from outside: w0 is the world at its start, q the values that are only moved about -/
structure St (A : AP) (w0 : World) (q : Nat → Value) (T : TM) (H : AH) (m : Env) (a : Act) (w : World) : Prop where
  rel : SRel A m T H a w
  own : ∀ b ob ab ao, H.get b = some ob → m.blk b = some (ab, ao) → w0.heap.size ≤ ab
  kept : Kept w0 w
  opq : m.opq = q
theorem St.next {w0 : World} {q : Nat → Value} {T T' : TM} {m' : Env} {a a' : Act} {w' : World} (h : St A w0 q T H m a w) (hr : SRel A m' T' H' a' w') (hS : Stp m H w m' H' w') : St A w0 q T' H' m' a' w' := by
  refine ⟨hr, fun b ob ab ao hg hm => ?_, ⟨Nat.le_trans h.kept.size hS.size, fun b hb => ?_, by rw [hS.os, h.kept.os], by rw [hS.tape, h.kept.tape], by rw [hS.output, h.kept.output]⟩, by rw [hS.opq, h.opq]⟩
  · rcases Nat.lt_or_ge b H.nx with hb | hb
    · rw [(hS.old b hb).1] at hm
      cases hg0 : H.get b with
      | none => rw [hS.dead b hb hg0] at hg; cases hg
      | some ob0 => exact h.own b ob0 ab ao hg0 hm
    · rcases hS.newb b hb ab ao hm with h1 | ⟨b0, ob0, ao0, h1, _, h2⟩
      · exact Nat.le_trans h.kept.size h1
      · exact h.own b0 ob0 ab ao0 h1 h2
  · rw [hS.frame b (Nat.lt_of_lt_of_le hb h.kept.size) (fun b' ob ao hg _ hm => by have := h.own b' ob b ao hg hm; omega)]
    exact h.kept.old b hb
/-- a piece of code that the evaluator goes through -/
theorem St.code (hA : APok A P) {call : CallT} (hc : CallOK A P call) {w0 : World} {q : Nat → Value} {T T' : TM} {a : Act} (h : St A w0 q T H m a w) {L : Nat} {c : Code} {X : AX} (he : execC A call L c T H = some (X, T', H'))
    {Q : Exit → Act → World → Prop} (hQ : ∀ a' w' m', St A w0 q T' H' m' a' w' → Q (exitOf X) a' w') : c.wp P Q a w :=
  code_ok hA hc (draw_ok hA hc) L c m T H a w X T' H' Q he h.rel fun a' w' m' s st => hQ a' w' m' (h.next s st)
/-- some operations of a region, in the order of the text -/
theorem St.opsFrom (hA : APok A P) {call : CallT} (hc : CallOK A P call) {w0 : World} {q : Nat → Value} {T T' : TM} {a : Act} (h : St A w0 q T H m a w) {ops : Array Oper} {i : Nat} (he : runOps A call ops.toList (ops.toList.drop i) T H = some (T', H'))
    {Q : Exit → Act → World → Prop} (hQ : ∀ a' w' m', St A w0 q T' H' m' a' w' → Q .normal a' w') : wpOps P ops Q (List.range' i (ops.toList.length - i)) a w := by
  have := runOps_ok hA hc (Q := Q) (ops := ops) (ops.toList.drop i) i m T H a w T' H' rfl he h.rel fun a' w' m' s st => hQ a' w' m' (h.next s st)
  simpa using this
/-- an operation whose run is known -/
theorem St.put {w0 : World} {q : Nat → Value} {T T' : TM} {a : Act} (h : St A w0 q T H m a w) {d : Option Nat} {v : AV} {v' : Value} (hv : VRel m v v') (hp : T.put d v = some T') : St A w0 q T' H m (a.put d v') w :=
  ⟨⟨h.rel.inv, put_rel h.rel.tm hv hp, (put_defers _ _ _).trans h.rel.df⟩, h.own, h.kept, h.opq⟩
/-- forgetting -/
theorem St.forget {w0 : World} {q : Nat → Value} {T T0 : TM} {H0 : AH} {a : Act} (h : St A w0 q T H m a w) (hT : T0.n = T.n) (hsub : ∀ t v, T0.get t = some v → T.get t = some v ∧ avBelow H0.nx v = true)
    (hH : ∀ b ob, H0.get b = some ob → H.get b = some ob ∧ b < H0.nx ∧ aoBelow H0.nx ob = true) (hng : A.ng ≤ H0.nx) : St A w0 q T0 H0 (m.cut H0.nx) a w := by
  refine ⟨⟨h.rel.inv.forget hH hng, ⟨by rw [hT]; exact h.rel.tm.size, fun t v hv => ?_⟩, h.rel.df⟩, fun b ob ab ao hg hm => ?_, h.kept, h.opq⟩
  · obtain ⟨h1, h2⟩ := hsub t v hv
    exact VRel.cut _ _ h2 (h.rel.tm.rel t v h1)
  · obtain ⟨h1, h2, _⟩ := hH b ob hg
    rw [Env.cut_blk h2] at hm
    exact h.own b ob ab ao h1 hm
end Go.AM
