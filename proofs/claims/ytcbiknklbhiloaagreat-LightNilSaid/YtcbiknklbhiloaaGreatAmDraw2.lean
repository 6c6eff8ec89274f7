/- Lemmas on the evaluator over abstract memory: what it does is what the model does. Conditions: those of each statement. -/
import Derived.Test.YtcbiknklbhiloaaGreatAmDraw1
namespace Go.AM
open Go
variable {A : AP} {P : Program} {ng : Nat} {m : Env} {H H' : AH} {w : World}

theorem Inv.sub {K H2 : AH} (hI : Inv ng m K w) (hnx : H2.nx = K.nx) (h : ∀ b ob, H2.get b = some ob → K.get b = some ob) : Inv ng m H2 w :=
  ⟨fun b ob hb => hI.live b ob (h b ob hb), fun b ob hb => by rw [hnx]; exact hI.dom b ob (h b ob hb), fun b hb => hI.fresh b (by rw [← hnx]; exact hb), hI.bound,
    fun i j oi oj a xi xj hne hi hj => hI.sep i j oi oj a xi xj hne (h i oi hi) (h j oj hj), hI.glob, by rw [hnx]; exact hI.ngle⟩
theorem frame_inv {m' : Env} {K H2 H2' K' : AH} {w' : World} (late : Nat → Prop) (hI : Inv ng m K w) (h1 : ∀ b, late b → b < K.nx ∧ H2.get b = none) (h2 : ∀ b, ¬ late b → H2.get b = K.get b)
    (hwr : ∀ b ob, late b → K.get b = some ob → ob.wr = true) (hnx : H2.nx = K.nx) (hI' : Inv ng m' H2' w') (hS : Stp m H2 w m' H2' w') (hnx' : K'.nx = H2'.nx)
    (h3 : ∀ b, late b → K'.get b = K.get b) (h4 : ∀ b, ¬ late b → K'.get b = H2'.get b) : Inv ng m' K' w' ∧ Stp m K w m' K' w' := by
  have key : ∀ b ob ab ao, late b → K.get b = some ob → m.blk b = some (ab, ao) → ∀ b' ob' ao', H2.get b' = some ob' → m.blk b' ≠ some (ab, ao') := by
    intro b ob ab ao hl hg hm b' ob' ao' hg' hm'
    have hnl : ¬ late b' := fun hl' => by rw [(h1 b' hl').2] at hg'; cases hg'
    have hne : b' ≠ b := fun e => hnl (e ▸ hl)
    have := hI.sep b' b ob' ob ab ao' ao hne (by rw [← h2 b' hnl]; exact hg') hg hm' hm
    rw [hwr b ob hl hg] at this
    cases this
  have hIsub := hI.sub hnx (fun b ob hb => by
    by_cases hl : late b
    · rw [(h1 b hl).2] at hb; cases hb
    · rw [← h2 b hl]; exact hb)
  have hle := hIsub.le hS
  have old : ∀ b, late b → m'.blk b = m.blk b ∧ m'.room b = m.room b := fun b hl => hS.old b (by rw [hnx]; exact (h1 b hl).1)
  refine ⟨⟨?_, ?_, ?_, hI'.bound, ?_, hI'.glob, by rw [hnx']; exact hI'.ngle⟩, ?_⟩
  · intro b ob hg ab ao hm
    by_cases hl : late b
    · rw [h3 b hl] at hg
      rw [(old b hl).1] at hm
      rw [(old b hl).2]
      exact (hI.live b ob hg ab ao hm).mono hle (hS.frame ab (hI.bound b ab ao hm) (fun b' ob' ao' hg' _ => key b ob ab ao hl hg hm b' ob' ao' hg'))
    · rw [h4 b hl] at hg
      exact hI'.live b ob hg ab ao hm
  · intro b ob hg
    rw [hnx']
    by_cases hl : late b
    · have := (h1 b hl).1
      have := hS.nx
      omega
    · rw [h4 b hl] at hg; exact hI'.dom b ob hg
  · intro b hb
    rw [hnx'] at hb
    exact hI'.fresh b hb
  · have cross : ∀ i j oi oj a xi xj, late i → ¬ late j → K'.get i = some oi → K'.get j = some oj → m'.blk i = some (a, xi) → m'.blk j = some (a, xj) → False := by
      intro i j oi oj a xi xj hl hnl hgi hgj hmi hmj
      rw [h3 i hl] at hgi
      rw [(old i hl).1] at hmi
      have hab := hI.bound i a xi hmi
      rw [h4 j hnl] at hgj
      rcases Nat.lt_or_ge j H2.nx with hj | hj
      · rw [(hS.old j hj).1] at hmj
        cases hg : H2.get j with
        | none => rw [hS.dead j hj hg] at hgj; cases hgj
        | some oj' => exact key i oi a xi hl hgi hmi j oj' xj hg hmj
      · rcases hS.newb j hj a xj hmj with h | ⟨b0, ob0, ao0, hg0, _, hm0⟩
        · omega
        · exact key i oi a xi hl hgi hmi b0 ob0 ao0 hg0 hm0
    intro i j oi oj a xi xj hne hgi hgj hmi hmj
    by_cases hi : late i
    · by_cases hj : late j
      · rw [h3 i hi] at hgi; rw [h3 j hj] at hgj; rw [(old i hi).1] at hmi; rw [(old j hj).1] at hmj
        exact hI.sep i j oi oj a xi xj hne hgi hgj hmi hmj
      · exact (cross i j oi oj a xi xj hi hj hgi hgj hmi hmj).elim
    · by_cases hj : late j
      · exact (cross j i oj oi a xj xi hj hi hgj hgi hmj hmi).elim
      · rw [h4 i hi] at hgi; rw [h4 j hj] at hgj
        exact hI'.sep i j oi oj a xi xj hne hgi hgj hmi hmj
  · refine ⟨by rw [hnx', ← hnx]; exact hS.nx, fun b hb => hS.old b (by rw [hnx]; exact hb), hS.opq, hS.os, hS.tape, hS.output, hS.size, ?_, ?_, ?_, ?_, ?_⟩
    · intro ab hab hno
      refine hS.frame ab hab fun b ob ao hg hw => ?_
      by_cases hl : late b
      · rw [(h1 b hl).2] at hg; cases hg
      · rw [h2 b hl] at hg; exact hno b ob ao hg hw
    · intro b hb ab ao hm
      rcases hS.newb b (by rw [hnx]; exact hb) ab ao hm with h | ⟨b0, ob0, ao0, hg0, hw0, hm0⟩
      · exact .inl h
      · by_cases hl : late b0
        · rw [(h1 b0 hl).2] at hg0; cases hg0
        · exact .inr ⟨b0, ob0, ao0, by rw [← h2 b0 hl]; exact hg0, hw0, hm0⟩
    · intro b hb hm
      by_cases hl : late b
      · exact h3 b hl
      · rw [h4 b hl, hS.still b (by rw [hnx]; exact hb) hm, h2 b hl]
    · intro b hb hg
      by_cases hl : late b
      · rw [h3 b hl]; exact hg
      · rw [h4 b hl]; exact hS.dead b (by rw [hnx]; exact hb) (by rw [h2 b hl]; exact hg)
    · intro b hb ob' hg hw
      by_cases hl : late b
      · rw [h3 b hl] at hg; exact ⟨ob', hg, hw⟩
      · rw [h4 b hl] at hg
        obtain ⟨o, ho, hwo⟩ := hS.wrk b (by rw [hnx]; exact hb) ob' hg hw
        exact ⟨o, by rw [← h2 b hl]; exact ho, hwo⟩
theorem alloc_at {K : AH} (hI : Inv ng m K w) {b : Nat} {ob : AO} (hlt : b < K.nx) (hng : ng ≤ b) (hg : K.get b = some ob) (hb : m.blk b = none) {o : Obj} {room : Nat}
    (hO : ORel (m.with_ b w.heap.size 0 room) (walloc w o) w.heap.size 0 room ob) : Inv ng (m.with_ b w.heap.size 0 room) K (walloc w o) := by
  have hle := Env.with_le (m := m) (ab := w.heap.size) (ao := 0) (room := room) hb
  have blk_ne : ∀ x, x ≠ b → (m.with_ b w.heap.size 0 room).blk x = m.blk x := fun x hx => by simp [Env.with_, hx]
  have blk_b : (m.with_ b w.heap.size 0 room).blk b = some (w.heap.size, 0) := by simp [Env.with_]
  have room_ne : ∀ x, x ≠ b → (m.with_ b w.heap.size 0 room).room x = m.room x := fun x hx => by simp [Env.with_, hx]
  have room_b : (m.with_ b w.heap.size 0 room).room b = room := by simp [Env.with_]
  refine ⟨?_, hI.dom, ?_, ?_, ?_, ?_, hI.ngle⟩
  · intro b1 o1 h1 a1 x1 hm1
    by_cases e : b1 = b
    · subst e
      rw [hg] at h1; cases h1
      rw [blk_b] at hm1; cases hm1
      rw [room_b]; exact hO
    · rw [blk_ne b1 e] at hm1
      rw [room_ne b1 e]
      exact (hI.live b1 o1 h1 a1 x1 hm1).mono hle (walloc_old (hI.bound b1 a1 x1 hm1))
  · intro b1 h1
    rw [blk_ne b1 (by omega)]; exact hI.fresh b1 (by omega)
  · intro b1 a1 x1 hm1
    rw [walloc_size]
    by_cases e : b1 = b
    · subst e; rw [blk_b] at hm1; cases hm1; omega
    · rw [blk_ne b1 e] at hm1; have := hI.bound b1 a1 x1 hm1; omega
  · intro i j oi oj a xi xj hne hi hj hmi hmj
    by_cases e : j = b
    · subst e
      rw [blk_b] at hmj; cases hmj
      rw [blk_ne i hne] at hmi
      have := hI.bound i _ xi hmi; omega
    · by_cases e2 : i = b
      · subst e2
        rw [blk_b] at hmi; cases hmi
        rw [blk_ne j e] at hmj
        have := hI.bound j _ xj hmj; omega
      · rw [blk_ne i e2] at hmi; rw [blk_ne j e] at hmj
        exact hI.sep i j oi oj a xi xj hne hi hj hmi hmj
  · intro g hg'
    rw [blk_ne g (by omega)]; exact hI.glob g hg'
theorem alloc_stp {m0 : Env} {w0 : World} {K : AH} (hS : Stp m0 H w0 m K w) {b : Nat} (hlo : H.nx ≤ b) {o : Obj} {room : Nat} : Stp m0 H w0 (m.with_ b w.heap.size 0 room) K (walloc w o) := by
  have blk_ne : ∀ x, x ≠ b → (m.with_ b w.heap.size 0 room).blk x = m.blk x := fun x hx => by simp [Env.with_, hx]
  have blk_b : (m.with_ b w.heap.size 0 room).blk b = some (w.heap.size, 0) := by simp [Env.with_]
  have room_ne : ∀ x, x ≠ b → (m.with_ b w.heap.size 0 room).room x = m.room x := fun x hx => by simp [Env.with_, hx]
  refine ⟨hS.nx, fun b1 h1 => ?_, hS.opq, hS.os, hS.tape, hS.output, ?_, ?_, ?_, hS.still, hS.dead, hS.wrk⟩
  · rw [blk_ne b1 (by omega), room_ne b1 (by omega)]; exact hS.old b1 h1
  · rw [walloc_size]; have := hS.size; omega
  · intro ab hab hno
    rw [walloc_old (by have := hS.size; omega)]
    exact hS.frame ab hab hno
  · intro b1 h1 ab ao hm
    by_cases e : b1 = b
    · subst e; rw [blk_b] at hm; cases hm; exact .inl hS.size
    · rw [blk_ne b1 e] at hm; exact hS.newb b1 h1 ab ao hm
/-- the same memory, by another name -/
theorem Stp.get_eq {m0 : Env} {w0 : World} {K K' : AH} (hS : Stp m0 H w0 m K w) (hnx : K'.nx = K.nx) (h : ∀ b, K'.get b = K.get b) : Stp m0 H w0 m K' w :=
  ⟨by rw [hnx]; exact hS.nx, hS.old, hS.opq, hS.os, hS.tape, hS.output, hS.size, hS.frame, hS.newb, fun b hb hm => by rw [h]; exact hS.still b hb hm, fun b hb hg => by rw [h]; exact hS.dead b hb hg, fun b hb o ho hw => hS.wrk b hb o (by rw [← h]; exact ho) hw⟩
theorem Inv.get_eq {K K' : AH} (hI : Inv ng m K w) (hnx : K'.nx = K.nx) (h : ∀ b, K'.get b = K.get b) : Inv ng m K' w := hI.sub hnx fun b ob hb => by rw [← h]; exact hb
end Go.AM
