/- Lemmas on the evaluator over abstract memory: what it does is what the model does. Conditions: those of each statement. -/
import Derived.Test.YtcbiknklbhiloaaGreatAmApp
namespace Go.AM
open Go
variable {A : AP} {P : Program} {ng : Nat} {m : Env} {H H' : AH} {w : World}

theorem growBy_le (newLen : Nat) : ∀ (r c : Nat), c ≤ newLen → Builtin.growBy newLen r c ≤ newLen + (newLen + 768) / 4
  | 0, c, h => by simp only [Builtin.growBy]; omega
  | r + 1, c, h => by
    simp only [Builtin.growBy]
    split
    · omega
    · by_cases h2 : c + (c + 768) / 4 ≤ newLen
      · exact growBy_le newLen r _ h2
      · have : ∀ r c, newLen < c → Builtin.growBy newLen r c = c := by
          intro r c hc
          cases r with
          | zero => rfl
          | succ r => simp only [Builtin.growBy]; rw [if_pos (by omega)]
        rw [this r _ (by omega)]
        have : (c + 768) / 4 ≤ (newLen + 768) / 4 := Nat.div_le_div_right (by omega)
        omega
theorem nextcap_le {need old : Nat} (h : old < need) : Builtin.nextslicecap need old ≤ 3 * need + 768 := by
  unfold Builtin.nextslicecap
  split
  · omega
  · split
    · omega
    · have := growBy_le need 4 old (by omega)
      have h2 : (need + 768) / 4 ≤ need + 768 := Nat.div_le_self _ _
      have h3 : (need + 768) / 4 * 4 ≤ need + 768 := Nat.div_mul_le_self _ _
      omega
theorem room_ok {need old es bytes : Nat} (h : old < need) (he : 0 < es) (hb : need * (es + bytes) < 1000000000) : ¬ Builtin.nextslicecap need old * bytes > 2 ^ 48 := by
  have h1 := nextcap_le h
  have h2 : need * bytes < 1000000000 := by
    have : need * bytes ≤ need * (es + bytes) := Nat.mul_le_mul_left _ (by omega)
    omega
  have h3 : bytes ≤ need * bytes := by
    have : 1 * bytes ≤ need * bytes := Nat.mul_le_mul_right _ (by omega)
    omega
  have h4 : Builtin.nextslicecap need old * bytes ≤ (3 * need + 768) * bytes := Nat.mul_le_mul_right _ h1
  have h5 : (3 * need + 768) * bytes = 3 * (need * bytes) + 768 * bytes := by rw [Nat.add_mul, Nat.mul_assoc]
  omega
theorem need_small {need es bytes : Nat} (he : 0 < es) (hb : need * (es + bytes) < 1000000000) : need < 1000000000 := by
  have : need * 1 ≤ need * (es + bytes) := Nat.mul_le_mul_left _ (by omega)
  omega

/-- a new block of cells, open at its end -/
theorem cells_new {H1 : AH} {w1 : World} (hI : Inv ng m H1 w1) {l : List AV} {cs : Array Value} {elem : TypeId} {b len es cap : Nat} (hes : 0 < es) (hl : VsRel m l (cs.toList.take l.length))
    (hsz : l.length ≤ cap * es) (hcs : cs.size = cap * es) (hlen : len ≤ cap) (h : H1.new (.cells l .rwr) = some (b, H')) :
    ∃ m', Inv ng m' H' (walloc w1 (.cells cs elem)) ∧ Stp m H1 w1 m' H' (walloc w1 (.cells cs elem)) ∧ VRel m' (.sl b 0 len (.upto es)) (.slice (some ⟨w1.heap.size, 0, none⟩) len cap) := by
  have hnew := new_eq h
  have hfr := hI.fresh b (by rw [hnew.1]; exact Nat.le_refl _)
  have hle := Env.with_le (m := m) (ab := w1.heap.size) (ao := 0) (room := cap * es) hfr
  have hll := hl.length
  obtain ⟨h1, h2⟩ := new_inv hI (room := cap * es) h (o := .cells cs elem) (by
    refine ⟨cs, elem, (0, 0), walloc_new, fun o hx => by simp at hx, hsz, by omega, fun k v hk => ?_⟩
    obtain ⟨u, hu, hr⟩ := hl.get k v hk
    refine ⟨u, ?_, .inr (VRel.mono hle _ _ hr)⟩
    rw [List.getElem?_take] at hu
    split at hu
    · rw [Nat.zero_add, ← hu]; simp
    · cases hu)
  refine ⟨_, h1, h2, ?_⟩
  simp only [VRel]
  refine ⟨w1.heap.size, 0, _, cap, by simp [Env.with_], rfl, ⟨hes, Nat.zero_le _, ?_⟩, .inr rfl, hlen⟩
  simp only [Env.with_, if_true, Nat.sub_zero]
  rw [Nat.mul_div_cancel _ hes]
/-- the new block of an append that was made in place -/
theorem inplace_inv (hI : Inv ng m H w) {b ab ao j room : Nat} {ob ob' : AO} {x : Nat} {o' : Obj} (hg : H.get b = some ob) (hw : ob.wr = true) (hb : m.blk b = some (ab, ao))
    (h : (H.set b none).new ob' = some (j, H')) (hO : ORel (m.with_ j ab x room) (wput w ab o') ab x room ob') :
    Inv ng (m.with_ j ab x room) H' (wput w ab o') ∧ Stp m H w (m.with_ j ab x room) H' (wput w ab o') := by
  obtain ⟨hj, hlt, hnx, hgj, hgo⟩ := new_eq h
  have hj' : j = H.nx := hj
  have hbd := hI.dom b ob hg
  have hfr := hI.fresh j (by omega)
  have hle := Env.with_le (m := m) (ab := ab) (ao := x) (room := room) hfr
  have get_b : H'.get b = none := by rw [hgo b (by omega)]; exact AH.get_set
  have get_o : ∀ b', b' ≠ b → b' ≠ j → H'.get b' = H.get b' := fun b' h1 h2 => by rw [hgo b' h2]; exact AH.get_set_ne h1
  have blk_ne : ∀ y, y ≠ j → (m.with_ j ab x room).blk y = m.blk y := fun y hy => by simp [Env.with_, hy]
  have blk_j : (m.with_ j ab x room).blk j = some (ab, x) := by simp [Env.with_]
  have room_ne : ∀ y, y ≠ j → (m.with_ j ab x room).room y = m.room y := fun y hy => by simp [Env.with_, hy]
  have room_j : (m.with_ j ab x room).room j = room := by simp [Env.with_]
  have hnx' : H'.nx = H.nx + 1 := hnx
  have other : ∀ b' o1, b' ≠ b → H.get b' = some o1 → ∀ a y, m.blk b' = some (a, y) → a ≠ ab := by
    intro b' o1 hne hg1 a y hm e
    subst e
    have := hI.sep b' b o1 ob a y ao hne hg1 hg hm hb
    rw [hw] at this; cases this
  have back : ∀ b' o1, H'.get b' = some o1 → b' ≠ j → b' ≠ b ∧ H.get b' = some o1 := by
    intro b' o1 h1 h2
    have h3 : b' ≠ b := fun e => by rw [e, get_b] at h1; cases h1
    exact ⟨h3, by rw [← get_o b' h3 h2]; exact h1⟩
  refine ⟨⟨?_, ?_, ?_, ?_, ?_, ?_, ?_⟩, ?_⟩
  · intro b1 o1 h1 a1 x1 hm1
    by_cases e : b1 = j
    · subst e
      rw [hgj] at h1; cases h1
      rw [blk_j] at hm1; cases hm1
      rw [room_j]; exact hO
    · obtain ⟨h2, h3⟩ := back b1 o1 h1 e
      rw [blk_ne b1 e] at hm1
      rw [room_ne b1 e]
      exact (hI.live b1 o1 h3 a1 x1 hm1).mono hle (wput_ne (other b1 o1 h2 h3 a1 x1 hm1))
  · intro b1 o1 h1
    by_cases e : b1 = j
    · omega
    · have := hI.dom b1 o1 (back b1 o1 h1 e).2; omega
  · intro b1 h1
    rw [blk_ne b1 (by omega)]; exact hI.fresh b1 (by omega)
  · intro b1 a1 x1 hm1
    rw [wput_size]
    by_cases e : b1 = j
    · subst e; rw [blk_j] at hm1; cases hm1; exact hI.bound b _ _ hb
    · rw [blk_ne b1 e] at hm1; exact hI.bound b1 a1 x1 hm1
  · intro i k oi ok a xi xk hne hi hk hmi hmk
    by_cases e : k = j
    · subst e
      rw [blk_j] at hmk; cases hmk
      obtain ⟨h2, h3⟩ := back i oi hi hne
      rw [blk_ne i hne] at hmi
      exact absurd rfl (other i oi h2 h3 _ xi hmi)
    · obtain ⟨h2, h3⟩ := back k ok hk e
      rw [blk_ne k e] at hmk
      by_cases e2 : i = j
      · subst e2
        rw [blk_j] at hmi; cases hmi
        exact absurd rfl (other k ok h2 h3 _ xk hmk)
      · obtain ⟨h4, h5⟩ := back i oi hi e2
        rw [blk_ne i e2] at hmi
        exact hI.sep i k oi ok a xi xk hne h5 h3 hmi hmk
  · intro g hg
    have := hI.ngle
    rw [blk_ne g (by omega)]; exact hI.glob g hg
  · have := hI.ngle; omega
  · refine ⟨by omega, fun b1 h1 => ⟨blk_ne b1 (by omega), room_ne b1 (by omega)⟩, rfl, rfl, rfl, rfl, by rw [wput_size]; exact Nat.le_refl _, ?_, ?_, ?_, ?_, ?_⟩
    · intro a1 h1 hno
      exact wput_ne fun e => hno b ob ao hg hw (e ▸ hb)
    · intro b1 h1 a1 x1 hm1
      by_cases e : b1 = j
      · subst e; rw [blk_j] at hm1; cases hm1; exact .inr ⟨b, ob, ao, hg, hw, hb⟩
      · rw [blk_ne b1 e, hI.fresh b1 h1] at hm1; cases hm1
    · intro b1 h1 hm1
      exact get_o b1 (fun e => by rw [e, hb] at hm1; cases hm1) (by omega)
    · intro b1 h1 hg1
      rw [get_o b1 (fun e => by rw [e, hg] at hg1; cases hg1) (by omega)]; exact hg1
    · intro b1 h1 o1 hg1 hw1
      exact ⟨o1, (back b1 o1 hg1 (by omega)).2, hw1⟩
end Go.AM
