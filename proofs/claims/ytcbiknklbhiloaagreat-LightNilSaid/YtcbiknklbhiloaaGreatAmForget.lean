/- Lemmas on the evaluator over abstract memory: what it does is what the model does. Conditions: those of each statement. -/
import Derived.Test.YtcbiknklbhiloaaGreatAmIns
namespace Go.AM
open Go
variable {A : AP} {P : Program} {ng : Nat} {m : Env} {H H' : AH} {w : World}
mutual
def avBelow (k : Nat) : AV → Bool
  | .ptr b _ => Nat.blt b k
  | .sl b _ _ _ => Nat.blt b k
  | .map (some r) => Nat.blt r k
  | .fn _ a b => avsBelow k a && avsBelow k b
  | .iface _ v => avBelow k v
  | .agg cs => avsBelow k cs
  | .tup cs => avsBelow k cs
  | _ => true
def avsBelow (k : Nat) : List AV → Bool
  | [] => true
  | a :: as => avBelow k a && avsBelow k as
end
def Env.cut (m : Env) (k : Nat) : Env := { m with blk := fun b => if b < k then m.blk b else none }
theorem Env.cut_blk {k b : Nat} (h : b < k) : (m.cut k).blk b = m.blk b := by simp [Env.cut, h]
mutual
theorem VRel.cut {k : Nat} : ∀ (a : AV) (v : Value), avBelow k a = true → VRel m a v → VRel (m.cut k) a v
  | .bool _, _, _, e => by simpa only [VRel] using e
  | .int _ _, _, _, e => by simpa only [VRel] using e
  | .str _, _, _, e => by simpa only [VRel] using e
  | .nilp, _, _, e => by simpa only [VRel] using e
  | .ptr b o, v, h, e => by
    simp only [avBelow, blt_iff] at h
    simp only [VRel, Env.cut_blk h] at e ⊢; exact e
  | .nils, _, _, e => by simpa only [VRel] using e
  | .sl b o len cap, v, h, e => by
    simp only [avBelow, blt_iff] at h
    simp only [VRel, Env.cut_blk h] at e ⊢
    obtain ⟨ab, ao, a, c, h1, h2, h3, h4⟩ := e
    refine ⟨ab, ao, a, c, h1, h2, ?_, h4⟩
    cases cap <;> exact h3
  | .map none, _, _, e => by simpa only [VRel] using e
  | .map (some r), v, h, e => by
    simp only [avBelow, blt_iff] at h
    simp only [VRel, Env.cut_blk h] at e ⊢; exact e
  | .fn f a b, v, h, e => by
    simp only [avBelow, Bool.and_eq_true] at h
    simp only [VRel] at e ⊢
    obtain ⟨a', b', h1, h2, h3⟩ := e
    exact ⟨a', b', h1, VsRel.cut a a' h.1 h2, VsRel.cut b b' h.2 h3⟩
  | .nilf, _, _, e => by simpa only [VRel] using e
  | .iface t x, v, h, e => by
    simp only [avBelow] at h
    simp only [VRel] at e ⊢
    obtain ⟨v', h1, h2⟩ := e
    exact ⟨v', h1, VRel.cut x v' h h2⟩
  | .nili, _, _, e => by simpa only [VRel] using e
  | .agg cs, v, h, e => by
    simp only [avBelow] at h
    simp only [VRel] at e ⊢
    obtain ⟨vs, h1, h2⟩ := e
    exact ⟨vs, h1, VsRel.cut cs vs h h2⟩
  | .tup cs, v, h, e => by
    simp only [avBelow] at h
    simp only [VRel] at e ⊢
    obtain ⟨vs, h1, h2⟩ := e
    exact ⟨vs, h1, VsRel.cut cs vs h h2⟩
  | .opq i, v, _, e => by simp only [VRel] at e ⊢; exact e
  | .unk, _, _, e => by simp only [VRel] at e
  | .ge _, _, _, e => by simpa only [VRel] using e
theorem VsRel.cut {k : Nat} : ∀ (a : List AV) (v : List Value), avsBelow k a = true → VsRel m a v → VsRel (m.cut k) a v
  | [], _, _, e => by simpa only [VsRel] using e
  | a :: as, v, h, e => by
    simp only [avsBelow, Bool.and_eq_true] at h
    simp only [VsRel] at e ⊢
    obtain ⟨u, us, h1, h2, h3⟩ := e
    exact ⟨u, us, h1, VRel.cut a u h.1 h2, VsRel.cut as us h.2 h3⟩
end
def esBelow (k : Nat) : List (AV × AV × Nat) → Bool
  | [] => true
  | e :: es => avBelow k e.1 && (avBelow k e.2.1 && esBelow k es)
theorem EsRel.cut {k : Nat} : ∀ (a : List (AV × AV × Nat)) (v : List MapEntry), esBelow k a = true → EsRel m a v → EsRel (m.cut k) a v
  | [], _, _, e => e
  | a :: as, v, h, e => by
    simp only [esBelow, Bool.and_eq_true] at h
    obtain ⟨u, us, h1, h2, h3, h4, h5⟩ := e
    exact ⟨u, us, h1, VRel.cut _ _ h.1 h2, VRel.cut _ _ h.2.1 h3, h4, EsRel.cut as us h.2.2 h5⟩
def aoBelow (k : Nat) : AO → Bool
  | .cells cs _ => avsBelow k cs
  | .map es _ => esBelow k es
  | .strIter _ _ => true
  | .mapIter none _ _ _ => true
  | .mapIter (some r) _ _ _ => Nat.blt r k
theorem avsBelow_get {k : Nat} : ∀ (l : List AV) (i : Nat) (v : AV), avsBelow k l = true → l[i]? = some v → avBelow k v = true
  | [], i, v, _, h => by simp at h
  | a :: as, 0, v, h, e => by simp only [avsBelow, Bool.and_eq_true] at h; cases e; exact h.1
  | a :: as, i + 1, v, h, e => by simp only [avsBelow, Bool.and_eq_true] at h; exact avsBelow_get as i v h.2 (by simpa using e)
theorem ORel.cut {k ab ao room : Nat} {o : AO} (h : aoBelow k o = true) (e : ORel m w ab ao room o) : ORel (m.cut k) w ab ao room o := by
  cases o with
  | cells cs ro =>
    obtain ⟨c, elem, fz, h1, h2, h3, h4, h5⟩ := e
    exact ⟨c, elem, fz, h1, h2, h3, h4, fun i v hi => let ⟨u, hu, hr⟩ := h5 i v hi; ⟨u, hu, hr.imp id (VRel.cut _ _ (avsBelow_get cs i v h hi))⟩⟩
  | map es clock =>
    obtain ⟨h0, es', h1, h2⟩ := e
    exact ⟨h0, es', h1, EsRel.cut _ _ h h2⟩
  | strIter s pos => exact e
  | mapIter r since seen stepped =>
    obtain ⟨h0, r', h1, h2⟩ := e
    refine ⟨h0, r', h1, ?_⟩
    cases r with
    | none => exact h2
    | some r =>
      simp only [aoBelow, blt_iff] at h
      obtain ⟨ar, h3, h4⟩ := h2
      exact ⟨ar, by rw [Env.cut_blk h]; exact h3, h4⟩
/-- blocks may be forgotten: the numbers from H0.nx on are free again -/
theorem Inv.forget {H0 : AH} (hI : Inv ng m H w) (hsub : ∀ b ob, H0.get b = some ob → H.get b = some ob ∧ b < H0.nx ∧ aoBelow H0.nx ob = true) (hng : ng ≤ H0.nx) : Inv ng (m.cut H0.nx) H0 w where
  live := fun b ob hb ab ao hm => by
    obtain ⟨h1, h2, h3⟩ := hsub b ob hb
    rw [Env.cut_blk h2] at hm
    exact (hI.live b ob h1 ab ao hm).cut h3
  dom := fun b ob hb => (hsub b ob hb).2.1
  fresh := fun b hb => by simp only [Env.cut]; rw [if_neg (by omega)]
  bound := fun b ab ao hm => by
    simp only [Env.cut] at hm
    split at hm
    · exact hI.bound b ab ao hm
    · cases hm
  sep := fun i j oi oj a xi xj hne hi hj hmi hmj => by
    obtain ⟨h1, h2, _⟩ := hsub i oi hi
    obtain ⟨h3, h4, _⟩ := hsub j oj hj
    rw [Env.cut_blk h2] at hmi
    rw [Env.cut_blk h4] at hmj
    exact hI.sep i j oi oj a xi xj hne h1 h3 hmi hmj
  glob := fun g hg => by rw [Env.cut_blk (by omega)]; exact hI.glob g hg
  ngle := hng
end Go.AM
