/- Lemmas on the evaluator over abstract memory: what it does is what the model does. Conditions: those of each statement. -/
import Derived.Test.YtcbiknklbhiloaaGreatAmEq
namespace Go.AM
open Go
variable {A : AP} {P : Program} {ng : Nat} {m : Env} {H H' : AH} {w : World}

theorem unOp_rel {op : UnOp} {x v : AV} {x' : Value} (hx : VRel m x x') (h : unOp op x = some v) : ∃ v', (Op.unary op x').run P w = .ok v' w ∧ VRel m v v' := by
  cases op <;> simp only [unOp] at h
  case neg =>
    cases x <;> simp only [reduceCtorEq] at h
    cases h
    simp only [VRel] at hx; subst hx
    exact ⟨_, rfl, by simp only [VRel, wrapF_eq]; rfl⟩
  case xor =>
    cases x <;> simp only [reduceCtorEq] at h
    cases h
    simp only [VRel] at hx; subst hx
    exact ⟨_, rfl, by simp only [VRel, wrapF_eq, bitsOf_eq, BitVec.toNat_xor]; rfl⟩
  case not =>
    cases x <;> simp only [reduceCtorEq] at h
    cases h
    simp only [VRel] at hx; subst hx
    exact ⟨_, rfl, by simp only [VRel]⟩
  case plus => cases h

theorem add_addr (ab x n : Nat) : Addr.add ⟨ab, x, none⟩ n = ⟨ab, x + n, none⟩ := by
  unfold Addr.add
  by_cases h : n = 0
  · subst h; rfl
  · rw [if_neg h]
theorem fieldAddr_rel (hA : APok A P) {t f : Nat} {x v : AV} {x' : Value} (hx : VRel m x x') (h : fieldAddr A t x f = some v) :
    ∃ v', (Instr.fieldAt t x' f).run P w = .ok v' w ∧ VRel m v v' := by
  unfold fieldAddr fieldD at h
  cases hd : A.desc t with
  | none => rw [hd] at h; cases h
  | some d =>
    rw [hd] at h
    cases d <;> try (cases h; done)
    rename_i fs
    simp only at h
    rw [nth_eq] at h
    cases hf : fs.toList[f]? with
    | none => rw [hf] at h; cases h
    | some fd =>
      rw [hf] at h
      simp only at h
      cases x <;> try (cases h; done)
      rename_i b o
      simp only at h
      cases hs : A.size fd.type with
      | none => rw [hs] at h; cases h
      | some n =>
        rw [hs] at h
        cases n with
        | zero => cases h
        | succ n =>
          cases h
          simp only [VRel] at hx
          obtain ⟨ab, ao, hb, rfl⟩ := hx
          have hf' : fs[f]? = some fd := by rw [← hf]; simp
          refine ⟨.pointer (some ⟨ab, ao + o + fd.offset, none⟩), ?_, ?_⟩
          · simp only [Instr.fieldAt, Sem.run_bind, run_und hA hd, Result.andThen_ok, hf', Instr.sureAddr, Sem.run_pure, fieldPlace, run_sizeOf hA hs, Nat.succ_ne_zero, if_false, add_addr]
          · simp only [VRel]; exact ⟨ab, ao, hb, by rw [Nat.add_assoc]⟩
theorem field_rel (hA : APok A P) {t f : Nat} {x v : AV} {x' : Value} (hx : VRel m x x') (h : field A t x f = some v) :
    ∃ v', (Instr.field t x' f).run P w = .ok v' w ∧ VRel m v v' := by
  unfold field fieldD at h
  cases hd : A.desc t with
  | none => rw [hd] at h; cases h
  | some d =>
    rw [hd] at h
    cases d <;> try (cases h; done)
    rename_i fs
    simp only at h
    rw [nth_eq] at h
    cases hf : fs.toList[f]? with
    | none => rw [hf] at h; cases h
    | some fd =>
      rw [hf] at h
      simp only at h
      cases x <;> try (cases h; done)
      rename_i cs
      simp only [VRel] at hx
      obtain ⟨vs, rfl, hvs⟩ := hx
      obtain ⟨v', hr, hv⟩ := part_rel (P := P) (w := w) hA hvs h
      have hf' : fs[f]? = some fd := by rw [← hf]; simp
      refine ⟨v', ?_, hv⟩
      simp only [Instr.field, Sem.run_bind, run_und hA hd, Result.andThen_ok, hf', asAgg, Sem.run_pure, hr]

theorem idx_spec {i : Int} {n r : Nat} (h : idx i n = some r) : 0 ≤ i ∧ i < n ∧ i.toNat = r := by
  cases i with
  | ofNat a =>
    simp only [idx] at h
    cases hb : Nat.blt a n with
    | false => rw [hb] at h; cases h
    | true => rw [hb] at h; cases h; have := blt_iff.1 hb; exact ⟨Int.natCast_nonneg _, by simpa using this, rfl⟩
  | negSucc a => cases h
theorem idxLe_spec {i : Int} {n r : Nat} (h : idxLe i n = some r) : 0 ≤ i ∧ i ≤ n ∧ i.toNat = r := by
  cases i with
  | ofNat a =>
    simp only [idxLe] at h
    cases hb : Nat.ble a n with
    | false => rw [hb] at h; cases h
    | true => rw [hb] at h; cases h; have := ble_iff.1 hb; exact ⟨Int.natCast_nonneg _, by simpa using this, rfl⟩
  | negSucc a => cases h
theorem idxPtr_spec {b o e len : Nat} {i v : AV} (h : idxPtr A b o e len i = some v) : ∃ k z r es, i = .int k z ∧ idx z len = some r ∧ A.size e = some es ∧ v = .ptr b (o + r * es) := by
  unfold idxPtr at h
  split at h
  · rename_i k z
    cases h1 : idx z len with
    | none => rw [h1] at h; cases h
    | some r =>
      rw [h1] at h
      simp only at h
      cases h2 : A.size e with
      | none => rw [h2] at h; cases h
      | some es => rw [h2] at h; cases h; exact ⟨k, z, r, es, rfl, h1, rfl, rfl⟩
  · cases h
theorem indexAddr_rel (hA : APok A P) {t : Nat} {x i v : AV} {x' i' : Value} (hx : VRel m x x') (hi : VRel m i i') (h : indexAddr A t x i = some v) :
    ∃ v', (Instr.indexAt t x' i').run P w = .ok v' w ∧ VRel m v v' := by
  unfold indexAddr at h
  split at h
  · rename_i n e hd
    split at h
    · rename_i b o
      obtain ⟨k, z, r, es, rfl, h1, h2, rfl⟩ := idxPtr_spec h
      obtain ⟨h3, h4, rfl⟩ := idx_spec h1
      simp only [VRel] at hx hi
      obtain ⟨ab, ao, hb, rfl⟩ := hx
      subst hi
      refine ⟨.pointer (some ⟨ab, ao + o + z.toNat * es, none⟩), ?_, ?_⟩
      · simp only [Instr.indexAt, asIntOf, Sem.run_bind, Sem.run_pure, Result.andThen_ok, run_und hA hd, Instr.sureAddr, if_pos (And.intro h3 h4), run_sizeOf hA h2, add_addr]
      · simp only [VRel]; exact ⟨ab, ao, hb, by rw [Nat.add_assoc]⟩
    · cases h
  · rename_i e hd
    split at h
    · rename_i b o len cap
      obtain ⟨k, z, r, es, rfl, h1, h2, rfl⟩ := idxPtr_spec h
      obtain ⟨h3, h4, rfl⟩ := idx_spec h1
      simp only [VRel] at hx hi
      obtain ⟨ab, ao, a, c, hb, rfl, _, h5, h6⟩ := hx
      subst hi
      have ha : a = ⟨ab, ao + o, none⟩ := h5.resolve_left (by omega)
      subst ha
      refine ⟨.pointer (some ⟨ab, ao + o + z.toNat * es, none⟩), ?_, ?_⟩
      · simp only [Instr.indexAt, asIntOf, Sem.run_bind, Sem.run_pure, Result.andThen_ok, run_und hA hd, if_pos (And.intro h3 h4), run_sizeOf hA h2, add_addr]
      · simp only [VRel]; exact ⟨ab, ao, hb, by rw [Nat.add_assoc]⟩
    · cases h
  · cases h
theorem bstr_get {s : List Nat} {i : Nat} : (bstr s)[i]? = (s[i]?).map UInt8.ofNat := by
  have h1 : (bstr s)[i]? = (bstr s).data[i]? := by
    rcases Nat.lt_or_ge i (bstr s).size with h | h
    · rw [getElem?_pos (bstr s) i h, getElem?_pos (bstr s).data i h]; rfl
    · rw [getElem?_neg (bstr s) i (by omega), getElem?_neg (bstr s).data i (by show ¬ i < (bstr s).size; omega)]
  rw [h1]
  simp [bstr]
theorem index_rel (hA : APok A P) {t : Nat} {x i v : AV} {x' i' : Value} (hx : VRel m x x') (hi : VRel m i i') (h : index A t x i = some v) :
    ∃ v', (Instr.index t x' i').run P w = .ok v' w ∧ VRel m v v' := by
  unfold index at h
  split at h
  · rename_i n e hd
    split at h
    · rename_i cs k z
      split at h
      · rename_i r h1
        split at h
        · rename_i es h2
          obtain ⟨h3, h4, rfl⟩ := idx_spec h1
          simp only [VRel] at hx hi
          obtain ⟨vs, rfl, hvs⟩ := hx
          subst hi
          obtain ⟨v', hr, hv⟩ := part_rel (P := P) (w := w) hA hvs h
          refine ⟨v', ?_, hv⟩
          simp only [Instr.index, asIntOf, Sem.run_bind, Sem.run_pure, Result.andThen_ok, run_und hA hd, Sem.run_ite, if_pos (And.intro h3 h4), run_sizeOf hA h2, hr]
        · cases h
      · cases h
    · cases h
  · rename_i hd
    split at h
    · rename_i s
      unfold strAt at h
      split at h
      · rename_i k j
        rw [nth_eq] at h
        cases hc : s[j]? with
        | none => rw [hc] at h; cases h
        | some c =>
          rw [hc] at h
          simp only at h
          cases hb : Nat.blt c 256 with
          | false => rw [hb] at h; cases h
          | true =>
            rw [hb] at h; cases h
            have hc2 := blt_iff.1 hb
            simp only [VRel] at hx hi
            subst hx; subst hi
            refine ⟨.int .u8 ((UInt8.ofNat c).toNat : Nat), ?_, ?_⟩
            · have hj : (0 : Int) ≤ Int.ofNat j := Int.natCast_nonneg _
              have hg : (bstr s)[(Int.ofNat j).toNat]? = some (UInt8.ofNat c) := by
                show (bstr s)[j]? = _
                rw [bstr_get, hc]; rfl
              simp only [Instr.index, asIntOf, Sem.run_bind, Sem.run_pure, Result.andThen_ok, run_und hA hd, if_pos hj, hg]
            · simp only [VRel, UInt8.toNat_ofNat']; rw [Nat.mod_eq_of_lt hc2]
      · cases h
    · cases h
  · cases h

/- SLICES -/
def OptRel (m : Env) : Option AV → Option Value → Prop
  | none, v => v = none
  | some a, v => ∃ u, v = some u ∧ VRel m a u
theorem bound_rel {n r dflt : Nat} {x : AV} {x' : Value} (hx : VRel m x x') (h : bound n dflt (some x) = some r) {N : Nat} (hN : n ≤ N) (code : BoundsCode) :
    (Instr.sliceBound x' N code).run P w = .ok r w ∧ r ≤ n := by
  cases x <;> simp only [bound, reduceCtorEq] at h
  rename_i k i
  obtain ⟨h1, h2, rfl⟩ := idxLe_spec h
  simp only [VRel] at hx
  subst hx
  refine ⟨?_, by omega⟩
  simp only [Instr.sliceBound, asIntOf, Sem.run_bind, Sem.run_pure, Result.andThen_ok, Sem.run_ite, if_pos (And.intro h1 (show i ≤ (N : Int) by omega))]
theorem bounds_rel {len c c' l h mm : Nat} {lo hi mx : Option AV} {lo' hi' mx' : Option Value} (hlo : OptRel m lo lo') (hhi : OptRel m hi hi') (hmx : OptRel m mx mx')
    (hb : bounds len c' lo hi mx = some (l, h, mm)) (hc : c' ≤ c) (isS : Bool) (hlen : len ≤ c) :
    ∃ M, (Instr.sliceBounds isS len c lo' hi' mx').run P w = .ok (l, h, M) w ∧ l ≤ h ∧ h ≤ M ∧ M ≤ c ∧ (mx = none → M = c) ∧ (mx ≠ none → M = mm) ∧ (mx = none → mm = c') := by
  unfold bounds at hb
  cases h1 : bound c' c' mx with
  | none => rw [h1] at hb; cases hb
  | some M0 =>
    rw [h1] at hb
    simp only at hb
    cases h2 : boundHi M0 len hi mx with
    | none => rw [h2] at hb; cases hb
    | some h0 =>
      rw [h2] at hb
      simp only at hb
      cases h3 : bound h0 0 lo with
      | none => rw [h3] at hb; cases hb
      | some l0 =>
        rw [h3] at hb
        simp only [Option.some.injEq, Prod.mk.injEq] at hb
        obtain ⟨rfl, rfl, rfl⟩ := hb
        cases mx with
        | none =>
          have e : mx' = none := hmx
          subst e
          simp only [bound, Option.some.injEq] at h1
          subst h1
          cases hi with
          | none =>
            have e : hi' = none := hhi
            subst e
            simp only [boundHi, Option.some.injEq] at h2
            subst h2
            cases lo with
            | none =>
              have e : lo' = none := hlo
              subst e
              simp only [bound, Option.some.injEq] at h3
              subst h3
              exact ⟨c, by simp [Instr.sliceBounds], Nat.zero_le _, hlen, Nat.le_refl _, fun _ => rfl, fun h => absurd rfl h, fun _ => rfl⟩
            | some x =>
              obtain ⟨u, rfl, hu⟩ := hlo
              have hL := bound_rel (P := P) (w := w) hu h3 (Nat.le_refl _) .sliceB
              exact ⟨c, by simp [Instr.sliceBounds, hL.1], hL.2, hlen, Nat.le_refl _, fun _ => rfl, fun h => absurd rfl h, fun _ => rfl⟩
          | some y =>
            obtain ⟨u, rfl, hu⟩ := hhi
            have hH := bound_rel (P := P) (w := w) hu h2 hc (if isS then .sliceAcap else .sliceAlen)
            cases lo with
            | none =>
              have e : lo' = none := hlo
              subst e
              simp only [bound, Option.some.injEq] at h3
              subst h3
              exact ⟨c, by simp [Instr.sliceBounds, hH.1], Nat.zero_le _, Nat.le_trans hH.2 hc, Nat.le_refl _, fun _ => rfl, fun h => absurd rfl h, fun _ => rfl⟩
            | some x =>
              obtain ⟨u2, rfl, hu2⟩ := hlo
              have hL := bound_rel (P := P) (w := w) hu2 h3 (Nat.le_refl _) .sliceB
              exact ⟨c, by simp [Instr.sliceBounds, hH.1, hL.1], hL.2, Nat.le_trans hH.2 hc, Nat.le_refl _, fun _ => rfl, fun h => absurd rfl h, fun _ => rfl⟩
        | some y =>
          obtain ⟨u, rfl, hu⟩ := hmx
          have hM := bound_rel (P := P) (w := w) hu h1 hc (if isS then .slice3Acap else .slice3Alen)
          cases hi with
          | none => simp [boundHi] at h2
          | some x =>
            obtain ⟨u2, rfl, hu2⟩ := hhi
            have hH := bound_rel (P := P) (w := w) hu2 h2 (Nat.le_refl _) .slice3B
            cases lo with
            | none =>
              have e : lo' = none := hlo
              subst e
              simp only [bound, Option.some.injEq] at h3
              subst h3
              exact ⟨M0, by simp [Instr.sliceBounds, hM.1, hH.1], Nat.zero_le _, hH.2, Nat.le_trans hM.2 hc, fun h => (by cases h), fun _ => rfl, fun h => (by cases h)⟩
            | some x =>
              obtain ⟨u3, rfl, hu3⟩ := hlo
              have hL := bound_rel (P := P) (w := w) hu3 h3 (Nat.le_refl _) .slice3C
              exact ⟨M0, by simp [Instr.sliceBounds, hM.1, hH.1, hL.1], hL.2, hH.2, Nat.le_trans hM.2 hc, fun h => (by cases h), fun _ => rfl, fun h => (by cases h)⟩
theorem sure_le (hI : Inv ng m H w) {b o : Nat} {cap : ACap} {c cc : Nat} {ab ao : Nat} (hb : m.blk b = some (ab, ao)) (h : H.sure b o cap = some c) (hc : capR m b o cc cap) : c ≤ cc := by
  cases cap with
  | exact n => simp only [AH.sure, Option.some.injEq] at h; simp only [capR] at hc; omega
  | upto es =>
    simp only [AH.sure] at h
    split at h
    · rename_i cs hcs
      cases h
      obtain ⟨ro, hg⟩ := cells_some hcs
      obtain ⟨_, _, _, _, _, h3, _⟩ := hI.live b _ hg ab ao hb
      obtain ⟨h4, h5, h6⟩ := hc
      rw [h6]
      exact Nat.div_le_div_right (by omega)
    · cases h
theorem sliceTo_rel {b o es len c cc : Nat} {cap : ACap} {lo hi mx : Option AV} {lo' hi' mx' : Option Value} {v : AV} {ab ao : Nat} {a : Addr}
    (hlo : OptRel m lo lo') (hhi : OptRel m hi hi') (hmx : OptRel m mx mx') (hb : m.blk b = some (ab, ao)) (hcap : capR m b o cc cap) (ha : cc = 0 ∨ a = ⟨ab, ao + o, none⟩)
    (hlen : len ≤ cc) (hcc : c ≤ cc) (hex : ∀ n, cap = .exact n → c = n) (h : sliceTo b o es len c cap lo hi mx = some v) (isS : Bool) :
    ∃ l hh M, (Instr.sliceBounds isS len cc lo' hi' mx').run P w = .ok (l, hh, M) w ∧ VRel m v (.slice (some (if M = l then a else a.add (l * es))) (hh - l) (M - l)) := by
  unfold sliceTo at h
  cases hbs : bounds len c lo hi mx with
  | none => rw [hbs] at h; cases h
  | some q =>
    obtain ⟨l, hh, mm⟩ := q
    rw [hbs] at h
    simp only at h
    obtain ⟨M, hrun, h1, h2, h3, h4, h5, h6⟩ := bounds_rel (P := P) (w := w) hlo hhi hmx hbs hcc isS hlen
    refine ⟨l, hh, M, hrun, ?_⟩
    have haddr : ∀ X, X = M - l → X = 0 ∨ (if M = l then a else a.add (l * es)) = ⟨ab, ao + (o + l * es), none⟩ := by
      intro X hX
      by_cases e : M = l
      · left; omega
      · right
        rw [if_neg e]
        have : a = ⟨ab, ao + o, none⟩ := ha.resolve_left (by omega)
        rw [this, add_addr, Nat.add_assoc]
    split at h
    · rename_i es'
      cases hes : Nat.beq es es' with
      | false => rw [hes] at h; cases h
      | true =>
        rw [hes] at h; cases h
        obtain rfl := beq_iff.1 hes
        obtain ⟨g1, g2, g3⟩ := hcap
        have hM : M = cc := h4 rfl
        simp only [VRel]
        have key : l * es ≤ m.room b - o := by
          have : l ≤ (m.room b - o) / es := by omega
          exact (Nat.le_div_iff_mul_le g1).1 this
        refine ⟨ab, ao, _, M - l, hb, rfl, ⟨g1, by omega, ?_⟩, haddr _ rfl, by omega⟩
        rw [hM, g3, show m.room b - (o + l * es) = (m.room b - o) - l * es by omega, Nat.mul_comm l es, Nat.sub_mul_div]
    · rename_i x1 x2 hno
      cases h
      have hmM : mm = M := by
        cases mx with
        | some y => exact (h5 (by simp)).symm
        | none =>
          cases cap with
          | upto es' => exact absurd rfl (hno es' rfl)
          | exact n => rw [h6 rfl, h4 rfl]; simp only [capR] at hcap; rw [hcap]; exact hex n rfl
      subst hmM
      simp only [VRel]
      refine ⟨ab, ao, _, mm - l, hb, rfl, rfl, ?_, by omega⟩
      by_cases e : mm = l
      · left; omega
      · rw [beq_false.2 e]
        exact haddr _ rfl
theorem slice_rel (hA : APok A P) (hI : Inv ng m H w) {t : Nat} {x v : AV} {x' : Value} {lo hi mx : Option AV} {lo' hi' mx' : Option Value} (hx : VRel m x x')
    (hlo : OptRel m lo lo') (hhi : OptRel m hi hi') (hmx : OptRel m mx mx') (h : sliceOp A H t x lo hi mx = some v) :
    ∃ v', (Instr.sliceAt t x' lo' hi' mx').run P w = .ok v' w ∧ VRel m v v' := by
  unfold sliceOp at h
  split at h
  · rename_i hd
    split at h
    · rename_i s
      simp only [VRel] at hx; subst hx
      unfold sliceStr at h
      cases mx with
      | some y => cases h
      | none =>
        have e : mx' = none := hmx
        subst e
        simp only at h
        cases hbs : bounds s.length s.length lo hi none with
        | none => rw [hbs] at h; cases h
        | some q =>
          obtain ⟨l, hh, mm⟩ := q
          rw [hbs] at h
          cases h
          obtain ⟨M, hrun, h1, h2, h3, h4, _⟩ := bounds_rel (P := P) (w := w) (m := m) hlo hhi (mx := none) (mx' := none) rfl hbs (Nat.le_refl _) false (Nat.le_refl _)
          refine ⟨.string ((bstr s).extract l hh), ?_, ?_⟩
          · simp only [Instr.sliceAt, Instr.slice, Sem.run_bind, run_und hA hd, Result.andThen_ok, Option.isSome_none, Bool.false_eq_true, if_false, bstr_size, hrun, Sem.run_pure]
          · simp only [VRel, Value.string.injEq]
            apply ByteArray.ext
            simp [bstr, ByteArray.data_extract, List.extract_eq_take_drop, List.map_drop, List.map_take, List.drop_take]
    · cases h
  · rename_i e hd
    split at h
    · rename_i es hes
      split at h
      · simp only [VRel] at hx; subst hx
        cases hbs : bounds 0 0 lo hi mx with
        | none => rw [hbs] at h; cases h
        | some q =>
          obtain ⟨l, hh, mm⟩ := q
          rw [hbs] at h
          cases h
          obtain ⟨M, hrun, h1, h2, h3, _⟩ := bounds_rel (P := P) (w := w) hlo hhi hmx hbs (Nat.le_refl _) true (Nat.le_refl _)
          have e1 : l = 0 := by omega
          have e2 : hh = 0 := by omega
          have e3 : M = 0 := by omega
          subst e1; subst e2; subst e3
          refine ⟨.slice none 0 0, ?_, by simp only [VRel]⟩
          simp only [Instr.sliceAt, Instr.slice, Sem.run_bind, run_und hA hd, Result.andThen_ok, hrun, run_sizeOf hA hes, if_true, Sem.run_pure]
      · rename_i b o len cap
        simp only [VRel] at hx
        obtain ⟨ab, ao, a, cc, hb, rfl, hcap, ha, hlen⟩ := hx
        split at h
        · rename_i c hc
          have hcc := sure_le hI hb hc hcap
          obtain ⟨l, hh, M, hrun, hv⟩ := sliceTo_rel (P := P) (w := w) hlo hhi hmx hb hcap ha hlen hcc (fun n hn => by subst hn; simp only [AH.sure, Option.some.injEq] at hc; exact hc.symm) h true
          refine ⟨_, ?_, hv⟩
          simp only [Instr.sliceAt, Instr.slice, Sem.run_bind, run_und hA hd, Result.andThen_ok, hrun, run_sizeOf hA hes, Sem.run_pure]
          by_cases e0 : M = l <;> simp [e0]
        · cases h
      · cases h
    · cases h
  · rename_i n e hd
    split at h
    · rename_i es hes
      split at h
      · rename_i b o
        simp only [VRel] at hx
        obtain ⟨ab, ao, hb, rfl⟩ := hx
        obtain ⟨l, hh, M, hrun, hv⟩ := sliceTo_rel (P := P) (w := w) (a := ⟨ab, ao + o, none⟩) hlo hhi hmx hb (cap := .exact n) (cc := n) rfl (.inr rfl) (Nat.le_refl _) (Nat.le_refl _) (fun k hk => by cases hk; rfl) h false
        refine ⟨_, ?_, hv⟩
        simp only [Instr.sliceAt, Instr.sureAddr, Sem.run_bind, run_und hA hd, Result.andThen_ok, hrun, run_sizeOf hA hes, Sem.run_pure]
      · cases h
    · cases h
  · cases h
end Go.AM
