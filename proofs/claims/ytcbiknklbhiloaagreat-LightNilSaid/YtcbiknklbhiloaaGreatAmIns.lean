/- Lemmas on the evaluator over abstract memory: what it does is what the model does. Conditions: those of each statement. -/
import Derived.Test.YtcbiknklbhiloaaGreatAmSums
namespace Go.AM
open Go
variable {A : AP} {P : Program} {m : Env} {H H' : AH} {w : World}

/- AN INSERT, WHOSE CAPACITY IS NOT KNOWN: both ways, on the two blocks alone -/
noncomputable def two (nx b : Nat) (o : AO) (b' : Nat) (o' : AO) : AH := (AH.set ⟨nx, .e⟩ b (some o)).set b' (some o')
/-- what a way comes to: a slice, and its cells -/
noncomputable def outOf (es vb : Nat) (vs : List AV) : Res → Option (Nat × List AV × Nat)
  | some (.sl j o n (.upto e), H) => cond (Nat.beq e es) (cond (Nat.beq j vb) none (match H.get vb with
    | some (.cells vs' .rwr) => cond (avsEq vs' vs) (match H.get j with
      | some (.cells _ .rwr) => match H.loadN j o (n * es) with
        | some l => some (n, l, H.nx)
        | none => none
      | _ => none) none
    | _ => none)) none
  | _ => none
def mxN (a b : Nat) : Nat := cond (Nat.ble a b) b a
theorem mxN_le (a b : Nat) : a ≤ mxN a b ∧ b ≤ mxN a b := by
  unfold mxN
  cases h : Nat.ble a b with
  | true => rw [ble_iff] at h; exact ⟨h, Nat.le_refl _⟩
  | false => rw [ble_false] at h; exact ⟨Nat.le_refl _, Nat.le_of_lt h⟩
noncomputable def insOut (H : AH) (b es : Nat) : Option (Nat × List AV × Nat) → Option (Nat × List AV × Nat) → Res
  | some (n, l, nx), some (n', l', nx') => cond (Nat.beq n n') (cond (avsEq l l')
      (some (.sl (mxN nx nx') 0 n (.upto es), ⟨mxN nx nx' + 1, ((H.set b none).set (mxN nx nx') (some (.cells l .rwr))).t⟩)) none) none
  | _, _ => none
noncomputable def insS (A : AP) (call : CallT) (L : Nat) (fn : Func) (es : Nat) : List AV → AH → Res
  | [.sl b o n (.upto e), i, .sl vb vo vn vc], H => cond (Nat.beq e es) (cond (Nat.beq b vb) none (match H.get b with
    | some (.cells cs .rwr) => match H.get vb with
      | some (.cells vs .rwr) => insOut H b es
          (outOf es vb vs (runFn A call L fn [.sl b o n (.exact n), i, .sl vb vo vn vc] (two H.nx b (.cells cs .rwr) vb (.cells vs .rwr))))
          (outOf es vb vs (runFn A call L fn [.sl b o n (.upto es), i, .sl vb vo vn vc] (two H.nx b (.cells (cs.take (o + n * es) ++ rep [.unk] es) .rwr) vb (.cells vs .rwr))))
      | _ => none
    | _ => none)) none
  | _, _ => none

theorem two_get {nx b b' : Nat} {o o' : AO} (x : Nat) : (two nx b o b' o').get x = if x = b' then some o' else if x = b then some o else none := by
  unfold two
  by_cases e : x = b'
  · subst e; rw [if_pos rfl, AH.get_set]
  · rw [if_neg e, AH.get_set_ne e]
    by_cases e2 : x = b
    · subst e2; rw [if_pos rfl, AH.get_set]
    · rw [if_neg e2, AH.get_set_ne e2]
      rfl
/-- one way's end, seen on the whole memory -/
theorem way_ok (hI : Inv A.ng m H w) {b vb es : Nat} {cs vs cs0 : List AV} (hne : b ≠ vb) (hb : H.get b = some (.cells cs .rwr)) (hvb : H.get vb = some (.cells vs .rwr)) {xb xv : Nat × Nat} (hmb : m.blk b = some xb) (hmv : m.blk vb = some xv)
    {v : AV} {HX : AH} {m' : Env} {w' : World} {r : Value} (hI' : Inv A.ng m' HX w') (hS : Stp m (two H.nx b (.cells cs0 .rwr) vb (.cells vs .rwr)) w m' HX w') (hv : VRel m' v r)
    {n nx N : Nat} {l : List AV} (ho : outOf es vb vs (some (v, HX)) = some (n, l, nx)) (hN : nx ≤ N) :
    ∃ m'', Inv A.ng m'' ⟨N + 1, ((H.set b none).set N (some (.cells l .rwr))).t⟩ w' ∧ Stp m H w m'' ⟨N + 1, ((H.set b none).set N (some (.cells l .rwr))).t⟩ w' ∧ VRel m'' (.sl N 0 n (.upto es)) r := by
  have hbn := hI.dom b _ hb
  have hvn := hI.dom vb _ hvb
  have hnx := hS.nx
  have hnx2 : (two H.nx b (.cells cs0 .rwr) vb (.cells vs .rwr)).nx = H.nx := rfl
  rw [hnx2] at hnx
  have tget := two_get (nx := H.nx) (b := b) (b' := vb) (o := .cells cs0 .rwr) (o' := .cells vs .rwr)
  -- what came out
  unfold outOf at ho
  split at ho
  · rename_i j o n0 e HX0 heq
    cases heq
    cases he : Nat.beq e es with
    | false => rw [he] at ho; cases ho
    | true =>
    rw [he] at ho
    rw [beq_iff] at he; subst he
    cases hjv : Nat.beq j vb with
    | true => rw [hjv] at ho; cases ho
    | false =>
    rw [hjv] at ho
    rw [beq_false] at hjv
    simp only [cond_true, cond_false] at ho
    split at ho
    · rename_i vs' hgv
      cases hvs : avsEq vs' vs with
      | false => rw [hvs] at ho; cases ho
      | true =>
      rw [hvs] at ho
      have := avsEq_eq _ _ hvs
      subst this
      simp only [cond_true] at ho
      split at ho
      · rename_i cj hgj
        split at ho
        · rename_i l0 hl
          cases ho
          obtain ⟨cs1, ro, hg1, hleq, hlen, hkn⟩ := loadN_eq hl
          rw [hgj] at hg1
          cases hg1
          simp only [VRel] at hv
          obtain ⟨ab, ao, x, c, hmj, rfl, hc, hx, hnc⟩ := hv
          simp only [capR] at hc
          obtain ⟨hes, hor, hceq⟩ := hc
          have hjn := hI'.dom j _ hgj
          have hfrN := hI'.fresh N hN
          have hle' := Env.with_le (m := m') (ab := ab) (ao := ao + o) (room := m'.room j - o) hfrN
          have blk_ne : ∀ x, x ≠ N → (m'.with_ N ab (ao + o) (m'.room j - o)).blk x = m'.blk x := fun x hx => by simp [Env.with_, hx]
          have room_ne : ∀ x, x ≠ N → (m'.with_ N ab (ao + o) (m'.room j - o)).room x = m'.room x := fun x hx => by simp [Env.with_, hx]
          have blk_N : (m'.with_ N ab (ao + o) (m'.room j - o)).blk N = some (ab, ao + o) := by simp [Env.with_]
          have room_N : (m'.with_ N ab (ao + o) (m'.room j - o)).room N = m'.room j - o := by simp [Env.with_]
          have gN : AH.get ⟨N + 1, ((H.set b none).set N (some (.cells l .rwr))).t⟩ N = some (.cells l .rwr) := AH.get_set (H := H.set b none)
          have g_ne : ∀ y, y ≠ N → AH.get ⟨N + 1, ((H.set b none).set N (some (.cells l .rwr))).t⟩ y = if y = b then none else H.get y := by
            intro y hy
            have h1 : AH.get ⟨N + 1, ((H.set b none).set N (some (.cells l .rwr))).t⟩ y = (H.set b none).get y := AH.get_set_ne (H := H.set b none) hy
            rw [h1]
            by_cases e : y = b
            · subst e; rw [if_pos rfl, AH.get_set]
            · rw [if_neg e, AH.get_set_ne e]
          have old : ∀ y, y < H.nx → m'.blk y = m.blk y ∧ m'.room y = m.room y := fun y hy => hS.old y hy
          have hleE : Env.Le m m' := ⟨fun y z hz => by
            have hy : y < H.nx := by
              rcases Nat.lt_or_ge y H.nx with h | h
              · exact h
              · rw [hI.fresh y h] at hz; cases hz
            exact ⟨by rw [(old y hy).1]; exact hz, (old y hy).2⟩, hS.opq⟩
          -- where the slice lies: a block of the two, or a new one
          have hab : w.heap.size ≤ ab ∨ ∃ y oy ay, (y = b ∨ y = vb) ∧ H.get y = some oy ∧ oy.wr = true ∧ m.blk y = some (ab, ay) := by
            rcases Nat.lt_or_ge j H.nx with h | h
            · have hg : (two H.nx b (.cells cs0 .rwr) vb (.cells vs' .rwr)).get j ≠ none := fun hn => by
                rw [hS.dead j h hn] at hgj; cases hgj
              rw [tget] at hg
              rw [(old j h).1] at hmj
              by_cases e1 : j = vb
              · exact absurd e1 hjv
              · rw [if_neg e1] at hg
                by_cases e2 : j = b
                · subst e2; exact .inr ⟨j, _, ao, .inl rfl, hb, rfl, hmj⟩
                · rw [if_neg e2] at hg; exact absurd rfl hg
            · rcases hS.newb j h ab ao hmj with h | ⟨y, oy, ay, hgy, _, hmy⟩
              · exact .inl h
              · rw [tget] at hgy
                by_cases e1 : y = vb
                · subst e1; exact .inr ⟨y, _, ay, .inr rfl, hvb, rfl, hmy⟩
                · rw [if_neg e1] at hgy
                  by_cases e2 : y = b
                  · subst e2; exact .inr ⟨y, _, ay, .inl rfl, hb, rfl, hmy⟩
                  · rw [if_neg e2] at hgy; cases hgy
          -- no other block lies there
          have apart : ∀ y oy ay, y ≠ N → y ≠ b → H.get y = some oy → m'.blk y = some (ab, ay) → False := by
            intro y oy ay hyN hyb hgy hmy
            have hyn := hI.dom y oy hgy
            by_cases hyv : y = vb
            · subst hyv
              have := hI'.sep j y _ _ ab ao ay hjv hgj hgv hmj hmy
              cases this
            · rw [(old y hyn).1] at hmy
              rcases hab with h | ⟨z, oz, az, hz, hgz, hwz, hmz⟩
              · have := hI.bound y ab ay hmy; omega
              · have hyz : y ≠ z := by rcases hz with rfl | rfl <;> assumption
                have := hI.sep y z oy oz ab ay az hyz hgy hgz hmy hmz
                rw [hwz] at this; cases this
          have hInv : Inv A.ng (m'.with_ N ab (ao + o) (m'.room j - o)) ⟨N + 1, ((H.set b none).set N (some (.cells l .rwr))).t⟩ w' := by
            refine ⟨?_, ?_, ?_, ?_, ?_, ?_, ?_⟩
            · intro y oy hgy ay xy hmy
              by_cases e : y = N
              · subst e
                rw [gN] at hgy; cases hgy
                rw [blk_N] at hmy; cases hmy
                rw [room_N]
                obtain ⟨cv, el, fz, d1, d2, d3, d4, d5⟩ := hI'.live j _ hgj ab ao hmj
                refine ⟨cv, el, fz, d1, d2, ?_, by omega, fun k v hk => ?_⟩
                · rw [hleq]; simp only [List.length_take, List.length_drop]; omega
                · have hk' : cj[o + k]? = some v := by
                    rw [hleq, List.getElem?_take] at hk
                    split at hk
                    · rw [List.getElem?_drop] at hk; exact hk
                    · cases hk
                  obtain ⟨u, hu, hr⟩ := d5 (o + k) v hk'
                  exact ⟨u, by rw [← hu, Nat.add_assoc], hr.imp id (VRel.mono hle' _ _)⟩
              · rw [g_ne y e] at hgy
                by_cases e2 : y = b
                · rw [if_pos e2] at hgy; cases hgy
                · rw [if_neg e2] at hgy
                  rw [blk_ne y e] at hmy
                  rw [room_ne y e]
                  have hyn := hI.dom y oy hgy
                  by_cases e3 : y = vb
                  · subst e3
                    rw [hvb] at hgy; cases hgy
                    exact (hI'.live y _ hgv ay xy hmy).mono hle' rfl
                  · rw [(old y hyn).1] at hmy
                    rw [(old y hyn).2]
                    refine (hI.live y oy hgy ay xy hmy).mono (hleE.trans hle') (hS.frame ay (hI.bound y ay xy hmy) fun z oz az hgz _ hmz => ?_)
                    rw [tget] at hgz
                    by_cases f1 : z = vb
                    · subst f1
                      have := hI.sep y z oy _ ay xy az e3 hgy hvb hmy hmz
                      cases this
                    · rw [if_neg f1] at hgz
                      by_cases f2 : z = b
                      · subst f2
                        have := hI.sep y z oy _ ay xy az e2 hgy hb hmy hmz
                        cases this
                      · rw [if_neg f2] at hgz; cases hgz
            · intro y oy hgy
              show y < N + 1
              by_cases e : y = N
              · omega
              · rw [g_ne y e] at hgy
                by_cases e2 : y = b
                · rw [if_pos e2] at hgy; cases hgy
                · rw [if_neg e2] at hgy; have := hI.dom y oy hgy; omega
            · intro y hy
              have hy : N + 1 ≤ y := hy
              rw [blk_ne y (by omega)]; exact hI'.fresh y (by omega)
            · intro y ay xy hmy
              by_cases e : y = N
              · subst e; rw [blk_N] at hmy; cases hmy; exact hI'.bound j _ _ hmj
              · rw [blk_ne y e] at hmy; exact hI'.bound y ay xy hmy
            · intro y z oy oz a1 xy xz hyz hgy hgz hmy hmz
              by_cases e : y = N
              · subst e
                rw [blk_N] at hmy; cases hmy
                rw [g_ne z (Ne.symm hyz)] at hgz
                rw [blk_ne z (Ne.symm hyz)] at hmz
                by_cases e2 : z = b
                · rw [if_pos e2] at hgz; cases hgz
                · rw [if_neg e2] at hgz
                  exact (apart z oz xz (Ne.symm hyz) e2 hgz hmz).elim
              · rw [g_ne y e] at hgy
                rw [blk_ne y e] at hmy
                by_cases e2 : y = b
                · rw [if_pos e2] at hgy; cases hgy
                · rw [if_neg e2] at hgy
                  by_cases e3 : z = N
                  · subst e3
                    rw [blk_N] at hmz; cases hmz
                    exact (apart y oy xy e e2 hgy hmy).elim
                  · rw [g_ne z e3] at hgz
                    rw [blk_ne z e3] at hmz
                    by_cases e4 : z = b
                    · rw [if_pos e4] at hgz; cases hgz
                    · rw [if_neg e4] at hgz
                      rw [(old y (hI.dom y oy hgy)).1] at hmy
                      rw [(old z (hI.dom z oz hgz)).1] at hmz
                      exact hI.sep y z oy oz a1 xy xz hyz hgy hgz hmy hmz
            · intro g hg
              have := hI.ngle
              rw [blk_ne g (by omega)]; exact hI'.glob g hg
            · show A.ng ≤ N + 1
              have := hI.ngle; omega
          refine ⟨_, hInv, ⟨?_, fun y hy => ?_, hS.opq, hS.os, hS.tape, hS.output, hS.size, fun a1 ha1 hno => ?_, fun y hy a1 x1 hm1 => ?_, fun y hy hmy => ?_, fun y hy hgy => ?_, fun y hy oy hgy hwy => ?_⟩, ?_⟩
          · show H.nx ≤ N + 1; omega
          · rw [blk_ne y (by omega), room_ne y (by omega)]; exact old y hy
          · refine hS.frame a1 ha1 fun z oz az hgz hwz => ?_
            rw [tget] at hgz
            by_cases f1 : z = vb
            · subst f1; exact hno z _ az hvb rfl
            · rw [if_neg f1] at hgz
              by_cases f2 : z = b
              · subst f2; exact hno z _ az hb rfl
              · rw [if_neg f2] at hgz; cases hgz
          · by_cases e : y = N
            · subst e
              rw [blk_N] at hm1; cases hm1
              rcases hab with h | ⟨z, oz, az, _, hgz, hwz, hmz⟩
              · exact .inl h
              · exact .inr ⟨z, oz, az, hgz, hwz, hmz⟩
            · rw [blk_ne y e] at hm1
              rcases hS.newb y hy a1 x1 hm1 with h | ⟨z, oz, az, hgz, _, hmz⟩
              · exact .inl h
              · rw [tget] at hgz
                by_cases f1 : z = vb
                · subst f1; exact .inr ⟨z, _, az, hvb, rfl, hmz⟩
                · rw [if_neg f1] at hgz
                  by_cases f2 : z = b
                  · subst f2; exact .inr ⟨z, _, az, hb, rfl, hmz⟩
                  · rw [if_neg f2] at hgz; cases hgz
          · rw [g_ne y (by omega), if_neg (fun e => by subst e; rw [hmb] at hmy; cases hmy)]
          · rw [g_ne y (by omega)]
            split
            · rfl
            · exact hgy
          · rw [g_ne y (by omega)] at hgy
            split at hgy
            · cases hgy
            · exact ⟨oy, hgy, hwy⟩
          · simp only [VRel]
            refine ⟨ab, ao + o, x, c, blk_N, rfl, ?_, ?_, hnc⟩
            · simp only [capR]
              exact ⟨hes, Nat.zero_le _, by rw [room_N]; exact hceq⟩
            · simpa using hx
        · cases ho
      · cases ho
    · cases ho
  · cases ho
theorem two_inv (hI : Inv A.ng m H w) {b vb : Nat} {cs vs cs0 : List AV} (hne : b ≠ vb) (hb : H.get b = some (.cells cs .rwr)) (hvb : H.get vb = some (.cells vs .rwr)) {ab ao : Nat} (hmb : m.blk b = some (ab, ao))
    (hO : ORel m w ab ao (m.room b) (.cells cs0 .rwr)) : Inv A.ng m (two H.nx b (.cells cs0 .rwr) vb (.cells vs .rwr)) w := by
  have tget := two_get (nx := H.nx) (b := b) (b' := vb) (o := .cells cs0 .rwr) (o' := .cells vs .rwr)
  have tsome : ∀ y oy, (two H.nx b (.cells cs0 .rwr) vb (.cells vs .rwr)).get y = some oy → (y = b ∧ oy = .cells cs0 .rwr) ∨ (y = vb ∧ oy = .cells vs .rwr) := by
    intro y oy h
    rw [tget] at h
    by_cases e : y = vb
    · rw [if_pos e] at h; cases h; exact .inr ⟨e, rfl⟩
    · rw [if_neg e] at h
      by_cases e2 : y = b
      · rw [if_pos e2] at h; cases h; exact .inl ⟨e2, rfl⟩
      · rw [if_neg e2] at h; cases h
  refine ⟨?_, ?_, hI.fresh, hI.bound, ?_, hI.glob, hI.ngle⟩
  · intro y oy hy a1 x1 hm1
    rcases tsome y oy hy with ⟨rfl, rfl⟩ | ⟨rfl, rfl⟩
    · rw [hmb] at hm1; cases hm1; exact hO
    · exact hI.live y _ hvb a1 x1 hm1
  · intro y oy hy
    rcases tsome y oy hy with ⟨rfl, rfl⟩ | ⟨rfl, rfl⟩
    · exact hI.dom y _ hb
    · exact hI.dom y _ hvb
  · intro y z oy oz a1 xy xz hyz hy hz hmy hmz
    rcases tsome y oy hy with ⟨rfl, rfl⟩ | ⟨rfl, rfl⟩ <;> rcases tsome z oz hz with ⟨rfl, rfl⟩ | ⟨rfl, rfl⟩
    · exact absurd rfl hyz
    · have := hI.sep _ _ _ _ a1 xy xz hyz hb hvb hmy hmz; cases this
    · have := hI.sep _ _ _ _ a1 xy xz hyz hvb hb hmy hmz; cases this
    · exact absurd rfl hyz
theorem ins_ok (hA : APok A P) {call : CallT} (hc : CallOK A P call) {L f es : Nat} {fn : Func} (hf : P.funcs[f]? = some fn) (hcall : ∀ args w, (callFunc f args).run P w = .ok (.enter f args) w) :
    SumOK A.ng P f (insS A call L fn es) := by
  intro args H v H' hg m w args' hI ha
  unfold insS at hg
  split at hg
  · rename_i b o n e i vb vo vn vc
    cases he : Nat.beq e es with
    | false => rw [he] at hg; cases hg
    | true =>
    rw [he] at hg
    rw [beq_iff] at he; subst he
    cases hbv : Nat.beq b vb with
    | true => rw [hbv] at hg; cases hg
    | false =>
    rw [hbv] at hg
    rw [beq_false] at hbv
    simp only [cond_true, cond_false] at hg
    split at hg
    · rename_i cs hb
      split at hg
      · rename_i vs hvb
        generalize hoA : outOf e vb vs (runFn A call L fn [.sl b o n (.exact n), i, .sl vb vo vn vc] (two H.nx b (.cells cs .rwr) vb (.cells vs .rwr))) = oA at hg
        generalize hoB : outOf e vb vs (runFn A call L fn [.sl b o n (.upto e), i, .sl vb vo vn vc] (two H.nx b (.cells (cs.take (o + n * e) ++ rep [.unk] e) .rwr) vb (.cells vs .rwr))) = oB at hg
        unfold insOut at hg
        split at hg
        · rename_i n1 l1 nx1 n2 l2 nx2
          cases h1 : Nat.beq n1 n2 with
          | false => rw [h1] at hg; cases hg
          | true =>
          cases h2 : avsEq l1 l2 with
          | false => rw [h1, h2] at hg; cases hg
          | true =>
          rw [h1, h2] at hg
          cases hg
          rw [beq_iff] at h1; subst h1
          have := avsEq_eq _ _ h2; subst this
          have h3 := mxN_le nx1 nx2
          have hargs := ha
          simp only [VsRel, VRel] at ha
          obtain ⟨_, _, rfl, ⟨ab, ao, x, c, hmb, rfl, hcap, hx, hnc⟩, i', _, rfl, hi, _, _, rfl, ⟨avb, avo, xv, cv, hmv, rfl, hcv, hxv, hnv⟩, rfl⟩ := ha
          have hv : VRel m (.sl vb vo vn vc) (.slice (some xv) vn cv) := by simp only [VRel]; exact ⟨avb, avo, xv, cv, hmv, rfl, hcv, hxv, hnv⟩
          have hcap' := hcap
          simp only [capR] at hcap'
          obtain ⟨hes, hor, hceq⟩ := hcap'
          refine .inr ⟨f, _, hcall _ w, ?_⟩
          by_cases hcn : c = n
          · -- full
            have hs : VRel m (.sl b o n (.exact n)) (.slice (some x) n c) := by simp only [VRel]; exact ⟨ab, ao, x, c, hmb, rfl, by simp only [capR]; exact hcn, hx, hnc⟩
            have hIn := two_inv hI hbv hb hvb hmb (hI.live b _ hb ab ao hmb)
            cases hr : runFn A call L fn [.sl b o n (.exact n), i, .sl vb vo vn vc] (two H.nx b (.cells cs .rwr) vb (.cells vs .rwr)) with
            | none => rw [hr] at hoA; cases hoA
            | some r =>
              obtain ⟨rv, HX⟩ := r
              rw [hr] at hoA
              obtain ⟨_, _, hC⟩ := runFn_ok hA hc (draw_ok hA hc) hf hIn (VsRel.cons hs (VsRel.cons hi (VsRel.cons hv VsRel.nil))) hr
              refine Calls.mono hC fun en w' hen => ?_
              cases en with
              | returned rr =>
                obtain ⟨m', g1, g2, g3⟩ := hen
                exact way_ok hI hbv hb hvb hmb hmv g1 g2 g3 hoA h3.1
              | panicked _ => exact hen.elim
              | outgrown => exact hen.elim
          · -- room
            have hs : VRel m (.sl b o n (.upto e)) (.slice (some x) n c) := by simp only [VRel]; exact ⟨ab, ao, x, c, hmb, rfl, hcap, hx, hnc⟩
            have hroom : (n + 1) * e ≤ m.room b - o := by
              have : n + 1 ≤ (m.room b - o) / e := by omega
              exact (Nat.le_div_iff_mul_le hes).1 this
            have hO : ORel m w ab ao (m.room b) (.cells (cs.take (o + n * e) ++ rep [.unk] e) .rwr) := by
              obtain ⟨cv, el, fz, d1, d2, d3, d4, d5⟩ := hI.live b _ hb ab ao hmb
              have hrl : (rep [AV.unk] e).length = e := by rw [rep_length]; simp
              have hadd : (n + 1) * e = n * e + e := Nat.succ_mul n e
              refine ⟨cv, el, fz, d1, d2, by rw [List.length_append, hrl, List.length_take]; omega, d4, fun k v hk => ?_⟩
              by_cases hlt : k < (cs.take (o + n * e)).length
              · rw [List.getElem?_append_left hlt, List.getElem?_take] at hk
                split at hk
                · exact d5 k v hk
                · cases hk
              · rw [List.getElem?_append_right (by omega)] at hk
                have hkl := (List.getElem?_eq_some_iff.1 hk).1
                rw [hrl] at hkl
                rw [rep_get _ _ _ (by simpa using hkl)] at hk
                have hvu : v = .unk := by
                  have : (k - (cs.take (o + n * e)).length) % [AV.unk].length = 0 := by simp [Nat.mod_one]
                  rw [this] at hk
                  exact (Option.some.inj hk).symm
                have hkc : ao + k < cv.size := by
                  rw [List.length_take] at hlt hkl
                  omega
                exact ⟨cv[ao + k], by simp [hkc], .inl hvu⟩
            have hIn := two_inv hI hbv hb hvb hmb hO
            cases hr : runFn A call L fn [.sl b o n (.upto e), i, .sl vb vo vn vc] (two H.nx b (.cells (cs.take (o + n * e) ++ rep [.unk] e) .rwr) vb (.cells vs .rwr)) with
            | none => rw [hr] at hoB; cases hoB
            | some r =>
              obtain ⟨rv, HX⟩ := r
              rw [hr] at hoB
              obtain ⟨_, _, hC⟩ := runFn_ok hA hc (draw_ok hA hc) hf hIn (VsRel.cons hs (VsRel.cons hi (VsRel.cons hv VsRel.nil))) hr
              refine Calls.mono hC fun en w' hen => ?_
              cases en with
              | returned rr =>
                obtain ⟨m', g1, g2, g3⟩ := hen
                exact way_ok hI hbv hb hvb hmb hmv g1 g2 g3 hoB h3.2
              | panicked _ => exact hen.elim
              | outgrown => exact hen.elim
        · cases hg
      · cases hg
    · cases hg
  · cases hg
/-- .. or, where that finds nothing, the text itself -/
noncomputable def insG (A : AP) (call : CallT) (L : Nat) (fn : Func) (es : Nat) (args : List AV) (H : AH) : Res := match runFn A call L fn args H with
  | some r => some r
  | none => insS A call L fn es args H
theorem insG_ok (hA : APok A P) {call : CallT} (hc : CallOK A P call) {L f es : Nat} {fn : Func} (hf : P.funcs[f]? = some fn) (hcall : ∀ args w, (callFunc f args).run P w = .ok (.enter f args) w) :
    SumOK A.ng P f (insG A call L fn es) := by
  intro args H v H' hg m w args' hI ha
  unfold insG at hg
  split at hg
  · rename_i r hr
    cases hg
    obtain ⟨_, _, hC⟩ := runFn_ok hA hc (draw_ok hA hc) hf hI ha hr
    exact .inr ⟨f, _, hcall _ w, hC⟩
  · exact ins_ok hA hc hf hcall args H v H' hg m w args' hI ha
end Go.AM
