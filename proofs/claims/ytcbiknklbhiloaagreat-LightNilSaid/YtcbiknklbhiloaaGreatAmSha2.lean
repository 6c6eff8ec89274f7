/- The digest's block, as a summary. Conditions: its equation, reckoned by the kernel. -/
import Derived.Test.YtcbiknklbhiloaaGreatAmSha
namespace Go.AM
open Go Go.RowKit
variable {A : AP} {P : Program} {m : Env} {H H' : AH} {w w' : World}
def tabAV (k : IntKind) : Nat → (Nat → Int) → List AV
  | 0, _ => []
  | n + 1, f => .int k (f 0) :: tabAV k n (fun i => f (i + 1))
theorem tab_nth (k : IntKind) : ∀ l : List Int, intsAV k l = tabAV k l.length (nthI l)
  | [] => rfl
  | a :: l => by
    show AV.int k a :: intsAV k l = AV.int k a :: tabAV k l.length (nthI l)
    rw [tab_nth k l]
theorem tab_length (k : IntKind) : ∀ (n : Nat) (f : Nat → Int), (tabAV k n f).length = n
  | 0, _ => rfl
  | n + 1, f => by simp only [tabAV, List.length_cons, tab_length k n]
def bytesI : List AV → Option (List Int)
  | [] => some []
  | .int .u8 x :: l => match bytesI l with | some r => some (x :: r) | none => none
  | _ :: _ => none
theorem bytesI_eq : ∀ (l : List AV) (ys : List Int), bytesI l = some ys → l = intsAV .u8 ys
  | [], ys, h => by cases h; rfl
  | .int .u8 x :: l, ys, h => by
    simp only [bytesI] at h
    split at h
    · rename_i r hr
      cases h
      rw [bytesI_eq l r hr]; rfl
    · cases h
  | .int .i8 _ :: _, _, h => by cases h
  | .int .i16 _ :: _, _, h => by cases h
  | .int .i32 _ :: _, _, h => by cases h
  | .int .i64 _ :: _, _, h => by cases h
  | .int .u16 _ :: _, _, h => by cases h
  | .int .u32 _ :: _, _, h => by cases h
  | .int .u64 _ :: _, _, h => by cases h
  | .bool _ :: _, _, h => by cases h
  | .str _ :: _, _, h => by cases h
  | .nilp :: _, _, h => by cases h
  | .ptr _ _ :: _, _, h => by cases h
  | .nils :: _, _, h => by cases h
  | .sl _ _ _ _ :: _, _, h => by cases h
  | .map _ :: _, _, h => by cases h
  | .fn _ _ _ :: _, _, h => by cases h
  | .nilf :: _, _, h => by cases h
  | .iface _ _ :: _, _, h => by cases h
  | .nili :: _, _, h => by cases h
  | .agg _ :: _, _, h => by cases h
  | .tup _ :: _, _, h => by cases h
  | .opq _ :: _, _, h => by cases h
  | .unk :: _, _, h => by cases h
  | .ge _ :: _, _, h => by cases h
theorem intsAV_length (k : IntKind) : ∀ l : List Int, (intsAV k l).length = l.length
  | [] => rfl
  | _ :: l => by simp only [intsAV, List.length_cons, intsAV_length k l]
/-- the two blocks that the digest's block meets: the digest, and 64 bytes -/
noncomputable def blockH (x0 x1 x2 x3 x4 x5 x6 x7 : Int) (y : Nat → Int) : AH :=
  AH.set (AH.set ⟨2, .e⟩ 0 (some (.cells (intsAV .u32 [x0, x1, x2, x3, x4, x5, x6, x7] ++ [.opq 0, .opq 1]) .rwr))) 1 (some (.cells (tabAV .u8 64 y) .rdo))
noncomputable def get0 : Res → Option AO
  | some (.tup [], H) => H.get 0
  | _ => none
theorem get0_spec {r : Res} {o : AO} (h : get0 r = some o) : ∃ H', r = some (.tup [], H') ∧ H'.get 0 = some o := by
  unfold get0 at h
  split at h
  · exact ⟨_, rfl, h⟩
  · cases h
/-- a known cell -/
def cellOK (r : AV) : Bool := cond (isUnk r) false r.one
theorem cellOK_spec {r : AV} (h : cellOK r = true) : r ≠ .unk ∧ r.one = true := by
  unfold cellOK at h
  cases hu : isUnk r with
  | true => rw [hu] at h; cases h
  | false => rw [hu] at h; exact ⟨fun e => (by subst e; cases hu), h⟩
noncomputable def blockS (ks : List Int) : List AV → AH → Res
  | [.ptr b 0, .sl b2 o2 64 _], H => cond (Nat.beq b b2) none (match H.get b with
    | some (.cells [.int .u32 x0, .int .u32 x1, .int .u32 x2, .int .u32 x3, .int .u32 x4, .int .u32 x5, .int .u32 x6, .int .u32 x7, r0, r1] .rwr) => cond (cellOK r0) (cond (cellOK r1) (match H.loadN b2 o2 64 with
      | some l => match bytesI l with
        | some ys => some (.tup [], H.set b (some (.cells (intsAV .u32 (blockW ks [x0, x1, x2, x3, x4, x5, x6, x7] (nthI ys)) ++ [r0, r1]) .rwr)))
        | none => none
      | none => none) none) none
    | _ => none)
  | _, _ => none
theorem blockW_length (ks xs : List Int) (y : Nat → Int) : (blockW ks xs y).length ≤ xs.length := by
  unfold blockW
  generalize roundsW ks (wordsW y) xs = zs
  induction xs generalizing zs with
  | nil => simp [sumsW]
  | cons a l ih =>
    cases zs with
    | nil => simp [sumsW]
    | cons z zs => simp only [sumsW, List.length_cons]; have := ih zs; omega
theorem intsAV_get (k : IntKind) : ∀ (l : List Int) (i : Nat) (v : AV), (intsAV k l)[i]? = some v → ∃ x, v = .int k x
  | [], i, v, h => by simp [intsAV] at h
  | x :: l, 0, v, h => by simp only [intsAV, List.getElem?_cons_zero, Option.some.injEq] at h; exact ⟨x, h.symm⟩
  | _ :: l, i + 1, v, h => by simp only [intsAV, List.getElem?_cons_succ] at h; exact intsAV_get k l i v h
theorem block_ok (hng : A.ng = 0) {call : CallT} (hc : CallOK A P call) {f : Nat} {ks : List Int}
    (he : ∀ x0 x1 x2 x3 x4 x5 x6 x7 y cap, get0 (call f [.ptr 0 0, .sl 1 0 64 cap] (blockH x0 x1 x2 x3 x4 x5 x6 x7 y)) = some (.cells (intsAV .u32 (blockW ks [x0, x1, x2, x3, x4, x5, x6, x7] y) ++ [.opq 0, .opq 1]) .rwr))
    (hlen : ∀ x0 x1 x2 x3 x4 x5 x6 x7 y, (blockW ks [x0, x1, x2, x3, x4, x5, x6, x7] y).length = 8) : SumOK 0 P f (blockS ks) := by
  intro args H v H' hg m w args' hI ha
  unfold blockS at hg
  split at hg
  · rename_i b b2 o2 cap
    cases hbb : Nat.beq b b2 with
    | true => rw [hbb] at hg; cases hg
    | false =>
    rw [hbb] at hg
    rw [beq_false] at hbb
    simp only [cond_false] at hg
    split at hg
    · rename_i x0 x1 x2 x3 x4 x5 x6 x7 r0 r1 hb
      cases hc0 : cellOK r0 with
      | false => rw [hc0] at hg; cases hg
      | true =>
      cases hc1 : cellOK r1 with
      | false => rw [hc0, hc1] at hg; cases hg
      | true =>
      rw [hc0, hc1] at hg
      simp only [cond_true] at hg
      obtain ⟨hn0, hr0⟩ := cellOK_spec hc0
      obtain ⟨hn1, hr1⟩ := cellOK_spec hc1
      split at hg
      · rename_i l hl
        split at hg
        · rename_i ys hys
          cases hg
          have hle := bytesI_eq l ys hys
          obtain ⟨cs2, k2, hb2, hleq, hlo, _⟩ := loadN_eq hl
          have hll : l.length = 64 := by rw [hleq]; simp only [List.length_take, List.length_drop]; omega
          have hyl : ys.length = 64 := by rw [← hll, hle, intsAV_length]
          have htab : l = tabAV .u8 64 (nthI ys) := by rw [hle, tab_nth, hyl]
          simp only [VsRel, VRel] at ha
          obtain ⟨_, _, rfl, ⟨ab, ao, hmb, rfl⟩, _, _, rfl, ⟨ab2, ao2, x, c, hm2, rfl, hcap, hx, hnc⟩, rfl⟩ := ha
          have hx := hx.resolve_left (by omega)
          subst hx
          have hab : ab ≠ ab2 := by
            intro e
            subst e
            have := hI.sep b2 b _ _ ab ao2 ao (Ne.symm hbb) hb2 hb hm2 hmb
            cases this
          obtain ⟨cv, el, fz, d1, d2, d3, d4, d5⟩ := hI.live b _ hb ab ao hmb
          obtain ⟨cv2, el2, fz2, e1, e2, e3, e4, e5⟩ := hI.live b2 _ hb2 ab2 ao2 hm2
          obtain ⟨u0, hu0, hv0⟩ := d5 8 r0 rfl
          obtain ⟨u1, hu1, hv1⟩ := d5 9 r1 rfl
          have hk0 : VRel m r0 u0 := hv0.resolve_left hn0
          have hk1 : VRel m r1 u1 := hv1.resolve_left hn1
          let m0 : Env := { blk := fun i => match i with | 0 => some (ab, ao) | 1 => some (ab2, ao2 + o2) | _ => none, room := fun i => match i with | 0 => m.room b | _ => m.room b2 - o2, opq := fun i => match i with | 0 => u0 | _ => u1 }
          let H0 := blockH x0 x1 x2 x3 x4 x5 x6 x7 (nthI ys)
          have g0 : H0.get 0 = some (.cells (intsAV .u32 [x0, x1, x2, x3, x4, x5, x6, x7] ++ [.opq 0, .opq 1]) .rwr) := by
            show AH.get (AH.set _ 1 _) 0 = _
            rw [AH.get_set_ne (by omega), AH.get_set]
          have g1 : H0.get 1 = some (.cells (tabAV .u8 64 (nthI ys)) .rdo) := AH.get_set
          have g2 : ∀ i, i ≠ 0 → i ≠ 1 → H0.get i = none := fun i h0 h1 => by
            show AH.get (AH.set _ 1 _) i = _
            rw [AH.get_set_ne h1, AH.get_set_ne h0]; rfl
          have hI0 : Inv 0 m0 H0 w := by
            refine ⟨fun i ob hgi ai xi hmi => ?_, fun i ob hgi => ?_, fun i hi => ?_, fun i ai xi hmi => ?_, fun i j oi oj a xi xj hne hgi hgj hmi hmj => ?_, fun g hg => by omega, by omega⟩
            · match i with
              | 0 =>
                rw [g0] at hgi; cases hgi
                have hmi : some (ab, ao) = some (ai, xi) := hmi
                cases hmi
                refine ⟨cv, el, fz, d1, d2, d3, d4, fun k v hk => ?_⟩
                match k, hk with
                | 0, hk => cases hk; obtain ⟨u, hu, hr⟩ := d5 0 _ rfl; exact ⟨u, hu, .inr (VRel.free _ _ rfl (hr.resolve_left fun e => by cases e))⟩
                | 1, hk => cases hk; obtain ⟨u, hu, hr⟩ := d5 1 _ rfl; exact ⟨u, hu, .inr (VRel.free _ _ rfl (hr.resolve_left fun e => by cases e))⟩
                | 2, hk => cases hk; obtain ⟨u, hu, hr⟩ := d5 2 _ rfl; exact ⟨u, hu, .inr (VRel.free _ _ rfl (hr.resolve_left fun e => by cases e))⟩
                | 3, hk => cases hk; obtain ⟨u, hu, hr⟩ := d5 3 _ rfl; exact ⟨u, hu, .inr (VRel.free _ _ rfl (hr.resolve_left fun e => by cases e))⟩
                | 4, hk => cases hk; obtain ⟨u, hu, hr⟩ := d5 4 _ rfl; exact ⟨u, hu, .inr (VRel.free _ _ rfl (hr.resolve_left fun e => by cases e))⟩
                | 5, hk => cases hk; obtain ⟨u, hu, hr⟩ := d5 5 _ rfl; exact ⟨u, hu, .inr (VRel.free _ _ rfl (hr.resolve_left fun e => by cases e))⟩
                | 6, hk => cases hk; obtain ⟨u, hu, hr⟩ := d5 6 _ rfl; exact ⟨u, hu, .inr (VRel.free _ _ rfl (hr.resolve_left fun e => by cases e))⟩
                | 7, hk => cases hk; obtain ⟨u, hu, hr⟩ := d5 7 _ rfl; exact ⟨u, hu, .inr (VRel.free _ _ rfl (hr.resolve_left fun e => by cases e))⟩
                | 8, hk => cases hk; exact ⟨u0, hu0, .inr (by simp only [VRel]; exact ⟨rfl, hk0.one hr0⟩)⟩
                | 9, hk => cases hk; exact ⟨u1, hu1, .inr (by simp only [VRel]; exact ⟨rfl, hk1.one hr1⟩)⟩
                | k + 10, hk => simp [intsAV] at hk
              | 1 =>
                rw [g1] at hgi; cases hgi
                have hmi : some (ab2, ao2 + o2) = some (ai, xi) := hmi
                cases hmi
                refine ⟨cv2, el2, fz2, e1, trivial, ?_, ?_, fun k v hk => ?_⟩
                · rw [tab_length]
                  show 64 ≤ m.room b2 - o2
                  omega
                · show ao2 + o2 + (m.room b2 - o2) ≤ cv2.size
                  omega
                · rw [← htab, hleq, List.getElem?_take] at hk
                  split at hk
                  · rw [List.getElem?_drop] at hk
                    obtain ⟨u, hu, hr⟩ := e5 (o2 + k) v hk
                    have hv : ∃ z, v = .int .u8 z := by
                      have : l[k]? = some v := by
                        rw [hleq, List.getElem?_take, if_pos (by assumption), List.getElem?_drop]; exact hk
                      rw [hle] at this
                      exact intsAV_get .u8 ys k v this
                    obtain ⟨z, rfl⟩ := hv
                    exact ⟨u, by rw [← hu, Nat.add_assoc], .inr (VRel.free _ _ rfl (hr.resolve_left fun e => by cases e))⟩
                  · cases hk
              | i + 2 => rw [g2 (i + 2) (by omega) (by omega)] at hgi; cases hgi
            · show i < 2
              rcases Nat.lt_or_ge i 2 with h | h
              · exact h
              · rw [g2 i (by omega) (by omega)] at hgi; cases hgi
            · have hi : 2 ≤ i := hi
              match i, hi with
              | i + 2, _ => rfl
            · match i, hmi with
              | 0, hmi => cases hmi; exact hI.bound b _ _ hmb
              | 1, hmi => cases hmi; exact hI.bound b2 _ _ hm2
            · match i, j, hmi, hmj with
              | 0, 0, _, _ => exact absurd rfl hne
              | 1, 1, _, _ => exact absurd rfl hne
              | 0, 1, _, _ => rw [g1] at hgj; cases hgj; rfl
              | 1, 0, hmi, hmj => cases hmi; cases hmj; exact absurd rfl hab
          have hargs : VsRel m0 [.ptr 0 0, .sl 1 0 64 cap] [.pointer (some ⟨ab, ao, none⟩), .slice (some ⟨ab2, ao2 + o2, none⟩) 64 c] := by
            simp only [VsRel, VRel]
            refine ⟨_, _, rfl, ⟨ab, ao, rfl, rfl⟩, _, _, rfl, ⟨ab2, ao2 + o2, _, c, rfl, rfl, ?_, .inr rfl, hnc⟩, rfl⟩
            cases cap with
            | exact n => exact hcap
            | upto es =>
              simp only [capR] at hcap ⊢
              exact ⟨hcap.1, Nat.zero_le _, by rw [hcap.2.2]; rfl⟩
          obtain ⟨H1, hcall, hH1⟩ := get0_spec (he x0 x1 x2 x3 x4 x5 x6 x7 (nthI ys) cap)
          have hL := hlen x0 x1 x2 x3 x4 x5 x6 x7 (nthI ys)
          generalize blockW ks [x0, x1, x2, x3, x4, x5, x6, x7] (nthI ys) = zs at hH1 hL ⊢
          have hbn := hI.dom b _ hb
          have key : ∀ {m' w'}, Inv 0 m' H1 w' → Stp m0 H0 w m' H1 w' → Inv 0 m (H.set b (some (.cells (intsAV .u32 zs ++ [r0, r1]) .rwr))) w' ∧ Stp m H w m (H.set b (some (.cells (intsAV .u32 zs ++ [r0, r1]) .rwr))) w' := by
            intro m' w' hI' hS
            have gb : (H.set b (some (.cells (intsAV .u32 zs ++ [r0, r1]) .rwr))).get b = some (.cells (intsAV .u32 zs ++ [r0, r1]) .rwr) := AH.get_set
            have gn : ∀ y, y ≠ b → (H.set b (some (.cells (intsAV .u32 zs ++ [r0, r1]) .rwr))).get y = H.get y := fun y hy => AH.get_set_ne hy
            have fr : ∀ a, a < w.heap.size → a ≠ ab → w'.heap[a]? = w.heap[a]? := fun a ha hne => hS.frame a ha fun i ob ai hgi hwi hmi => by
              match i with
              | 0 => have hmi : some (ab, ao) = some (a, ai) := hmi; cases hmi; exact hne rfl
              | 1 => rw [g1] at hgi; cases hgi; cases hwi
              | i + 2 => rw [g2 (i + 2) (by omega) (by omega)] at hgi; cases hgi
            have other : ∀ y oy ay xy, y ≠ b → H.get y = some oy → m.blk y = some (ay, xy) → ay ≠ ab := by
              intro y oy ay xy hy hgy hmy e
              subst e
              have := hI.sep y b oy _ ay xy ao hy hgy hb hmy hmb
              cases this
            refine ⟨⟨fun y oy hgy ay xy hmy => ?_, fun y oy hgy => ?_, hI.fresh, fun y ay xy hmy => Nat.lt_of_lt_of_le (hI.bound y ay xy hmy) hS.size, fun i j oi oj a xi xj hne hgi hgj hmi hmj => ?_, hI.glob, hI.ngle⟩, ?_⟩
            · by_cases e : y = b
              · subst e
                rw [gb] at hgy; cases hgy
                rw [hmb] at hmy; cases hmy
                have hm0 : m'.blk 0 = some (ab, ao) := (hS.old 0 (by show 0 < 2; omega)).1
                obtain ⟨cw, elw, fw, f1, f2, f3, f4, f5⟩ := hI'.live 0 _ hH1 ab ao hm0
                have hroom : m'.room 0 = m.room y := (hS.old 0 (by show 0 < 2; omega)).2
                rw [hroom] at f3 f4
                refine ⟨cw, elw, fw, f1, f2, ?_, f4, fun k v hk => ?_⟩
                · rw [List.length_append, intsAV_length] at f3 ⊢; exact f3
                · by_cases hk8 : k < (intsAV .u32 zs).length
                  · rw [List.getElem?_append_left hk8] at hk
                    obtain ⟨z, rfl⟩ := intsAV_get .u32 zs k v hk
                    obtain ⟨u, hu, hr⟩ := f5 k (.int .u32 z) (by rw [List.getElem?_append_left hk8]; exact hk)
                    exact ⟨u, hu, .inr (VRel.free _ _ rfl (hr.resolve_left fun e => by cases e))⟩
                  · have hlz : (intsAV .u32 zs).length = 8 := by rw [intsAV_length]; exact hL
                    rw [List.getElem?_append_right (by omega), hlz] at hk
                    have hk2 : k = 8 ∨ k = 9 := by
                      rcases Nat.lt_or_ge k 10 with h | h
                      · omega
                      · rw [List.getElem?_eq_none (by simp; omega)] at hk; cases hk
                    have hopq := hS.opq
                    rcases hk2 with rfl | rfl
                    · cases hk
                      obtain ⟨u, hu, hr⟩ := f5 8 (.opq 0) (by rw [List.getElem?_append_right (by omega), hlz]; rfl)
                      have hr := hr.resolve_left fun e => by cases e
                      simp only [VRel] at hr
                      refine ⟨u, hu, .inr ?_⟩
                      rw [hr.1, hopq]; exact hk0
                    · cases hk
                      obtain ⟨u, hu, hr⟩ := f5 9 (.opq 1) (by rw [List.getElem?_append_right (by omega), hlz]; rfl)
                      have hr := hr.resolve_left fun e => by cases e
                      simp only [VRel] at hr
                      refine ⟨u, hu, .inr ?_⟩
                      rw [hr.1, hopq]; exact hk1
              · rw [gn y e] at hgy
                exact (hI.live y oy hgy ay xy hmy).mono (Env.Le.refl m) (fr ay (hI.bound y ay xy hmy) (other y oy ay xy e hgy hmy))
            · by_cases e : y = b
              · subst e; exact hbn
              · rw [gn y e] at hgy; exact hI.dom y oy hgy
            · by_cases ei : i = b
              · subst ei
                rw [gn j (Ne.symm hne)] at hgj
                rw [hmb] at hmi; cases hmi
                exact absurd rfl (other j oj _ xj (Ne.symm hne) hgj hmj)
              · rw [gn i ei] at hgi
                by_cases ej : j = b
                · subst ej
                  rw [hmb] at hmj; cases hmj
                  exact absurd rfl (other i oi _ xi ei hgi hmi)
                · rw [gn j ej] at hgj
                  exact hI.sep i j oi oj a xi xj hne hgi hgj hmi hmj
            · refine ⟨Nat.le_refl _, fun _ _ => ⟨rfl, rfl⟩, rfl, hS.os, hS.tape, hS.output, hS.size, fun a ha hno => fr a ha fun e => hno b _ ao hb rfl (by rw [e]; exact hmb), fun y hy ay xy hmy => (by rw [hI.fresh y hy] at hmy; cases hmy), fun y hy hmy => ?_, fun y hy hgy => ?_, fun y hy oy hgy hwy => ?_⟩
              · exact gn y fun e => by subst e; rw [hmb] at hmy; cases hmy
              · rw [gn y fun e => by subst e; rw [hb] at hgy; cases hgy]; exact hgy
              · by_cases e : y = b
                · subst e; exact ⟨_, hb, rfl⟩
                · rw [gn y e] at hgy; exact ⟨oy, hgy, hwy⟩
          rcases hc f _ H0 _ H1 hcall m0 w _ (by rw [hng]; exact hI0) hargs with ⟨v', w', m', k1, k2, k3, k4⟩ | ⟨ff, as, k1, k2⟩
          · rw [hng] at k2
            refine .inl ⟨v', w', m, k1, (key k2 k3).1, (key k2 k3).2, ?_⟩
            exact VRel.free _ _ rfl k4
          · refine .inr ⟨ff, as, k1, Calls.mono k2 fun e w' he => ?_⟩
            cases e with
            | returned r =>
              obtain ⟨m', q1, q2, q3⟩ := he
              rw [hng] at q1
              exact ⟨m, (key q1 q2).1, (key q1 q2).2, VRel.free _ _ rfl q3⟩
            | panicked _ => exact he.elim
            | outgrown => exact he.elim
        · cases hg
      · cases hg
    · cases hg
  · cases hg
end Go.AM
