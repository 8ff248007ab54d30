/-
  DERIVED. Stories: which event fits, told by a state. No program is walked.
-/
import Derived.Test.YtonfbgombglngaaSlStory3
namespace Go.Proofs.Ytonfbgombglngaa
open Go.Sl

theorem getD_take (l : List Int) (i n : Nat) (h : n < i) : (l.take i).getD n 0 = l.getD n 0 := by
  rw [List.getD_eq_getElem?_getD, List.getD_eq_getElem?_getD, List.getElem?_take]
  simp [h]
theorem atF_take (kd th : List Int) (q : Int) (i : Nat) : ∀ n, n ≤ i → atF (kd.take i) (th.take i) q n = atF kd th q n
  | 0, _ => rfl
  | n + 1, h => by simp only [atF, getD_take _ i n (by omega), atF_take kd th q i n (by omega)]
theorem crashF_take (kd : List Int) (i : Nat) : ∀ n, n ≤ i → crashF (kd.take i) n = crashF kd n
  | 0, _ => rfl
  | n + 1, h => by simp only [crashF, getD_take _ i n (by omega), crashF_take kd i n (by omega)]
theorem upF_take (kd : List Int) (i : Nat) : ∀ n, n ≤ i → upF (kd.take i) n = upF kd n
  | 0, _ => rfl
  | n + 1, h => by simp only [upF, getD_take _ i n (by omega), upF_take kd i n (by omega)]
theorem aboveF_take (kd th nm : List Int) (q x : Int) (i : Nat) : ∀ n, n ≤ i → aboveF (kd.take i) (th.take i) (nm.take i) q x n = aboveF kd th nm q x n
  | 0, _ => rfl
  | n + 1, h => by simp only [aboveF, getD_take _ i n (by omega), aboveF_take kd th nm q x i n (by omega)]
theorem atF_kind (kd th : List Int) (q : Int) : ∀ n, 0 ≤ atF kd th q n → kd.getD (atF kd th q n).toNat 0 = 1 ∧ th.getD (atF kd th q n).toNat 0 = q
  | 0, h => by simp [atF] at h
  | n + 1, h => by
    have ih := atF_kind kd th q n
    simp only [atF] at h ⊢
    cases h1 : kd.getD n 0 == 1 with
    | true =>
      simp only [h1, cond_true] at h ⊢
      cases h2 : th.getD n 0 == q with
      | true => simp only [cond_true, Int.toNat_natCast]; exact ⟨by simpa using h1, by simpa using h2⟩
      | false => simp only [h2, cond_false] at h ⊢; exact ih h
    | false =>
      simp only [h1, cond_false] at h ⊢
      cases h3 : kd.getD n 0 == 2 with
      | true =>
        simp only [h3, cond_true] at h ⊢
        cases h2 : th.getD n 0 == q with
        | true => rw [h2] at h; simp only [cond_true] at h; omega
        | false => simp only [h2, cond_false] at h ⊢; exact ih h
      | false =>
        simp only [h3, cond_false] at h ⊢
        cases h4 : kd.getD n 0 == 4 with
        | true => rw [h4] at h; simp only [cond_true] at h; omega
        | false => simp only [h4, cond_false] at h ⊢; exact ih h

/-- Are just the fields that an event's kind names other than zero? -/
def bareN (kd ep th nm oK oA oB rE rO rX aK pK pA pB sE sO sX : Int) : Bool :=
  bif kd == 1 then rE == 0 && rO == 0 && rX == 0 && aK == 0 && pK == 0 && pA == 0 && pB == 0 && sE == 0 && sO == 0 && sX == 0
  else bif kd == 2 || kd == 3 then oK == 0 && oA == 0 && oB == 0 && aK == 0 && pK == 0 && pA == 0 && pB == 0 && sE == 0 && sO == 0 && sX == 0
  else bif kd == 6 then oK == 0 && oA == 0 && oB == 0 && rE == 0 && rO == 0 && rX == 0
  else th == 0 && nm == 0 && oK == 0 && oA == 0 && oB == 0 && rE == 0 && rO == 0 && rX == 0 && aK == 0 && pK == 0 && pA == 0 && pB == 0 && sE == 0 && sO == 0 && sX == 0
/-- Does an event fit, the state being this: the crashes, whether it is down, the numbers that threads are at, and those that returned last? -/
def fitB (t n : Int) (d : Bool) (f g : IMap) (kd ep th nm oK oA oB rE rO rX aK pK pA pB sE sO sX : Int) : Bool :=
  bareN kd ep th nm oK oA oB rE rO rX aK pK pA pB sE sO sX && ep == n &&
  (bif kd == 1 then !d && (decide (0 ≤ th) && decide (th < t) && (f th).getD 0 == 0) && story_num nm && decide ((g th).getD 0 < nm) && r22_Right oK oA oB
  else bif kd == 2 then !d && decide (0 < nm) && (f th).getD 0 == nm
  else bif kd == 3 then !d && (decide (0 ≤ th) && decide (th < t) && (f th).getD 0 == 0) && story_num nm && rE == 8 && rO == 0 && rX == 0
  else bif kd == 6 then !d && (decide (0 ≤ th) && decide (th < t) && (f th).getD 0 == 0) && story_num nm && decide (0 ≤ aK) && decide (aK ≤ 2)
  else bif kd == 5 then d else kd == 4)
/-- What a story's state is, behind the first i events, if all of them fit. -/
structure StI (t p s : Int) (kd ep th nm oK oA oB rE rO rX aK pK pA pB sE sO sX : List Int) (i n : Int) (d : Bool) (f g : IMap) : Prop where
  right : r04_Right t p s = true
  h0 : 0 ≤ i
  h1 : i ≤ kd.length
  fit : ∀ j : Nat, j < i.toNat → fitR t p s kd ep th nm oK oA oB rE rO rX aK pK pA pB sE sO sX j = true
  en : n = crashF kd i.toNat
  dn : d = !upF kd i.toNat
  at_ : ∀ q : Int, (f q).getD 0 = bif decide (atF kd th q i.toNat < 0) then 0 else nm.getD (atF kd th q i.toNat).toNat 0
  past : ∀ q x : Int, 1 ≤ x → aboveF kd th nm q x i.toNat = decide ((g q).getD 0 < x)
  lt : ∀ q : Int, 0 ≤ atF kd th q i.toNat → (g q).getD 0 < nm.getD (atF kd th q i.toNat).toNat 0
theorem fitR_num {t p s : Int} {kd ep th nm oK oA oB rE rO rX aK pK pA pB sE sO sX : List Int} {j : Nat} (h : fitR t p s kd ep th nm oK oA oB rE rO rX aK pK pA pB sE sO sX j = true) (hk : kd.getD j 0 = 1) : 1 ≤ nm.getD j 0 := by
  unfold fitR r33_fits at h
  rw [hk] at h
  cases hb : (decide ((1 : Int) < 1) || decide ((1 : Int) > 6) || !r33_bare 1 (ep.getD j 0) (th.getD j 0) (nm.getD j 0) (oK.getD j 0) (oA.getD j 0) (oB.getD j 0) (rE.getD j 0) (rO.getD j 0) (rX.getD j 0) (aK.getD j 0) (pK.getD j 0) (pA.getD j 0) (pB.getD j 0) (sE.getD j 0) (sO.getD j 0) (sX.getD j 0) || ep.getD j 0 != Prod.fst (r33_epoch (kd.take j) (ep.take j) (th.take j) (nm.take j) (oK.take j) (oA.take j) (oB.take j) (rE.take j) (rO.take j) (rX.take j) (aK.take j) (pK.take j) (pA.take j) (pB.take j) (sE.take j) (sO.take j) (sX.take j))) with
  | true => rw [hb] at h; cases h
  | false =>
    rw [hb] at h
    simp only [cond_false, beq_self_eq_true, cond_true, Bool.and_eq_true, decide_eq_true_eq] at h
    omega
theorem busy {t p s : Int} {kd ep th nm oK oA oB rE rO rX aK pK pA pB sE sO sX : List Int} {i n : Int} {d : Bool} {f g : IMap} (H : StI t p s kd ep th nm oK oA oB rE rO rX aK pK pA pB sE sO sX i n d f g) (q : Int) : ((f q).getD 0 == 0) = decide (atF kd th q i.toNat < 0) := by
  have hb := atF_bd kd th q i.toNat
  rw [H.at_ q]
  cases h : decide (atF kd th q i.toNat < 0) with
  | true => rfl
  | false =>
    simp only [decide_eq_false_iff_not] at h
    have hk := (atF_kind kd th q i.toNat (by omega)).1
    have := fitR_num (H.fit (atF kd th q i.toNat).toNat (by omega)) hk
    simp only [cond_false]
    rw [beq_eq_false_iff_ne]
    omega
theorem bare_eq (kd ep th nm oK oA oB rE rO rX aK pK pA pB sE sO sX : Int) (hk : kd = 1 ∨ kd = 2 ∨ kd = 3 ∨ kd = 4 ∨ kd = 5 ∨ kd = 6) : r33_bare kd ep th nm oK oA oB rE rO rX aK pK pA pB sE sO sX = bareN kd ep th nm oK oA oB rE rO rX aK pK pA pB sE sO sX := by
  rw [Bool.eq_iff_iff]
  rcases hk with rfl | rfl | rfl | rfl | rfl | rfl <;> simp [r33_bare, bareN, and_assoc]
theorem fit_eq {t p s : Int} {kd ep th nm oK oA oB rE rO rX aK pK pA pB sE sO sX : List Int} {i n : Int} {d : Bool} {f g : IMap} (H : StI t p s kd ep th nm oK oA oB rE rO rX aK pK pA pB sE sO sX i n d f g) (hi : i < kd.length) :
    fitR t p s kd ep th nm oK oA oB rE rO rX aK pK pA pB sE sO sX i.toNat = fitB t n d f g (kd.getD i.toNat 0) (ep.getD i.toNat 0) (th.getD i.toNat 0) (nm.getD i.toNat 0) (oK.getD i.toNat 0) (oA.getD i.toNat 0) (oB.getD i.toNat 0) (rE.getD i.toNat 0) (rO.getD i.toNat 0) (rX.getD i.toNat 0) (aK.getD i.toNat 0) (pK.getD i.toNat 0) (pA.getD i.toNat 0) (pB.getD i.toNat 0) (sE.getD i.toNat 0) (sO.getD i.toNat 0) (sX.getD i.toNat 0) := by
  have h0 := H.h0
  have hlen : (kd.take i.toNat).length = i.toNat := by rw [List.length_take]; omega
  have hbz := busy H (th.getD i.toNat 0)
  have hab := H.past (th.getD i.toNat 0) (nm.getD i.toNat 0)
  have hat := H.at_ (th.getD i.toNat 0)
  have hen := H.en
  have hdn := H.dn
  have hkd := atF_kind kd th (th.getD i.toNat 0) i.toNat
  have hfit := fun h => fitR_num (H.fit (atF kd th (th.getD i.toNat 0) i.toNat).toNat h)
  have hbd := atF_bd kd th (th.getD i.toNat 0) i.toNat
  unfold fitR r33_fits r33_epoch r33_at r33_above
  rw [hlen, atF_take _ _ _ _ _ (Nat.le_refl _), crashF_take _ _ _ (Nat.le_refl _), upF_take _ _ _ (Nat.le_refl _), aboveF_take _ _ _ _ _ _ _ (Nat.le_refl _)]
  have hnm : 0 ≤ atF kd th (th.getD i.toNat 0) i.toNat → (nm.take i.toNat).getD (atF kd th (th.getD i.toNat 0) i.toNat).toNat 0 = nm.getD (atF kd th (th.getD i.toNat 0) i.toNat).toNat 0 := fun h => getD_take nm _ _ (by omega)
  rw [← hen]
  have hup : upF kd i.toNat = !d := by rw [hdn]; simp
  rw [hup]
  have hb := bare_eq (kd.getD i.toNat 0) (ep.getD i.toNat 0) (th.getD i.toNat 0) (nm.getD i.toNat 0) (oK.getD i.toNat 0) (oA.getD i.toNat 0) (oB.getD i.toNat 0) (rE.getD i.toNat 0) (rO.getD i.toNat 0) (rX.getD i.toNat 0) (aK.getD i.toNat 0) (pK.getD i.toNat 0) (pA.getD i.toNat 0) (pB.getD i.toNat 0) (sE.getD i.toNat 0) (sO.getD i.toNat 0) (sX.getD i.toNat 0)
  unfold fitB story_num
  generalize atF kd th (th.getD i.toNat 0) i.toNat = A at *
  generalize aboveF kd th nm (th.getD i.toNat 0) (nm.getD i.toNat 0) i.toNat = AB at *
  generalize (g (th.getD i.toNat 0)).getD 0 = G at *
  generalize (f (th.getD i.toNat 0)).getD 0 = F at *
  generalize (nm.take i.toNat) = NT at *
  generalize kd.getD i.toNat 0 = k at *
  generalize ep.getD i.toNat 0 = ep' at *
  generalize th.getD i.toNat 0 = th' at *
  generalize nm.getD i.toNat 0 = nm' at *
  generalize oK.getD i.toNat 0 = oK' at *
  generalize oA.getD i.toNat 0 = oA' at *
  generalize oB.getD i.toNat 0 = oB' at *
  generalize rE.getD i.toNat 0 = rE' at *
  generalize rO.getD i.toNat 0 = rO' at *
  generalize rX.getD i.toNat 0 = rX' at *
  generalize aK.getD i.toNat 0 = aK' at *
  generalize pK.getD i.toNat 0 = pK' at *
  generalize pA.getD i.toNat 0 = pA' at *
  generalize pB.getD i.toNat 0 = pB' at *
  generalize sE.getD i.toNat 0 = sE' at *
  generalize sO.getD i.toNat 0 = sO' at *
  generalize sX.getD i.toNat 0 = sX' at *
  by_cases hk : k = 1 ∨ k = 2 ∨ k = 3 ∨ k = 4 ∨ k = 5 ∨ k = 6
  · rw [hb hk]
    have hkk : (decide (k < 1) || decide (k > 6)) = false := by simp; omega
    rw [hkk]
    simp only [Bool.false_or]
    cases hB : bareN k ep' th' nm' oK' oA' oB' rE' rO' rX' aK' pK' pA' pB' sE' sO' sX'
    · simp
    · simp only [Bool.not_true, Bool.false_or, Bool.true_and]
      cases he : ep' != n
      · have he' : (ep' == n) = true := by simpa using he
        rw [he', Bool.true_and, cond_false]
        rcases hk with rfl | rfl | rfl | rfl | rfl | rfl
        · show (!d && _ && _ && AB && _) = (!d && _ && _ && _ && _)
          rw [hbz]
          cases hn : decide (nm' ≥ 1)
          · simp
          · rw [hab (by simpa using hn)]
        · show (!d && _ && _) = (!d && _ && _)
          by_cases hA : A < 0
          · have hF : F = 0 := by rw [hat]; simp [hA]
            have h1 : decide (A ≥ 0) = false := by simp; omega
            rw [hF, h1]
            by_cases hn : nm' = 0
            · subst hn; simp
            · have : ((0 : Int) == nm') = false := by rw [beq_eq_false_iff_ne]; exact fun h => hn h.symm
              rw [this]; simp
          · have hF : F = nm.getD A.toNat 0 := by rw [hat]; simp [hA]
            have h1 : decide (A ≥ 0) = true := by simp; omega
            have h2 : (if A > 0 then A else 0) = A := by split <;> omega
            have h3 := hfit (by omega) (hkd (by omega)).1
            rw [h2, h1, hnm (by omega), ← hF]
            rw [← hF] at h3
            by_cases hn : F = nm'
            · have : decide (0 < nm') = true := by simp; omega
              rw [this]
            · have : (F == nm') = false := by rw [beq_eq_false_iff_ne]; exact hn
              rw [this]; simp
        · show (!d && _ && _ && _ && _ && _) = (!d && _ && _ && _ && _ && _)
          rw [hbz]
        · rfl
        · cases d <;> rfl
        · show (!d && _ && _ && _ && _) = (!d && _ && _ && _ && _)
          rw [hbz]
      · have he' : (ep' == n) = false := by simpa using he
        rw [he', Bool.false_and, cond_true]
  · have hkk : (decide (k < 1) || decide (k > 6)) = true := by simp; omega
    rw [hkk, Bool.true_or, Bool.true_or, cond_true]
    have h1 : (k == 1) = false := by simp; omega
    have h2 : (k == 2) = false := by simp; omega
    have h3 : (k == 3) = false := by simp; omega
    have h4 : (k == 4) = false := by simp; omega
    have h5 : (k == 5) = false := by simp; omega
    have h6 : (k == 6) = false := by simp; omega
    simp only [h1, h2, h3, h4, h5, h6, cond_false, Bool.and_false]

theorem st_start {t p s : Int} {kd ep th nm oK oA oB rE rO rX aK pK pA pB sE sO sX : List Int} (h : r04_Right t p s = true) : StI t p s kd ep th nm oK oA oB rE rO rX aK pK pA pB sE sO sX 0 0 false mnil mnil where
  right := h
  h0 := by omega
  h1 := by omega
  fit := fun j hj => absurd hj (Nat.not_lt_zero j)
  en := rfl
  dn := rfl
  at_ := fun q => rfl
  past := fun q x hx => by
    show true = decide (0 < x)
    simp; omega
  lt := fun q h => by simp [atF] at h
section
variable {t p s : Int} {kd ep th nm oK oA oB rE rO rX aK pK pA pB sE sO sX : List Int} {i n : Int} {d : Bool} {f g : IMap}
theorem st_next (H : StI t p s kd ep th nm oK oA oB rE rO rX aK pK pA pB sE sO sX i n d f g) (hi : i < kd.length) (hf : fitR t p s kd ep th nm oK oA oB rE rO rX aK pK pA pB sE sO sX i.toNat = true) {n' : Int} {d' : Bool} {f' g' : IMap}
    (hn : n' = bif kd.getD i.toNat 0 == 4 then n + 1 else n) (hd : d' = bif kd.getD i.toNat 0 == 5 then false else bif kd.getD i.toNat 0 == 4 then true else d)
    (hA : ∀ q : Int, (f' q).getD 0 = bif kd.getD i.toNat 0 == 1 then (bif th.getD i.toNat 0 == q then nm.getD i.toNat 0 else (f q).getD 0) else bif kd.getD i.toNat 0 == 2 then (bif th.getD i.toNat 0 == q then 0 else (f q).getD 0) else bif kd.getD i.toNat 0 == 4 then 0 else (f q).getD 0)
    (hG : ∀ q : Int, (g' q).getD 0 = bif kd.getD i.toNat 0 == 2 && th.getD i.toNat 0 == q then nm.getD i.toNat 0 else (g q).getD 0) : StI t p s kd ep th nm oK oA oB rE rO rX aK pK pA pB sE sO sX (i + 1) n' d' f' g' := by
  have h0 := H.h0
  have e : (i + 1).toNat = i.toNat + 1 := by omega
  have hfb := fit_eq H hi
  rw [hf] at hfb
  have hfb := hfb.symm
  unfold fitB at hfb
  have hq : ∀ q, atF kd th q (i.toNat + 1) = (bif kd.getD i.toNat 0 == 1 then (bif th.getD i.toNat 0 == q then (i.toNat : Int) else atF kd th q i.toNat) else bif kd.getD i.toNat 0 == 2 then (bif th.getD i.toNat 0 == q then -1 else atF kd th q i.toNat) else bif kd.getD i.toNat 0 == 4 then -1 else atF kd th q i.toNat) := fun q => rfl
  refine ⟨H.right, by omega, by omega, lt_step h0 H.fit hf, ?_, ?_, fun q => ?_, fun q x hx => ?_, fun q => ?_⟩
  · rw [hn, e, H.en]; rfl
  · rw [hd, e, H.dn]; simp only [upF]; cases kd.getD i.toNat 0 == 5 <;> cases kd.getD i.toNat 0 == 4 <;> rfl
  · rw [hA q, e, hq q]
    have h1 := H.at_ q
    have hneg : decide (((i.toNat : Int)) < 0) = false := by simp; omega
    cases kd.getD i.toNat 0 == 1
    · cases kd.getD i.toNat 0 == 2
      · cases kd.getD i.toNat 0 == 4
        · exact h1
        · rfl
      · cases th.getD i.toNat 0 == q
        · exact h1
        · rfl
    · cases th.getD i.toNat 0 == q
      · exact h1
      · simp only [cond_true, hneg, cond_false, Int.toNat_natCast]
  · rw [hG q, e]
    simp only [aboveF]
    rw [H.past q x hx]
    cases hk : kd.getD i.toNat 0 == 2
    · simp
    · cases ht : th.getD i.toNat 0 == q
      · simp
      · simp only [Bool.true_and, cond_true]
        have hk' : kd.getD i.toNat 0 = 2 := by simpa using hk
        have ht' : th.getD i.toNat 0 = q := by simpa using ht
        rw [hk'] at hfb
        have h2 : (f q).getD 0 = nm.getD i.toNat 0 ∧ 0 < nm.getD i.toNat 0 := by
          have : (!d && decide (0 < nm.getD i.toNat 0) && (f (th.getD i.toNat 0)).getD 0 == nm.getD i.toNat 0) = true := (Bool.and_eq_true _ _ ▸ hfb).2
          simp only [Bool.and_eq_true, decide_eq_true_eq, beq_iff_eq] at this
          rw [← ht']; exact ⟨this.2, this.1.2⟩
        have h3 := H.at_ q
        have hb := atF_bd kd th q i.toNat
        have h4 : 0 ≤ atF kd th q i.toNat := by
          rcases Int.lt_or_le (atF kd th q i.toNat) 0 with hlt | hle
          · simp only [hlt, decide_true, cond_true] at h3; omega
          · exact hle
        have h5 := H.lt q h4
        have h6 : decide (atF kd th q i.toNat < 0) = false := by simp; omega
        rw [h6, cond_false] at h3
        by_cases hx2 : nm.getD i.toNat 0 ≥ x
        · have h7 : decide (nm.getD i.toNat 0 ≥ x) = true := by simpa using hx2
          have h8 : decide (nm.getD i.toNat 0 < x) = false := decide_eq_false (by omega)
          rw [h7, h8]; rfl
        · have h7 : decide (nm.getD i.toNat 0 ≥ x) = false := by simpa using hx2
          have h8 : decide (nm.getD i.toNat 0 < x) = true := decide_eq_true (by omega)
          have h9 : decide ((g q).getD 0 < x) = true := decide_eq_true (by omega)
          rw [h7, h8, h9]; rfl
  · rw [e, hq q, hG q]
    have h1 := H.lt q
    cases hk : kd.getD i.toNat 0 == 1
    · cases hk2 : kd.getD i.toNat 0 == 2
      · cases kd.getD i.toNat 0 == 4
        · simpa using h1
        · simp
      · cases ht : th.getD i.toNat 0 == q
        · simpa using h1
        · simp
    · have hk' : kd.getD i.toNat 0 = 1 := by simpa using hk
      have hk2 : (kd.getD i.toNat 0 == 2) = false := by rw [hk']; rfl
      rw [hk2]
      cases ht : th.getD i.toNat 0 == q
      · simpa using h1
      · intro _
        have ht' : th.getD i.toNat 0 = q := by simpa using ht
        rw [hk'] at hfb
        have : (!d && (decide (0 ≤ th.getD i.toNat 0) && decide (th.getD i.toNat 0 < t) && (f (th.getD i.toNat 0)).getD 0 == 0) && story_num (nm.getD i.toNat 0) && decide ((g (th.getD i.toNat 0)).getD 0 < nm.getD i.toNat 0) && r22_Right (oK.getD i.toNat 0) (oA.getD i.toNat 0) (oB.getD i.toNat 0)) = true := (Bool.and_eq_true _ _ ▸ hfb).2
        simp only [Bool.and_eq_true, decide_eq_true_eq] at this
        rw [ht'] at this
        simp only [cond_true, Int.toNat_natCast]
        exact this.1.2
end

theorem op_Right_eq (k a b : Int) : op_Right k a b = r22_Right k a b := by
  by_cases hk : k = 1 ∨ k = 2 ∨ k = 3 ∨ k = 4 ∨ k = 5 ∨ k = 6 ∨ k = 7 ∨ k = 8 ∨ k = 9
  · rcases hk with rfl | rfl | rfl | rfl | rfl | rfl | rfl | rfl | rfl <;> simp [op_Right, r22_Right, r22_uses] <;> (cases h : a == 0 <;> simp [bne, h])
  · have h1 : (k == 1) = false := by simp; omega
    have h2 : (k == 2) = false := by simp; omega
    have h3 : (k == 3) = false := by simp; omega
    have h4 : (k == 4) = false := by simp; omega
    have h5 : (k == 5) = false := by simp; omega
    have h6 : (k == 6) = false := by simp; omega
    have h7 : (k == 7) = false := by simp; omega
    have h8 : (k == 8) = false := by simp; omega
    have h9 : (k == 9) = false := by simp; omega
    simp [op_Right, r22_Right, r22_uses, h1, h2, h3, h4, h5, h6, h7, h8, h9]
theorem named_eq (kd ep th nm oK oA oB rE rO rX aK pK pA pB sE sO sX : Int) : (kd == (story_named kd ep th nm oK oA oB rE rO rX aK pK pA pB sE sO sX).1 && (ep == (story_named kd ep th nm oK oA oB rE rO rX aK pK pA pB sE sO sX).2.1 && (th == (story_named kd ep th nm oK oA oB rE rO rX aK pK pA pB sE sO sX).2.2.1 && (nm == (story_named kd ep th nm oK oA oB rE rO rX aK pK pA pB sE sO sX).2.2.2.1 && (oK == (story_named kd ep th nm oK oA oB rE rO rX aK pK pA pB sE sO sX).2.2.2.2.1 && (oA == (story_named kd ep th nm oK oA oB rE rO rX aK pK pA pB sE sO sX).2.2.2.2.2.1 && (oB == (story_named kd ep th nm oK oA oB rE rO rX aK pK pA pB sE sO sX).2.2.2.2.2.2.1 && true)) && (rE == (story_named kd ep th nm oK oA oB rE rO rX aK pK pA pB sE sO sX).2.2.2.2.2.2.2.1 && (rO == (story_named kd ep th nm oK oA oB rE rO rX aK pK pA pB sE sO sX).2.2.2.2.2.2.2.2.1 && (rX == (story_named kd ep th nm oK oA oB rE rO rX aK pK pA pB sE sO sX).2.2.2.2.2.2.2.2.2.1 && true)) && (aK == (story_named kd ep th nm oK oA oB rE rO rX aK pK pA pB sE sO sX).2.2.2.2.2.2.2.2.2.2.1 && (pK == (story_named kd ep th nm oK oA oB rE rO rX aK pK pA pB sE sO sX).2.2.2.2.2.2.2.2.2.2.2.1 && (pA == (story_named kd ep th nm oK oA oB rE rO rX aK pK pA pB sE sO sX).2.2.2.2.2.2.2.2.2.2.2.2.1 && (pB == (story_named kd ep th nm oK oA oB rE rO rX aK pK pA pB sE sO sX).2.2.2.2.2.2.2.2.2.2.2.2.2.1 && true)) && (sE == (story_named kd ep th nm oK oA oB rE rO rX aK pK pA pB sE sO sX).2.2.2.2.2.2.2.2.2.2.2.2.2.2.1 && (sO == (story_named kd ep th nm oK oA oB rE rO rX aK pK pA pB sE sO sX).2.2.2.2.2.2.2.2.2.2.2.2.2.2.2.1 && (sX == (story_named kd ep th nm oK oA oB rE rO rX aK pK pA pB sE sO sX).2.2.2.2.2.2.2.2.2.2.2.2.2.2.2.2 && true)) && true)) && true))))))) = bareN kd ep th nm oK oA oB rE rO rX aK pK pA pB sE sO sX := by
  rw [Bool.eq_iff_iff]
  by_cases h1 : kd = 1
  · subst h1; simp [story_named, bareN, and_assoc]
  · have e1 : (kd == 1) = false := by simpa using h1
    by_cases h2 : kd = 2
    · subst h2; simp [story_named, bareN, and_assoc]
    · have e2 : (kd == 2) = false := by simpa using h2
      by_cases h3 : kd = 3
      · subst h3; simp [story_named, bareN, and_assoc]
      · have e3 : (kd == 3) = false := by simpa using h3
        by_cases h6 : kd = 6
        · subst h6; simp [story_named, bareN, and_assoc]
        · have e6 : (kd == 6) = false := by simpa using h6
          simp [story_named, bareN, e1, e2, e3, e6, and_assoc]
end Go.Proofs.Ytonfbgombglngaa
