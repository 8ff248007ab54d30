/-
  DERIVED. Of a story that fits: the order of its calls. No program is walked.
-/
import Derived.Test.YtonfbgombglngaaSlStory6
namespace Go.Proofs.Ytonfbgombglngaa
open Go.Sl

theorem crashF_mono (kd : List Int) : ∀ {a b : Nat}, a ≤ b → crashF kd a ≤ crashF kd b
  | a, 0, h => by have : a = 0 := by omega
                  subst this; exact Int.le_refl _
  | a, b + 1, h => by
    by_cases e : a = b + 1
    · subst e; exact Int.le_refl _
    · have := crashF_mono kd (a := a) (b := b) (by omega)
      simp only [crashF]
      cases kd.getD b 0 == 4 <;> simp only [cond_true, cond_false] <;> omega
theorem stF_gt {kd th : List Int} {q : Nat} : ∀ {n : Nat} {v : Int}, stF kd th q n = some v → v = -1 ∨ (q : Int) < v
  | 0, _, h => by simp [stF] at h
  | n + 1, v, h => by
    simp only [stF] at h
    cases hs : stF kd th q n with
    | some u => rw [hs] at h; injection h with h; subst h; exact stF_gt hs
    | none =>
      rw [hs] at h
      simp only at h
      cases h1 : decide (n ≤ q) with
      | true => rw [h1] at h; cases h
      | false =>
        simp only [decide_eq_false_iff_not] at h1
        have h1' : decide (n ≤ q) = false := decide_eq_false h1
        rw [h1'] at h
        simp only [cond_false] at h
        cases h2 : (kd.getD n 0 == 4 || kd.getD n 0 == 1 && th.getD n 0 == th.getD q 0) with
        | true => rw [h2] at h; injection h with h; omega
        | false =>
          rw [h2] at h
          simp only [cond_false] at h
          cases h3 : (kd.getD n 0 == 2 && th.getD n 0 == th.getD q 0) with
          | true => rw [h3] at h; injection h with h; omega
          | false => rw [h3] at h; cases h
theorem endF_gt (kd th : List Int) (q : Nat) : endF kd th q = -1 ∨ (q : Int) < endF kd th q := by
  unfold endF
  cases h : stF kd th q kd.length with
  | none => exact .inl rfl
  | some v => exact stF_gt h
section
variable {t p s : Int} {kd ep th nm oK oA oB rE rO rX aK pK pA pB sE sO sX : List Int}
/-- What is known of events that all fit. -/
structure Fits (kd ep th : List Int) : Prop where
  ep : ∀ j : Nat, j < kd.length → ep.getD j 0 = crashF kd j
  idle : ∀ j : Nat, j < kd.length → kd.getD j 0 = 1 → atF kd th (th.getD j 0) j < 0
theorem fits_of (h : (story_Check t p s kd ep th nm oK oA oB rE rO rX aK pK pA pB sE sO sX).2 = true) : Fits kd ep th := by
  unfold story_Check r33_Check at h
  cases hr : r04_Right t p s with
  | false => rw [hr] at h; cases h
  | true =>
    rw [hr, cond_true] at h
    have hall : ∀ j : Nat, j < kd.length → fitR t p s kd ep th nm oK oA oB rE rO rX aK pK pA pB sE sO sX j = true := by
      unfold ckF at h
      split at h
      · cases h
      · rename_i hn
        exact fun j hj => by simpa using firstP_none.1 hn j hj
    have key : ∀ j : Nat, j < kd.length → ep.getD j 0 = crashF kd j ∧ (kd.getD j 0 = 1 → atF kd th (th.getD j 0) j < 0) := fun j hj => by
      have hf := hall j hj
      have hlen : (kd.take j).length = j := by rw [List.length_take]; omega
      unfold fitR r33_fits r33_epoch r33_at r33_above at hf
      rw [hlen, atF_take _ _ _ _ _ (Nat.le_refl _), crashF_take _ _ _ (Nat.le_refl _), upF_take _ _ _ (Nat.le_refl _), aboveF_take _ _ _ _ _ _ _ (Nat.le_refl _)] at hf
      cases he : ep.getD j 0 != crashF kd j with
      | true => rw [he, Bool.or_true, cond_true] at hf; cases hf
      | false =>
        refine ⟨by simpa using he, fun hk => ?_⟩
        rw [he, hk] at hf
        cases hb : (decide ((1 : Int) < 1) || decide ((1 : Int) > 6) || !r33_bare 1 (ep.getD j 0) (th.getD j 0) (nm.getD j 0) (oK.getD j 0) (oA.getD j 0) (oB.getD j 0) (rE.getD j 0) (rO.getD j 0) (rX.getD j 0) (aK.getD j 0) (pK.getD j 0) (pA.getD j 0) (pB.getD j 0) (sE.getD j 0) (sO.getD j 0) (sX.getD j 0) || false) with
        | true => rw [hb, cond_true] at hf; cases hf
        | false =>
          rw [hb] at hf
          simp only [cond_false, beq_self_eq_true, cond_true, Bool.and_eq_true, decide_eq_true_eq] at hf
          omega
    exact ⟨fun j hj => (key j hj).1, fun j hj => (key j hj).2⟩
/-- A call is not cut off ahead of a crash. -/
theorem noCut (H : Fits kd ep th) {a : Nat} (hk : kd.getD a 0 = 1) : ∀ n : Nat, a < n → n ≤ kd.length → crashF kd n = crashF kd a → stF kd th a n ≠ some (-1)
  | 0, h, _, _ => absurd h (Nat.not_lt_zero _)
  | n + 1, ha, hn, hc => by
    by_cases e : n = a
    · subst e
      rw [stF_early (n + 1) (by omega)]; simp
    · have hm := crashF_mono kd (a := n) (b := n + 1) (by omega)
      have hm2 := crashF_mono kd (a := a) (b := n) (by omega)
      have ih := noCut H hk n (by omega) (by omega) (by omega)
      have h4 : (kd.getD n 0 == 4) = false := by
        cases h : kd.getD n 0 == 4 with
        | false => rfl
        | true => simp only [crashF, h, cond_true] at hc; omega
      simp only [stF]
      cases hs : stF kd th a n with
      | some v => rw [hs] at ih; exact ih
      | none =>
        have hd : decide (n ≤ a) = false := decide_eq_false (by omega)
        have hat := (open_iff kd th n a (by omega) hk).1 hs
        simp only [hd, cond_false, h4, Bool.false_or]
        cases h1 : (kd.getD n 0 == 1 && th.getD n 0 == th.getD a 0) with
        | true =>
          simp only [Bool.and_eq_true, beq_iff_eq] at h1
          have := H.idle n (by omega) h1.1
          rw [h1.2, hat] at this
          omega
        | false =>
          simp only [cond_false]
          cases h2 : (kd.getD n 0 == 2 && th.getD n 0 == th.getD a 0) with
          | true => first | (simp; done) | (simp; omega)
          | false => simp
/-- Is the call that begins at a over ahead of the one that begins at b? -/
def bef (kd ep th : List Int) (a b : Nat) : Bool := decide (0 ≤ endF kd th a) && decide (endF kd th a < (b : Int)) || decide (ep.getD a 0 < ep.getD b 0)
theorem bef_self (a : Nat) : bef kd ep th a a = false := by
  have := endF_gt kd th a
  unfold bef
  rw [Bool.eq_false_iff]
  simp only [ne_eq, Bool.or_eq_true, Bool.and_eq_true, decide_eq_true_eq]
  omega
theorem bef_trans (H : Fits kd ep th) {a b c : Nat} (ha : a < kd.length) (hb : b < kd.length) (hc : c < kd.length) (h1 : bef kd ep th a b = true) (h2 : bef kd ep th b c = true) : bef kd ep th a c = true := by
  have ga := endF_gt kd th a
  have gb := endF_gt kd th b
  have ea := H.ep a ha
  have eb := H.ep b hb
  have ec := H.ep c hc
  unfold bef at h1 h2 ⊢
  simp only [Bool.or_eq_true, Bool.and_eq_true, decide_eq_true_eq] at h1 h2 ⊢
  rcases h1 with h1 | h1 <;> rcases h2 with h2 | h2
  · omega
  · have := crashF_mono kd (a := a) (b := b) (by omega)
    omega
  · have := crashF_mono kd (a := b) (b := c) (by omega)
    omega
  · omega
theorem bef_same (H : Fits kd ep th) {a b : Nat} (hab : a < b) (hb : b < kd.length) (ka : kd.getD a 0 = 1) (kb : kd.getD b 0 = 1) (ht : th.getD a 0 = th.getD b 0) : bef kd ep th a b = true ∧ bef kd ep th b a = false := by
  have ga := endF_gt kd th a
  have gb := endF_gt kd th b
  have ea := H.ep a (by omega)
  have eb := H.ep b hb
  have hm := crashF_mono kd (a := a) (b := b) (by omega)
  constructor
  · unfold bef
    simp only [Bool.or_eq_true, Bool.and_eq_true, decide_eq_true_eq]
    by_cases he : crashF kd b = crashF kd a
    · left
      have hi := H.idle b hb kb
      cases hs : stF kd th a b with
      | none =>
        have := (open_iff kd th b a hab ka).1 hs
        rw [ht] at this
        omega
      | some v =>
        have hn := noCut H ka b hab (by omega) he
        have hl := stF_lt hs
        have hg := stF_gt hs
        have : endF kd th a = v := by unfold endF; rw [stF_some hs _ (by omega)]; rfl
        rw [this]
        rw [hs] at hn
        have : v ≠ -1 := fun e => hn (by rw [e])
        omega
    · right; omega
  · unfold bef
    rw [Bool.eq_false_iff]
    simp only [ne_eq, Bool.or_eq_true, Bool.and_eq_true, decide_eq_true_eq]
    omega
end

theorem getD_map {l : List Nat} (F : Nat → Int) {a : Nat} (h : a < l.length) : (l.map F).getD a 0 = F (l.getD a 0) := by
  rw [List.getD_eq_getElem?_getD, List.getD_eq_getElem?_getD, List.getElem?_map, List.getElem?_eq_getElem h]; rfl
theorem idx_lt {kd : List Int} {N a b : Nat} (hab : a < b) (hb : b < (idxF kd N).length) : (idxF kd N).getD a 0 < (idxF kd N).getD b 0 := by
  have hp : (idxF kd N).Pairwise (· < ·) := List.Pairwise.filter _ List.pairwise_lt_range
  have := List.pairwise_iff_getElem.1 hp a b (by omega) hb hab
  rw [List.getD_eq_getElem?_getD, List.getD_eq_getElem?_getD, List.getElem?_eq_getElem hb, List.getElem?_eq_getElem (by omega : a < (idxF kd N).length)]
  exact this
theorem idx_in {kd : List Int} {N a : Nat} (ha : a < (idxF kd N).length) : (idxF kd N).getD a 0 < N ∧ kd.getD ((idxF kd N).getD a 0) 0 = 1 := by
  have hm : (idxF kd N).getD a 0 ∈ idxF kd N := by
    rw [List.getD_eq_getElem?_getD, List.getElem?_eq_getElem ha]; exact List.getElem_mem ha
  obtain ⟨h1, h2⟩ := idxF_mem.1 hm
  exact ⟨h1, by simpa using h2⟩
section
variable {kd th nm ep oK oA oB rE rO rX c0 c1 c2 c3 c4 c5 c6 c7 c8 c9 c10 : List Int} (h : (c0, c1, c2, c3, c4, c5, c6, c7, c8, c9, c10) = callsF kd th nm ep oK oA oB rE rO rX (endF kd th) kd.length)
include h
theorem cols_len : c0.length = (idxF kd kd.length).length := by
  simp only [callsF, Prod.mk.injEq] at h
  rw [h.1, List.length_map]
theorem cols_at {a : Nat} (ha : a < (idxF kd kd.length).length) : c0.getD a 0 = th.getD ((idxF kd kd.length).getD a 0) 0 ∧ c2.getD a 0 = ep.getD ((idxF kd kd.length).getD a 0) 0 ∧ c6.getD a 0 = ((idxF kd kd.length).getD a 0 : Int) ∧ c7.getD a 0 = endF kd th ((idxF kd kd.length).getD a 0) := by
  simp only [callsF, Prod.mk.injEq] at h
  obtain ⟨h0, h1, h2, h3, h4, h5, h6, h7, h8⟩ := h
  rw [h0, h2, h6, h7]
  exact ⟨getD_map _ ha, getD_map _ ha, getD_map (fun j : Nat => (j : Int)) ha, getD_map _ ha⟩
theorem bef_at {a b : Nat} (ha : a < (idxF kd kd.length).length) (hb : b < (idxF kd kd.length).length) : story_Before (c0.getD a 0) (c1.getD a 0) (c2.getD a 0) (c3.getD a 0) (c4.getD a 0) (c5.getD a 0) (c6.getD a 0) (c7.getD a 0) (c8.getD a 0) (c9.getD a 0) (c10.getD a 0) (c0.getD b 0) (c1.getD b 0) (c2.getD b 0) (c3.getD b 0) (c4.getD b 0) (c5.getD b 0) (c6.getD b 0) (c7.getD b 0) (c8.getD b 0) (c9.getD b 0) (c10.getD b 0) = bef kd ep th ((idxF kd kd.length).getD a 0) ((idxF kd kd.length).getD b 0) := by
  obtain ⟨_, a2, _, a4⟩ := cols_at h ha
  obtain ⟨_, b2, b3, _⟩ := cols_at h hb
  unfold story_Before bef
  rw [a2, a4, b2, b3]
end
end Go.Proofs.Ytonfbgombglngaa
