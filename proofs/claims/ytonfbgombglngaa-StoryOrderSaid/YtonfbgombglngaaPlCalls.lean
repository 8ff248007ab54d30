/-
  DERIVED. Which operations events tell of. No program is walked.
-/
import Derived.Test.YtonfbgombglngaaSlStory4
namespace Go.Proofs.Ytonfbgombglngaa
open Go.Sl

def idxF (kd : List Int) (n : Nat) : List Nat := (List.range n).filter fun i => kd.getD i 0 == 1
def resF (xs : List Int) (v : Int) : Int := bif decide (v ≥ 0) then xs.getD v.toNat 0 else 0
abbrev C11 := List Int × List Int × List Int × List Int × List Int × List Int × List Int × List Int × List Int × List Int × List Int
/-- The calls that begin at the first n events, of which it is known where each ends. -/
def callsF (kd th nm ep oK oA oB rE rO rX : List Int) (to : Nat → Int) (n : Nat) : C11 :=
  ((idxF kd n).map (th.getD · 0), (idxF kd n).map (nm.getD · 0), (idxF kd n).map (ep.getD · 0), (idxF kd n).map (oK.getD · 0), (idxF kd n).map (oA.getD · 0), (idxF kd n).map (oB.getD · 0),
   (idxF kd n).map (fun j : Nat => (j : Int)), (idxF kd n).map to, (idxF kd n).map (fun j => resF rE (to j)), (idxF kd n).map (fun j => resF rO (to j)), (idxF kd n).map (fun j => resF rX (to j)))
theorem idxF_succ (kd : List Int) (n : Nat) : idxF kd (n + 1) = idxF kd n ++ bif kd.getD n 0 == 1 then [n] else [] := by
  unfold idxF
  rw [List.range_succ, List.filter_append]
  cases h : kd.getD n 0 == 1 <;> simp only [List.filter_cons, h, List.filter_nil] <;> rfl
theorem idxF_mem {kd : List Int} {n j : Nat} : j ∈ idxF kd n ↔ j < n ∧ (kd.getD j 0 == 1) = true := by
  unfold idxF
  rw [List.mem_filter, List.mem_range]
theorem idxF_get {kd : List Int} : ∀ {n j : Nat}, j < n → (kd.getD j 0 == 1) = true → (idxF kd n)[(idxF kd j).length]? = some j
  | 0, _, h, _ => absurd h (Nat.not_lt_zero _)
  | n + 1, j, h, hk => by
    rw [idxF_succ]
    by_cases e : j = n
    · subst e
      rw [hk, cond_true, List.getElem?_concat_length]
    · have ih := idxF_get (n := n) (j := j) (by omega) hk
      rw [List.getElem?_append_left]
      · exact ih
      · exact (List.getElem?_eq_some_iff.1 ih).1
theorem idxF_nodup (kd : List Int) (n : Nat) : (idxF kd n).Nodup := (List.filter_sublist).nodup List.nodup_range
/-- One of a list's parts is put anew. -/
theorem map_set {l : List Nat} {k j : Nat} {F F' : Nat → Int} {v : Int} (hn : l.Nodup) (hk : l[k]? = some j) (hv : F' j = v) (ho : ∀ i ∈ l, i ≠ j → F' i = F i) : (l.map F).set k v = l.map F' := by
  apply List.ext_getElem?
  intro m
  rw [List.getElem?_set, List.getElem?_map, List.getElem?_map]
  have hkl : k < l.length := (List.getElem?_eq_some_iff.1 hk).1
  by_cases h : k = m
  · subst h
    obtain ⟨h1, h2⟩ := List.getElem?_eq_some_iff.1 hk
    simp [hkl, h2, hv]
  · rw [if_neg h]
    cases hm : l[m]? with
    | none => rfl
    | some i =>
      simp only [Option.map_some, Option.some.injEq]
      refine (ho i (List.mem_of_getElem? hm) fun e => h ?_).symm
      subst e
      exact ((List.getElem?_inj hkl hn).1 (hk.trans hm.symm))
theorem map_same {l : List Nat} {F F' : Nat → Int} (h : ∀ i ∈ l, F i = F' i) : l.map F = l.map F' := List.map_congr_left h
/-- A call is open just if its thread is at it. -/
theorem open_iff (kd th : List Int) : ∀ (n j : Nat), j < n → kd.getD j 0 = 1 → (stF kd th j n = none ↔ atF kd th (th.getD j 0) n = j)
  | 0, _, h, _ => absurd h (Nat.not_lt_zero _)
  | n + 1, j, h, hk => by
    have hb := atF_bd kd th (th.getD j 0) n
    by_cases e : j = n
    · subst e
      rw [stF_early (j + 1) (by omega)]
      simp only [atF, hk, beq_self_eq_true, cond_true]
    · have ih := open_iff kd th n j (by omega) hk
      have hd : decide (n ≤ j) = false := by simp; omega
      simp only [stF, atF, hd, cond_false]
      cases hs : stF kd th j n with
      | some v =>
        rw [hs] at ih
        have hne : atF kd th (th.getD j 0) n ≠ j := fun h => by have := ih.2 h; cases this
        simp only [reduceCtorEq, false_iff]
        cases kd.getD n 0 == 1 <;> cases kd.getD n 0 == 2 <;> cases kd.getD n 0 == 4 <;> cases th.getD n 0 == th.getD j 0 <;> simp only [cond_true, cond_false] <;> first | exact hne | omega
      | none =>
        have hat := ih.1 hs
        simp only
        cases h1 : kd.getD n 0 == 1
        · cases h2 : kd.getD n 0 == 2
          · cases h4 : kd.getD n 0 == 4
            · simp only [cond_true, cond_false, Bool.or_false, Bool.false_or, Bool.false_and, Bool.and_false, Bool.true_and]; exact iff_of_true trivial hat
            · first | (simp; done) | (simp; omega)
          · have h4 : (kd.getD n 0 == 4) = false := by
              have : kd.getD n 0 = 2 := by simpa using h2
              rw [this]; rfl
            rw [h4]
            cases ht : th.getD n 0 == th.getD j 0
            · simp only [cond_true, cond_false, Bool.or_false, Bool.false_or, Bool.false_and, Bool.and_false, Bool.true_and]; exact iff_of_true trivial hat
            · first | (simp; done) | (simp; omega)
        · have h4 : (kd.getD n 0 == 4) = false := by
            have : kd.getD n 0 = 1 := by simpa using h1
            rw [this]; rfl
          have h2 : (kd.getD n 0 == 2) = false := by
            have : kd.getD n 0 = 1 := by simpa using h1
            rw [this]; rfl
          rw [h4, h2]
          cases ht : th.getD n 0 == th.getD j 0
          · simp only [cond_true, cond_false, Bool.or_false, Bool.false_or, Bool.false_and, Bool.and_false, Bool.true_and]; exact iff_of_true trivial hat
          · first | (simp; done) | (simp; omega)
theorem stF_lt {kd th : List Int} {q : Nat} : ∀ {n : Nat} {v : Int}, stF kd th q n = some v → -1 ≤ v ∧ v < n
  | 0, _, h => by simp [stF] at h
  | n + 1, v, h => by
    simp only [stF] at h
    cases hs : stF kd th q n with
    | some u => rw [hs] at h; injection h with h; subst h; have := stF_lt hs; omega
    | none =>
      rw [hs] at h
      simp only at h
      cases h1 : decide (n ≤ q) with
      | true => rw [h1] at h; cases h
      | false =>
        rw [h1] at h
        simp only [cond_false] at h
        cases h2 : (kd.getD n 0 == 4 || kd.getD n 0 == 1 && th.getD n 0 == th.getD q 0) with
        | true => rw [h2] at h; injection h with h; omega
        | false =>
          rw [h2] at h
          simp only [cond_false] at h
          cases h3 : (kd.getD n 0 == 2 && th.getD n 0 == th.getD q 0) with
          | true => rw [h3] at h; injection h with h; omega
          | false => rw [h3] at h; cases h
theorem endF_bd (kd th : List Int) (q : Nat) : -1 ≤ endF kd th q ∧ endF kd th q < kd.length := by
  unfold endF
  cases h : stF kd th q kd.length with
  | none => simp; omega
  | some v => have := stF_lt h; simpa using this

section
variable {kd th nm ep oK oA oB rE rO rX : List Int} {to : Nat → Int} {n : Nat}
theorem callsF_skip (h : (kd.getD n 0 == 1) = false) : callsF kd th nm ep oK oA oB rE rO rX to (n + 1) = callsF kd th nm ep oK oA oB rE rO rX to n := by
  simp only [callsF, idxF_succ, h, cond_false, List.append_nil]
theorem callsF_add (h : (kd.getD n 0 == 1) = true) : callsF kd th nm ep oK oA oB rE rO rX to (n + 1) =
    ((idxF kd n).map (th.getD · 0) ++ [th.getD n 0], (idxF kd n).map (nm.getD · 0) ++ [nm.getD n 0], (idxF kd n).map (ep.getD · 0) ++ [ep.getD n 0], (idxF kd n).map (oK.getD · 0) ++ [oK.getD n 0], (idxF kd n).map (oA.getD · 0) ++ [oA.getD n 0], (idxF kd n).map (oB.getD · 0) ++ [oB.getD n 0],
     (idxF kd n).map (fun j : Nat => (j : Int)) ++ [(n : Int)], (idxF kd n).map to ++ [to n], (idxF kd n).map (fun j => resF rE (to j)) ++ [resF rE (to n)], (idxF kd n).map (fun j => resF rO (to j)) ++ [resF rO (to n)], (idxF kd n).map (fun j => resF rX (to j)) ++ [resF rX (to n)]) := by
  simp only [callsF, idxF_succ, h, cond_true, List.map_append, List.map_cons, List.map_nil]
theorem callsF_to {to' : Nat → Int} (h : ∀ j ∈ idxF kd n, to j = to' j) : callsF kd th nm ep oK oA oB rE rO rX to n = callsF kd th nm ep oK oA oB rE rO rX to' n := by
  simp only [callsF]
  rw [map_same h, map_same (F := fun j => resF rE (to j)) (F' := fun j => resF rE (to' j)) fun j hj => by rw [h j hj], map_same (F := fun j => resF rO (to j)) (F' := fun j => resF rO (to' j)) fun j hj => by rw [h j hj], map_same (F := fun j => resF rX (to j)) (F' := fun j => resF rX (to' j)) fun j hj => by rw [h j hj]]
end
/-- Where it ends, as far as it is known behind n events. -/
def toS (kd th : List Int) (n : Nat) (j : Nat) : Int := (stF kd th j n).getD (-1)
section
variable {kd th : List Int} {n : Nat}
theorem toS_keep {j : Nat} (h : ¬ (stF kd th j n = none ∧ kd.getD n 0 = 2 ∧ th.getD n 0 = th.getD j 0)) : toS kd th (n + 1) j = toS kd th n j := by
  unfold toS
  simp only [stF]
  cases hs : stF kd th j n with
  | some v => rfl
  | none =>
    simp only
    cases decide (n ≤ j) with
    | true => rfl
    | false =>
      simp only [cond_false]
      cases h2 : (kd.getD n 0 == 4 || kd.getD n 0 == 1 && th.getD n 0 == th.getD j 0) with
      | true => rfl
      | false =>
        simp only [cond_false]
        cases h3 : (kd.getD n 0 == 2 && th.getD n 0 == th.getD j 0) with
        | false => rfl
        | true =>
          simp only [Bool.and_eq_true, beq_iff_eq] at h3
          exact absurd ⟨hs, h3.1, h3.2⟩ h
theorem toS_ret {j : Nat} (hs : stF kd th j n = none) (hj : j < n) (h2 : kd.getD n 0 = 2) (ht : th.getD n 0 = th.getD j 0) : toS kd th (n + 1) j = n := by
  unfold toS
  have hd : decide (n ≤ j) = false := by simp; omega
  simp only [stF, hs, hd, cond_false, h2, ht, beq_self_eq_true, Bool.and_true]
  rfl
theorem toS_new : toS kd th (n + 1) n = -1 := by
  unfold toS
  rw [stF_early (n + 1) (by omega)]; rfl
end
section
variable {kd th nm ep oK oA oB rE rO rX : List Int} {n : Nat}
theorem callsS_skip (h1 : (kd.getD n 0 == 1) = false) (h2 : (kd.getD n 0 == 2) = false ∨ atF kd th (th.getD n 0) n < 0) : callsF kd th nm ep oK oA oB rE rO rX (toS kd th (n + 1)) (n + 1) = callsF kd th nm ep oK oA oB rE rO rX (toS kd th n) n := by
  rw [callsF_skip h1]
  refine callsF_to fun j hj => toS_keep fun hc => ?_
  obtain ⟨hj1, hj2⟩ := idxF_mem.1 hj
  rcases h2 with h2 | h2
  · rw [hc.2.1] at h2; cases h2
  · have := (open_iff kd th n j hj1 (by simpa using hj2)).1 hc.1
    rw [hc.2.2] at h2
    omega
theorem callsS_add (h : (kd.getD n 0 == 1) = true) : callsF kd th nm ep oK oA oB rE rO rX (toS kd th (n + 1)) (n + 1) =
    ((callsF kd th nm ep oK oA oB rE rO rX (toS kd th n) n).1 ++ [th.getD n 0], (callsF kd th nm ep oK oA oB rE rO rX (toS kd th n) n).2.1 ++ [nm.getD n 0], (callsF kd th nm ep oK oA oB rE rO rX (toS kd th n) n).2.2.1 ++ [ep.getD n 0], (callsF kd th nm ep oK oA oB rE rO rX (toS kd th n) n).2.2.2.1 ++ [oK.getD n 0], (callsF kd th nm ep oK oA oB rE rO rX (toS kd th n) n).2.2.2.2.1 ++ [oA.getD n 0], (callsF kd th nm ep oK oA oB rE rO rX (toS kd th n) n).2.2.2.2.2.1 ++ [oB.getD n 0],
     (callsF kd th nm ep oK oA oB rE rO rX (toS kd th n) n).2.2.2.2.2.2.1 ++ [(n : Int)], (callsF kd th nm ep oK oA oB rE rO rX (toS kd th n) n).2.2.2.2.2.2.2.1 ++ [-1], (callsF kd th nm ep oK oA oB rE rO rX (toS kd th n) n).2.2.2.2.2.2.2.2.1 ++ [0], (callsF kd th nm ep oK oA oB rE rO rX (toS kd th n) n).2.2.2.2.2.2.2.2.2.1 ++ [0], (callsF kd th nm ep oK oA oB rE rO rX (toS kd th n) n).2.2.2.2.2.2.2.2.2.2 ++ [0]) := by
  have hk : kd.getD n 0 = 1 := by simpa using h
  have hkp : ∀ j ∈ idxF kd n, toS kd th (n + 1) j = toS kd th n j := fun j _ => toS_keep fun hc => by rw [hk] at hc; exact absurd hc.2.1 (by decide)
  rw [callsF_add h]
  simp only [callsF, toS_new]
  rw [map_same hkp, map_same (F := fun j => resF rE (toS kd th (n + 1) j)) (F' := fun j => resF rE (toS kd th n j)) fun j hj => by rw [hkp j hj], map_same (F := fun j => resF rO (toS kd th (n + 1) j)) (F' := fun j => resF rO (toS kd th n j)) fun j hj => by rw [hkp j hj], map_same (F := fun j => resF rX (toS kd th (n + 1) j)) (F' := fun j => resF rX (toS kd th n j)) fun j hj => by rw [hkp j hj]]
  rfl
theorem callsS_ret (h2 : kd.getD n 0 = 2) (hA : 0 ≤ atF kd th (th.getD n 0) n) : callsF kd th nm ep oK oA oB rE rO rX (toS kd th (n + 1)) (n + 1) =
    ((callsF kd th nm ep oK oA oB rE rO rX (toS kd th n) n).1, (callsF kd th nm ep oK oA oB rE rO rX (toS kd th n) n).2.1, (callsF kd th nm ep oK oA oB rE rO rX (toS kd th n) n).2.2.1, (callsF kd th nm ep oK oA oB rE rO rX (toS kd th n) n).2.2.2.1, (callsF kd th nm ep oK oA oB rE rO rX (toS kd th n) n).2.2.2.2.1, (callsF kd th nm ep oK oA oB rE rO rX (toS kd th n) n).2.2.2.2.2.1,
     (callsF kd th nm ep oK oA oB rE rO rX (toS kd th n) n).2.2.2.2.2.2.1, (callsF kd th nm ep oK oA oB rE rO rX (toS kd th n) n).2.2.2.2.2.2.2.1.set (idxF kd (atF kd th (th.getD n 0) n).toNat).length n, (callsF kd th nm ep oK oA oB rE rO rX (toS kd th n) n).2.2.2.2.2.2.2.2.1.set (idxF kd (atF kd th (th.getD n 0) n).toNat).length (rE.getD n 0), (callsF kd th nm ep oK oA oB rE rO rX (toS kd th n) n).2.2.2.2.2.2.2.2.2.1.set (idxF kd (atF kd th (th.getD n 0) n).toNat).length (rO.getD n 0), (callsF kd th nm ep oK oA oB rE rO rX (toS kd th n) n).2.2.2.2.2.2.2.2.2.2.set (idxF kd (atF kd th (th.getD n 0) n).toNat).length (rX.getD n 0)) := by
  have hb := atF_bd kd th (th.getD n 0) n
  obtain ⟨hk1, hk2⟩ := atF_kind kd th (th.getD n 0) n hA
  have h1 : (kd.getD n 0 == 1) = false := by rw [h2]; rfl
  generalize hj : (atF kd th (th.getD n 0) n).toNat = j at *
  have hjn : j < n := by omega
  have hopen : stF kd th j n = none := (open_iff kd th n j hjn hk1).2 (by rw [hk2]; omega)
  have hget := idxF_get (kd := kd) (n := n) (j := j) hjn (by rw [hk1]; rfl)
  have hto : toS kd th (n + 1) j = n := toS_ret hopen hjn h2 hk2.symm
  have hne : ∀ i ∈ idxF kd n, i ≠ j → toS kd th (n + 1) i = toS kd th n i := fun i hi hij => toS_keep fun hc => by
    obtain ⟨hi1, hi2⟩ := idxF_mem.1 hi
    have := (open_iff kd th n i hi1 (by simpa using hi2)).1 hc.1
    rw [← hc.2.2] at this
    omega
  have hr : ∀ xs : List Int, resF xs ((n : Nat) : Int) = xs.getD n 0 := fun xs => by
    unfold resF
    have : decide (((n : Nat) : Int) ≥ 0) = true := by simp
    rw [this, cond_true, Int.toNat_natCast]
  rw [callsF_skip h1]
  simp only [callsF]
  rw [map_set (idxF_nodup kd n) hget hto hne, map_set (F := fun i => resF rE (toS kd th n i)) (F' := fun i => resF rE (toS kd th (n + 1) i)) (idxF_nodup kd n) hget (by rw [hto, hr]) (fun i hi hij => by rw [hne i hi hij]), map_set (F := fun i => resF rO (toS kd th n i)) (F' := fun i => resF rO (toS kd th (n + 1) i)) (idxF_nodup kd n) hget (by rw [hto, hr]) (fun i hi hij => by rw [hne i hi hij]), map_set (F := fun i => resF rX (toS kd th n i)) (F' := fun i => resF rX (toS kd th (n + 1) i)) (idxF_nodup kd n) hget (by rw [hto, hr]) (fun i hi hij => by rw [hne i hi hij])]
end
end Go.Proofs.Ytonfbgombglngaa
