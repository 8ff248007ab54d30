/-
  DERIVED. What the program's view and the reference's do to the state that they stand for; their entries.
-/
import Derived.Test.YtdbpiopcbhmieaaSlView
namespace Go.Proofs.Ytdbpiopcbhmieaa
open Go.Sl Go.RowKit

theorem nodup_len : ∀ (n : Nat) (l : List Int), l.Nodup → (∀ x ∈ l, 0 ≤ x ∧ x < n) → l.length ≤ n
  | 0, l, _, h => by
    cases l with
    | nil => simp
    | cons x r => have := h x (by simp); omega
  | n + 1, l, hn, h => by
    by_cases hm : (n : Int) ∈ l
    · have h1 := nodup_len n (l.erase (n : Int)) (hn.erase _) fun x hx => by
        rw [hn.mem_erase_iff] at hx
        have := h x hx.2
        have : x ≠ (n : Int) := hx.1
        omega
      rw [List.length_erase_of_mem hm] at h1
      omega
    · have h1 := nodup_len n l hn fun x hx => by
        have := h x hx
        have : x ≠ (n : Int) := fun e => hm (e ▸ hx)
        omega
      omega
theorem nodup_len' {n : Int} {l : List Int} (hn : l.Nodup) (h : ∀ x ∈ l, 0 ≤ x ∧ x < n) : l.length ≤ n.toNat := by
  refine nodup_len n.toNat l hn fun x hx => ?_
  have := h x hx; omega
theorem nodup_snoc {l : List Int} {i : Int} (h : l.Nodup) (hi : ¬ i ∈ l) : (l ++ [i]).Nodup := by
  rw [List.nodup_append]
  exact ⟨h, by simp, fun a ha b hb => by simp at hb; subst hb; exact fun e => hi (e ▸ ha)⟩
theorem idx_lt {l : List Int} {i : Int} {k : Nat} (h : l.idxOf? i = some k) : k < l.length ∧ l.getD k 0 = i := by
  rw [List.idxOf?_eq_some_iff] at h
  obtain ⟨h1, h2, _⟩ := h
  exact ⟨h1, by rw [List.getD_eq_getElem?_getD, List.getElem?_eq_getElem h1]; simpa using h2⟩
theorem idx_none {l : List Int} {i : Int} (h : l.idxOf? i = none) : ¬ i ∈ l := by
  rw [List.idxOf?_eq_none_iff] at h
  exact h
theorem idx_snoc (l : List Int) (i j : Int) (hi : ¬ i ∈ l) : (l ++ [i]).idxOf? j = bif j == i then some l.length else l.idxOf? j := by
  rw [List.idxOf?, List.findIdx?_append]
  by_cases hj : j = i
  · subst hj
    have : List.findIdx? (fun x => x == j) l = none := by
      rw [List.findIdx?_eq_none_iff]
      intro x hx
      simp only [beq_eq_false_iff_ne, ne_eq]
      intro e; exact hi (e ▸ hx)
    rw [this]
    simp
  · have : (j == i) = false := by simpa using hj
    rw [this]
    have h2 : List.findIdx? (fun x => x == j) [i] = none := by
      rw [List.findIdx?_eq_none_iff]
      intro x hx
      simp at hx; subst hx
      simp; exact fun e => hj e.symm
    rw [h2]
    simp [List.idxOf?]
theorem getD_mem {l : List Int} {k : Nat} (h : k < l.length) : l.getD k 0 ∈ l := by
  rw [List.getD_eq_getElem?_getD, List.getElem?_eq_getElem h]; exact List.getElem_mem h

abbrev WSt := Int × Option Nat × Nat × List Int × Nat × IM × Option Nat × Nat × Nat × List Int × Nat × IM × Option Nat × Nat × Nat × List Int × List Int × Int × Bool
def mkW (ms : Nat) (fs : IM) (st : WSt) : VX :=
  match st with
  | ⟨n, aw, cw, vals, mr, fr, ar, cr, nr, reads, mp, fp, aq, cq, nq, qc, qv, miss, stuck⟩ => ⟨n, aw, cw, vals, ms, fs, mr, fr, ar, cr, nr, reads, mp, fp, aq, cq, nq, qc, qv, miss, stuck⟩
abbrev KSt := Int × Nat × IM × Nat × IM × Option Nat × Nat × Nat × List Int × Nat × IM × Option Nat × Nat × Nat × List Int × List Int × Int × Bool
def mkK (aw : Option Nat) (cw : Nat) (vals : List Int) (st : KSt) : VX :=
  match st with
  | ⟨n, ms, fs, mr, fr, ar, cr, nr, reads, mp, fp, aq, cq, nq, qc, qv, miss, stuck⟩ => ⟨n, aw, cw, vals, ms, fs, mr, fr, ar, cr, nr, reads, mp, fp, aq, cq, nq, qc, qv, miss, stuck⟩

section
variable {k : Bool} {x : VX} {s : VS}
theorem VOk.there (ho : VOk k x s) (i : Int) : (true && decide (i ≥ 0) && decide (i < x.n) && !x.stuck) = s.there i := by
  unfold VS.there
  rw [ho.n, ho.miss]
  cases hs : x.stuck with
  | false => simp
  | true =>
    have := ho.m0 hs
    simp; omega
theorem VOk.putSome (ho : VOk k x s) {i : Int} {j : Nat} (h : x.qc.idxOf? i = some j) : x.fp i = some (j : Int) ∧ s.put i = some (x.qv.getD j 0) ∧ j < x.nq ∧ j < x.qv.length ∧ nv (x.qv.getD j 0) = x.qv.getD j 0 := by
  obtain ⟨h1, h2⟩ := idx_lt h
  have hl : j < x.qv.length := by rw [ho.ql]; exact h1
  refine ⟨by rw [ho.fp, h]; rfl, by rw [ho.put, h]; rfl, by rw [ho.nq]; exact h1, hl, nv_id (ho.bq _ (getD_mem hl))⟩
theorem VOk.putNone (ho : VOk k x s) {i : Int} (h : x.qc.idxOf? i = none) : x.fp i = none ∧ s.put i = none := ⟨by rw [ho.fp, h]; rfl, by rw [ho.put, h]; rfl⟩
theorem VOk.readIs (ho : VOk k x s) (i : Int) : ((x.fr i).getD 0 == 0) = !s.reads.contains i := by
  rw [ho.fr, ho.reads]
  cases x.reads.contains i <;> rfl
/-- One more cell is read. -/
theorem VOk.more (ho : VOk k x s) {i : Int} (h0 : 0 ≤ i) (h1 : i < x.n) (hc : s.reads.contains i = false) (a : Option Nat) (c : Nat) :
    VOk k { x with fr := mupd x.fr i 1, ar := a, cr := c, nr := x.nr + 1, reads := x.reads ++ [i] } { s with reads := s.reads ++ [i] } := by
  have hni : ¬ i ∈ x.reads := by
    rw [ho.reads] at hc
    simpa using hc
  have hri : ∀ j ∈ x.reads ++ [i], 0 ≤ j ∧ j < x.n := fun j hj => by
    simp only [List.mem_append, List.mem_singleton] at hj
    rcases hj with hj | rfl
    · exact ho.ri j hj
    · exact ⟨h0, h1⟩
  have hn := nodup_snoc ho.rn hni
  exact { ho with
    nr := by simp [ho.nr]
    reads := by simp [ho.reads]
    fr := fun j => by
      simp only [mupd]
      by_cases hj : j = i
      · subst hj; simp
      · have e : (j == i) = false := by simpa using hj
        rw [e]
        simp only [cond_false, ho.fr]
        congr 1
        simp [hj]
    rl := nodup_len' hn hri
    rn := hn
    ri := hri }
/-- A cell that is not known. -/
theorem VOk.missing (ho : VOk k x s) {i : Int} (h0 : 0 ≤ i) : VOk k { x with miss := i, stuck := true } { s with miss := i } :=
  { ho with miss := rfl, m0 := fun _ => h0 }
theorem VOk.bound (ho : VOk k x s) : x.nr ≤ 1000000 ∧ x.nq ≤ 1000000 := by
  have := ho.rl; have := ho.wl; have := ho.nb; have := ho.nr; have := ho.nq
  omega
end

theorem VS.thereOf {s : VS} {i : Int} (h : s.there i = true) : 0 ≤ i ∧ i < s.n := by
  unfold VS.there at h
  simp only [Bool.and_eq_true, decide_eq_true_eq] at h
  exact ⟨h.1.1, h.1.2⟩

theorem getW_ok {x : VX} {s : VS} (ho : VOk true x s) (b : Nat) (i : Int) : getW_wp0 b x.n x.aw x.cw x.vals x.mr x.fr x.ar x.cr x.nr x.reads x.mp x.fp x.aq x.cq x.nq x.qc x.qv x.miss x.stuck i (fun st r => VOk true (mkW x.ms x.fs st) (s.read i) ∧ r = s.get i) := by
  have hb := ho.bound
  unfold getW_wp0
  rw [ho.there i]
  cases ht : s.there i with
  | false =>
    refine ⟨fun _ => ⟨?_, ?_⟩, fun h => by cases h⟩
    · simp only [VS.read, ht, cond_false]; exact ho
    · simp only [VS.get, ht, cond_false]
  | true =>
    refine ⟨fun h => (by cases h), fun _ => ?_⟩
    obtain ⟨h0, h1⟩ := VS.thereOf ht
    rw [ho.n] at h1
    cases hq : x.qc.idxOf? i with
    | some j =>
      obtain ⟨e1, e2, e3, e4, e5⟩ := ho.putSome hq
      rw [e1]
      refine ⟨fun _ => ⟨by simp only [Option.getD_some]; omega, fun _ => ⟨?_, ?_⟩⟩, fun h => by simp at h⟩
      · simp only [VS.read, ht, e2, cond_true]; exact ho
      · simp only [VS.get, ht, e2, cond_true, Option.getD_some, e5, Int.toNat_natCast]
    | none =>
      obtain ⟨e1, e2⟩ := ho.putNone hq
      rw [e1]
      have hl := ho.len rfl
      have hs := ho.src i h0 h1
      simp only [cond_true] at hs
      have hin : i.toNat < x.vals.length := by omega
      have hv : nv (x.vals.getD i.toNat 0) = x.vals.getD i.toNat 0 := nv_id (ho.bv _ (getD_mem hin))
      refine ⟨fun h => (by simp at h), fun _ => ⟨by omega, fun _ => ⟨fun h => (by simp at h), fun _ => ?_⟩⟩⟩
      rw [ho.readIs]
      cases hc : s.reads.contains i with
      | false =>
        refine ⟨fun _ _ => ⟨by omega, fun _ a c => ⟨?_, ?_⟩⟩, fun h => by cases h⟩
        · simp only [VS.read, ht, e2, hs, hc, cond_true, cond_false]
          exact ho.more h0 h1 hc a c
        · simp only [VS.get, ht, e2, hs, cond_true, hv]
      | true =>
        refine ⟨fun h => (by cases h), fun _ => ⟨?_, ?_⟩⟩
        · simp only [VS.read, ht, e2, hs, hc, cond_true]; exact ho
        · simp only [VS.get, ht, e2, hs, cond_true, hv]
theorem getK_ok {x : VX} {s : VS} (ho : VOk false x s) (b : Nat) (i : Int) : getK_wp0 b x.n x.ms x.fs x.mr x.fr x.ar x.cr x.nr x.reads x.mp x.fp x.aq x.cq x.nq x.qc x.qv x.miss x.stuck i (fun st r => VOk false (mkK x.aw x.cw x.vals st) (s.read i) ∧ r = s.get i) := by
  have hb := ho.bound
  unfold getK_wp0
  rw [ho.there i]
  cases ht : s.there i with
  | false =>
    refine ⟨fun _ => ⟨?_, ?_⟩, fun h => by cases h⟩
    · simp only [VS.read, ht, cond_false]; exact ho
    · simp only [VS.get, ht, cond_false]
  | true =>
    refine ⟨fun h => (by cases h), fun _ => ?_⟩
    obtain ⟨h0, h1⟩ := VS.thereOf ht
    rw [ho.n] at h1
    cases hq : x.qc.idxOf? i with
    | some j =>
      obtain ⟨e1, e2, e3, e4, e5⟩ := ho.putSome hq
      rw [e1]
      refine ⟨fun _ => ⟨by simp only [Option.getD_some]; omega, fun _ => ⟨?_, ?_⟩⟩, fun h => by simp at h⟩
      · simp only [VS.read, ht, e2, cond_true]; exact ho
      · simp only [VS.get, ht, e2, cond_true, Option.getD_some, e5, Int.toNat_natCast]
    | none =>
      obtain ⟨e1, e2⟩ := ho.putNone hq
      rw [e1]
      have hs := ho.src i h0 h1
      simp only [cond_false] at hs
      cases hf : x.fs i with
      | none =>
        rw [hf] at hs
        refine ⟨fun h => (by cases h), fun _ => ⟨fun _ => ⟨?_, ?_⟩, fun h => by cases h⟩⟩
        · simp only [VS.read, ht, e2, hs, cond_true]; exact ho.missing h0
        · simp only [VS.get, ht, e2, hs, cond_true]
      | some v =>
        rw [hf] at hs
        have hv : nv v = v := nv_id (ho.bs i v hf)
        refine ⟨fun h => (by cases h), fun _ => ⟨fun h => (by cases h), fun _ => ?_⟩⟩
        rw [ho.readIs]
        cases hc : s.reads.contains i with
        | false =>
          refine ⟨fun _ _ => ⟨by omega, fun _ a c => ⟨?_, ?_⟩⟩, fun h => by cases h⟩
          · simp only [VS.read, ht, e2, hs, hc, cond_true, cond_false]
            exact ho.more h0 h1 hc a c
          · simp only [VS.get, ht, e2, hs, cond_true, hv, Option.getD_some]
        | true =>
          refine ⟨fun h => (by cases h), fun _ => ⟨?_, ?_⟩⟩
          · simp only [VS.read, ht, e2, hs, hc, cond_true]; exact ho
          · simp only [VS.get, ht, e2, hs, cond_true, hv, Option.getD_some]

section
variable {k : Bool} {x : VX} {s : VS}
theorem set_snoc (l : List Int) (y : Int) : (l ++ [0]).set l.length y = l ++ [y] := by
  rw [List.set_append_right _ _ (Nat.le_refl _)]; simp
theorem getD_snoc (l : List Int) (y : Int) (j : Nat) : (l ++ [y]).getD j 0 = bif Nat.beq j l.length then y else l.getD j 0 := by
  by_cases h : j = l.length
  · subst h; simp
  · have e : Nat.beq j l.length = false := by
      cases hb : Nat.beq j l.length with
      | false => rfl
      | true => exact absurd (Nat.eq_of_beq_eq_true hb) h
    rw [e]
    simp only [cond_false, List.getD_eq_getElem?_getD]
    rcases Nat.lt_or_ge j l.length with hl | hl
    · rw [List.getElem?_append_left hl]
    · rw [List.getElem?_eq_none (by simp; omega), List.getElem?_eq_none hl]
theorem VOk.putNew (ho : VOk k x s) {i y : Int} (h0 : 0 ≤ i) (h1 : i < x.n) (hy : bd32 y) (hq : x.qc.idxOf? i = none) (a : Option Nat) (c : Nat) :
    VOk k { x with fp := mupd x.fp i x.nq, aq := a, cq := c, nq := x.nq + 1, qc := x.qc ++ [i], qv := (x.qv ++ [0]).set (Int.toNat (x.nq : Int)) y } { s with put := mupd s.put i y, wrote := s.wrote ++ [i] } := by
  have hni := idx_none hq
  have hwi : ∀ j ∈ x.qc ++ [i], 0 ≤ j ∧ j < x.n := fun j hj => by
    simp only [List.mem_append, List.mem_singleton] at hj
    rcases hj with hj | rfl
    · exact ho.wi j hj
    · exact ⟨h0, h1⟩
  have hn := nodup_snoc ho.wn hni
  have hqv : (x.qv ++ [0]).set (Int.toNat (x.nq : Int)) y = x.qv ++ [y] := by
    rw [Int.toNat_natCast, ho.nq, ← ho.ql, set_snoc]
  rw [hqv]
  exact { ho with
    nq := by simp [ho.nq]
    wrote := by simp [ho.wrote]
    ql := by simp [ho.ql]
    fp := fun j => by
      simp only [mupd, idx_snoc _ _ _ hni]
      cases hj : j == i with
      | true => simp [ho.nq]
      | false => simpa using ho.fp j
    put := fun j => by
      simp only [mupd, idx_snoc _ _ _ hni]
      cases hj : j == i with
      | true => simp [← ho.ql]
      | false =>
        simp only [cond_false, ho.put]
        cases hjj : x.qc.idxOf? j with
        | none => rfl
        | some m =>
          have := idx_lt hjj
          simp only [Option.map_some, Option.some.injEq, getD_snoc]
          have e : Nat.beq m x.qv.length = false := by
            cases hb : Nat.beq m x.qv.length with
            | false => rfl
            | true => have := Nat.eq_of_beq_eq_true hb; have := ho.ql; omega
          rw [e]; rfl
    bq := fun v hv => by
      simp only [List.mem_append, List.mem_singleton] at hv
      rcases hv with hv | rfl
      · exact ho.bq v hv
      · exact hy
    wl := nodup_len' hn hwi
    wn := hn
    wi := hwi }
theorem VOk.putOld (ho : VOk k x s) {i y : Int} {j : Nat} (hy : bd32 y) (hq : x.qc.idxOf? i = some j) :
    VOk k { x with qv := x.qv.set (Int.toNat (j : Int)) y } { s with put := mupd s.put i y } := by
  obtain ⟨h1, h2⟩ := idx_lt hq
  rw [Int.toNat_natCast]
  exact { ho with
    ql := by simp [ho.ql]
    put := fun m => by
      simp only [mupd]
      by_cases hm : m = i
      · subst hm
        simp only [beq_self_eq_true, cond_true, hq, Option.map_some]
        rw [getD_set _ _ _ _ (by rw [ho.ql]; exact h1)]; simp
      · have e : (m == i) = false := by simpa using hm
        rw [e]
        simp only [cond_false, ho.put]
        cases hmm : x.qc.idxOf? m with
        | none => rfl
        | some q =>
          have hqq := idx_lt hmm
          simp only [Option.map_some, Option.some.injEq]
          rw [getD_set _ _ _ _ (by rw [ho.ql]; exact h1), if_neg]
          intro e2
          subst e2
          exact hm (hqq.2.symm.trans h2)
    bq := fun v hv => by
      rcases List.mem_or_eq_of_mem_set hv with hv | rfl
      · exact ho.bq v hv
      · exact hy }
end
theorem putW_ok {x : VX} {s : VS} (ho : VOk true x s) (b : Nat) (i y : Int) (hy : bd32 y) : putW_wp0 b x.n x.aw x.cw x.vals x.mr x.fr x.ar x.cr x.nr x.reads x.mp x.fp x.aq x.cq x.nq x.qc x.qv x.miss x.stuck i y (fun st _ => VOk true (mkW x.ms x.fs st) (s.set i y)) := by
  have hb := ho.bound
  unfold putW_wp0
  rw [ho.there i]
  cases ht : s.there i with
  | false =>
    refine ⟨fun _ => ?_, fun h => by cases h⟩
    simp only [VS.set, ht, cond_false]; exact ho
  | true =>
    refine ⟨fun h => (by cases h), fun _ => ?_⟩
    obtain ⟨h0, h1⟩ := VS.thereOf ht
    rw [ho.n] at h1
    cases hq : x.qc.idxOf? i with
    | some j =>
      obtain ⟨e1, e2, e3, e4, e5⟩ := ho.putSome hq
      rw [e1]
      refine ⟨fun h => (by simp at h), fun _ => ⟨by simp only [Option.getD_some]; omega, fun _ => ?_⟩⟩
      simp only [VS.set, ht, e2, cond_true, Option.isSome_some]
      exact ho.putOld hy hq
    | none =>
      obtain ⟨e1, e2⟩ := ho.putNone hq
      have e := ho.putNew h0 h1 hy hq
      rw [e1]
      refine ⟨fun _ _ => ⟨by omega, fun _ a c => ⟨by omega, fun _ => ?_⟩⟩, fun h => by simp at h⟩
      simp only [VS.set, ht, e2, cond_true, Option.isSome_none, cond_false]
      exact e a c
theorem putK_ok {x : VX} {s : VS} (ho : VOk false x s) (b : Nat) (i y : Int) (hy : bd32 y) : putK_wp0 b x.n x.ms x.fs x.mr x.fr x.ar x.cr x.nr x.reads x.mp x.fp x.aq x.cq x.nq x.qc x.qv x.miss x.stuck i y (fun st _ => VOk false (mkK x.aw x.cw x.vals st) (s.set i y)) := by
  have hb := ho.bound
  unfold putK_wp0
  rw [ho.there i]
  cases ht : s.there i with
  | false =>
    refine ⟨fun _ => ?_, fun h => by cases h⟩
    simp only [VS.set, ht, cond_false]; exact ho
  | true =>
    refine ⟨fun h => (by cases h), fun _ => ?_⟩
    obtain ⟨h0, h1⟩ := VS.thereOf ht
    rw [ho.n] at h1
    cases hq : x.qc.idxOf? i with
    | some j =>
      obtain ⟨e1, e2, e3, e4, e5⟩ := ho.putSome hq
      rw [e1]
      refine ⟨fun h => (by simp at h), fun _ => ⟨by simp only [Option.getD_some]; omega, fun _ => ?_⟩⟩
      simp only [VS.set, ht, e2, cond_true, Option.isSome_some]
      exact ho.putOld hy hq
    | none =>
      obtain ⟨e1, e2⟩ := ho.putNone hq
      have e := ho.putNew h0 h1 hy hq
      rw [e1]
      refine ⟨fun _ _ => ⟨by omega, fun _ a c => ⟨by omega, fun _ => ?_⟩⟩, fun h => by simp at h⟩
      simp only [VS.set, ht, e2, cond_true, Option.isSome_none, cond_false]
      exact e a c
end Go.Proofs.Ytdbpiopcbhmieaa
