/-
  DERIVED. The symbolic machine of SlB is right, 5: operations that make and write memory; the machine itself. No program is named.
-/
import Derived.Test.YtonfbgombglngaaSlR
namespace Go.Sl
open Go.RowKit

theorem Sat.write' {E : World} {G : Hp} {w w' : World} {As : List Asn} (h : Sat E G w As) {i b : Nat} {A A' : Asn} (hi : As[i]? = some A) (hown : ∀ k : Hp, A k → k b ≠ none)
    (he : w'.os = w.os ∧ w'.tape = w.tape ∧ w'.output = w.output) (hs : w'.heap.size = w.heap.size) (hh : ∀ c, c ≠ b → w'.heap[c]? = w.heap[c]?)
    (hA : ∀ k k' : Hp, A k → (∀ c, c ≠ b → k' c = k c) → k' b = w'.heap[b]? → A' k') : Sat E G w' (As.set i A') := by
  obtain ⟨⟨e1, e2, e3, e4⟩, h2, o, h3, h4⟩ := h
  have hAi := h4 i _ hi
  have hob : o b = some i := by
    have := hown _ hAi
    unfold part at this
    split at this
    · assumption
    · exact absurd rfl this
  refine ⟨⟨he.1.trans e1, he.2.1.trans e2, he.2.2.trans e3, by omega⟩, fun c y hc => ?_, o, fun c j hc => ⟨(h3 c j hc).1, by rw [hs]; exact (h3 c j hc).2⟩, fun j A hj => ?_⟩
  · rw [hh c (fun e => by subst e; rw [(h3 _ _ hob).1] at hc; cases hc)]; exact h2 c y hc
  · by_cases hij : i = j
    · subst hij
      rw [List.getElem?_set_self (lt_of_get hi)] at hj
      injection hj with hj
      subst hj
      refine hA _ _ hAi (fun c hc => ?_) ?_
      · unfold part
        split
        · exact hh c hc
        · rfl
      · simp [part, hob]
    · rw [List.getElem?_set_ne hij] at hj
      have : part w' o j = part w o j := by
        funext c
        unfold part
        split
        · rename_i hc
          exact hh c (fun e => by subst e; rw [hob] at hc; injection hc with hc; exact hij hc)
        · rfl
      rw [this]; exact h4 j A hj

theorem setFrom_eq {α : Type} : ∀ (vs : List α) (cs : List α) (off : Nat), off + vs.length ≤ cs.length → setFrom cs off vs = cs.take off ++ vs ++ cs.drop (off + vs.length)
  | [], cs, off, _ => by simp [setFrom]
  | v :: vs, cs, off, h => by
    simp only [List.length_cons] at h
    have hlt : off < cs.length := by omega
    rw [setFrom, setFrom_eq vs _ _ (by simp; omega)]
    have e1 : (cs.set off v).take (off + 1) = cs.take off ++ [v] := by
      rw [List.take_set]
      rw [List.take_succ_eq_append_getElem hlt, List.set_append_right _ _ (by simp; omega)]
      simp [Nat.min_eq_left (Nat.le_of_lt hlt)]
    have e2 : (cs.set off v).drop (off + 1 + vs.length) = cs.drop (off + (v :: vs).length) := by
      rw [List.drop_set_of_lt (by omega)]
      simp only [List.length_cons]
      congr 1
      omega
    rw [e1, e2]
    simp
theorem setFrom_map {α β : Type} (f : α → β) : ∀ (vs : List α) (cs : List α) (off : Nat), (setFrom cs off vs).map f = setFrom (cs.map f) off (vs.map f)
  | [], cs, off => rfl
  | v :: vs, cs, off => by rw [setFrom, setFrom_map f vs, List.map_set]; rfl
theorem setFrom_mem {α : Type} : ∀ (vs : List α) (cs : List α) (off : Nat) (x : α), x ∈ setFrom cs off vs → x ∈ cs ∨ x ∈ vs
  | [], cs, off, x, h => .inl h
  | v :: vs, cs, off, x, h => by
    rcases setFrom_mem vs _ _ x h with h | h
    · rcases List.mem_or_eq_of_mem_set h with h | h
      · exact .inl h
      · exact .inr (by simp [h])
    · exact .inr (by simp [h])

/-- The state when an operation has grown one row, or made a block: one assertion is let go of, one is new. -/
theorem Sat.grown {E : World} {G : Hp} {w w' : World} {As : List Asn} (h : Sat E G w As) (kd row nb : Option Nat) (hg : w.grownBy w' row)
    (hrow : ∀ g, row = some g → ∃ k A, kd = some k ∧ As[k]? = some A ∧ ∀ p : Hp, A p → p g ≠ none) (hnb : nb = row ∨ nb = some w.heap.size) (hlt : ∀ g, nb = some g → g < w'.heap.size)
    (A' : Asn) (hA' : ∀ p : Hp, (∀ g, nb = some g → p g = w'.heap[g]?) → A' p) (As' : List Asn) (hAs' : As'.length = As.length) (hAs : ∀ (i : Nat) A, As'[i]? = some A → (∀ p, A p) ∨ (some i ≠ kd ∧ As[i]? = some A)) : Sat E G w' (As' ++ [A']) := by
  obtain ⟨⟨e1, e2, e3, e4⟩, h2, o, h3, h4⟩ := h
  have hown : ∀ g, row = some g → ∃ k, kd = some k ∧ o g = some k := fun g hr => by
    obtain ⟨k, A, hk, hA, hp⟩ := hrow g hr
    refine ⟨k, hk, ?_⟩
    have := hp _ (h4 k A hA)
    unfold part at this
    split at this
    · assumption
    · exact absurd rfl this
  have hGnb : ∀ g, nb = some g → G g = none := fun g hn => by
    rcases hnb with h | h
    · obtain ⟨k, _, ho⟩ := hown g (h ▸ hn)
      exact (h3 g k ho).1
    · rw [h] at hn; injection hn with hn; subst hn
      cases hG : G w.heap.size with
      | none => rfl
      | some x => have := lt_of_heap (h2 _ _ hG); omega
  refine ⟨⟨hg.os.trans e1, hg.tape.trans e2, hg.output.trans e3, Nat.le_trans e4 hg.size⟩, fun b x hb => ?_,
    fun b => if nb = some b then some As.length else match o b with | some i => if i < As.length ∧ some i ≠ kd then some i else none | none => none, fun b i hb => ?_, fun i A hi => ?_⟩
  · have hw := h2 b x hb
    rw [hg.block b (lt_of_heap hw) (fun e => by obtain ⟨k, _, ho⟩ := hown b e.symm; rw [(h3 b k ho).1] at hb; cases hb)]
    exact hw
  · dsimp only at hb
    split at hb
    · rename_i hn; exact ⟨hGnb b hn, hlt b hn⟩
    · cases ho : o b with
      | none => simp [ho] at hb
      | some j => exact ⟨(h3 b j ho).1, Nat.lt_of_lt_of_le (h3 b j ho).2 hg.size⟩
  · rcases Nat.lt_or_ge i As'.length with hl | hl
    · rw [List.getElem?_append_left hl] at hi
      rcases hAs i A hi with hall | ⟨hne, hA⟩
      · exact hall _
      · rw [part_congr (w' := w) (o' := o) (j := i)]
        · exact h4 i A hA
        · have one : ∀ b, (if nb = some b then some As.length else match o b with | some i => if i < As.length ∧ some i ≠ kd then some i else none | none => none) = some i ↔ o b = some i := fun b => by
            constructor
            · intro hb
              split at hb
              · injection hb with hb; omega
              · cases ho : o b with
                | none => simp [ho] at hb
                | some j => simp only [ho] at hb; split at hb
                            · exact hb
                            · cases hb
            · intro hb
              have hnn : nb ≠ some b := fun hn => by
                rcases hnb with h | h
                · obtain ⟨k, hk, ho⟩ := hown b (h ▸ hn)
                  rw [hb] at ho; injection ho with ho; subst ho
                  exact hne hk.symm
                · rw [h] at hn; injection hn with hn; have := (h3 b i hb).2; omega
              rw [if_neg hnn, hb]
              simp only [if_pos (⟨by omega, hne⟩ : i < As.length ∧ some i ≠ kd)]
          refine fun b => ⟨one b, fun hb => ?_⟩
          have hb' := (one b).1 hb
          refine hg.block b (h3 b i hb').2 (fun e => ?_)
          obtain ⟨k, hk, ho⟩ := hown b e.symm
          rw [hb'] at ho; injection ho with ho; subst ho
          exact hne hk.symm
    · rw [List.getElem?_append_right hl] at hi
      have hz : i - As'.length = 0 := by
        rcases Nat.eq_zero_or_pos (i - As'.length) with h0 | h0
        · exact h0
        · rw [List.getElem?_eq_none (by simp; omega)] at hi; cases hi
      rw [hz] at hi
      simp only [List.getElem?_cons_zero, Option.some.injEq] at hi
      subst hi
      have hi' : i = As.length := by omega
      subst hi'
      refine hA' _ fun g hn => ?_
      unfold part
      rw [if_pos (by simp [hn])]

/-! ### Columns -/
theorem oneB_one {v : Value} (h : oneB v = true) : v.oneCell' = true := by cases v <;> first | rfl | (simp [oneB] at h)
theorem pushCol_spec {c c' : Col} {v : Value} (h : pushCol c v = some c') : c'.len = c.len + 1 ∧ c'.at c.len = v ∧ (∀ i, i < c.len → c'.at i = c.at i) ∧ v.oneCell' = true := by
  cases c with
  | ints k xs =>
    cases v <;> simp only [pushCol] at h <;> try cases h
    split at h
    · rename_i e _; subst e; injection h with h; subst h
      refine ⟨by simp [Col.len], by simp [Col.at, Col.len], fun i hi => ?_, rfl⟩
      simp only [Col.at, Col.len] at hi ⊢
      rw [List.getD_eq_getElem?_getD, List.getD_eq_getElem?_getD, List.getElem?_append_left hi]
    · cases h
  | bools xs =>
    cases v <;> simp only [pushCol] at h <;> try cases h
    refine ⟨by simp [Col.len], by simp [Col.at, Col.len], fun i hi => ?_, rfl⟩
    simp only [Col.at, Col.len] at hi ⊢
    rw [List.getD_eq_getElem?_getD, List.getD_eq_getElem?_getD, List.getElem?_append_left hi]
  | vals xs =>
    simp only [pushCol] at h
    cases ho : oneB v with
    | false => rw [ho] at h; simp at h
    | true =>
      rw [ho] at h
      simp only [cond_true, Option.some.injEq] at h
      subst h
      refine ⟨by simp [Col.len], by simp [Col.at, Col.len], fun i hi => ?_, oneB_one ho⟩
      simp only [Col.at, Col.len] at hi ⊢
      rw [List.getD_eq_getElem?_getD, List.getD_eq_getElem?_getD, List.getElem?_append_left hi]
theorem pushRow_spec : ∀ {cols cols' : List Col} {vs r : List Value} {n : Nat}, pushRow cols vs = some (cols', r) → (∀ c ∈ cols, c.len = n) →
    cols'.length = cols.length ∧ (∀ c ∈ cols', c.len = n + 1) ∧ vs = cols'.map (·.at n) ++ r ∧ (∀ i, i < n → cols'.map (·.at i) = cols.map (·.at i)) ∧ ∀ v ∈ cols'.map (·.at n), v.oneCell' = true
  | [], cols', vs, r, n, h, _ => by
    simp only [pushRow, Option.some.injEq, Prod.mk.injEq] at h
    obtain ⟨rfl, rfl⟩ := h
    simp
  | c :: cs, cols', [], r, n, h, _ => by simp [pushRow] at h
  | c :: cs, cols', v :: vs, r, n, h, hn => by
    simp only [pushRow] at h
    split at h
    · rename_i c' cs' r' hc hr
      simp only [Option.some.injEq, Prod.mk.injEq] at h
      obtain ⟨rfl, rfl⟩ := h
      obtain ⟨g1, g2, g3, g4⟩ := pushCol_spec hc
      have hcn := hn c (by simp)
      obtain ⟨h1, h2, h3, h4, h5⟩ := pushRow_spec hr (fun c hc => hn c (by simp [hc]))
      rw [hcn] at g1 g2 g3
      refine ⟨by simp [h1], fun x hx => ?_, by simp [g2, h3], fun i hi => by simp [g3 i hi, h4 i hi], fun x hx => ?_⟩
      · simp only [List.mem_cons] at hx
        rcases hx with rfl | hx
        · exact g1
        · exact h2 x hx
      · simp only [List.map_cons, List.mem_cons] at hx
        rcases hx with rfl | hx
        · rw [g2]; exact g4
        · exact h5 x hx
    · cases h
theorem flat_congr {cols cols' : List Col} {n : Nat} (h : ∀ i, i < n → cols'.map (·.at i) = cols.map (·.at i)) : flat cols' n = flat cols n := by
  induction n with
  | zero => rfl
  | succ n ih => rw [flat_succ, flat_succ, ih (fun i hi => h i (by omega)), h n (by omega)]
theorem toRows_spec : ∀ {m : Nat} {cols cols' : List Col} {vs : List Value} {n : Nat}, toRows m cols vs = some cols' → (∀ c ∈ cols, c.len = n) →
    cols'.length = cols.length ∧ (∀ c ∈ cols', c.len = n + m) ∧ flat cols' (n + m) = flat cols n ++ vs
  | 0, cols, cols', [], n, h, hn => by simp only [toRows, Option.some.injEq] at h; subst h; exact ⟨rfl, by simpa using hn, by simp⟩
  | 0, cols, cols', _ :: _, n, h, _ => by simp [toRows] at h
  | m + 1, cols, cols', vs, n, h, hn => by
    simp only [toRows] at h
    split at h
    · rename_i cols1 r hp
      obtain ⟨h1, h2, h3, h4, _⟩ := pushRow_spec hp hn
      obtain ⟨g1, g2, g3⟩ := toRows_spec h h2
      refine ⟨by omega, fun c hc => by have := g2 c hc; omega, ?_⟩
      rw [show n + (m + 1) = n + 1 + m by omega, g3, flat_succ, flat_congr h4, h3]
      simp
    · cases h
theorem colsT_len {P : Program} : ∀ (d : Nat) (t : TypeId) (cols : List Col), colsT P d t = some cols → ∀ c ∈ cols, c.len = 0
  | 0, t, cols, h => by simp [colsT] at h
  | d + 1, t, cols, h => by
    simp only [colsT] at h
    split at h
    · injection h with h; subst h; simp [Col.len]
    · injection h with h; subst h; simp [Col.len]
    · rename_i fs _
      have key : ∀ (fs : List Field) (cols : List Col), colsT.go (colsT P d) fs = some cols → ∀ c ∈ cols, c.len = 0 := by
        intro fs
        induction fs with
        | nil => intro cols h; simp only [colsT.go, Option.some.injEq] at h; subst h; simp
        | cons f fs ih =>
          intro cols h
          simp only [colsT.go] at h
          split at h
          · rename_i a b ha hb
            injection h with h; subst h
            intro c hc
            rw [List.mem_append] at hc
            rcases hc with hc | hc
            · exact colsT_len d _ a ha c hc
            · exact ih b hb c hc
          · cases h
      exact key fs.toList cols h
    · cases h
    · injection h with h; subst h; simp [Col.len]
    · cases h
theorem appCol_spec {c d e : Col} (h : appCol c d = some e) : e.len = c.len + d.len ∧ (∀ i, i < c.len → e.at i = c.at i) ∧ ∀ i, i < d.len → e.at (c.len + i) = d.at i := by
  have key : ∀ {α : Type} (xs ys : List α) (z : α), (∀ i, i < xs.length → (xs ++ ys).getD i z = xs.getD i z) ∧ ∀ i, i < ys.length → (xs ++ ys).getD (xs.length + i) z = ys.getD i z := fun xs ys z =>
    ⟨fun i hi => by rw [List.getD_eq_getElem?_getD, List.getD_eq_getElem?_getD, List.getElem?_append_left hi],
     fun i hi => by rw [List.getD_eq_getElem?_getD, List.getD_eq_getElem?_getD, List.getElem?_append_right (by omega), Nat.add_sub_cancel_left]⟩
  cases c <;> cases d <;> simp only [appCol] at h <;> try cases h
  · split at h
    · rename_i e' _; subst e'; injection h with h; subst h
      exact ⟨by simp [Col.len], fun i hi => by simp only [Col.at]; rw [(key _ _ 0).1 i hi], fun i hi => by simp only [Col.at, Col.len]; rw [(key _ _ 0).2 i hi]⟩
    · cases h
  · exact ⟨by simp [Col.len], fun i hi => by simp only [Col.at]; rw [(key _ _ false).1 i hi], fun i hi => by simp only [Col.at, Col.len]; rw [(key _ _ false).2 i hi]⟩
  · exact ⟨by simp [Col.len], fun i hi => by simp only [Col.at]; rw [(key _ _ undef).1 i hi], fun i hi => by simp only [Col.at, Col.len]; rw [(key _ _ undef).2 i hi]⟩
theorem appCols_spec : ∀ {cs ds es : List Col} {n m : Nat}, appCols cs ds = some es → (∀ c ∈ cs, c.len = n) → (∀ d ∈ ds, d.len = m) →
    es.length = cs.length ∧ ds.length = cs.length ∧ (∀ e ∈ es, e.len = n + m) ∧ (∀ i, i < n → es.map (·.at i) = cs.map (·.at i)) ∧ ∀ i, i < m → es.map (·.at (n + i)) = ds.map (·.at i)
  | [], [], es, n, m, h, _, _ => by simp only [appCols, Option.some.injEq] at h; subst h; simp
  | [], _ :: _, es, n, m, h, _, _ => by simp [appCols] at h
  | _ :: _, [], es, n, m, h, _, _ => by simp [appCols] at h
  | c :: cs, d :: ds, es, n, m, h, hc, hd => by
    simp only [appCols] at h
    split at h
    · rename_i e es' h1 h2
      injection h with h; subst h
      obtain ⟨g1, g2, g3⟩ := appCol_spec h1
      obtain ⟨f1, f2, f3, f4, f5⟩ := appCols_spec h2 (fun c h => hc c (by simp [h])) (fun d h => hd d (by simp [h]))
      have hcn := hc c (by simp)
      have hdm := hd d (by simp)
      rw [hcn, hdm] at g1; rw [hcn] at g2 g3; rw [hdm] at g3
      refine ⟨by simp [f1], by simp [f2], fun x hx => ?_, fun i hi => by simp [g2 i hi, f4 i hi], fun i hi => by simp [g3 i hi, f5 i hi]⟩
      simp only [List.mem_cons] at hx
      rcases hx with rfl | hx
      · exact g1
      · exact f3 x hx
    · cases h
theorem flat_append {cs ds es : List Col} {n : Nat} : ∀ {m : Nat}, (∀ i, i < n → es.map (·.at i) = cs.map (·.at i)) → (∀ i, i < m → es.map (·.at (n + i)) = ds.map (·.at i)) → flat es (n + m) = flat cs n ++ flat ds m
  | 0, h1, _ => by simpa [flat] using flat_congr h1
  | m + 1, h1, h2 => by
    rw [← Nat.add_assoc, flat_succ, flat_append h1 (fun i hi => h2 i (by omega)), flat_succ, h2 m (by omega)]
    simp
theorem colB_one {cols : List Col} (h : cols.all colB = true) {n : Nat} : ∀ v ∈ flat cols n, v.oneCell' = true := fun v hv => by
  unfold flat at hv
  rw [List.mem_flatMap] at hv
  obtain ⟨i, _, hv⟩ := hv
  rw [List.mem_map] at hv
  obtain ⟨c, hc, rfl⟩ := hv
  rw [List.all_eq_true] at h
  have := h c hc
  cases c <;> first | rfl | (simp [colB] at this)
theorem repCols_spec {n : Nat} : ∀ {cols cols' : List Col}, repCols n cols = some cols' → cols'.length = cols.length ∧ (∀ c ∈ cols', c.len = n) ∧ ∀ i, i < n → cols'.map (·.at i) = cols.map (·.at 0)
  | [], cols', h => by simp only [repCols, Option.some.injEq] at h; subst h; simp
  | c :: cs, cols', h => by
    simp only [repCols] at h
    split at h
    · rename_i c' cs' hc hr
      injection h with h; subst h
      obtain ⟨h1, h2, h3⟩ := repCols_spec hr
      have hcc : c'.len = n ∧ ∀ i, i < n → c'.at i = c.at 0 := by
        unfold repCol at hc
        split at hc <;> first | (injection hc with hc; subst hc; refine ⟨by simp [Col.len], fun i hi => ?_⟩; simp [Col.at, List.getD_eq_getElem?_getD, hi]) | cases hc
      refine ⟨by simp [h1], fun x hx => ?_, fun i hi => by simp [hcc.2 i hi, h3 i hi]⟩
      simp only [List.mem_cons] at hx
      rcases hx with rfl | hx
      · exact hcc.1
      · exact h2 x hx
    · cases h
theorem setCol_spec {c c' : Col} {i : Nat} {v : Value} (h : setCol c i v = some c') (hi : i < c.len) : c'.len = c.len ∧ c'.at i = v ∧ (∀ m, m ≠ i → c'.at m = c.at m) ∧ v.oneCell' = true := by
  have key : ∀ {α : Type} (xs : List α) (x z : α), i < xs.length → (xs.set i x).getD i z = x ∧ ∀ m, m ≠ i → (xs.set i x).getD m z = xs.getD m z := fun xs x z hl =>
    ⟨by rw [List.getD_eq_getElem?_getD, List.getElem?_set_self hl]; rfl, fun m hm => by rw [List.getD_eq_getElem?_getD, List.getD_eq_getElem?_getD, List.getElem?_set_ne (fun e => hm e.symm)]⟩
  cases c with
  | ints k xs =>
    cases v <;> simp only [setCol] at h <;> try cases h
    split at h
    · rename_i e _; subst e; injection h with h; subst h
      obtain ⟨k1, k2⟩ := key xs _ 0 hi
      exact ⟨by simp [Col.len], by simp only [Col.at]; rw [k1], fun m hm => by simp only [Col.at]; rw [k2 m hm], rfl⟩
    · cases h
  | bools xs =>
    cases v <;> simp only [setCol] at h <;> try cases h
    obtain ⟨k1, k2⟩ := key xs _ false hi
    exact ⟨by simp [Col.len], by simp only [Col.at]; rw [k1], fun m hm => by simp only [Col.at]; rw [k2 m hm], rfl⟩
  | vals xs =>
    simp only [setCol] at h
    cases ho : oneB v with
    | false => rw [ho] at h; simp at h
    | true =>
      rw [ho] at h
      simp only [cond_true, Option.some.injEq] at h
      subst h
      obtain ⟨k1, k2⟩ := key xs v undef hi
      exact ⟨by simp [Col.len], by simp only [Col.at]; rw [k1], fun m hm => by simp only [Col.at]; rw [k2 m hm], oneB_one ho⟩
theorem setCols_spec {i n : Nat} (hi : i < n) : ∀ {off : Nat} {cols cols' : List Col} {vs : List Value}, setCols i off cols vs = some cols' → (∀ c ∈ cols, c.len = n) →
    cols'.length = cols.length ∧ (∀ c ∈ cols', c.len = n) ∧ (vs = [] ∨ off + vs.length ≤ cols.length) ∧ (∀ v ∈ vs, v.oneCell' = true) ∧
    ∀ (j : Nat) (c' : Col), cols'[j]? = some c' → ∃ c, cols[j]? = some c ∧ ∀ m, c'.at m = if m = i ∧ off ≤ j ∧ j < off + vs.length then vs.getD (j - off) undef else c.at m
  | off, cols, cols', [], h, hn => by
    have : cols' = cols := by cases off <;> cases cols <;> simp [setCols] at h <;> first | exact h.symm | exact h
    subst this
    refine ⟨rfl, hn, .inl rfl, by simp, fun j c' hj => ⟨c', hj, fun m => ?_⟩⟩
    rw [if_neg (by simp only [List.length_nil]; omega)]
  | 0, c :: cs, cols', v :: vs, h, hn => by
    simp only [setCols] at h
    split at h
    · rename_i c1 cs1 hc hr
      injection h with h; subst h
      have hcn := hn c (by simp)
      obtain ⟨a1, a2, a3, a4⟩ := setCol_spec hc (by omega)
      obtain ⟨h1, h2, h3, h4, h5⟩ := setCols_spec hi hr (fun c hc => hn c (by simp [hc]))
      refine ⟨by simp [h1], fun x hx => ?_, .inr ?_, fun x hx => ?_, fun j c' hj => ?_⟩
      · simp only [List.mem_cons] at hx
        rcases hx with rfl | hx
        · omega
        · exact h2 x hx
      · rcases h3 with h3 | h3
        · subst h3; simp
        · simp only [List.length_cons]; omega
      · simp only [List.mem_cons] at hx
        rcases hx with rfl | hx
        · exact a4
        · exact h4 x hx
      · cases j with
        | zero =>
          simp at hj; subst hj
          refine ⟨c, rfl, fun m => ?_⟩
          by_cases hm : m = i
          · subst hm; rw [if_pos (by simp), a2]; simp
          · rw [if_neg (by simp [hm]), a3 m hm]
        | succ j =>
          obtain ⟨c0, e1, e2⟩ := h5 j c' (by simpa using hj)
          refine ⟨c0, by simpa using e1, fun m => ?_⟩
          rw [e2 m]
          by_cases hm : m = i ∧ j < vs.length
          · rw [if_pos ⟨hm.1, by omega, by omega⟩, if_pos ⟨hm.1, by omega, by simp only [List.length_cons]; omega⟩]; simp
          · rw [if_neg (by intro h; exact hm ⟨h.1, by omega⟩), if_neg (by intro h; exact hm ⟨h.1, by have := h.2.2; simp only [List.length_cons] at this; omega⟩)]
    · cases h
  | off + 1, c :: cs, cols', v :: vs, h, hn => by
    simp only [setCols] at h
    split at h
    · rename_i cs1 hr
      injection h with h; subst h
      obtain ⟨h1, h2, h3, h4, h5⟩ := setCols_spec hi hr (fun c hc => hn c (by simp [hc]))
      refine ⟨by simp [h1], fun x hx => ?_, .inr ?_, h4, fun j c' hj => ?_⟩
      · simp only [List.mem_cons] at hx
        rcases hx with rfl | hx
        · exact hn _ (by simp)
        · exact h2 x hx
      · rcases h3 with h3 | h3
        · cases h3
        · simp only [List.length_cons] at h3 ⊢; omega
      · cases j with
        | zero =>
          simp at hj; subst hj
          exact ⟨c, rfl, fun m => by rw [if_neg (by omega)]⟩
        | succ j =>
          obtain ⟨c0, e1, e2⟩ := h5 j c' (by simpa using hj)
          refine ⟨c0, by simpa using e1, fun m => ?_⟩
          rw [e2 m]
          by_cases hm : m = i ∧ off ≤ j ∧ j < off + (v :: vs).length
          · rw [if_pos hm, if_pos ⟨hm.1, by omega, by omega⟩, Nat.add_sub_add_right]
          · rw [if_neg hm, if_neg (by intro h; exact hm ⟨h.1, by omega, by omega⟩)]
    · cases h
  | 0, [], _, _ :: _, h, _ => by simp [setCols] at h
  | off + 1, [], _, _ :: _, h, _ => by simp [setCols] at h

variable {σ : Type} (D : Addr → σ → Asn)

/-! ### Maps -/
theorem mlook_push {kk vk : IntKind} {i y : Int} {bn : Nat} : ∀ (es : List MapEntry), (∀ e ∈ es, ∃ x y, e.key = .int kk x ∧ e.val = .int vk y) → mlook es i = none → ∀ x, mlook (es ++ [⟨.int kk i, .int vk y, bn⟩]) x = bif x == i then some y else mlook es x
  | [], _, _, x => by simp [mlook]
  | e :: es, h, hn, x => by
    obtain ⟨z, u, hk, hv⟩ := h e (by simp)
    simp only [mlook, hk, hv] at hn
    have hiz : (i == z) = false := by
      cases hb : i == z with
      | false => rfl
      | true => rw [hb] at hn; simp at hn
    rw [hiz] at hn
    have ih := mlook_push (kk := kk) (vk := vk) (i := i) (y := y) (bn := bn) es (fun e he => h e (by simp [he])) hn x
    simp only [List.cons_append, mlook, hk, hv, ih]
    cases hxz : x == z with
    | false => rfl
    | true =>
      have : x = z := by simpa using hxz
      subst this
      have : (x == i) = false := by simp at hiz ⊢; exact fun e => hiz e.symm
      rw [this]; rfl
theorem mlook_modify {kk vk : IntKind} {i y : Int} {g : MapEntry → MapEntry} (hg : ∀ e, (g e).key = .int kk i ∧ (g e).val = .int vk y) : ∀ (es : List MapEntry) (j : Nat) (e : MapEntry), (∀ e ∈ es, ∃ x y, e.key = .int kk x ∧ e.val = .int vk y) → es[j]? = some e → e.key = .int kk i →
    (∀ j', j' < j → ∀ e', es[j']? = some e' → e'.key ≠ .int kk i) → ∀ x, mlook (es.modify j g) x = bif x == i then some y else mlook es x
  | [], j, e, _, hj, _, _, x => by simp at hj
  | e0 :: es, 0, e, h, hj, hk, hf, x => by
    simp at hj; subst hj
    obtain ⟨z, u, hk', hv⟩ := h e0 (by simp)
    rw [hk] at hk'; injection hk' with _ hk'; subst hk'
    simp only [List.modify_zero_cons, mlook, (hg e0).1, (hg e0).2, hk, hv]
    cases x == i <;> rfl
  | e0 :: es, j + 1, e, h, hj, hk, hf, x => by
    obtain ⟨z, u, hk', hv⟩ := h e0 (by simp)
    have ih := mlook_modify hg es j e (fun e he => h e (by simp [he])) (by simpa using hj) hk (fun j' hj' e' he' => hf (j' + 1) (by omega) e' (by simpa using he')) x
    simp only [List.modify_succ_cons, mlook, hk', hv, ih]
    cases hxz : x == z with
    | false => rfl
    | true =>
      have : x = z := by simpa using hxz
      subst this
      have hne := hf 0 (by omega) e0 rfl
      rw [hk'] at hne
      have : (x == i) = false := by
        simp only [beq_eq_false_iff_ne, ne_eq]
        rintro rfl; exact hne rfl
      rw [this]; rfl

section
variable {P : Program} {f : FuncId} {R : Ending → World → Prop} {n : Nat} {E : World} {G : Hp} {L : List Ent} {K : List (Chunk σ)} {o : Oper} {a : Act} {w : World}

theorem mapKs_spec {t : TypeId} {kk vk : IntKind} (h : mapKs P t = some (kk, vk)) : ∃ kt et, P.underlying t = some (.map kt et) ∧ P.underlying kt = some (.int kk) := by
  unfold mapKs at h
  split at h
  · rename_i kt et hu
    split at h
    · rename_i kk' vk' h1 h2
      simp only [Option.some.injEq, Prod.mk.injEq] at h
      obtain ⟨rfl, rfl⟩ := h
      exact ⟨kt, et, hu, h1⟩
    · cases h
  · cases h
theorem mapUpdate_run {t : TypeId} {m i x : Operand} {b clock : Nat} {kk vk : IntKind} {iv xv : Int} {kt et : TypeId} {es : Array MapEntry} {f : Int → Option Int} (hop : o.op = .mapUpdate t m i x) (hm : a.eval m = .map (some b)) (hi : a.eval i = .int kk iv) (hx : a.eval x = .int vk xv)
    (hu : P.underlying t = some (.map kt et)) (hkt : P.underlying kt = some (.int kk)) (hb : w.heap[b]? = some (.map es clock)) (hM : MapIs kk vk es.toList f) :
    ∃ es' clock', (execOp a.eval o).run P w = .ok .skip { w with heap := w.heap.setIfInBounds b (.map es' clock') } ∧ MapIs kk vk es'.toList (mupd f iv xv) := by
  have hck : (Instr.checkKey false 10000 kt (.int kk iv)).run P w = .ok () w := by
    unfold Instr.checkKey
    simp only [Sem.run_bind, run_underlying hkt, Result.andThen_ok, Sem.run_pure]
  rcases findNow_int (k := kk) (i := iv) es.toList 0 hM.1 with ⟨h1, h2, h3⟩ | ⟨j, e, y, h1, h2, h3, h4, h5⟩
  · have hf : (Instr.findKey kt (.int kk iv) es.toList).run P w = .ok none w := by simp [Instr.findKey, run_underlying hkt, h1]
    refine ⟨es.push ⟨.int kk iv, .int vk xv, clock⟩, clock + 1, ?_, ?_, fun z => ?_⟩
    · simp only [execOp, hop, hm, hi, hx, Instr.mapUpdate, Sem.run_bind, run_underlying hu, Result.andThen_ok, MapKept.run_getObj_map hb, hck, hf, MapKept.run_setObj_map _ hb, Sem.run_pure]
    · intro e he
      simp only [Array.toList_push, List.mem_append, List.mem_singleton] at he
      rcases he with he | rfl
      · exact hM.1 e he
      · exact ⟨iv, xv, rfl, rfl⟩
    · rw [Array.toList_push, mlook_push es.toList hM.1 h2, hM.2 z]; rfl
  · have hf : (Instr.findKey kt (.int kk iv) es.toList).run P w = .ok (some (0 + j, .int vk y)) w := by simp [Instr.findKey, run_underlying hkt, h1]
    have hj : es[0 + j]? = some e := by simpa using h3
    refine ⟨es.modify (0 + j) fun e => { e with key := .int kk iv, val := .int vk xv }, clock, ?_, ?_, fun z => ?_⟩
    · have hst : (Instr.keyThatStays (((es[0 + j]?).map (·.key)).getD (.int kk iv)) (.int kk iv)).run P w = .ok (.int kk iv) w := by
        rw [hj]
        simp only [Option.map_some, Option.getD_some, h4]
        exact MapKept.run_keyThatStays (d := .int kk) (by simp [MapKept.IsKey])
      simp only [execOp, hop, hm, hi, hx, Instr.mapUpdate, Sem.run_bind, run_underlying hu, Result.andThen_ok, MapKept.run_getObj_map hb, hck, hf, hst, MapKept.run_setObj_map _ hb, Sem.run_pure]
    · intro e' he'
      rw [Array.toList_modify] at he'
      obtain ⟨k, hk⟩ := List.getElem?_of_mem he'
      rw [List.getElem?_modify] at hk
      cases hq : es.toList[k]? with
      | none => rw [hq] at hk; cases hk
      | some e0 =>
        rw [hq] at hk
        simp only [Option.map_eq_map, Option.map_some, Option.some.injEq] at hk
        subst hk
        by_cases hjk : 0 + j = k
        · simp only [hjk, if_true]; exact ⟨iv, xv, rfl, rfl⟩
        · simp only [hjk, if_false, id]; exact hM.1 e0 (List.mem_of_getElem? hq)
    · rw [Array.toList_modify, Nat.zero_add, mlook_modify (fun e => ⟨rfl, rfl⟩) es.toList j e hM.1 h3 h4 h5, hM.2 z]; rfl

theorem oneCells_spec {vs : List Value} (h : oneCells vs = true) : ∀ v ∈ vs, v.oneCell' = true := fun v hv => by
  unfold oneCells at h
  rw [List.all_eq_true] at h
  exact oneB_one (h v hv)

theorem storeAt_run {t : TypeId} {x y : Operand} {b off m : Nat} {t0 : TypeId} {cur : Array Value} (h : o.op = .store t x y) (hx : a.eval x = .pointer (some ⟨b, off, none⟩)) (hm : sizeP P t = some m) (hsz : (a.eval y).cells.size = m)
    (hb : w.heap[b]? = some (.cells cur t0 (0, 0))) (hfit : off + m ≤ cur.size) (h1 : ∀ v ∈ (a.eval y).cells.toList, v.oneCell' = true) :
    (execOp a.eval o).run P w = .ok .skip (w.setRow b (cur.toList.take off ++ (a.eval y).cells.toList ++ cur.toList.drop (off + m)).toArray) := by
  have hst := run_storeCells_at (P := P) b off t0 (a.eval y).cells.toList 0 cur w hb (by simpa [hsz] using hfit) h1
  simp only [Nat.add_zero, Array.length_toList, hsz] at hst
  simp [execOp, h, hx, Instr.storeAt, Instr.sureAddr, storeVar, sizeP_run hm, hsz, hst]


end
end Go.Sl
