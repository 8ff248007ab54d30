/-
  DERIVED. The symbolic machine of SlB is right, 6: operations that make and write memory; the machine itself. No program is named.
-/
import Derived.Test.YtonfbgombglngaaSlG
import Derived.Maps.AppendAt
namespace Go.Sl
open Go.RowKit

variable {σ : Type} (D : Addr → σ → Asn)

section
variable {P : Program} {f : FuncId} {R : Ending → World → Prop} {n : Nat} {E : World} {G : Hp} {L : List Ent} {K : List (Chunk σ)} {o : Oper} {a : Act} {w : World}

theorem partVals_ok (hF : Fr n L K a) : ∀ (parts : List (Nat × Operand)) (vals : List (Nat × Value)), partVals L parts = some vals → (parts.map fun x => (x.1, a.eval x.2)) = vals
  | [], vals, h => by simp only [partVals, Option.some.injEq] at h; subst h; rfl
  | (i, x) :: r, vals, h => by
    simp only [partVals] at h
    split at h
    · rename_i v vs hv hr
      injection h with h; subst h
      simp only [List.map_cons]
      rw [val_sound (g := none) hF trivial hv, partVals_ok hF r vs hr]
    · cases h

theorem buildSlice_run {t e : TypeId} {len sz : Nat} {parts : Array (Nat × Value)} {ei : TypeInfo} {z : Value} {cells : Array Value} (hu : P.underlying t = some (.slice e)) (hs : sizeP P e = some sz) (hi : P.info? e = some ei) (hz : ei.zero = some z) (hb : len * sz ≤ 16777216)
    (hf : Instr.fill (fun i => some (i * sz, sz)) ((Array.range (len * sz)).map ((bif Nat.beq (len * sz) 0 then #[] else z.cells)[· % (bif Nat.beq (len * sz) 0 then #[] else z.cells).size]!)) parts.toList = some cells) :
    (Instr.buildSlice t len parts).run P w = .ok (.slice (some ⟨w.heap.size, 0, none⟩) len len) (w.alloc (.cells cells e)) := by
  unfold Instr.buildSlice
  have n1 : ¬ (len * sz > 2 ^ 24) := by omega
  simp only [Sem.run_bind, run_underlying hu, Result.andThen_ok, sizeP_run hs, n1, if_false]
  cases hq : Nat.beq (len * sz) 0 with
  | true =>
    rw [hq] at hf
    rw [if_pos (Nat.eq_of_beq_eq_true hq)]
    simp only [Sem.run_bind, Sem.run_pure, Result.andThen_ok]
    simp only [cond_true] at hf
    rw [hf]
    simp [newRow]
  | false =>
    rw [hq] at hf
    rw [if_neg (fun h => by rw [h] at hq; simp at hq)]
    simp only [Sem.run_bind, zeroValue, typeInfo, run_program, Result.andThen_ok, hi, hz, Sem.run_pure]
    simp only [cond_false] at hf
    rw [hf]
    simp [newRow]

/-- One element of a row that is given anew. -/
theorem flat_set {cols cols' : List Col} {len i off m : Nat} {vs cur : List Value} (hi : i < len) (hl : cols'.length = cols.length) (hm : vs.length = m) (hfit : off + m ≤ cols.length) (hcl : len * cols.length ≤ cur.length) (hcur : cur.take (len * cols.length) = flat cols len)
    (hset : ∀ (j : Nat) (c' : Col), cols'[j]? = some c' → ∃ c, cols[j]? = some c ∧ ∀ m', c'.at m' = if m' = i ∧ off ≤ j ∧ j < off + vs.length then vs.getD (j - off) undef else c.at m') :
    (cur.take (i * cols.length + off) ++ vs ++ cur.drop (i * cols.length + off + m)).take (len * cols.length) = flat cols' len := by
  have hi1 : i * cols.length + cols.length ≤ len * cols.length := by
    have : (i + 1) * cols.length ≤ len * cols.length := Nat.mul_le_mul_right _ hi
    rw [Nat.succ_mul] at this; exact this
  apply List.ext_getElem?
  intro k
  by_cases hk : k < len * cols.length
  · have hs : 0 < cols.length := by
      rcases Nat.eq_zero_or_pos cols.length with h | h
      · rw [h] at hk; simp at hk
      · exact h
    have hkd : k = k / cols.length * cols.length + k % cols.length := by rw [Nat.mul_comm]; exact (Nat.div_add_mod k cols.length).symm
    have hj : k % cols.length < cols.length := Nat.mod_lt _ hs
    have hi' : k / cols.length < len := Nat.div_lt_of_lt_mul (by rw [Nat.mul_comm]; exact hk)
    generalize k / cols.length = i' at *
    generalize k % cols.length = j at *
    subst hkd
    obtain ⟨c2, hc'⟩ : ∃ c2, cols'[j]? = some c2 := ⟨_, List.getElem?_eq_getElem (by omega)⟩
    obtain ⟨c, hc, hat⟩ := hset j _ hc'
    have hold := flat_get hi' hc
    rw [← hcur, List.getElem?_take, if_pos hk] at hold
    have hnew := flat_get hi' hc'
    rw [hl] at hnew
    rw [hnew, hat i', List.getElem?_take, if_pos hk]
    rcases Nat.lt_trichotomy i' i with h | h | h
    · have : (i' + 1) * cols.length ≤ i * cols.length := Nat.mul_le_mul_right _ h
      rw [Nat.succ_mul] at this
      rw [if_neg (by omega), List.append_assoc, List.getElem?_append_left (by simp; omega), List.getElem?_take, if_pos (by omega)]
      exact hold
    · subst h
      by_cases hin : off ≤ j ∧ j < off + m
      · rw [if_pos ⟨rfl, hin.1, by omega⟩, List.append_assoc, List.getElem?_append_right (by simp; omega), List.getElem?_append_left (by simp; omega)]
        simp only [List.length_take]
        rw [show i' * cols.length + j - min (i' * cols.length + off) cur.length = j - off by omega, List.getD_eq_getElem?_getD, List.getElem?_eq_getElem (by omega : j - off < vs.length)]
        rfl
      · rw [if_neg (by intro h; exact hin ⟨h.2.1, by omega⟩)]
        by_cases hlt : j < off
        · rw [List.append_assoc, List.getElem?_append_left (by simp; omega), List.getElem?_take, if_pos (by omega)]
          exact hold
        · rw [List.getElem?_append_right (by simp; omega), List.getElem?_drop]
          simp only [List.length_append, List.length_take]
          rw [show i' * cols.length + off + m + (i' * cols.length + j - (min (i' * cols.length + off) cur.length + vs.length)) = i' * cols.length + j by omega]
          exact hold
    · have : (i + 1) * cols.length ≤ i' * cols.length := Nat.mul_le_mul_right _ h
      rw [Nat.succ_mul] at this
      rw [if_neg (by omega), List.getElem?_append_right (by simp; omega), List.getElem?_drop]
      simp only [List.length_append, List.length_take]
      rw [show i * cols.length + off + m + (i' * cols.length + j - (min (i * cols.length + off) cur.length + vs.length)) = i' * cols.length + j by omega]
      exact hold
  · rw [List.getElem?_eq_none (by simp; omega), List.getElem?_eq_none (by rw [flat_len, hl]; omega)]

/-- A row that has just been made. -/
theorem den_made {G h : Hp} {b : Nat} {t : TypeId} {m cap : Nat} {cols : List Col} {cells : Array Value} (hh : h b = some (.cells cells t (0, 0))) (h1 : ∀ c ∈ cols, c.len = m) (h2 : 0 < cols.length) (h3 : m ≤ cap) (h4 : cap ≤ maxLen) (h5 : cells.size = cap * cols.length)
    (h6 : cells.toList.take (m * cols.length) = flat cols m) : den D G (.row (some b) t m cap cols) h := ⟨h1, h2, cells, hh, h3, h4, h5, h6⟩

theorem SatK.alloc_row {b : Nat} {t : TypeId} {m cap : Nat} {cols : List Col} {cells : Array Value} (hS : SatK D E G w K) (hb : b = w.heap.size) (h1 : ∀ c ∈ cols, c.len = m) (h2 : 0 < cols.length) (h3 : m ≤ cap) (h4 : cap ≤ maxLen) (h5 : cells.size = cap * cols.length)
    (h6 : cells.toList.take (m * cols.length) = flat cols m) : SatK D E G (w.alloc (.cells cells t)) (K ++ [.row (some b) t m cap cols]) := by
  have := Sat.alloc hS (.cells cells t)
  unfold SatK
  rw [List.map_append]
  refine this.imp fun i B hB => ?_
  rcases Nat.lt_or_ge i (K.map (den D G)).length with hl | hl
  · rw [List.getElem?_append_left hl] at hB
    exact ⟨B, by rw [List.getElem?_append_left hl]; exact hB, fun _ h => h⟩
  · rw [List.getElem?_append_right hl] at hB
    have hz : i - (K.map (den D G)).length = 0 := by have := lt_of_get hB; simp only [List.map_cons, List.map_nil, List.length_singleton] at this; omega
    rw [hz] at hB
    simp only [List.map_cons, List.map_nil, List.getElem?_cons_zero, Option.some.injEq] at hB
    refine ⟨pt w.heap.size (.cells cells t), ?_, ?_⟩
    · rw [List.getElem?_append_right hl, hz]; rfl
    · subst hB
      intro p hp
      subst hb
      exact den_made D hp h1 h2 h3 h4 h5 h6

theorem KOk.row {b : Option Nat} {t : TypeId} {m cap : Nat} {cols : List Col} (h : KOk K) : KOk (K ++ [.row b t m cap cols]) :=
  h.append fun b t cs hm => by simp at hm

theorem freshRows_holds {R' : Value → Pr → List (Chunk σ) → Prop} {S' : List Ab → List Ent → List (Chunk σ) → Prop} : ∀ {rows : List (Mk σ)} {k : List (Option Nat × Nat) → Tree σ}, (freshRows rows k).holds R' S' → ∀ acs, acsOk rows acs → (k acs).holds R' S'
  | [], k, h, [], _ => h
  | [], k, h, _ :: _, hl => hl.elim
  | _ :: _, k, h, [], hl => by simp [acsOk] at hl
  | .row _ _ :: rs, k, h, (x, y) :: acs, hl => freshRows_holds (h x y) acs hl.2
  | .obj _ :: rs, k, h, (x, y) :: acs, hl => by
    obtain ⟨⟨b, hb⟩, hl2⟩ := hl
    injection hb with h1 h2
    subst h1; subst h2
    exact freshRows_holds (h b) acs hl2

theorem no_cells_rows (rows : List (Mk σ)) (acs : List (Option Nat × Nat)) : ∀ b t cs, Chunk.cells (σ := σ) b t cs ∉ List.zipWith sliceC rows acs := fun b t cs hm => by
  obtain ⟨i, hi⟩ := List.getElem?_of_mem hm
  rw [List.getElem?_zipWith] at hi
  cases h1 : rows[i]? with
  | none => simp [h1] at hi
  | some r =>
    cases h2 : acs[i]? with
    | none => simp [h1, h2] at hi
    | some ac =>
      obtain ⟨x, y⟩ := ac
      cases r with
      | row t cols => simp [h1, h2, sliceC] at hi
      | obj s => cases x <;> simp [h1, h2, sliceC] at hi

theorem run_append_none (t ty e : TypeId) (i : TypeInfo) (ht : P.underlying t = some (.slice e)) (hi : P.info? e = some i) (base : Option Addr) (n cap c : Nat) (hn : n ≤ cap) :
    (Builtin.append_ #[t, t] ty #[.slice base n cap, .slice none 0 c]).run P w = .ok (.slice base n cap) w := by
  cases base <;> simp [Builtin.append_, run_underlying ht, sizeOf, typeInfo, hi, Builtin.lenOf, Builtin.firstCells, hn, storeCells]

theorem den_src {h : Hp} {a : Option Addr} {m : Nat} {cols : List Col} (hR : RowAt h a m cols) {b : Addr} (ha : a = some b) : ∀ (j : Nat) u, (flat cols m)[j]? = some u → cellOf h (b.add j) = some u := by
  intro j u hj
  have hjl := lt_of_get hj
  rw [flat_len] at hjl
  have hs : 0 < cols.length := by
    rcases Nat.eq_zero_or_pos cols.length with h0 | h0
    · rw [h0] at hjl; simp at hjl
    · exact h0
  have hkd : j = j / cols.length * cols.length + j % cols.length := by rw [Nat.mul_comm]; exact (Nat.div_add_mod j cols.length).symm
  have hjm : j % cols.length < cols.length := Nat.mod_lt _ hs
  have hi' : j / cols.length < m := Nat.div_lt_of_lt_mul (by rw [Nat.mul_comm]; exact hjl)
  obtain ⟨c2, hc2⟩ : ∃ c2, cols[j % cols.length]? = some c2 := ⟨_, List.getElem?_eq_getElem hjm⟩
  have hg := flat_get hi' hc2
  rw [← hkd, hj] at hg
  injection hg with hg
  obtain ⟨b', hb', hcell⟩ := hR.2.1 _ hi'
  rw [ha] at hb'; injection hb' with hb'; subst hb'
  have := hcell _ _ hc2
  rw [← hkd] at this
  rw [this, hg]

/-- What append comes to. -/
theorem append_step (hF : Fr n L K a) (hS : SatK D E G w K) {s x : Operand} {t e ty : TypeId} {ei : TypeInfo} {z : Value} {kd : Option Nat} {len m ks : Nat} {cols cols2 cols' : List Col} (hu : P.underlying t = some (.slice e)) (hei : P.info? e = some ei) (hz : ei.zero = some z)
    (hd : appDest P L K e s = some (kd, len, cols)) (hs : appSrc L K x = some (ks, m, cols2)) (hne : neK kd ks = true) (happ : appCols cols cols2 = some cols') (q1 : ei.size = cols.length) (q1' : ei.size = cols2.length) (q2 : 1 ≤ ei.size) (q3 : 1 ≤ ei.bytes) (q4 : z.cells.size = ei.size) (q5 : cols2.all colB = true)
    (hbytes : (len + m) * ei.bytes ≤ 140737488355328) :
    ∃ a' cap w', (Builtin.append_ #[t, t] ty #[a.eval s, a.eval x]).run P w = .ok (sliceVal a' (len + m) cap) w' ∧ SatK D E G w' (killK K kd ++ [.row a' e (len + m) cap cols']) := by
  have hpx := prov_sound (x := x) (g := none) hF trivial
  have hps := prov_sound (x := s) (g := none) hF trivial
  have hlm : len + m ≤ maxLen := by
    have : (len + m) * 1 ≤ (len + m) * ei.bytes := Nat.mul_le_mul_left _ q3
    unfold maxLen; omega
  -- the source
  obtain ⟨ad, c, hex, hR⟩ : ∃ ad c, a.eval x = .slice ad m c ∧ (∃ p : Hp, p.sub w ∧ RowAt p ad m cols2) := by
    unfold appSrc at hs
    split at hs
    · rename_i b0 n0 c0 k hv hp
      rw [hp, pOk_pt] at hpx
      obtain ⟨ch, hk, hc⟩ := hpx
      split at hs
      · rename_i a1 t1 n1 cap1 cols1 hk'
        rw [hk'] at hk; injection hk with hk; subst hk
        simp only [Option.some.injEq, Prod.mk.injEq] at hs
        obtain ⟨rfl, rfl, rfl⟩ := hs
        obtain ⟨p, hp, hsub⟩ := hS.get D hk'
        exact ⟨_, _, hc, p, hsub, den_row D hp⟩
      · rename_i a1 n1 cap1 cols1 hk'
        rw [hk'] at hk; injection hk with hk; subst hk
        simp only [Option.some.injEq, Prod.mk.injEq] at hs
        obtain ⟨rfl, rfl, rfl⟩ := hs
        obtain ⟨p, hp, _⟩ := hS.get D hk'
        exact ⟨_, _, hc, G, hS.G, hp.1⟩
      · cases hs
    · cases hs
  obtain ⟨p2, hsub2, hR2⟩ := hR
  have hnews : ∀ b, ad = some b → ∀ (j : Nat) u, (flat cols2 m)[j]? = some u → w.cell? (b.add j) = some u := fun b hb j u hj => cell_of_sub hsub2 (den_src hR2 hb j u hj)
  -- the destination
  obtain ⟨a1, cap1, hes, hcl, hc0, hown, hkk, hrow⟩ : ∃ a1 cap1, a.eval s = sliceVal a1 len cap1 ∧ (∀ c ∈ cols, c.len = len) ∧ len ≤ cap1 ∧ w.ownsRow 0 e ei.size (sliceVal a1 len cap1) len (flat cols len) ∧
      (∀ k, kd = some k → ∃ t1, K[k]? = some (.row a1 t1 len cap1 cols)) ∧ (∀ g, a1 = some g → ∃ k, kd = some k) := by
    unfold appDest at hd
    split at hd
    · rename_i hp hv
      split at hd
      · rename_i cols0 hcols
        simp only [Option.some.injEq, Prod.mk.injEq] at hd
        obtain ⟨rfl, rfl, rfl⟩ := hd
        refine ⟨none, 0, val_sound (g := none) hF trivial hv, colsT_len 4 e _ hcols, Nat.le_refl _, ?_, (fun k hk => by cases hk), (fun g hg => by cases hg)⟩
        exact World.ownsRow_nil w 0 e ei.size
      · cases hd
    · rename_i k b0 n0 c0 hp hv
      rw [hp, pOk_pt] at hps
      obtain ⟨ch, hk, hc⟩ := hps
      split at hd
      · rename_i a1 t1 n1 cap1 cols1 hk'
        rw [hk'] at hk; injection hk with hk; subst hk
        cases hte : Nat.beq t1 e with
        | false => rw [hte] at hd; simp at hd
        | true =>
          rw [hte] at hd
          simp only [cond_true, Option.some.injEq, Prod.mk.injEq] at hd
          obtain ⟨rfl, rfl, rfl⟩ := hd
          have hte' := Nat.eq_of_beq_eq_true hte
          subst hte'
          obtain ⟨p, hp, hsub⟩ := hS.get D hk'
          obtain ⟨d1, d2, d3⟩ := hp
          refine ⟨a1, cap1, hc, d1, ?_, ?_, (fun k' hk'' => by injection hk'' with e'; subst e'; exact ⟨_, hk'⟩), fun g _ => ⟨_, rfl⟩⟩
          · cases a1 with
            | none => simp only at d3; omega
            | some g => obtain ⟨_, _, h, _⟩ := d3; exact h
          · cases a1 with
            | none =>
              obtain ⟨rfl, rfl⟩ := d3
              exact World.ownsRow_nil w 0 t1 ei.size
            | some g =>
              obtain ⟨cur, e1, e2, e3, e4, e5⟩ := d3
              exact ⟨by rw [flat_len, q1], .inr ⟨g, cap1, cur, rfl, Nat.zero_le _, hsub _ _ e1, e2, e3, by rw [q1]; exact e4, by rw [q1]; exact e5⟩⟩
      · cases hd
    · cases hd
  obtain ⟨f1, f2, f3, f4, f5⟩ := appCols_spec happ hcl hR2.1
  have hflat : flat cols' (len + m) = flat cols len ++ flat cols2 m := flat_append f4 f5
  -- what the list of chunks becomes
  have close : ∀ (a' : Option Nat) (cap : Nat) (w' : World), w'.ownsRow 0 e ei.size (sliceVal a' (len + m) cap) (len + m) (flat cols' (len + m)) → w.grownBy w' a1 → (a' = a1 ∨ a' = some w.heap.size) → (a' = none → len + m = 0 ∧ cap = 0) →
      SatK D E G w' (killK K kd ++ [.row a' e (len + m) cap cols']) := by
    intro a' cap w' ho hg hloc hnil
    have hcells : ∀ g, a' = some g → ∃ cur, w'.heap[g]? = some (.cells cur e (0, 0)) ∧ len + m ≤ cap ∧ cap ≤ maxLen ∧ cur.size = cap * ei.size ∧ cur.toList.take ((len + m) * ei.size) = flat cols' (len + m) := fun g hg' => by
      subst hg'
      rcases ho.2 with ⟨h0, _⟩ | ⟨g', cap', cur, h0, _, h1, h2, h3, h4, h5⟩
      · simp [sliceVal] at h0
      · simp only [sliceVal, Option.map_some, Value.slice.injEq, Option.some.injEq, Addr.mk.injEq] at h0
        obtain ⟨⟨rfl, _⟩, _, rfl⟩ := h0
        exact ⟨cur, h1, h2, h3, h4, h5⟩
    unfold SatK
    rw [List.map_append]
    refine Sat.grown hS kd a1 a' hg (fun g hg' => ?_) hloc (fun g hg' => ?_) _ (fun p hp => ?_) _ ?_ (fun i A hA => ?_)
    · obtain ⟨k, hk⟩ := hrow g hg'
      obtain ⟨t1, hk1⟩ := hkk k hk
      refine ⟨k, _, hk, map_den_get D hk1, fun p hp => ?_⟩
      subst hg'
      obtain ⟨_, _, cur, h1, _⟩ := hp
      rw [h1]; simp
    · obtain ⟨cur, h1, _⟩ := hcells g hg'; exact lt_of_heap h1
    · refine ⟨f3, by omega, ?_⟩
      cases a' with
      | none => exact hnil rfl
      | some g =>
        obtain ⟨cur, h1, h2, h3, h4, h5⟩ := hcells g rfl
        exact ⟨cur, by rw [hp g rfl, h1], h2, h3, by rw [f1, ← q1]; exact h4, by rw [f1, ← q1]; exact h5⟩
    · cases kd <;> simp [killK]
    · cases kd with
      | none => exact .inr ⟨by simp, hA⟩
      | some k =>
        simp only [killK, List.map_set] at hA
        by_cases hki : k = i
        · subst hki
          have hlt : k < (K.map (den D G)).length := by have := lt_of_get hA; simpa using this
          rw [List.getElem?_set_self hlt] at hA
          injection hA with hA; subst hA
          exact .inl fun _ => trivial
        · rw [List.getElem?_set_ne hki] at hA
          exact .inr ⟨fun e => hki (by injection e with e; exact e.symm), hA⟩
  rw [hes, hex]
  cases ad with
  | none =>
    have hm0 : m = 0 := by
      rcases Nat.eq_zero_or_pos m with h0 | h0
      · exact h0
      · obtain ⟨b, hb, _⟩ := hR2.2.1 0 h0; cases hb
    subst hm0
    refine ⟨a1, cap1, w, ?_, close a1 cap1 w ?_ ⟨rfl, rfl, rfl, Nat.le_refl _, fun _ _ _ => rfl⟩ (.inl rfl) fun h => ?_⟩
    · exact run_append_none t ty e ei hu hei _ len cap1 c hc0
    · rw [hflat]; simpa [flat] using hown
    · subst h
      rcases hown.2 with ⟨h1, h2⟩ | ⟨g, _, _, h1, _⟩
      · simp only [sliceVal, Value.slice.injEq] at h1; exact ⟨h2, h1.2.2⟩
      · simp [sliceVal] at h1
  | some b =>
    obtain ⟨v', w', hrun, hown', hgrow, hnil, hloc⟩ := run_append_own_at (P := P) w 0 t ty e ei z ei.size ei.bytes hu hei hz rfl rfl q4 (by omega) (sliceVal a1 len cap1) len (flat cols len) hown b m c (flat cols2 m) (by rw [flat_len, q1']) (hnews b rfl) (colB_one q5) hlm hbytes (Nat.zero_le _)
    rw [← hflat] at hown'
    have hob : ∀ (a : Option Nat) n c, (sliceVal a n c).ownBlock = a := fun a n c => by cases a <;> rfl
    obtain ⟨a', cap, rfl, hnn⟩ : ∃ a' cap, v' = sliceVal a' (len + m) cap ∧ (a' = none → len + m = 0 ∧ cap = 0) := by
      rcases hown'.2 with ⟨rfl, h0⟩ | ⟨g, cap, _, rfl, _⟩
      · exact ⟨none, 0, by rw [h0]; rfl, fun _ => ⟨h0, rfl⟩⟩
      · exact ⟨some g, cap, rfl, fun h => by cases h⟩
    rw [hob, hob] at hloc
    rw [hob] at hgrow
    exact ⟨a', cap, w', hrun, close a' cap w' hown' hgrow hloc hnn⟩

/-- What one assertion owns goes to another one, at the list's end; one that owns nothing is added. -/
theorem Sat.moved {E : World} {G : Hp} {w : World} {As : List Asn} (h : Sat E G w As) {i : Nat} {A B T : Asn} (hi : As[i]? = some A) (hB : ∀ k : Hp, A k → B k) (hT : ∀ k : Hp, T k) : Sat E G w (As.set i T ++ [B]) := by
  obtain ⟨h1, h2, o, h3, h4⟩ := h
  have hil := lt_of_get hi
  refine ⟨h1, h2, fun b => if o b = some i then some As.length else if o b = some As.length then none else o b, fun b j hb => ?_, fun j C hj => ?_⟩
  · dsimp only at hb
    split at hb
    · rename_i e; exact h3 b i e
    · split at hb
      · cases hb
      · exact h3 b j hb
  · rcases Nat.lt_or_ge j As.length with hlt | hge
    · rw [List.getElem?_append_left (by simpa using hlt)] at hj
      by_cases hij : i = j
      · subst hij
        rw [List.getElem?_set_self hlt] at hj
        injection hj with hj
        subst hj
        exact hT _
      · rw [List.getElem?_set_ne hij] at hj
        have : part w (fun b => if o b = some i then some As.length else if o b = some As.length then none else o b) j = part w o j := part_congr fun b => ⟨⟨fun hb => by
          split at hb
          · injection hb with hb; omega
          · split at hb
            · cases hb
            · exact hb, fun hb => by
          rw [if_neg (fun e => by rw [hb] at e; injection e with e; omega), if_neg (fun e => by rw [hb] at e; injection e with e; omega)]
          exact hb⟩, fun _ => rfl⟩
        rw [this]; exact h4 j C hj
    · rw [List.getElem?_append_right (by simpa using hge)] at hj
      have hj0 : j = As.length := by
        rcases Nat.eq_or_lt_of_le hge with h' | h'
        · exact h'.symm
        · rw [List.getElem?_eq_none (by simp; omega)] at hj; cases hj
      subst hj0
      simp at hj
      subst hj
      have : part w (fun b => if o b = some i then some As.length else if o b = some As.length then none else o b) As.length = part w o i := part_congr fun b => ⟨⟨fun hb => by
          split at hb
          · assumption
          · split at hb
            · cases hb
            · rename_i e; exact absurd hb e, fun hb => by rw [if_pos hb]⟩, fun _ => rfl⟩
      rw [this]; exact hB _ (h4 i A hi)
theorem Sat.added {E : World} {G : Hp} {w : World} {As : List Asn} (h : Sat E G w As) {B : Asn} (hB : ∀ k : Hp, B k) : Sat E G w (As ++ [B]) := by
  obtain ⟨h1, h2, o, h3, h4⟩ := h
  refine ⟨h1, h2, o, h3, fun j C hj => ?_⟩
  rcases Nat.lt_or_ge j As.length with hlt | hge
  · rw [List.getElem?_append_left hlt] at hj
    exact h4 j C hj
  · rw [List.getElem?_append_right hge] at hj
    have := List.mem_singleton.1 (List.mem_of_getElem? hj)
    rw [this]; exact hB _
theorem takeCol_spec (n : Nat) (c : Col) : (takeCol n c).len = min n c.len ∧ ∀ i, i < n → (takeCol n c).at i = c.at i := by
  have key : ∀ {α : Type} (xs : List α) (d : α) (i : Nat), i < n → (xs.take n).getD i d = xs.getD i d := fun xs d i hi => by
    rw [List.getD_eq_getElem?_getD, List.getD_eq_getElem?_getD, List.getElem?_take, if_pos hi]
  cases c <;> exact ⟨by simp [takeCol, Col.len], fun i hi => by simp only [takeCol, Col.at]; rw [key _ _ i hi]⟩
theorem takeCols_at {n : Nat} {cols : List Col} {i : Nat} (hi : i < n) : (cols.map (takeCol n)).map (·.at i) = cols.map (·.at i) := by
  rw [List.map_map]
  exact List.map_congr_left fun c _ => (takeCol_spec n c).2 i hi
theorem flat_take {cols : List Col} {i : Nat} : ∀ {m : Nat}, i ≤ m → (flat cols m).take (i * cols.length) = flat cols i
  | 0, h => by
    have : i = 0 := by omega
    subst this; simp [flat]
  | m + 1, h => by
    by_cases he : i = m + 1
    · subst he; rw [List.take_of_length_le]; rw [flat_len]; exact Nat.le_refl _
    · rw [flat_succ, List.take_append_of_le_length (by rw [flat_len]; exact Nat.mul_le_mul_right _ (by omega)), flat_take (by omega)]
theorem den_take {G h : Hp} {ra : Option Nat} {te : TypeId} {m cap i : Nat} {cols : List Col} (hi : i ≤ m) (H : den D G (.row ra te m cap cols) h) : den D G (.row ra te i cap (cols.map (takeCol i))) h := by
  obtain ⟨h1, h2, h3⟩ := H
  refine ⟨fun c hc => ?_, by simpa using h2, ?_⟩
  · obtain ⟨d, hd, rfl⟩ := List.mem_map.1 hc
    rw [(takeCol_spec i d).1, h1 d hd]; omega
  · cases ra with
    | none => simp only at h3 ⊢; omega
    | some b =>
      simp only at h3 ⊢
      obtain ⟨cs, h4, h5, h6, h7, h8⟩ := h3
      refine ⟨cs, h4, by omega, h6, by simpa using h7, ?_⟩
      rw [List.length_map, flat_congr (cols := cols) fun j hj => takeCols_at hj, ← flat_take hi, ← h8, List.take_take, Nat.min_eq_left (Nat.mul_le_mul_right _ hi)]
theorem rowAt_take {h : Hp} {a : Option Addr} {m i : Nat} {cols : List Col} (hi : i ≤ m) (H : RowAt h a m cols) : RowAt h a i (cols.map (takeCol i)) := by
  obtain ⟨h1, h2, h3⟩ := H
  refine ⟨fun c hc => ?_, fun j hj => ?_, by omega⟩
  · obtain ⟨d, hd, rfl⟩ := List.mem_map.1 hc
    rw [(takeCol_spec i d).1, h1 d hd]; omega
  · obtain ⟨b, hb, hc⟩ := h2 j (by omega)
    refine ⟨b, hb, fun k c hk => ?_⟩
    rw [List.getElem?_map] at hk
    cases hck : cols[k]? with
    | none => rw [hck] at hk; cases hk
    | some d =>
      rw [hck] at hk
      simp only [Option.map_some, Option.some.injEq] at hk
      subst hk
      rw [List.length_map, (takeCol_spec i d).2 j hj]
      exact hc k d hck
theorem slice_run {P : Program} {o : Oper} {a : Act} {w : World} {t e : TypeId} {x hx : Operand} {ad : Option Addr} {m cap sz : Nat} {k : IntKind} {i : Int} (hop : o.op = .slice t x none (some hx) none) (hu : P.underlying t = some (.slice e)) (hs : sizeP P e = some sz)
    (hv : a.eval x = .slice ad m cap) (hi : a.eval hx = .int k i) (h0 : 0 ≤ i) (h1 : i ≤ (cap : Int)) : (execOp a.eval o).run P w = .ok (.value (.slice ad i.toNat cap)) w := by
  have hel : P.elem t = e := by simp [Program.elem, hu]
  have hu' : P.underlying t = some (.slice (P.elem t)) := by rw [hel]; exact hu
  have hr := run_slice_h (w := w) t ad m cap hu' k i h0 h1
  have hsz := sizeP_run hs w
  rw [hel, hsz] at hr
  simp only [Result.andThen_ok] at hr
  have hadd : sliced ad 0 i.toNat cap sz = .slice ad i.toNat cap := by
    unfold sliced
    cases ad with
    | none => simp
    | some b => simp [Addr.add]
  rw [hadd] at hr
  simp only [execOp, hop, Sem.run_bind, Option.map_none, Option.map_some, hv, hi, run_sliceAt_slice w t _ _ _ _ hu', hr, Result.andThen_ok, Sem.run_pure]

/-- The cells that stand there stand there still. -/
def CKeep (K K' : List (Chunk σ)) : Prop := ∀ (k b : Nat) (t : TypeId) (cs : List (Value × Pr)), K[k]? = some (.cells b t cs) → K'[k]? = some (.cells b t cs)
theorem CKeep.append (K B : List (Chunk σ)) : CKeep K (K ++ B) := fun k b t cs h => by rw [List.getElem?_append_left (lt_of_get h)]; exact h
theorem CKeep.set {K : List (Chunk σ)} {i : Nat} {c c' : Chunk σ} (h : K[i]? = some c) (hc : ∀ b t cs, c ≠ .cells b t cs) : CKeep K (K.set i c') := fun k b t cs hk => by
  by_cases hik : i = k
  · subst hik
    rw [h] at hk; injection hk with hk
    exact absurd hk (hc b t cs)
  · rw [List.getElem?_set_ne hik]; exact hk
theorem CKeep.trans {K K' K'' : List (Chunk σ)} (h : CKeep K K') (h' : CKeep K' K'') : CKeep K K'' := fun k b t cs hk => h' k b t cs (h k b t cs hk)
theorem appDest_row {P : Program} {L : List Ent} {K : List (Chunk σ)} {e : TypeId} {x : Operand} {k n : Nat} {cols : List Col} (h : appDest P L K e x = some (some k, n, cols)) : ∃ a t m cap cs, K[k]? = some (.row a t m cap cs) := by
  unfold appDest at h
  split at h
  · split at h
    · simp at h
    · cases h
  · split at h
    · rename_i a t n0 cap cols0 hk
      cases hb : Nat.beq t e with
      | false => rw [hb] at h; cases h
      | true =>
        rw [hb] at h
        simp only [cond_true, Option.some.injEq, Prod.mk.injEq] at h
        obtain ⟨rfl, rfl, rfl⟩ := h
        exact ⟨_, _, _, _, _, hk⟩
    · cases h
  · cases h

/-- **Operations that make or write memory.** -/
theorem estep_sound {T : List (Nat × Entry σ)} (hT : TableOk D P T) {ops : Array Oper} {i : Nat} {rest : List Nat} {td : List Item} {k : Value → Pr → List (Chunk σ) → Tree σ} {t : Tree σ} {R' : Value → Pr → List (Chunk σ) → Prop} {S' : List Ab → List Ent → List (Chunk σ) → Prop}
    {ext : Nat → List (Value × Pr) → List (Chunk σ) → Option (Tree σ)}
    (hext : ∀ g args prs K t, ext g (List.zip args prs) K = some t → ∀ E G w, psOk K args prs → KOk K → SatK D E G w K → ∀ Q : Value → Pr → List (Chunk σ) → Prop, t.holds Q (fun _ _ _ => False) → Calls P g args.toArray w fun en w' => ∃ v p K', en = .returned v ∧ Q v p K' ∧ KExt K K' ∧ KOk K' ∧ pOk K' v p ∧ SatK D E G w' K')
    (ho : ops[i]? = some o) (hw : Region.wanted o (yielded ops a.tmps) = true) (g2 : ∀ d, o.dst = some d → d < n) (hF : Fr n L K a) (hS : SatK D E G w K) (h : estep P T ext L K o k = some t) (ht : t.holds R' S')
    (H : ∀ v pr K', (k v pr K').holds R' S' → KExt K K' → (((∀ t x y, o.op ≠ .store t x y) ∧ ∀ g a K, ext g a K = none) → CKeep K K') → ∀ a' w', (∃ u, a' = a.put o.dst u) → Fr n (addEnt o.dst none v pr L) K' a' → SatK D E G w' K' → WT P f R (.inRegion ops rest :: td) a' w') : WT P f R (.inRegion ops (i :: rest) :: td) a w := by
  have g3 : ∀ (d c : Nat) (b : Bool), o.dst = some d → (none : Option (Nat × Bool)) = some (c, b) → c ≠ d := fun _ _ _ _ h => by cases h
  unfold estep at h
  split at h
  · -- makeMap
    rename_i t0 hop
    split at h
    · rename_i kk vk hks
      injection h with h; subst h
      have hrun : (execOp a.eval o).run P w = .ok (.value (.map (some w.heap.size))) (w.alloc (.map #[] 0)) := by
        simp only [execOp, hop, Sem.run_bind, Option.map_none]
        rfl
      refine WT.op_run ho hw (.inl hrun) (H _ _ _ (ht w.heap.size) (KExt.append K _) (fun _ => CKeep.append K _) _ _ ⟨_, rfl⟩ ?_ ?_)
      · have hk : KOk (K ++ [Chunk.map w.heap.size kk vk mnil]) := hF.kok.append fun b t cs hm => by simp at hm
        exact (hF.ext (KExt.append K _) hk).put g2 g3 fun _ => ⟨rfl, pOk_pt.2 ⟨_, List.getElem?_concat_length, rfl⟩⟩
      · have := Sat.alloc hS (.map #[] 0)
        unfold SatK
        rw [List.map_append]
        refine this.imp fun i B hB => ?_
        rcases Nat.lt_or_ge i (K.map (den D G)).length with hl | hl
        · rw [List.getElem?_append_left hl] at hB
          exact ⟨B, by rw [List.getElem?_append_left hl]; exact hB, fun _ h => h⟩
        · rw [List.getElem?_append_right hl] at hB
          have hz : i - (K.map (den D G)).length = 0 := by have := lt_of_get hB; simp only [List.map_cons, List.map_nil, List.length_singleton] at this; omega
          rw [hz] at hB
          simp only [List.map_cons, List.map_nil, List.getElem?_cons_zero, Option.some.injEq] at hB
          refine ⟨pt w.heap.size (.map #[] 0), ?_, ?_⟩
          · rw [List.getElem?_append_right hl, hz]; rfl
          · subst hB
            intro p hp
            exact ⟨#[], 0, hp, by simp, fun x => rfl⟩
    · cases h
  · -- mapUpdate
    rename_i t0 m i0 x hop
    have hpx := prov_sound (x := m) (g := none) hF trivial
    split at h
    · rename_i c ki iv kx xv kk0 vk0 hp hi hx hks
      have hei := val_sound (g := none) hF trivial hi
      have hex := val_sound (g := none) hF trivial hx
      rw [hp, pOk_pt] at hpx
      obtain ⟨ch, hk, hc⟩ := hpx
      split at h
      · rename_i b kk vk f hk'
        rw [hk'] at hk; injection hk with hk; subst hk
        split at h
        · rename_i q1 q2 q3 _ _ _
          subst q1; subst q2; subst q3
          injection h with h; subst h
          obtain ⟨kt, et, hu, hkt⟩ := mapKs_spec hks
          obtain ⟨p, ⟨es, clock, hes, hM⟩, hsub⟩ := hS.get D hk'
          obtain ⟨es', clock', hrun, hM'⟩ := mapUpdate_run (P := P) (w := w) hop hc hei hex hu hkt (hsub _ _ hes) hM
          have hcmp : ∀ v pk, cOk (Chunk.map (σ := σ) b kk0 kx f) v pk → cOk (Chunk.map (σ := σ) b kk0 kx (mupd f iv xv)) v pk := fun v pk hv => by cases pk <;> exact hv
          refine WT.op_run ho hw (.inr ⟨hrun, rfl⟩) (H _ _ _ ht (KExt.set hk' hcmp) (fun _ => CKeep.set hk' fun b t cs e => by cases e) _ _ ⟨_, rfl⟩ ?_ ?_)
          · exact (hF.ext (KExt.set hk' hcmp) (hF.kok.set hk' hcmp fun b' t' cs' e => by cases e)).put g2 g3 fun _ => ⟨rfl, pOk_no⟩
          · unfold SatK
            rw [List.map_set]
            have hb := MapKept.heap_set (o' := .map es' clock') (hsub _ _ hes)
            refine Sat.write' hS (b := b) (map_den_get D hk') (fun p hp => ?_) ⟨rfl, rfl, rfl⟩ (by simp) (fun c hc => hb.2 c hc) fun p p' hp hpo hpb => ?_
            · obtain ⟨_, _, hh, _⟩ := hp; rw [hh]; simp
            · exact ⟨es', clock', by rw [hpb]; exact hb.1, hM'⟩
        · cases h
      · cases h
    · cases h
  · -- clear
    rename_i m t0 hop
    have hpx := prov_sound (x := m) (g := none) hF trivial
    split at h
    · rename_i c kv hp hks
      obtain ⟨kk0, vk0⟩ := kv
      rw [hp, pOk_pt] at hpx
      obtain ⟨ch, hk, hc⟩ := hpx
      split at h
      · rename_i b kk vk f hk'
        rw [hk'] at hk; injection hk with hk; subst hk
        injection h with h; subst h
        obtain ⟨kt, et, hu, hkt⟩ := mapKs_spec hks
        obtain ⟨p, ⟨es, clock, hes, hM⟩, hsub⟩ := hS.get D hk'
        have hrun : (execOp a.eval o).run P w = .ok (.value (.tuple #[])) { w with heap := w.heap.setIfInBounds b (.map #[] clock) } := by
          simp only [execOp, hop, resolve, invoke, builtin, Sem.run_bind, Sem.run_pure, Result.andThen_ok, List.map_toArray, List.map_cons, List.map_nil]
          rw [show a.eval m = .map (some b) from hc]
          simp only [Builtin.clear_, Sem.run_bind, List.getElem?_toArray, List.getElem?_cons_zero, run_underlying hu, Result.andThen_ok, MapKept.run_getObj_map (hsub _ _ hes), MapKept.run_setObj_map _ (hsub _ _ hes), Sem.run_pure]
        have hcmp : ∀ v pk, cOk (Chunk.map (σ := σ) b kk vk f) v pk → cOk (Chunk.map (σ := σ) b kk vk mnil) v pk := fun v pk hv => by cases pk <;> exact hv
        refine WT.op_run ho hw (.inl hrun) (H _ _ _ ht (KExt.set hk' hcmp) (fun _ => CKeep.set hk' fun b t cs e => by cases e) _ _ ⟨_, rfl⟩ ?_ ?_)
        · exact (hF.ext (KExt.set hk' hcmp) (hF.kok.set hk' hcmp fun b' t' cs' e => by cases e)).put g2 g3 fun _ => ⟨rfl, pOk_no⟩
        · unfold SatK
          rw [List.map_set]
          have hb := MapKept.heap_set (o' := .map #[] clock) (hsub _ _ hes)
          refine Sat.write' hS (b := b) (map_den_get D hk') (fun p hp => ?_) ⟨rfl, rfl, rfl⟩ (by simp) (fun c hc => hb.2 c hc) fun p p' hp hpo hpb => ?_
          · obtain ⟨_, _, hh, _⟩ := hp; rw [hh]; simp
          · exact ⟨#[], clock, by rw [hpb]; exact hb.1, by simp, fun x => rfl⟩
      · cases h
    · cases h
  · -- box
    rename_i t0 x hop
    split at h
    · rename_i v hv
      have hev := val_sound (g := none) hF trivial hv
      cases h1 : oneCells v.cells.toList with
      | false => rw [h1] at h; simp at h
      | true =>
        rw [h1] at h
        simp only [cond_true, Option.some.injEq] at h
        subst h
        have hpx := prov_sound (x := x) (g := none) hF trivial
        rw [hev] at hpx
        refine WT.op_run ho hw (.inl (box_run hop)) (H _ _ _ (ht w.heap.size) (KExt.append K _) (fun _ => CKeep.append K _) _ _ ⟨_, rfl⟩ ?_ ?_)
        · have hk : KOk (K ++ [Chunk.cells w.heap.size t0 (cellsOf2 v (prov none L x))]) := hF.kok.append fun b t cs hm y hy => by
            simp only [List.mem_singleton, Chunk.cells.injEq] at hm
            obtain ⟨_, _, rfl⟩ := hm
            exact (cellsOf2_ok hpx y hy).ext (KExt.append K _)
          exact (hF.ext (KExt.append K _) hk).put g2 g3 fun _ => ⟨rfl, pOk_pt.2 ⟨_, List.getElem?_concat_length, rfl⟩⟩
        · have := Sat.alloc hS (.cells (a.eval x).cells t0)
          rw [hev] at this ⊢
          unfold SatK
          rw [List.map_append]
          simp only [List.map_cons, List.map_nil, den, cellsOf2_fst, Array.toArray_toList]
          exact this
    · cases h
  · -- alloc
    rename_i t0 hop
    split at h
    · rename_i ti hi
      split at h
      · rename_i v hz
        cases h1 : oneCells v.cells.toList with
        | false => rw [h1] at h; simp at h
        | true =>
          rw [h1] at h
          simp only [cond_true, Option.some.injEq] at h
          subst h
          refine WT.op_run ho hw (.inl (alloc_run hop hi hz)) (H _ _ _ (ht w.heap.size) (KExt.append K _) (fun _ => CKeep.append K _) _ _ ⟨_, rfl⟩ ?_ ?_)
          · have hk : KOk (K ++ [Chunk.cells w.heap.size t0 (cellsOf2 v .no)]) := hF.kok.append fun b t cs hm y hy => by
              simp only [List.mem_singleton, Chunk.cells.injEq] at hm
              obtain ⟨_, _, rfl⟩ := hm
              exact (cellsOf2_ok (K := K) pOk_no y hy).ext (KExt.append K _)
            exact (hF.ext (KExt.append K _) hk).put g2 g3 fun _ => ⟨rfl, pOk_pt.2 ⟨_, List.getElem?_concat_length, rfl⟩⟩
          · have := Sat.alloc hS (.cells v.cells t0)
            unfold SatK
            rw [List.map_append]
            simp only [List.map_cons, List.map_nil, den, cellsOf2_fst, Array.toArray_toList]
            exact this
      · cases h
    · cases h
  · -- store
    rename_i t0 x y hop
    have hpx := prov_sound (x := x) (g := none) hF trivial
    have hpy := prov_sound (x := y) (g := none) hF trivial
    split at h
    · rename_i c off v m hp hv hm
      have hev := val_sound (g := none) hF trivial hv
      rw [hp, pOk_pt] at hpx
      rw [hev] at hpy
      obtain ⟨ch, hk, hc⟩ := hpx
      split at h
      · rename_i b tb cs hk'
        rw [hk'] at hk; injection hk with hk; subst hk
        cases hcond : Nat.beq v.cells.size m && Nat.ble (off + m) cs.length && oneCells v.cells.toList with
        | false => rw [hcond] at h; simp at h
        | true =>
          rw [hcond] at h
          simp only [cond_true, Option.some.injEq] at h
          subst h
          simp only [Bool.and_eq_true] at hcond
          obtain ⟨⟨hs1, hs2⟩, hs3⟩ := hcond
          have hsz := Nat.eq_of_beq_eq_true hs1
          have hfit := Nat.le_of_ble_eq_true hs2
          have hb : w.heap[b]? = some (.cells (cs.map (·.1)).toArray tb (0, 0)) := Sat.pt hS (map_den_get D hk')
          have hrun := storeAt_run (P := P) (o := o) (a := a) (w := w) (cur := (cs.map (·.1)).toArray) (t0 := tb) hop hc hm (by rw [hev]; exact hsz) hb (by simpa using hfit) (by rw [hev]; exact oneCells_spec hs3)
          have hcell : (cellsOf2 v (prov none L y)).length = m := by
            have := congrArg List.length (cellsOf2_fst v (prov none L y))
            simpa [hsz] using this
          refine WT.op_run ho hw (.inr ⟨hrun, rfl⟩) (H _ _ _ ht (KExt.set hk' fun v pk hv => by cases pk <;> exact hv) (fun hn => absurd hop (hn.1 _ _ _)) _ _ ⟨_, rfl⟩ ?_ ?_)
          · have hkk : KOk (K.set c (.cells b tb (setFrom cs off (cellsOf2 v (prov none L y))))) := hF.kok.set hk' (fun v pk hv => by cases pk <;> exact hv) fun b' t' cs' e z hz => by
              injection e with _ _ e; subst e
              rcases setFrom_mem _ _ _ z hz with hz | hz
              · exact hF.kok _ _ _ _ hk' z hz
              · exact cellsOf2_ok hpy z hz
            exact (hF.ext (KExt.set hk' fun v pk hv => by cases pk <;> exact hv) hkk).put g2 g3 fun _ => ⟨rfl, pOk_no⟩
          · unfold SatK
            rw [List.map_set]
            refine Sat.write hS (map_den_get D hk') ⟨rfl, rfl, rfl⟩ (by simp) (fun c hc => setRow_other _ _ _ _ hc) fun k hk => ?_
            rw [setRow_heap _ _ _ _ _ _ hb] at hk
            show k b = _
            rw [hk, setFrom_map, cellsOf2_fst, setFrom_eq _ _ _ (by rw [Array.length_toList, hsz]; simpa using hfit), hev, Array.length_toList, hsz]
      · cases h
    · rename_i c ei off v m hp hv hm
      have hev := val_sound (g := none) hF trivial hv
      rw [hp, pOk_pt] at hpx
      obtain ⟨ch, hk, hc⟩ := hpx
      split at h
      · rename_i ra tb len cap cols hk'
        rw [hk'] at hk; injection hk with hk; subst hk
        cases hcond : Nat.beq v.cells.size m && Nat.ble 1 m with
        | false => rw [hcond] at h; simp at h
        | true =>
          rw [hcond] at h
          simp only [cond_true] at h
          simp only [Bool.and_eq_true] at hcond
          have hm1 := Nat.le_of_ble_eq_true hcond.2
          split at h
          · rename_i cols' hset
            injection h with h; subst h
            have hsz := Nat.eq_of_beq_eq_true hcond.1
            obtain ⟨hin, b, rfl, hpv⟩ := hc
            obtain ⟨q, hq, hqs⟩ := hS.get D hk'
            obtain ⟨d1, d2, cur, d3, d4, d5, d6, d7⟩ := hq
            obtain ⟨s1, s2, s3, s4, s5⟩ := setCols_spec hin hset d1
            have hb := hqs _ _ d3
            rw [Addr.add_lit0, Nat.zero_add] at hpv
            have hvl : v.cells.toList.length = m := by simpa using hsz
            have hrow1 : ei * cols.length + cols.length ≤ len * cols.length := by
              have : (ei + 1) * cols.length ≤ len * cols.length := Nat.mul_le_mul_right _ hin
              rw [Nat.succ_mul] at this; exact this
            have hrow2 : len * cols.length ≤ cap * cols.length := Nat.mul_le_mul_right _ d4
            have hoff : off + m ≤ cols.length := by
              rcases s3 with s3 | s3
              · rw [s3] at hvl; simp at hvl; omega
              · rw [hvl] at s3; exact s3
            have hfit : ei * cols.length + off + m ≤ cur.size := by omega
            have hrun := storeAt_run (P := P) (o := o) (a := a) (w := w) (cur := cur) (t0 := tb) hop hpv hm (by rw [hev]; exact hsz) hb hfit (by rw [hev]; exact s4)
            have hcmp : ∀ v pk, cOk (Chunk.row (σ := σ) (some b) tb len cap cols) v pk → cOk (Chunk.row (σ := σ) (some b) tb len cap cols') v pk := fun v pk hv => by
                cases pk <;> simp only [cOk, s1] at hv ⊢ <;> exact hv
            refine WT.op_run ho hw (.inr ⟨hrun, rfl⟩) (H _ _ _ ht (KExt.set hk' hcmp) (fun hn => absurd hop (hn.1 _ _ _)) _ _ ⟨_, rfl⟩ ?_ ?_)
            · exact (hF.ext (KExt.set hk' hcmp) (hF.kok.set hk' hcmp fun b' t' cs' e => by cases e)).put g2 g3 fun _ => ⟨rfl, pOk_no⟩
            · unfold SatK
              rw [List.map_set]
              refine Sat.write' hS (b := b) (map_den_get D hk') (fun p hp => ?_) ⟨rfl, rfl, rfl⟩ (by simp) (fun c hc => setRow_other _ _ _ _ hc) fun p p' hp hpo hpb => ?_
              · obtain ⟨_, _, cs, hh, _⟩ := hp; rw [hh]; simp
              · rw [setRow_heap _ _ _ _ _ _ hb] at hpb
                refine ⟨s2, by omega, _, hpb, d4, d5, ?_, ?_⟩
                · rw [s1]
                  simp only [List.size_toArray, List.length_append, List.length_take, List.length_drop, Array.length_toList, hev, hsz]
                  omega
                · rw [s1, hev]
                  exact flat_set hin s1 hvl hoff (by simp; omega) d7 s5
          · cases h
      · cases h
    · cases h
  · -- buildSlice
    rename_i t0 len parts hop
    split at h
    · rename_i e hu
      split at h
      · rename_i sz cols ei vals hsz hcols hei hvals
        split at h
        · rename_i z hz
          split at h
          · rename_i cells hf
            split at h
            · rename_i cols' hto
              cases hcond : Nat.beq sz cols.length && Nat.ble 1 sz && Nat.ble (len * sz) 16777216 with
              | false => rw [hcond] at h; simp at h
              | true =>
                rw [hcond] at h
                simp only [cond_true, Option.some.injEq] at h
                subst h
                simp only [Bool.and_eq_true] at hcond
                have q1 := Nat.eq_of_beq_eq_true hcond.1.1
                have q2 := Nat.le_of_ble_eq_true hcond.1.2
                have q3 := Nat.le_of_ble_eq_true hcond.2
                obtain ⟨r1, r2, r3⟩ := toRows_spec hto (colsT_len 4 e cols hcols)
                rw [Nat.zero_add] at r2 r3
                have r3' : flat cols' len = cells.toList := by simpa [flat] using r3
                have hcs : cells.size = len * cols.length := by
                  have := congrArg List.length r3'
                  rw [flat_len, r1] at this
                  simpa using this.symm
                have hrun : (execOp a.eval o).run P w = .ok (.value (sliceVal (some w.heap.size) len len)) (w.alloc (.cells cells e)) := by
                  have hb := buildSlice_run (w := w) (len := len) (parts := (parts.map fun x => (x.1, a.eval x.2))) hu hsz hei hz q3 (by
                    rw [Array.toList_map, partVals_ok hF _ _ hvals]; exact hf)
                  simp only [execOp, hop, Sem.run_bind]
                  erw [hb]
                  rfl
                have hlm : len ≤ maxLen := by
                  have : len * 1 ≤ len * sz := Nat.mul_le_mul_left _ q2
                  unfold maxLen; omega
                refine WT.op_run ho hw (.inl hrun) (H _ _ _ (ht w.heap.size) (KExt.append K _) (fun _ => CKeep.append K _) _ _ ⟨_, rfl⟩ ?_ ?_)
                · exact (hF.ext (KExt.append K _) hF.kok.row).put g2 g3 fun _ => ⟨rfl, pOk_pt.2 ⟨_, List.getElem?_concat_length, rfl⟩⟩
                · exact SatK.alloc_row D hS rfl r2 (by omega) (Nat.le_refl _) hlm (by rw [r1]; exact hcs) (by rw [r1, ← hcs, r3', ← Array.length_toList, List.take_length])
            · cases h
          · cases h
        · cases h
      · cases h
    · cases h
  · -- makeSlice
    rename_i t0 l c hop
    split at h
    · rename_i e kl li kc ci hu hl hc
      split at h
      · rename_i ei cols hei hcols
        split at h
        · rename_i z hz
          split at h
          · rename_i cols1 hpr
            split at h
            · rename_i cols' hrep
              cases hcond : Nat.beq ei.size cols.length && Nat.ble 1 ei.size && Nat.ble 1 ei.bytes && Nat.beq z.cells.size ei.size with
              | false => rw [hcond] at h; simp at h
              | true =>
                rw [hcond] at h
                simp only [cond_true, Option.some.injEq] at h
                subst h
                obtain ⟨⟨b1, b2, b3⟩, ht⟩ := ht
                have ht := ht ⟨b1, b2, b3⟩
                simp only [Bool.and_eq_true] at hcond
                have q1 := Nat.eq_of_beq_eq_true hcond.1.1.1
                have q2 := Nat.le_of_ble_eq_true hcond.1.1.2
                have q3 := Nat.le_of_ble_eq_true hcond.1.2
                have q4 := Nat.eq_of_beq_eq_true hcond.2
                obtain ⟨p1, p2, p3, _, _⟩ := pushRow_spec hpr (colsT_len 4 e cols hcols)
                obtain ⟨r1, r2, r3⟩ := repCols_spec hrep
                have hci : ci ≤ 140737488355328 := by
                  have : (1 : Int) * ci ≤ ei.bytes * ci := Int.mul_le_mul_of_nonneg_right (by omega) (by omega)
                  omega
                have hel := val_sound (g := none) hF trivial hl
                have hec := val_sound (g := none) hF trivial hc
                have hmk := run_make (P := P) w t0 e ei z hu hei hz kl kc li ci b1 b2 (by omega) (by omega)
                have hrun : (execOp a.eval o).run P w = .ok (.value (sliceVal (some w.heap.size) li.toNat ci.toNat)) (w.alloc (.cells (madeCells z.cells (ci.toNat * ei.size)) e)) := by
                  simp only [execOp, hop, hel, hec, Sem.run_bind, hmk, Result.andThen_ok, Sem.run_pure]
                  rfl
                refine WT.op_run ho hw (.inl hrun) (H _ _ _ (ht w.heap.size) (KExt.append K _) (fun _ => CKeep.append K _) _ _ ⟨_, rfl⟩ ?_ ?_)
                · exact (hF.ext (KExt.append K _) hF.kok.row).put g2 g3 fun _ => ⟨rfl, pOk_pt.2 ⟨_, List.getElem?_concat_length, rfl⟩⟩
                · refine SatK.alloc_row D hS rfl r2 (by omega) (by omega) (by unfold maxLen; omega) (by rw [r1, p1, ← q1, size_madeCells]) ?_
                  rw [r1, p1]
                  have hpl : cols1.length = cols.length := p1
                  apply List.ext_getElem?
                  intro k
                  by_cases hk : k < li.toNat * cols.length
                  · have hs : 0 < cols.length := by omega
                    have hkd : k = k / cols.length * cols.length + k % cols.length := by rw [Nat.mul_comm]; exact (Nat.div_add_mod k cols.length).symm
                    have hj : k % cols.length < cols.length := Nat.mod_lt _ hs
                    have hi' : k / cols.length < li.toNat := Nat.div_lt_of_lt_mul (by rw [Nat.mul_comm]; exact hk)
                    have hle : li.toNat * cols.length ≤ ci.toNat * ei.size := by rw [q1]; exact Nat.mul_le_mul_right _ (by omega)
                    obtain ⟨c2, hc2⟩ : ∃ c2, cols'[k % cols.length]? = some c2 := ⟨_, List.getElem?_eq_getElem (by omega)⟩
                    have hg := flat_get hi' hc2
                    rw [r1, p1, ← hkd] at hg
                    rw [hg, List.getElem?_take, if_pos hk]
                    have hat := congrArg (fun l => l[k % cols.length]?) (r3 _ hi')
                    simp only [List.getElem?_map, hc2, Option.map_some] at hat
                    have hzc := congrArg (fun l => l[k % cols.length]?) p3
                    simp only [List.append_nil, List.getElem?_map] at hzc
                    rw [← hat] at hzc
                    have hsz : z.cells.size = cols.length := by omega
                    simp only [madeCells, Array.toList_map, Array.toList_range, List.getElem?_map, List.getElem?_range (by omega : k < ci.toNat * ei.size), Option.map_some]
                    rw [hsz]
                    have hz' : z.cells[k % cols.length]? = some (c2.at (k / cols.length)) := by simpa using hzc
                    rw [getElem!_def, hz']
                  · rw [List.getElem?_eq_none (by simp; omega), List.getElem?_eq_none (by rw [flat_len, r1, p1]; omega)]
            · cases h
          · cases h
        · cases h
      · cases h
    · cases h
  · -- append
    rename_i s x t1 t2 hop
    split at h
    · rename_i e hu
      split at h
      · rename_i ei kd len cols ks m cols2 hei hd hs
        split at h
        · rename_i z cols' hz happ
          cases hcond : Nat.beq t1 t2 && neK kd ks && Nat.beq ei.size cols.length && Nat.beq ei.size cols2.length && Nat.ble 1 ei.size && Nat.ble 1 ei.bytes && Nat.beq z.cells.size ei.size && cols2.all colB with
          | false => rw [hcond] at h; simp at h
          | true =>
            rw [hcond] at h
            simp only [cond_true, Option.some.injEq] at h
            subst h
            obtain ⟨hbytes, ht⟩ := ht
            have ht := ht hbytes
            simp only [Bool.and_eq_true] at hcond
            obtain ⟨⟨⟨⟨⟨⟨⟨c1, c2⟩, c3⟩, c4⟩, c5⟩, c6⟩, c7⟩, c8⟩ := hcond
            have e1 := Nat.eq_of_beq_eq_true c1
            subst e1
            obtain ⟨a', cap, w', hrun, hS'⟩ := append_step D (ty := o.type) hF hS hu hei hz hd hs c2 happ (Nat.eq_of_beq_eq_true c3) (Nat.eq_of_beq_eq_true c4) (Nat.le_of_ble_eq_true c5) (Nat.le_of_ble_eq_true c6) (Nat.eq_of_beq_eq_true c7) c8 hbytes
            have hex : (execOp a.eval o).run P w = .ok (.value (sliceVal a' (len + m) cap)) w' := by
              simp only [execOp, hop, resolve, invoke, builtin, Sem.run_bind, Sem.run_pure, Result.andThen_ok, List.map_toArray, List.map_cons, List.map_nil]
              erw [hrun]
              rfl
            have hx : KExt K (killK K kd ++ [.row a' e (len + m) cap cols']) := by
              cases kd with
              | none => exact KExt.append _ _
              | some k =>
                rcases hk : K[k]? with _ | ch
                · have : K.set k .dead = K := List.set_eq_of_length_le (by
                    rcases Nat.lt_or_ge k K.length with h' | h'
                    · rw [List.getElem?_eq_getElem h'] at hk; cases hk
                    · exact h')
                  simp only [killK, this]; exact KExt.append _ _
                · exact (KExt.set hk fun v pk _ => by cases pk <;> trivial).trans (KExt.append _ _)
            have hck : ((∀ t x y, o.op ≠ .store t x y) ∧ ∀ g a K, ext g a K = none) → CKeep K (killK K kd ++ [.row a' e (len + m) cap cols']) := fun _ => by
              cases kd with
              | none => exact CKeep.append _ _
              | some k =>
                obtain ⟨_, _, _, _, _, hk⟩ := appDest_row hd
                exact (CKeep.set hk fun b t cs e => by cases e).trans (CKeep.append _ _)
            refine WT.op_run ho hw (.inl hex) (H _ _ _ (ht a' cap) hx hck _ _ ⟨_, rfl⟩ ?_ hS')
            have hkk : KOk (killK K kd ++ [.row a' e (len + m) cap cols']) := by
              refine KOk.row ?_
              cases kd with
              | none => exact hF.kok
              | some k =>
                rcases hk : K[k]? with _ | ch
                · have : K.set k .dead = K := List.set_eq_of_length_le (by
                    rcases Nat.lt_or_ge k K.length with h' | h'
                    · rw [List.getElem?_eq_getElem h'] at hk; cases hk
                    · exact h')
                  simp only [killK, this]; exact hF.kok
                · exact hF.kok.set hk (fun v pk _ => by cases pk <;> trivial) fun b t cs e => by cases e
            refine (hF.ext hx hkk).put g2 g3 fun _ => ⟨rfl, pOk_pt.2 ⟨.row a' e (len + m) cap cols', ?_, rfl⟩⟩
            have hl : (killK K kd).length = K.length := by cases kd <;> simp [killK]
            rw [← hl]; exact List.getElem?_concat_length
        · cases h
      · cases h
    · cases h
  · -- slice
    rename_i t0 x lo hi mx hop0
    split at h
    · rename_i hx
      have hop := hop0
      split at h
      · rename_i e0 c0 ad m0 cap0 k0 i hu hpr hvx hvi
        have hpx := prov_sound (x := x) (g := none) hF trivial
        have hex := val_sound (g := none) hF trivial hvx
        have hei := val_sound (g := none) hF trivial hvi
        rw [hpr, hex, pOk_pt] at hpx
        obtain ⟨c, hk, hc⟩ := hpx
        split at h
        · rename_i sz ra te m cap cols hsz hk'
          rw [hk'] at hk; injection hk with hk; subst hk
          injection h with h; subst h
          simp only [cOk] at hc
          obtain ⟨hb, ht⟩ := ht
          have ht2 := ht hb
          injection hc with hc1 hc2 hc3
          subst hc1; subst hc2; subst hc3
          have hin : i.toNat ≤ m0 := by omega
          obtain ⟨q, hq, _⟩ := hS.get D hk'
          have hmc : m0 ≤ cap0 := by
            obtain ⟨_, _, h3⟩ := hq
            cases ra with
            | none => simp only at h3; omega
            | some b => obtain ⟨cs, _, h5, _⟩ := h3; exact h5
          have hx1 : KExt K (K.set c0 .dead) := KExt.set hk' fun v pk _ => by cases pk <;> trivial
          have hkk : KOk (K.set c0 .dead ++ [.row ra te i.toNat cap0 (cols.map (takeCol i.toNat))]) := KOk.row (hF.kok.set hk' (fun v pk _ => by cases pk <;> trivial) fun b t cs e => by cases e)
          refine WT.op_run ho hw (.inl (slice_run hop hu hsz hex hei hb.1 (by omega))) (H _ _ _ ht2 (hx1.trans (KExt.append _ _)) (fun _ => (CKeep.set hk' fun b t cs e => by cases e).trans (CKeep.append _ _)) _ _ ⟨_, rfl⟩ ?_ ?_)
          · refine (hF.ext (hx1.trans (KExt.append _ _)) hkk).put g2 g3 fun _ => ⟨rfl, pOk_pt.2 ⟨.row ra te i.toNat cap0 (cols.map (takeCol i.toNat)), ?_, rfl⟩⟩
            have hl : (K.set c0 (.dead : Chunk σ)).length = K.length := by simp
            rw [← hl]; exact List.getElem?_concat_length
          · unfold SatK
            rw [List.map_append, List.map_set]
            exact Sat.moved hS (map_den_get D hk') (fun k hk => den_take D hin hk) fun _ => trivial
        · rename_i sz ra m cap cols hsz hk'
          rw [hk'] at hk; injection hk with hk; subst hk
          injection h with h; subst h
          simp only [cOk] at hc
          obtain ⟨hb, ht⟩ := ht
          have ht2 := ht hb
          injection hc with hc1 hc2 hc3
          subst hc1; subst hc2; subst hc3
          have hin : i.toNat ≤ m0 := by omega
          obtain ⟨q, hq, _⟩ := hS.get D hk'
          have hkk : KOk (K ++ [.ro ad i.toNat cap0 (cols.map (takeCol i.toNat))]) := hF.kok.append fun b t cs hm => by simp at hm
          refine WT.op_run ho hw (.inl (slice_run hop hu hsz hex hei hb.1 (by have := hq.2; omega))) (H _ _ _ ht2 (KExt.append _ _) (fun _ => CKeep.append _ _) _ _ ⟨_, rfl⟩ ?_ ?_)
          · exact (hF.ext (KExt.append _ _) hkk).put g2 g3 fun _ => ⟨rfl, pOk_pt.2 ⟨.ro ad i.toNat cap0 (cols.map (takeCol i.toNat)), List.getElem?_concat_length, rfl⟩⟩
          · unfold SatK
            rw [List.map_append]
            exact Sat.added hS fun _ => ⟨rowAt_take hin hq.1, by have := hq.2; omega⟩
        · cases h
      · cases h
    · cases h
  · -- a call
    rename_i h1 h2 h3 h4 h5 h6
    split at h
    · rename_i g args prs hcall
      split at h
      · rename_i e he
        split at h
        · rename_i cd hcd
          have hok := lookT_ok D hT he
          obtain ⟨hrun, hps1, hps2⟩ := callOf_run (g := none) hF trivial hcall w
          obtain ⟨r, hr⟩ : ∃ r, r = cd.r cd.x := ⟨_, rfl⟩
          have hout := (hok args cd r hcd hr).1
          split at h
          · rename_i q st j hob hkj
            injection h with h; subst h
            have ht := ht _ rfl
            dsimp only at ht
            rw [← hr] at ht
            obtain ⟨hpre, ht⟩ := needs_holds ht
            obtain ⟨k', hkm, hk', hc⟩ := call_entry_some D hok hps1 hps2 hcd hr hpre hS hob
            rw [hkj, List.mem_singleton] at hkm
            subst hkm
            have hcmp : ∀ v pk, cOk (Chunk.obj (σ := σ) q st) v pk → cOk (Chunk.obj (σ := σ) q (r.new.getD st)) v pk := fun v pk hv => by cases pk <;> exact hv
            have hx : ∀ acs, KExt K (K.set k' (.obj q (r.new.getD st)) ++ List.zipWith sliceC r.rows acs) := fun acs => (KExt.set hk' hcmp).trans (KExt.append _ _)
            refine WT.op_call ho hw hrun hc fun en w' ⟨acs, e1, e2, e3⟩ => ⟨_, e2, H _ _ _ (freshRows_holds ht acs e1) (hx acs) (fun _ => (CKeep.set hk' fun b t cs e => by cases e).trans (CKeep.append _ _)) _ _ ⟨_, rfl⟩ ?_ e3⟩
            have hx := hx acs
            have hkk : KOk (K.set k' (.obj q (r.new.getD st)) ++ List.zipWith sliceC r.rows acs) :=
              (hF.kok.set hk' hcmp fun b t cs e => by cases e).append fun b t cs hm => absurd hm (no_cells_rows r.rows acs b t cs)
            have hp := hout (K.set k' (.obj q (r.new.getD st))) acs e1
            rw [List.length_set] at hp
            exact (hF.ext hx hkk).put g2 g3 fun _ => ⟨rfl, hp⟩
          · rename_i hob hkj
            injection h with h; subst h
            have ht := ht _ rfl
            dsimp only at ht
            rw [← hr] at ht
            obtain ⟨hpre, ht⟩ := needs_holds ht
            refine WT.op_call ho hw hrun (call_entry_none D hok hps1 hps2 hcd hr hpre hS hob) fun en w' ⟨acs, e1, e2, e3⟩ => ⟨_, e2, H _ _ _ (freshRows_holds ht acs e1) (KExt.append K _) (fun _ => CKeep.append K _) _ _ ⟨_, rfl⟩ ?_ e3⟩
            have hkk : KOk (K ++ List.zipWith sliceC r.rows acs) := hF.kok.append fun b t cs hm => absurd hm (no_cells_rows r.rows acs b t cs)
            exact (hF.ext (KExt.append K _) hkk).put g2 g3 fun _ => ⟨rfl, hout K acs e1⟩
          · cases h
        · -- gone into, all the same
          split at h
          · rename_i t0 he
            injection h with h; subst h
            obtain ⟨hrun, hps1, hps2⟩ := callOf_run (g := none) hF trivial hcall w
            refine WT.op_call ho hw hrun (hext _ _ _ _ _ he E G w hps1 hF.kok hS _ (bindT_holds ht)) fun en w' ⟨v, p, K', e1, e2, e3, e4, e5, e6⟩ => ⟨v, e1, H _ _ _ e2 e3 (fun hn => (by rw [hn.2] at he; cases he)) _ _ ⟨_, rfl⟩ ?_ e6⟩
            exact (hF.ext e3 e4).put g2 g3 fun _ => ⟨rfl, e5⟩
          · cases h
      · -- gone into
        split at h
        · rename_i t0 he
          injection h with h; subst h
          obtain ⟨hrun, hps1, hps2⟩ := callOf_run (g := none) hF trivial hcall w
          refine WT.op_call ho hw hrun (hext _ _ _ _ _ he E G w hps1 hF.kok hS _ (bindT_holds ht)) fun en w' ⟨v, p, K', e1, e2, e3, e4, e5, e6⟩ => ⟨v, e1, H _ _ _ e2 e3 (fun hn => (by rw [hn.2] at he; cases he)) _ _ ⟨_, rfl⟩ ?_ e6⟩
          exact (hF.ext e3 e4).put g2 g3 fun _ => ⟨rfl, e5⟩
        · cases h
    · cases h
end
theorem known0_ok {c : Nat} {b : Bool} {K : List (Chunk σ)} {tm : Array Value} (h : tm.getD c undef = .bool b) : ∀ {L : List Ent}, (∀ e ∈ L, e.ok K tm) → ∀ e ∈ known0 c b L, e.ok K tm
  | [], _, e, he => by simp [known0] at he
  | x :: r, hL, e, he => by
    have ih := known0_ok h (L := r) (fun e he => hL e (by simp [he]))
    have hx := hL x (by simp)
    simp only [known0] at he
    split at he
    · rename_i c' b' hg
      cases hc : Nat.beq c' c with
      | false =>
        rw [hc] at he
        simp only [cond_false, List.mem_cons] at he
        rcases he with rfl | he
        · exact hx
        · exact ih e he
      | true =>
        rw [hc] at he
        have := Nat.eq_of_beq_eq_true hc
        subst this
        cases hb : b' == b with
        | false => rw [hb] at he; simp only [cond_true, cond_false] at he; exact ih e he
        | true =>
          rw [hb] at he
          have := eq_of_beq hb
          subst this
          simp only [cond_true, List.mem_cons] at he
          rcases he with rfl | he
          · intro _
            exact hx (by rw [hg]; exact h)
          · exact ih e he
    · rename_i hg
      cases hc : Nat.beq x.s c with
      | false =>
        rw [hc] at he
        simp only [cond_false, List.mem_cons] at he
        rcases he with rfl | he
        · exact hx
        · exact ih e he
      | true =>
        rw [hc] at he
        simp only [cond_true, List.mem_cons] at he
        rcases he with rfl | he
        · intro _; exact ⟨h, pOk_no⟩
        · exact ih e he
theorem known0_skip {c : Nat} {b : Bool} {tm : Array Value} : ∀ {L : List Ent}, (∀ e ∈ L, ¬ GV tm e.g → tm.getD e.s undef = undef) → ∀ e ∈ known0 c b L, ¬ GV tm e.g → tm.getD e.s undef = undef
  | [], _, e, he => by simp [known0] at he
  | x :: r, hL, e, he => by
    have ih := known0_skip (c := c) (b := b) (L := r) (fun e he => hL e (by simp [he]))
    have hx := hL x (by simp)
    simp only [known0] at he
    split at he
    · rename_i c' b' hg
      cases hc : Nat.beq c' c with
      | false =>
        rw [hc] at he
        simp only [cond_false, List.mem_cons] at he
        rcases he with rfl | he
        · exact hx
        · exact ih e he
      | true =>
        rw [hc] at he
        cases hb : b' == b with
        | false => rw [hb] at he; simp only [cond_true, cond_false] at he; exact ih e he
        | true =>
          rw [hb] at he
          simp only [cond_true, List.mem_cons] at he
          rcases he with rfl | he
          · intro hg; exact absurd trivial hg
          · exact ih e he
    · rename_i hg
      cases hc : Nat.beq x.s c with
      | false =>
        rw [hc] at he
        simp only [cond_false, List.mem_cons] at he
        rcases he with rfl | he
        · exact hx
        · exact ih e he
      | true =>
        rw [hc] at he
        simp only [cond_true, List.mem_cons] at he
        rcases he with rfl | he
        · intro hg; exact absurd trivial hg
        · exact ih e he
theorem Fr.known {n : Nat} {L : List Ent} {K : List (Chunk σ)} {a : Act} (hF : Fr n L K a) (hn : n ≤ 1000000) {c : Nat} {b : Bool} (h : a.tmps.getD c undef = .bool b) : Fr n (known c b L) K a := by
  refine ⟨hF.kok, hF.defers, hF.size, fun e he => ?_, fun e he => ?_⟩
  rotate_left
  · simp only [Sl.known, List.mem_cons] at he
    rcases he with rfl | he
    · intro hg; exact absurd trivial hg
    · exact known0_skip hF.skipd e he
  simp only [Sl.known, List.mem_cons] at he
  rcases he with rfl | he
  · intro _
    refine ⟨?_, pOk_no⟩
    have := hF.size
    have hle : a.tmps.size ≤ 1000000 + c := by omega
    show a.tmps.getD (1000000 + c) undef = undef
    rw [Array.getD_eq_getD_getElem?, Array.getElem?_eq_none hle]; rfl
  · exact known0_ok h hF.ents e he
theorem Fr.fixMark {n : Nat} {L' : List Ent} {K : List (Chunk σ)} {a : Act} (hF : Fr n L' K a) (o : Oper) (L : List Ent) : Fr n (Sl.fixMark n o L L') K a := by
  unfold Sl.fixMark
  split
  · rename_i d _ _
    cases hb : (Nat.ble n 1000000 && wantMark L o) with
    | true =>
      simp only [cond_true]
      simp only [Bool.and_eq_true] at hb
      have hn := Nat.le_of_ble_eq_true hb.1
      refine ⟨hF.kok, hF.defers, hF.size, fun e he hg => ?_, fun e he hg => ?_⟩
      · simp only [List.mem_cons] at he
        rcases he with rfl | he
        · refine ⟨?_, pOk_no⟩
          have := hF.size
          have hle : a.tmps.size ≤ 1000000 + d := by omega
          show a.tmps.getD (1000000 + d) undef = undef
          rw [Array.getD_eq_getD_getElem?, Array.getElem?_eq_none hle]; rfl
        · exact hF.ents e he hg
      · simp only [List.mem_cons] at he
        rcases he with rfl | he
        · exact absurd trivial hg
        · exact hF.skipd e he hg
    | false =>
      simp only [cond_false]
      cases hm : marked d L' with
      | true => simp only [cond_true]; exact hF.sub fun e he => (del_mem he).1
      | false => exact hF
  · exact hF
theorem Fr.unmark {n : Nat} {L : List Ent} {K : List (Chunk σ)} {a : Act} (hF : Fr n L K a) (o : Oper) : Fr n (Sl.unmark o L) K a := by
  unfold Sl.unmark
  split
  · rename_i d _
    cases marked d L with
    | true => simp only [cond_true]; exact hF.sub fun e he => (del_mem he).1
    | false => exact hF
  · exact hF
theorem guardTree_holds {R' : Value → Pr → List (Chunk σ) → Prop} {S' : List Ab → List Ent → List (Chunk σ) → Prop} {mk t b : Bool} {A S : Tree σ} (h : (guardTree mk t b A S).holds R' S') : (t = b → A.holds R' S') ∧ (t = !b → S.holds R' S') := by
  cases mk <;> cases t <;> cases b <;> simp [guardTree, Tree.holds] at h ⊢ <;> exact h
end Go.Sl
