/-
  DERIVED. The symbolic machine of SlB is right, 3: one operation that leaves memory alone. No program is named.
-/
import Derived.Test.YtonfbgombglngaaSlD
import Derived.MapKept
namespace Go.Sl
open Go.RowKit

variable {σ : Type} (D : Addr → σ → Asn)

section
variable {P : Program} {o : Oper} {a : Act} {w : World}
theorem ex_move {x : Operand} (h : o.op = .move x ∨ o.op = .assign x) : (execOp a.eval o).run P w = .ok (.value (a.eval x)) w := by
  rcases h with h | h <;> simp [execOp, h]
theorem ex_load {t : TypeId} {x : Operand} {p : Addr} {v : Value} (h : o.op = .load t x) (hx : a.eval x = .pointer (some p)) (hl : (loadVar t p).run P w = .ok v w) : (execOp a.eval o).run P w = .ok (.value v) w := by
  simp [execOp, h, hx, Instr.loadAt, Instr.sureAddr, hl]
theorem ex_fieldAddr {s : TypeId} {x : Operand} {f : Nat} {p : Addr} {fields : Array Field} {fd : Field} {n : Nat} (h : o.op = .fieldAddr s x f) (hx : a.eval x = .pointer (some p)) (hu : P.underlying s = some (.struct fields))
    (hf : fields[f]? = some fd) (hn : sizeP P fd.type = some (n + 1)) : (execOp a.eval o).run P w = .ok (.value (.pointer (some (p.add fd.offset)))) w := by
  simp [execOp, h, hx, Instr.fieldAt, Instr.sureAddr, run_underlying hu, hf, fieldPlace, sizeP_run hn]
theorem ex_index_slice {t e : TypeId} {x ix : Operand} {k : IntKind} {i : Int} {b : Addr} {len cap sz : Nat} (h : o.op = .indexAddr t x ix) (hx : a.eval x = .slice (some b) len cap) (hi : a.eval ix = .int k i)
    (hu : P.underlying t = some (.slice e)) (hn : sizeP P e = some sz) (h0 : 0 ≤ i) (h1 : i < (len : Int)) : (execOp a.eval o).run P w = .ok (.value (.pointer (some (b.add (i.toNat * sz))))) w := by
  simp [execOp, h, hx, hi, Instr.indexAt, asIntOf, run_underlying hu, sizeP_run hn, h0, h1]
theorem ex_index_array {t e : TypeId} {x ix : Operand} {k : IntKind} {i : Int} {b : Addr} {len sz : Nat} (h : o.op = .indexAddr t x ix) (hx : a.eval x = .pointer (some b)) (hi : a.eval ix = .int k i)
    (hu : P.underlying t = some (.array len e)) (hn : sizeP P e = some sz) (h0 : 0 ≤ i) (h1 : i < (len : Int)) : (execOp a.eval o).run P w = .ok (.value (.pointer (some (b.add (i.toNat * sz))))) w := by
  simp [execOp, h, hx, hi, Instr.indexAt, Instr.sureAddr, asIntOf, run_underlying hu, sizeP_run hn, h0, h1]
theorem ex_index_str {t : TypeId} {x ix : Operand} {k : IntKind} {i : Int} {s : ByteArray} (h : o.op = .index t x ix) (hx : a.eval x = .string s) (hi : a.eval ix = .int k i)
    (hu : P.underlying t = some .string) (h0 : 0 ≤ i) (h1 : i < (s.size : Int)) : (execOp a.eval o).run P w = .ok (.value (.int .u8 (sAt s i))) w := by
  have hlt : i.toNat < s.size := by omega
  simp [execOp, h, hx, hi, Instr.index, asIntOf, run_underlying hu, h0, sAt, hlt]
theorem ex_quo {t t' : TypeId} {x y : Operand} {k : IntKind} {m d : Int} (h : o.op = .binOp .quo t x y t') (hx : a.eval x = .int k m) (hy : a.eval y = .int k d) (hd : d ≠ 0) :
    (execOp a.eval o).run P w = .ok (.value (.int k (k.wrap (m.tdiv d)))) w := by
  simp [execOp, h, hx, hy, eqGuard, binOp, Op.intDiv, hd]
theorem ex_rem {t t' : TypeId} {x y : Operand} {k : IntKind} {m d : Int} (h : o.op = .binOp .rem t x y t') (hx : a.eval x = .int k m) (hy : a.eval y = .int k d) (hd : d ≠ 0) :
    (execOp a.eval o).run P w = .ok (.value (.int k (m.tmod d))) w := by
  simp [execOp, h, hx, hy, eqGuard, binOp, Op.intDiv, hd]
theorem ex_shl {t t' : TypeId} {x y : Operand} {k k' : IntKind} {m d : Int} (h : o.op = .binOp .shl t x y t') (hx : a.eval x = .int k m) (hy : a.eval y = .int k' d) (hd : 0 ≤ d) :
    (execOp a.eval o).run P w = .ok (.value (.int k (k.wrap (m * 2 ^ (min d.toNat k.bits))))) w := by
  have : ¬ d < 0 := by omega
  simp [execOp, h, hx, hy, eqGuard, binOp, Op.shift, this]
theorem ex_shr {t t' : TypeId} {x y : Operand} {k k' : IntKind} {m d : Int} (h : o.op = .binOp .shr t x y t') (hx : a.eval x = .int k m) (hy : a.eval y = .int k' d) (hd : 0 ≤ d) :
    (execOp a.eval o).run P w = .ok (.value (.int k (m.fdiv (2 ^ (min d.toNat k.bits))))) w := by
  have : ¬ d < 0 := by omega
  simp [execOp, h, hx, hy, eqGuard, binOp, Op.shift, this]
theorem ex_pick {c x y : Operand} {t : Bool} (h : o.op = .pick c x y) (hc : a.eval c = .bool t) : (execOp a.eval o).run P w = .ok (.value (if t then a.eval x else a.eval y)) w := by
  cases t <;> simp [execOp, h, hc, asBool]
end

theorem pickVal_sound {n : Nat} {L : List Ent} {K : List (Chunk σ)} {a : Act} {g : Option (Nat × Bool)} {c x y : Operand} {v : Value} (hF : Fr n L K a) (hg : GV a.tmps g) (h : pickVal g L c x y = some v) :
    ∃ t, a.eval c = .bool t ∧ (if t then a.eval x else a.eval y) = v := by
  unfold pickVal at h
  split at h
  · rename_i t cs hc
    have hce := val_sound hF hg hc
    refine ⟨t, hce, ?_⟩
    have ha : ∀ u, (match val g L x with | some v => some v | none => val (some (cs, true)) L x) = some u → t = true → a.eval x = u := by
      intro u hu ht
      split at hu
      · rename_i v' hv; injection hu with hu; subst hu; exact val_sound hF hg hv
      · exact val_sound (g := some (cs, true)) hF (by simp only [GV]; rw [← ht]; exact hce) hu
    have hb : ∀ u, (match val g L y with | some v => some v | none => val (some (cs, false)) L y) = some u → t = false → a.eval y = u := by
      intro u hu ht
      split at hu
      · rename_i v' hv; injection hu with hu; subst hu; exact val_sound hF hg hv
      · exact val_sound (g := some (cs, false)) hF (by simp only [GV]; rw [← ht]; exact hce) hu
    cases hmk : marked cs L
    rotate_left
    · rw [hmk] at h
      simp only [cond_true] at h
      cases t
      · simpa using hb _ h rfl
      · simpa using ha _ h rfl
    rw [hmk] at h
    simp only [cond_false] at h
    split at h
    · rename_i u z hA hB
      have ha' := ha _ hA
      have hb' := hb _ hB
      split at h
      · injection h with h; subst h
        cases t
        · simpa using hb' rfl
        · have := ha' rfl
          simp only [Act.eval, Value.bool.injEq] at this
          simp [Act.eval]
      · injection h with h; subst h
        cases t
        · have := hb' rfl
          simp [Act.eval]
        · simpa using ha' rfl
      · injection h with h; subst h
        cases t
        · simpa using hb' rfl
        · simpa using ha' rfl
    · rename_i k u k' z hA hB
      have ha' := ha _ hA
      have hb' := hb _ hB
      split at h
      · rename_i e _
        injection h with h; subst h; subst e
        cases t
        · simpa using hb' rfl
        · simpa using ha' rfl
      · cases h
    · cases h
  · cases h

theorem eqFs_run {P : Program} (d : Nat) (eq : TypeId → Value → Value → Option Bool) (heq : ∀ t x y r, eq t x y = some r → ∀ w, (Op.equalIn d t x y).run P w = .ok r w) (xs ys : Array Value) : ∀ (fs : List Field) (r : Bool), eqFs P eq xs ys fs = some r →
    ∀ w, (Op.eqFields d xs ys fs).run P w = .ok r w
  | [], r, h, w => by simp only [eqFs, Option.some.injEq] at h; subst h; simp [Op.eqFields]
  | f :: fs, r, h, w => by
    simp only [eqFs] at h
    cases hn : f.name == "_" with
    | true => rw [hn] at h; simp at h
    | false =>
      rw [hn] at h
      simp only [cond_false] at h
      split at h
      · rename_i a b s ha hb hs
        split at h
        · rename_i q hq
          simp only [Option.some.injEq] at h
          subst h
          have hne : f.name ≠ "_" := by simpa using hn
          simp only [Op.eqFields, hne, if_true, ne_eq, not_false_eq_true, Sem.run_bind, evalS_sound P _ _ ha, evalS_sound P _ _ hb, Result.andThen_ok, heq _ _ _ _ hq]
          cases q
          · simp
          · simpa using eqFs_run d eq heq xs ys fs s hs w
        · cases h
      · cases h
theorem eqVal_run {P : Program} : ∀ (d : Nat) (t : TypeId) (x y : Value) (r : Bool), eqVal P d t x y = some r → ∀ m, d ≤ m → ∀ w, (Op.equalIn m t x y).run P w = .ok r w
  | 0, t, x, y, r, h, _, _, _ => by simp [eqVal] at h
  | d + 1, t, x, y, r, h, m, hm, w => by
    obtain ⟨m', rfl⟩ : ∃ m', m = m' + 1 := ⟨m - 1, by omega⟩
    simp only [eqVal] at h
    split at h
    · rename_i k0 k a k' b hu
      split at h
      · rename_i e _
        subst e
        simp only [Option.some.injEq] at h; subst h
        exact run_equalIn_int w m' t k k0 a b hu
      · cases h
    · rename_i a b hu
      simp only [Option.some.injEq] at h; subst h
      exact run_equalIn_bool' w m' t a b hu
    · rename_i fs xs ys hu
      cases hs : P.stoodInHeld t with
      | true => rw [hs] at h; simp at h
      | false =>
        rw [hs] at h
        simp only [cond_false] at h
        have hf : P.fieldsOf t = fs := by simp [Program.fieldsOf, hu]
        rw [run_equalIn_struct w m' t xs ys (by rw [hf]; exact hu) hs, hf]
        exact eqFs_run m' (eqVal P d) (fun t x y r h w => eqVal_run d t x y r h m' (by omega) w) xs ys fs.toList r h w
    · cases h
theorem eqSlice_run {P : Program} {w : World} {d : Nat} {t el : TypeId} {a : Option Addr} {n c m k : Nat} (hu : P.underlying t = some (.slice el)) : (Op.equalIn (d + 1) t (.slice a n c) (.slice none m k)).run P w = .ok a.isNone w := by
  unfold Op.equalIn
  simp only [Sem.run_bind, run_underlying hu, Result.andThen_ok]
  cases a <;> simp
theorem eqOf_run {P : Program} {g : Option (Nat × Bool)} {n : Nat} {L : List Ent} {K : List (Chunk σ)} {o : Oper} {a : Act} {b : Bool} (hF : Fr n L K a) (hg : GV a.tmps g) (h : eqOf P g L o = some b) (w : World) : (execOp a.eval o).run P w = .ok (.value (.bool b)) w := by
  unfold eqOf at h
  split at h
  · rename_i t x y t' hop
    split at h
    · rename_i xs ys hx hy
      cases hq : P.eqGuardType P.depth t with
      | true => rw [hq] at h; simp at h
      | false =>
        rw [hq] at h
        simp only [cond_false] at h
        have hr := eqVal_run 8 t _ _ b h 10000 (by omega)
        simp [execOp, hop, val_sound hF hg hx, val_sound hF hg hy, run_eqGuard_agg w .eql t x y xs ys hq, run_eql_struct w t xs ys, hr]
    · rename_i sa _ _ _ _ hx hy
      split at h
      · rename_i el hu
        injection h with h; subst h
        have e1 := val_sound hF hg hx
        have e2 := val_sound hF hg hy
        have hr := fun n c m k => eqSlice_run (P := P) (w := w) (d := 9999) (a := sa) (n := n) (c := c) (m := m) (k := k) hu
        simp only [execOp, hop, e1, e2, eqGuard, binOp, Op.equal, Op.maxDepth]
        simp [hr]
      · cases h
    · cases h
  · rename_i t x y t' hop
    split at h
    · rename_i xs ys hx hy
      cases hq : P.eqGuardType P.depth t with
      | true => rw [hq] at h; simp at h
      | false =>
        rw [hq] at h
        simp only [cond_false, Option.map_eq_some_iff] at h
        obtain ⟨b', h, rfl⟩ := h
        have hr := eqVal_run 8 t _ _ b' h 10000 (by omega)
        simp [execOp, hop, val_sound hF hg hx, val_sound hF hg hy, run_eqGuard_agg w .neq t x y xs ys hq, run_neq_struct w t xs ys, hr]
    · rename_i sa _ _ _ _ hx hy
      split at h
      · rename_i el hu
        injection h with h; subst h
        have e1 := val_sound hF hg hx
        have e2 := val_sound hF hg hy
        have hr := fun n c m k => eqSlice_run (P := P) (w := w) (d := 9999) (a := sa) (n := n) (c := c) (m := m) (k := k) hu
        simp only [execOp, hop, e1, e2, eqGuard, binOp, Op.equal, Op.maxDepth]
        simp [hr]
      · cases h
    · cases h
  · cases h

theorem pOk_pt {K : List (Chunk σ)} {v : Value} {k : Nat} {pk : PK} : pOk K v (.pt k pk) ↔ ∃ c, K[k]? = some c ∧ cOk c v pk := by simp [pOk]
theorem pOk_no {K : List (Chunk σ)} {v : Value} : pOk K v .no := by simp [pOk]

theorem setFrom_len {α : Type} : ∀ (vs cs : List α) (off : Nat), (setFrom cs off vs).length = cs.length
  | [], cs, off => by simp [setFrom]
  | v :: vs, cs, off => by rw [setFrom, setFrom_len vs]; simp
theorem setFromP_eq : ∀ (qs ps : List Pr) (off : Nat), setFromP ps off qs = setFrom ps off qs
  | [], _, _ => rfl
  | q :: qs, ps, off => by rw [setFromP, setFrom, setFromP_eq qs]
theorem psOk_set {K : List (Chunk σ)} {vs : List Value} {ps : List Pr} (h : psOk K vs ps) (i : Nat) {v : Value} {p : Pr} (hv : pOk K v p) : psOk K (vs.set i v) (ps.set i p) := by
  rw [psOk_iff] at h ⊢
  refine ⟨by simpa using h.1, fun j v' p' h1 h2 => ?_⟩
  by_cases hij : i = j
  · subst hij
    rcases Nat.lt_or_ge i vs.length with hl | hl
    · rw [List.getElem?_set_self hl] at h1
      rw [List.getElem?_set_self (by omega)] at h2
      injection h1 with h1; injection h2 with h2; subst h1; subst h2; exact hv
    · rw [List.getElem?_eq_none (by simpa using hl)] at h1; cases h1
  · rw [List.getElem?_set_ne hij] at h1 h2
    exact h.2 j v' p' h1 h2
theorem psOk_setFrom {K : List (Chunk σ)} : ∀ (us : List Value) (qs : List Pr) (vs : List Value) (ps : List Pr) (off : Nat), psOk K vs ps → psOk K us qs → psOk K (setFrom vs off us) (setFrom ps off qs)
  | [], [], vs, ps, off, h, _ => by simpa [setFrom] using h
  | [], _ :: _, _, _, _, _, h => by simp [psOk] at h
  | _ :: _, [], _, _, _, _, h => by simp [psOk] at h
  | u :: us, q :: qs, vs, ps, off, h, h' => by
    simp only [psOk] at h'
    exact psOk_setFrom us qs _ _ _ (psOk_set h off h'.1) h'.2
theorem foldl_setFrom (off : Nat) : ∀ (vs : List Value) (k : Nat) (cs : Array Value), ((vs.zipIdx k).foldl (fun cs x => cs.setIfInBounds (off + x.2) x.1) cs).toList = setFrom cs.toList (off + k) vs
  | [], k, cs => by simp [setFrom]
  | v :: vs, k, cs => by
    rw [List.zipIdx_cons, List.foldl_cons, foldl_setFrom off vs (k + 1), setFrom]
    simp [Nat.add_assoc]
theorem fill_ok {K : List (Chunk σ)} (place : Nat → Option (Nat × Nat)) : ∀ (parts : List (Nat × Value × Pr)) (cells cells' : Array Value) (ps : List Pr), psOk K cells.toList ps → (∀ x ∈ parts, pOk K x.2.1 x.2.2) →
    Instr.fill place cells (parts.map fun x => (x.1, x.2.1)) = some cells' → psOk K cells'.toList (pfill place ps parts)
  | [], cells, cells', ps, h, _, hf => by
    simp only [List.map_nil, Instr.fill, Option.some.injEq] at hf
    subst hf
    simpa [pfill] using h
  | (i, v, p) :: r, cells, cells', ps, h, hp, hf => by
    simp only [List.map_cons, Instr.fill] at hf
    cases hpl : place i with
    | none => simp [hpl] at hf
    | some os =>
      obtain ⟨off, size⟩ := os
      simp only [hpl] at hf
      split at hf
      · cases hf
      · simp only [pfill, hpl]
        refine fill_ok place r _ cells' _ ?_ (fun x hx => hp x (by simp [hx])) hf
        rw [← Array.foldl_toList, Array.toList_zipIdx, setFromP_eq]
        have e := foldl_setFrom off v.cells.toList 0 cells
        simp only [Nat.add_zero] at e
        rw [show (List.foldl (fun cs (x : Value × Nat) => match x with | (c, j) => cs.setIfInBounds (off + j) c) cells (v.cells.toList.zipIdx)).toList = setFrom cells.toList off v.cells.toList from e]
        exact psOk_setFrom _ _ _ _ _ h (cellsPr_ok (hp (i, v, p) (by simp)))
theorem placesP_run {P : Program} {w : World} : ∀ (fs : List Field) (pl : List (Nat × Nat)), placesP P fs = some pl → (fs.mapM (m := Sem) fun f => do pure (f.offset, ← sizeOf f.type)).run P w = .ok pl w
  | [], pl, h => by simp only [placesP, Option.some.injEq] at h; subst h; rfl
  | f :: fs, pl, h => by
    simp only [placesP] at h
    split at h
    · rename_i n r hn hr
      injection h with h; subst h
      rw [List.mapM_cons]
      simp only [Sem.run_bind, sizeP_run hn, Result.andThen_ok, Sem.run_pure, placesP_run fs r hr]
    · cases h
theorem build_run {P : Program} {w w' : World} {t : TypeId} {parts : Array (Nat × Value)} {fs : Array Field} {pl : List (Nat × Nat)} {ti : TypeInfo} {z v : Value} (hu : P.underlying t = some (.struct fs)) (hpl : placesP P fs.toList = some pl) (hi : P.info? t = some ti) (hz : ti.zero = some z)
    (h : (Instr.build t parts).run P w = .ok v w') : ∃ cells, v = .agg cells ∧ Instr.fill (pl[·]?) z.cells parts.toList = some cells := by
  unfold Instr.build at h
  simp only [Sem.run_bind, zeroValue, typeInfo, run_program, Result.andThen_ok, hi, hz, Sem.run_pure, run_underlying hu] at h
  rw [Array.mapM_eq_mapM_toList, Sem.run_map] at h
  have hr := placesP_run (w := w) fs.toList pl hpl
  erw [hr] at h
  simp only [Result.andThen_ok] at h
  have he : (fun x : Nat => pl.toArray[x]?) = (fun x : Nat => pl[x]?) := by funext x; simp
  rw [he] at h
  cases hf : Instr.fill (fun x => pl[x]?) z.cells parts.toList with
  | none => rw [hf] at h; simp at h
  | some cells =>
    rw [hf] at h
    simp only [Sem.run_pure, Result.ok.injEq] at h
    exact ⟨cells, h.1.symm, rfl⟩

/-- A value that is reckoned alone points where it is said to. -/
theorem alonePr_ok {P : Program} {g : Option (Nat × Bool)} {n : Nat} {L : List Ent} {K : List (Chunk σ)} {o : Oper} {a : Act} {v : Value} (hF : Fr n L K a) (hg : GV a.tmps g) (hall : o.op.operands.all (fun x => (val g L x).isSome) = true) {w : World}
    (h : (execOp a.eval o).run P w = .ok (.value v) w) : pOk K v (alonePr P g L o) := by
  have hval : ∀ x ∈ o.op.operands, a.eval x = rho g L x := fun x hx => rho_sound hF hg (by
    rw [Array.all_eq_true_iff_forall_mem] at hall
    exact hall x hx)
  unfold alonePr
  split
  · -- build
    rename_i t parts hop
    unfold buildPr
    split
    · rename_i fs i hu hi
      split
      · rename_i pl z hpl hz
        have hrun : (Instr.build t (parts.map fun x => (x.1, a.eval x.2))).run P w = .ok v w := by
          simp only [execOp, hop, Sem.run_bind] at h
          generalize hgr : (Instr.build t (Array.map (fun x => (x.1, a.eval x.2)) parts)).run P w = r at h
          cases r with
          | ok u w1 => simp only [Result.andThen_ok, Sem.run_pure, Result.ok.injEq, Next.value.injEq] at h; obtain ⟨rfl, rfl⟩ := h; rfl
          | halt x w1 => simp [Result.andThen] at h
        obtain ⟨cells, rfl, hf⟩ := build_run hu hpl hi hz hrun
        have hmem : ∀ x ∈ parts.toList, a.eval x.2 = rho g L x.2 ∧ pOk K (rho g L x.2) (prov g L x.2) := fun x hx => by
          have he := hval x.2 (by rw [hop]; simp only [Op.operands]; exact List.mem_toArray.2 (List.mem_map_of_mem hx))
          exact ⟨he, by rw [← he]; exact prov_sound hF hg⟩
        have hlist : (parts.map fun x => (x.1, a.eval x.2)).toList = (parts.toList.map fun x => (x.1, rho g L x.2, prov g L x.2)).map fun x => (x.1, x.2.1) := by
          rw [Array.toList_map, List.map_map]
          apply List.map_congr_left
          intro x hx
          simp [(hmem x hx).1]
        rw [hlist] at hf
        have hz0 : psOk K z.cells.toList (nos z.cells.size) := by simpa using nos_ok (K := K) z.cells.toList
        have := fill_ok (K := K) (pl[·]?) _ z.cells cells (nos z.cells.size) hz0 (fun x hx => by
          simp only [List.mem_map] at hx
          obtain ⟨y, hy, rfl⟩ := hx
          exact (hmem y hy).2) hf
        have := mkMany_agg this
        rw [Array.toArray_toList] at this
        exact this
      · exact pOk_no
    · exact pOk_no
  · -- field
    rename_i t x f hop
    have hx := prov_sound (x := x) hF hg
    unfold partPr
    split
    · rename_i fs ps hu hp
      rw [hp] at hx
      split
      · rename_i fd hf
        have hrun : (Instr.field t (a.eval x) f).run P w = .ok v w := by
          simp only [execOp, hop, Sem.run_bind] at h
          cases hr : (Instr.field t (a.eval x) f).run P w with
          | ok u w1 => rw [hr] at h; simp only [Result.andThen_ok, Sem.run_pure, Result.ok.injEq, Next.value.injEq] at h; obtain ⟨rfl, rfl⟩ := h; rfl
          | halt y w1 => rw [hr] at h; simp [Result.andThen] at h
        cases hex : a.eval x with
        | agg cs =>
          rw [hex] at hx hrun
          have hps : psOk K cs.toList ps := by simpa [pOk] using hx
          rw [psOk_iff] at hps
          simp only [Instr.field, Sem.run_bind, run_underlying hu, Result.andThen_ok, hf, asAgg, Sem.run_pure, Go.part] at hrun
          split
          · rename_i m ha hs
            rw [aggB_run ha] at hrun
            simp only [Result.andThen_ok, if_true, Sem.run_bind, sizeP_run hs, Sem.run_pure, Result.ok.injEq, and_true] at hrun
            subst hrun
            have hq : psOk K (cs.extract fd.offset (fd.offset + m)).toList ((ps.drop fd.offset).take m) := by
              rw [psOk_iff]
              constructor
              · simp; have := hps.1; simp at this; omega
              · intro i v p h1 h2
                rw [List.getElem?_take] at h2
                split at h2
                · rename_i him
                  rw [List.getElem?_drop] at h2
                  rw [Array.toList_extract, List.extract_eq_take_drop, List.getElem?_take] at h1
                  split at h1
                  · rw [List.getElem?_drop] at h1; exact hps.2 _ v p h1 h2
                  · cases h1
                · cases h2
            have := mkMany_agg hq
            rw [Array.toArray_toList] at this
            exact this
          · rename_i m ha
            rw [aggB_run ha] at hrun
            simp only [Result.andThen_ok, Bool.false_eq_true, if_false] at hrun
            cases hc : cs[fd.offset]? with
            | none => rw [hc] at hrun; simp at hrun
            | some u =>
              rw [hc] at hrun
              simp only [Sem.run_pure, Result.ok.injEq, and_true] at hrun
              subst hrun
              rw [List.getD_eq_getElem?_getD]
              cases hp' : ps[fd.offset]? with
              | none => simpa using pOk_no
              | some p' => exact hps.2 fd.offset u p' (by simpa using hc) hp'
          · exact pOk_no
        | _ => rw [hex] at hrun; simp [Instr.field, run_underlying hu, hf, asAgg] at hrun
      · exact pOk_no
    · exact pOk_no
  · -- extract
    rename_i x i hop
    have hx := prov_sound (x := x) hF hg
    unfold tupPr
    split
    · rename_i ps hp
      rw [hp] at hx
      cases hex : a.eval x with
      | tuple vs =>
        rw [hex] at hx
        have hps : psOk K vs.toList ps := by simpa [pOk] using hx
        rw [psOk_iff] at hps
        simp only [execOp, hop, hex, Instr.extract, Sem.run_bind] at h
        cases hv : vs[i]? with
        | none => rw [hv] at h; simp at h
        | some u =>
          rw [hv] at h
          simp only [Sem.run_pure, Result.andThen_ok, Result.ok.injEq, Next.value.injEq, and_true] at h
          subst h
          rw [List.getD_eq_getElem?_getD]
          cases hp' : ps[i]? with
          | none => simpa using pOk_no
          | some p' => exact hps.2 i u p' (by simpa using hv) hp'
      | _ => simp [execOp, hop, hex, Instr.extract] at h
    · exact pOk_no
  · -- makeInterface
    rename_i t x hop
    have hx := prov_sound (x := x) hF hg
    split
    · exact pOk_no
    · rename_i p hp hno
      cases hc : P.concrete t with
      | false => exact pOk_no
      | true =>
        simp only [execOp, hop, Sem.run_bind, run_makeInterface w t (a.eval x) hc, Result.andThen_ok, Sem.run_pure, Result.ok.injEq, Next.value.injEq, and_true] at h
        subst h
        simp only [cond_true, pOk]
        exact hx
  · -- makeFunc
    rename_i fn first caps hop
    simp only [execOp, hop, Instr.makeFunc, Sem.run_bind, Sem.run_pure, Result.andThen_ok, Result.ok.injEq, Next.value.injEq, and_true] at h
    subst h
    apply mkMany_func
    rw [Array.toList_map]
    generalize caps.toList = l
    induction l with
    | nil => simp [psOk]
    | cons x l ih =>
      simp only [List.map_cons, psOk]
      exact ⟨prov_sound hF hg, ih⟩
  · -- nilCheck
    rename_i x hop
    split
    · rename_i q hv
      have hx := prov_sound (x := x) hF hg
      have he := val_sound hF hg hv
      simp only [execOp, hop, he, Sem.run_pure, Result.ok.injEq, Next.value.injEq, and_true] at h
      subst h
      rw [he] at hx; exact hx
    · exact pOk_no
  · exact pOk_no

theorem findNow_int {k kk vk : IntKind} {i : Int} : ∀ (es : List MapEntry) (m : Nat), (∀ e ∈ es, ∃ x y, e.key = .int kk x ∧ e.val = .int vk y) →
    (Instr.findNow (.int k) (.int kk i) es m = some none ∧ mlook es i = none ∧ ∀ e ∈ es, e.key ≠ .int kk i) ∨ ∃ j e y, Instr.findNow (.int k) (.int kk i) es m = some (some (m + j, .int vk y)) ∧ mlook es i = some y ∧ es[j]? = some e ∧ e.key = .int kk i ∧ ∀ j', j' < j → ∀ e', es[j']? = some e' → e'.key ≠ .int kk i
  | [], m, _ => .inl ⟨rfl, rfl, by simp⟩
  | e :: es, m, h => by
    obtain ⟨x, y, hk, hv⟩ := h e (by simp)
    by_cases hi : i = x
    · subst hi
      exact .inr ⟨0, e, y, by simp [Instr.findNow, Instr.sameNow, hk, hv], by simp [mlook, hk, hv], rfl, hk, fun j' hj => absurd hj (Nat.not_lt_zero _)⟩
    · have hb : (i == x) = false := by simpa using hi
      have hne : e.key ≠ .int kk i := by rw [hk]; intro e'; injection e' with _ e'; exact hi e'.symm
      rcases findNow_int (k := k) (i := i) es (m + 1) (fun e he => h e (by simp [he])) with ⟨h1, h2, h3⟩ | ⟨j, e', z, h1, h2, h3, h4, h5⟩
      · refine .inl ⟨by simp [Instr.findNow, Instr.sameNow, hk, hb, h1], by simp [mlook, hk, hv, hb, h2], fun e' he' => ?_⟩
        simp only [List.mem_cons] at he'
        rcases he' with rfl | he'
        · exact hne
        · exact h3 e' he'
      · refine .inr ⟨j + 1, e', z, by simp [Instr.findNow, Instr.sameNow, hk, hb, h1]; omega, by simp [mlook, hk, hv, hb, h2], by simpa using h3, h4, fun j' hj' e'' he'' => ?_⟩
        cases j' with
        | zero => simp at he''; subst he''; exact hne
        | succ j' => exact h5 j' (by omega) e'' (by simpa using he'')
theorem lookup_run {P : Program} {o : Oper} {a : Act} {w : World} {t : TypeId} {x ix : Operand} {ok : Bool} {b clock : Nat} {kk kk' vk : IntKind} {i : Int} {kt et : TypeId} {es : Array MapEntry} {f : Int → Option Int} (hop : o.op = .lookup t x ix ok) (hx : a.eval x = .map (some b)) (hi : a.eval ix = .int kk i)
    (hu : P.underlying t = some (.map kt et)) (hkt : P.underlying kt = some (.int kk')) (hz : (P.info? et).bind (·.zero) = some (.int vk 0)) (hb : w.heap[b]? = some (.map es clock)) (hm : MapIs kk vk es.toList f) :
    (execOp a.eval o).run P w = .ok (.value (bif ok then .tuple #[.int vk ((f i).getD 0), .bool (f i).isSome] else .int vk ((f i).getD 0))) w := by
  have hzz : ∀ w : World, (zeroValue et).run P w = .ok (.int vk 0) w := fun w => by
    cases hti : P.info? et with
    | none => rw [hti] at hz; cases hz
    | some ti =>
      rw [hti] at hz
      simp only [Option.bind_some] at hz
      simp [zeroValue, typeInfo, hti, hz]
  have hck : (Instr.checkKey es.isEmpty 10000 kt (.int kk i)).run P w = .ok () w := by
    unfold Instr.checkKey
    simp only [Sem.run_bind, run_underlying hkt, Result.andThen_ok, Sem.run_pure]
  have hm2 := hm.2 i
  rcases findNow_int (k := kk') (i := i) es.toList 0 hm.1 with ⟨h1, h2, _⟩ | ⟨j, e, y, h1, h2, _⟩
  · rw [h2] at hm2
    have hf : (Instr.findKey kt (.int kk i) es.toList).run P w = .ok none w := by simp [Instr.findKey, run_underlying hkt, h1]
    simp only [execOp, hop, hx, hi, Instr.lookup, Sem.run_bind, run_underlying hu, Result.andThen_ok, MapKept.run_getObj_map hb, Sem.run_pure, hck, hf, hzz, ← hm2]
    cases ok <;> rfl
  · rw [h2] at hm2
    have hf : (Instr.findKey kt (.int kk i) es.toList).run P w = .ok (some (0 + j, .int vk y)) w := by simp [Instr.findKey, run_underlying hkt, h1]
    simp only [execOp, hop, hx, hi, Instr.lookup, Sem.run_bind, run_underlying hu, Result.andThen_ok, MapKept.run_getObj_map hb, Sem.run_pure, hck, hf, ← hm2]
    cases ok <;> rfl

theorem findRo_spec {b : Nat} : ∀ {K : List (Chunk σ)} {k k' n : Nat} {cols : List Col}, findRo b k K = some (k', n, cols) → ∃ m cap, k' = k + m ∧ K[m]? = some (.ro (some ⟨b, 0, none⟩) n cap cols)
  | [], _, _, _, _, h => by simp [findRo] at h
  | c :: r, k, k', n, cols, h => by
    have next : findRo b (k + 1) r = some (k', n, cols) → ∃ m cap, k' = k + m ∧ (c :: r)[m]? = some (.ro (some ⟨b, 0, none⟩) n cap cols) := fun h => by
      obtain ⟨m, cap, h1, h2⟩ := findRo_spec h
      exact ⟨m + 1, cap, by omega, by simpa using h2⟩
    unfold findRo at h
    split at h
    · rename_i h0; cases h0
    · rename_i b' n' cap' cols' r' h0
      injection h0 with e1 e2
      subst e1; subst e2
      cases hb : Nat.beq b b' with
      | true =>
        rw [hb] at h
        simp only [cond_true, Option.some.injEq, Prod.mk.injEq] at h
        obtain ⟨rfl, rfl, rfl⟩ := h
        have := Nat.eq_of_beq_eq_true hb
        subst this
        exact ⟨0, cap', rfl, rfl⟩
      | false => rw [hb] at h; simp only [cond_false] at h; exact next h
    · rename_i h0
      injection h0 with e1 e2
      subst e1; subst e2
      exact next h

theorem q2_of_run {P : Program} {o : Oper} {a : Act} {C : World → Prop} {w : World} {v : Value} (h : (execOp a.eval o).run P w = .ok (.value v) w) : o.quietAt P a C w v ∧ ((∀ c, o.op ≠ .call c) → (execOp a.eval o).run P w = .ok (.value v) w) := ⟨q_of_run h, fun _ => h⟩
theorem callOf_call {P : Program} {g : Option (Nat × Bool)} {L : List Ent} {K : List (Chunk σ)} {o : Oper} {x : Nat × List (Value × Info σ) × List Pr} (h : callOf P g L K o = some x) : ∃ c, o.op = .call c := by
  unfold callOf at h
  split at h
  · rename_i hop; exact ⟨_, hop⟩
  · rename_i hop; exact ⟨_, hop⟩
  · cases h
/-- What is claimed of an operation that leaves memory alone. -/
def QS (P : Program) (o : Oper) (a : Act) (E : World) (G : Hp) (K : List (Chunk σ)) (v : Value) (p : Pr) : Prop :=
  (∀ w, SatK D E G w K → o.quietAt P a (fun w' => SatK D E G w' K) w v ∧ ((∀ c, o.op ≠ .call c) → (execOp a.eval o).run P w = .ok (.value v) w)) ∧ pOk K v p

theorem qstep_sound {P : Program} {T : List (Nat × Entry σ)} (hT : TableOk D P T) {g : Option (Nat × Bool)} {n : Nat} {L : List Ent} {K : List (Chunk σ)} {o : Oper} {a : Act} {v : Value} {p : Pr} {ps : List Prop}
    (hF : Fr n L K a) (hg : GV a.tmps g) (h : qstep P T g L K o = some (v, p, ps)) (hps : ∀ q ∈ ps, q) {E : World} {G : Hp} {w0 : World} (hS : SatK D E G w0 K) : QS D P o a E G K v p := by
  unfold qstep at h
  split at h
  · -- move
    rename_i x hop
    split at h
    · rename_i u hu
      simp only [Option.some.injEq, Prod.mk.injEq] at h; obtain ⟨rfl, rfl, rfl⟩ := h
      have hv := val_sound hF hg hu
      exact ⟨fun w _ => q2_of_run (by rw [ex_move (.inl hop), hv]), by rw [← hv]; exact prov_sound hF hg⟩
    · cases h
  · -- assign
    rename_i x hop
    split at h
    · rename_i u hu
      simp only [Option.some.injEq, Prod.mk.injEq] at h; obtain ⟨rfl, rfl, rfl⟩ := h
      have hv := val_sound hF hg hu
      exact ⟨fun w _ => q2_of_run (by rw [ex_move (.inr hop), hv]), by rw [← hv]; exact prov_sound hF hg⟩
    · cases h
  · -- pick
    rename_i c x y hop
    split at h
    · rename_i u hu
      simp only [Option.some.injEq, Prod.mk.injEq] at h; obtain ⟨rfl, rfl, rfl⟩ := h
      obtain ⟨t, h1, h2⟩ := pickVal_sound hF hg hu
      exact ⟨fun w _ => q2_of_run (by rw [ex_pick hop h1, h2]), pOk_no⟩
    · cases h
  · -- load
    rename_i t x hop
    have hpx := prov_sound (x := x) hF hg
    split at h
    · rename_i k off hpr
      rw [hpr, pOk_pt] at hpx
      obtain ⟨c, hk, hc⟩ := hpx
      split at h
      · rename_i b t0 cs hk'
        rw [hk'] at hk; injection hk with hk; subst hk
        split at h
        · rename_i u pu hu
          simp only [Option.some.injEq, Prod.mk.injEq] at h; obtain ⟨rfl, rfl, rfl⟩ := h
          refine ⟨fun w hw => q2_of_run (ex_load hop hc (cellsLoad_run (b := b) (t0 := t0) (fr := (0, 0)) ?_ hu)), cellsLoad_pOk (hF.kok _ _ _ _ hk') hu⟩
          obtain ⟨q, hq, hs⟩ := hw.get D hk'
          exact hs _ _ hq
        · cases h
      · rename_i b t0 vs hk'
        rw [hk'] at hk; injection hk with hk; subst hk
        split at h
        · rename_i u pu hu
          simp only [Option.some.injEq, Prod.mk.injEq] at h; obtain ⟨rfl, rfl, rfl⟩ := h
          refine ⟨fun w hw => q2_of_run (ex_load hop hc (cellsLoad_run (b := b) (t0 := t0) (fr := (0, 0)) ?_ hu)), pOk_no⟩
          obtain ⟨q, hq, _⟩ := hw.get D hk'
          have := hw.G D _ _ hq
          rw [List.map_map]
          simpa [Function.comp_def] using this
        · cases h
      · cases h
    · rename_i k i off hpr
      rw [hpr, pOk_pt] at hpx
      obtain ⟨c, hk, hc⟩ := hpx
      split at h
      · rename_i a' t0 m cap cols hk'
        rw [hk'] at hk; injection hk with hk; subst hk
        split at h
        · rename_i u hu
          simp only [Option.some.injEq, Prod.mk.injEq] at h; obtain ⟨rfl, rfl, rfl⟩ := h
          refine ⟨fun w hw => ?_, pOk_no⟩
          rcases row_cells D hw hk' hc with ⟨_, _, _, _, _, b, e1, e2, e3⟩ | ⟨_, _, _, _, b, e1, _⟩ | e1
          · injection e1 with _ _ _ _ e1; subst e1
            exact q2_of_run (ex_load hop e2 (rowLoad_run e3 hu))
          · cases e1
          · cases e1
        · cases h
      · rename_i a' m cap cols hk'
        rw [hk'] at hk; injection hk with hk; subst hk
        split at h
        · rename_i u hu
          simp only [Option.some.injEq, Prod.mk.injEq] at h; obtain ⟨rfl, rfl, rfl⟩ := h
          refine ⟨fun w hw => ?_, pOk_no⟩
          rcases row_cells D hw hk' hc with ⟨_, _, _, _, _, b, e1, _⟩ | ⟨_, _, _, _, b, e1, e2, e3⟩ | e1
          · cases e1
          · injection e1 with _ _ _ e1; subst e1
            exact q2_of_run (ex_load hop e2 (rowLoad_run e3 hu))
          · cases e1
        · cases h
      · cases h
    · cases h
  · -- fieldAddr
    rename_i s x f hop
    have hpx := prov_sound (x := x) hF hg
    split at h
    · rename_i fields k pk hu hpr
      rw [hpr, pOk_pt] at hpx
      obtain ⟨c, hk, hc⟩ := hpx
      split at h
      · rename_i fd qd hf hv
        have hev := val_sound hF hg hv
        rw [hev] at hc
        split at h
        · rename_i m hn
          split at h
          · rename_i off
            split at h
            · rename_i ad
              simp only [Option.some.injEq, Prod.mk.injEq] at h; obtain ⟨rfl, rfl, rfl⟩ := h
              refine ⟨fun w _ => q2_of_run (ex_fieldAddr hop hev hu hf hn), ?_⟩
              rw [pOk_pt]
              refine ⟨c, hk, ?_⟩
              cases c with
              | dead => trivial
              | cells b t cs =>
                simp only [cOk] at hc ⊢
                injection hc with hc; injection hc with hc; subst hc
                rw [Addr.add_lit0]
              | roc b t cs =>
                simp only [cOk] at hc ⊢
                injection hc with hc; injection hc with hc; subst hc
                rw [Addr.add_lit0]
              | _ => exact hc.elim
            · cases h
          · rename_i i off
            split at h
            · cases h
            rename_i hdead
            simp only [Option.some.injEq, Prod.mk.injEq] at h; obtain ⟨rfl, rfl, rfl⟩ := h
            cases c with
            | dead => exact absurd hk hdead
            | row a t n cap cols =>
              obtain ⟨h1, b, h2, h3⟩ := hc
              injection h3 with h3; subst h3
              refine ⟨fun w _ => q2_of_run (ex_fieldAddr hop hev hu hf hn), ?_⟩
              rw [pOk_pt]
              exact ⟨_, hk, h1, b, h2, by simp only [Option.map_some]; rw [Addr.add_add, Nat.add_assoc]⟩
            | ro a n cap cols =>
              obtain ⟨h1, b, h2, h3⟩ := hc
              injection h3 with h3; subst h3
              refine ⟨fun w _ => q2_of_run (ex_fieldAddr hop hev hu hf hn), ?_⟩
              rw [pOk_pt]
              exact ⟨_, hk, h1, b, h2, by simp only [Option.map_some]; rw [Addr.add_add, Nat.add_assoc]⟩
            | _ => exact hc.elim
          · cases h
        · cases h
      · cases h
    · cases h
  · -- indexAddr
    rename_i t x ix hop
    have hpx := prov_sound (x := x) hF hg
    split at h
    · rename_i e k ad m cap kk i hu hpr hvx hvi
      have hex := val_sound hF hg hvx
      have hei := val_sound hF hg hvi
      rw [hpr, hex, pOk_pt] at hpx
      obtain ⟨c, hk, hc⟩ := hpx
      split at h
      · rename_i sz a' t0 n' cap' cols hsz hk'
        rw [hk'] at hk; injection hk with hk; subst hk
        cases hbq : Nat.beq sz cols.length with
        | false => rw [hbq] at h; simp at h
        | true =>
          rw [hbq] at h
          have hlen := Nat.eq_of_beq_eq_true hbq
          simp only [cond_true, Option.some.injEq, Prod.mk.injEq] at h; obtain ⟨rfl, rfl, rfl⟩ := h
          have hb := gimp_elim (p := 0 ≤ i ∧ i < (m : Int)) hF hg (hps _ (by simp))
          simp only [cOk] at hc
          injection hc with hc1 hc2 hc3
          subst hc1; subst hc2
          have hin : i.toNat < m := by omega
          -- there is an element: so there is an address
          obtain ⟨q, hq, _⟩ := hS.get D hk'
          obtain ⟨b, hb', _⟩ := (den_row D hq).2.1 i.toNat hin
          cases a' with
          | none => simp at hb'
          | some b0 =>
            exact ⟨fun w hw => q2_of_run (ex_index_slice hop hex hei hu hsz hb.1 hb.2), pOk_pt.2 ⟨_, hk', hin, b0, rfl, by simp [hlen]⟩⟩
      · rename_i sz a' n' cap' cols hsz hk'
        rw [hk'] at hk; injection hk with hk; subst hk
        cases hbq : Nat.beq sz cols.length with
        | false => rw [hbq] at h; simp at h
        | true =>
          rw [hbq] at h
          have hlen := Nat.eq_of_beq_eq_true hbq
          simp only [cond_true, Option.some.injEq, Prod.mk.injEq] at h; obtain ⟨rfl, rfl, rfl⟩ := h
          have hb := gimp_elim (p := 0 ≤ i ∧ i < (m : Int)) hF hg (hps _ (by simp))
          simp only [cOk] at hc
          injection hc with hc1 hc2 hc3
          subst hc1; subst hc2
          have hin : i.toNat < m := by omega
          obtain ⟨q, hq, _⟩ := hS.get D hk'
          obtain ⟨b, hb', _⟩ := hq.1.2.1 i.toNat hin
          subst hb'
          exact ⟨fun w hw => q2_of_run (ex_index_slice hop hex hei hu hsz hb.1 hb.2), pOk_pt.2 ⟨_, hk', hin, b, rfl, by simp [hlen]⟩⟩
      · cases h
    · rename_i len e k off ad kk i hu hpr hvx hvi
      have hex := val_sound hF hg hvx
      have hei := val_sound hF hg hvi
      rw [hpr, hex, pOk_pt] at hpx
      obtain ⟨c, hk, hc⟩ := hpx
      split at h
      · rename_i u sz hsz
        cases hbq : decide (0 ≤ i) && decide (i < (len : Int)) with
        | false => rw [hbq] at h; simp at h
        | true =>
          rw [hbq] at h
          simp only [cond_true, Option.some.injEq, Prod.mk.injEq] at h; obtain ⟨rfl, rfl, rfl⟩ := h
          simp only [Bool.and_eq_true, decide_eq_true_eq] at hbq
          refine ⟨fun w _ => q2_of_run (ex_index_array hop hex hei hu hsz hbq.1 hbq.2), pOk_pt.2 ⟨c, hk, ?_⟩⟩
          cases c with
          | dead => trivial
          | cells b t cs =>
            simp only [cOk] at hc ⊢
            injection hc with hc; injection hc with hc; subst hc
            rw [Addr.add_lit0]
          | roc b t cs =>
            simp only [cOk] at hc ⊢
            injection hc with hc; injection hc with hc; subst hc
            rw [Addr.add_lit0]
          | _ => exact hc.elim
      · rename_i u sz hsz
        simp only [Option.some.injEq, Prod.mk.injEq] at h; obtain ⟨rfl, rfl, rfl⟩ := h
        have hb := gimp_elim (p := 0 ≤ i ∧ i < (len : Int)) hF hg (hps _ (by simp))
        refine ⟨fun w _ => q2_of_run (ex_index_array hop hex hei hu hsz hb.1 hb.2), pOk_pt.2 ⟨c, hk, ?_⟩⟩
        cases c with
        | dead => trivial
        | cells b t cs =>
          simp only [cOk] at hc ⊢
          injection hc with hc; injection hc with hc; subst hc
          rw [Addr.add_lit0]
        | roc b t cs =>
          simp only [cOk] at hc ⊢
          injection hc with hc; injection hc with hc; subst hc
          rw [Addr.add_lit0]
        | _ => exact hc.elim
      · cases h
    · rename_i len e ad kk i hu hpr hvx hvi
      have hex := val_sound hF hg hvx
      have hei := val_sound hF hg hvi
      split at h
      · rename_i b sz hsz
        split at h
        · rename_i k n' cols hfr
          cases hbq : Nat.beq n' len && Nat.beq sz cols.length with
          | false => rw [hbq] at h; simp at h
          | true =>
            rw [hbq] at h
            simp only [cond_true, Option.some.injEq, Prod.mk.injEq] at h; obtain ⟨rfl, rfl, rfl⟩ := h
            simp only [Bool.and_eq_true] at hbq
            have hb1 := Nat.eq_of_beq_eq_true hbq.1
            have hb2 := Nat.eq_of_beq_eq_true hbq.2
            have hb := gimp_elim (p := 0 ≤ i ∧ i < (len : Int)) hF hg (hps _ (by simp))
            obtain ⟨m, cap, hkm, hK⟩ := findRo_spec hfr
            have had : ad = ⟨b, 0, none⟩ := by
              simp only [val, Option.some.injEq, Value.pointer.injEq] at hvx
              exact hvx.symm
            have hK' : K[k]? = some (.ro (some ⟨b, 0, none⟩) n' cap cols) := by rw [hkm, Nat.zero_add]; exact hK
            refine ⟨fun w _ => q2_of_run (ex_index_array hop hex hei hu hsz hb.1 hb.2), pOk_pt.2 ⟨_, hK', ⟨by omega, _, rfl, by rw [had, hb2, Nat.add_zero]⟩⟩⟩
        · cases h
      · cases h
    · cases h
  · -- index
    rename_i t x ix hop
    split at h
    · rename_i st kk i hu hvx hvi
      simp only [Option.some.injEq, Prod.mk.injEq] at h; obtain ⟨rfl, rfl, rfl⟩ := h
      have hb := gimp_elim (p := 0 ≤ i ∧ i < (st.size : Int)) hF hg (hps _ (by simp))
      exact ⟨fun w _ => q2_of_run (ex_index_str hop (val_sound hF hg hvx) (val_sound hF hg hvi) hu hb.1 hb.2), pOk_no⟩
    · cases h
  · -- quo
    rename_i t x y t' hop
    split at h
    · rename_i k m k' d hx hy
      split at h
      · rename_i e _
        subst e
        simp only [Option.some.injEq, Prod.mk.injEq] at h; obtain ⟨rfl, rfl, rfl⟩ := h
        have hd := gimp_elim (p := d ≠ 0) hF hg (hps _ (by simp))
        exact ⟨fun w _ => q2_of_run (ex_quo hop (val_sound hF hg hx) (val_sound hF hg hy) hd), pOk_no⟩
      · cases h
    · cases h
  · -- rem
    rename_i t x y t' hop
    split at h
    · rename_i k m k' d hx hy
      split at h
      · rename_i e _
        subst e
        simp only [Option.some.injEq, Prod.mk.injEq] at h; obtain ⟨rfl, rfl, rfl⟩ := h
        have hd := gimp_elim (p := d ≠ 0) hF hg (hps _ (by simp))
        exact ⟨fun w _ => q2_of_run (ex_rem hop (val_sound hF hg hx) (val_sound hF hg hy) hd), pOk_no⟩
      · cases h
    · cases h
  · -- shl
    rename_i t x y t' hop
    split at h
    · rename_i k m k' d hx hy
      simp only [Option.some.injEq, Prod.mk.injEq] at h; obtain ⟨rfl, rfl, rfl⟩ := h
      have hd := gimp_elim (p := 0 ≤ d) hF hg (hps _ (by simp))
      exact ⟨fun w _ => q2_of_run (ex_shl hop (val_sound hF hg hx) (val_sound hF hg hy) hd), pOk_no⟩
    · cases h
  · -- shr
    rename_i t x y t' hop
    split at h
    · rename_i k m k' d hx hy
      simp only [Option.some.injEq, Prod.mk.injEq] at h; obtain ⟨rfl, rfl, rfl⟩ := h
      have hd := gimp_elim (p := 0 ≤ d) hF hg (hps _ (by simp))
      exact ⟨fun w _ => q2_of_run (ex_shr hop (val_sound hF hg hx) (val_sound hF hg hy) hd), pOk_no⟩
    · cases h
  · cases h
  · cases h
  · -- lookup
    rename_i t x ix ok hop
    have hpx := prov_sound (x := x) hF hg
    split at h
    · rename_i k ki i kt et hpr hvi hu
      have hei := val_sound hF hg hvi
      rw [hpr, pOk_pt] at hpx
      obtain ⟨c, hk, hc⟩ := hpx
      split at h
      · rename_i b kk vk f hk'
        rw [hk'] at hk; injection hk with hk; subst hk
        split at h
        · rename_i e1 kk' vk' _ hukt hz
          subst e1
          split at h
          · rename_i e2 e3 _ _
            subst e2; subst e3
            simp only [Option.some.injEq, Prod.mk.injEq] at h; obtain ⟨rfl, rfl, rfl⟩ := h
            refine ⟨fun w hw => q2_of_run ?_, pOk_no⟩
            obtain ⟨q, ⟨es, clock, hes, hm⟩, hs⟩ := hw.get D hk'
            exact lookup_run hop hc hei hu hukt hz (hs _ _ hes) hm
          · cases h
        · cases h
      · cases h
    · cases h
  · cases h
  · cases h
  · -- calls, and what computes alone
    rename_i hsel _ _ _ _
    split at h
    · rename_i f args prs hcall
      split at h
      · rename_i e he
        split at h
        · rename_i cd hcd
          split at h
          · rename_i pre out outp hr
            split at h
            rotate_left
            · cases h
            rename_i hop0
            simp only [Option.some.injEq, Prod.mk.injEq] at h; obtain ⟨rfl, rfl, rfl⟩ := h
            have hpre : ∀ q ∈ pre, q := fun q hq => gimp_elim hF hg (hps _ (List.mem_map_of_mem hq))
            refine ⟨fun w hw => ⟨?_, fun hnc => (by obtain ⟨c, hcc⟩ := callOf_call hcall; exact absurd hcc (hnc c))⟩, pOk_no⟩
            obtain ⟨hrun, hps1, hps2⟩ := callOf_run hF hg hcall w
            unfold Oper.quietAt
            rw [hrun]
            refine ⟨rfl, ?_⟩
            have hok := lookT_ok D hT he
            cases hob : objOf args with
            | none =>
              refine (call_entry_none D hok hps1 hps2 hcd hr.symm hpre hw hob).mono fun en w' ⟨acs, g1, g2, g3⟩ => ?_
              have : acs = [] := by
                cases acs with
                | nil => rfl
                | cons _ _ => exact g1.elim
              subst this
              exact ⟨g2, by simpa using g3⟩
            | some qs =>
              obtain ⟨q, s⟩ := qs
              obtain ⟨k, _, hk, hc⟩ := call_entry_some D hok hps1 hps2 hcd hr.symm hpre hw hob
              refine hc.mono fun en w' ⟨acs, g1, g2, g3⟩ => ?_
              have : acs = [] := by
                cases acs with
                | nil => rfl
                | cons _ _ => exact g1.elim
              subst this
              have hset : K.set k (Chunk.obj q s) = K := by
                apply List.ext_getElem?
                intro i
                by_cases hik : k = i
                · subst hik; rw [List.getElem?_set_self (lt_of_get hk), hk]
                · rw [List.getElem?_set_ne hik]
              exact ⟨g2, by simpa [hset] using g3⟩
          · cases h
        · cases h
      · cases h
    · split at h
      · rename_i b hb
        simp only [Option.some.injEq, Prod.mk.injEq] at h; obtain ⟨rfl, rfl, rfl⟩ := h
        exact ⟨fun w _ => q2_of_run (eqOf_run hF hg hb w), pOk_no⟩
      cases hall : o.op.operands.all (fun x => (val g L x).isSome) with
      | false => rw [hall] at h; simp at h
      | true =>
        rw [hall] at h
        simp only [cond_true] at h
        split at h
        · rename_i u hu
          simp only [Option.some.injEq, Prod.mk.injEq] at h; obtain ⟨rfl, rfl, rfl⟩ := h
          have hrun := fun w => evalS_exec hF hg (fun cs b hb => hsel cs b hb) hall hu w
          exact ⟨fun w _ => q2_of_run (hrun w), alonePr_ok hF hg hall (hrun w0)⟩
        · cases h
end Go.Sl
