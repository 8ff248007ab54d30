/-
  DERIVED. The symbolic machine of SlB is right, 2: the operations that leave memory alone. No program is named.
-/
import Derived.Test.YtaenbinoejnecaaSlC
namespace Go.Sl
open Go.RowKit

variable {σ : Type} (D : Addr → σ → Asn)

theorem q_of_run {P : Program} {o : Oper} {a : Act} {C : World → Prop} {w : World} {v : Value} (h : (execOp a.eval o).run P w = .ok (.value v) w) : o.quietAt P a C w v := by
  unfold Oper.quietAt
  rw [h]
  exact ⟨rfl, rfl⟩

theorem Addr.add_add (a : Addr) (m n : Nat) : (a.add m).add n = a.add (m + n) := by
  unfold Addr.add
  split <;> split <;> rename_i h1 h2
  · subst h1; subst h2; simp
  · subst h1; simp [h2]
  · subst h2; simp [h1]
  · rw [if_neg (by omega)]; simp [Nat.add_assoc]
theorem Addr.add_lit0 (b off n : Nat) : (⟨b, off, none⟩ : Addr).add n = ⟨b, off + n, none⟩ := by
  unfold Addr.add
  split
  · simp_all
  · rfl

theorem aggB_run {P : Program} {t : TypeId} {b : Bool} (h : aggB P t = some b) (w : World) : (isAgg t).run P w = .ok b w := by
  unfold aggB at h
  unfold isAgg
  cases hu : P.underlying t with
  | none => simp [hu] at h
  | some d =>
    rw [hu] at h
    simp only [Sem.run_bind, run_underlying hu, Result.andThen_ok]
    cases d <;> simp_all
theorem sizeP_run {P : Program} {t : TypeId} {n : Nat} (h : sizeP P t = some n) (w : World) : (sizeOf t).run P w = .ok n w := by
  unfold sizeP at h
  unfold sizeOf typeInfo
  cases hi : P.info? t with
  | none => simp [hi] at h
  | some i => simp [hi] at h; subst h; simp [hi]

theorem run_loadVar_agg {P : Program} {t : TypeId} {w : World} {a : Addr} {vs : List Value} (h : aggB P t = some true) (hn : sizeP P t = some vs.length) (hc : ∀ (j : Nat) v, vs[j]? = some v → w.cell? (a.add j) = some v) :
    (loadVar t a).run P w = .ok (.agg vs.toArray) w := by
  unfold loadVar
  simp only [Sem.run_bind, aggB_run h, Result.andThen_ok, if_true, sizeP_run hn, run_loadCells_list (P := P) w a vs hc, Sem.run_pure]
theorem run_loadVar_one {P : Program} {t : TypeId} {w : World} {a : Addr} {v : Value} (h : aggB P t = some false) (hc : w.cell? a = some v) :
    (loadVar t a).run P w = .ok v w := by
  unfold loadVar
  simp only [Sem.run_bind, aggB_run h, Result.andThen_ok, Bool.false_eq_true, if_false, run_load, hc]

theorem cellsLoad_run {P : Program} {t : TypeId} {w : World} {b off : Nat} {t0 : TypeId} {cs : List Value} {v : Value} {fr : Nat × Nat} (hb : w.heap[b]? = some (.cells cs.toArray t0 fr)) (h : cellsLoad P t cs off = some v) :
    (loadVar t ⟨b, off, none⟩).run P w = .ok v w := by
  unfold cellsLoad at h
  have cell : ∀ o, w.cell? ⟨b, o, none⟩ = cs[o]? := fun o => by rw [cell_of_row w b o _ t0 fr hb]; simp
  cases ha : aggB P t with
  | none => simp [ha] at h
  | some g =>
    cases g with
    | false => simp only [ha] at h; exact run_loadVar_one ha (by rw [cell]; exact h)
    | true =>
      cases hs : sizeP P t with
      | none => simp [ha, hs] at h
      | some n =>
        simp only [ha, hs] at h
        cases hle : Nat.ble (off + n) cs.length with
        | false => rw [hle] at h; simp at h
        | true =>
          rw [hle] at h
          simp only [cond_true, Option.some.injEq] at h
          subst h
          have hle' := Nat.le_of_ble_eq_true hle
          refine run_loadVar_agg ha (by rw [hs]; simp; omega) fun j v hj => ?_
          rw [Addr.add_lit0, cell]
          rw [List.getElem?_take] at hj
          split at hj
          · rw [List.getElem?_drop] at hj; exact hj
          · cases hj

theorem rowLoad_run {P : Program} {t : TypeId} {w : World} {b : Addr} {cols : List Col} {i off : Nat} {v : Value} (hb : ∀ (j : Nat) (c : Col), cols[j]? = some c → w.cell? (b.add (i * cols.length + j)) = some (c.at i)) (h : rowLoad P t cols i off = some v) :
    (loadVar t (b.add (i * cols.length + off))).run P w = .ok v w := by
  unfold rowLoad at h
  cases ha : aggB P t with
  | none => simp [ha] at h
  | some g =>
    cases g with
    | false =>
      simp only [ha] at h
      cases hc : cols[off]? with
      | none => simp [hc] at h
      | some c => simp [hc] at h; subst h; exact run_loadVar_one ha (hb off c hc)
    | true =>
      cases hs : sizeP P t with
      | none => simp [ha, hs] at h
      | some n =>
        simp only [ha, hs] at h
        cases hle : Nat.ble (off + n) cols.length with
        | false => rw [hle] at h; simp at h
        | true =>
          rw [hle] at h
          simp only [cond_true, Option.some.injEq] at h
          subst h
          have hle' := Nat.le_of_ble_eq_true hle
          refine run_loadVar_agg ha (by rw [hs]; simp; omega) fun j v hj => ?_
          rw [Addr.add_add, Nat.add_assoc]
          rw [List.getElem?_map, List.getElem?_take] at hj
          split at hj
          · rw [List.getElem?_drop] at hj
            cases hc : cols[off + j]? with
            | none => simp [hc] at hj
            | some c => simp [hc] at hj; subst hj; exact hb _ c hc
          · simp at hj

/-- What the state says of a chunk. -/
theorem SatK.get {E : World} {G : Hp} {w : World} {K : List (Chunk σ)} (h : SatK D E G w K) {k : Nat} {c : Chunk σ} (hk : K[k]? = some c) : ∃ p : Hp, den D G c p ∧ p.sub w := by
  obtain ⟨_, _, o, _, hA⟩ := h
  exact ⟨_, hA k _ (by rw [List.getElem?_map, hk]; rfl), fun b x hb => part_sub hb⟩
theorem SatK.G {E : World} {G : Hp} {w : World} {K : List (Chunk σ)} (h : SatK D E G w K) : G.sub w := h.2.1

theorem row_cells {E : World} {G : Hp} {w : World} {K : List (Chunk σ)} (h : SatK D E G w K) {k : Nat} {c : Chunk σ} {v : Value} {i off : Nat} (hk : K[k]? = some c) (hc : cOk c v (.elem i off)) :
    (∃ a t n cap cols, ∃ b : Addr, c = .row a t n cap cols ∧ v = .pointer (some (b.add (i * cols.length + off))) ∧ ∀ (j : Nat) (c : Col), cols[j]? = some c → w.cell? (b.add (i * cols.length + j)) = some (c.at i)) ∨
    (∃ a n cap cols, ∃ b : Addr, c = .ro a n cap cols ∧ v = .pointer (some (b.add (i * cols.length + off))) ∧ ∀ (j : Nat) (c : Col), cols[j]? = some c → w.cell? (b.add (i * cols.length + j)) = some (c.at i)) ∨ c = .dead := by
  obtain ⟨p, hp, hs⟩ := h.get D hk
  cases c with
  | dead => exact .inr (.inr rfl)
  | cells b t cs => exact hc.elim
  | obj q s => exact hc.elim
  | row a t n cap cols =>
    obtain ⟨hi, b, rfl, rfl⟩ := hc
    obtain ⟨hR, _⟩ := hp
    obtain ⟨b', hb', hcell⟩ := hR.2 i hi
    simp at hb'; subst hb'
    exact .inl ⟨_, _, _, _, _, _, rfl, rfl, fun j c hj => cell_of_sub hs (hcell j c hj)⟩
  | ro a n cap cols =>
    obtain ⟨hi, b, rfl, rfl⟩ := hc
    obtain ⟨b', hb', hcell⟩ := hp.2 i hi
    injection hb' with hb'; subst hb'
    exact .inr (.inl ⟨_, _, _, _, _, rfl, rfl, fun j c hj => cell_of_sub h.G (hcell j c hj)⟩)

theorem evalS_exec {P : Program} {o : Oper} {a : Act} {n : Nat} {L : List Ent} {K : List (Chunk σ)} {g : Option (Nat × Bool)} (hF : Fr n L K a) (hg : GV a.tmps g) (hs : ∀ cs b, o.op ≠ .select cs b)
    (h : o.op.operands.all (fun x => (val g L x).isSome) = true) {nx : Next} (he : evalS P (execOp (rho g L) o) = some nx) (w : World) : (execOp a.eval o).run P w = .ok nx w := by
  rw [exec_sound hF hg hs h]
  exact evalS_sound P _ _ he w

/-- The arguments of a call that the state knows. -/
theorem infoOf_ok {E : World} {G : Hp} {w : World} {K : List (Chunk σ)} {v : Value} {p : Option (Nat × PK)} (hp : pOk K v p) (G' : Hp)
    (hrow : ∀ (k : Nat) c, K[k]? = some c → (∀ q s, c ≠ .obj q s) → ∃ q : Hp, den D G c q ∧ ∀ b o, q b = some o → G' b = some o) (hG : ∀ b o, G b = some o → G' b = some o) (_ : SatK D E G w K) : iOk G' v (infoOf K p) := by
  unfold infoOf
  split
  · rename_i k
    split
    · rename_i a t n cap cols hk
      obtain ⟨c, h1, h2⟩ := hp
      rw [hk] at h1; injection h1 with h1; subst h1
      obtain ⟨q, hq, hs⟩ := hrow k _ hk (by simp)
      exact ⟨_, _, h2, hq.1.mono hs⟩
    · rename_i a n cap cols hk
      obtain ⟨c, h1, h2⟩ := hp
      rw [hk] at h1; injection h1 with h1; subst h1
      obtain ⟨q, hq, hs⟩ := hrow k _ hk (by simp)
      exact ⟨_, _, h2, RowAt.mono hG hq⟩
    · trivial
  · rename_i k
    split
    · rename_i q s hk
      obtain ⟨c, h1, h2⟩ := hp
      rw [hk] at h1; injection h1 with h1; subst h1
      exact ⟨_, h2⟩
    · trivial
  · trivial

theorem callable_run {P : Program} {f : Nat} (h : callable P f = true) (xs : Array Value) (w : World) : (callFunc f xs).run P w = .ok (.enter f xs) w := by
  unfold callable at h
  cases hf : P.funcs[f]? with
  | none => simp [hf] at h
  | some fn =>
    simp only [hf, Bool.and_eq_true, Bool.not_eq_true'] at h
    have hb : fn.body.isNone = false := by
      cases hbb : fn.body with
      | none => rw [hbb] at h; simp at h
      | some _ => rfl
    unfold callFunc
    simp only [Sem.run_bind, run_program, Result.andThen_ok, hf, h.1, hb, Bool.false_eq_true, if_false, Sem.run_pure]

theorem callOf_run {P : Program} {g : Option (Nat × Bool)} {n : Nat} {L : List Ent} {K : List (Chunk σ)} {o : Oper} {f : Nat} {args : List (Value × Info σ)} {a : Act} (hF : Fr n L K a) (hg : GV a.tmps g)
    (h : callOf P g L K o = some (f, args)) (w : World) :
    (execOp a.eval o).run P w = .ok (.enter f (args.map (·.1)).toArray) w ∧ ∀ x ∈ args, ∃ p, pOk K x.1 p ∧ x.2 = infoOf K p := by
  unfold callOf at h
  split at h
  · rename_i f' as at_ hop
    cases hc : (as.toList.all fun x => (val g L x).isSome) && callable P f' with
    | false => rw [hc] at h; simp at h
    | true =>
      rw [hc] at h
      simp only [cond_true, Option.some.injEq, Prod.mk.injEq] at h
      obtain ⟨rfl, rfl⟩ := h
      simp only [Bool.and_eq_true] at hc
      obtain ⟨hv, hcall⟩ := hc
      have hval : ∀ x ∈ as, a.eval x = rho g L x := fun x hx => rho_sound hF hg (by
        rw [List.all_eq_true] at hv
        exact hv x (by simpa using hx))
      constructor
      · unfold execOp
        simp only [hop]
        unfold resolve
        have hm : as.map a.eval = (List.map (fun x => x.1) (List.map (fun x => (rho g L x, infoOf K (prov g L x))) as.toList)).toArray := by
          apply Array.ext'
          simp only [Array.toList_map, List.map_map]
          apply List.map_congr_left
          intro x hx
          exact hval x (by simpa using hx)
        simp only [Act.eval, Deferred.ofValue, Sem.run_bind, Sem.run_pure, Result.andThen_ok, invoke]
        rw [show (Array.map a.eval as) = _ from hm]
        simpa using callable_run hcall _ w
      · intro x hx
        simp only [List.mem_map] at hx
        obtain ⟨y, hy, rfl⟩ := hx
        refine ⟨prov g L y, ?_, rfl⟩
        rw [← hval y (by simpa using hy)]
        exact prov_sound hF hg
  · cases h

theorem map_den_get {G : Hp} {K : List (Chunk σ)} {k : Nat} {c : Chunk σ} (h : K[k]? = some c) : (K.map (den D G))[k]? = some (den D G c) := by
  rw [List.getElem?_map, h]; rfl

/-- The chunk list behind a call that has one object. -/
theorem den_mono {G G' : Hp} (hG : ∀ b o, G b = some o → G' b = some o) {c : Chunk σ} {p : Hp} (h : den D G c p) : den D G' c p := by
  cases c with
  | dead => exact h
  | cells b t cs => exact h
  | row a t n cap cols => exact h
  | ro a n cap cols => exact RowAt.mono hG h
  | obj q s => exact h

theorem infoOf_obj {K : List (Chunk σ)} {p : Option (Nat × PK)} {s : σ} (h : infoOf K p = .obj s) : ∃ (k : Nat) (q : Addr), p = some (k, .obj) ∧ K[k]? = some (.obj q s) := by
  unfold infoOf at h
  rcases p with _ | ⟨k, pk⟩
  · cases h
  · cases pk with
    | cell off => cases h
    | elem i off => cases h
    | slice =>
      simp only at h
      rcases hk : K[k]? with _ | c
      · rw [hk] at h; cases h
      · rw [hk] at h; cases c <;> cases h
    | obj =>
      simp only at h
      rcases hk : K[k]? with _ | c
      · rw [hk] at h; cases h
      · rw [hk] at h
        cases c with
        | obj q s' => simp only at h; injection h with h; subst h; exact ⟨k, q, rfl, hk⟩
        | _ => cases h

theorem rows_den (G G' : Hp) : ∀ (rows : List (TypeId × Nat × List Col)) (acs : List (Option Nat × Nat)), ((List.zipWith sliceC rows acs : List (Chunk σ)).map (den D G)) = ((List.zipWith sliceC rows acs : List (Chunk σ)).map (den D G'))
  | [], _ => by simp
  | _ :: _, [] => by simp
  | r :: rows, ac :: acs => by
    simp only [List.zipWith_cons_cons, List.map_cons]
    rw [rows_den G G' rows acs]
    rfl

/-- What a call that an entry describes leaves: nothing but new slices, but for the object that came first. -/
def CallPost (E : World) (G : Hp) (K : List (Chunk σ)) (args : List (Value × Info σ)) (r : Res σ) (acs : List (Option Nat × Nat)) (w' : World) : Prop :=
  match objOf args with
  | none => SatK D E G w' (K ++ List.zipWith sliceC r.rows acs)
  | some (q, s) => ∃ k : Nat, K[k]? = some (.obj q s) ∧ SatK D E G w' (K.set k (.obj q (r.new.getD s)) ++ List.zipWith sliceC r.rows acs)

section
variable {P : Program} {T : List (Nat × Entry σ)} {g : Option (Nat × Bool)} {n : Nat} {L : List Ent} {K : List (Chunk σ)} {o : Oper} {f : Nat} {args : List (Value × Info σ)} {a : Act} {e : Entry σ} {r : Res σ} {E : World} {G : Hp} {w : World}

theorem call_entry_none (hok : EntryOk D P f e) (hinfo : ∀ x ∈ args, ∃ p, pOk K x.1 p ∧ x.2 = infoOf K p) (hr : e args = some r) (hpre : ∀ p ∈ r.pre, p) (hS : SatK D E G w K) (hno : objOf args = none) :
    Calls P f (args.map (·.1)).toArray w fun en w' => ∃ acs : List (Option Nat × Nat), acs.length = r.rows.length ∧ en = .returned (r.out (List.zipWith sliceV r.rows acs)) ∧
      SatK D E G w' (K ++ List.zipWith sliceC r.rows acs) := by
  obtain ⟨G', h1, h2, h3, h4⟩ := Sat.frame hS [] (by simp) (by simp)
  refine (hok args r hr hpre E G' w (fun x hx => ?_) (by simpa [objAs, hno] using h3)).mono fun en w' ⟨acs, g1, g2, g3⟩ => ⟨acs, g1, g2, ?_⟩
  · obtain ⟨p, hp, hx2⟩ := hinfo x hx
    rw [hx2]
    refine infoOf_ok D hp G' (fun k c hk _ => ?_) h1 hS
    exact h2 k _ (map_den_get D hk) (by simp)
  · simp only [newAs, hno, List.nil_append] at g3
    rw [rows_den D G' G] at g3
    have g4 := h4 w' _ (by simp) g3
    unfold SatK
    rw [List.map_append]
    simp only [putBack] at g4
    exact g4

theorem call_entry_some (hok : EntryOk D P f e) (hinfo : ∀ x ∈ args, ∃ p, pOk K x.1 p ∧ x.2 = infoOf K p) (hr : e args = some r) (hpre : ∀ p ∈ r.pre, p) (hS : SatK D E G w K) {q : Addr} {s : σ} (hob : objOf args = some (q, s)) :
    ∃ k : Nat, K[k]? = some (.obj q s) ∧ Calls P f (args.map (·.1)).toArray w fun en w' => ∃ acs : List (Option Nat × Nat), acs.length = r.rows.length ∧ en = .returned (r.out (List.zipWith sliceV r.rows acs)) ∧
      SatK D E G w' (K.set k (.obj q (r.new.getD s)) ++ List.zipWith sliceC r.rows acs) := by
  obtain ⟨v0, rest, hargs, hv0⟩ : ∃ v0 rest, args = (v0, .obj s) :: rest ∧ v0 = .pointer (some q) := by
    unfold objOf at hob
    split at hob
    · rename_i p s' rest
      simp only [Option.some.injEq, Prod.mk.injEq] at hob
      obtain ⟨rfl, rfl⟩ := hob
      exact ⟨_, _, rfl, rfl⟩
    · cases hob
  obtain ⟨p, hp, hx2⟩ := hinfo (v0, .obj s) (by simp [hargs])
  dsimp only at hp hx2
  obtain ⟨k, hk⟩ : ∃ k : Nat, K[k]? = some (Chunk.obj q s) := by
    obtain ⟨k, q', rfl, hk⟩ := infoOf_obj hx2.symm
    obtain ⟨c, g1, g2⟩ := hp
    rw [hk] at g1; injection g1 with g1; subst g1
    simp only [cOk, hv0] at g2
    injection g2 with g2; injection g2 with g2
    subst g2
    exact ⟨k, hk⟩
  refine ⟨k, hk, ?_⟩
  have hklt : k < K.length := lt_of_get hk
  obtain ⟨G', h1, h2, h3, h4⟩ := Sat.frame hS [k] (by simp) (by simpa using hklt)
  have hgd : (K.map (den D G)).getD k (fun _ => True) = D q s := by
    rw [List.getD_eq_getElem?_getD, map_den_get D hk]; rfl
  have hpre3 : Sat E G' w (objAs D args) := by
    simp only [List.map_cons, List.map_nil, hgd] at h3
    simp only [objAs, hob]
    exact h3
  refine (hok args r hr hpre E G' w (fun x hx => ?_) hpre3).mono fun en w' ⟨acs, g1, g2, g3⟩ => ⟨acs, g1, g2, ?_⟩
  · obtain ⟨p', hp', hx2'⟩ := hinfo x hx
    rw [hx2']
    refine infoOf_ok D hp' G' (fun k' c hk' hnob => ?_) h1 hS
    refine h2 k' _ (map_den_get D hk') ?_
    simp only [List.mem_singleton]
    rintro rfl
    rw [hk] at hk'; injection hk' with hk'
    exact hnob _ _ hk'.symm
  · have hnew : newAs D args r.new = [D q (r.new.getD s)] := by
      simp only [newAs, hob]
      cases r.new <;> rfl
    rw [hnew, rows_den D G' G] at g3
    have g4 := h4 w' _ (by simp) g3
    unfold SatK
    rw [List.map_append, List.map_set]
    simp only [List.singleton_append, putBack] at g4
    exact g4
end
end Go.Sl
