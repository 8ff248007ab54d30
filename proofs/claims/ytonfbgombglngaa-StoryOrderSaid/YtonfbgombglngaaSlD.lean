/-
  DERIVED. The symbolic machine of SlB is right, 2: the operations that leave memory alone. No program is named.
-/
import Derived.Test.YtonfbgombglngaaSlC
namespace Go.Sl
open Go.RowKit

variable {σ : Type} (D : Addr → σ → Asn)

theorem q_of_run {P : Program} {o : Oper} {a : Act} {C : World → Prop} {w : World} {v : Value} (h : (execOp a.eval o).run P w = .ok (.value v) w) : o.quietAt P a C w v := by
  unfold Oper.quietAt
  rw [h]
  exact ⟨rfl, rfl⟩

theorem Addr.add_add (a : Addr) (m n : Nat) : (a.add m).add n = a.add (m + n) := by
  unfold Addr.add
  split <;> split <;> rename_i h1 h2
  · subst h1; subst h2; simp
  · subst h1; simp [h2]
  · subst h2; simp [h1]
  · rw [if_neg (by omega)]; simp [Nat.add_assoc]
theorem Addr.add_lit0 (b off n : Nat) : (⟨b, off, none⟩ : Addr).add n = ⟨b, off + n, none⟩ := by
  unfold Addr.add
  split
  · simp_all
  · rfl

theorem aggB_run {P : Program} {t : TypeId} {b : Bool} (h : aggB P t = some b) (w : World) : (isAgg t).run P w = .ok b w := by
  unfold aggB at h
  unfold isAgg
  cases hu : P.underlying t with
  | none => simp [hu] at h
  | some d =>
    rw [hu] at h
    simp only [Sem.run_bind, run_underlying hu, Result.andThen_ok]
    cases d <;> simp_all
theorem sizeP_run {P : Program} {t : TypeId} {n : Nat} (h : sizeP P t = some n) (w : World) : (sizeOf t).run P w = .ok n w := by
  unfold sizeP at h
  unfold sizeOf typeInfo
  cases hi : P.info? t with
  | none => simp [hi] at h
  | some i => simp [hi] at h; subst h; simp [hi]

theorem run_loadVar_agg {P : Program} {t : TypeId} {w : World} {a : Addr} {vs : List Value} (h : aggB P t = some true) (hn : sizeP P t = some vs.length) (hc : ∀ (j : Nat) v, vs[j]? = some v → w.cell? (a.add j) = some v) :
    (loadVar t a).run P w = .ok (.agg vs.toArray) w := by
  unfold loadVar
  simp only [Sem.run_bind, aggB_run h, Result.andThen_ok, if_true, sizeP_run hn, run_loadCells_list (P := P) w a vs hc, Sem.run_pure]
theorem run_loadVar_one {P : Program} {t : TypeId} {w : World} {a : Addr} {v : Value} (h : aggB P t = some false) (hc : w.cell? a = some v) :
    (loadVar t a).run P w = .ok v w := by
  unfold loadVar
  simp only [Sem.run_bind, aggB_run h, Result.andThen_ok, Bool.false_eq_true, if_false, run_load, hc]

theorem cellsLoad_run {P : Program} {t : TypeId} {w : World} {b off : Nat} {t0 : TypeId} {cs : List (Value × Pr)} {v : Value} {p : Pr} {fr : Nat × Nat} (hb : w.heap[b]? = some (.cells (cs.map (·.1)).toArray t0 fr)) (h : cellsLoad P t cs off = some (v, p)) :
    (loadVar t ⟨b, off, none⟩).run P w = .ok v w := by
  unfold cellsLoad at h
  have cell : ∀ o, w.cell? ⟨b, o, none⟩ = (cs[o]?).map (·.1) := fun o => by rw [cell_of_row w b o _ t0 fr hb]; simp
  cases ha : aggB P t with
  | none => simp [ha] at h
  | some g =>
    cases g with
    | false => simp only [ha] at h; exact run_loadVar_one ha (by rw [cell, h]; rfl)
    | true =>
      cases hs : sizeP P t with
      | none => simp [ha, hs] at h
      | some n =>
        simp only [ha, hs] at h
        cases hle : Nat.ble (off + n) cs.length with
        | false => rw [hle] at h; simp at h
        | true =>
          rw [hle] at h
          simp only [cond_true, Option.some.injEq, Prod.mk.injEq] at h
          obtain ⟨rfl, rfl⟩ := h
          have hle' := Nat.le_of_ble_eq_true hle
          refine run_loadVar_agg ha (by rw [hs]; simp; omega) fun j v hj => ?_
          rw [Addr.add_lit0, cell]
          rw [List.getElem?_map, List.getElem?_take] at hj
          split at hj
          · rw [List.getElem?_drop] at hj; exact hj
          · simp at hj
theorem cellsLoad_pOk {P : Program} {t : TypeId} {K : List (Chunk σ)} {off : Nat} {cs : List (Value × Pr)} {v : Value} {p : Pr} (hk : ∀ x ∈ cs, pOk K x.1 x.2) (h : cellsLoad P t cs off = some (v, p)) : pOk K v p := by
  unfold cellsLoad at h
  cases ha : aggB P t with
  | none => simp [ha] at h
  | some g =>
    cases g with
    | false => simp only [ha] at h; exact hk _ (List.mem_of_getElem? h)
    | true =>
      cases hs : sizeP P t with
      | none => simp [ha, hs] at h
      | some n =>
        simp only [ha, hs] at h
        cases hle : Nat.ble (off + n) cs.length with
        | false => rw [hle] at h; simp at h
        | true =>
          rw [hle] at h
          simp only [cond_true, Option.some.injEq, Prod.mk.injEq] at h
          obtain ⟨rfl, rfl⟩ := h
          refine mkMany_agg ?_
          rw [psOk_iff]
          refine ⟨by simp, fun i v p hv hp => ?_⟩
          rw [List.getElem?_map] at hv hp
          cases hx : ((cs.drop off).take n)[i]? with
          | none => simp [hx] at hv
          | some x =>
            simp only [hx, Option.map_some, Option.some.injEq] at hv hp
            subst hv; subst hp
            exact hk x (List.mem_of_mem_drop (List.mem_of_mem_take (List.mem_of_getElem? hx)))

theorem rowLoad_run {P : Program} {t : TypeId} {w : World} {b : Addr} {cols : List Col} {i off : Nat} {v : Value} (hb : ∀ (j : Nat) (c : Col), cols[j]? = some c → w.cell? (b.add (i * cols.length + j)) = some (c.at i)) (h : rowLoad P t cols i off = some v) :
    (loadVar t (b.add (i * cols.length + off))).run P w = .ok v w := by
  unfold rowLoad at h
  cases ha : aggB P t with
  | none => simp [ha] at h
  | some g =>
    cases g with
    | false =>
      simp only [ha] at h
      cases hc : cols[off]? with
      | none => simp [hc] at h
      | some c => simp [hc] at h; subst h; exact run_loadVar_one ha (hb off c hc)
    | true =>
      cases hs : sizeP P t with
      | none => simp [ha, hs] at h
      | some n =>
        simp only [ha, hs] at h
        cases hle : Nat.ble (off + n) cols.length with
        | false => rw [hle] at h; simp at h
        | true =>
          rw [hle] at h
          simp only [cond_true, Option.some.injEq] at h
          subst h
          have hle' := Nat.le_of_ble_eq_true hle
          refine run_loadVar_agg ha (by rw [hs]; simp; omega) fun j v hj => ?_
          rw [Addr.add_add, Nat.add_assoc]
          rw [List.getElem?_map, List.getElem?_take] at hj
          split at hj
          · rw [List.getElem?_drop] at hj
            cases hc : cols[off + j]? with
            | none => simp [hc] at hj
            | some c => simp [hc] at hj; subst hj; exact hb _ c hc
          · simp at hj

/-- What the state says of a chunk. -/
theorem SatK.get {E : World} {G : Hp} {w : World} {K : List (Chunk σ)} (h : SatK D E G w K) {k : Nat} {c : Chunk σ} (hk : K[k]? = some c) : ∃ p : Hp, den D G c p ∧ p.sub w := by
  obtain ⟨_, _, o, _, hA⟩ := h
  exact ⟨_, hA k _ (by rw [List.getElem?_map, hk]; rfl), fun b x hb => part_sub hb⟩
theorem SatK.G {E : World} {G : Hp} {w : World} {K : List (Chunk σ)} (h : SatK D E G w K) : G.sub w := h.2.1

theorem row_cells {E : World} {G : Hp} {w : World} {K : List (Chunk σ)} (h : SatK D E G w K) {k : Nat} {c : Chunk σ} {v : Value} {i off : Nat} (hk : K[k]? = some c) (hc : cOk c v (.elem i off)) :
    (∃ a t n cap cols, ∃ b : Addr, c = .row a t n cap cols ∧ v = .pointer (some (b.add (i * cols.length + off))) ∧ ∀ (j : Nat) (c : Col), cols[j]? = some c → w.cell? (b.add (i * cols.length + j)) = some (c.at i)) ∨
    (∃ a n cap cols, ∃ b : Addr, c = .ro a n cap cols ∧ v = .pointer (some (b.add (i * cols.length + off))) ∧ ∀ (j : Nat) (c : Col), cols[j]? = some c → w.cell? (b.add (i * cols.length + j)) = some (c.at i)) ∨ c = .dead := by
  obtain ⟨p, hp, hs⟩ := h.get D hk
  cases c with
  | dead => exact .inr (.inr rfl)
  | cells b t cs => exact hc.elim
  | roc b t cs => exact hc.elim
  | obj q s => exact hc.elim
  | map b kk vk f => exact hc.elim
  | row a t n cap cols =>
    obtain ⟨hi, b, rfl, rfl⟩ := hc
    have hR := den_row D hp
    obtain ⟨b', hb', hcell⟩ := hR.2.1 i hi
    simp at hb'; subst hb'
    exact .inl ⟨_, _, _, _, _, _, rfl, rfl, fun j c hj => cell_of_sub hs (hcell j c hj)⟩
  | ro a n cap cols =>
    obtain ⟨hi, b, rfl, rfl⟩ := hc
    obtain ⟨b', hb', hcell⟩ := hp.1.2.1 i hi
    injection hb' with hb'; subst hb'
    exact .inr (.inl ⟨_, _, _, _, _, rfl, rfl, fun j c hj => cell_of_sub h.G (hcell j c hj)⟩)

theorem evalS_exec {P : Program} {o : Oper} {a : Act} {n : Nat} {L : List Ent} {K : List (Chunk σ)} {g : Option (Nat × Bool)} (hF : Fr n L K a) (hg : GV a.tmps g) (hs : ∀ cs b, o.op ≠ .select cs b)
    (h : o.op.operands.all (fun x => (val g L x).isSome) = true) {nx : Next} (he : evalS P (execOp (rho g L) o) = some nx) (w : World) : (execOp a.eval o).run P w = .ok nx w := by
  rw [exec_sound hF hg hs h]
  exact evalS_sound P _ _ he w

/-- The arguments of a call that the state knows. -/
theorem infoOf_ok {G G' : Hp} {K : List (Chunk σ)} (hrow : ∀ (k : Nat) c, K[k]? = some c → (∀ q s, c ≠ .obj q s) → ∃ q : Hp, den D G c q ∧ ∀ b o, q b = some o → G' b = some o) (hG : ∀ b o, G b = some o → G' b = some o) :
    ∀ (p : Pr) (v : Value), pOk K v p → iOk G' v (infoOf K p) := by
  have key : ∀ n : Nat, (∀ p : Pr, SizeOf.sizeOf p < n → ∀ v, pOk K v p → iOk G' v (infoOf K p)) ∧ (∀ ps : List Pr, SizeOf.sizeOf ps < n → ∀ vs, psOk K vs ps → isOk G' vs (infosOf K ps)) := by
    intro n
    induction n with
    | zero => exact ⟨fun p h => absurd h (Nat.not_lt_zero _), fun p h => absurd h (Nat.not_lt_zero _)⟩
    | succ n ih =>
      constructor
      · intro p hp v h
        cases p with
        | no => simp [infoOf, iOk]
        | box p => simp [infoOf, iOk]
        | many ps =>
          have hlt : SizeOf.sizeOf ps < n := by simp at hp; omega
          cases v <;> simp only [pOk] at h <;> simp only [infoOf, iOk]
          all_goals exact ih.2 ps hlt _ h
        | pt k pk =>
          simp only [pOk] at h
          obtain ⟨c, h1, h2⟩ := h
          cases pk with
          | cell off =>
            cases c with
            | cells b t cs =>
              obtain ⟨q, hq, hs⟩ := hrow k _ h1 (by simp)
              simp only [infoOf, h1]
              cases hb : Nat.beq off 0 with
              | false => simp [iOk]
              | true =>
                have := Nat.eq_of_beq_eq_true hb
                subst this
                simp only [cond_true, iOk]
                exact ⟨b, h2, hs _ _ hq⟩
            | roc b t vs =>
              obtain ⟨q, hq, hs⟩ := hrow k _ h1 (by simp)
              simp only [infoOf, h1]
              cases hb : Nat.beq off 0 with
              | false => simp [iOk]
              | true =>
                have := Nat.eq_of_beq_eq_true hb
                subst this
                simp only [cond_true, iOk]
                exact ⟨b, h2, hG _ _ hq⟩
            | _ => simp [infoOf, h1, iOk]
          | elem i off => simp [infoOf, iOk]
          | slice =>
            cases c with
            | row a t n cap cols =>
              obtain ⟨q, hq, hs⟩ := hrow k _ h1 (by simp)
              simp only [infoOf, h1, iOk]
              exact ⟨_, _, h2, (den_row D hq).mono hs, den_cap D hq⟩
            | ro a n cap cols =>
              obtain ⟨q, hq, hs⟩ := hrow k _ h1 (by simp)
              simp only [infoOf, h1, iOk]
              exact ⟨_, _, h2, RowAt.mono hG hq.1, hq.2⟩
            | _ => simp [infoOf, h1, iOk]
          | map => simp [infoOf, iOk]
          | obj =>
            cases c with
            | obj q s => simp only [infoOf, h1, iOk]; exact ⟨_, h2⟩
            | _ => simp [infoOf, h1, iOk]
      · intro ps hp vs h
        cases ps with
        | nil => cases vs <;> simp [psOk, infosOf, isOk] at h ⊢
        | cons p ps =>
          cases vs with
          | nil => simp [psOk] at h
          | cons v vs =>
            simp only [psOk] at h
            simp only [infosOf, isOk]
            exact ⟨ih.1 p (by simp at hp; omega) v h.1, ih.2 ps (by simp at hp; omega) vs h.2⟩
  exact fun p v h => (key (SizeOf.sizeOf p + 1)).1 p (Nat.lt_succ_self _) v h

theorem callable_run {P : Program} {f : Nat} (h : callable P f = true) (xs : Array Value) (w : World) : (callFunc f xs).run P w = .ok (.enter f xs) w := by
  unfold callable at h
  cases hf : P.funcs[f]? with
  | none => simp [hf] at h
  | some fn =>
    simp only [hf, Bool.and_eq_true, Bool.not_eq_true'] at h
    have hb : fn.body.isNone = false := by
      cases hbb : fn.body with
      | none => rw [hbb] at h; simp at h
      | some _ => rfl
    unfold callFunc
    simp only [Sem.run_bind, run_program, Result.andThen_ok, hf, h.1, hb, Bool.false_eq_true, if_false, Sem.run_pure]

theorem psOk_append {K : List (Chunk σ)} : ∀ {vs vs' : List Value} {ps ps' : List Pr}, psOk K vs ps → psOk K vs' ps' → psOk K (vs ++ vs') (ps ++ ps')
  | [], _, [], _, _, h => h
  | [], _, _ :: _, _, h, _ => by simp [psOk] at h
  | _ :: _, _, [], _, h, _ => by simp [psOk] at h
  | v :: vs, _, p :: ps, _, h, h' => by
    simp only [psOk] at h
    simp only [List.cons_append, psOk]
    exact ⟨h.1, psOk_append h.2 h'⟩
theorem capArgs_fst {K : List (Chunk σ)} : ∀ {vs : List Value} {ps : List Pr}, psOk K vs ps → (capArgs K vs ps).map (·.1) = vs
  | [], [], _ => rfl
  | [], _ :: _, h => by simp [psOk] at h
  | _ :: _, [], h => by simp [psOk] at h
  | v :: vs, p :: ps, h => by
    simp only [psOk] at h
    simp [capArgs, capArgs_fst h.2]
theorem capArgs_snd {K : List (Chunk σ)} : ∀ {vs : List Value} {ps : List Pr}, psOk K vs ps → (capArgs K vs ps).map (·.2) = infosOf K ps
  | [], [], _ => rfl
  | [], _ :: _, h => by simp [psOk] at h
  | _ :: _, [], h => by simp [psOk] at h
  | v :: vs, p :: ps, h => by
    simp only [psOk] at h
    simp [capArgs, infosOf, capArgs_snd h.2]
theorem infosOf_append {K : List (Chunk σ)} : ∀ (ps qs : List Pr), infosOf K (ps ++ qs) = infosOf K ps ++ infosOf K qs
  | [], _ => rfl
  | p :: ps, qs => by simp [infosOf, infosOf_append ps qs]

theorem calOf_ok {g : Option (Nat × Bool)} {n : Nat} {L : List Ent} {K : List (Chunk σ)} {c : Operand} {f : Nat} {caps : List Value} {cps : List Pr} {a : Act} (hF : Fr n L K a) (hg : GV a.tmps g) (h : calOf g L c = some (f, caps, cps)) :
    a.eval c = .func (.func f) #[] caps.toArray ∧ psOk K caps cps := by
  have hp := prov_sound (x := c) hF hg
  unfold calOf at h
  split at h
  · rename_i f' caps' hv
    have he := val_sound hF hg hv
    rw [he] at hp
    split at h
    · rename_i ps hps
      rw [hps] at hp
      simp only [pOk] at hp
      cases hb : Nat.beq ps.length caps'.length with
      | false => rw [hb] at h; simp at h
      | true =>
        rw [hb] at h
        simp only [cond_true, Option.some.injEq, Prod.mk.injEq] at h
        obtain ⟨rfl, rfl, rfl⟩ := h
        exact ⟨he, hp⟩
    · simp only [Option.some.injEq, Prod.mk.injEq] at h
      obtain ⟨rfl, rfl, rfl⟩ := h
      exact ⟨he, nos_ok _⟩
  · cases h

theorem methOf_run {P : Program} {t : TypeId} {name : String} {f : Nat} (h : methOf P t name = some f) (v : Value) (fuel : Nat) (w : World) : (method (fuel + 1) t v name).run P w = .ok (f, v) w := by
  unfold methOf at h
  cases hi : P.info? t with
  | none => rw [hi] at h; cases h
  | some i =>
    rw [hi] at h
    simp only at h
    cases hm : i.methods.find? (·.name == name) with
    | none => rw [hm] at h; cases h
    | some m =>
      rw [hm] at h
      simp only at h
      cases hp : m.path.isEmpty with
      | false => rw [hp] at h; cases h
      | true =>
        rw [hp] at h
        simp only [cond_true] at h
        have hpl : m.path.toList = [] := by simpa using hp
        unfold method
        simp only [Sem.run_bind, typeInfo, run_program, hi, Result.andThen_ok, Sem.run_pure, hm, hpl, follow]
        split at h
        · rename_i f' e' hf hu
          injection h with h; subst h
          rw [hf]
          simp only [Sem.run_bind, receiverAt, run_underlying hu, Result.andThen_ok, Place.get, Sem.run_pure]
        · cases h
        · rename_i f' d hne hf hu
          injection h with h; subst h
          rw [hf]
          simp only [Sem.run_bind, receiverAt, run_underlying hu, Result.andThen_ok]
          cases d <;> first | (simp only [Place.get, Sem.run_pure, Result.andThen_ok]; done) | (exact absurd rfl (hne _ _ hf))
        · cases h
theorem unboxP_ok {K : List (Chunk σ)} {t : TypeId} {v : Value} {p : Pr} (h : pOk K (.iface t v) p) : pOk K v (unboxP p) := by
  cases p with
  | box p => simpa [unboxP, pOk] using h
  | _ => simp [unboxP, pOk]

theorem callOf_run {P : Program} {g : Option (Nat × Bool)} {n : Nat} {L : List Ent} {K : List (Chunk σ)} {o : Oper} {f : Nat} {args : List (Value × Info σ)} {prs : List Pr} {a : Act} (hF : Fr n L K a) (hg : GV a.tmps g)
    (h : callOf P g L K o = some (f, args, prs)) (w : World) :
    (execOp a.eval o).run P w = .ok (.enter f (args.map (·.1)).toArray) w ∧ psOk K (args.map (·.1)) prs ∧ args.map (·.2) = infosOf K prs := by
  unfold callOf at h
  split at h
  · rename_i recv name as at_ hop
    split at h
    · rename_i t v hv
      have hev := val_sound hF hg hv
      have hpr := prov_sound (x := recv) hF hg
      rw [hev] at hpr
      split at h
      · rename_i f' hm
        cases hc : (as.toList.all fun x => (val g L x).isSome) && callable P f' with
        | false => rw [hc] at h; simp at h
        | true =>
          rw [hc] at h
          simp only [cond_true, Option.some.injEq, Prod.mk.injEq] at h
          obtain ⟨rfl, rfl, rfl⟩ := h
          simp only [Bool.and_eq_true] at hc
          obtain ⟨hvs, hcall⟩ := hc
          have hval : ∀ x ∈ as.toList, a.eval x = rho g L x := fun x hx => rho_sound hF hg (by
            rw [List.all_eq_true] at hvs
            exact hvs x hx)
          refine ⟨?_, ?_, ?_⟩
          · unfold execOp
            simp only [hop]
            unfold resolve
            simp only [hev, Sem.run_bind, Sem.run_pure, Result.andThen_ok, invoke]
            have e0 : (#[Value.iface t v] ++ as.map a.eval)[0]? = some (.iface t v) := by rw [Array.getElem?_append_left (by simp)]; rfl
            rw [e0]
            simp only [callMethod, Sem.run_bind, run_program, Result.andThen_ok]
            have e1 : P.types.size + Made.depth = (P.types.size + Made.depth - 1) + 1 := by
              have : 0 < Made.depth := by decide
              omega
            rw [e1, methOf_run hm]
            simp only [Result.andThen_ok]
            have e2 : #[v] ++ (#[Value.iface t v] ++ as.map a.eval).extract 1 (#[Value.iface t v] ++ as.map a.eval).size = (List.map (fun x => x.1) ((v, infoOf K (unboxP (prov g L recv))) :: List.map (fun x => (rho g L x, infoOf (σ := σ) K (prov g L x))) as.toList)).toArray := by
              apply Array.ext'
              simp only [Array.toList_append, Array.toList_extract, List.extract_eq_take_drop, Array.size_append, Array.toList_map, List.map_cons, List.map_map, List.size_toArray, Array.size_map, List.length_singleton, List.length_cons, List.length_nil]
              simp only [List.cons_append, List.nil_append, List.drop_succ_cons, List.drop_zero, List.cons.injEq, true_and]
              rw [List.take_of_length_le (by simp)]
              apply List.map_congr_left
              intro x hx
              exact hval x hx
            rw [e2]
            exact callable_run hcall _ w
          · simp only [List.map_cons, psOk]
            refine ⟨unboxP_ok hpr, ?_⟩
            rw [List.map_map]
            generalize as.toList = l at hval
            induction l with
            | nil => simp [psOk]
            | cons x l ih =>
              simp only [List.map_cons, psOk]
              refine ⟨?_, ih fun y hy => hval y (by simp [hy])⟩
              show pOk K (rho g L x) _
              rw [← hval x (by simp)]
              exact prov_sound hF hg
          · simp only [List.map_cons, infosOf, List.map_map]
            congr 1
            generalize as.toList = l
            induction l with
            | nil => simp [infosOf]
            | cons x l ih => simp only [List.map_cons, infosOf, ih]; rfl
      · cases h
    · cases h
  · rename_i c as at_ hop
    split at h
    · rename_i f' caps cps hcal
      obtain ⟨hce, hcp⟩ := calOf_ok hF hg hcal
      cases hc : (as.toList.all fun x => (val g L x).isSome) && callable P f' with
      | false => rw [hc] at h; simp at h
      | true =>
        rw [hc] at h
        simp only [cond_true, Option.some.injEq, Prod.mk.injEq] at h
        obtain ⟨rfl, rfl, rfl⟩ := h
        simp only [Bool.and_eq_true] at hc
        obtain ⟨hv, hcall⟩ := hc
        have hval : ∀ x ∈ as.toList, a.eval x = rho g L x := fun x hx => rho_sound hF hg (by
          rw [List.all_eq_true] at hv
          exact hv x hx)
        refine ⟨?_, ?_, ?_⟩
        · unfold execOp
          simp only [hop]
          unfold resolve
          have hm : as.map a.eval ++ caps.toArray = (List.map (fun x => x.1) (List.map (fun x => (rho g L x, infoOf K (prov g L x))) as.toList ++ capArgs K caps cps)).toArray := by
            apply Array.ext'
            rw [List.map_append, capArgs_fst hcp]
            simp only [Array.toList_append, Array.toList_map, List.map_map]
            congr 1
            apply List.map_congr_left
            intro x hx
            exact hval x hx
          simp only [hce, Deferred.ofValue, Sem.run_bind, Sem.run_pure, Result.andThen_ok, invoke]
          have e0 : (#[] : Array Value) ++ Array.map a.eval as ++ caps.toArray = Array.map a.eval as ++ caps.toArray := by simp
          rw [e0, hm]
          exact callable_run hcall _ w
        · rw [List.map_append, capArgs_fst hcp]
          refine psOk_append ?_ hcp
          rw [List.map_map]
          generalize as.toList = l at hval
          induction l with
          | nil => simp [psOk]
          | cons x l ih =>
            simp only [List.map_cons, psOk]
            refine ⟨?_, ih fun y hy => hval y (by simp [hy])⟩
            show pOk K (rho g L x) _
            rw [← hval x (by simp)]
            exact prov_sound hF hg
        · rw [List.map_append, infosOf_append, capArgs_snd hcp]
          congr 1
          rw [List.map_map]
          generalize as.toList = l
          induction l with
          | nil => simp [infosOf]
          | cons x l ih => simp only [List.map_cons, infosOf, ih]; rfl
    · cases h
  · cases h

theorem map_den_get {G : Hp} {K : List (Chunk σ)} {k : Nat} {c : Chunk σ} (h : K[k]? = some c) : (K.map (den D G))[k]? = some (den D G c) := by
  rw [List.getElem?_map, h]; rfl

/-- The chunk list behind a call that has one object. -/
theorem den_mono {G G' : Hp} (hG : ∀ b o, G b = some o → G' b = some o) {c : Chunk σ} {p : Hp} (h : den D G c p) : den D G' c p := by
  cases c with
  | dead => exact h
  | cells b t cs => exact h
  | row a t n cap cols => exact h
  | ro a n cap cols => exact ⟨RowAt.mono hG h.1, h.2⟩
  | roc b t vs => exact hG _ _ h
  | obj q s => exact h
  | map b kk vk f => exact h

theorem info_cell_obj {K : List (Chunk σ)} {k off : Nat} (s : σ) : infoOf K (.pt k (.cell off)) ≠ .obj s := by
  simp only [infoOf]
  split
  · cases Nat.beq off 0 <;> simp
  · cases Nat.beq off 0 <;> simp
  · simp
theorem info_cell_many {K : List (Chunk σ)} {k off : Nat} (s : List (Info σ)) : infoOf K (.pt k (.cell off)) ≠ .many s := by
  simp only [infoOf]
  split
  · cases Nat.beq off 0 <;> simp
  · cases Nat.beq off 0 <;> simp
  · simp
/-- The places of the objects that are handed in are those of the objects. -/
theorem objK1_ok {K : List (Chunk σ)} : ∀ (vs : List Value) (ps : List Pr), psOk K vs ps → ∀ q s, (q, s) ∈ objsV.go vs (infosOf K ps) → ∃ k, k ∈ objKs.objK1 ps ∧ K[k]? = some (.obj q s)
  | [], ps, _, q, s, h => by simp [objsV.go] at h
  | v :: vs, [], h, _, _, _ => by simp [psOk] at h
  | v :: vs, p :: ps, h, q, s, hm => by
    simp only [psOk] at h
    have ih := objK1_ok vs ps h.2 q s
    simp only [infosOf] at hm
    rcases p with _ | ⟨k, pk⟩ | ps' | p'
    · cases v <;> simp only [infoOf, objsV.go] at hm <;> simpa [objKs.objK1] using ih hm
    · cases pk with
      | obj =>
        obtain ⟨c, h1, h2⟩ := (by simpa [pOk] using h.1 : ∃ c, K[k]? = some c ∧ cOk c v .obj)
        simp only [objKs.objK1, List.mem_cons]
        cases c with
        | obj p0 s0 =>
          simp only [cOk] at h2
          subst h2
          simp only [infoOf, h1, objsV.go, List.mem_cons, Prod.mk.injEq] at hm
          rcases hm with ⟨rfl, rfl⟩ | hm
          · exact ⟨k, .inl rfl, h1⟩
          · obtain ⟨k', hk', e⟩ := ih hm; exact ⟨k', .inr hk', e⟩
        | _ =>
          have hm' : (q, s) ∈ objsV.go vs (infosOf K ps) := by
            cases v with
            | pointer a => cases a <;> simpa [infoOf, h1, objsV.go] using hm
            | _ => simpa [infoOf, h1, objsV.go] using hm
          obtain ⟨k', hk', e⟩ := ih hm'; exact ⟨k', .inr hk', e⟩
      | slice =>
        have hm' : (q, s) ∈ objsV.go vs (infosOf K ps) := by
          have hne : ∀ s', infoOf K (.pt k .slice) ≠ .obj s' := fun s' => by
            simp only [infoOf]; split <;> simp
          cases v with
          | pointer a =>
            cases a with
            | none => simpa [objsV.go] using hm
            | some p0 =>
              cases hi : infoOf K (.pt k .slice) with
              | obj s' => exact absurd hi (hne s')
              | _ => simpa [hi, objsV.go] using hm
          | _ => simpa [objsV.go] using hm
        simpa [objKs.objK1] using ih hm'
      | cell off =>
        have hm' : (q, s) ∈ objsV.go vs (infosOf K ps) := by
          have hne : ∀ s', infoOf K (.pt k (.cell off)) ≠ .obj s' := info_cell_obj
          cases v with
          | pointer a =>
            cases a with
            | none => simpa [objsV.go] using hm
            | some p0 =>
              cases hi : infoOf K (.pt k (.cell off)) with
              | obj s' => exact absurd hi (hne s')
              | _ => simpa [hi, objsV.go] using hm
          | _ => simpa [objsV.go] using hm
        simpa [objKs.objK1] using ih hm'
      | elem i off => cases v <;> simp only [infoOf, objsV.go] at hm <;> simpa [objKs.objK1] using ih hm
      | map => cases v <;> simp only [infoOf, objsV.go] at hm <;> simpa [objKs.objK1] using ih hm
    · cases v <;> simp only [infoOf, objsV.go] at hm <;> simpa [objKs.objK1] using ih hm
    · cases v <;> simp only [infoOf, objsV.go] at hm <;> simpa [objKs.objK1] using ih hm

theorem objKs_ok {K : List (Chunk σ)} : ∀ (args : List (Value × Info σ)) (prs : List Pr), psOk K (args.map (·.1)) prs → args.map (·.2) = infosOf K prs → ∀ q s, (q, s) ∈ objsOf args → ∃ k, k ∈ objKs prs ∧ K[k]? = some (.obj q s)
  | [], prs, _, _, q, s, h => by simp [objsOf] at h
  | (v, i) :: args, [], h, _, _, _, _ => by simp [psOk] at h
  | (v, i) :: args, p :: ps, h, he, q, s, hm => by
    simp only [List.map_cons, psOk] at h
    simp only [List.map_cons, infosOf, List.cons.injEq] at he
    obtain ⟨rfl, he⟩ := he
    simp only [objsOf, List.mem_append] at hm
    have ih := objKs_ok args ps h.2 he q s
    rcases hm with hm | hm
    · -- the argument itself
      rcases p with _ | ⟨k, pk⟩ | ps' | p'
      · cases v <;> simp [infoOf, objsV] at hm
      · cases pk with
        | obj =>
          obtain ⟨c, h1, h2⟩ := (by simpa [pOk] using h.1 : ∃ c, K[k]? = some c ∧ cOk c v .obj)
          cases c with
          | obj p0 s0 =>
            simp only [cOk] at h2
            subst h2
            simp only [infoOf, h1, objsV, List.mem_singleton, Prod.mk.injEq] at hm
            obtain ⟨rfl, rfl⟩ := hm
            exact ⟨k, by simp [objKs], h1⟩
          | _ =>
            cases v with
            | pointer a => cases a <;> simp [infoOf, h1, objsV] at hm
            | _ => simp [infoOf, h1, objsV] at hm
        | slice =>
          have hne : ∀ s', infoOf K (.pt k .slice) ≠ .obj s' := fun s' => by
            simp only [infoOf]; split <;> simp
          have hnm : ∀ is', infoOf K (.pt k .slice) ≠ .many is' := fun s' => by
            simp only [infoOf]; split <;> simp
          cases hi : infoOf K (.pt k .slice) with
          | obj s' => exact absurd hi (hne s')
          | many s' => exact absurd hi (hnm s')
          | _ =>
            rw [hi] at hm
            cases v with
            | pointer a => cases a <;> simp [objsV] at hm
            | _ => simp [objsV] at hm
        | cell off =>
          have hne : ∀ s', infoOf K (.pt k (.cell off)) ≠ .obj s' := info_cell_obj
          have hnm : ∀ is', infoOf K (.pt k (.cell off)) ≠ .many is' := info_cell_many
          cases hi : infoOf K (.pt k (.cell off)) with
          | obj s' => exact absurd hi (hne s')
          | many s' => exact absurd hi (hnm s')
          | _ =>
            rw [hi] at hm
            cases v with
            | pointer a => cases a <;> simp [objsV] at hm
            | _ => simp [objsV] at hm
        | elem i off => cases v <;> simp [infoOf, objsV] at hm
        | map => cases v <;> simp [infoOf, objsV] at hm
      · cases v with
        | agg cs =>
          simp only [infoOf, objsV] at hm
          have h1 : psOk K cs.toList ps' := by simpa [pOk] using h.1
          obtain ⟨k, hk, e⟩ := objK1_ok _ _ h1 q s hm
          exact ⟨k, by simp [objKs, hk], e⟩
        | pointer a => cases a <;> simp [infoOf, objsV] at hm
        | _ => simp [infoOf, objsV] at hm
      · cases v with
        | pointer a => cases a <;> simp [infoOf, objsV] at hm
        | _ => simp [infoOf, objsV] at hm
    · obtain ⟨k, hk, e⟩ := ih hm
      refine ⟨k, ?_, e⟩
      rcases p with _ | ⟨k', pk⟩ | ps' | p'
      · simpa [objKs] using hk
      · cases pk <;> simp [objKs, hk]
      · simp [objKs, hk]
      · simpa [objKs] using hk

theorem rows_den (G G' : Hp) : ∀ (rows : List (Mk σ)) (acs : List (Option Nat × Nat)), ((List.zipWith sliceC rows acs : List (Chunk σ)).map (den D G)) = ((List.zipWith sliceC rows acs : List (Chunk σ)).map (den D G'))
  | [], _ => by simp
  | _ :: _, [] => by simp
  | r :: rows, ac :: acs => by
    simp only [List.zipWith_cons_cons, List.map_cons]
    rw [rows_den G G' rows acs]
    congr 1
    cases r with
    | row t cols => rfl
    | obj s => obtain ⟨a, c⟩ := ac; cases a <;> rfl

section
variable {P : Program} {T : List (Nat × Entry σ)} {g : Option (Nat × Bool)} {n : Nat} {L : List Ent} {K : List (Chunk σ)} {o : Oper} {f : Nat} {args : List (Value × Info σ)} {prs : List Pr} {a : Act} {e : Entry σ} {r : Res σ} {E : World} {G : Hp} {w : World}

theorem args_iOk {G' : Hp} (hrow : ∀ (k : Nat) c, K[k]? = some c → (∀ q s, c ≠ .obj q s) → ∃ q : Hp, den D G c q ∧ ∀ b o, q b = some o → G' b = some o) (hG : ∀ b o, G b = some o → G' b = some o) :
    ∀ (args : List (Value × Info σ)) (prs : List Pr), psOk K (args.map (·.1)) prs → args.map (·.2) = infosOf K prs → ∀ x ∈ args, iOk G' x.1 x.2
  | [], _, _, _, x, hx => by cases hx
  | (v, i) :: args, [], h, _, _, _ => by simp [psOk] at h
  | (v, i) :: args, p :: ps, h, he, x, hx => by
    simp only [List.map_cons, psOk] at h
    simp only [List.map_cons, infosOf, List.cons.injEq] at he
    obtain ⟨rfl, he⟩ := he
    simp only [List.mem_cons] at hx
    rcases hx with rfl | hx
    · exact infoOf_ok D hrow hG p v h.1
    · exact args_iOk hrow hG args ps h.2 he x hx

theorem call_entry_none (hok : EntryOk D P f e) (h1 : psOk K (args.map (·.1)) prs) (h2 : args.map (·.2) = infosOf K prs) {c : Did σ} (hc : e args = some c) (hr : r = c.r c.x) (hpre : ∀ p ∈ r.pre, p) (hS : SatK D E G w K) (hno : objOf args = none) :
    Calls P f (args.map (·.1)).toArray w fun en w' => ∃ acs : List (Option Nat × Nat), acsOk r.rows acs ∧ en = .returned (r.out (List.zipWith sliceV r.rows acs)) ∧
      SatK D E G w' (K ++ List.zipWith sliceC r.rows acs) := by
  obtain ⟨G', f1, f2, f3, f4⟩ := Sat.frame hS [] (by simp) (by simp)
  refine ((hok args c r hc hr).2 hpre E G' w (args_iOk D (fun k c hk _ => f2 k _ (map_den_get D hk) (by simp)) f1 args prs h1 h2) (by simpa [objAs, hno] using f3)).mono fun en w' ⟨acs, g1, g2, g3⟩ => ⟨acs, g1, g2, ?_⟩
  simp only [newAs, hno, List.nil_append] at g3
  rw [rows_den D G' G] at g3
  have g4 := f4 w' _ (by simp) g3
  unfold SatK
  rw [List.map_append]
  simp only [putBack] at g4
  exact g4

theorem call_entry_some (hok : EntryOk D P f e) (h1 : psOk K (args.map (·.1)) prs) (h2 : args.map (·.2) = infosOf K prs) {c : Did σ} (hc : e args = some c) (hr : r = c.r c.x) (hpre : ∀ p ∈ r.pre, p) (hS : SatK D E G w K) {q : Addr} {s : σ} (hob : objOf args = some (q, s)) :
    ∃ k : Nat, k ∈ objKs prs ∧ K[k]? = some (.obj q s) ∧ Calls P f (args.map (·.1)).toArray w fun en w' => ∃ acs : List (Option Nat × Nat), acsOk r.rows acs ∧ en = .returned (r.out (List.zipWith sliceV r.rows acs)) ∧
      SatK D E G w' (K.set k (.obj q (r.new.getD s)) ++ List.zipWith sliceC r.rows acs) := by
  have hmem : (q, s) ∈ objsOf args := by
    unfold objOf at hob
    split at hob
    · rename_i x hx; injection hob with hob; subst hob; rw [hx]; simp
    · cases hob
  obtain ⟨k, hkm, hk⟩ := objKs_ok args prs h1 h2 q s hmem
  refine ⟨k, hkm, hk, ?_⟩
  have hklt : k < K.length := lt_of_get hk
  obtain ⟨G', f1, f2, f3, f4⟩ := Sat.frame hS [k] (by simp) (by simpa using hklt)
  have hgd : (K.map (den D G)).getD k (fun _ => True) = D q s := by
    rw [List.getD_eq_getElem?_getD, map_den_get D hk]; rfl
  have hpre3 : Sat E G' w (objAs D args) := by
    simp only [List.map_cons, List.map_nil, hgd] at f3
    simp only [objAs, hob]
    exact f3
  refine ((hok args c r hc hr).2 hpre E G' w (args_iOk D (fun k' c hk' hnob => f2 k' _ (map_den_get D hk') ?_) f1 args prs h1 h2) hpre3).mono fun en w' ⟨acs, g1, g2, g3⟩ => ⟨acs, g1, g2, ?_⟩
  · simp only [List.mem_singleton]
    rintro rfl
    rw [hk] at hk'; injection hk' with hk'
    exact hnob _ _ hk'.symm
  · have hnew : newAs D args r.new = [D q (r.new.getD s)] := by simp only [newAs, hob]
    rw [hnew, rows_den D G' G] at g3
    have g4 := f4 w' _ (by simp) g3
    unfold SatK
    rw [List.map_append, List.map_set]
    simp only [List.singleton_append, putBack] at g4
    exact g4
end
end Go.Sl
