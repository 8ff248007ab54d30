/-
  DERIVED. The symbolic machine of SlB is right, 3: one operation that leaves memory alone. No program is named.
-/
import Derived.Test.YtaenbinoejnecaaSlD
namespace Go.Sl
open Go.RowKit

variable {σ : Type} (D : Addr → σ → Asn)

section
variable {P : Program} {o : Oper} {a : Act} {w : World}
theorem ex_move {x : Operand} (h : o.op = .move x ∨ o.op = .assign x) : (execOp a.eval o).run P w = .ok (.value (a.eval x)) w := by
  rcases h with h | h <;> simp [execOp, h]
theorem ex_load {t : TypeId} {x : Operand} {p : Addr} {v : Value} (h : o.op = .load t x) (hx : a.eval x = .pointer (some p)) (hl : (loadVar t p).run P w = .ok v w) : (execOp a.eval o).run P w = .ok (.value v) w := by
  simp [execOp, h, hx, Instr.loadAt, Instr.sureAddr, hl]
theorem ex_fieldAddr {s : TypeId} {x : Operand} {f : Nat} {p : Addr} {fields : Array Field} {fd : Field} {n : Nat} (h : o.op = .fieldAddr s x f) (hx : a.eval x = .pointer (some p)) (hu : P.underlying s = some (.struct fields))
    (hf : fields[f]? = some fd) (hn : sizeP P fd.type = some (n + 1)) : (execOp a.eval o).run P w = .ok (.value (.pointer (some (p.add fd.offset)))) w := by
  simp [execOp, h, hx, Instr.fieldAt, Instr.sureAddr, run_underlying hu, hf, fieldPlace, sizeP_run hn]
theorem ex_index_slice {t e : TypeId} {x ix : Operand} {k : IntKind} {i : Int} {b : Addr} {len cap sz : Nat} (h : o.op = .indexAddr t x ix) (hx : a.eval x = .slice (some b) len cap) (hi : a.eval ix = .int k i)
    (hu : P.underlying t = some (.slice e)) (hn : sizeP P e = some sz) (h0 : 0 ≤ i) (h1 : i < (len : Int)) : (execOp a.eval o).run P w = .ok (.value (.pointer (some (b.add (i.toNat * sz))))) w := by
  simp [execOp, h, hx, hi, Instr.indexAt, asIntOf, run_underlying hu, sizeP_run hn, h0, h1]
theorem ex_index_array {t e : TypeId} {x ix : Operand} {k : IntKind} {i : Int} {b : Addr} {len sz : Nat} (h : o.op = .indexAddr t x ix) (hx : a.eval x = .pointer (some b)) (hi : a.eval ix = .int k i)
    (hu : P.underlying t = some (.array len e)) (hn : sizeP P e = some sz) (h0 : 0 ≤ i) (h1 : i < (len : Int)) : (execOp a.eval o).run P w = .ok (.value (.pointer (some (b.add (i.toNat * sz))))) w := by
  simp [execOp, h, hx, hi, Instr.indexAt, Instr.sureAddr, asIntOf, run_underlying hu, sizeP_run hn, h0, h1]
theorem ex_quo {t t' : TypeId} {x y : Operand} {k : IntKind} {m d : Int} (h : o.op = .binOp .quo t x y t') (hx : a.eval x = .int k m) (hy : a.eval y = .int k d) (hd : d ≠ 0) :
    (execOp a.eval o).run P w = .ok (.value (.int k (k.wrap (m.tdiv d)))) w := by
  simp [execOp, h, hx, hy, eqGuard, binOp, Op.intDiv, hd]
theorem ex_rem {t t' : TypeId} {x y : Operand} {k : IntKind} {m d : Int} (h : o.op = .binOp .rem t x y t') (hx : a.eval x = .int k m) (hy : a.eval y = .int k d) (hd : d ≠ 0) :
    (execOp a.eval o).run P w = .ok (.value (.int k (m.tmod d))) w := by
  simp [execOp, h, hx, hy, eqGuard, binOp, Op.intDiv, hd]
theorem ex_shl {t t' : TypeId} {x y : Operand} {k k' : IntKind} {m d : Int} (h : o.op = .binOp .shl t x y t') (hx : a.eval x = .int k m) (hy : a.eval y = .int k' d) (hd : 0 ≤ d) :
    (execOp a.eval o).run P w = .ok (.value (.int k (k.wrap (m * 2 ^ (min d.toNat k.bits))))) w := by
  have : ¬ d < 0 := by omega
  simp [execOp, h, hx, hy, eqGuard, binOp, Op.shift, this]
theorem ex_shr {t t' : TypeId} {x y : Operand} {k k' : IntKind} {m d : Int} (h : o.op = .binOp .shr t x y t') (hx : a.eval x = .int k m) (hy : a.eval y = .int k' d) (hd : 0 ≤ d) :
    (execOp a.eval o).run P w = .ok (.value (.int k (m.fdiv (2 ^ (min d.toNat k.bits))))) w := by
  have : ¬ d < 0 := by omega
  simp [execOp, h, hx, hy, eqGuard, binOp, Op.shift, this]
theorem ex_pick {c x y : Operand} {t : Bool} (h : o.op = .pick c x y) (hc : a.eval c = .bool t) : (execOp a.eval o).run P w = .ok (.value (if t then a.eval x else a.eval y)) w := by
  cases t <;> simp [execOp, h, hc, asBool]
end

theorem pickVal_sound {n : Nat} {L : List Ent} {K : List (Chunk σ)} {a : Act} {g : Option (Nat × Bool)} {c x y : Operand} {v : Value} (hF : Fr n L K a) (hg : GV a.tmps g) (h : pickVal g L c x y = some v) :
    ∃ t, a.eval c = .bool t ∧ (if t then a.eval x else a.eval y) = v := by
  unfold pickVal at h
  split at h
  · rename_i t cs hc
    have hce := val_sound hF hg hc
    refine ⟨t, hce, ?_⟩
    have ha : ∀ u, (match val g L x with | some v => some v | none => val (some (cs, true)) L x) = some u → t = true → a.eval x = u := by
      intro u hu ht
      split at hu
      · rename_i v' hv; injection hu with hu; subst hu; exact val_sound hF hg hv
      · exact val_sound (g := some (cs, true)) hF (by simp only [GV]; rw [← ht]; exact hce) hu
    have hb : ∀ u, (match val g L y with | some v => some v | none => val (some (cs, false)) L y) = some u → t = false → a.eval y = u := by
      intro u hu ht
      split at hu
      · rename_i v' hv; injection hu with hu; subst hu; exact val_sound hF hg hv
      · exact val_sound (g := some (cs, false)) hF (by simp only [GV]; rw [← ht]; exact hce) hu
    split at h
    · rename_i u z hA hB
      have ha' := ha _ hA
      have hb' := hb _ hB
      split at h
      · injection h with h; subst h
        cases t
        · simpa using hb' rfl
        · have := ha' rfl
          simp only [Act.eval, Value.bool.injEq] at this
          simp [Act.eval]
      · injection h with h; subst h
        cases t
        · have := hb' rfl
          simp [Act.eval]
        · simpa using ha' rfl
      · injection h with h; subst h
        cases t
        · simpa using hb' rfl
        · simpa using ha' rfl
    · rename_i k u k' z hA hB
      have ha' := ha _ hA
      have hb' := hb _ hB
      split at h
      · rename_i e _
        injection h with h; subst h; subst e
        cases t
        · simpa using hb' rfl
        · simpa using ha' rfl
      · cases h
    · cases h
  · cases h

theorem eqFs_run {P : Program} (d : Nat) (eq : TypeId → Value → Value → Option Bool) (heq : ∀ t x y r, eq t x y = some r → ∀ w, (Op.equalIn d t x y).run P w = .ok r w) (xs ys : Array Value) : ∀ (fs : List Field) (r : Bool), eqFs P eq xs ys fs = some r →
    ∀ w, (Op.eqFields d xs ys fs).run P w = .ok r w
  | [], r, h, w => by simp only [eqFs, Option.some.injEq] at h; subst h; simp [Op.eqFields]
  | f :: fs, r, h, w => by
    simp only [eqFs] at h
    cases hn : f.name == "_" with
    | true => rw [hn] at h; simp at h
    | false =>
      rw [hn] at h
      simp only [cond_false] at h
      split at h
      · rename_i a b s ha hb hs
        split at h
        · rename_i q hq
          simp only [Option.some.injEq] at h
          subst h
          have hne : f.name ≠ "_" := by simpa using hn
          simp only [Op.eqFields, hne, if_true, ne_eq, not_false_eq_true, Sem.run_bind, evalS_sound P _ _ ha, evalS_sound P _ _ hb, Result.andThen_ok, heq _ _ _ _ hq]
          cases q
          · simp
          · simpa using eqFs_run d eq heq xs ys fs s hs w
        · cases h
      · cases h
theorem eqVal_run {P : Program} : ∀ (d : Nat) (t : TypeId) (x y : Value) (r : Bool), eqVal P d t x y = some r → ∀ m, d ≤ m → ∀ w, (Op.equalIn m t x y).run P w = .ok r w
  | 0, t, x, y, r, h, _, _, _ => by simp [eqVal] at h
  | d + 1, t, x, y, r, h, m, hm, w => by
    obtain ⟨m', rfl⟩ : ∃ m', m = m' + 1 := ⟨m - 1, by omega⟩
    simp only [eqVal] at h
    split at h
    · rename_i k0 k a k' b hu
      split at h
      · rename_i e _
        subst e
        simp only [Option.some.injEq] at h; subst h
        exact run_equalIn_int w m' t k k0 a b hu
      · cases h
    · rename_i a b hu
      simp only [Option.some.injEq] at h; subst h
      exact run_equalIn_bool' w m' t a b hu
    · rename_i fs xs ys hu
      cases hs : P.stoodInHeld t with
      | true => rw [hs] at h; simp at h
      | false =>
        rw [hs] at h
        simp only [cond_false] at h
        have hf : P.fieldsOf t = fs := by simp [Program.fieldsOf, hu]
        rw [run_equalIn_struct w m' t xs ys (by rw [hf]; exact hu) hs, hf]
        exact eqFs_run m' (eqVal P d) (fun t x y r h w => eqVal_run d t x y r h m' (by omega) w) xs ys fs.toList r h w
    · cases h
theorem eqOf_run {P : Program} {g : Option (Nat × Bool)} {n : Nat} {L : List Ent} {K : List (Chunk σ)} {o : Oper} {a : Act} {b : Bool} (hF : Fr n L K a) (hg : GV a.tmps g) (h : eqOf P g L o = some b) (w : World) : (execOp a.eval o).run P w = .ok (.value (.bool b)) w := by
  unfold eqOf at h
  split at h
  · rename_i t x y t' hop
    split at h
    · rename_i xs ys hx hy
      cases hq : P.eqGuardType P.depth t with
      | true => rw [hq] at h; simp at h
      | false =>
        rw [hq] at h
        simp only [cond_false] at h
        have hr := eqVal_run 8 t _ _ b h 10000 (by omega)
        simp [execOp, hop, val_sound hF hg hx, val_sound hF hg hy, run_eqGuard_agg w .eql t x y xs ys hq, run_eql_struct w t xs ys, hr]
    · cases h
  · rename_i t x y t' hop
    split at h
    · rename_i xs ys hx hy
      cases hq : P.eqGuardType P.depth t with
      | true => rw [hq] at h; simp at h
      | false =>
        rw [hq] at h
        simp only [cond_false, Option.map_eq_some_iff] at h
        obtain ⟨b', h, rfl⟩ := h
        have hr := eqVal_run 8 t _ _ b' h 10000 (by omega)
        simp [execOp, hop, val_sound hF hg hx, val_sound hF hg hy, run_eqGuard_agg w .neq t x y xs ys hq, run_neq_struct w t xs ys, hr]
    · cases h
  · cases h

/-- What is claimed of an operation that leaves memory alone. -/
def QS (P : Program) (o : Oper) (a : Act) (E : World) (G : Hp) (K : List (Chunk σ)) (v : Value) (p : Option (Nat × PK)) : Prop :=
  (∀ w, SatK D E G w K → o.quietAt P a (fun w' => SatK D E G w' K) w v) ∧ pOk K v p

theorem qstep_sound {P : Program} {T : List (Nat × Entry σ)} (hT : TableOk D P T) {g : Option (Nat × Bool)} {n : Nat} {L : List Ent} {K : List (Chunk σ)} {o : Oper} {a : Act} {v : Value} {p : Option (Nat × PK)} {ps : List Prop}
    (hF : Fr n L K a) (hg : GV a.tmps g) (h : qstep P T g L K o = some (v, p, ps)) (hps : ∀ q ∈ ps, q) {E : World} {G : Hp} {w0 : World} (hS : SatK D E G w0 K) : QS D P o a E G K v p := by
  unfold qstep at h
  split at h
  · -- move
    rename_i x hop
    split at h
    · rename_i u hu
      simp only [Option.some.injEq, Prod.mk.injEq] at h; obtain ⟨rfl, rfl, rfl⟩ := h
      have hv := val_sound hF hg hu
      exact ⟨fun w _ => q_of_run (by rw [ex_move (.inl hop), hv]), by rw [← hv]; exact prov_sound hF hg⟩
    · cases h
  · -- assign
    rename_i x hop
    split at h
    · rename_i u hu
      simp only [Option.some.injEq, Prod.mk.injEq] at h; obtain ⟨rfl, rfl, rfl⟩ := h
      have hv := val_sound hF hg hu
      exact ⟨fun w _ => q_of_run (by rw [ex_move (.inr hop), hv]), by rw [← hv]; exact prov_sound hF hg⟩
    · cases h
  · -- pick
    rename_i c x y hop
    split at h
    · rename_i u hu
      simp only [Option.some.injEq, Prod.mk.injEq] at h; obtain ⟨rfl, rfl, rfl⟩ := h
      obtain ⟨t, h1, h2⟩ := pickVal_sound hF hg hu
      exact ⟨fun w _ => q_of_run (by rw [ex_pick hop h1, h2]), trivial⟩
    · cases h
  · -- load
    rename_i t x hop
    have hpx := prov_sound (x := x) hF hg
    split at h
    · rename_i k off hpr
      rw [hpr] at hpx
      obtain ⟨c, hk, hc⟩ := hpx
      split at h
      · rename_i b t0 cs hk'
        rw [hk'] at hk; injection hk with hk; subst hk
        split at h
        · rename_i u hu
          simp only [Option.some.injEq, Prod.mk.injEq] at h; obtain ⟨rfl, rfl, rfl⟩ := h
          refine ⟨fun w hw => q_of_run (ex_load hop hc (cellsLoad_run (b := b) (t0 := t0) (fr := (0, 0)) ?_ hu)), trivial⟩
          obtain ⟨q, hq, hs⟩ := hw.get D hk'
          exact hs _ _ hq
        · cases h
      · cases h
    · rename_i k i off hpr
      rw [hpr] at hpx
      obtain ⟨c, hk, hc⟩ := hpx
      split at h
      · rename_i a' t0 m cap cols hk'
        rw [hk'] at hk; injection hk with hk; subst hk
        split at h
        · rename_i u hu
          simp only [Option.some.injEq, Prod.mk.injEq] at h; obtain ⟨rfl, rfl, rfl⟩ := h
          refine ⟨fun w hw => ?_, trivial⟩
          rcases row_cells D hw hk' hc with ⟨_, _, _, _, _, b, e1, e2, e3⟩ | ⟨_, _, _, _, b, e1, _⟩ | e1
          · injection e1 with _ _ _ _ e1; subst e1
            exact q_of_run (ex_load hop e2 (rowLoad_run e3 hu))
          · cases e1
          · cases e1
        · cases h
      · rename_i a' m cap cols hk'
        rw [hk'] at hk; injection hk with hk; subst hk
        split at h
        · rename_i u hu
          simp only [Option.some.injEq, Prod.mk.injEq] at h; obtain ⟨rfl, rfl, rfl⟩ := h
          refine ⟨fun w hw => ?_, trivial⟩
          rcases row_cells D hw hk' hc with ⟨_, _, _, _, _, b, e1, _⟩ | ⟨_, _, _, _, b, e1, e2, e3⟩ | e1
          · cases e1
          · injection e1 with _ _ _ e1; subst e1
            exact q_of_run (ex_load hop e2 (rowLoad_run e3 hu))
          · cases e1
        · cases h
      · cases h
    · cases h
  · -- fieldAddr
    rename_i s x f hop
    have hpx := prov_sound (x := x) hF hg
    split at h
    · rename_i fields k pk hu hpr
      rw [hpr] at hpx
      obtain ⟨c, hk, hc⟩ := hpx
      split at h
      · rename_i fd ad hf hv
        have hev := val_sound hF hg hv
        split at h
        · rename_i m hn
          split at h
          · rename_i off
            simp only [Option.some.injEq, Prod.mk.injEq] at h; obtain ⟨rfl, rfl, rfl⟩ := h
            refine ⟨fun w _ => q_of_run (ex_fieldAddr hop hev hu hf hn), ?_⟩
            refine ⟨c, hk, ?_⟩
            rw [hev] at hc
            cases c with
            | dead => trivial
            | cells b t cs =>
              simp only [cOk] at hc ⊢
              injection hc with hc; injection hc with hc; subst hc
              rw [Addr.add_lit0]
            | _ => exact hc.elim
          · rename_i i off
            simp only [Option.some.injEq, Prod.mk.injEq] at h; obtain ⟨rfl, rfl, rfl⟩ := h
            refine ⟨fun w _ => q_of_run (ex_fieldAddr hop hev hu hf hn), ?_⟩
            refine ⟨c, hk, ?_⟩
            rw [hev] at hc
            cases c with
            | dead => trivial
            | row a t n cap cols =>
              obtain ⟨h1, b, h2, h3⟩ := hc
              injection h3 with h3; injection h3 with h3; subst h3
              exact ⟨h1, b, h2, by rw [Addr.add_add, Nat.add_assoc]⟩
            | ro a n cap cols =>
              obtain ⟨h1, b, h2, h3⟩ := hc
              injection h3 with h3; injection h3 with h3; subst h3
              exact ⟨h1, b, h2, by rw [Addr.add_add, Nat.add_assoc]⟩
            | _ => exact hc.elim
          · cases h
        · cases h
      · cases h
    · cases h
  · -- indexAddr
    rename_i t x ix hop
    have hpx := prov_sound (x := x) hF hg
    split at h
    · rename_i e k ad m cap kk i hu hpr hvx hvi
      have hex := val_sound hF hg hvx
      have hei := val_sound hF hg hvi
      rw [hpr, hex] at hpx
      obtain ⟨c, hk, hc⟩ := hpx
      split at h
      · rename_i sz a' t0 n' cap' cols hsz hk'
        rw [hk'] at hk; injection hk with hk; subst hk
        cases hbq : Nat.beq sz cols.length with
        | false => rw [hbq] at h; simp at h
        | true =>
          rw [hbq] at h
          have hlen := Nat.eq_of_beq_eq_true hbq
          simp only [cond_true, Option.some.injEq, Prod.mk.injEq] at h; obtain ⟨rfl, rfl, rfl⟩ := h
          have hb := gimp_elim (p := 0 ≤ i ∧ i < (m : Int)) hF hg (hps _ (by simp))
          simp only [cOk] at hc
          injection hc with hc1 hc2 hc3
          subst hc1; subst hc2
          have hin : i.toNat < m := by omega
          -- there is an element: so there is an address
          obtain ⟨q, hq, _⟩ := hS.get D hk'
          obtain ⟨b, hb', _⟩ := hq.1.2 i.toNat hin
          cases a' with
          | none => simp at hb'
          | some b0 =>
            exact ⟨fun w hw => q_of_run (ex_index_slice hop hex hei hu hsz hb.1 hb.2), _, hk', hin, b0, rfl, by simp [hlen]⟩
      · rename_i sz a' n' cap' cols hsz hk'
        rw [hk'] at hk; injection hk with hk; subst hk
        cases hbq : Nat.beq sz cols.length with
        | false => rw [hbq] at h; simp at h
        | true =>
          rw [hbq] at h
          have hlen := Nat.eq_of_beq_eq_true hbq
          simp only [cond_true, Option.some.injEq, Prod.mk.injEq] at h; obtain ⟨rfl, rfl, rfl⟩ := h
          have hb := gimp_elim (p := 0 ≤ i ∧ i < (m : Int)) hF hg (hps _ (by simp))
          simp only [cOk] at hc
          injection hc with hc1 hc2 hc3
          subst hc1; subst hc2
          have hin : i.toNat < m := by omega
          obtain ⟨q, hq, _⟩ := hS.get D hk'
          obtain ⟨b, hb', _⟩ := hq.2 i.toNat hin
          subst hb'
          exact ⟨fun w hw => q_of_run (ex_index_slice hop hex hei hu hsz hb.1 hb.2), _, hk', hin, b, rfl, by simp [hlen]⟩
      · cases h
    · rename_i len e k off ad kk i hu hpr hvx hvi
      have hex := val_sound hF hg hvx
      have hei := val_sound hF hg hvi
      rw [hpr, hex] at hpx
      obtain ⟨c, hk, hc⟩ := hpx
      split at h
      · rename_i u sz hsz
        cases hbq : decide (0 ≤ i) && decide (i < (len : Int)) with
        | false => rw [hbq] at h; simp at h
        | true =>
          rw [hbq] at h
          simp only [cond_true, Option.some.injEq, Prod.mk.injEq] at h; obtain ⟨rfl, rfl, rfl⟩ := h
          simp only [Bool.and_eq_true, decide_eq_true_eq] at hbq
          refine ⟨fun w _ => q_of_run (ex_index_array hop hex hei hu hsz hbq.1 hbq.2), c, hk, ?_⟩
          cases c with
          | dead => trivial
          | cells b t cs =>
            simp only [cOk] at hc ⊢
            injection hc with hc; injection hc with hc; subst hc
            rw [Addr.add_lit0]
          | _ => exact hc.elim
      · cases h
    · cases h
  · -- quo
    rename_i t x y t' hop
    split at h
    · rename_i k m k' d hx hy
      split at h
      · rename_i e _
        subst e
        simp only [Option.some.injEq, Prod.mk.injEq] at h; obtain ⟨rfl, rfl, rfl⟩ := h
        have hd := gimp_elim (p := d ≠ 0) hF hg (hps _ (by simp))
        exact ⟨fun w _ => q_of_run (ex_quo hop (val_sound hF hg hx) (val_sound hF hg hy) hd), trivial⟩
      · cases h
    · cases h
  · -- rem
    rename_i t x y t' hop
    split at h
    · rename_i k m k' d hx hy
      split at h
      · rename_i e _
        subst e
        simp only [Option.some.injEq, Prod.mk.injEq] at h; obtain ⟨rfl, rfl, rfl⟩ := h
        have hd := gimp_elim (p := d ≠ 0) hF hg (hps _ (by simp))
        exact ⟨fun w _ => q_of_run (ex_rem hop (val_sound hF hg hx) (val_sound hF hg hy) hd), trivial⟩
      · cases h
    · cases h
  · -- shl
    rename_i t x y t' hop
    split at h
    · rename_i k m k' d hx hy
      simp only [Option.some.injEq, Prod.mk.injEq] at h; obtain ⟨rfl, rfl, rfl⟩ := h
      have hd := gimp_elim (p := 0 ≤ d) hF hg (hps _ (by simp))
      exact ⟨fun w _ => q_of_run (ex_shl hop (val_sound hF hg hx) (val_sound hF hg hy) hd), trivial⟩
    · cases h
  · -- shr
    rename_i t x y t' hop
    split at h
    · rename_i k m k' d hx hy
      simp only [Option.some.injEq, Prod.mk.injEq] at h; obtain ⟨rfl, rfl, rfl⟩ := h
      have hd := gimp_elim (p := 0 ≤ d) hF hg (hps _ (by simp))
      exact ⟨fun w _ => q_of_run (ex_shr hop (val_sound hF hg hx) (val_sound hF hg hy) hd), trivial⟩
    · cases h
  · cases h
  · -- calls, and what computes alone
    rename_i hsel
    split at h
    · rename_i f args hcall
      split at h
      · rename_i e he
        split at h
        · rename_i pre out hr
          simp only [Option.some.injEq, Prod.mk.injEq] at h; obtain ⟨rfl, rfl, rfl⟩ := h
          have hpre : ∀ q ∈ pre, q := fun q hq => gimp_elim hF hg (hps _ (List.mem_map_of_mem hq))
          refine ⟨fun w hw => ?_, trivial⟩
          obtain ⟨hrun, hinfo⟩ := callOf_run hF hg hcall w
          unfold Oper.quietAt
          rw [hrun]
          refine ⟨rfl, ?_⟩
          have hok := lookT_ok D hT he
          cases hob : objOf args with
          | none =>
            refine (call_entry_none D hok hinfo hr hpre hw hob).mono fun en w' ⟨acs, g1, g2, g3⟩ => ?_
            have : acs = [] := by simpa using g1
            subst this
            exact ⟨g2, by simpa using g3⟩
          | some qs =>
            obtain ⟨q, s⟩ := qs
            obtain ⟨k, hk, hc⟩ := call_entry_some D hok hinfo hr hpre hw hob
            refine hc.mono fun en w' ⟨acs, g1, g2, g3⟩ => ?_
            have : acs = [] := by simpa using g1
            subst this
            have hset : K.set k (Chunk.obj q s) = K := by
              apply List.ext_getElem?
              intro i
              by_cases hik : k = i
              · subst hik; rw [List.getElem?_set_self (lt_of_get hk), hk]
              · rw [List.getElem?_set_ne hik]
            exact ⟨g2, by simpa [hset] using g3⟩
        · cases h
      · cases h
    · split at h
      · rename_i b hb
        simp only [Option.some.injEq, Prod.mk.injEq] at h; obtain ⟨rfl, rfl, rfl⟩ := h
        exact ⟨fun w _ => q_of_run (eqOf_run hF hg hb w), trivial⟩
      cases hall : o.op.operands.all (fun x => (val g L x).isSome) with
      | false => rw [hall] at h; simp at h
      | true =>
        rw [hall] at h
        simp only [cond_true] at h
        split at h
        · rename_i u hu
          simp only [Option.some.injEq, Prod.mk.injEq] at h; obtain ⟨rfl, rfl, rfl⟩ := h
          exact ⟨fun w _ => q_of_run (evalS_exec hF hg (fun cs b hb => hsel cs b hb) hall hu w), trivial⟩
        · cases h
end Go.Sl
