/-
  DERIVED. The symbolic machine of SlB is right, 4: whole bodies. No program is named.
-/
import Derived.Test.YtonfbgombglngaaSlE
import Derived.Scope
namespace Go.Sl
open Go.RowKit

variable {σ : Type} (D : Addr → σ → Asn)

def bfr (f : FuncId) : Frame := { (default : Frame) with fn := f, kind := .normal }

/-- From this point on the call comes to an end that R allows. -/
def WT (P : Program) (f : FuncId) (R : Ending → World → Prop) (todo : List Item) (a : Act) (w : World) : Prop :=
  ∀ cs, ∃ e w' fr, R e w' ∧ Comes P (lone ((bfr f).at a todo) cs w) (lone fr cs w') e ∧ fr.fn = f ∧ fr.leaving P w' e

section
variable {P : Program} {f : FuncId} {R : Ending → World → Prop} {k : List Item} {a : Act} {w : World}

theorem WT.step {t t' : List Item} {a' : Act} {w' : World} (h : ∀ cs, step P (lone ((bfr f).at a t) cs w) = .next (lone ((bfr f).at a' t') cs w')) (H : WT P f R t' a' w') : WT P f R t a w := fun cs =>
  let ⟨e, w'', fr, h1, h2, h3⟩ := H cs
  ⟨e, w'', fr, h1, Comes.of_steps (.one (h cs)) h2, h3⟩

theorem WT.finish {fn : Func} {t : List Item} {v : Value} (hfn : P.funcs[f]? = some fn) (ht : t = [] ∨ ∃ k, t = .code .ret :: k) (hd : a.defers = []) (hr : (results fn a.tmps).run P w = .ok v w) (hR : R (.returned v) w) : WT P f R t a w := fun cs => by
  rcases ht with rfl | ⟨k, rfl⟩
  · exact ⟨.returned v, w, _, hR, Steps.one step_end, rfl, rfl, hd, rfl, fn, hfn, hr⟩
  · exact ⟨.returned v, w, _, hR, Steps.one step_ret, rfl, rfl, hd, rfl, fn, hfn, hr⟩

theorem calls_of_WT {fn : Func} {c : Code} {args : Array Value} (hf : P.funcs[f]? = some fn) (hb : fn.body = some c)
    (h : WT P f R [.code c] { tmps := args ++ Array.replicate (fn.ntmps - args.size) undef, defers := [] } w) : Calls P f args w R := fun cs => by
  have henter : Frame.enter P f args .normal = (bfr f).at { tmps := args ++ Array.replicate (fn.ntmps - args.size) undef, defers := [] } [.code c] := by
    simp [Frame.enter, Frame.at, hf, hb, bfr]
  rw [henter]
  exact h cs

theorem WT.op {ops : Array Oper} {i : Nat} {rest : List Nat} {o : Oper} {C : World → Prop} {v : Value} (ho : ops[i]? = some o) (hw : Region.wanted o (yielded ops a.tmps) = true) (hq : o.quietAt P a C w v) (hC : C w)
    (H : ∀ w', C w' → WT P f R (.inRegion ops rest :: k) (a.put o.dst v) w') : WT P f R (.inRegion ops (i :: rest) :: k) a w := by
  unfold Oper.quietAt at hq
  have hg : ∀ cs, _ := fun cs => stepG_op (P := P) (b := bfr f) (k := k) (cs := cs) (w := w) (rest := rest) ho hw
  have hfin : ∀ v, ((bfr f).at a (.inRegion ops (i :: rest) :: k)).finish v = (bfr f).at (a.put o.dst v) (.inRegion ops rest :: k) := by
    intro v; rw [Frame.finish_at, ho]; rfl
  cases hr : (execOp a.eval o).run P w with
  | halt x w' => rw [hr] at hq; exact hq.elim
  | ok nx w' =>
    rw [hr] at hq
    cases nx with
    | value u =>
      obtain ⟨rfl, rfl⟩ := hq
      refine WT.step (fun cs => step_lone_go ?_) (H _ hC)
      rw [hg, ← hfin]; simp [stepG.apply, hr]
    | skip =>
      obtain ⟨rfl, rfl⟩ := hq
      refine WT.step (fun cs => step_lone_go ?_) (H _ hC)
      rw [hg, ← hfin]; simp [stepG.apply, hr]
    | enter g args =>
      obtain ⟨rfl, hc⟩ := hq
      intro cs
      obtain ⟨e, w'', fr, ⟨he, hC''⟩, hsteps, _, hleave⟩ := hc ((bfr f).at a (.inRegion ops (i :: rest) :: k) :: cs)
      subst he
      have henter : Go.step P (lone ((bfr f).at a (.inRegion ops (i :: rest) :: k)) cs w') =
          .next (lone (Frame.enter P g args .normal) ((bfr f).at a (.inRegion ops (i :: rest) :: k) :: cs) w') :=
        step_lone_go (by rw [hg]; simp [stepG.apply, hr, Frame.at])
      have hstep := step_leave_returned (c := (bfr f).at a (.inRegion ops (i :: rest) :: k)) (cs := cs) hleave
      rw [hfin] at hstep
      obtain ⟨e, w3, fr', h1, h2, h3⟩ := H w'' hC'' cs
      exact ⟨e, w3, fr', h1, Comes.of_steps (.head henter (Steps.trans hsteps (.one hstep))) h2, h3⟩
    | _ => exact hq.elim

/-- An operation that makes or writes memory: its run is given. -/
theorem WT.op_run {ops : Array Oper} {i : Nat} {rest : List Nat} {o : Oper} {v : Value} {w' : World} (ho : ops[i]? = some o) (hw : Region.wanted o (yielded ops a.tmps) = true)
    (hr : (execOp a.eval o).run P w = .ok (.value v) w' ∨ ((execOp a.eval o).run P w = .ok .skip w' ∧ v = undef)) (H : WT P f R (.inRegion ops rest :: k) (a.put o.dst v) w') : WT P f R (.inRegion ops (i :: rest) :: k) a w := by
  have hg : ∀ cs, _ := fun cs => stepG_op (P := P) (b := bfr f) (k := k) (cs := cs) (w := w) (rest := rest) ho hw
  have hfin : ∀ v, ((bfr f).at a (.inRegion ops (i :: rest) :: k)).finish v = (bfr f).at (a.put o.dst v) (.inRegion ops rest :: k) := by
    intro v; rw [Frame.finish_at, ho]; rfl
  rcases hr with hr | ⟨hr, rfl⟩
  · refine WT.step (fun cs => step_lone_go ?_) H
    rw [hg, ← hfin]; simp [stepG.apply, hr]
  · refine WT.step (fun cs => step_lone_go ?_) H
    rw [hg, ← hfin]; simp [stepG.apply, hr]

/-- A call whose contract is given. -/
theorem WT.op_call {ops : Array Oper} {i : Nat} {rest : List Nat} {o : Oper} {g : FuncId} {args : Array Value} {w' : World} {Q : Ending → World → Prop} (ho : ops[i]? = some o) (hw : Region.wanted o (yielded ops a.tmps) = true)
    (hr : (execOp a.eval o).run P w = .ok (.enter g args) w') (hc : Calls P g args w' Q) (H : ∀ e w'', Q e w'' → ∃ v, e = .returned v ∧ WT P f R (.inRegion ops rest :: k) (a.put o.dst v) w'') : WT P f R (.inRegion ops (i :: rest) :: k) a w := by
  have hg : ∀ cs, _ := fun cs => stepG_op (P := P) (b := bfr f) (k := k) (cs := cs) (w := w) (rest := rest) ho hw
  have hfin : ∀ v, ((bfr f).at a (.inRegion ops (i :: rest) :: k)).finish v = (bfr f).at (a.put o.dst v) (.inRegion ops rest :: k) := by
    intro v; rw [Frame.finish_at, ho]; rfl
  intro cs
  obtain ⟨e, w'', fr, hQ, hsteps, _, hleave⟩ := hc ((bfr f).at a (.inRegion ops (i :: rest) :: k) :: cs)
  obtain ⟨v, rfl, HW⟩ := H e w'' hQ
  have henter : Go.step P (lone ((bfr f).at a (.inRegion ops (i :: rest) :: k)) cs w) =
      .next (lone (Frame.enter P g args .normal) ((bfr f).at a (.inRegion ops (i :: rest) :: k) :: cs) w') :=
    step_lone_go (by rw [hg]; simp [stepG.apply, hr, Frame.at])
  have hstep := step_leave_returned (c := (bfr f).at a (.inRegion ops (i :: rest) :: k)) (cs := cs) hleave
  rw [hfin] at hstep
  obtain ⟨e, w3, fr', h1, h2, h3⟩ := HW cs
  exact ⟨e, w3, fr', h1, Comes.of_steps (.head henter (Steps.trans hsteps (.one hstep))) h2, h3⟩

theorem WT.op_skip {ops : Array Oper} {i : Nat} {rest : List Nat} {o : Oper} (ho : ops[i]? = some o) (hw : Region.wanted o (yielded ops a.tmps) = false)
    (H : WT P f R (.inRegion ops rest :: k) (a.put o.dst undef) w) : WT P f R (.inRegion ops (i :: rest) :: k) a w := by
  have hs := fun cs => step_op_skip (P := P) (b := bfr f) (a := a) (k := k) (cs := cs) (w := w) (ops := ops) (i := i) (rest := rest) (by simp [ho, hw])
  simp only [ho, Option.bind_some] at hs
  exact WT.step hs H

/-- A piece of code whose wp is known. -/
theorem WT.of_wp {c : Code} (h : c.wp P (fun e a' w' => e = .normal ∧ WT P f R k a' w') a w) : WT P f R (.code c :: k) a w := fun cs => by
  obtain ⟨e, a', w', ⟨rfl, hW⟩, harr⟩ := h (bfr f) k cs
  obtain ⟨e, w3, fr, h1, h2, h3⟩ := hW cs
  exact ⟨e, w3, fr, h1, Comes.of_steps harr h2, h3⟩
end

def item (B : Code) : Ab → Item
  | .code p => .code (sub B p)
  | .ops p i => .inRegion (opsOf (sub B p)) (List.range' i ((opsOf (sub B p)).size - i))
  | .blk id => .inBlock id
  | .again p => .inLoop (sub B (0 :: p))
  | .lst p is => .inRegion (opsOf (sub B p)) is
  | .scp p => .inScope (sub B (0 :: p))

theorem exitAb_item {B : Code} {id : Nat} : ∀ {td td' : List Ab}, exitAb id td = some td' → exitTo id (td.map (item B)) = some (td'.map (item B))
  | [], _, h => by simp [exitAb] at h
  | .blk id' :: k, td', h => by
    simp only [exitAb] at h
    simp only [List.map_cons, item, exitTo]
    cases hb : id' == id with
    | true => rw [hb] at h; simp at h; subst h; simp
    | false => rw [hb] at h; simp at h; simp only [Bool.false_eq_true, if_false]; exact exitAb_item h
  | .code p :: k, td', h => by simp only [exitAb] at h; simp only [List.map_cons, item, exitTo]; exact exitAb_item h
  | .ops p i :: k, td', h => by simp only [exitAb] at h; simp only [List.map_cons, item, exitTo]; exact exitAb_item h
  | .again p :: k, td', h => by simp only [exitAb] at h; simp only [List.map_cons, item, exitTo]; exact exitAb_item h
  | .lst p is :: k, td', h => by simp only [exitAb] at h; simp only [List.map_cons, item, exitTo]; exact exitAb_item h
  | .scp p :: k, td', h => by simp only [exitAb] at h; simp only [List.map_cons, item, exitTo]; exact exitAb_item h

/-- From this point on, with this frame and these chunks, the call comes to an end that R allows. -/
def SW (P : Program) (f : FuncId) (R : Ending → World → Prop) (B : Code) (n : Nat) (E : World) (G : Hp) (td : List Ab) (L : List Ent) (K : List (Chunk σ)) : Prop :=
  ∀ a w, Fr n L K a → SatK D E G w K → WT P f R (td.map (item B)) a w

theorem needs_holds {R : Value → Pr → List (Chunk σ) → Prop} {S : List Ab → List Ent → List (Chunk σ) → Prop} : ∀ {ps : List Prop} {t : Tree σ}, (needs ps t).holds R S → (∀ p ∈ ps, p) ∧ t.holds R S
  | [], _, h => ⟨by simp, h⟩
  | p :: ps, t, h => by
    obtain ⟨h1, h2⟩ := h
    obtain ⟨h3, h4⟩ := needs_holds (h2 h1)
    exact ⟨fun q hq => by
      simp only [List.mem_cons] at hq
      rcases hq with rfl | hq
      · exact h1
      · exact h3 q hq, h4⟩

theorem resVals_run {P : Program} {n : Nat} {L : List Ent} {K : List (Chunk σ)} {a : Act} {w : World} {E : World} {G : Hp} (hF : Fr n L K a) (hS : SatK D E G w K) : ∀ (rs : List ResultVar) (vs : List (Value × Pr)), resVals P L K rs = some vs →
    (rs.mapM (m := Sem) fun | .tmp t => pure (a.tmps.getD t undef) | .cell b t => do loadVar t (← asAddr (a.tmps.getD b undef))).run P w = .ok (vs.map (·.1)) w ∧ ∀ x ∈ vs, pOk K x.1 x.2
  | [], vs, h => by simp only [resVals, Option.some.injEq] at h; subst h; exact ⟨rfl, by simp⟩
  | .tmp t :: r, vs, h => by
    simp only [resVals] at h
    split at h
    · rename_i v vs' hv hr
      injection h with h; subst h
      obtain ⟨ih, ihp⟩ := resVals_run hF hS r vs' hr
      have hv' := val_sound (g := none) hF trivial hv
      have hp' := prov_sound (x := .tmp t) (g := none) hF trivial
      simp only [Act.eval] at hv' hp'
      rw [List.mapM_cons]
      simp only [Sem.run_bind, Sem.run_pure, Result.andThen_ok, hv', ih, List.map_cons, true_and]
      intro x hx
      simp only [List.mem_cons] at hx
      rcases hx with rfl | hx
      · rw [hv'] at hp'; exact hp'
      · exact ihp x hx
    · cases h
  | .cell b t :: r, vs, h => by
    simp only [resVals] at h
    split at h
    · rename_i k off vs' hp hr
      split at h
      · rename_i bb t0 cs hk
        split at h
        · rename_i v pv hv
          injection h with h; subst h
          obtain ⟨ih, ihp⟩ := resVals_run hF hS r vs' hr
          have hpx := prov_sound (x := .tmp b) (g := none) hF trivial
          rw [hp, pOk_pt] at hpx
          obtain ⟨c, hk', hc⟩ := hpx
          rw [hk] at hk'; injection hk' with hk'; subst hk'
          simp only [cOk, Act.eval] at hc
          obtain ⟨q, hq, hs⟩ := hS.get D hk
          have hl := cellsLoad_run (P := P) (t := t) (off := off) (hs _ _ hq) hv
          have hA : (asAddr (a.tmps.getD b undef)).run P w = .ok ⟨bb, off, none⟩ w := by rw [hc]; rfl
          rw [List.mapM_cons]
          simp only [Sem.run_bind, Sem.run_pure, Result.andThen_ok, hA, hl, ih, List.map_cons, true_and]
          intro x hx
          simp only [List.mem_cons] at hx
          rcases hx with rfl | hx
          · exact cellsLoad_pOk (hF.kok _ _ _ _ hk) hv
          · exact ihp x hx
        · cases h
      · cases h
    · cases h

theorem finish_sound {P : Program} {f : FuncId} {fn : Func} {R : Ending → World → Prop} {n : Nat} {L : List Ent} {K : List (Chunk σ)} {a : Act} {w : World} {E : World} {G : Hp} {td : List Item} {vs : List (Value × Pr)} (hfn : P.funcs[f]? = some fn)
    (ht : td = [] ∨ ∃ k, td = .code .ret :: k) (hF : Fr n L K a) (hS : SatK D E G w K) (h : resVals P L K fn.results.toList = some vs) (hR : R (.returned (match vs with | [v] => v.1 | vs => .tuple (vs.map (·.1)).toArray)) w) : WT P f R td a w := by
  refine WT.finish hfn ht hF.defers ?_ hR
  have hrun := (resVals_run D hF hS _ _ h).1
  unfold results
  rw [Array.mapM_eq_mapM_toList]
  simp only [Sem.run_bind, Sem.run_map]
  erw [hrun]
  simp only [Result.andThen_ok, Sem.run_pure]
  match vs with
  | [] => rfl
  | [v] => rfl
  | _ :: _ :: _ => simp
theorem mkMany_tuple {K : List (Chunk σ)} {vs : List (Value × Pr)} (h : ∀ x ∈ vs, pOk K x.1 x.2) : pOk K (.tuple (vs.map (·.1)).toArray) (mkMany (vs.map (·.2))) := by
  unfold mkMany
  cases (vs.map (·.2)).all Pr.isNo with
  | true => simp [pOk]
  | false =>
    simp only [cond_false, pOk]
    induction vs with
    | nil => simp [psOk]
    | cons x vs ih =>
      simp only [List.map_cons, psOk]
      exact ⟨h x (by simp), ih fun y hy => h y (by simp [hy])⟩

/-- What holds of a tree, weakened at its ends. -/
theorem Tree.holds_imp {R R' : Value → Pr → List (Chunk σ) → Prop} {S S' : List Ab → List Ent → List (Chunk σ) → Prop} (hR : ∀ v p K, R v p K → R' v p K) (hS : ∀ td L K, S td L K → S' td L K) : ∀ {t : Tree σ}, t.holds R S → t.holds R' S'
  | .ret v p K, h => hR v p K h
  | .br t a b, h => ⟨fun e => holds_imp hR hS (h.1 e), fun e => holds_imp hR hS (h.2 e)⟩
  | .need p t, h => ⟨h.1, fun e => holds_imp hR hS (h.2 e)⟩
  | .bind x t, h => fun a e => holds_imp hR hS (h a e)
  | .fresh t, h => fun b => holds_imp hR hS (h b)
  | .freshS t, h => fun a c => holds_imp hR hS (h a c)
  | .two a b, h => ⟨holds_imp hR hS h.1, holds_imp hR hS h.2⟩
  | .stuck td L K, h => hS td L K h
theorem bindT_holds {R : Value → Pr → List (Chunk σ) → Prop} {S : List Ab → List Ent → List (Chunk σ) → Prop} {k : Value → Pr → List (Chunk σ) → Tree σ} : ∀ {t : Tree σ}, (bindT t k).holds R S → t.holds (fun v p K => (k v p K).holds R S) (fun _ _ _ => False)
  | .ret v p K, h => h
  | .br t a b, h => ⟨fun e => bindT_holds (h.1 e), fun e => bindT_holds (h.2 e)⟩
  | .need p t, h => ⟨h.1, fun e => bindT_holds (h.2 e)⟩
  | .bind x t, h => fun a e => bindT_holds (h a e)
  | .fresh t, h => fun b => bindT_holds (h b)
  | .freshS t, h => fun a c => bindT_holds (h a c)
  | .two a b, h => ⟨bindT_holds h.1, bindT_holds h.2⟩
  | .stuck td L K, h => h.1

theorem range'_drop {i m : Nat} (h : i < m) : List.range' i (m - i) = i :: List.range' (i + 1) (m - (i + 1)) := by
  rw [show m - i = (m - (i + 1)) + 1 by omega, List.range'_succ]

theorem gs_spec {n : Nat} {ops : Array Oper} {o : Oper} {g : Option (Nat × Bool)} (h : gs n ops o = some g) : gslot ops o = some g ∧ (∀ d, o.dst = some d → d < n) ∧ ∀ d c b, o.dst = some d → g = some (c, b) → c ≠ d := by
  unfold gs at h
  split at h
  · rename_i d hd
    cases hb : Nat.blt d n with
    | false => rw [hb] at h; simp at h
    | true =>
      rw [hb] at h
      simp only [cond_true] at h
      split at h
      · rename_i g' hg
        cases hi : gIs d g' with
        | true => rw [hi] at h; simp at h
        | false =>
          rw [hi] at h
          simp only [cond_false, Option.some.injEq] at h
          subst h
          refine ⟨hg, fun d' hd' => ?_, fun d' c b hd' hc e => ?_⟩
          · rw [hd] at hd'; injection hd' with hd'; subst hd'; exact Nat.lt_of_lt_of_eq (Nat.le_of_ble_eq_true hb) rfl
          · rw [hd] at hd'; injection hd' with hd'; subst hd'
            rw [hc, e] at hi
            simp [gIs] at hi
      · cases h
  · rename_i hd
    refine ⟨h, ?_, ?_⟩
    · intro d hd'; rw [hd] at hd'; cases hd'
    · intro d c b hd'; rw [hd] at hd'; cases hd'

theorem box_run {P : Program} {o : Oper} {a : Act} {w : World} {t : TypeId} {x : Operand} (h : o.op = .box t x) : (execOp a.eval o).run P w = .ok (.value (.pointer (some ⟨w.heap.size, 0, none⟩))) (w.alloc (.cells (a.eval x).cells t)) := by
  simp [execOp, h, Instr.box, newVar, newRow]
theorem alloc_run {P : Program} {o : Oper} {a : Act} {w : World} {t : TypeId} {i : TypeInfo} {z : Value} (h : o.op = .alloc t) (hi : P.info? t = some i) (hz : i.zero = some z) :
    (execOp a.eval o).run P w = .ok (.value (.pointer (some ⟨w.heap.size, 0, none⟩))) (w.alloc (.cells z.cells t)) := by
  simp [execOp, h, Instr.alloc, zeroValue, typeInfo, hi, hz, newVar, newRow]

/-- One quiet operation of a list: whether its guard lets it or not. -/
theorem quiet_step {P : Program} {T : List (Nat × Entry σ)} (hT : TableOk D P T) {n : Nat} {ops : Array Oper} {g : Option (Nat × Bool)} {L : List Ent} {K : List (Chunk σ)} {o : Oper} {a : Act} {v : Value} {p : Pr} {ps : List Prop} {E : World} {G : Hp} {w : World}
    (hF : Fr n L K a) (hS : SatK D E G w K) (hgs : gs n ops o = some g) (h : qstep P T g L K o = some (v, p, ps)) (hps : ∀ q ∈ ps, q) :
    (Region.wanted o (yielded ops a.tmps) = true ∧ (∀ w, SatK D E G w K → o.quietAt P a (fun w' => SatK D E G w' K) w v) ∧ Fr n (addEnt o.dst g v p L) K (a.put o.dst v)) ∨
    (Region.wanted o (yielded ops a.tmps) = false ∧ Fr n (addEnt o.dst g v p L) K (a.put o.dst undef)) := by
  obtain ⟨h1, h2, h3⟩ := gs_spec hgs
  cases hw : Region.wanted o (yielded ops a.tmps) with
  | true =>
    have hg := (wanted_iff h1).1 hw
    obtain ⟨hq, hp⟩ := qstep_sound D hT hF hg h hps hS
    exact .inl ⟨rfl, fun w hw => (hq w hw).1, hF.put h2 h3 (fun _ => ⟨rfl, hp⟩) fun h => absurd hg h⟩
  | false =>
    refine .inr ⟨rfl, hF.put h2 h3 fun hg => ?_⟩
    rw [(wanted_iff h1).2 hg] at hw; cases hw

theorem qall_sound {P : Program} {T : List (Nat × Entry σ)} (hT : TableOk D P T) {n : Nat} {ops : Array Oper} {K : List (Chunk σ)} {E : World} {G : Hp} {Q : Act → Prop} :
    ∀ (l : List Oper) (L : List Ent) {L' : List Ent} {ps : List Prop} {a : Act} {w : World}, Fr n L K a → SatK D E G w K → qall P T n ops K l L = some (L', ps) → (∀ q ∈ ps, q) → (∀ a', Fr n L' K a' → Q a') →
      wpQuiet P ops (fun w' => SatK D E G w' K) Q l a
  | [], L, L', ps, a, w, hF, _, h, _, hQ => by
    simp only [qall, Option.some.injEq, Prod.mk.injEq] at h
    obtain ⟨rfl, rfl⟩ := h
    exact hQ a hF
  | o :: r, L, L', ps, a, w, hF, hS, h, hps, hQ => by
    simp only [qall] at h
    split at h
    · cases h
    · rename_i g hgs
      split at h
      · cases h
      · rename_i v p ps1 hq
        split at h
        · cases h
        · rename_i L'' ps2 hr
          simp only [Option.some.injEq, Prod.mk.injEq] at h
          obtain ⟨rfl, rfl⟩ := h
          have hp1 : ∀ q ∈ ps1, q := fun q hq => hps q (List.mem_append_left _ hq)
          have hp2 : ∀ q ∈ ps2, q := fun q hq => hps q (List.mem_append_right _ hq)
          unfold wpQuiet
          rcases quiet_step D hT hF hS hgs hq hp1 with ⟨hw, hqq, hF'⟩ | ⟨hw, hF'⟩
          · rw [hw]
            simp only [if_true]
            exact ⟨v, hqq, qall_sound hT r _ hF' hS hr hp2 hQ⟩
          · rw [hw]
            simp only [Bool.false_eq_true, if_false]
            exact qall_sound hT r _ hF' hS hr hp2 hQ
end Go.Sl
