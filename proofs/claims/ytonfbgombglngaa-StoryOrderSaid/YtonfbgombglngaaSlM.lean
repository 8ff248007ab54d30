/-
  DERIVED. The symbolic machine of SlB is right, the last part: the machine itself. No program is named.
-/
import Derived.Test.YtonfbgombglngaaSlW
namespace Go.Sl
open Go.RowKit

variable {σ : Type} (D : Addr → σ → Asn)

/-- What is asked of the chunks all along: it stays so while the list grows. -/
def KMono (Q : List (Chunk σ) → Prop) : Prop := ∀ K K', Q K → KExt K K' → Q K'

theorem argEnts_ok {K : List (Chunk σ)} {tm : Array Value} : ∀ (args : List (Value × Pr)) (i : Nat), (∀ (j : Nat) v p, args[j]? = some (v, p) → tm.getD (i + j) undef = v ∧ pOk K v p) → ∀ e ∈ argEnts i args, e.ok K tm
  | [], _, _, e, he => by simp [argEnts] at he
  | (v, p) :: r, i, h, e, he => by
    simp only [argEnts, List.mem_cons] at he
    rcases he with rfl | he
    · intro _; exact h 0 v p rfl
    · refine argEnts_ok r (i + 1) (fun j v' p' hj => ?_) e he
      have := h (j + 1) v' p' (by simpa using hj)
      rw [show i + (j + 1) = i + 1 + j by omega] at this
      exact this

theorem argEnts_g : ∀ (args : List (Value × Pr)) (i : Nat) (e : Ent), e ∈ argEnts i args → e.g = none
  | [], _, e, he => by simp [argEnts] at he
  | (v, p) :: r, i, e, he => by
    simp only [argEnts, List.mem_cons] at he
    rcases he with rfl | he
    · rfl
    · exact argEnts_g r (i + 1) e he

/-- The frame in which a call begins. -/
theorem Fr.start {n : Nat} {K : List (Chunk σ)} (args : List (Value × Pr)) (hlen : args.length ≤ n) (hp : ∀ x ∈ args, pOk K x.1 x.2) (hk : KOk K) :
    Fr n (argEnts 0 args) K { tmps := (args.map (·.1)).toArray ++ Array.replicate (n - (args.map (·.1)).toArray.size) undef, defers := [] } := by
  refine ⟨hk, rfl, ?_, argEnts_ok args 0 fun j v p hj => ⟨?_, hp (v, p) (List.mem_of_getElem? hj)⟩, fun e he hg => absurd (by rw [argEnts_g args 0 e he]; trivial) hg⟩
  · simp; omega
  · have hjl := lt_of_get hj
    rw [Nat.zero_add, Array.getD_eq_getD_getElem?, Array.getElem?_append_left (by simpa using hjl)]
    simp [hj]

theorem zip_pOk {K : List (Chunk σ)} : ∀ {vs : List Value} {ps : List Pr}, psOk K vs ps → (∀ x ∈ List.zip vs ps, pOk K x.1 x.2) ∧ (List.zip vs ps).map (·.1) = vs
  | [], [], _ => by simp
  | [], _ :: _, h => by simp [psOk] at h
  | _ :: _, [], h => by simp [psOk] at h
  | v :: vs, p :: ps, h => by
    simp only [psOk] at h
    obtain ⟨h1, h2⟩ := zip_pOk h.2
    refine ⟨fun x hx => ?_, by simp [h2]⟩
    simp only [List.zip_cons_cons, List.mem_cons] at hx
    rcases hx with rfl | hx
    · exact h.1
    · exact h1 x hx

theorem keepL0_mem {I : List Nat} {b : Nat} {e : Ent} : ∀ {L : List Ent}, e ∈ keepL0 I b L → e ∈ L
  | [], h => by simp [keepL0] at h
  | x :: r, h => by
    simp only [keepL0] at h
    cases hb : I.any (Nat.beq (b + x.s)) with
    | true =>
      rw [hb] at h
      simp only [cond_true, List.mem_cons] at h ⊢
      exact h.imp id keepL0_mem
    | false =>
      rw [hb] at h
      exact List.mem_cons_of_mem _ (keepL0_mem h)
theorem keepS_mem {I p : List Nat} {L : List Ent} {e : Ent} (h : e ∈ keepS I p L) : e ∈ L := by
  unfold keepS at h
  cases hb : I.any (fun x => Nat.beq (x / 1000000000) (1 + pathN p % 9973)) with
  | true => rw [hb] at h; exact keepL0_mem h
  | false => rw [hb] at h; exact h

/-- **The machine is right.** -/
theorem run_sound {P : Program} {T : List (Nat × Entry σ)} (hT : TableOk D P T) {I : List Nat} (hmix : P.follows .mixedOrders = true) :
    ∀ (fuel : Nat) {f : FuncId} {fn : Func} {B : Code} {R : Ending → World → Prop} {n : Nat} {E : World} {G : Hp} (_ : P.funcs[f]? = some fn) {Q : List (Chunk σ) → Prop} (_ : KMono Q)
    {R' : Value → Pr → List (Chunk σ) → Prop} (_ : ∀ v p K w, R' v p K → Q K → KOk K → pOk K v p → SatK D E G w K → R (.returned v) w)
    (td : List Ab) (L : List Ent) (K : List (Chunk σ)), Q K → (run P T I fuel B fn.results.toList n td L K).holds R' (SW D P f R B n E G) → SW D P f R B n E G td L K := by
  intro fuel
  induction fuel with
  | zero => intro f fn B R n E G hfn Q hQ R' hR td L K _ h; exact h
  | succ fuel ih0 =>
    intro f fn B R n E G hfn Q hQ R' hR td L K hQK h a w hF hS
    have ih := fun td L K => ih0 (f := f) (fn := fn) (B := B) (R := R) (n := n) (E := E) (G := G) hfn hQ hR td L K
    have fin : ∀ (t : List Item), (t = [] ∨ ∃ k, t = .code .ret :: k) → td.map (item B) = t →
        Tree.holds R' (SW D P f R B n E G) (match resVals P L K fn.results.toList with | some [(v, p)] => .ret v p K | some vs => .ret (.tuple (vs.map (·.1)).toArray) (mkMany (vs.map (·.2))) K | none => .stuck td L K) → WT P f R (td.map (item B)) a w := by
      intro t ht htd h
      cases hr : resVals P L K fn.results.toList with
      | none => rw [hr] at h; exact h a w hF hS
      | some vs =>
        rw [hr] at h
        rw [htd]
        have hps := (resVals_run D hF hS _ _ hr).2
        refine finish_sound D hfn ht hF hS hr ?_
        match vs, hps with
        | [], hps => exact hR _ _ _ _ h hQK hF.kok (mkMany_tuple hps) hS
        | [(v, p)], hps => exact hR _ _ _ _ h hQK hF.kok (hps (v, p) (by simp)) hS
        | _ :: _ :: _, hps => exact hR _ _ _ _ h hQK hF.kok (mkMany_tuple hps) hS
    -- what is gone into
    have hext : ∀ g args prs K t, (fun (g : Nat) (args : List (Value × Pr)) (K : List (Chunk σ)) =>
        bif I.any (Nat.beq g) && Nat.blt g 1000000 then match P.funcs[g]? with
          | some fn => match fn.body with
            | some B' => bif Nat.ble args.length fn.ntmps then some (run P T I fuel B' fn.results.toList fn.ntmps [.code []] (argEnts 0 args) K) else none
            | none => none
          | none => none
        else none) g (List.zip args prs) K = some t → ∀ E G w, psOk K args prs → KOk K → SatK D E G w K → ∀ Q : Value → Pr → List (Chunk σ) → Prop, t.holds Q (fun _ _ _ => False) →
        Calls P g args.toArray w fun en w' => ∃ v p K', en = .returned v ∧ Q v p K' ∧ KExt K K' ∧ KOk K' ∧ pOk K' v p ∧ SatK D E G w' K' := by
      intro g args prs K t ht E G w hps hk hS Q hQ
      dsimp only at ht
      cases hI : (I.any (Nat.beq g) && Nat.blt g 1000000) with
      | false => rw [hI] at ht; cases ht
      | true =>
        rw [hI] at ht
        simp only [cond_true] at ht
        split at ht
        · rename_i fn' hfn'
          split at ht
          · rename_i B' hB'
            cases hle : Nat.ble (List.zip args prs).length fn'.ntmps with
            | false => rw [hle] at ht; cases ht
            | true =>
              rw [hle] at ht
              simp only [cond_true, Option.some.injEq] at ht
              subst ht
              obtain ⟨hp1, hp2⟩ := zip_pOk hps
              refine calls_of_WT hfn' hB' ?_
              have hgo := ih0 (f := g) (fn := fn') (B := B') (R := fun en w' => ∃ v p K', en = .returned v ∧ Q v p K' ∧ KExt K K' ∧ KOk K' ∧ pOk K' v p ∧ SatK D E G w' K') (n := fn'.ntmps) (E := E) (G := G) hfn' (Q := KExt K) (fun _ _ h1 h2 => h1.trans h2)
                (R' := Q) (fun v p K' w' h1 h2 h3 h4 h5 => ⟨v, p, K', rfl, h1, h2, h3, h4, h5⟩) [.code []] (argEnts 0 (List.zip args prs)) K (KExt.refl K) (Tree.holds_imp (fun _ _ _ h => h) (fun _ _ _ h => h.elim) hQ)
              have hst := Fr.start (n := fn'.ntmps) (List.zip args prs) (Nat.le_of_ble_eq_true hle) hp1 hk
              rw [hp2] at hst
              exact hgo _ w hst hS
          · cases ht
        · cases ht
    have hnx : (I.all fun x => Nat.ble 1000000 x) = true → ∀ g (args : List (Value × Pr)) (K : List (Chunk σ)), (fun (g : Nat) (args : List (Value × Pr)) (K : List (Chunk σ)) =>
        bif I.any (Nat.beq g) && Nat.blt g 1000000 then match P.funcs[g]? with
          | some fn => match fn.body with
            | some B' => bif Nat.ble args.length fn.ntmps then some (run P T I fuel B' fn.results.toList fn.ntmps [.code []] (argEnts 0 args) K) else none
            | none => none
          | none => none
        else none) g args K = none := fun hall g args K => by
      dsimp only
      have : (I.any (Nat.beq g) && Nat.blt g 1000000) = false := by
        cases hb : (I.any (Nat.beq g) && Nat.blt g 1000000) with
        | false => rfl
        | true =>
          simp only [Bool.and_eq_true] at hb
          obtain ⟨x, hx, e⟩ := List.any_eq_true.1 hb.1
          have h1 := Nat.le_of_ble_eq_true (List.all_eq_true.1 hall x hx)
          have h2 := Nat.eq_of_beq_eq_true e
          have h3 : g + 1 ≤ 1000000 := Nat.le_of_ble_eq_true hb.2
          omega
      rw [this]; rfl
    cases td with
    | nil => simp only [run] at h; exact fin [] (.inl rfl) rfl h
    | cons x k =>
      cases x with
      | code p =>
        simp only [run] at h
        simp only [List.map_cons, item]
        split at h
        · rename_i hc
          rw [hc]
          exact WT.step (fun cs => step_skip) (ih k L K hQK h a w hF hS)
        · rename_i c1 c2 hc
          have := ih _ L K hQK h a w hF hS
          simp only [List.map_cons, item, sub, hc] at this
          rw [hc]
          exact WT.step (fun cs => step_seq) this
        · rename_i c c1 c2 hc
          split at h
          · rename_i t hv
            have hev := val_sound (g := none) hF trivial hv
            rw [hc]
            refine WT.step (fun cs => step_cond hev) ?_
            split at h
            · cases t with
              | true =>
                have := ih _ L K hQK h a w hF hS
                simp only [List.map_cons, item, sub, hc] at this
                exact this
              | false =>
                have := ih _ L K hQK h a w hF hS
                simp only [List.map_cons, item, sub, hc] at this
                exact this
            · cases t with
              | true =>
                have := ih _ L K hQK (h.1 rfl) a w hF hS
                simp only [List.map_cons, item, sub, hc] at this
                exact this
              | false =>
                have := ih _ L K hQK (h.2 rfl) a w hF hS
                simp only [List.map_cons, item, sub, hc] at this
                exact this
          · exact h a w hF hS
        · rename_i id c hc
          have := ih _ L K hQK h a w hF hS
          simp only [List.map_cons, item, sub, hc] at this
          rw [hc]
          exact WT.step (fun cs => step_block) this
        · rename_i id hc
          split at h
          · rename_i k' hk
            rw [hc]
            exact WT.step (fun cs => step_exit (exitAb_item hk)) (ih k' L K hQK h a w hF hS)
          · exact h a w hF hS
        · rename_i hc
          exact fin (.code .ret :: k.map (item B)) (.inr ⟨_, rfl⟩) (by simp only [List.map_cons, item, hc]) h
        · rename_i id ops hc
          have := ih _ L K hQK h a w hF hS
          simp only [List.map_cons, item, hc, opsOf, Nat.sub_zero] at this
          rw [hc]
          refine WT.step (fun cs => step_region) ?_
          rw [List.range_eq_range']
          exact this
        · rename_i id ops hc
          have hwide : ∀ ext, ((I.all fun x => Nat.ble 1000000 x) = true → ∀ g a K, ext g a K = none) → (∀ g args prs K t, ext g (List.zip args prs) K = some t → ∀ E G w, psOk K args prs → KOk K → SatK D E G w K → ∀ Q : Value → Pr → List (Chunk σ) → Prop, t.holds Q (fun _ _ _ => False) →
              Calls P g args.toArray w fun en w' => ∃ v p K', en = .returned v ∧ Q v p K' ∧ KExt K K' ∧ KOk K' ∧ pOk K' v p ∧ SatK D E G w' K') →
              Tree.holds R' (SW D P f R B n E G) (bif wideOk ops then wide P T ext n ops (I.all fun x => Nat.ble 1000000 x) (fun Q L K => .need False (.stuck (.lst p Q :: List.drop 1 (.code p :: k)) L K)) (fun L' K' => run P T I fuel B fn.results.toList n (List.drop 1 (.code p :: k)) L' K') (ops.size + 1) (List.range ops.size) L K else .stuck (.code p :: k) L K) →
              WT P f R (.code (sub B p) :: k.map (item B)) a w := fun ext hnx hext hh => by
            cases hb : wideOk ops with
            | false => rw [hb] at hh; exact hh a w hF hS
            | true =>
              rw [hb] at hh
              simp only [cond_true] at hh
              rw [hc]
              refine WT.step (fun cs => step_region_draw) ?_
              simp only [Region.schedule, hmix, Bool.true_or, if_true]
              refine wide_sound D hT (wide_ok hb) hnx hext (st := fun Q L K => .need False (.stuck (.lst p Q :: List.drop 1 (.code p :: k)) L K)) (fun _ _ _ h => And.left h) (fun L' K' hx hko a' w' hF' hS' => WT.step (fun cs => step_region_end) (ih k L' K' (hQ _ _ hQK hx) hko a' w' hF' hS')) ops.size _ _ _ _ _ K a a _ (unl_le _) (WInv.start D hF (Sat.drawn hS _)) hh
          split at h
          · rename_i L' ps hq0
            cases hB : Region.lexB .any ops with
            | false => rw [hB] at hq0; cases hq0
            | true =>
              rw [hB] at hq0
              simp only [cond_true] at hq0
              obtain ⟨hps, ht⟩ := needs_holds h
              rw [hc]
              refine WT.of_wp (wp_region_quiet (C := fun w' => SatK D E G w' K) hmix hB (Sat.drawn hS _) ?_)
              exact qall_sound D hT _ L hF hS hq0 hps fun a' hF' w' hS' => ⟨rfl, ih k L' K hQK ht a' w' hF' hS'⟩
          · cases hB0 : (lastB ops (ops.size - 1) && isAt (firstBad P T n ops K 0 ops.toList L) (ops.size - 1)) with
            | true =>
              rw [hB0] at h
              simp only [cond_true] at h
              have hB : lastB ops (ops.size - 1) = true := by
                simp only [Bool.and_eq_true] at hB0
                exact hB0.1
              simp only [hB, cond_true] at h
              split at h
              · rename_i om hom
                split at h
                · rename_i hgs
                  split at h
                  · rename_i L' ps hq
                    split at h
                    · rename_i t he
                      obtain ⟨hps, ht⟩ := needs_holds h
                      obtain ⟨g1, g2, _⟩ := gs_spec hgs
                      rw [hc]
                      refine WT.region_last (C := fun w' => SatK D E G w' K) (Q0 := fun a' => Fr n L' K a') hmix hB (Sat.drawn hS _) (fun a' w' hF' hS' => ?_) (qall_sound D hT _ L hF hS hq hps fun a' hF' => hF')
                      exact estep_sound D hT hext hom ((wanted_iff g1).2 trivial) g2 hF' hS' he ht fun v pr K' hK' hx _ a2 w2 _ hF2 hS2 => WT.step (fun cs => step_region_end) (ih k _ K' (hQ _ _ hQK hx) hK' a2 w2 hF2 hS2)
                    · exact h a w hF hS
                  · exact h a w hF hS
                · exact h a w hF hS
              · exact h a w hF hS
            | false =>
              rw [hB0] at h
              simp only [cond_false] at h
              split at h
              · rename_i m hm
                cases hTo : tailOk ops (lateOf ops m) m with
                | false => rw [hTo] at h; exact hwide _ hnx hext h
                | true =>
                  rw [hTo] at h
                  simp only [cond_true] at h
                  have hT' := tail_ok hTo
                  split at h
                  · rename_i L' ps hq
                    have hQ0 : ∀ ps', (∀ p ∈ ps', p) → ps' = ps → wpQuiet P (nopFrom ops m) (fun w' => SatK D E G w' K) (fun a' => Fr n L' K a') (nopFrom ops m).toList a := fun ps' hps' e => by
                      subst e
                      exact qall_sound D hT _ L hF hS hq hps' fun a' hF' => hF'
                    have hop : ∀ is, (item B (.lst p is)) = .inRegion ops is := fun is => by simp only [item, hc, opsOf]
                    cases hu : Nat.beq (lateOf ops m) ops.size with
                    | true =>
                      rw [hu] at h
                      simp only [cond_true] at h
                      obtain ⟨hps, ht⟩ := needs_holds h
                      rw [hc]
                      refine WT.region_tail (C := fun w' => SatK D E G w' K) (Q0 := fun a' => Fr n L' K a') (u := lateOf ops m) (m := m) hmix hT' (Sat.drawn hS _) (fun a' w' hF' hS' => ?_) (fun o ho => ?_) (hQ0 ps hps rfl)
                      · have := ih _ L' K hQK ht a' w' hF' hS'
                        simpa only [List.map_cons, hop, List.drop_succ_cons, List.drop_zero] using this
                      · exfalso
                        rw [Nat.eq_of_beq_eq_true hu, Array.getElem?_eq_none (Nat.le_refl _)] at ho
                        cases ho
                    | false =>
                      rw [hu] at h
                      simp only [cond_false] at h
                      split at h
                      · rename_i d hd
                        obtain ⟨hps, ht⟩ := needs_holds h
                        obtain ⟨htA, htB⟩ := ht
                        rw [hc]
                        refine WT.region_tail (C := fun w' => SatK D E G w' K) (Q0 := fun a' => Fr n L' K a') (u := lateOf ops m) (m := m) hmix hT' (Sat.drawn hS _) (fun a' w' hF' hS' => ?_) (fun o ho a' w' v hF' hS' => ?_) (hQ0 ps hps rfl)
                        · have := ih _ L' K hQK htA a' w' hF' hS'
                          simpa only [List.map_cons, hop, List.drop_succ_cons, List.drop_zero] using this
                        · rw [ho] at hd
                          have hd' : o.dst = some d := hd
                          rw [hd'] at hF'
                          have := ih _ (del d L') K hQK htB a' w' hF'.unput hS'
                          simpa only [List.map_cons, hop, List.drop_succ_cons, List.drop_zero] using this
                      · exact h a w hF hS
                  · exact hwide _ hnx hext h
              · exact hwide _ hnx hext h
        · rename_i c hc
          have := ih _ L K hQK h a w hF hS
          simp only [List.map_cons, item, sub, hc] at this
          rw [hc]
          exact WT.step (fun cs => step_scope) this
        · rename_i l hc
          rw [hc]
          exact WT.step (fun cs => step_label) (ih k L K hQK h a w hF hS)
        · rename_i c hc
          split at h
          · have := ih _ L K hQK h a w hF hS
            simp only [List.map_cons, item, sub, hc] at this
            rw [hc]
            exact WT.step (fun cs => step_loop) this
          · exact h a w (hF.sub fun _ he => keepS_mem he) hS
        · exact h a w hF hS
      | blk id =>
        simp only [run] at h
        exact WT.step (fun cs => step_inBlock) (ih k L K hQK h a w hF hS)
      | scp p =>
        simp only [run] at h
        simp only [List.map_cons, item]
        exact WT.step (fun cs => step_inScope) (ih k L K hQK h a w hF hS)
      | again p =>
        simp only [run] at h
        split at h
        · have := ih _ L K hQK h a w hF hS
          simp only [List.map_cons, item] at this ⊢
          exact WT.step (fun cs => step_inLoop) this
        · exact h a w hF hS
      | lst p is =>
        cases is with
        | nil =>
          simp only [run] at h
          simp only [List.map_cons, item]
          exact WT.step (fun cs => step_region_end) (ih k L K hQK h a w hF hS)
        | cons i is =>
          simp only [run] at h
          simp only [List.map_cons, item]
          split at h
          · have := h a w hF hS
            simpa only [List.map_cons, item] using this
          · rename_i o ho
            split at h
            · have := h a w hF hS
              simpa only [List.map_cons, item] using this
            · rename_i g hgs
              split at h
              · rename_i v pr ps hq
                obtain ⟨hps, ht⟩ := needs_holds h
                have next := ih (.lst p is :: k) _ K hQK ht
                rcases quiet_step D hT hF hS hgs hq hps with ⟨hw, hqq, hF'⟩ | ⟨hw, hF'⟩
                · exact WT.op ho hw (hqq w hS) hS fun w' hS' => next _ w' (hF'.fixMark o L) hS'
                · exact WT.op_skip ho hw (next _ w (hF'.fixMark o L) hS)
              · split at h
                · have := h a w hF hS
                  simpa only [List.map_cons, item] using this
                · split at h
                  · rename_i t he
                    obtain ⟨g1, g2, _⟩ := gs_spec hgs
                    exact estep_sound D hT hext ho ((wanted_iff g1).2 trivial) g2 hF hS he h fun v pr K' hK' hx _ a' w' _ hF' hS' => ih (.lst p is :: k) _ K' (hQ _ _ hQK hx) hK' a' w' (hF'.unmark o) hS'
                  · have := h a w hF hS
                    simpa only [List.map_cons, item] using this
      | ops p i =>
        simp only [run] at h
        simp only [List.map_cons, item]
        split at h
        · have := h a w hF hS
          simpa only [List.map_cons, item] using this
        · split at h
          · rename_i hi
            have hge : (opsOf (sub B p)).size ≤ i := by
              rcases Nat.lt_or_ge i (opsOf (sub B p)).size with h' | h'
              · simp [h'] at hi
              · exact h'
            rw [Nat.sub_eq_zero_of_le hge]
            exact WT.step (fun cs => step_region_end) (ih k L K hQK h a w hF hS)
          · rename_i o ho
            have hlt : i < (opsOf (sub B p)).size := by
              rcases Nat.lt_or_ge i (opsOf (sub B p)).size with h' | h'
              · exact h'
              · rw [Array.getElem?_eq_none h'] at ho; cases ho
            split at h
            · have := h a w hF hS
              simpa only [List.map_cons, item] using this
            · rename_i g hgs
              split at h
              · rename_i v pr ps hq
                have hq := qB_some hq
                obtain ⟨hps, ht⟩ := needs_holds h
                rw [range'_drop hlt]
                have next := ih (.ops p (i + 1) :: k) _ K hQK ht
                rcases quiet_step D hT hF hS hgs hq hps with ⟨hw, hqq, hF'⟩ | ⟨hw, hF'⟩
                · exact WT.op ho hw (hqq w hS) hS fun w' hS' => next _ w' (hF'.fixMark o L) hS'
                · exact WT.op_skip ho hw (next _ w (hF'.fixMark o L) hS)
              · split at h
                · rename_i c b _
                  split at h
                  · rename_i s t pe hl
                    cases hnb : Nat.ble n 1000000 with
                    | false =>
                      rw [hnb] at h
                      simp only [cond_false] at h
                      have := h a w hF hS
                      simpa only [List.map_cons, item] using this
                    | true =>
                      rw [hnb] at h
                      simp only [cond_true] at h
                      have hnn := Nat.le_of_ble_eq_true hnb
                      obtain ⟨hA, hSk⟩ := guardTree_holds h
                      obtain ⟨g1, g2, g3⟩ := gs_spec hgs
                      obtain ⟨hm, hs⟩ := look_mem hl
                      have ht := (hF.ents _ hm trivial).1
                      simp only at hs
                      subst hs
                      simp only at ht
                      by_cases htb : t = b
                      · subst htb
                        have hw : Region.wanted o (yielded (opsOf (sub B p)) a.tmps) = true := (wanted_iff g1).2 ht
                        have hA := hA rfl
                        split at hA
                        · rename_i A he
                          rw [range'_drop hlt]
                          exact estep_sound D hT hext ho hw g2 (hF.known hnn ht) hS he hA fun v pr K' hK' hx _ a' w' _ hF' hS' => ih (.ops p (i + 1) :: k) _ K' (hQ _ _ hQK hx) hK' a' w' (hF'.unmark o) hS'
                        · have := hA a w hF hS
                          simpa only [List.map_cons, item] using this
                      · have htn : t = !b := by cases t <;> cases b <;> simp at htb ⊢
                        have hw : Region.wanted o (yielded (opsOf (sub B p)) a.tmps) = false := by
                          cases hw : Region.wanted o (yielded (opsOf (sub B p)) a.tmps) with
                          | false => rfl
                          | true =>
                            have := (wanted_iff g1).1 hw
                            simp only [GV] at this
                            rw [ht] at this
                            injection this with this
                            exact absurd this htb
                        rw [htn] at ht
                        rw [range'_drop hlt]
                        exact WT.op_skip ho hw (ih (.ops p (i + 1) :: k) _ K hQK (hSk htn) _ w ((hF.known hnn ht).put g2 (fun _ _ _ _ h => by cases h) fun _ => ⟨rfl, pOk_no⟩) hS)
                  · have := h a w hF hS
                    simpa only [List.map_cons, item] using this
                · split at h
                  · rename_i t he
                    rw [range'_drop hlt]
                    obtain ⟨g1, g2, _⟩ := gs_spec hgs
                    exact estep_sound D hT hext ho ((wanted_iff g1).2 trivial) g2 hF hS he h fun v pr K' hK' hx _ a' w' _ hF' hS' => ih (.ops p (i + 1) :: k) _ K' (hQ _ _ hQK hx) hK' a' w' (hF'.unmark o) hS'
                  · have := h a w hF hS
                    simpa only [List.map_cons, item] using this
end Go.Sl
