/-
  DERIVED. The symbolic machine of SlB is right, 5: operations that make and write memory; the machine itself. No program is named.
-/
import Derived.Test.YtaenbinoejnecaaSlF
namespace Go.Sl
open Go.RowKit

theorem Sat.write' {E : World} {G : Hp} {w w' : World} {As : List Asn} (h : Sat E G w As) {i b : Nat} {A A' : Asn} (hi : As[i]? = some A) (hown : ∀ k : Hp, A k → k b ≠ none)
    (he : w'.os = w.os ∧ w'.tape = w.tape ∧ w'.output = w.output) (hs : w'.heap.size = w.heap.size) (hh : ∀ c, c ≠ b → w'.heap[c]? = w.heap[c]?)
    (hA : ∀ k k' : Hp, A k → (∀ c, c ≠ b → k' c = k c) → k' b = w'.heap[b]? → A' k') : Sat E G w' (As.set i A') := by
  obtain ⟨⟨e1, e2, e3, e4⟩, h2, o, h3, h4⟩ := h
  have hAi := h4 i _ hi
  have hob : o b = some i := by
    have := hown _ hAi
    unfold part at this
    split at this
    · assumption
    · exact absurd rfl this
  refine ⟨⟨he.1.trans e1, he.2.1.trans e2, he.2.2.trans e3, by omega⟩, fun c y hc => ?_, o, fun c j hc => ⟨(h3 c j hc).1, by rw [hs]; exact (h3 c j hc).2⟩, fun j A hj => ?_⟩
  · rw [hh c (fun e => by subst e; rw [(h3 _ _ hob).1] at hc; cases hc)]; exact h2 c y hc
  · by_cases hij : i = j
    · subst hij
      rw [List.getElem?_set_self (lt_of_get hi)] at hj
      injection hj with hj
      subst hj
      refine hA _ _ hAi (fun c hc => ?_) ?_
      · unfold part
        split
        · exact hh c hc
        · rfl
      · simp [part, hob]
    · rw [List.getElem?_set_ne hij] at hj
      have : part w' o j = part w o j := by
        funext c
        unfold part
        split
        · rename_i hc
          exact hh c (fun e => by subst e; rw [hob] at hc; injection hc with hc; exact hij hc)
        · rfl
      rw [this]; exact h4 j A hj

theorem setFrom_eq : ∀ (vs : List Value) (cs : List Value) (off : Nat), off + vs.length ≤ cs.length → setFrom cs off vs = cs.take off ++ vs ++ cs.drop (off + vs.length)
  | [], cs, off, _ => by simp [setFrom]
  | v :: vs, cs, off, h => by
    simp only [List.length_cons] at h
    have hlt : off < cs.length := by omega
    rw [setFrom, setFrom_eq vs _ _ (by simp; omega)]
    apply List.ext_getElem?
    intro j
    have e1 : (cs.set off v).take (off + 1) = cs.take off ++ [v] := by
      rw [List.take_set]
      rw [List.take_succ_eq_append_getElem hlt, List.set_append_right _ _ (by simp; omega)]
      simp [Nat.min_eq_left (Nat.le_of_lt hlt)]
    have e2 : (cs.set off v).drop (off + 1 + vs.length) = cs.drop (off + (v :: vs).length) := by
      rw [List.drop_set_of_lt (by omega)]
      simp only [List.length_cons]
      congr 1
      omega
    rw [e1, e2]
    simp

variable {σ : Type} (D : Addr → σ → Asn)

section
variable {P : Program} {f : FuncId} {R : Ending → World → Prop} {n : Nat} {E : World} {G : Hp} {L : List Ent} {K : List (Chunk σ)} {o : Oper} {a : Act} {w : World}

theorem oneCells_spec {vs : List Value} (h : oneCells vs = true) : ∀ v ∈ vs, v.oneCell' = true := fun v hv => by
  unfold oneCells at h
  rw [List.all_eq_true] at h
  have := h v hv
  cases v <;> first | rfl | (simp at this)

theorem storeAt_run {t : TypeId} {x y : Operand} {b off m : Nat} {t0 : TypeId} {cur : Array Value} (h : o.op = .store t x y) (hx : a.eval x = .pointer (some ⟨b, off, none⟩)) (hm : sizeP P t = some m) (hsz : (a.eval y).cells.size = m)
    (hb : w.heap[b]? = some (.cells cur t0 (0, 0))) (hfit : off + m ≤ cur.size) (h1 : ∀ v ∈ (a.eval y).cells.toList, v.oneCell' = true) :
    (execOp a.eval o).run P w = .ok .skip (w.setRow b (cur.toList.take off ++ (a.eval y).cells.toList ++ cur.toList.drop (off + m)).toArray) := by
  have hst := run_storeCells_at (P := P) b off t0 (a.eval y).cells.toList 0 cur w hb (by simpa [hsz] using hfit) h1
  simp only [Nat.add_zero, Array.length_toList, hsz] at hst
  simp [execOp, h, hx, Instr.storeAt, Instr.sureAddr, storeVar, sizeP_run hm, hsz, hst]


/-- **Operations that make or write memory.** -/
theorem estep_sound {ops : Array Oper} {i : Nat} {rest : List Nat} {td : List Item} {k : Value → Option (Nat × PK) → List (Chunk σ) → Tree σ} {t : Tree σ} {R' : Value → List (Chunk σ) → Prop} {S' : List Ab → List Ent → List (Chunk σ) → Prop}
    (ho : ops[i]? = some o) (hgs : gs n ops o = some none) (hF : Fr n L K a) (hS : SatK D E G w K) (h : estep P L K o k = some t) (ht : t.holds R' S')
    (H : ∀ v pr K', (k v pr K').holds R' S' → ∀ a' w', Fr n (addEnt o.dst none v pr L) K' a' → SatK D E G w' K' → WT P f R (.inRegion ops rest :: td) a' w') : WT P f R (.inRegion ops (i :: rest) :: td) a w := by
  obtain ⟨g1, g2, g3⟩ := gs_spec hgs
  have hw : Region.wanted o (yielded ops a.tmps) = true := (wanted_iff g1).2 trivial
  unfold estep at h
  split at h
  · -- box
    rename_i t0 x hop
    split at h
    · rename_i v hv
      have hev := val_sound (g := none) hF trivial hv
      cases h1 : oneCells v.cells.toList with
      | false => rw [h1] at h; simp at h
      | true =>
        rw [h1] at h
        simp only [cond_true, Option.some.injEq] at h
        subst h
        refine WT.op_run ho hw (.inl (box_run hop)) (H _ _ _ (ht w.heap.size) _ _ ?_ ?_)
        · refine (hF.ext (KExt.append K _)).put g2 g3 fun _ => ⟨rfl, _, List.getElem?_concat_length, rfl⟩
        · have := Sat.alloc hS (.cells (a.eval x).cells t0)
          rw [hev] at this ⊢
          unfold SatK
          rw [List.map_append]
          exact this
    · cases h
  · -- alloc
    rename_i t0 hop
    split at h
    · rename_i ti hi
      split at h
      · rename_i v hz
        cases h1 : oneCells v.cells.toList with
        | false => rw [h1] at h; simp at h
        | true =>
          rw [h1] at h
          simp only [cond_true, Option.some.injEq] at h
          subst h
          refine WT.op_run ho hw (.inl (alloc_run hop hi hz)) (H _ _ _ (ht w.heap.size) _ _ ?_ ?_)
          · refine (hF.ext (KExt.append K _)).put g2 g3 fun _ => ⟨rfl, _, List.getElem?_concat_length, rfl⟩
          · have := Sat.alloc hS (.cells v.cells t0)
            unfold SatK
            rw [List.map_append]
            exact this
      · cases h
    · cases h
  · -- store
    rename_i t0 x y hop
    split at h
    · rename_i c off v m hp hv hm
      have hev := val_sound (g := none) hF trivial hv
      have hpx := prov_sound (x := x) (g := none) hF trivial
      rw [hp] at hpx
      obtain ⟨ch, hk, hc⟩ := hpx
      split at h
      · rename_i b tb cs hk'
        rw [hk'] at hk; injection hk with hk; subst hk
        cases hcond : Nat.beq v.cells.size m && Nat.ble (off + m) cs.length && oneCells v.cells.toList with
        | false => rw [hcond] at h; simp at h
        | true =>
          rw [hcond] at h
          simp only [cond_true, Option.some.injEq] at h
          subst h
          simp only [Bool.and_eq_true] at hcond
          obtain ⟨⟨hs1, hs2⟩, hs3⟩ := hcond
          have hsz := Nat.eq_of_beq_eq_true hs1
          have hfit := Nat.le_of_ble_eq_true hs2
          have hb : w.heap[b]? = some (.cells cs.toArray tb (0, 0)) := Sat.pt hS (map_den_get D hk')
          have hrun := storeAt_run (P := P) (o := o) (a := a) (w := w) (cur := cs.toArray) (t0 := tb) hop hc hm (by rw [hev]; exact hsz) hb (by simpa using hfit) (by rw [hev]; exact oneCells_spec hs3)
          refine WT.op_run ho hw (.inr ⟨hrun, rfl⟩) (H _ _ _ ht _ _ ?_ ?_)
          · exact (hF.ext (KExt.set hk' fun v pk hv => by cases pk <;> exact hv)).put g2 g3 fun _ => ⟨rfl, trivial⟩
          · unfold SatK
            rw [List.map_set]
            refine Sat.write hS (map_den_get D hk') ⟨rfl, rfl, rfl⟩ (by simp) (fun c hc => setRow_other _ _ _ _ hc) fun k hk => ?_
            rw [setRow_heap _ _ _ _ _ _ hb] at hk
            show k b = _
            rw [hk, setFrom_eq _ _ _ (by rw [Array.length_toList, hsz]; exact hfit), hev, Array.length_toList, hsz]
      · cases h
    · cases h
  · cases h
end

/-- **The machine is right.** -/
theorem run_sound {P : Program} {T : List (Nat × Entry σ)} (hT : TableOk D P T) {f : FuncId} {fn : Func} {B : Code} {R : Ending → World → Prop} {n : Nat} {E : World} {G : Hp} (hfn : P.funcs[f]? = some fn) (hmix : P.follows .mixedOrders = true)
    {R' : Value → List (Chunk σ) → Prop} (hR : ∀ v K w, R' v K → SatK D E G w K → R (.returned v) w) :
    ∀ (fuel : Nat) (td : List Ab) (L : List Ent) (K : List (Chunk σ)), (run P T B fn.results.toList n fuel td L K).holds R' (SW D P f R B n E G) → SW D P f R B n E G td L K := by
  intro fuel
  induction fuel with
  | zero => intro td L K h; exact h
  | succ fuel ih =>
    intro td L K h a w hF hS
    have fin : ∀ (t : List Item), (t = [] ∨ ∃ k, t = .code .ret :: k) → td.map (item B) = t →
        Tree.holds R' (SW D P f R B n E G) (match resVals P L K fn.results.toList with | some [v] => .ret v K | some vs => .ret (.tuple vs.toArray) K | none => .stuck td L K) → WT P f R (td.map (item B)) a w := by
      intro t ht htd h
      cases hr : resVals P L K fn.results.toList with
      | none => rw [hr] at h; exact h a w hF hS
      | some vs =>
        rw [hr] at h
        rw [htd]
        refine finish_sound D hfn ht hF hS hr ?_
        match vs with
        | [] => exact hR _ _ _ h hS
        | [v] => exact hR _ _ _ h hS
        | _ :: _ :: _ => exact hR _ _ _ h hS
    cases td with
    | nil => simp only [run] at h; exact fin [] (.inl rfl) rfl h
    | cons x k =>
      cases x with
      | code p =>
        simp only [run] at h
        simp only [List.map_cons, item]
        split at h
        · rename_i hc
          rw [hc]
          exact WT.step (fun cs => step_skip) (ih k L K h a w hF hS)
        · rename_i c1 c2 hc
          have := ih _ L K h a w hF hS
          simp only [List.map_cons, item, sub, hc] at this
          rw [hc]
          exact WT.step (fun cs => step_seq) this
        · rename_i c c1 c2 hc
          split at h
          · rename_i t hv
            have hev := val_sound (g := none) hF trivial hv
            rw [hc]
            refine WT.step (fun cs => step_cond hev) ?_
            cases t with
            | true =>
              have := ih _ L K (h.1 rfl) a w hF hS
              simp only [List.map_cons, item, sub, hc] at this
              exact this
            | false =>
              have := ih _ L K (h.2 rfl) a w hF hS
              simp only [List.map_cons, item, sub, hc] at this
              exact this
          · exact h a w hF hS
        · rename_i id c hc
          have := ih _ L K h a w hF hS
          simp only [List.map_cons, item, sub, hc] at this
          rw [hc]
          exact WT.step (fun cs => step_block) this
        · rename_i id hc
          split at h
          · rename_i k' hk
            rw [hc]
            exact WT.step (fun cs => step_exit (exitAb_item hk)) (ih k' L K h a w hF hS)
          · exact h a w hF hS
        · rename_i hc
          exact fin (.code .ret :: k.map (item B)) (.inr ⟨_, rfl⟩) (by simp only [List.map_cons, item, hc]) h
        · rename_i id ops hc
          have := ih _ L K h a w hF hS
          simp only [List.map_cons, item, hc, opsOf, Nat.sub_zero] at this
          rw [hc]
          refine WT.step (fun cs => step_region) ?_
          rw [List.range_eq_range']
          exact this
        · rename_i id ops hc
          cases hB : Region.lexB .any ops with
          | false => rw [hB] at h; exact h a w hF hS
          | true =>
            rw [hB] at h
            simp only [cond_true] at h
            split at h
            · rename_i L' ps hq
              obtain ⟨hps, ht⟩ := needs_holds h
              rw [hc]
              refine WT.of_wp (wp_region_quiet (C := fun w' => SatK D E G w' K) hmix hB (Sat.drawn hS _) ?_)
              exact qall_sound D hT _ L hF hS hq hps fun a' hF' w' hS' => ⟨rfl, ih k L' K ht a' w' hF' hS'⟩
            · exact h a w hF hS
        · exact h a w hF hS
      | blk id =>
        simp only [run] at h
        exact WT.step (fun cs => step_inBlock) (ih k L K h a w hF hS)
      | again p =>
        simp only [run] at h
        exact h a w hF hS
      | ops p i =>
        simp only [run] at h
        simp only [List.map_cons, item]
        split at h
        · rename_i hi
          have hge : (opsOf (sub B p)).size ≤ i := by
            rcases Nat.lt_or_ge i (opsOf (sub B p)).size with h' | h'
            · simp [h'] at hi
            · exact h'
          rw [Nat.sub_eq_zero_of_le hge]
          exact WT.step (fun cs => step_region_end) (ih k L K h a w hF hS)
        · rename_i o ho
          have hlt : i < (opsOf (sub B p)).size := by
            rcases Nat.lt_or_ge i (opsOf (sub B p)).size with h' | h'
            · exact h'
            · rw [Array.getElem?_eq_none h'] at ho; cases ho
          split at h
          · have := h a w hF hS
            simpa only [List.map_cons, item] using this
          · rename_i g hgs
            split at h
            · rename_i v pr ps hq
              obtain ⟨hps, ht⟩ := needs_holds h
              rw [range'_drop hlt]
              have next := ih (.ops p (i + 1) :: k) _ K ht
              rcases quiet_step D hT hF hS hgs hq hps with ⟨hw, hqq, hF'⟩ | ⟨hw, hF'⟩
              · exact WT.op ho hw (hqq w hS) hS fun w' hS' => next _ w' hF' hS'
              · exact WT.op_skip ho hw (next _ w hF' hS)
            · split at h
              · have := h a w hF hS
                simpa only [List.map_cons, item] using this
              · split at h
                · rename_i t he
                  rw [range'_drop hlt]
                  exact estep_sound D ho hgs hF hS he h fun v pr K' hK' a' w' hF' hS' => ih (.ops p (i + 1) :: k) _ K' hK' a' w' hF' hS'
                · have := h a w hF hS
                  simpa only [List.map_cons, item] using this
end Go.Sl
