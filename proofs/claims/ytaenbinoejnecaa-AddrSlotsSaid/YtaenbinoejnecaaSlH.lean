/-
  DERIVED. How the symbolic machine is used: contracts of functions, entries of the table, loops. No program is named.
-/
import Derived.Test.YtaenbinoejnecaaSlK
namespace Go.Sl
open Go.RowKit

variable {σ : Type} (D : Addr → σ → Asn)

theorem KOk_nil : KOk ([] : List (Chunk σ)) := fun k b t cs h => by simp at h

def argEnts : Nat → List (Value × Pr) → List Ent
  | _, [] => []
  | i, (v, p) :: r => ⟨i, none, v, p⟩ :: argEnts (i + 1) r

theorem argEnts_ok {K : List (Chunk σ)} {tm : Array Value} : ∀ (args : List (Value × Pr)) (i : Nat), (∀ (j : Nat) v p, args[j]? = some (v, p) → tm.getD (i + j) undef = v ∧ pOk K v p) → ∀ e ∈ argEnts i args, e.ok K tm
  | [], _, _, e, he => by simp [argEnts] at he
  | (v, p) :: r, i, h, e, he => by
    simp only [argEnts, List.mem_cons] at he
    rcases he with rfl | he
    · intro _; exact h 0 v p rfl
    · refine argEnts_ok r (i + 1) (fun j v' p' hj => ?_) e he
      have := h (j + 1) v' p' (by simpa using hj)
      rw [show i + (j + 1) = i + 1 + j by omega] at this
      exact this

theorem argEnts_g : ∀ (args : List (Value × Pr)) (i : Nat) (e : Ent), e ∈ argEnts i args → e.g = none
  | [], _, e, he => by simp [argEnts] at he
  | (v, p) :: r, i, e, he => by
    simp only [argEnts, List.mem_cons] at he
    rcases he with rfl | he
    · rfl
    · exact argEnts_g r (i + 1) e he

/-- **A call, by the machine.** -/
theorem calls_run {P : Program} {T : List (Nat × Entry σ)} (hT : TableOk D P T) {f : FuncId} {fn : Func} {B : Code} {n : Nat} {R : Ending → World → Prop} {E : World} {G : Hp} {w : World} (hfn : P.funcs[f]? = some fn) (hmix : P.follows .mixedOrders = true)
    (hB : fn.body = some B) (hn : fn.ntmps = n) (args : List (Value × Pr)) (hlen : Nat.ble args.length n = true) {K : List (Chunk σ)} (hp : ∀ x ∈ args, pOk K x.1 x.2) (hk : KOk K) (hS : SatK D E G w K)
    {R' : Value → List (Chunk σ) → Prop} (hR : ∀ v K w, R' v K → SatK D E G w K → R (.returned v) w) (fuel : Nat) {t : Tree σ} (hrun : run P T B fn.results.toList n fuel [.code []] (argEnts 0 args) K = t)
    (ht : t.holds R' (SW D P f R B n E G)) : Calls P f (args.map (·.1)).toArray w R := by
  refine calls_of_WT hfn hB ?_
  have hgo := run_sound D hT (B := B) (R := R) (n := n) (E := E) (G := G) hfn hmix hR fuel [.code []] (argEnts 0 args) K (by rw [hrun]; exact ht)
  refine hgo _ w ⟨hk, rfl, ?_, argEnts_ok args 0 fun j v p hj => ⟨?_, hp (v, p) (List.mem_of_getElem? hj)⟩, fun e he hg => absurd (by rw [argEnts_g args 0 e he]; trivial) hg⟩ hS
  · have := Nat.le_of_ble_eq_true hlen; simp [hn]; omega
  · have hjl := lt_of_get hj
    rw [Nat.zero_add, Array.getD_eq_getD_getElem?, Array.getElem?_append_left (by simpa using hjl)]
    simp [hj]

/-- The same, of a function that is handed plain values and makes nothing that is kept. -/
theorem calls_pure {P : Program} {T : List (Nat × Entry σ)} (hT : TableOk D P T) {f : FuncId} {fn : Func} {B : Code} {n : Nat} {E : World} {G : Hp} {w : World} (hfn : P.funcs[f]? = some fn) (hmix : P.follows .mixedOrders = true)
    (hB : fn.body = some B) (hn : fn.ntmps = n) (args : List (Value × Pr)) (hlen : Nat.ble args.length n = true) {K : List (Chunk σ)} (hp : ∀ x ∈ args, pOk K x.1 x.2) (hk : KOk K) (hS : SatK D E G w K) (fuel : Nat) {t : Tree σ} {val : Value}
    (hrun : run P T B fn.results.toList n fuel [.code []] (argEnts 0 args) K = t)
    (ht : t.holds (fun v _ => v = val) (SW D P f (fun en w' => en = .returned val ∧ Sat E G w' []) B n E G)) : Calls P f (args.map (·.1)).toArray w (fun en w' => en = .returned val ∧ Sat E G w' []) :=
  calls_run D hT hfn hmix hB hn args hlen hp hk hS (R' := fun v _ => v = val) (fun v K' w' hv hS' => ⟨by rw [hv], hS'.drop (by simp)⟩) fuel hrun ht

/-- The same, of plain values alone. -/
theorem calls_plain {P : Program} {T : List (Nat × Entry σ)} (hT : TableOk D P T) {f : FuncId} {fn : Func} {B : Code} {E : World} {G : Hp} {w : World} (hfn : P.funcs[f]? = some fn) (hmix : P.follows .mixedOrders = true)
    (hB : fn.body = some B) (vs : List Value) (hlen : Nat.ble vs.length fn.ntmps = true) (hS : Sat E G w []) (fuel : Nat) {t : Tree σ} {val : Value}
    (hrun : run P T B fn.results.toList fn.ntmps fuel [.code []] (argEnts 0 (vs.map fun v => (v, .no))) [] = t)
    (ht : t.holds (fun v _ => v = val) (SW D P f (fun en w' => en = .returned val ∧ Sat E G w' []) B fn.ntmps E G)) : Calls P f vs.toArray w (fun en w' => en = .returned val ∧ Sat E G w' []) := by
  have := calls_pure D hT hfn hmix hB rfl (vs.map fun v => (v, .no)) (by simpa using hlen) (K := []) (fun x hx => by
    simp only [List.mem_map] at hx
    obtain ⟨v, _, rfl⟩ := hx
    exact pOk_no) KOk_nil hS fuel hrun ht
  simpa [Function.comp_def] using this

theorem ret_ok {R : Value → List (Chunk σ) → Prop} {S : List Ab → List Ent → List (Chunk σ) → Prop} {v : Value} {K : List (Chunk σ)} (h : R v K) : (Tree.ret v K).holds R S := h

def bodyOf (f : Func) : Code := f.body.getD .skip

/-- An entry that tells of plain values alone. -/
theorem entry_pure {P : Program} {f : FuncId} {e : Entry σ} (h : ∀ args r, e args = some r → objOf args = none ∧ r.rows = [] ∧ r.outp = (fun _ => .no) ∧
    ((∀ p ∈ r.pre, p) → ∀ E G w, (∀ x ∈ args, iOk G x.1 x.2) → Sat E G w [] → Calls P f (args.map (·.1)).toArray w (fun en w' => en = .returned (r.out []) ∧ Sat E G w' []))) : EntryOk D P f e := by
  intro args r hr
  obtain ⟨h1, h2, h4, h3⟩ := h args r hr
  refine ⟨fun K acs _ => by rw [h4]; exact pOk_no, fun hpre E G w hi hS => ?_⟩
  refine (h3 hpre E G w hi (by simpa [objAs, h1] using hS)).mono fun en w' ⟨g1, g2⟩ => ⟨[], by simp [h2], by simpa [h2] using g1, by simpa [newAs, h1, h2] using g2⟩

/-- A loop: from its head on, for all states that a relation allows, by a measure. -/
theorem SW.loop {P : Program} {f : FuncId} {R : Ending → World → Prop} {B : Code} {n : Nat} {E : World} {G : Hp} {α : Type} {td : List Ab} (Lf : α → List Ent) (Kf : α → List (Chunk σ)) (m : α → Nat) (I : α → Prop)
    (H : ∀ s, I s → (∀ s', I s' → m s' < m s → SW D P f R B n E G td (Lf s') (Kf s')) → SW D P f R B n E G td (Lf s) (Kf s)) : ∀ s, I s → SW D P f R B n E G td (Lf s) (Kf s) := by
  have key : ∀ k s, m s = k → I s → SW D P f R B n E G td (Lf s) (Kf s) := by
    intro k
    induction k using Nat.strongRecOn with
    | _ k ih => exact fun s hs hI => H s hI fun s' hI' hlt => ih (m s') (by omega) s' rfl hI'
  exact fun s hI => key _ s rfl hI

theorem SW.enter {P : Program} {f : FuncId} {R : Ending → World → Prop} {B : Code} {n : Nat} {E : World} {G : Hp} {p : List Nat} {td : List Ab} {L : List Ent} {K : List (Chunk σ)} (hc : Code.loop (Sl.sub B (0 :: p)) = Sl.sub B p) (h : SW D P f R B n E G (.code (0 :: p) :: .again p :: td) L K) : SW D P f R B n E G (.code p :: td) L K := by
  intro a w hF hS
  have := h a w hF hS
  simp only [List.map_cons, item] at this ⊢
  rw [← hc]
  exact WT.step (fun cs => step_loop) this

theorem SW.again {P : Program} {f : FuncId} {R : Ending → World → Prop} {B : Code} {n : Nat} {E : World} {G : Hp} {p : List Nat} {td : List Ab} {L : List Ent} {K : List (Chunk σ)} (h : SW D P f R B n E G (.code (0 :: p) :: .again p :: td) L K) : SW D P f R B n E G (.again p :: td) L K := by
  intro a w hF hS
  exact WT.step (fun cs => step_inLoop) (h a w hF hS)

theorem SW.sub {P : Program} {f : FuncId} {R : Ending → World → Prop} {B : Code} {n : Nat} {E : World} {G : Hp} {td : List Ab} {L L' : List Ent} {K : List (Chunk σ)} (h : SW D P f R B n E G td L' K) (hs : ∀ e ∈ L', e ∈ L) : SW D P f R B n E G td L K :=
  fun a w hF hS => h a w (hF.sub hs) hS

theorem keepL_mem {ks : List Nat} {L : List Ent} {e : Ent} (h : e ∈ keepL ks L) : e ∈ L := by
  induction L with
  | nil => simp [keepL] at h
  | cons x r ih =>
    simp only [keepL] at h
    cases hb : ks.any (Nat.beq x.s) with
    | true => rw [hb] at h; simp only [cond_true, List.mem_cons] at h; rcases h with rfl | h; · simp
              · simp [ih h]
    | false => rw [hb] at h; simp only [cond_false] at h; simp [ih h]

/-- Only these slots matter from here on. -/
theorem SW.keep {P : Program} {f : FuncId} {R : Ending → World → Prop} {B : Code} {n : Nat} {E : World} {G : Hp} {td : List Ab} {L L' : List Ent} {K : List (Chunk σ)} (ks : List Nat) (hk : keepL ks L = L') (h : SW D P f R B n E G td L' K) : SW D P f R B n E G td L K :=
  SW.sub D h fun e he => keepL_mem (ks := ks) (by rw [hk]; exact he)

/-- On by the machine. -/
theorem SW.run {P : Program} {T : List (Nat × Entry σ)} (hT : TableOk D P T) {f : FuncId} {fn : Func} {B : Code} {R : Ending → World → Prop} {n : Nat} {E : World} {G : Hp} (hfn : P.funcs[f]? = some fn) (hmix : P.follows .mixedOrders = true)
    {R' : Value → List (Chunk σ) → Prop} (hR : ∀ v K w, R' v K → SatK D E G w K → R (.returned v) w) (fuel : Nat) {td : List Ab} {L : List Ent} {K : List (Chunk σ)} {t : Tree σ} (hrun : Sl.run P T B fn.results.toList n fuel td L K = t)
    (ht : t.holds R' (SW D P f R B n E G)) : SW D P f R B n E G td L K :=
  run_sound D hT hfn hmix hR fuel td L K (by rw [hrun]; exact ht)
end Go.Sl
