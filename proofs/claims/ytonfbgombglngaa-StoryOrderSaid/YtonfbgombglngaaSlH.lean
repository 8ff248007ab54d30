/-
  DERIVED. How the symbolic machine is used: contracts of functions, entries of the table, loops. No program is named.
-/
import Derived.Test.YtonfbgombglngaaSlM
namespace Go.Sl
open Go.RowKit

variable {σ : Type} (D : Addr → σ → Asn)

theorem KOk_nil : KOk ([] : List (Chunk σ)) := fun k b t cs h => by simp at h

/-- **A call, by the machine.** -/
theorem calls_run {P : Program} {T : List (Nat × Entry σ)} (hT : TableOk D P T) {I : List Nat} {f : FuncId} {fn : Func} {B : Code} {n : Nat} {R : Ending → World → Prop} {E : World} {G : Hp} {w : World} (hfn : P.funcs[f]? = some fn) (hmix : P.follows .mixedOrders = true)
    (hB : fn.body = some B) (hn : fn.ntmps = n) (args : List (Value × Pr)) (hlen : Nat.ble args.length n = true) {K : List (Chunk σ)} (hp : ∀ x ∈ args, pOk K x.1 x.2) (hk : KOk K) (hS : SatK D E G w K)
    {R' : Value → Pr → List (Chunk σ) → Prop} (hR : ∀ v p K w, R' v p K → SatK D E G w K → R (.returned v) w) (fuel : Nat) {t : Tree σ} (hrun : run P T I fuel B fn.results.toList n [.code []] (argEnts 0 args) K = t)
    (ht : t.holds R' (SW D P f R B n E G)) : Calls P f (args.map (·.1)).toArray w R := by
  refine calls_of_WT hfn hB ?_
  have hgo := run_sound D hT (I := I) hmix fuel (f := f) (fn := fn) (B := B) (R := R) (n := n) (E := E) (G := G) hfn (Q := fun _ => True) (fun _ _ _ _ => trivial) (R' := R') (fun v p K w h1 _ _ _ h2 => hR v p K w h1 h2) [.code []] (argEnts 0 args) K trivial (by rw [hrun]; exact ht)
  have hst := Fr.start (n := n) args (Nat.le_of_ble_eq_true hlen) hp hk
  subst hn
  exact hgo _ w hst hS

theorem ret_ok {R : Value → Pr → List (Chunk σ) → Prop} {S : List Ab → List Ent → List (Chunk σ) → Prop} {v : Value} {p : Pr} {K : List (Chunk σ)} (h : R v p K) : (Tree.ret v p K).holds R S := h

def bodyOf (f : Func) : Code := f.body.getD .skip

/-- An entry that tells of plain values alone. -/
theorem entry_pure {P : Program} {f : FuncId} {e : Entry σ} (h : ∀ args c r, e args = some c → r = c.r c.x → objOf args = none ∧ r.rows = [] ∧ r.outp = (fun _ => .no) ∧
    ((∀ p ∈ r.pre, p) → ∀ E G w, (∀ x ∈ args, iOk G x.1 x.2) → Sat E G w [] → Calls P f (args.map (·.1)).toArray w (fun en w' => en = .returned (r.out []) ∧ Sat E G w' []))) : EntryOk D P f e := by
  intro args c r hc hr
  obtain ⟨h1, h2, h4, h3⟩ := h args c r hc hr
  refine ⟨fun K acs _ => by rw [h4]; exact pOk_no, fun hpre E G w hi hS => ?_⟩
  refine (h3 hpre E G w hi (by simpa [objAs, h1] using hS)).mono fun en w' ⟨g1, g2⟩ => ⟨[], by simp [h2, acsOk], by simpa [h2] using g1, by simpa [newAs, h1, h2] using g2⟩

/-- A loop: from its head on, for all states that a relation allows, by a measure. -/
theorem SW.loop {P : Program} {f : FuncId} {R : Ending → World → Prop} {B : Code} {n : Nat} {E : World} {G : Hp} {α : Type} {td : List Ab} (Lf : α → List Ent) (Kf : α → List (Chunk σ)) (m : α → Nat) (I : α → Prop)
    (H : ∀ s, I s → (∀ s', I s' → m s' < m s → SW D P f R B n E G td (Lf s') (Kf s')) → SW D P f R B n E G td (Lf s) (Kf s)) : ∀ s, I s → SW D P f R B n E G td (Lf s) (Kf s) := by
  have key : ∀ k s, m s = k → I s → SW D P f R B n E G td (Lf s) (Kf s) := by
    intro k
    induction k using Nat.strongRecOn with
    | _ k ih => exact fun s hs hI => H s hI fun s' hI' hlt => ih (m s') (by omega) s' rfl hI'
  exact fun s hI => key _ s rfl hI

theorem SW.enter {P : Program} {f : FuncId} {R : Ending → World → Prop} {B : Code} {n : Nat} {E : World} {G : Hp} {p : List Nat} {td : List Ab} {L : List Ent} {K : List (Chunk σ)} (hc : Code.loop (Sl.sub B (0 :: p)) = Sl.sub B p) (h : SW D P f R B n E G (.code (0 :: p) :: .again p :: td) L K) : SW D P f R B n E G (.code p :: td) L K := by
  intro a w hF hS
  have := h a w hF hS
  simp only [List.map_cons, item] at this ⊢
  rw [← hc]
  exact WT.step (fun cs => step_loop) this

theorem SW.again {P : Program} {f : FuncId} {R : Ending → World → Prop} {B : Code} {n : Nat} {E : World} {G : Hp} {p : List Nat} {td : List Ab} {L : List Ent} {K : List (Chunk σ)} (h : SW D P f R B n E G (.code (0 :: p) :: .again p :: td) L K) : SW D P f R B n E G (.again p :: td) L K := by
  intro a w hF hS
  exact WT.step (fun cs => step_inLoop) (h a w hF hS)

theorem SW.sub {P : Program} {f : FuncId} {R : Ending → World → Prop} {B : Code} {n : Nat} {E : World} {G : Hp} {td : List Ab} {L L' : List Ent} {K : List (Chunk σ)} (h : SW D P f R B n E G td L' K) (hs : ∀ e ∈ L', e ∈ L) : SW D P f R B n E G td L K :=
  fun a w hF hS => h a w (hF.sub hs) hS

theorem keepL_mem {ks : List Nat} {L : List Ent} {e : Ent} (h : e ∈ keepL ks L) : e ∈ L := by
  induction L with
  | nil => simp [keepL] at h
  | cons x r ih =>
    simp only [keepL] at h
    cases hb : ks.any (Nat.beq x.s) with
    | true => rw [hb] at h; simp only [cond_true, List.mem_cons] at h; rcases h with rfl | h; · simp
              · simp [ih h]
    | false => rw [hb] at h; simp only [cond_false] at h; simp [ih h]

/-- Only these slots matter from here on. -/
theorem SW.keep {P : Program} {f : FuncId} {R : Ending → World → Prop} {B : Code} {n : Nat} {E : World} {G : Hp} {td : List Ab} {L L' : List Ent} {K : List (Chunk σ)} (ks : List Nat) (hk : keepL ks L = L') (h : SW D P f R B n E G td L' K) : SW D P f R B n E G td L K :=
  SW.sub D h fun e he => keepL_mem (ks := ks) (by rw [hk]; exact he)

/-- On by the machine. -/
theorem SW.run {P : Program} {T : List (Nat × Entry σ)} (hT : TableOk D P T) {I : List Nat} {f : FuncId} {fn : Func} {B : Code} {R : Ending → World → Prop} {n : Nat} {E : World} {G : Hp} (hfn : P.funcs[f]? = some fn) (hmix : P.follows .mixedOrders = true)
    {R' : Value → Pr → List (Chunk σ) → Prop} (hR : ∀ v p K w, R' v p K → SatK D E G w K → R (.returned v) w) (fuel : Nat) {td : List Ab} {L : List Ent} {K : List (Chunk σ)} {t : Tree σ} (hrun : Sl.run P T I fuel B fn.results.toList n td L K = t)
    (ht : t.holds R' (SW D P f R B n E G)) : SW D P f R B n E G td L K :=
  run_sound D hT (I := I) hmix fuel hfn (Q := fun _ => True) (fun _ _ _ _ => trivial) (fun v p K w h1 _ _ _ h2 => hR v p K w h1 h2) td L K trivial (by rw [hrun]; exact ht)
end Go.Sl
