/-
  DERIVED. How a function's contract is taken from a run of the symbolic machine: what is handed in, what is handed back. No program is named.
-/
import Derived.Test.YtonfbgombglngaaSlH
namespace Go.Sl
open Go.RowKit

theorem cT {α : Type} {c : Bool} {a b : α} (h : c = true) : (bif c then a else b) = a := by rw [h]; rfl
theorem cF {α : Type} {c : Bool} {a b : α} (h : c = false) : (bif c then a else b) = b := by rw [h]; rfl
variable {σ : Type} (D : Addr → σ → Asn)

/-- These of the assertions, in this order; beside them, what holds of nothing. -/
theorem Sat.pick {E : World} {G : Hp} {w : World} {As Bs : List Asn} (h : Sat E G w As) (is : List Nat) (hn : is.Nodup) (hB : ∀ (i : Nat) (B : Asn), Bs[i]? = some B → (∃ j, is[i]? = some j ∧ As[j]? = some B) ∨ ∀ k, B k) : Sat E G w Bs := by
  obtain ⟨h1, h2, o, h3, h4⟩ := h
  refine ⟨h1, h2, ownIn o is, fun b i hb => ?_, fun i B hi => ?_⟩
  · unfold ownIn at hb
    split at hb
    · rename_i j ho; exact h3 b j ho
    · cases hb
  · rcases hB i B hi with ⟨j, hj, hA⟩ | hk
    · rw [← part_congr (w := w) (o := o) (i := j)]
      · exact h4 j B hA
      · intro b
        refine ⟨⟨fun hb => ?_, fun hb => ?_⟩, fun _ => rfl⟩
        · unfold ownIn; rw [hb]; exact (idx_of hn).2 hj
        · unfold ownIn at hb
          split at hb
          · rename_i j' ho
            have := (idx_of hn).1 hb
            rw [hj] at this; injection this with this; subst this; exact ho
          · cases hb
    · exact hk _

def nilRow : Chunk σ → Bool
  | .row none _ 0 0 cols => !cols.isEmpty && cols.all fun c => Nat.beq c.len 0
  | _ => false
/-- A chunk, without where its cells point. -/
def stripCs : List (Value × Pr) → List (Value × Pr)
  | [] => []
  | x :: r => (x.1, .no) :: stripCs r
def stripC : Chunk σ → Chunk σ
  | .cells b t cs => .cells b t (stripCs cs)
  | c => c
theorem stripCs_fst : ∀ cs : List (Value × Pr), (stripCs cs).map (·.1) = cs.map (·.1)
  | [] => rfl
  | x :: r => by simp [stripCs, stripCs_fst r]
theorem strip_den {G : Hp} (c : Chunk σ) : den D G (stripC c) = den D G c := by
  cases c <;> simp [stripC, den, stripCs_fst]
def got (K : List (Chunk σ)) : List Nat → List (Chunk σ) → Prop
  | [], [] => True
  | i :: is, c :: cs => ((K[i]?).map stripC = some (stripC c) ∨ nilRow c = true) ∧ got K is cs
  | _, _ => False

theorem nilRow_den {G : Hp} {c : Chunk σ} (h : nilRow c = true) (k : Hp) : den D G c k := by
  unfold nilRow at h
  split at h
  · rename_i t cols
    simp only [Bool.and_eq_true, Bool.not_eq_true', List.isEmpty_eq_false_iff, List.all_eq_true] at h
    refine ⟨fun c hc => Nat.eq_of_beq_eq_true (h.2 c hc), ?_, rfl, rfl⟩
    exact List.length_pos_iff.2 h.1
  · cases h

theorem got_get {K : List (Chunk σ)} : ∀ {is : List Nat} {cs : List (Chunk σ)}, got K is cs → ∀ (i : Nat) c, cs[i]? = some c → (∃ j d, is[i]? = some j ∧ K[j]? = some d ∧ stripC d = stripC c) ∨ nilRow c = true
  | [], [], _, i, c, hi => by simp at hi
  | [], _ :: _, h, _, _, _ => by simp [got] at h
  | _ :: _, [], h, _, _, _ => by simp [got] at h
  | j :: is, c0 :: cs, h, i, c, hi => by
    simp only [got] at h
    cases i with
    | zero =>
      simp at hi; subst hi
      rcases h.1 with h | h
      · rw [Option.map_eq_some_iff] at h
        obtain ⟨d, h1, h2⟩ := h
        exact .inl ⟨j, d, by simp, h1, h2⟩
      · exact .inr h
    | succ i => simpa using got_get h.2 i c (by simpa using hi)

theorem SatK.got {E : World} {G : Hp} {w : World} {K cs : List (Chunk σ)} (h : SatK D E G w K) {is : List Nat} (hn : is.Nodup) (hg : got K is cs) : SatK D E G w cs := by
  refine Sat.pick h is hn fun i B hi => ?_
  rw [List.getElem?_map] at hi
  cases hc : cs[i]? with
  | none => rw [hc] at hi; cases hi
  | some c =>
    rw [hc] at hi; injection hi with hi; subst hi
    rcases got_get hg i c hc with ⟨j, d, h1, h2, h3⟩ | h
    · exact .inl ⟨j, h1, by rw [List.getElem?_map, h2, ← strip_den D c, ← h3, strip_den D d]; rfl⟩
    · exact .inr (nilRow_den D h)

/-- What is known of a thing that was made: its block; a slice's length, and room. -/
def ancV (m : Mk σ) (x : Option Nat × Nat × Nat) : Value :=
  match m with
  | .row _ _ => sliceVal x.1 x.2.1 x.2.2
  | .obj _ => .pointer (x.1.map fun b => ⟨b, 0, none⟩)
def ancC (m : Mk σ) (x : Option Nat × Nat × Nat) : Chunk σ :=
  match m with
  | .row t cols => .row x.1 t x.2.1 x.2.2 cols
  | .obj s => match x.1 with
    | some b => .obj ⟨b, 0, none⟩ s
    | none => .dead
def ancOk : List (Mk σ) → List (Option Nat × Nat × Nat) → Bool
  | [], [] => true
  | .row _ _ :: rs, _ :: xs => ancOk rs xs
  | .obj _ :: rs, (some _, 0, 0) :: xs => ancOk rs xs
  | _, _ => false

def RetOk (out : List Value → Value) (nw : List (Chunk σ)) (rows : List (Mk σ)) (v : Value) (_p : Pr) (K : List (Chunk σ)) : Prop :=
  ∃ (anc : List (Option Nat × Nat × Nat)) (is : List Nat), is.Nodup ∧ ancOk rows anc = true ∧ v = out (List.zipWith ancV rows anc) ∧
    got K is (nw ++ List.zipWith ancC rows anc)

def Post (E : World) (G : Hp) (out : List Value → Value) (nw : List (Chunk σ)) (rows : List (Mk σ)) : Ending → World → Prop := fun en w' =>
  ∃ acs : List (Option Nat × Nat), acsOk rows acs ∧ en = .returned (out (List.zipWith sliceV rows acs)) ∧ Sat E G w' (nw.map (den D G) ++ (List.zipWith sliceC rows acs).map (den D G))

theorem rows_anc : ∀ (rows : List (Mk σ)) (anc : List (Option Nat × Nat × Nat)), ancOk rows anc = true → (∀ (j : Nat) t cols x, rows[j]? = some (.row t cols) → anc[j]? = some x → x.2.1 = lenC cols) →
    List.zipWith sliceV rows (anc.map fun x => (x.1, x.2.2)) = List.zipWith ancV rows anc ∧ List.zipWith sliceC rows (anc.map fun x => (x.1, x.2.2)) = List.zipWith ancC rows anc ∧ acsOk rows (anc.map fun x => (x.1, x.2.2))
  | [], [], _, _ => by simp [acsOk]
  | [], _ :: _, h, _ => by simp [ancOk] at h
  | r :: _, [], h, _ => by cases r <;> simp [ancOk] at h
  | .row t cols :: rows, x :: anc, h, hl => by
    have h0 := hl 0 t cols x rfl rfl
    obtain ⟨h1, h2, h3⟩ := rows_anc rows anc (by simpa [ancOk] using h) fun j t' c' x' hr hx => hl (j + 1) t' c' x' (by simpa using hr) (by simpa using hx)
    refine ⟨?_, ?_, trivial, h3⟩
    · simp only [List.map_cons, List.zipWith_cons_cons, h1, sliceV, ancV, h0]
    · simp only [List.map_cons, List.zipWith_cons_cons, h2, sliceC, ancC, h0]
  | .obj s :: rows, x :: anc, h, hl => by
    obtain ⟨a, n, c⟩ := x
    match a, n, c, h with
    | some b, 0, 0, h =>
      obtain ⟨h1, h2, h3⟩ := rows_anc rows anc (by simpa [ancOk] using h) fun j t' c' x' hr hx => hl (j + 1) t' c' x' (by simpa using hr) (by simpa using hx)
      refine ⟨?_, ?_, ⟨b, rfl⟩, h3⟩
      · simp only [List.map_cons, List.zipWith_cons_cons, h1, sliceV, ancV]
      · simp only [List.map_cons, List.zipWith_cons_cons, h2, sliceC, ancC]

theorem RetOk.post {E : World} {G : Hp} {w : World} {out : List Value → Value} {nw : List (Chunk σ)} {rows : List (Mk σ)} {v : Value} {p : Pr} {K : List (Chunk σ)} (h : RetOk out nw rows v p K) (hS : SatK D E G w K) : Post D E G out nw rows (.returned v) w := by
  obtain ⟨anc, is, hn, hl, rfl, hg⟩ := h
  have hS' := hS.got D hn hg
  have hk : ∀ (j : Nat) t cols x, rows[j]? = some (.row t cols) → anc[j]? = some x → x.2.1 = lenC cols := fun j t cols x hr hx => by
    have hj : (nw ++ List.zipWith ancC rows anc)[nw.length + j]? = some (Chunk.row x.1 t x.2.1 x.2.2 cols) := by
      rw [List.getElem?_append_right (by omega), show nw.length + j - nw.length = j by omega, List.getElem?_zipWith, hr, hx]; rfl
    obtain ⟨p, ⟨g1, g2, _⟩, _⟩ := hS'.get D hj
    cases hc : cols with
    | nil => rw [hc] at g2; simp at g2
    | cons c cs => rw [hc] at g1; exact (g1 c (by simp)).symm
  obtain ⟨h1, h2, h3⟩ := rows_anc rows anc hl hk
  refine ⟨anc.map fun x => (x.1, x.2.2), h3, by rw [h1], ?_⟩
  rw [h2, ← List.map_append]
  exact hS'

def Chunk.roOk (G : Hp) : Chunk σ → Prop
  | .ro a n cap cols => RowAt G a n cols ∧ n ≤ cap
  | .roc b t vs => G b = some (.cells vs.toArray t (0, 0))
  | _ => False
def rosOk (G : Hp) : List (Chunk σ) → Prop
  | [] => True
  | c :: cs => c.roOk G ∧ rosOk G cs
theorem rosOk_mem {G : Hp} : ∀ {cs : List (Chunk σ)}, rosOk G cs → ∀ c ∈ cs, c.roOk G
  | [], _, c, hc => by simp at hc
  | c0 :: cs, h, c, hc => by
    simp only [List.mem_cons] at hc
    rcases hc with rfl | hc
    · exact h.1
    · exact rosOk_mem h.2 c hc

theorem SatK.ros {E : World} {G : Hp} {w : World} {K ros : List (Chunk σ)} (h : SatK D E G w K) (hr : rosOk G ros) : SatK D E G w (K ++ ros) := by
  refine Sat.pick h (List.range K.length) List.nodup_range fun i B hi => ?_
  rw [List.getElem?_map] at hi
  cases hc : (K ++ ros)[i]? with
  | none => rw [hc] at hi; cases hi
  | some c =>
    rw [hc] at hi; injection hi with hi; subst hi
    rcases Nat.lt_or_ge i K.length with hl | hl
    · rw [List.getElem?_append_left hl] at hc
      exact .inl ⟨i, by simp [hl], by rw [List.getElem?_map, hc]; rfl⟩
    · rw [List.getElem?_append_right hl] at hc
      have := rosOk_mem hr c (List.mem_of_getElem? hc)
      refine .inr fun k => ?_
      cases c <;> simp only [Chunk.roOk] at this
      all_goals exact this

def noCells : List (Chunk σ) → Bool
  | [] => true
  | .cells _ _ _ :: _ => false
  | _ :: cs => noCells cs
theorem KOk_of : ∀ {K : List (Chunk σ)}, noCells K = true → KOk K := by
  intro K h k b t cs hk
  exfalso
  have : Chunk.cells b t cs ∈ K := List.mem_of_getElem? hk
  clear hk
  induction K with
  | nil => simp at this
  | cons c cs' ih =>
    simp only [List.mem_cons] at this
    rcases this with rfl | this
    · simp [noCells] at h
    · refine ih ?_ this
      cases c <;> simp only [noCells] at h <;> first | exact h | cases h

theorem psOk_get {K : List (Chunk σ)} : ∀ {vs : List Value} {ps : List Pr}, psOk K vs ps → ∀ x ∈ List.zip vs ps, pOk K x.1 x.2
  | [], [], _, x, hx => by simp at hx
  | [], _ :: _, h, _, _ => by simp [psOk] at h
  | _ :: _, [], h, _, _ => by simp [psOk] at h
  | v :: vs, p :: ps, h, x, hx => by
    simp only [psOk] at h
    simp only [List.zip_cons_cons, List.mem_cons] at hx
    rcases hx with rfl | hx
    · exact h.1
    · exact psOk_get h.2 x hx
theorem psOk_len {K : List (Chunk σ)} : ∀ {vs : List Value} {ps : List Pr}, psOk K vs ps → vs.length = ps.length
  | [], [], _ => rfl
  | [], _ :: _, h => by simp [psOk] at h
  | _ :: _, [], h => by simp [psOk] at h
  | v :: vs, p :: ps, h => by simp [psOk] at h; simp [psOk_len h.2]

/-- **A function's contract, by the machine.** -/
theorem calls_post {P : Program} {T : List (Nat × Entry σ)} (hT : TableOk D P T) {I : List Nat} {f : FuncId} {fn : Func} {B : Code} {E : World} {G : Hp} {w : World} (hfn : P.funcs[f]? = some fn) (hmix : P.follows .mixedOrders = true)
    (hB : fn.body = some B) (vs : List Value) (ps : List Pr) (hlen : Nat.ble vs.length fn.ntmps = true) {objs ros : List (Chunk σ)} (hp : psOk (objs ++ ros) vs ps) (hk : noCells (objs ++ ros) = true) (hr : rosOk G ros) (hS : SatK D E G w objs)
    {out : List Value → Value} {nw : List (Chunk σ)} {rows : List (Mk σ)} (fuel : Nat) {t : Tree σ}
    (hrun : run P T I fuel B fn.results.toList fn.ntmps [.code []] (argEnts 0 (List.zip vs ps)) (objs ++ ros) = t)
    (ht : t.holds (RetOk out nw rows) (SW D P f (Post D E G out nw rows) B fn.ntmps E G)) : Calls P f vs.toArray w (Post D E G out nw rows) := by
  have hl := psOk_len hp
  have := calls_run D hT hfn hmix hB rfl (List.zip vs ps) (by simpa [hl] using hlen) (K := objs ++ ros) (psOk_get hp) (KOk_of hk) (hS.ros D hr) (R' := RetOk out nw rows) (fun v p K w' h hS' => h.post D hS') fuel hrun ht
  simpa [List.map_fst_zip, hl] using this

/-- On by the machine, to an end that hands back. -/
theorem SW.go {P : Program} {T : List (Nat × Entry σ)} (hT : TableOk D P T) {I : List Nat} {f : FuncId} {fn : Func} {B : Code} {E : World} {G : Hp} (hfn : P.funcs[f]? = some fn) (hmix : P.follows .mixedOrders = true)
    {out : List Value → Value} {nw : List (Chunk σ)} {rows : List (Mk σ)} (fuel : Nat) {td : List Ab} {L : List Ent} {K : List (Chunk σ)} {t : Tree σ} (hrun : Sl.run P T I fuel B fn.results.toList fn.ntmps td L K = t)
    (ht : t.holds (RetOk out nw rows) (SW D P f (Post D E G out nw rows) B fn.ntmps E G)) : SW D P f (Post D E G out nw rows) B fn.ntmps E G td L K :=
  SW.run D hT hfn hmix (fun _ _ _ _ h hS => h.post D hS) fuel hrun ht

theorem RetOk.at {α : Type} {outf : α → List Value → Value} {nwf : α → List (Chunk σ)} {rowsf : α → List (Mk σ)} {r r0 : α} {v : Value} {p : Pr} {K : List (Chunk σ)} (h : r = r0) (x : RetOk (outf r) (nwf r) (rowsf r) v p K) : RetOk (outf r0) (nwf r0) (rowsf r0) v p K := h ▸ x

def pickL : List Nat → List Ent → List Ent
  | [], _ => []
  | k :: ks, L => match look L k with
    | some e => e :: pickL ks L
    | none => pickL ks L
theorem pickL_mem {L : List Ent} : ∀ {ks : List Nat} {e : Ent}, e ∈ pickL ks L → e ∈ L
  | [], e, h => by simp [pickL] at h
  | k :: ks, e, h => by
    simp only [pickL] at h
    split at h
    · rename_i e' he
      simp only [List.mem_cons] at h
      rcases h with rfl | h
      · exact (look_mem he).1
      · exact pickL_mem h
    · exact pickL_mem h
/-- Only these slots matter from here on. -/
theorem SW.pick {P : Program} {f : FuncId} {R : Ending → World → Prop} {B : Code} {n : Nat} {E : World} {G : Hp} {td : List Ab} {L L' : List Ent} {K : List (Chunk σ)} (ks : List Nat) (hk : pickL ks L = L') (h : SW D P f R B n E G td L' K) : SW D P f R B n E G td L K :=
  SW.sub D h fun e he => pickL_mem (ks := ks) (by rw [hk]; exact he)

/-- The chunks with other numbers: these, in this order. -/
def posN (k : Nat) : List Nat → Nat → Option Nat
  | [], _ => none
  | i :: is, j => bif Nat.beq i k then some j else posN k is (j + 1)
theorem posN_get {k : Nat} : ∀ {is : List Nat} {m j : Nat}, posN k is m = some j → ∃ i, j = m + i ∧ is[i]? = some k
  | [], _, _, h => by simp [posN] at h
  | i :: is, m, j, h => by
    simp only [posN] at h
    cases hb : Nat.beq i k with
    | true => rw [hb] at h; simp at h; exact ⟨0, by omega, by simp [Nat.eq_of_beq_eq_true hb]⟩
    | false =>
      rw [hb] at h
      obtain ⟨i', h1, h2⟩ := posN_get (by simpa using h)
      exact ⟨i' + 1, by omega, by simpa using h2⟩
mutual
def renP (is : List Nat) : Pr → Pr
  | .no => .no
  | .pt k pk => match posN k is 0 with
    | some j => .pt j pk
    | none => .no
  | .many ps => .many (renPs is ps)
  | .box p => .box (renP is p)
def renPs (is : List Nat) : List Pr → List Pr
  | [] => []
  | p :: ps => renP is p :: renPs is ps
end
def renCs (is : List Nat) : List (Value × Pr) → List (Value × Pr)
  | [] => []
  | x :: r => (x.1, renP is x.2) :: renCs is r
def renC (is : List Nat) : Chunk σ → Chunk σ
  | .cells b t cs => .cells b t (renCs is cs)
  | c => c
def renK0 (is : List Nat) (K : List (Chunk σ)) : List Nat → List (Chunk σ)
  | [] => []
  | i :: r => (match K[i]? with
    | some c => renC is c
    | none => .dead) :: renK0 is K r
def renK (is : List Nat) (K : List (Chunk σ)) : List (Chunk σ) := renK0 is K is
def renL (is : List Nat) : List Ent → List Ent
  | [] => []
  | e :: r => ⟨e.s, e.g, e.v, renP is e.p⟩ :: renL is r

theorem renK0_get {is : List Nat} {K : List (Chunk σ)} : ∀ {js : List Nat} {j i : Nat} {c : Chunk σ}, js[j]? = some i → K[i]? = some c → (renK0 is K js)[j]? = some (renC is c)
  | [], _, _, _, h, _ => by simp at h
  | i0 :: r, 0, i, c, h, hk => by simp at h; subst h; simp [renK0, hk]
  | i0 :: r, j + 1, i, c, h, hk => by simp only [renK0, List.getElem?_cons_succ] at h ⊢; exact renK0_get h hk
theorem renK0_of {is : List Nat} {K : List (Chunk σ)} : ∀ {js : List Nat} {j : Nat} {c : Chunk σ}, (renK0 is K js)[j]? = some c → ∃ i, js[j]? = some i ∧ ((∃ d, K[i]? = some d ∧ c = renC is d) ∨ c = .dead)
  | [], _, _, h => by simp [renK0] at h
  | i0 :: r, 0, c, h => by
    simp [renK0] at h
    refine ⟨i0, by simp, ?_⟩
    cases hk : K[i0]? with
    | none => rw [hk] at h; exact .inr h.symm
    | some d => rw [hk] at h; exact .inl ⟨d, rfl, h.symm⟩
  | i0 :: r, j + 1, c, h => by
    simp only [renK0, List.getElem?_cons_succ] at h ⊢; exact renK0_of h
theorem renC_cOk {is : List Nat} {c : Chunk σ} {v : Value} {pk : PK} (h : cOk c v pk) : cOk (renC is c) v pk := by
  cases c <;> first | exact h | (cases pk <;> first | exact h | exact h.elim)
theorem renCs_fst {is : List Nat} : ∀ cs : List (Value × Pr), (renCs is cs).map (·.1) = cs.map (·.1)
  | [] => rfl
  | x :: r => by simp [renCs, renCs_fst r]
theorem renC_den {is : List Nat} {G : Hp} {c : Chunk σ} : den D G (renC is c) = den D G c := by
  cases c <;> simp [renC, den, renCs_fst]
mutual
theorem renP_ok {K : List (Chunk σ)} {is : List Nat} : ∀ (v : Value) (p : Pr), pOk K v p → pOk (renK is K) v (renP is p)
  | _, .no, _ => by simp [pOk, renP]
  | v, .pt k pk, h => by
    simp only [pOk] at h
    obtain ⟨c, h1, h2⟩ := h
    simp only [renP]
    cases hp : posN k is 0 with
    | none => simp [pOk]
    | some j =>
      obtain ⟨i, h3, h4⟩ := posN_get hp
      have : j = i := by omega
      subst this
      exact pOk_pt.2 ⟨_, renK0_get h4 h1, renC_cOk h2⟩
  | v, .many ps, h => by
    cases v <;> simp only [pOk, renP] at h ⊢
    all_goals exact renPs_ok _ ps h
  | v, .box p, h => by
    cases v <;> simp only [pOk, renP] at h ⊢
    exact renP_ok _ p h
theorem renPs_ok {K : List (Chunk σ)} {is : List Nat} : ∀ (vs : List Value) (ps : List Pr), psOk K vs ps → psOk (renK is K) vs (renPs is ps)
  | [], [], _ => by simp [psOk, renPs]
  | [], _ :: _, h => by simp [psOk] at h
  | _ :: _, [], h => by simp [psOk] at h
  | v :: vs, p :: ps, h => by
    simp only [psOk, renPs] at h ⊢
    exact ⟨renP_ok v p h.1, renPs_ok vs ps h.2⟩
end
theorem renCs_mem {is : List Nat} : ∀ {cs : List (Value × Pr)} {x : Value × Pr}, x ∈ renCs is cs → ∃ y ∈ cs, x = (y.1, renP is y.2)
  | [], x, h => by simp [renCs] at h
  | y :: r, x, h => by
    simp only [renCs, List.mem_cons] at h
    rcases h with rfl | h
    · exact ⟨y, by simp, rfl⟩
    · obtain ⟨z, h1, h2⟩ := renCs_mem h
      exact ⟨z, by simp [h1], h2⟩
theorem renL_mem {is : List Nat} : ∀ {L : List Ent} {e : Ent}, e ∈ renL is L → ∃ y ∈ L, e = ⟨y.s, y.g, y.v, renP is y.p⟩
  | [], x, h => by simp [renL] at h
  | y :: r, x, h => by
    simp only [renL, List.mem_cons] at h
    rcases h with rfl | h
    · exact ⟨y, by simp, rfl⟩
    · obtain ⟨z, h1, h2⟩ := renL_mem h
      exact ⟨z, by simp [h1], h2⟩
theorem renK_kok {K : List (Chunk σ)} {is : List Nat} (h : KOk K) : KOk (renK is K) := fun k b t cs hk x hx => by
  obtain ⟨i, _, ⟨d, h1, h2⟩ | h2⟩ := renK0_of hk
  · cases d <;> simp only [renC] at h2 <;> first | cases h2 | skip
    obtain ⟨y, hy, rfl⟩ := renCs_mem hx
    exact renP_ok _ _ (h _ _ _ _ h1 y hy)
  · cases h2

/-- Only these slots matter from here on, and these chunks, in this order. -/
theorem SW.move {P : Program} {f : FuncId} {R : Ending → World → Prop} {B : Code} {n : Nat} {E : World} {G : Hp} {td : List Ab} {L L' : List Ent} {K K' : List (Chunk σ)} (ks is : List Nat) (hn : is.Nodup) (hk : renL is (pickL ks L) = L') (hK : renK is K = K')
    (h : SW D P f R B n E G td L' K') : SW D P f R B n E G td L K := by
  subst hk; subst hK
  intro a w hF hS
  refine h a w ⟨renK_kok hF.kok, hF.defers, hF.size, fun e he => ?_, fun e he => ?_⟩ ?_
  rotate_left
  · obtain ⟨y, hy, rfl⟩ := renL_mem he
    exact hF.skipd y (pickL_mem hy)
  rotate_right
  · obtain ⟨y, hy, rfl⟩ := renL_mem he
    intro hg
    obtain ⟨h1, h2⟩ := hF.ents y (pickL_mem hy) hg
    exact ⟨h1, renP_ok _ _ h2⟩
  · refine Sat.pick hS is hn fun i B hi => ?_
    rw [List.getElem?_map] at hi
    cases hc : (renK is K)[i]? with
    | none => rw [hc] at hi; cases hi
    | some c =>
      rw [hc] at hi; injection hi with hi; subst hi
      obtain ⟨j, h1, ⟨d, h2, h3⟩ | h3⟩ := renK0_of hc
      · exact .inl ⟨j, h1, by rw [List.getElem?_map, h2, h3, renC_den D]; rfl⟩
      · subst h3; exact .inr fun _ => trivial

/-- What hands back plain values alone. -/
theorem RetOk.plain {v : Value} {p : Pr} {K : List (Chunk σ)} : RetOk (fun _ => v) [] [] v p K := ⟨[], [], by simp, rfl, rfl, trivial⟩
theorem RetOk.plain' {v v' : Value} {p : Pr} {K : List (Chunk σ)} (h : v' = v) : RetOk (fun _ => v) [] [] v' p K := h ▸ RetOk.plain
theorem Post.plain {E : World} {G : Hp} {v : Value} : Post D E G (fun _ => v) ([] : List (Chunk σ)) [] = fun en w' => en = .returned v ∧ Sat E G w' [] := by
  funext en w'
  apply propext
  constructor
  · rintro ⟨acs, h1, h2, h3⟩
    cases acs with
    | nil => exact ⟨h2, by simpa using h3⟩
    | cons _ _ => exact h1.elim
  · rintro ⟨h2, h3⟩
    exact ⟨[], trivial, h2, by simpa using h3⟩
theorem pOk_at {K : List (Chunk σ)} {v : Value} {k : Nat} {pk : PK} {c : Chunk σ} (h1 : K[k]? = some c) (h2 : cOk c v pk) : pOk K v (.pt k pk) := pOk_pt.2 ⟨c, h1, h2⟩
theorem psOk_nil {K : List (Chunk σ)} : psOk K [] [] := by simp [psOk]
theorem psOk_cons {K : List (Chunk σ)} {v : Value} {p : Pr} {vs : List Value} {ps : List Pr} (h : pOk K v p) (hs : psOk K vs ps) : psOk K (v :: vs) (p :: ps) := by
  unfold psOk; exact ⟨h, hs⟩
theorem pOk_func {K : List (Chunk σ)} {fn : Fn} {first caps : Array Value} {ps : List Pr} (h : psOk K caps.toList ps) : pOk K (.func fn first caps) (.many ps) := by
  unfold pOk; exact h
theorem entry_post {P : Program} {f : FuncId} {args : List (Value × Info σ)} {pre : List Prop} {new : Option σ} {rows : List (Mk σ)} {out : List Value → Value} {outp : Nat → Pr} {E : World} {G : Hp} {w : World} {nw : List (Chunk σ)}
    (hn : nw.map (den D G) = newAs D args new) (h : Calls P f (args.map (·.1)).toArray w (Post D E G out nw rows)) :
    Calls P f (args.map (·.1)).toArray w fun en w' => ∃ acs : List (Option Nat × Nat), acsOk (Res.rows ⟨pre, new, rows, out, outp⟩) acs ∧
      en = .returned ((Res.out ⟨pre, new, rows, out, outp⟩) (List.zipWith sliceV (Res.rows ⟨pre, new, rows, out, outp⟩) acs)) ∧ Sat E G w' (newAs D args (Res.new ⟨pre, new, rows, out, outp⟩) ++ (List.zipWith sliceC (Res.rows ⟨pre, new, rows, out, outp⟩) acs).map (den D G)) := by
  rw [← hn]; exact h
theorem RowAt.bound {G : Hp} {a : Option Addr} {n : Nat} {cols : List Col} (h : RowAt G a n cols) : n ≤ 9223372036854775807 := h.2.2
theorem RowAt.len {G : Hp} {a : Option Addr} {n : Nat} {c : Col} {cols : List Col} (h : RowAt G a n (c :: cols)) : c.len = n := h.1 c (by simp)

/-! ### Short names, for the texts that are printed -/
abbrev pn_ : Pr := .no
abbrev pc_ (k j : Nat) : Pr := .pt k (.cell j)
abbrev ps_ (k : Nat) : Pr := .pt k .slice
abbrev po_ (k : Nat) : Pr := .pt k .obj
abbrev pm_ (k : Nat) : Pr := .pt k .map
abbrev z0_ : Int := 0
abbrev z1_ : Int := 1
abbrev ob_ (a : Option Nat) : Option Addr := a.map fun b => { block := b, off := 0 }
abbrev vi_ (x : Int) : Value := .int .i64 x
abbrev vu_ (x : Int) : Value := .int .u32 x
abbrev vp_ (b : Nat) : Value := .pointer (some { block := b, off := 0 })
abbrev vs_ (a : Option Addr) (n c : Nat) : Value := .slice a n c
abbrev ci_ (xs : List Int) : Col := .ints .i64 xs
abbrev cu_ (xs : List Int) : Col := .ints .u32 xs
abbrev e0_ (s : Nat) (v : Value) (p : Pr) : Ent := ⟨s, none, v, p⟩
abbrev eg_ (s : Nat) (g : Nat × Bool) (v : Value) (p : Pr) : Ent := ⟨s, some g, v, p⟩
abbrev kr_ {σ : Type} (a : Option Nat) (t : TypeId) (n cap : Nat) (cols : List Col) : Chunk σ := .row a t n cap cols
abbrev kc_ {σ : Type} (b : Nat) (t : TypeId) (cs : List (Value × Pr)) : Chunk σ := .cells b t cs
end Go.Sl
