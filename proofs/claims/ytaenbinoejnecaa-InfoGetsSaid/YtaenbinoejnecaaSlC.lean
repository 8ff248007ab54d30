/-
  DERIVED. The symbolic machine of SlB is right: what it says of a body holds of each run of the model. No program is named.
-/
import Derived.Test.YtaenbinoejnecaaSlB
namespace Go.Sl
open Go.RowKit

/-! ### Frames -/
section
variable {σ : Type}

/-- A value that points into a chunk. -/
def cOk : Chunk σ → Value → PK → Prop
  | .dead, _, _ => True
  | .cells b _ _, v, .cell off => v = .pointer (some ⟨b, off, none⟩)
  | .row a _ n cap _, v, .slice => v = .slice (a.map fun b => ⟨b, 0, none⟩) n cap
  | .row a _ n _ cols, v, .elem i off => i < n ∧ ∃ b, a = some b ∧ v = .pointer (some ((⟨b, 0, none⟩ : Addr).add (i * cols.length + off)))
  | .ro a n cap _, v, .slice => v = .slice a n cap
  | .ro a n _ cols, v, .elem i off => i < n ∧ ∃ b, a = some b ∧ v = .pointer (some (b.add (i * cols.length + off)))
  | .obj p _, v, .obj => v = .pointer (some p)
  | _, _, _ => False

def pOk (K : List (Chunk σ)) (v : Value) : Option (Nat × PK) → Prop
  | none => True
  | some (k, pk) => ∃ c, K[k]? = some c ∧ cOk c v pk

/-- Each place of the list is there still, and what pointed into it points into it. -/
def KExt (K K' : List (Chunk σ)) : Prop := ∀ (k : Nat) (c : Chunk σ), K[k]? = some c → ∃ c', K'[k]? = some c' ∧ ∀ v pk, cOk c v pk → cOk c' v pk

theorem KExt.refl (K : List (Chunk σ)) : KExt K K := fun _ c h => ⟨c, h, fun _ _ h => h⟩
theorem lt_of_get {α : Type} {l : List α} {i : Nat} {x : α} (h : l[i]? = some x) : i < l.length := by
  rcases Nat.lt_or_ge i l.length with h' | h'
  · exact h'
  · rw [List.getElem?_eq_none h'] at h; cases h
theorem KExt.append (K B : List (Chunk σ)) : KExt K (K ++ B) := fun k c h => ⟨c, by
  rw [List.getElem?_append_left (lt_of_get h)]
  exact h, fun _ _ h => h⟩
theorem KExt.set {K : List (Chunk σ)} {i : Nat} {c c' : Chunk σ} (h : K[i]? = some c) (hc : ∀ v pk, cOk c v pk → cOk c' v pk) : KExt K (K.set i c') := fun k d hk => by
  by_cases hik : i = k
  · subst hik
    rw [h] at hk; injection hk with hk; subst hk
    have hlt : i < K.length := by
      rcases Nat.lt_or_ge i K.length with h' | h'
      · exact h'
      · rw [List.getElem?_eq_none h'] at h; cases h
    exact ⟨c', List.getElem?_set_self hlt, hc⟩
  · exact ⟨d, by rw [List.getElem?_set_ne hik]; exact hk, fun _ _ h => h⟩
theorem KExt.trans {K K' K'' : List (Chunk σ)} (h : KExt K K') (h' : KExt K' K'') : KExt K K'' := fun k c hk =>
  let ⟨c', h1, h2⟩ := h k c hk
  let ⟨c'', h3, h4⟩ := h' k c' h1
  ⟨c'', h3, fun v pk hv => h4 v pk (h2 v pk hv)⟩
theorem pOk.ext {K K' : List (Chunk σ)} {v : Value} {p : Option (Nat × PK)} (h : pOk K v p) (hK : KExt K K') : pOk K' v p := by
  cases p with
  | none => trivial
  | some x =>
    obtain ⟨k, pk⟩ := x
    obtain ⟨c, h1, h2⟩ := h
    obtain ⟨c', h3, h4⟩ := hK k c h1
    exact ⟨c', h3, h4 v pk h2⟩

def GV (tm : Array Value) : Option (Nat × Bool) → Prop
  | none => True
  | some (c, b) => tm.getD c undef = .bool b

def Ent.ok (K : List (Chunk σ)) (tm : Array Value) (e : Ent) : Prop := GV tm e.g → tm.getD e.s undef = e.v ∧ pOk K e.v e.p

structure Fr (n : Nat) (L : List Ent) (K : List (Chunk σ)) (a : Act) : Prop where
  defers : a.defers = []
  size : a.tmps.size = n
  ents : ∀ e ∈ L, e.ok K a.tmps

theorem Fr.ext {n : Nat} {L : List Ent} {K K' : List (Chunk σ)} {a : Act} (h : Fr n L K a) (hK : KExt K K') : Fr n L K' a :=
  ⟨h.defers, h.size, fun e he hg => let ⟨h1, h2⟩ := h.ents e he hg; ⟨h1, h2.ext hK⟩⟩
theorem Fr.sub {n : Nat} {L L' : List Ent} {K : List (Chunk σ)} {a : Act} (h : Fr n L K a) (hs : ∀ e ∈ L', e ∈ L) : Fr n L' K a :=
  ⟨h.defers, h.size, fun e he => h.ents e (hs e he)⟩

theorem look_mem {L : List Ent} {t : Nat} {e : Ent} (h : look L t = some e) : e ∈ L ∧ e.s = t := by
  induction L with
  | nil => simp [look] at h
  | cons x r ih =>
    simp only [look] at h
    cases hb : Nat.beq x.s t with
    | true => rw [hb] at h; simp at h; subst h; exact ⟨by simp, Nat.eq_of_beq_eq_true hb⟩
    | false => rw [hb] at h; simp at h; have := ih h; exact ⟨by simp [this.1], this.2⟩

theorem ent_sound {n : Nat} {L : List Ent} {K : List (Chunk σ)} {a : Act} {g : Option (Nat × Bool)} {t : Nat} {e : Ent} (hF : Fr n L K a) (hg : GV a.tmps g) (h : ent g L t = some e) :
    a.tmps.getD t undef = e.v ∧ pOk K e.v e.p := by
  unfold ent at h
  cases hl : look L t with
  | none => simp [hl] at h
  | some x =>
    simp only [hl] at h
    obtain ⟨hm, hs⟩ := look_mem hl
    have hx := hF.ents x hm
    subst hs
    unfold Ent.ok at hx
    cases hxg : x.g with
    | none =>
      simp only [hxg] at h
      injection h with h; subst h
      exact hx (by rw [hxg]; trivial)
    | some cb =>
      obtain ⟨c, b⟩ := cb
      cases g with
      | none => simp [hxg] at h
      | some cb' =>
        obtain ⟨c', b'⟩ := cb'
        simp only [hxg] at h
        cases hq : Nat.beq c c' && (b == b') with
        | false => rw [hq] at h; simp at h
        | true =>
          rw [hq] at h; simp at h; subst h
          simp only [Bool.and_eq_true, beq_iff_eq] at hq
          obtain ⟨h1, rfl⟩ := hq
          have := Nat.eq_of_beq_eq_true h1
          subst this
          exact hx (by rw [hxg]; exact hg)

theorem val_sound {n : Nat} {L : List Ent} {K : List (Chunk σ)} {a : Act} {g : Option (Nat × Bool)} {x : Operand} {v : Value} (hF : Fr n L K a) (hg : GV a.tmps g) (h : val g L x = some v) : a.eval x = v := by
  cases x with
  | tmp t =>
    simp only [val] at h
    cases he : ent g L t with
    | none => simp [he] at h
    | some e => simp only [he] at h; injection h with h; subst h; exact (ent_sound hF hg he).1
  | const u => simpa [val, Act.eval] using h
  | global m => simpa [val, Act.eval] using h
  | func f => simpa [val, Act.eval] using h

theorem prov_sound {n : Nat} {L : List Ent} {K : List (Chunk σ)} {a : Act} {g : Option (Nat × Bool)} {x : Operand} (hF : Fr n L K a) (hg : GV a.tmps g) : pOk K (a.eval x) (prov g L x) := by
  cases x with
  | tmp t =>
    simp only [prov]
    cases he : ent g L t with
    | none => trivial
    | some e => have := ent_sound hF hg he; simp only [Act.eval]; rw [this.1]; exact this.2
  | const u => trivial
  | global m => trivial
  | func f => trivial

theorem rho_sound {n : Nat} {L : List Ent} {K : List (Chunk σ)} {a : Act} {g : Option (Nat × Bool)} {x : Operand} (hF : Fr n L K a) (hg : GV a.tmps g) (h : (val g L x).isSome = true) : a.eval x = rho g L x := by
  cases hv : val g L x with
  | none => rw [hv] at h; cases h
  | some v => rw [val_sound hF hg hv]; simp [rho, hv]

theorem exec_sound {n : Nat} {L : List Ent} {K : List (Chunk σ)} {a : Act} {g : Option (Nat × Bool)} {o : Oper} (hF : Fr n L K a) (hg : GV a.tmps g) (hs : ∀ cs b, o.op ≠ .select cs b) (h : o.op.operands.all (fun x => (val g L x).isSome) = true) :
    execOp a.eval o = execOp (rho g L) o :=
  execOp_congr o hs fun x hx => rho_sound hF hg (by
    rw [Array.all_eq_true_iff_forall_mem] at h
    exact h x hx)

theorem evalS_sound (P : Program) {α : Type} (s : Sem α) (x : α) (h : evalS P s = some x) : ∀ w, s.run P w = .ok x w := by
  induction s with
  | pure a => intro w; simp only [evalS] at h; injection h with h; subst h; rfl
  | program k ih => intro w; simp only [evalS] at h; exact ih P h w
  | mark m k ih => intro w; simp only [evalS] at h; exact ih h w
  | _ => simp [evalS] at h

/-- A new value in a slot. -/
theorem getD_put {tm : Array Value} {d : Nat} (v : Value) (hd : d < tm.size) (t : Nat) : (tm.setIfInBounds d v).getD t undef = if d = t then v else tm.getD t undef := by
  simp only [Array.getD_eq_getD_getElem?, Array.getElem?_setIfInBounds]
  by_cases h : d = t
  · subst h; simp [hd]
  · simp [h]

theorem del_mem {d : Nat} {L : List Ent} {e : Ent} (h : e ∈ del d L) : e ∈ L ∧ e.s ≠ d ∧ ∀ c b, e.g = some (c, b) → c ≠ d := by
  induction L with
  | nil => simp [del] at h
  | cons x r ih =>
    simp only [del] at h
    cases hb : (Nat.beq x.s d || gIs d x.g) with
    | true => rw [hb] at h; simp at h; have := ih h; exact ⟨by simp [this.1], this.2⟩
    | false =>
      rw [hb] at h
      simp only [cond_false, List.mem_cons] at h
      rcases h with rfl | h
      · simp only [Bool.or_eq_false_iff] at hb
        refine ⟨by simp, fun he => ?_, fun c b hc he => ?_⟩
        · rw [he] at hb; simp at hb
        · rw [hc, he] at hb; simp [gIs] at hb
      · have := ih h; exact ⟨by simp [this.1], this.2⟩

theorem Fr.put {n : Nat} {L : List Ent} {K : List (Chunk σ)} {a : Act} (hF : Fr n L K a) {dst : Option Nat} {g : Option (Nat × Bool)} {v u : Value} {p : Option (Nat × PK)}
    (hd : ∀ d, dst = some d → d < n) (hcd : ∀ d c b, dst = some d → g = some (c, b) → c ≠ d) (hu : GV a.tmps g → u = v ∧ pOk K v p) : Fr n (addEnt dst g v p L) K (a.put dst u) := by
  cases dst with
  | none => exact hF
  | some d =>
    have hdn := hd d rfl
    rw [← hF.size] at hdn
    refine ⟨hF.defers, by simp [Act.put, hF.size], fun e he hge => ?_⟩
    simp only [addEnt, List.mem_cons] at he
    simp only [Act.put] at hge ⊢
    rcases he with rfl | he
    · rw [getD_put _ hdn, if_pos rfl]
      refine hu ?_
      dsimp only at hge
      cases hg : g with
      | none => trivial
      | some cb =>
        obtain ⟨c, b⟩ := cb
        rw [hg] at hge
        simp only [GV] at hge ⊢
        rw [getD_put _ hdn, if_neg (fun e => hcd d c b rfl hg e.symm)] at hge
        exact hge
    · obtain ⟨hm, hne, hgd⟩ := del_mem he
      rw [getD_put _ hdn, if_neg (fun e => hne e.symm)]
      refine hF.ents e hm ?_
      cases hg : e.g with
      | none => trivial
      | some cb =>
        obtain ⟨c, b⟩ := cb
        rw [hg] at hge
        simp only [GV] at hge ⊢
        rw [getD_put _ hdn, if_neg (fun e' => hgd c b hg e'.symm)] at hge
        exact hge

/-- What a guard asks, and what the machine's own test says. -/
theorem wanted_iff {ops : Array Oper} {o : Oper} {tm : Array Value} {g : Option (Nat × Bool)} (h : gslot ops o = some g) : Region.wanted o (yielded ops tm) = true ↔ GV tm g := by
  unfold gslot at h
  unfold Region.wanted
  cases ho : o.guard with
  | none => rw [ho] at h; simp at h; subst h; simp [GV]
  | some jb =>
    obtain ⟨j, b⟩ := jb
    rw [ho] at h
    simp only at h
    cases hc : (ops[j]?).bind (·.dst) with
    | none => simp [hc] at h
    | some c =>
      simp only [hc, Option.some.injEq] at h
      subst h
      simp only [GV, yielded, hc, Option.bind_some]
      rw [Array.getD_eq_getD_getElem?]
      cases ht : tm[c]? with
      | none => simp [undef]
      | some v => cases v <;> simp

theorem gimp_elim {n : Nat} {L : List Ent} {K : List (Chunk σ)} {a : Act} {g : Option (Nat × Bool)} {p : Prop} (hF : Fr n L K a) (hg : GV a.tmps g) (h : gimp g L p) : p := by
  unfold gimp at h
  cases g with
  | none => exact h
  | some cb =>
    obtain ⟨c, b⟩ := cb
    simp only at h
    split at h
    · rename_i s t pr hl
      obtain ⟨hm, hs⟩ := look_mem hl
      have := (hF.ents _ hm trivial).1
      dsimp only at this hs
      subst hs
      simp only [GV] at hg
      rw [hg] at this
      injection this with this
      exact h this.symm
    · exact h
end

/-! ### Chunks as assertions -/
def cellOf (h : Hp) (a : Addr) : Option Value :=
  match h a.block with
  | some (.cells c _ _) => if a.spot.isSome then none else c[a.off]?
  | _ => none

/-- A row of n elements, read in a heap from an address on. -/
def RowAt (h : Hp) (a : Option Addr) (n : Nat) (cols : List Col) : Prop :=
  (∀ c ∈ cols, c.len = n) ∧ ∀ i, i < n → ∃ b, a = some b ∧ ∀ (j : Nat) (c : Col), cols[j]? = some c → cellOf h (b.add (i * cols.length + j)) = some (c.at i)

theorem cellOf_mono {h h' : Hp} (hs : ∀ b o, h b = some o → h' b = some o) {a : Addr} {v : Value} (hv : cellOf h a = some v) : cellOf h' a = some v := by
  unfold cellOf at *
  cases hb : h a.block with
  | none => simp [hb] at hv
  | some o => rw [hs _ _ hb]; rw [hb] at hv; exact hv
theorem RowAt.mono {h h' : Hp} (hs : ∀ b o, h b = some o → h' b = some o) {a : Option Addr} {n : Nat} {cols : List Col} (H : RowAt h a n cols) : RowAt h' a n cols :=
  ⟨H.1, fun i hi => let ⟨b, hb, hc⟩ := H.2 i hi; ⟨b, hb, fun j c hj => cellOf_mono hs (hc j c hj)⟩⟩
theorem cell_of_sub {h : Hp} {w : World} (hs : h.sub w) {a : Addr} {v : Value} (hv : cellOf h a = some v) : w.cell? a = some v := by
  unfold cellOf at hv
  unfold World.cell?
  cases hb : h a.block with
  | none => simp [hb] at hv
  | some o => rw [hs _ _ hb]; rw [hb] at hv; exact hv

variable {σ : Type} (D : Addr → σ → Asn)

def den (G : Hp) : Chunk σ → Asn
  | .dead => fun _ => True
  | .cells b t cs => pt b (.cells cs.toArray t (0, 0))
  | .row a t n cap cols => fun h => RowAt h (a.map fun b => ⟨b, 0, none⟩) n cols ∧ n ≤ cap ∧ 0 < cols.length ∧
      match a with
      | none => cap = 0
      | some b => ∃ cs : Array Value, h b = some (.cells cs t (0, 0)) ∧ cs.size = cap * cols.length
  | .ro a n _ cols => fun _ => RowAt G a n cols
  | .obj p s => D p s

/-- The state, with chunks. -/
def SatK (E : World) (G : Hp) (w : World) (K : List (Chunk σ)) : Prop := Sat E G w (K.map (den D G))

def iOk (G : Hp) : Value → Info σ → Prop
  | _, .none => True
  | v, .row n cols => ∃ a cap, v = .slice a n cap ∧ RowAt G a n cols
  | v, .obj _ => ∃ p, v = .pointer (some p)

def objOf : List (Value × Info σ) → Option (Addr × σ)
  | (.pointer (some p), .obj s) :: _ => some (p, s)
  | _ => none
def objAs (args : List (Value × Info σ)) : List Asn := match objOf args with | some (p, s) => [D p s] | none => []
/-- The object behind the call. -/
def newAs (args : List (Value × Info σ)) (new : Option σ) : List Asn := match objOf args with
  | some (p, s) => match new with
    | some s' => [D p s']
    | none => [D p s]
  | none => []

/-- A slice that a call made: its value, its assertion. -/
def sliceV (r : TypeId × Nat × List Col) (ac : Option Nat × Nat) : Value := .slice (ac.1.map fun b => ⟨b, 0, none⟩) r.2.1 ac.2
def sliceC (r : TypeId × Nat × List Col) (ac : Option Nat × Nat) : Chunk σ := .row ac.1 r.1 r.2.1 ac.2 r.2.2

/-- **What an entry of the table promises.** -/
def EntryOk (P : Program) (f : FuncId) (e : Entry σ) : Prop :=
  ∀ args r, e args = some r → (∀ p ∈ r.pre, p) → ∀ E G w, (∀ x ∈ args, iOk G x.1 x.2) → Sat E G w (objAs D args) →
    Calls P f (args.map (·.1)).toArray w fun en w' => ∃ acs : List (Option Nat × Nat), acs.length = r.rows.length ∧
      en = .returned (r.out (List.zipWith sliceV r.rows acs)) ∧ Sat E G w' (newAs D args r.new ++ (List.zipWith sliceC r.rows acs).map (den D G))
def TableOk (P : Program) (T : List (Nat × Entry σ)) : Prop := ∀ x ∈ T, EntryOk D P x.1 x.2

theorem lookT_ok {P : Program} {T : List (Nat × Entry σ)} (h : TableOk D P T) {f : Nat} {e : Entry σ} (he : lookT T f = some e) : EntryOk D P f e := by
  induction T with
  | nil => simp [lookT] at he
  | cons x r ih =>
    obtain ⟨g, e'⟩ := x
    simp only [lookT] at he
    cases hb : Nat.beq g f with
    | true =>
      rw [hb] at he; simp at he; subst he
      have := Nat.eq_of_beq_eq_true hb
      subst this
      exact h (g, e') (by simp)
    | false => rw [hb] at he; simp at he; exact ih (fun x hx => h x (by simp [hx])) he
theorem TableOk.nil (P : Program) : TableOk D P ([] : List (Nat × Entry σ)) := fun _ h => by cases h
theorem TableOk.cons {P : Program} {T : List (Nat × Entry σ)} {f : Nat} {e : Entry σ} (h : EntryOk D P f e) (hT : TableOk D P T) : TableOk D P ((f, e) :: T) := fun x hx => by
  simp only [List.mem_cons] at hx
  rcases hx with rfl | hx
  · exact h
  · exact hT x hx
end Go.Sl
