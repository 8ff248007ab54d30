/-
  DERIVED. The symbolic machine of SlB is right: what it says of a body holds of each run of the model. No program is named.
-/
import Derived.Test.YtonfbgombglngaaSlB
namespace Go.Sl
open Go.RowKit

/-! ### Frames -/
section
variable {σ : Type}

/-- A value that points into a chunk. -/
def cOk : Chunk σ → Value → PK → Prop
  | .dead, _, _ => True
  | .cells b _ _, v, .cell off => v = .pointer (some ⟨b, off, none⟩)
  | .roc b _ _, v, .cell off => v = .pointer (some ⟨b, off, none⟩)
  | .row a _ n cap _, v, .slice => v = .slice (a.map fun b => ⟨b, 0, none⟩) n cap
  | .row a _ n _ cols, v, .elem i off => i < n ∧ ∃ b, a = some b ∧ v = .pointer (some ((⟨b, 0, none⟩ : Addr).add (i * cols.length + off)))
  | .ro a n cap _, v, .slice => v = .slice a n cap
  | .ro a n _ cols, v, .elem i off => i < n ∧ ∃ b, a = some b ∧ v = .pointer (some (b.add (i * cols.length + off)))
  | .obj p _, v, .obj => v = .pointer (some p)
  | .map b _ _ _, v, .map => v = .map (some b)
  | _, _, _ => False

mutual
def pOk (K : List (Chunk σ)) : Value → Pr → Prop
  | _, .no => True
  | v, .pt k pk => ∃ c, K[k]? = some c ∧ cOk c v pk
  | .agg cs, .many ps => psOk K cs.toList ps
  | .tuple vs, .many ps => psOk K vs.toList ps
  | .func _ _ caps, .many ps => psOk K caps.toList ps
  | .iface _ v, .box p => pOk K v p
  | _, _ => False
def psOk (K : List (Chunk σ)) : List Value → List Pr → Prop
  | [], [] => True
  | v :: vs, p :: ps => pOk K v p ∧ psOk K vs ps
  | _, _ => False
end

theorem psOk_iff {K : List (Chunk σ)} : ∀ {vs : List Value} {ps : List Pr}, psOk K vs ps ↔ vs.length = ps.length ∧ ∀ (i : Nat) v p, vs[i]? = some v → ps[i]? = some p → pOk K v p
  | [], [] => by simp [psOk]
  | [], p :: ps => by simp [psOk]
  | v :: vs, [] => by simp [psOk]
  | v :: vs, p :: ps => by
    simp only [psOk, psOk_iff (vs := vs) (ps := ps), List.length_cons, Nat.add_right_cancel_iff]
    constructor
    · rintro ⟨h1, h2, h3⟩
      refine ⟨h2, fun i v' p' hv hp => ?_⟩
      cases i with
      | zero => simp at hv hp; subst hv; subst hp; exact h1
      | succ i => exact h3 i v' p' (by simpa using hv) (by simpa using hp)
    · rintro ⟨h1, h2⟩
      exact ⟨h2 0 v p rfl rfl, h1, fun i v' p' hv hp => h2 (i + 1) v' p' (by simpa using hv) (by simpa using hp)⟩

/-- Each place of the list is there still, and what pointed into it points into it. -/
def KExt (K K' : List (Chunk σ)) : Prop := ∀ (k : Nat) (c : Chunk σ), K[k]? = some c → ∃ c', K'[k]? = some c' ∧ ∀ v pk, cOk c v pk → cOk c' v pk

theorem KExt.refl (K : List (Chunk σ)) : KExt K K := fun _ c h => ⟨c, h, fun _ _ h => h⟩
theorem lt_of_get {α : Type} {l : List α} {i : Nat} {x : α} (h : l[i]? = some x) : i < l.length := by
  rcases Nat.lt_or_ge i l.length with h' | h'
  · exact h'
  · rw [List.getElem?_eq_none h'] at h; cases h
theorem KExt.append (K B : List (Chunk σ)) : KExt K (K ++ B) := fun k c h => ⟨c, by
  rw [List.getElem?_append_left (lt_of_get h)]
  exact h, fun _ _ h => h⟩
theorem KExt.set {K : List (Chunk σ)} {i : Nat} {c c' : Chunk σ} (h : K[i]? = some c) (hc : ∀ v pk, cOk c v pk → cOk c' v pk) : KExt K (K.set i c') := fun k d hk => by
  by_cases hik : i = k
  · subst hik
    rw [h] at hk; injection hk with hk; subst hk
    have hlt : i < K.length := by
      rcases Nat.lt_or_ge i K.length with h' | h'
      · exact h'
      · rw [List.getElem?_eq_none h'] at h; cases h
    exact ⟨c', List.getElem?_set_self hlt, hc⟩
  · exact ⟨d, by rw [List.getElem?_set_ne hik]; exact hk, fun _ _ h => h⟩
theorem KExt.trans {K K' K'' : List (Chunk σ)} (h : KExt K K') (h' : KExt K' K'') : KExt K K'' := fun k c hk =>
  let ⟨c', h1, h2⟩ := h k c hk
  let ⟨c'', h3, h4⟩ := h' k c' h1
  ⟨c'', h3, fun v pk hv => h4 v pk (h2 v pk hv)⟩
mutual
theorem pOk_ext {K K' : List (Chunk σ)} (hK : KExt K K') : ∀ (v : Value) (p : Pr), pOk K v p → pOk K' v p
  | _, .no, _ => by simp [pOk]
  | v, .pt k pk, h => by
    simp only [pOk] at h ⊢
    obtain ⟨c, h1, h2⟩ := h
    obtain ⟨c', h3, h4⟩ := hK k c h1
    exact ⟨c', h3, h4 v pk h2⟩
  | v, .many ps, h => by
    cases v <;> simp only [pOk] at h ⊢
    all_goals exact psOk_ext hK _ ps h
  | v, .box p, h => by
    cases v <;> simp only [pOk] at h ⊢
    exact pOk_ext hK _ p h
theorem psOk_ext {K K' : List (Chunk σ)} (hK : KExt K K') : ∀ (vs : List Value) (ps : List Pr), psOk K vs ps → psOk K' vs ps
  | [], [], _ => by simp [psOk]
  | [], _ :: _, h => by simp [psOk] at h
  | _ :: _, [], h => by simp [psOk] at h
  | v :: vs, p :: ps, h => by
    simp only [psOk] at h ⊢
    exact ⟨pOk_ext hK v p h.1, psOk_ext hK vs ps h.2⟩
end
theorem pOk.ext {K K' : List (Chunk σ)} {v : Value} {p : Pr} (h : pOk K v p) (hK : KExt K K') : pOk K' v p := pOk_ext hK v p h

/-- What the cells of blocks are known to point to. -/
def KOk (K : List (Chunk σ)) : Prop := ∀ (k b : Nat) (t : TypeId) cs, K[k]? = some (.cells b t cs) → ∀ x ∈ cs, pOk K x.1 x.2
theorem KOk.append {K B : List (Chunk σ)} (h : KOk K) (hB : ∀ b t cs, Chunk.cells b t cs ∈ B → ∀ x ∈ cs, pOk (K ++ B) x.1 x.2) : KOk (K ++ B) := fun k b t cs hk x hx => by
  rcases Nat.lt_or_ge k K.length with hl | hl
  · rw [List.getElem?_append_left hl] at hk
    exact (h k b t cs hk x hx).ext (KExt.append K B)
  · rw [List.getElem?_append_right hl] at hk
    exact hB b t cs (List.mem_of_getElem? hk) x hx
theorem KOk.set {K : List (Chunk σ)} {i : Nat} {c c' : Chunk σ} (h : KOk K) (hi : K[i]? = some c) (hc : ∀ v pk, cOk c v pk → cOk c' v pk) (hB : ∀ b t cs, c' = .cells b t cs → ∀ x ∈ cs, pOk K x.1 x.2) : KOk (K.set i c') := fun k b t cs hk x hx => by
  have hE := KExt.set hi hc
  by_cases hik : i = k
  · subst hik
    rw [List.getElem?_set_self (lt_of_get hi)] at hk
    injection hk with hk
    exact (hB b t cs hk x hx).ext hE
  · rw [List.getElem?_set_ne hik] at hk
    exact (h k b t cs hk x hx).ext hE

theorem nos_ok {K : List (Chunk σ)} : ∀ (vs : List Value), psOk K vs (nos vs.length)
  | [] => by simp [psOk, nos]
  | v :: vs => by simp only [List.length_cons, nos, psOk, pOk, true_and]; exact nos_ok vs
theorem all_no_ok {K : List (Chunk σ)} : ∀ {vs : List Value} {ps : List Pr}, psOk K vs ps → True := fun _ => trivial
theorem mkMany_agg {K : List (Chunk σ)} {vs : List Value} {ps : List Pr} (h : psOk K vs ps) : pOk K (.agg vs.toArray) (mkMany ps) := by
  unfold mkMany
  cases ps.all Pr.isNo with
  | true => simp [pOk]
  | false => simpa [pOk] using h
theorem mkMany_func {K : List (Chunk σ)} {fn : Fn} {first caps : Array Value} {ps : List Pr} (h : psOk K caps.toList ps) : pOk K (.func fn first caps) (mkMany ps) := by
  unfold mkMany
  cases ps.all Pr.isNo with
  | true => simp [pOk]
  | false => simpa [pOk] using h
theorem cellsPr_ok {K : List (Chunk σ)} {v : Value} {p : Pr} (h : pOk K v p) : psOk K v.cells.toList (cellsPr v p) := by
  unfold cellsPr
  cases v with
  | agg cs =>
    simp only [Value.cells]
    cases p with
    | many ps =>
      cases hb : Nat.beq ps.length cs.size with
      | true => simp only [hb, cond_true]; simpa [pOk] using h
      | false => simp only [hb, cond_false]; simpa using nos_ok cs.toList
    | _ => simpa using nos_ok cs.toList
  | _ => simp only [Value.cells, psOk, and_true]; exact h
theorem cellsPr_len (v : Value) (p : Pr) : (cellsPr v p).length = v.cells.size := by
  have := nos_len
  unfold cellsPr
  cases v with
  | agg cs =>
    simp only [Value.cells]
    cases p with
    | many ps =>
      cases hb : Nat.beq ps.length cs.size with
      | true => simp only [hb, cond_true]; exact Nat.eq_of_beq_eq_true hb
      | false => simp only [hb, cond_false]; exact this cs.size
    | _ => simpa using this cs.size
  | _ => rfl
where
  nos_len : ∀ n, (nos n).length = n
    | 0 => rfl
    | n + 1 => by simp [nos, nos_len n]
theorem zipP_fst : ∀ (vs : List Value) (ps : List Pr), vs.length = ps.length → (zipP vs ps).map (·.1) = vs
  | [], [], _ => rfl
  | [], _ :: _, h => by simp at h
  | _ :: _, [], h => by simp at h
  | v :: vs, p :: ps, h => by simp only [zipP, List.map_cons]; rw [zipP_fst vs ps (by simpa using h)]
theorem zipP_ok {K : List (Chunk σ)} : ∀ (vs : List Value) (ps : List Pr), psOk K vs ps → ∀ x ∈ zipP vs ps, pOk K x.1 x.2
  | [], _, _, x, hx => by simp [zipP] at hx
  | _ :: _, [], _, x, hx => by simp [zipP] at hx
  | v :: vs, p :: ps, h, x, hx => by
    simp only [psOk] at h
    simp only [zipP, List.mem_cons] at hx
    rcases hx with rfl | hx
    · exact h.1
    · exact zipP_ok vs ps h.2 x hx
theorem cellsOf2_fst (v : Value) (p : Pr) : (cellsOf2 v p).map (·.1) = v.cells.toList := zipP_fst _ _ (by rw [cellsPr_len]; simp)
theorem cellsOf2_ok {K : List (Chunk σ)} {v : Value} {p : Pr} (h : pOk K v p) : ∀ x ∈ cellsOf2 v p, pOk K x.1 x.2 := zipP_ok _ _ (cellsPr_ok h)

def GV (tm : Array Value) : Option (Nat × Bool) → Prop
  | none => True
  | some (c, b) => tm.getD c undef = .bool b

def Ent.ok (K : List (Chunk σ)) (tm : Array Value) (e : Ent) : Prop := GV tm e.g → tm.getD e.s undef = e.v ∧ pOk K e.v e.p

structure Fr (n : Nat) (L : List Ent) (K : List (Chunk σ)) (a : Act) : Prop where
  kok : KOk K
  defers : a.defers = []
  size : a.tmps.size = n
  ents : ∀ e ∈ L, e.ok K a.tmps
  skipd : ∀ e ∈ L, ¬ GV a.tmps e.g → a.tmps.getD e.s undef = undef

theorem Fr.ext {n : Nat} {L : List Ent} {K K' : List (Chunk σ)} {a : Act} (h : Fr n L K a) (hK : KExt K K') (hk : KOk K') : Fr n L K' a :=
  ⟨hk, h.defers, h.size, fun e he hg => let ⟨h1, h2⟩ := h.ents e he hg; ⟨h1, h2.ext hK⟩, h.skipd⟩
theorem Fr.sub {n : Nat} {L L' : List Ent} {K : List (Chunk σ)} {a : Act} (h : Fr n L K a) (hs : ∀ e ∈ L', e ∈ L) : Fr n L' K a :=
  ⟨h.kok, h.defers, h.size, fun e he => h.ents e (hs e he), fun e he => h.skipd e (hs e he)⟩

theorem look_mem {L : List Ent} {t : Nat} {e : Ent} (h : look L t = some e) : e ∈ L ∧ e.s = t := by
  induction L with
  | nil => simp [look] at h
  | cons x r ih =>
    simp only [look] at h
    cases hb : Nat.beq x.s t with
    | true => rw [hb] at h; simp at h; subst h; exact ⟨by simp, Nat.eq_of_beq_eq_true hb⟩
    | false => rw [hb] at h; simp at h; have := ih h; exact ⟨by simp [this.1], this.2⟩

theorem ent_sound {n : Nat} {L : List Ent} {K : List (Chunk σ)} {a : Act} {g : Option (Nat × Bool)} {t : Nat} {e : Ent} (hF : Fr n L K a) (hg : GV a.tmps g) (h : ent g L t = some e) :
    a.tmps.getD t undef = e.v ∧ pOk K e.v e.p := by
  unfold ent at h
  cases hl : look L t with
  | none => simp [hl] at h
  | some x =>
    simp only [hl] at h
    obtain ⟨hm, hs⟩ := look_mem hl
    have hx := hF.ents x hm
    subst hs
    unfold Ent.ok at hx
    cases hxg : x.g with
    | none =>
      simp only [hxg] at h
      injection h with h; subst h
      exact hx (by rw [hxg]; trivial)
    | some cb =>
      obtain ⟨c, b⟩ := cb
      cases g with
      | none => simp [hxg] at h
      | some cb' =>
        obtain ⟨c', b'⟩ := cb'
        simp only [hxg] at h
        cases hq : Nat.beq c c' && (b == b') with
        | false => rw [hq] at h; simp at h
        | true =>
          rw [hq] at h; simp at h; subst h
          simp only [Bool.and_eq_true, beq_iff_eq] at hq
          obtain ⟨h1, rfl⟩ := hq
          have := Nat.eq_of_beq_eq_true h1
          subst this
          exact hx (by rw [hxg]; exact hg)

theorem val_sound {n : Nat} {L : List Ent} {K : List (Chunk σ)} {a : Act} {g : Option (Nat × Bool)} {x : Operand} {v : Value} (hF : Fr n L K a) (hg : GV a.tmps g) (h : val g L x = some v) : a.eval x = v := by
  cases x with
  | tmp t =>
    simp only [val] at h
    cases he : ent g L t with
    | none => simp [he] at h
    | some e => simp only [he] at h; injection h with h; subst h; exact (ent_sound hF hg he).1
  | const u => simpa [val, Act.eval] using h
  | global m => simpa [val, Act.eval] using h
  | func f => simpa [val, Act.eval] using h

theorem prov_sound {n : Nat} {L : List Ent} {K : List (Chunk σ)} {a : Act} {g : Option (Nat × Bool)} {x : Operand} (hF : Fr n L K a) (hg : GV a.tmps g) : pOk K (a.eval x) (prov g L x) := by
  cases x with
  | tmp t =>
    simp only [prov]
    cases he : ent g L t with
    | none => simp [pOk]
    | some e => have := ent_sound hF hg he; simp only [Act.eval]; rw [this.1]; exact this.2
  | const u => simp [prov, pOk]
  | global m => simp [prov, pOk]
  | func f => simp [prov, pOk]

theorem rho_sound {n : Nat} {L : List Ent} {K : List (Chunk σ)} {a : Act} {g : Option (Nat × Bool)} {x : Operand} (hF : Fr n L K a) (hg : GV a.tmps g) (h : (val g L x).isSome = true) : a.eval x = rho g L x := by
  cases hv : val g L x with
  | none => rw [hv] at h; cases h
  | some v => rw [val_sound hF hg hv]; simp [rho, hv]

theorem exec_sound {n : Nat} {L : List Ent} {K : List (Chunk σ)} {a : Act} {g : Option (Nat × Bool)} {o : Oper} (hF : Fr n L K a) (hg : GV a.tmps g) (hs : ∀ cs b, o.op ≠ .select cs b) (h : o.op.operands.all (fun x => (val g L x).isSome) = true) :
    execOp a.eval o = execOp (rho g L) o :=
  execOp_congr o hs fun x hx => rho_sound hF hg (by
    rw [Array.all_eq_true_iff_forall_mem] at h
    exact h x hx)

theorem evalS_sound (P : Program) {α : Type} (s : Sem α) (x : α) (h : evalS P s = some x) : ∀ w, s.run P w = .ok x w := by
  induction s with
  | pure a => intro w; simp only [evalS] at h; injection h with h; subst h; rfl
  | program k ih => intro w; simp only [evalS] at h; exact ih P h w
  | mark m k ih => intro w; simp only [evalS] at h; exact ih h w
  | _ => simp [evalS] at h

/-- A new value in a slot. -/
theorem getD_put {tm : Array Value} {d : Nat} (v : Value) (hd : d < tm.size) (t : Nat) : (tm.setIfInBounds d v).getD t undef = if d = t then v else tm.getD t undef := by
  simp only [Array.getD_eq_getD_getElem?, Array.getElem?_setIfInBounds]
  by_cases h : d = t
  · subst h; simp [hd]
  · simp [h]

theorem del_mem {d : Nat} {L : List Ent} {e : Ent} (h : e ∈ del d L) : e ∈ L ∧ e.s ≠ d ∧ ∀ c b, e.g = some (c, b) → c ≠ d := by
  induction L with
  | nil => simp [del] at h
  | cons x r ih =>
    simp only [del] at h
    cases hb : (Nat.beq x.s d || gIs d x.g) with
    | true => rw [hb] at h; simp at h; have := ih h; exact ⟨by simp [this.1], this.2⟩
    | false =>
      rw [hb] at h
      simp only [cond_false, List.mem_cons] at h
      rcases h with rfl | h
      · simp only [Bool.or_eq_false_iff] at hb
        refine ⟨by simp, fun he => ?_, fun c b hc he => ?_⟩
        · rw [he] at hb; simp at hb
        · rw [hc, he] at hb; simp [gIs] at hb
      · have := ih h; exact ⟨by simp [this.1], this.2⟩

theorem Fr.put {n : Nat} {L : List Ent} {K : List (Chunk σ)} {a : Act} (hF : Fr n L K a) {dst : Option Nat} {g : Option (Nat × Bool)} {v u : Value} {p : Pr}
    (hd : ∀ d, dst = some d → d < n) (hcd : ∀ d c b, dst = some d → g = some (c, b) → c ≠ d) (hu : GV a.tmps g → u = v ∧ pOk K v p) (hu2 : ¬ GV a.tmps g → u = undef := by first | (intro h; exact absurd trivial h) | (intro _; rfl)) : Fr n (addEnt dst g v p L) K (a.put dst u) := by
  cases dst with
  | none => exact hF
  | some d =>
    have hdn := hd d rfl
    rw [← hF.size] at hdn
    refine ⟨hF.kok, hF.defers, by simp [Act.put, hF.size], fun e he hge => ?_, fun e he hge => ?_⟩
    rotate_left
    · simp only [addEnt, List.mem_cons] at he
      simp only [Act.put] at hge ⊢
      rcases he with rfl | he
      · rw [getD_put _ hdn, if_pos rfl]
        refine hu2 fun hgv => hge ?_
        dsimp only
        cases hg : g with
        | none => trivial
        | some cb =>
          obtain ⟨c, b⟩ := cb
          rw [hg] at hgv
          simp only [GV] at hgv ⊢
          rw [getD_put _ hdn, if_neg (fun e => hcd d c b rfl hg e.symm)]
          exact hgv
      · obtain ⟨hm, hne, hgd⟩ := del_mem he
        rw [getD_put _ hdn, if_neg (fun e => hne e.symm)]
        refine hF.skipd e hm fun hgv => hge ?_
        cases hg : e.g with
        | none => trivial
        | some cb =>
          obtain ⟨c, b⟩ := cb
          rw [hg] at hgv
          simp only [GV] at hgv ⊢
          rw [getD_put _ hdn, if_neg (fun e' => hgd c b hg e'.symm)]
          exact hgv
    simp only [addEnt, List.mem_cons] at he
    simp only [Act.put] at hge ⊢
    rcases he with rfl | he
    · rw [getD_put _ hdn, if_pos rfl]
      refine hu ?_
      dsimp only at hge
      cases hg : g with
      | none => trivial
      | some cb =>
        obtain ⟨c, b⟩ := cb
        rw [hg] at hge
        simp only [GV] at hge ⊢
        rw [getD_put _ hdn, if_neg (fun e => hcd d c b rfl hg e.symm)] at hge
        exact hge
    · obtain ⟨hm, hne, hgd⟩ := del_mem he
      rw [getD_put _ hdn, if_neg (fun e => hne e.symm)]
      refine hF.ents e hm ?_
      cases hg : e.g with
      | none => trivial
      | some cb =>
        obtain ⟨c, b⟩ := cb
        rw [hg] at hge
        simp only [GV] at hge ⊢
        rw [getD_put _ hdn, if_neg (fun e' => hgd c b hg e'.symm)] at hge
        exact hge

/-- What a guard asks, and what the machine's own test says. -/
theorem wanted_iff {ops : Array Oper} {o : Oper} {tm : Array Value} {g : Option (Nat × Bool)} (h : gslot ops o = some g) : Region.wanted o (yielded ops tm) = true ↔ GV tm g := by
  unfold gslot at h
  unfold Region.wanted
  cases ho : o.guard with
  | none => rw [ho] at h; simp at h; subst h; simp [GV]
  | some jb =>
    obtain ⟨j, b⟩ := jb
    rw [ho] at h
    simp only at h
    cases hc : (ops[j]?).bind (·.dst) with
    | none => simp [hc] at h
    | some c =>
      simp only [hc, Option.some.injEq] at h
      subst h
      simp only [GV, yielded, hc, Option.bind_some]
      rw [Array.getD_eq_getD_getElem?]
      cases ht : tm[c]? with
      | none => simp [undef]
      | some v => cases v <;> simp

theorem gimp_elim {n : Nat} {L : List Ent} {K : List (Chunk σ)} {a : Act} {g : Option (Nat × Bool)} {p : Prop} (hF : Fr n L K a) (hg : GV a.tmps g) (h : gimp g L p) : p := by
  unfold gimp at h
  cases g with
  | none => exact h
  | some cb =>
    obtain ⟨c, b⟩ := cb
    simp only at h
    split at h
    · rename_i s t pr hl
      obtain ⟨hm, hs⟩ := look_mem hl
      have := (hF.ents _ hm trivial).1
      dsimp only at this hs
      subst hs
      simp only [GV] at hg
      rw [hg] at this
      injection this with this
      exact h this.symm
    · rename_i s gg t pr hl
      obtain ⟨hm, hs⟩ := look_mem hl
      have h1 := hF.ents _ hm
      have h2 := hF.skipd _ hm
      dsimp only [Ent.ok] at h1 h2 hs
      subst hs
      simp only [GV] at hg
      by_cases hgv : GV a.tmps (some gg)
      · have := (h1 hgv).1
        rw [hg] at this
        injection this with this
        exact h this.symm
      · have := h2 hgv
        rw [hg] at this
        cases this
    · exact h
end

/-! ### Chunks as assertions -/
def cellOf (h : Hp) (a : Addr) : Option Value :=
  match h a.block with
  | some (.cells c _ _) => if a.spot.isSome then none else c[a.off]?
  | _ => none

/-- A row of n elements, read in a heap from an address on. -/
def RowAt (h : Hp) (a : Option Addr) (n : Nat) (cols : List Col) : Prop :=
  (∀ c ∈ cols, c.len = n) ∧ (∀ i, i < n → ∃ b, a = some b ∧ ∀ (j : Nat) (c : Col), cols[j]? = some c → cellOf h (b.add (i * cols.length + j)) = some (c.at i)) ∧ n ≤ maxLen

theorem cellOf_mono {h h' : Hp} (hs : ∀ b o, h b = some o → h' b = some o) {a : Addr} {v : Value} (hv : cellOf h a = some v) : cellOf h' a = some v := by
  unfold cellOf at *
  cases hb : h a.block with
  | none => simp [hb] at hv
  | some o => rw [hs _ _ hb]; rw [hb] at hv; exact hv
theorem RowAt.mono {h h' : Hp} (hs : ∀ b o, h b = some o → h' b = some o) {a : Option Addr} {n : Nat} {cols : List Col} (H : RowAt h a n cols) : RowAt h' a n cols :=
  ⟨H.1, fun i hi => let ⟨b, hb, hc⟩ := H.2.1 i hi; ⟨b, hb, fun j c hj => cellOf_mono hs (hc j c hj)⟩, H.2.2⟩
theorem cell_of_sub {h : Hp} {w : World} (hs : h.sub w) {a : Addr} {v : Value} (hv : cellOf h a = some v) : w.cell? a = some v := by
  unfold cellOf at hv
  unfold World.cell?
  cases hb : h a.block with
  | none => simp [hb] at hv
  | some o => rw [hs _ _ hb]; rw [hb] at hv; exact hv

variable {σ : Type} (D : Addr → σ → Asn)

/-- The cells of n elements. -/
def flat (cols : List Col) (n : Nat) : List Value := (List.range n).flatMap fun i => cols.map (·.at i)

theorem flat_len (cols : List Col) : ∀ n, (flat cols n).length = n * cols.length
  | 0 => by simp [flat]
  | n + 1 => by
    have := flat_len cols n
    unfold flat at this ⊢
    rw [List.range_succ, List.flatMap_append, List.length_append, this]
    simp [Nat.succ_mul]
theorem flat_succ (cols : List Col) (n : Nat) : flat cols (n + 1) = flat cols n ++ cols.map (·.at n) := by
  unfold flat
  rw [List.range_succ, List.flatMap_append]
  simp
theorem flat_get {cols : List Col} : ∀ {n i j : Nat} {c : Col}, i < n → cols[j]? = some c → (flat cols n)[i * cols.length + j]? = some (c.at i)
  | 0, i, j, c, hi, _ => by omega
  | n + 1, i, j, c, hi, hj => by
    have hjl := lt_of_get hj
    rw [flat_succ]
    rcases Nat.lt_or_ge i n with h | h
    · rw [List.getElem?_append_left]
      · exact flat_get h hj
      · rw [flat_len]
        have : (i + 1) * cols.length ≤ n * cols.length := Nat.mul_le_mul_right _ h
        rw [Nat.succ_mul] at this
        omega
    · have : i = n := by omega
      subst this
      rw [List.getElem?_append_right (by rw [flat_len]; omega), flat_len, Nat.add_sub_cancel_left, List.getElem?_map, hj]
      rfl

/-- What a map of integers holds. -/
def mlook : List MapEntry → Int → Option Int
  | [], _ => none
  | e :: r, x => match e.key, e.val with
    | .int _ y, .int _ z => bif x == y then some z else mlook r x
    | _, _ => mlook r x
def MapIs (kk vk : IntKind) (es : List MapEntry) (f : Int → Option Int) : Prop :=
  (∀ e ∈ es, ∃ x y, e.key = .int kk x ∧ e.val = .int vk y) ∧ ∀ x, mlook es x = f x

def den (G : Hp) : Chunk σ → Asn
  | .dead => fun _ => True
  | .cells b t cs => pt b (.cells (cs.map (·.1)).toArray t (0, 0))
  | .row a t n cap cols => fun h => (∀ c ∈ cols, c.len = n) ∧ 0 < cols.length ∧
      match a with
      | none => n = 0 ∧ cap = 0
      | some b => ∃ cs : Array Value, h b = some (.cells cs t (0, 0)) ∧ n ≤ cap ∧ cap ≤ maxLen ∧ cs.size = cap * cols.length ∧ cs.toList.take (n * cols.length) = flat cols n
  | .ro a n cap cols => fun _ => RowAt G a n cols ∧ n ≤ cap
  | .roc b t vs => fun _ => G b = some (.cells vs.toArray t (0, 0))
  | .obj p s => D p s
  | .map b kk vk f => fun h => ∃ es clock, h b = some (.map es clock) ∧ MapIs kk vk es.toList f

theorem den_cap {G h : Hp} {a : Option Nat} {t : TypeId} {n cap : Nat} {cols : List Col} (H : den D G (.row a t n cap cols) h) : n ≤ cap := by
  obtain ⟨_, _, h3⟩ := H
  cases a with
  | none => dsimp only at h3; omega
  | some b => obtain ⟨_, _, h4, _⟩ := h3; exact h4
theorem den_row {G h : Hp} {a : Option Nat} {t : TypeId} {n cap : Nat} {cols : List Col} (H : den D G (.row a t n cap cols) h) : RowAt h (a.map fun b => ⟨b, 0, none⟩) n cols := by
  obtain ⟨h1, h2, h3⟩ := H
  refine ⟨h1, fun i hi => ?_, ?_⟩
  rotate_left
  · cases a with
    | none => simp only at h3; omega
    | some b => obtain ⟨cs, h4, h5, h6, _⟩ := h3; exact Nat.le_trans h5 h6
  cases a with
  | none => simp only at h3; omega
  | some b =>
    obtain ⟨cs, h4, h5, h6, h7, h8⟩ := h3
    refine ⟨⟨b, 0, none⟩, rfl, fun j c hj => ?_⟩
    have hjl := lt_of_get hj
    have hg := flat_get hi hj
    rw [← h8, List.getElem?_take] at hg
    have hlt : i * cols.length + j < n * cols.length := by
      have : (i + 1) * cols.length ≤ n * cols.length := Nat.mul_le_mul_right _ hi
      rw [Nat.succ_mul] at this
      omega
    rw [if_pos hlt] at hg
    have hadd : (⟨b, 0, none⟩ : Addr).add (i * cols.length + j) = ⟨b, i * cols.length + j, none⟩ := by
      unfold Addr.add
      split
      · rename_i e; rw [e]
      · simp
    rw [hadd]
    simp only [cellOf, h4, Option.isSome_none, Bool.false_eq_true, if_false]
    simpa using hg

/-- The state, with chunks. -/
def SatK (E : World) (G : Hp) (w : World) (K : List (Chunk σ)) : Prop := Sat E G w (K.map (den D G))

mutual
def iOk (G : Hp) : Value → Info σ → Prop
  | _, .none => True
  | v, .row n cols => ∃ a cap, v = .slice a n cap ∧ RowAt G a n cols ∧ n ≤ cap
  | v, .cells t vs => ∃ b, v = .pointer (some ⟨b, 0, none⟩) ∧ G b = some (.cells vs.toArray t (0, 0))
  | v, .obj _ => ∃ p, v = .pointer (some p)
  | .agg cs, .many is => isOk G cs.toList is
  | .tuple vs, .many is => isOk G vs.toList is
  | .func _ _ caps, .many is => isOk G caps.toList is
  | _, .many _ => False
def isOk (G : Hp) : List Value → List (Info σ) → Prop
  | [], [] => True
  | v :: vs, i :: is => iOk G v i ∧ isOk G vs is
  | _, _ => False
end

def objAs (args : List (Value × Info σ)) : List Asn := match objOf args with | some (p, s) => [D p s] | none => []
/-- The object behind the call. -/
def newAs (args : List (Value × Info σ)) (new : Option σ) : List Asn := match objOf args with
  | some (p, s) => [D p (new.getD s)]
  | none => []


/-- Where what a call hands back points, its slices being the chunks from a place on. -/
def outOk (r : Res σ) : Prop := ∀ (K : List (Chunk σ)) (acs : List (Option Nat × Nat)), acsOk r.rows acs → pOk (K ++ List.zipWith sliceC r.rows acs) (r.out (List.zipWith sliceV r.rows acs)) (r.outp K.length)

/-- **What an entry of the table promises.** -/
def EntryOk (P : Program) (f : FuncId) (e : Entry σ) : Prop :=
  ∀ args c r, e args = some c → r = c.r c.x → outOk r ∧ ((∀ p ∈ r.pre, p) → ∀ E G w, (∀ x ∈ args, iOk G x.1 x.2) → Sat E G w (objAs D args) →
    Calls P f (args.map (·.1)).toArray w fun en w' => ∃ acs : List (Option Nat × Nat), acsOk r.rows acs ∧
      en = .returned (r.out (List.zipWith sliceV r.rows acs)) ∧ Sat E G w' (newAs D args r.new ++ (List.zipWith sliceC r.rows acs).map (den D G)))
def TableOk (P : Program) (T : List (Nat × Entry σ)) : Prop := ∀ x ∈ T, EntryOk D P x.1 x.2

theorem lookT_ok {P : Program} {T : List (Nat × Entry σ)} (h : TableOk D P T) {f : Nat} {e : Entry σ} (he : lookT T f = some e) : EntryOk D P f e := by
  induction T with
  | nil => simp [lookT] at he
  | cons x r ih =>
    obtain ⟨g, e'⟩ := x
    simp only [lookT] at he
    cases hb : Nat.beq g f with
    | true =>
      rw [hb] at he; simp at he; subst he
      have := Nat.eq_of_beq_eq_true hb
      subst this
      exact h (g, e') (by simp)
    | false => rw [hb] at he; simp at he; exact ih (fun x hx => h x (by simp [hx])) he
theorem TableOk.nil (P : Program) : TableOk D P ([] : List (Nat × Entry σ)) := fun _ h => by cases h
theorem TableOk.cons {P : Program} {T : List (Nat × Entry σ)} {f : Nat} {e : Entry σ} (h : EntryOk D P f e) (hT : TableOk D P T) : TableOk D P ((f, e) :: T) := fun x hx => by
  simp only [List.mem_cons] at hx
  rcases hx with rfl | hx
  · exact h
  · exact hT x hx
end Go.Sl
