/-
  DERIVED. Contracts whose proofs are reckoned: what is handed in, the entries of the table, functions without loops, functions with loops. No program is named.
-/
import Derived.Test.YtonfbgombglngaaSlU
namespace Go.Sl
open Go.RowKit
variable {σ : Type}

mutual
def Sh.isArg : Sh σ → Bool
  | .i _ => true
  | .b => true
  | .ro ks => !ks.isEmpty
  | .fn _ => true
  | .agg l => isArgs l
  | _ => false
def isArgs : List (Sh σ) → Bool
  | [] => true
  | s :: l => s.isArg && isArgs l
end
def colsFit : List (Option IntKind) → List Col → Bool
  | [], [] => true
  | some k :: ks, .ints k' _ :: cols => (match decEq k k' with | .isTrue _ => true | .isFalse _ => false) && colsFit ks cols
  | none :: ks, .bools _ :: cols => colsFit ks cols
  | _, _ => false
def noneI : List Value → List (Info σ)
  | [] => []
  | _ :: r => .none :: noneI r
mutual
/-- What is handed in, read off what is known of it. -/
def Sh.dA : Sh σ → Value → Info σ → Option (List (Cm σ))
  | .i k, .int k' x, _ => match decEq k k' with
    | .isTrue _ => some [.i x]
    | .isFalse _ => none
  | .b, .bool x, _ => some [.b x]
  | .ro ks, _, .row _ cols => bif colsFit ks cols then some (colsCm ks cols) else none
  | .fn f, .func (.func g) ⟨[]⟩ ⟨[]⟩, _ => bif Nat.beq f g then some [] else none
  | .agg l, .agg vs, .none => dAs l vs.toList (noneI vs.toList)
  | .agg l, .agg vs, .many is => dAs l vs.toList is
  | _, _, _ => none
def dAs : List (Sh σ) → List Value → List (Info σ) → Option (List (Cm σ))
  | [], [], [] => some []
  | s :: l, v :: vs, i :: is => match s.dA v i, dAs l vs is with
    | some a, some b => some (a ++ b)
    | _, _ => none
  | _, _, _ => none
end
mutual
/-- Slices are no longer than they can be. -/
def Sh.bd : Sh σ → List (Cm σ) → Prop
  | .ro ks, cs => lenC (colsOf ks cs) ≤ 9223372036854775807
  | .agg l, cs => bds l cs
  | _, _ => True
def bds : List (Sh σ) → List (Cm σ) → Prop
  | [], _ => True
  | s :: l, cs => s.bd cs ∧ bds l (cs.drop s.nC)
end

theorem fitsC_app : ∀ {ks ks' : List (Kd σ)} {cs cs' : List (Cm σ)}, fitsC ks cs = true → fitsC ks' cs' = true → fitsC (ks ++ ks') (cs ++ cs') = true
  | [], _, [], _, _, h => h
  | [], _, _ :: _, _, h, _ => by simp [fitsC] at h
  | _ :: _, _, [], _, h, _ => by simp [fitsC] at h
  | k :: ks, ks', c :: cs, cs', h, h' => by
    simp only [fitsC, Bool.and_eq_true, List.cons_append] at h ⊢
    exact ⟨h.1, fitsC_app h.2 h'⟩
theorem colsFit_ok : ∀ {ks : List (Option IntKind)} {cols : List Col}, colsFit ks cols = true → (∀ rest : List (Cm σ), colsOf ks (colsCm ks cols ++ rest) = cols) ∧ fitsC (σ := σ) (ks.map colK) (colsCm ks cols) = true ∧ (colsCm (σ := σ) ks cols).length = ks.length
  | [], [], _ => ⟨fun _ => rfl, rfl, rfl⟩
  | [], _ :: _, h => by simp [colsFit] at h
  | some k :: ks, [], h => by simp [colsFit] at h
  | none :: ks, [], h => by simp [colsFit] at h
  | some k :: ks, .ints k' xs :: cols, h => by
    simp only [colsFit, Bool.and_eq_true] at h
    obtain ⟨h0, h⟩ := h
    split at h0
    · rename_i e _; subst e
      obtain ⟨h1, h2, h3⟩ := colsFit_ok h
      refine ⟨fun rest => ?_, ?_, ?_⟩
      · simp only [colsCm, List.headD_cons, List.tail_cons, List.cons_append, colsOf, Cm.liOf, h1 rest]
      · simp only [colsCm, List.headD_cons, List.tail_cons, List.map_cons, fitsC, colK, Kd.fits, h2, Bool.and_self]
      · simp only [colsCm, List.headD_cons, List.tail_cons, List.length_cons, h3]
    · cases h0
  | some k :: ks, .bools _ :: _, h => by simp [colsFit] at h
  | some k :: ks, .vals _ :: _, h => by simp [colsFit] at h
  | none :: ks, .bools xs :: cols, h => by
    simp only [colsFit] at h
    obtain ⟨h1, h2, h3⟩ := colsFit_ok h
    refine ⟨fun rest => ?_, ?_, ?_⟩
    · simp only [colsCm, List.headD_cons, List.tail_cons, List.cons_append, colsOf, Cm.lbOf, h1 rest]
    · simp only [colsCm, List.headD_cons, List.tail_cons, List.map_cons, fitsC, colK, Kd.fits, h2, Bool.and_self]
    · simp only [colsCm, List.headD_cons, List.tail_cons, List.length_cons, h3]
  | none :: ks, .ints _ _ :: _, h => by simp [colsFit] at h
  | none :: ks, .vals _ :: _, h => by simp [colsFit] at h

theorem tpK_len : ∀ (l : List (Tp σ)) , (tpK l).length = (l.map fun t => t.K.length).sum
  | [] => rfl
  | t :: r => by simp [tpK, tpK_len r]
theorem rosOk_app {G : Hp} : ∀ {a b : List (Chunk σ)}, rosOk G a → rosOk G b → rosOk G (a ++ b)
  | [], _, _, h => h
  | c :: cs, b, h, h' => ⟨h.1, rosOk_app h.2 h'⟩
theorem noCells_app : ∀ {a b : List (Chunk σ)}, noCells a = true → noCells b = true → noCells (a ++ b) = true
  | [], _, _, h => h
  | c :: cs, b, h, h' => by
    cases c <;> simp only [noCells, List.cons_append] at h ⊢ <;> first | exact noCells_app h h' | cases h

def isObjI : Value → Info σ → Bool
  | .pointer (some _), .obj _ => true
  | _, _ => false
theorem objsGo_nil : ∀ {vs : List Value} {is : List (Info σ)}, (List.zipWith isObjI vs is).all (!·) = true → objsV.go vs is = []
  | [], [], _ => by simp [objsV.go]
  | [], _ :: _, _ => by simp [objsV.go]
  | _ :: _, [], _ => by simp [objsV.go]
  | v :: vs, i :: is, h => by
    simp only [List.zipWith_cons_cons, List.all_cons, Bool.and_eq_true] at h
    have ih := objsGo_nil h.2
    unfold objsV.go
    split
    · rename_i e1 e2
      simp only [List.cons.injEq] at e1 e2
      obtain ⟨rfl, rfl⟩ := e1
      obtain ⟨rfl, rfl⟩ := e2
      simp [isObjI] at h
    · rename_i e1 e2
      simp only [List.cons.injEq] at e1 e2
      obtain ⟨rfl, rfl⟩ := e1
      obtain ⟨rfl, rfl⟩ := e2
      exact ih
    · rfl

mutual
theorem Sh.tp_ok (ad : Nat → Ad) : ∀ (s : Sh σ) (k j : Nat) (cs : List (Cm σ)), s.isArg = true → (s.tp ad k j cs).K.length = s.nK ∧ noCells (s.tp ad k j cs).K = true ∧ ∀ K0 K2 : List (Chunk σ), K0.length = k → pOk (K0 ++ (s.tp ad k j cs).K ++ K2) (s.tp ad k j cs).v (s.tp ad k j cs).p
  | .i _, k, j, cs, _ => ⟨rfl, rfl, fun _ _ _ => pOk_no⟩
  | .b, k, j, cs, _ => ⟨rfl, rfl, fun _ _ _ => pOk_no⟩
  | .fn _, k, j, cs, _ => ⟨rfl, rfl, fun _ _ _ => pOk_no⟩
  | .ro ks, k, j, cs, _ => ⟨rfl, rfl, fun K0 K2 hk => pOk_pt.2 ⟨.ro (ad j).a (lenC (colsOf ks cs)) (ad j).c (colsOf ks cs), by subst hk; rw [List.append_assoc, List.getElem?_append_right (Nat.le_refl _), Nat.sub_self]; rfl, rfl⟩⟩
  | .agg l, k, j, cs, h => by
    obtain ⟨h1, h2, h3⟩ := tps_ok ad l k j cs h
    refine ⟨h1, h2, fun K0 K2 hk => ?_⟩
    simp only [Sh.tp]
    exact mkMany_agg (h3 K0 K2 hk)
  | .skip, _, _, _, h => by simp [Sh.isArg] at h
  | .ic _ _, _, _, _, h => by simp [Sh.isArg] at h
  | .bc _, _, _, _, h => by simp [Sh.isArg] at h
  | .tup _, _, _, _, h => by simp [Sh.isArg] at h
  | .roc _, _, _, _, h => by simp [Sh.isArg] at h
  | .own _ _, _, _, _, h => by simp [Sh.isArg] at h
  | .new _ _, _, _, _, h => by simp [Sh.isArg] at h
  | .obj _, _, _, _, h => by simp [Sh.isArg] at h
  | .objc _ _, _, _, _, h => by simp [Sh.isArg] at h
  | .nobj _, _, _, _, h => by simp [Sh.isArg] at h
  | .box _ _, _, _, _, h => by simp [Sh.isArg] at h
  | .mp _ _, _, _, _, h => by simp [Sh.isArg] at h
  | .ago _, _, _, _, h => by simp [Sh.isArg] at h
  | .agc _ _, _, _, _, h => by simp [Sh.isArg] at h
  | .ags _ _, _, _, _, h => by simp [Sh.isArg] at h
theorem tps_ok (ad : Nat → Ad) : ∀ (l : List (Sh σ)) (k j : Nat) (cs : List (Cm σ)), isArgs l = true → (tpK (tps ad l k j cs)).length = nKs l ∧ noCells (tpK (tps ad l k j cs)) = true ∧ ∀ K0 K2 : List (Chunk σ), K0.length = k → psOk (K0 ++ tpK (tps ad l k j cs) ++ K2) (tpV (tps ad l k j cs)) (tpP (tps ad l k j cs))
  | [], _, _, _, _ => ⟨rfl, rfl, fun _ _ _ => psOk_nil⟩
  | s :: l, k, j, cs, h => by
    simp only [isArgs, Bool.and_eq_true] at h
    obtain ⟨h1, h2, h3⟩ := Sh.tp_ok ad s k j cs h.1
    obtain ⟨g1, g2, g3⟩ := tps_ok ad l (k + s.nK) (j + s.nA) (cs.drop s.nC) h.2
    simp only [tps, tpK, tpV, tpP, nKs]
    refine ⟨by rw [List.length_append, h1, g1], noCells_app h2 g2, fun K0 K2 hk => psOk_cons ?_ ?_⟩
    · have := h3 K0 (tpK (tps ad l (k + s.nK) (j + s.nA) (cs.drop s.nC)) ++ K2) hk
      simpa [List.append_assoc] using this
    · have := g3 (K0 ++ (s.tp ad k j cs).K) K2 (by rw [List.length_append, hk, h1])
      simpa [List.append_assoc] using this
end

theorem iOk_noneI {G : Hp} : ∀ vs : List Value, isOk (σ := σ) G vs (noneI vs)
  | [] => by simp [noneI, isOk]
  | v :: vs => by simp only [noneI, isOk]; exact ⟨by simp [iOk], iOk_noneI vs⟩
theorem adl_app {a b : List Ad} {ad : Nat → Ad} {j : Nat} (h : ∀ (m : Nat) x, (a ++ b)[m]? = some x → ad (j + m) = x) : (∀ (m : Nat) x, a[m]? = some x → ad (j + m) = x) ∧ ∀ (m : Nat) x, b[m]? = some x → ad (j + a.length + m) = x := by
  refine ⟨fun m x hm => h m x ?_, fun m x hm => ?_⟩
  · rw [List.getElem?_append_left (lt_of_get hm)]; exact hm
  · rw [Nat.add_assoc]; exact h _ x (by rw [List.getElem?_append_right (by omega)]; simpa using hm)

def ArgIs (G : Hp) (s : Sh σ) (v : Value) (i : Info σ) (cs : List (Cm σ)) : Prop :=
  fitsC s.kd cs = true ∧ cs.length = s.nC ∧ isObjI v i = false ∧ objsV v i = [] ∧ (∀ rest, s.bd (cs ++ rest)) ∧ ∃ adl : List Ad, adl.length = s.nA ∧ ∀ (ad : Nat → Ad) (k j : Nat) (rest : List (Cm σ)), (∀ (m : Nat) a, adl[m]? = some a → ad (j + m) = a) → (s.tp ad k j (cs ++ rest)).v = v ∧ rosOk G (s.tp ad k j (cs ++ rest)).K
def ArgOk (G : Hp) (s : Sh σ) : Prop := ∀ (v : Value) (i : Info σ) (cs : List (Cm σ)), s.isArg = true → s.dA v i = some cs → iOk G v i → ArgIs G s v i cs
theorem dAs_ok {G : Hp} : ∀ (l : List (Sh σ)), (∀ s ∈ l, ArgOk G s) → ∀ (vs : List Value) (is : List (Info σ)) (cs : List (Cm σ)), isArgs l = true → dAs l vs is = some cs → isOk G vs is →
    fitsC (kds l) cs = true ∧ cs.length = nCs l ∧ (List.zipWith isObjI vs is).all (!·) = true ∧ objsOf (List.zip vs is) = [] ∧ (∀ rest, bds l (cs ++ rest)) ∧ ∃ adl : List Ad, adl.length = nAs l ∧ ∀ (ad : Nat → Ad) (k j : Nat) (rest : List (Cm σ)), (∀ (m : Nat) a, adl[m]? = some a → ad (j + m) = a) → tpV (tps ad l k j (cs ++ rest)) = vs ∧ rosOk G (tpK (tps ad l k j (cs ++ rest)))
  | [], _, [], [], cs, _, h, _ => by
    simp only [dAs, Option.some.injEq] at h; subst h
    exact ⟨rfl, rfl, rfl, rfl, fun _ => trivial, [], rfl, fun _ _ _ _ _ => ⟨rfl, trivial⟩⟩
  | [], _, _ :: _, _, _, _, h, _ => by simp [dAs] at h
  | [], _, [], _ :: _, _, _, h, _ => by simp [dAs] at h
  | _ :: _, _, [], _, _, _, h, _ => by simp [dAs] at h
  | _ :: _, _, _ :: _, [], _, _, h, _ => by simp [dAs] at h
  | s :: l, H, v :: vs, i :: is, cs, ha, h, hi => by
    simp only [isArgs, Bool.and_eq_true] at ha
    simp only [isOk] at hi
    simp only [dAs] at h
    split at h
    · rename_i a b e1 e2
      injection h with h; subst h
      obtain ⟨h1, h2, h3, h4, h5, adl, h6, h7⟩ := H s (by simp) v i a ha.1 e1 hi.1
      obtain ⟨g1, g2, g3, g4, g5, adl', g6, g7⟩ := dAs_ok l (fun s hs => H s (by simp [hs])) vs is b ha.2 e2 hi.2
      have ed : ∀ rest : List (Cm σ), (a ++ b ++ rest).drop s.nC = b ++ rest := fun rest => by
        rw [List.append_assoc, ← h2]; exact List.drop_left
      refine ⟨fitsC_app h1 g1, by rw [List.length_append, h2, g2, nCs], by simp only [List.zipWith_cons_cons, List.all_cons, h3, g3]; rfl, by simp only [List.zip_cons_cons, objsOf, h4, g4]; rfl, fun rest => ⟨by rw [List.append_assoc]; exact h5 _, by rw [ed]; exact g5 rest⟩, adl ++ adl', by rw [List.length_append, h6, g6, nAs], fun ad k j rest hm => ?_⟩
      obtain ⟨m1, m2⟩ := adl_app hm
      rw [h6] at m2
      obtain ⟨x1, x2⟩ := h7 ad k j (b ++ rest) m1
      obtain ⟨y1, y2⟩ := g7 ad (k + s.nK) (j + s.nA) rest m2
      simp only [tps, tpV, tpK, ed]
      rw [List.append_assoc]
      exact ⟨by rw [x1, y1], rosOk_app x2 y2⟩
    · cases h
theorem agg_ok {G : Hp} {l : List (Sh σ)} (H : ∀ s ∈ l, ArgOk G s) : ArgOk G (.agg l) := by
  intro v i cs ha h hi
  have key : ∀ (vs : Array Value) is, v = .agg vs → dAs l vs.toList is = some cs → isOk G vs.toList is → (objsV v i = objsV.go vs.toList is ∨ objsV v i = []) → ArgIs G (.agg l) v i cs := fun vs is hv hq hj ho => by
    subst hv
    obtain ⟨h1, h2, h3, _, h5, adl, h6, h7⟩ := dAs_ok l H vs.toList is cs ha hq hj
    refine ⟨h1, h2, by simp [isObjI], ?_, h5, adl, h6, fun ad k j rest hm => ?_⟩
    · rcases ho with ho | ho
      · rw [ho]; exact objsGo_nil h3
      · exact ho
    · obtain ⟨g1, g2⟩ := h7 ad k j rest hm
      refine ⟨?_, g2⟩
      simp only [Sh.tp, g1]
  cases v with
  | agg vs => cases i with
    | none => exact key vs _ rfl (by simpa [Sh.dA] using h) (iOk_noneI _) (.inr (by simp [objsV]))
    | many is => exact key vs is rfl (by simpa [Sh.dA] using h) (by simpa [iOk] using hi) (.inl (by simp [objsV]))
    | _ => simp [Sh.dA] at h
  | _ => simp [Sh.dA] at h
theorem i_ok {G : Hp} {k : IntKind} : ArgOk (σ := σ) G (.i k) := by
  intro v i cs _ h _
  cases v <;> simp only [Sh.dA] at h <;> first | cases h | skip
  rename_i k' x
  split at h
  · rename_i e _; subst e
    injection h with h; subst h
    exact ⟨rfl, rfl, by simp [isObjI], by simp [objsV], fun _ => trivial, [], rfl, fun _ _ _ _ _ => ⟨rfl, trivial⟩⟩
  · cases h
theorem b_ok {G : Hp} : ArgOk (σ := σ) G .b := by
  intro v i cs _ h _
  cases v <;> simp only [Sh.dA] at h <;> first | cases h | skip
  exact ⟨rfl, rfl, by simp [isObjI], by simp [objsV], fun _ => trivial, [], rfl, fun _ _ _ _ _ => ⟨rfl, trivial⟩⟩
theorem ro_ok {G : Hp} {ks : List (Option IntKind)} : ArgOk (σ := σ) G (.ro ks) := by
  intro v i cs hks h hi
  cases i <;> simp only [Sh.dA] at h <;> first | cases h | skip
  rename_i n cols
  cases hb : colsFit ks cols with
  | false => rw [hb] at h; cases h
  | true =>
    rw [hb] at h
    simp only [cond_true] at h
    injection h with h; subst h
    obtain ⟨h1, h2, h3⟩ := colsFit_ok (σ := σ) hb
    simp only [iOk] at hi
    obtain ⟨a, c, rfl, hr, hcap⟩ := hi
    have hl : lenC cols = n := by
      cases cols with
      | nil => cases ks <;> first | (simp [Sh.isArg] at hks; done) | (rename_i q _; cases q <;> simp [colsFit] at hb)
      | cons c0 cr => exact hr.1 c0 (by simp)
    refine ⟨h2, by rw [h3]; rfl, by cases a <;> simp [isObjI], by cases a <;> simp [objsV], fun rest => ?_, [{ Ad.z with a := a, c := c }], rfl, fun ad k j rest hm => ?_⟩
    · show lenC (colsOf ks _) ≤ _
      rw [h1 rest, hl]; exact hr.2.2
    · have := hm 0 _ rfl
      rw [Nat.add_zero] at this
      simp only [Sh.tp, this, h1 rest, hl]
      exact ⟨trivial, ⟨hr, hcap⟩, trivial⟩
theorem fn_ok {G : Hp} {f : Nat} : ArgOk (σ := σ) G (.fn f) := by
  intro v i cs _ h _
  cases v with
  | func fn a b => cases fn with
    | func g =>
      obtain ⟨a⟩ := a
      obtain ⟨b⟩ := b
      cases a <;> cases b <;> simp only [Sh.dA] at h <;> try (cases h; done)
      cases hb : Nat.beq f g with
      | false => rw [hb] at h; cases h
      | true =>
        rw [hb] at h
        simp only [cond_true] at h
        injection h with h; subst h
        have := Nat.eq_of_beq_eq_true hb
        subst this
        exact ⟨rfl, rfl, by simp [isObjI], by simp [objsV], fun _ => trivial, [], rfl, fun _ _ _ _ _ => ⟨rfl, trivial⟩⟩
    | _ => simp [Sh.dA] at h
  | _ => simp [Sh.dA] at h
theorem Sh.dA_ok {G : Hp} : ∀ (s : Sh σ), ArgOk G s
  | .i k => i_ok
  | .b => b_ok
  | .fn f => fn_ok
  | .ro ks => ro_ok
  | .agg l => agg_ok fun s _ => Sh.dA_ok s
  | .skip => fun _ _ _ h => by simp [Sh.isArg] at h
  | .ic _ _ => fun _ _ _ h => by simp [Sh.isArg] at h
  | .bc _ => fun _ _ _ h => by simp [Sh.isArg] at h
  | .tup _ => fun _ _ _ h => by simp [Sh.isArg] at h
  | .roc _ => fun _ _ _ h => by simp [Sh.isArg] at h
  | .own _ _ => fun _ _ _ h => by simp [Sh.isArg] at h
  | .new _ _ => fun _ _ _ h => by simp [Sh.isArg] at h
  | .obj _ => fun _ _ _ h => by simp [Sh.isArg] at h
  | .objc _ _ => fun _ _ _ h => by simp [Sh.isArg] at h
  | .nobj _ => fun _ _ _ h => by simp [Sh.isArg] at h
  | .box _ _ => fun _ _ _ h => by simp [Sh.isArg] at h
  | .mp _ _ => fun _ _ _ h => by simp [Sh.isArg] at h
  | .ago _ => fun _ _ _ h => by simp [Sh.isArg] at h
  | .agc _ _ => fun _ _ _ h => by simp [Sh.isArg] at h
  | .ags _ _ => fun _ _ _ h => by simp [Sh.isArg] at h
end Go.Sl
