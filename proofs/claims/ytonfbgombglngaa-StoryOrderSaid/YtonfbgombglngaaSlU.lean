/-
  DERIVED. What a tree of the machine comes to, reckoned: the value, what is needed, the loops' heads that are reached; and that it is so. No program is named.
-/
import Derived.Test.YtonfbgombglngaaSlQ
namespace Go.Sl
open Go.RowKit
variable {σ : Type}

/-- What is needed. -/
inductive NT : Type 1 where
  | t
  | need (p : Prop) (n : NT)
  | br (c : Bool) (a b : NT)
  | bind {α : Type} (x : α) (k : α → NT)
  | and (a b : NT)
def NT.holds : NT → Prop
  | .t => True
  | .need p n => p ∧ (p → n.holds)
  | .br c a b => (c = true → a.holds) ∧ (c = false → b.holds)
  | .bind x k => ∀ a, a = x → (k a).holds
  | .and a b => a.holds ∧ b.holds
def NT.sand (a b : NT) : NT :=
  match a, b with
  | .t, b => b
  | a, .t => a
  | a, b => .and a b
theorem NT.sand_holds {a b : NT} (h : (NT.sand a b).holds) : a.holds ∧ b.holds := by
  unfold NT.sand at h
  split at h
  · exact ⟨trivial, h⟩
  · exact ⟨h, trivial⟩
  · exact h
def NT.sbr (c : Bool) (a b : NT) : NT :=
  match a, b with
  | .t, .t => .t
  | a, b => .br c a b
def NT.sbind {α : Type} (x : α) (k : α → NT) : NT :=
  match k x with
  | .t => .t
  | _ => .bind x k
theorem NT.sbr_holds {c : Bool} {a b : NT} (h : (NT.sbr c a b).holds) : (c = true → a.holds) ∧ (c = false → b.holds) := by
  unfold NT.sbr at h
  split at h
  · exact ⟨fun _ => trivial, fun _ => trivial⟩
  · exact h
theorem NT.sbind_holds {α : Type} {x : α} {k : α → NT} (h : (NT.sbind x k).holds) : (k x).holds := by
  unfold NT.sbind at h
  split at h
  · rename_i e; rw [e]; trivial
  · exact h x rfl

/-- What must be the same. -/
structure Ob (σ : Type) where
  td : List Ab
  v : Value
  L : List Ent
  K : List (Option (Chunk σ))

abbrev BF := Nat → Nat
abbrev GF := Nat → Option Nat
abbrev tl {α : Type} (f : Nat → α) : Nat → α := fun i => f (i + 1)
def cn {α : Type} (a : α) (f : Nat → α) : Nat → α
  | 0 => a
  | i + 1 => f i

section
variable {α : Type}
def Tree.val (lf : Value → Pr → List (Chunk σ) → α) (d : α) : Tree σ → BF → GF → α
  | .ret v p K, _, _ => lf v p K
  | .br c a b, β, γ => bif c then a.val lf d β γ else b.val lf d β γ
  | .need _ t, β, γ => t.val lf d β γ
  | .bind x t, β, γ => (t x).val lf d β γ
  | .fresh t, β, γ => (t (β 0)).val lf d (tl β) γ
  | .freshS t, β, γ => (t (γ 0) (β 0)).val lf d (tl β) (tl γ)
  | .two a _, β, γ => a.val lf d β γ
  | .stuck _ _ _, _, _ => d
/-- Of two orders: the value of the one, or of the other. -/
def Tree.eqv (lf : Value → Pr → List (Chunk σ) → α) (d : α) (left : Bool) : Tree σ → BF → GF → List α
  | .ret _ _ _, _, _ => []
  | .br _ a b, β, γ => a.eqv lf d left β γ ++ b.eqv lf d left β γ
  | .need _ t, β, γ => t.eqv lf d left β γ
  | .bind x t, β, γ => (t x).eqv lf d left β γ
  | .fresh t, β, γ => (t (β 0)).eqv lf d left (tl β) γ
  | .freshS t, β, γ => (t (γ 0) (β 0)).eqv lf d left (tl β) (tl γ)
  | .two a b, β, γ => (bif left then a.val lf d β γ else b.val lf d β γ) :: (a.eqv lf d left β γ ++ b.eqv lf d left β γ)
  | .stuck _ _ _, _, _ => []
end
def Tree.obl (ro : Value → Pr → List (Chunk σ) → Ob σ) (so : List Ab → List Ent → List (Chunk σ) → Ob σ) : Tree σ → BF → GF → List (Ob σ)
  | .ret v p K, _, _ => [ro v p K]
  | .br _ a b, β, γ => a.obl ro so β γ ++ b.obl ro so β γ
  | .need _ t, β, γ => t.obl ro so β γ
  | .bind x t, β, γ => (t x).obl ro so β γ
  | .fresh t, β, γ => (t (β 0)).obl ro so (tl β) γ
  | .freshS t, β, γ => (t (γ 0) (β 0)).obl ro so (tl β) (tl γ)
  | .two a b, β, γ => a.obl ro so β γ ++ b.obl ro so β γ
  | .stuck td L K, _, _ => [so td L K]
def Tree.okb (ro : Value → Pr → List (Chunk σ) → Bool) (so : List Ab → List Ent → List (Chunk σ) → Bool) : Tree σ → BF → GF → Bool
  | .ret v p K, _, _ => ro v p K
  | .br _ a b, β, γ => a.okb ro so β γ && b.okb ro so β γ
  | .need _ t, β, γ => t.okb ro so β γ
  | .bind x t, β, γ => (t x).okb ro so β γ
  | .fresh t, β, γ => (t (β 0)).okb ro so (tl β) γ
  | .freshS t, β, γ => (t (γ 0) (β 0)).okb ro so (tl β) (tl γ)
  | .two a b, β, γ => a.okb ro so β γ && b.okb ro so β γ
  | .stuck td L K, _, _ => so td L K
def Tree.nds : Tree σ → BF → GF → NT
  | .ret _ _ _, _, _ => .t
  | .br c a b, β, γ => .sbr c (a.nds β γ) (b.nds β γ)
  | .need p t, β, γ => .need p (t.nds β γ)
  | .bind x t, β, γ => .sbind x fun a => (t a).nds β γ
  | .fresh t, β, γ => (t (β 0)).nds (tl β) γ
  | .freshS t, β, γ => (t (γ 0) (β 0)).nds (tl β) (tl γ)
  | .two a b, β, γ => .sand (a.nds β γ) (b.nds β γ)
  | .stuck _ _ _, _, _ => .need False .t
def Tree.wp (RQ : Value → Pr → List (Chunk σ) → Prop) (SQ : List Ab → List Ent → List (Chunk σ) → Prop) : Tree σ → BF → GF → Prop
  | .ret v p K, _, _ => RQ v p K
  | .br c a b, β, γ => (c = true → a.wp RQ SQ β γ) ∧ (c = false → b.wp RQ SQ β γ)
  | .need p t, β, γ => p ∧ (p → t.wp RQ SQ β γ)
  | .bind x t, β, γ => ∀ a, a = x → (t a).wp RQ SQ β γ
  | .fresh t, β, γ => (t (β 0)).wp RQ SQ (tl β) γ
  | .freshS t, β, γ => (t (γ 0) (β 0)).wp RQ SQ (tl β) (tl γ)
  | .two a b, β, γ => a.wp RQ SQ β γ ∧ b.wp RQ SQ β γ
  | .stuck td L K, _, _ => SQ td L K

section
variable {α : Type} {lf : Value → Pr → List (Chunk σ) → α} {d : α} {roL roR : Value → Pr → List (Chunk σ) → Ob σ} {soL soR : List Ab → List Ent → List (Chunk σ) → Ob σ} {rb : Value → Pr → List (Chunk σ) → Bool} {sb : List Ab → List Ent → List (Chunk σ) → Bool}
theorem obl_len {ro : Value → Pr → List (Chunk σ) → Ob σ} {so : List Ab → List Ent → List (Chunk σ) → Ob σ} {ro' : Value → Pr → List (Chunk σ) → Ob σ} {so' : List Ab → List Ent → List (Chunk σ) → Ob σ} : ∀ (t : Tree σ) (β : BF) (γ : GF), (t.obl ro so β γ).length = (t.obl ro' so' β γ).length
  | .ret _ _ _, _, _ => rfl
  | .br _ a b, β, γ => by simp only [Tree.obl, List.length_append, obl_len a β γ (ro := ro) (so := so) (ro' := ro') (so' := so'), obl_len b β γ (ro := ro) (so := so) (ro' := ro') (so' := so')]
  | .need _ t, β, γ => by simp only [Tree.obl]; exact obl_len t β γ
  | .bind x t, β, γ => by simp only [Tree.obl]; exact obl_len (t x) β γ
  | .fresh t, β, γ => by simp only [Tree.obl]; exact obl_len (t (β 0)) _ γ
  | .freshS t, β, γ => by simp only [Tree.obl]; exact obl_len (t (γ 0) (β 0)) _ _
  | .two a b, β, γ => by simp only [Tree.obl, List.length_append, obl_len a β γ (ro := ro) (so := so) (ro' := ro') (so' := so'), obl_len b β γ (ro := ro) (so := so) (ro' := ro') (so' := so')]
  | .stuck _ _ _, _, _ => rfl
theorem eqv_len : ∀ (t : Tree σ) (β : BF) (γ : GF), (t.eqv lf d true β γ).length = (t.eqv lf d false β γ).length
  | .ret _ _ _, _, _ => rfl
  | .br _ a b, β, γ => by simp only [Tree.eqv, List.length_append, eqv_len a β γ, eqv_len b β γ]
  | .need _ t, β, γ => by simp only [Tree.eqv]; exact eqv_len t β γ
  | .bind x t, β, γ => by simp only [Tree.eqv]; exact eqv_len (t x) β γ
  | .fresh t, β, γ => by simp only [Tree.eqv]; exact eqv_len (t (β 0)) _ γ
  | .freshS t, β, γ => by simp only [Tree.eqv]; exact eqv_len (t (γ 0) (β 0)) _ _
  | .two a b, β, γ => by simp only [Tree.eqv, List.length_cons, List.length_append, eqv_len a β γ, eqv_len b β γ]
  | .stuck _ _ _, _, _ => rfl
theorem app_inj {α : Type} {a b c d : List α} (h : a ++ b = c ++ d) (hl : a.length = c.length) : a = c ∧ b = d := List.append_inj h hl

/-- **A tree that comes to a value holds**, where each end that has that value does. -/
theorem Tree.val_holds {R : α → Value → Pr → List (Chunk σ) → Prop} {S : List Ab → List Ent → List (Chunk σ) → Prop} (hR : ∀ v p K, roL v p K = roR v p K → rb v p K = true → R (lf v p K) v p K) :
    ∀ (t : Tree σ) (r : α), (∀ β γ, t.val lf d β γ = r) → (∀ β γ, t.eqv lf d true β γ = t.eqv lf d false β γ) → (∀ β γ, t.obl roL soL β γ = t.obl roR soR β γ) → (∀ β γ, t.okb rb sb β γ = true) → (∀ β γ, (t.nds β γ).holds) → t.holds (R r) S
  | .ret v p K, r, hv, _, ho, hb, _ => by
    have := hv (fun _ => 0) (fun _ => none)
    simp only [Tree.val] at this
    subst this
    have ho' := ho (fun _ => 0) (fun _ => none)
    simp only [Tree.obl, List.cons.injEq, and_true] at ho'
    exact hR v p K ho' (hb (fun _ => 0) (fun _ => none))
  | .br c a b, r, hv, he, ho, hb, hn => by
    simp only [Tree.val] at hv
    simp only [Tree.eqv] at he
    simp only [Tree.obl] at ho
    simp only [Tree.okb, Bool.and_eq_true] at hb
    simp only [Tree.nds] at hn
    refine ⟨fun hc => Tree.val_holds hR a r (fun β γ => ?_) (fun β γ => (app_inj (he β γ) (eqv_len a β γ)).1) (fun β γ => (app_inj (ho β γ) (obl_len a β γ)).1) (fun β γ => (hb β γ).1) (fun β γ => (NT.sbr_holds (hn β γ)).1 hc),
      fun hc => Tree.val_holds hR b r (fun β γ => ?_) (fun β γ => (app_inj (he β γ) (eqv_len a β γ)).2) (fun β γ => (app_inj (ho β γ) (obl_len a β γ)).2) (fun β γ => (hb β γ).2) (fun β γ => (NT.sbr_holds (hn β γ)).2 hc)⟩
    · have := hv β γ; rw [hc] at this; exact this
    · have := hv β γ; rw [hc] at this; exact this
  | .need p t, r, hv, he, ho, hb, hn => by
    have hp : p := (hn (fun _ => 0) (fun _ => none)).1
    exact ⟨hp, fun _ => Tree.val_holds hR t r hv he ho hb fun β γ => (hn β γ).2 hp⟩
  | .bind x t, r, hv, he, ho, hb, hn => by
    intro a ha
    subst ha
    exact Tree.val_holds hR (t a) r hv he ho hb fun β γ => NT.sbind_holds (k := fun x => (t x).nds β γ) (hn β γ)
  | .fresh t, r, hv, he, ho, hb, hn => fun b => Tree.val_holds hR (t b) r (fun β γ => hv (cn b β) γ) (fun β γ => he (cn b β) γ) (fun β γ => ho (cn b β) γ) (fun β γ => hb (cn b β) γ) (fun β γ => hn (cn b β) γ)
  | .freshS t, r, hv, he, ho, hb, hn => fun a c => Tree.val_holds hR (t a c) r (fun β γ => hv (cn c β) (cn a γ)) (fun β γ => he (cn c β) (cn a γ)) (fun β γ => ho (cn c β) (cn a γ)) (fun β γ => hb (cn c β) (cn a γ)) (fun β γ => hn (cn c β) (cn a γ))
  | .two a b, r, hv, he, ho, hb, hn => by
    simp only [Tree.val] at hv
    simp only [Tree.eqv, cond_true, cond_false, List.cons.injEq] at he
    simp only [Tree.obl] at ho
    simp only [Tree.okb, Bool.and_eq_true] at hb
    simp only [Tree.nds] at hn
    exact ⟨Tree.val_holds hR a r hv (fun β γ => (app_inj (he β γ).2 (eqv_len a β γ)).1) (fun β γ => (app_inj (ho β γ) (obl_len a β γ)).1) (fun β γ => (hb β γ).1) (fun β γ => (NT.sand_holds (hn β γ)).1),
      Tree.val_holds hR b r (fun β γ => ((he β γ).1.symm.trans (hv β γ))) (fun β γ => (app_inj (he β γ).2 (eqv_len a β γ)).2) (fun β γ => (app_inj (ho β γ) (obl_len a β γ)).2) (fun β γ => (hb β γ).2) (fun β γ => (NT.sand_holds (hn β γ)).2)⟩
  | .stuck td L K, r, _, _, _, _, hn => (hn (fun _ => 0) (fun _ => none)).1.elim

theorem Tree.wp_holds {RQ : Value → Pr → List (Chunk σ) → Prop} {SQ : List Ab → List Ent → List (Chunk σ) → Prop} {R : Value → Pr → List (Chunk σ) → Prop} {S : List Ab → List Ent → List (Chunk σ) → Prop}
    (hR : ∀ v p K, roL v p K = roR v p K → rb v p K = true → RQ v p K → R v p K) (hS : ∀ td L K, soL td L K = soR td L K → sb td L K = true → SQ td L K → S td L K) :
    ∀ (t : Tree σ), (∀ β γ, t.wp RQ SQ β γ) → (∀ β γ, t.obl roL soL β γ = t.obl roR soR β γ) → (∀ β γ, t.okb rb sb β γ = true) → t.holds R S
  | .ret v p K, hw, ho, hb => by
    have ho' := ho (fun _ => 0) (fun _ => none)
    simp only [Tree.obl, List.cons.injEq, and_true] at ho'
    exact hR v p K ho' (hb (fun _ => 0) (fun _ => none)) (hw (fun _ => 0) (fun _ => none))
  | .br c a b, hw, ho, hb => by
    simp only [Tree.obl] at ho
    simp only [Tree.okb, Bool.and_eq_true] at hb
    exact ⟨fun hc => Tree.wp_holds hR hS a (fun β γ => (hw β γ).1 hc) (fun β γ => (app_inj (ho β γ) (obl_len a β γ)).1) (fun β γ => (hb β γ).1),
      fun hc => Tree.wp_holds hR hS b (fun β γ => (hw β γ).2 hc) (fun β γ => (app_inj (ho β γ) (obl_len a β γ)).2) (fun β γ => (hb β γ).2)⟩
  | .need p t, hw, ho, hb => by
    have hp : p := (hw (fun _ => 0) (fun _ => none)).1
    exact ⟨hp, fun _ => Tree.wp_holds hR hS t (fun β γ => (hw β γ).2 hp) ho hb⟩
  | .bind x t, hw, ho, hb => by
    intro a ha
    subst ha
    exact Tree.wp_holds hR hS (t a) (fun β γ => hw β γ a rfl) ho hb
  | .fresh t, hw, ho, hb => fun b => Tree.wp_holds hR hS (t b) (fun β γ => hw (cn b β) γ) (fun β γ => ho (cn b β) γ) (fun β γ => hb (cn b β) γ)
  | .freshS t, hw, ho, hb => fun a c => Tree.wp_holds hR hS (t a c) (fun β γ => hw (cn c β) (cn a γ)) (fun β γ => ho (cn c β) (cn a γ)) (fun β γ => hb (cn c β) (cn a γ))
  | .two a b, hw, ho, hb => by
    simp only [Tree.obl] at ho
    simp only [Tree.okb, Bool.and_eq_true] at hb
    exact ⟨Tree.wp_holds hR hS a (fun β γ => (hw β γ).1) (fun β γ => (app_inj (ho β γ) (obl_len a β γ)).1) (fun β γ => (hb β γ).1),
      Tree.wp_holds hR hS b (fun β γ => (hw β γ).2) (fun β γ => (app_inj (ho β γ) (obl_len a β γ)).2) (fun β γ => (hb β γ).2)⟩
  | .stuck td L K, hw, ho, hb => by
    have ho' := ho (fun _ => 0) (fun _ => none)
    simp only [Tree.obl, List.cons.injEq, and_true] at ho'
    exact hS td L K ho' (hb (fun _ => 0) (fun _ => none)) (hw (fun _ => 0) (fun _ => none))
end
end Go.Sl
