/-
  DERIVED. Contracts whose proofs are reckoned: loops' heads. No program is named.
-/
import Derived.Test.YtonfbgombglngaaSlX
namespace Go.Sl
open Go.RowKit
variable {σ : Type}

/-- A loop's head (or a place in a list of operations): what is left to do behind it, the slots that live there, what stands in them. -/
structure Hd (σ : Type) where
  ops : Option Nat
  p : List Nat
  td : List Ab
  slots : List Nat
  shs : List (Sh σ)
def Hd.tds (h : Hd σ) : List Ab :=
  match h.ops with
  | none => .code (0 :: h.p) :: .again h.p :: h.td
  | some i => .ops h.p i :: h.td
def entsOf : List Nat → List (Tp σ) → List Ent
  | s :: ss, t :: ts => ⟨s, none, t.v, t.p⟩ :: entsOf ss ts
  | _, _ => []
def Hd.L (h : Hd σ) (ad : Nat → Ad) (cs : List (Cm σ)) : List Ent := entsOf h.slots (tps ad h.shs 0 0 cs)
def Hd.K (h : Hd σ) (ad : Nat → Ad) (cs : List (Cm σ)) : List (Chunk σ) := tpK (tps ad h.shs 0 0 cs)
@[reducible] def Hd.kd (h : Hd σ) : List (Kd σ) := kds h.shs

/-- Slices that are nil, where a slice of one's own stands. -/
def isNil (v : Value) (p : Pr) : Bool :=
  match p with
  | .no => match v with
    | .slice none 0 0 => true
    | _ => false
  | _ => false
def nilCells (k : Nat) : Nat → List (Sh σ) → List (Chunk σ) → List (Chunk σ)
  | off, .own t ks :: l, K => match K[k]? with
    | some (.cells _ _ cs) => match cs[off]? with
      | some x => bif isNil x.1 x.2 && nilRow (σ := σ) (.row none t 0 0 (colsOf (σ := σ) ks [])) then nilCells k (off + 1) l (setNilC K k off ++ [.row none t 0 0 (colsOf (σ := σ) ks [])]) else nilCells k (off + 1) l K
      | _ => nilCells k (off + 1) l K
    | _ => nilCells k (off + 1) l K
  | off, _ :: l, K => nilCells k (off + 1) l K
  | _, [], K => K
def nil1 (s : Nat) (sh : Sh σ) (L : List Ent) (K : List (Chunk σ)) : List Ent × List (Chunk σ) :=
  match sh with
  | .own t ks => match look L s with
    | some e => bif isNil e.v e.p && nilRow (σ := σ) (.row none t 0 0 (colsOf (σ := σ) ks [])) then (setNil s K.length L, K ++ [.row none t 0 0 (colsOf (σ := σ) ks [])]) else (L, K)
    | _ => (L, K)
  | .box _ l => match look L s with
    | some e => match e.p with
      | .pt k (.cell 0) => (L, nilCells k 0 l K)
      | _ => (L, K)
    | _ => (L, K)
  | _ => (L, K)
def nils : List Nat → List (Sh σ) → List Ent → List (Chunk σ) → List Ent × List (Chunk σ)
  | s :: ss, sh :: shs, L, K => match nil1 s sh L K with
    | (L', K') => nils ss shs L' K'
  | _, _, L, K => (L, K)
def vsAt (L : List Ent) : List Nat → List Value
  | [] => []
  | s :: r => (match look L s with | some e => e.v | none => undef) :: vsAt L r
def psAt (L : List Ent) : List Nat → List Pr
  | [] => []
  | s :: r => (match look L s with | some e => e.p | none => .no) :: psAt L r
def eqNs : List Nat → List Nat → Bool
  | [], [] => true
  | a :: r, b :: s => Nat.beq a b && eqNs r s
  | _, _ => false
def Hd.at (h : Hd σ) (td : List Ab) : Bool :=
  match h.ops, td with
  | none, .code q :: _ => eqNs h.p q
  | none, .again q :: _ => eqNs h.p q
  | some i, .ops q k :: _ => eqNs h.p q && Nat.beq i k
  | _, _ => false
def Hd.leafTd (h : Hd σ) (td : List Ab) : List Ab :=
  match h.ops, td with
  | some i, _ => .ops h.p i :: h.td
  | none, .again _ :: _ => .again h.p :: h.td
  | none, _ => .code h.p :: h.td
def findH : List (Hd σ) → Nat → List Ab → Option (Nat × Hd σ)
  | [], _, _ => none
  | h :: r, j, td => bif h.at td then some (j, h) else findH r (j + 1) td
theorem findH_get : ∀ {hs : List (Hd σ)} {m : Nat} {td : List Ab} {j : Nat} {h : Hd σ}, findH hs m td = some (j, h) → ∃ i, j = m + i ∧ hs[i]? = some h
  | [], _, _, _, _, h => by simp [findH] at h
  | h0 :: r, m, td, j, h, he => by
    simp only [findH] at he
    cases hb : h0.at td with
    | true => rw [hb] at he; simp at he; exact ⟨0, by omega, by simp [he.2]⟩
    | false =>
      rw [hb] at he
      obtain ⟨i, h1, h2⟩ := findH_get (by simpa using he)
      exact ⟨i + 1, by omega, by simpa using h2⟩
def Hd.dec (h : Hd σ) (L : List Ent) (K : List (Chunk σ)) : Dc σ := dcs K h.shs (vsAt L h.slots) (psAt L h.slots)
def hdL (h : Hd σ) (td : List Ab) (L : List Ent) (K : List (Chunk σ)) : Ob σ :=
  ⟨td, undef, renL (fixIs 0 (h.dec L K).is) (pickL h.slots L), (renK (fixIs 0 (h.dec L K).is) K).map some⟩
def hdR (h : Hd σ) (td : List Ab) (L : List Ent) (K : List (Chunk σ)) : Ob σ :=
  ⟨h.leafTd td, undef, h.L (adF (h.dec L K).ad) (h.dec L K).cs, (h.K (adF (h.dec L K).ad) (h.dec L K).cs).map some⟩
def soL (hs : List (Hd σ)) (td : List Ab) (L : List Ent) (K : List (Chunk σ)) : Ob σ :=
  match findH hs 0 td with
  | none => ⟨[], undef, [], []⟩
  | some (_, h) => match nils h.slots h.shs L K with
    | (L', K') => hdL h td L' K'
def soR (hs : List (Hd σ)) (td : List Ab) (L : List Ent) (K : List (Chunk σ)) : Ob σ :=
  match findH hs 0 td with
  | none => ⟨[], undef, [], []⟩
  | some (_, h) => match nils h.slots h.shs L K with
    | (L', K') => hdR h td L' K'
def soB (hs : List (Hd σ)) (td : List Ab) (L : List Ent) (K : List (Chunk σ)) : Bool :=
  match findH hs 0 td with
  | none => true
  | some (_, h) => match nils h.slots h.shs L K with
    | (L', K') => nodupB (fixIs 0 (h.dec L' K').is) && fitsC h.kd (h.dec L' K').cs
def soQ (hs : List (Hd σ)) (Q : Nat → List (Cm σ) → Prop) (td : List Ab) (L : List Ent) (K : List (Chunk σ)) : Prop :=
  match findH hs 0 td with
  | none => False
  | some (j, h) => match nils h.slots h.shs L K with
    | (L', K') => Q j (h.dec L' K').cs
/-- The code of the loops. -/
def hcode (B : Code) : List (Hd σ) → List Code
  | [] => []
  | h :: r => (match h.ops with
    | none => sub B h.p
    | some _ => .skip) :: hcode B r
def hcode' (B : Code) : List (Hd σ) → List Code
  | [] => []
  | h :: r => (match h.ops with
    | none => .loop (sub B (0 :: h.p))
    | some _ => .skip) :: hcode' B r
theorem hcode_get {B : Code} : ∀ {hs : List (Hd σ)} {j : Nat} {h : Hd σ}, hcode B hs = hcode' B hs → hs[j]? = some h → h.ops = none → Code.loop (sub B (0 :: h.p)) = sub B h.p
  | [], _, _, _, h, _ => by simp at h
  | h0 :: r, 0, h, he, hg, ho => by
    simp at hg; subst hg
    simp only [hcode, hcode', List.cons.injEq] at he
    rw [ho] at he
    exact he.1.symm
  | h0 :: r, j + 1, h, he, hg, ho => by
    simp only [hcode, hcode', List.cons.injEq] at he
    exact hcode_get he.2 (by simpa using hg) ho

variable (D : Addr → σ → Asn)
section
variable {P : Program} {f : FuncId} {R : Ending → World → Prop} {B : Code} {n : Nat} {E : World} {G : Hp} {td : List Ab}
theorem nilCells_ok {k : Nat} {L : List Ent} : ∀ (l : List (Sh σ)) (off : Nat) (K : List (Chunk σ)), SW D P f R B n E G td L (nilCells k off l K) → SW D P f R B n E G td L K
  | [], _, _, h => by simpa [nilCells] using h
  | s :: l, off, K, h => by
    cases s with
    | own t ks =>
      simp only [nilCells] at h
      split at h
      · split at h
        · rename_i x _
          cases hn : (isNil x.1 x.2 && nilRow (σ := σ) (.row none t 0 0 (colsOf (σ := σ) ks []))) with
          | true => rw [hn] at h; simp only [Bool.and_eq_true] at hn; exact SW.nilc D k off t _ hn.2 (nilCells_ok l _ _ h)
          | false => rw [hn] at h; exact nilCells_ok l _ _ h
        · exact nilCells_ok l _ _ h
      · exact nilCells_ok l _ _ h
    | _ => simp only [nilCells] at h; exact nilCells_ok l _ _ h
theorem nil1_ok {s : Nat} {sh : Sh σ} {L L' : List Ent} {K K' : List (Chunk σ)} (he : nil1 s sh L K = (L', K')) (h : SW D P f R B n E G td L' K') : SW D P f R B n E G td L K := by
  unfold nil1 at he
  split at he
  · rename_i t ks
    split at he
    · rename_i e _
      cases hn : (isNil e.v e.p && nilRow (σ := σ) (.row none t 0 0 (colsOf (σ := σ) ks []))) with
      | true => rw [hn] at he; simp at he; rw [← he.1, ← he.2] at h; simp only [Bool.and_eq_true] at hn; exact SW.nil D s t _ hn.2 h
      | false => rw [hn] at he; simp at he; rw [← he.1, ← he.2] at h; exact h
    · simp at he; rw [← he.1, ← he.2] at h; exact h
  · split at he
    · split at he
      · simp at he; rw [← he.1, ← he.2] at h; exact nilCells_ok D _ _ _ h
      · simp at he; rw [← he.1, ← he.2] at h; exact h
    · simp at he; rw [← he.1, ← he.2] at h; exact h
  · simp at he; rw [← he.1, ← he.2] at h; exact h
theorem nils_ok : ∀ {ss : List Nat} {shs : List (Sh σ)} {L L' : List Ent} {K K' : List (Chunk σ)}, nils ss shs L K = (L', K') → SW D P f R B n E G td L' K' → SW D P f R B n E G td L K
  | [], _, L, L', K, K', he, h => by simp only [nils, Prod.mk.injEq] at he; rw [← he.1, ← he.2] at h; exact h
  | _ :: _, [], L, L', K, K', he, h => by simp only [nils, Prod.mk.injEq] at he; rw [← he.1, ← he.2] at h; exact h
  | s :: ss, sh :: shs, L, L', K, K', he, h => by
    simp only [nils] at he
    cases e : nil1 s sh L K with
    | mk L1 K1 => rw [e] at he; exact nil1_ok D e (nils_ok he h)
/-- **A head that is reached.** -/
theorem soQ_ok {hs : List (Hd σ)} {Q : Nat → List (Cm σ) → Prop} {L : List Ent} {K : List (Chunk σ)} (hc : hcode B hs = hcode' B hs) (he : soL hs td L K = soR hs td L K) (hb : soB hs td L K = true) (hq : soQ hs Q td L K)
    (H : ∀ j h, hs[j]? = some h → ∀ cs, fitsC h.kd cs = true → Q j cs → ∀ ad, SW D P f R B n E G h.tds (h.L ad cs) (h.K ad cs)) : SW D P f R B n E G td L K := by
  unfold soL soR at he
  unfold soB at hb
  unfold soQ at hq
  cases hf : findH hs 0 td with
  | none => rw [hf] at hq; exact hq.elim
  | some x =>
    obtain ⟨j, h⟩ := x
    rw [hf] at he hb hq
    dsimp only at he hb hq
    obtain ⟨i, hi, hg⟩ := findH_get hf
    rw [Nat.zero_add] at hi
    subst hi
    cases en : nils h.slots h.shs L K with
    | mk L1 K1 =>
      rw [en] at he hb hq
      dsimp only at he hb hq
      simp only [Bool.and_eq_true] at hb
      simp only [hdL, hdR, Ob.mk.injEq] at he
      have hK : renK (fixIs 0 (h.dec L1 K1).is) K1 = h.K (adF (h.dec L1 K1).ad) (h.dec L1 K1).cs := by
        have := he.2.2.2
        exact (List.map_inj_right (fun _ _ h => Option.some.inj h)).1 this
      have hsw := H _ h hg (h.dec L1 K1).cs hb.2 hq (adF (h.dec L1 K1).ad)
      refine nils_ok D en (SW.move D h.slots (fixIs 0 (h.dec L1 K1).is) (nodupB_ok hb.1) he.2.2.1 hK ?_)
      rw [he.1]
      unfold Hd.leafTd
      unfold Hd.tds at hsw
      cases ho : h.ops with
      | some i => rw [ho] at hsw; exact hsw
      | none =>
        rw [ho] at hsw
        have hcd := hcode_get hc hg ho
        split
        · rename_i e; cases e
        · exact SW.again D hsw
        · exact SW.enter D hcd hsw
end

/-- Less. -/
def lx (x y : Nat × Nat × Nat) : Prop := x.1 < y.1 ∨ (x.1 = y.1 ∧ (x.2.1 < y.2.1 ∨ (x.2.1 = y.2.1 ∧ x.2.2 < y.2.2)))
theorem lx_rec {C : Nat × Nat × Nat → Prop} (h : ∀ x, (∀ y, lx y x → C y) → C x) : ∀ x, C x := by
  have h3 : ∀ a, (∀ a', a' < a → ∀ b c, C (a', b, c)) → ∀ b, (∀ b', b' < b → ∀ c, C (a, b', c)) → ∀ c, C (a, b, c) := by
    intro a ha b hb c
    induction c using Nat.strongRecOn with
    | _ c ih =>
      refine h _ fun y hy => ?_
      obtain ⟨y1, y2, y3⟩ := y
      rcases hy with hy | ⟨e, hy | ⟨e2, hy⟩⟩
      · exact ha _ hy _ _
      · simp only at e hy; subst e; exact hb _ hy _
      · simp only at e e2 hy; subst e; subst e2; exact ih _ hy
  have h2 : ∀ a, (∀ a', a' < a → ∀ b c, C (a', b, c)) → ∀ b c, C (a, b, c) := by
    intro a ha b
    induction b using Nat.strongRecOn with
    | _ b ih => exact h3 a ha b ih
  have h1 : ∀ a b c, C (a, b, c) := by
    intro a
    induction a using Nat.strongRecOn with
    | _ a ih => exact h2 a ih
  exact fun x => h1 x.1 x.2.1 x.2.2

abbrev SmW (σ : Type) := Prop × List (Ob σ) × Bool
def Ct.lhsW (c : Ct σ) (p0 : Addr) (cs : List (Cm σ)) (hs : List (Hd σ)) (R : Ty c.RK → Prop) (Q : Nat → List (Cm σ) → Prop) (t : Tree σ) (β : BF) (γ : GF) : SmW σ :=
  (t.wp (fun v p K => R (c.retR v p K)) (soQ hs Q) β γ, t.obl (c.roL p0 cs) (soL hs) β γ, t.okb (c.rob_ p0 cs) (soB hs) β γ)
def Ct.rhsW (c : Ct σ) (p0 : Addr) (cs : List (Cm σ)) (hs : List (Hd σ)) (t : Tree σ) (W : Prop) (β : BF) (γ : GF) : SmW σ :=
  (W, t.obl (c.roR p0 cs) (soR hs) β γ, true)
theorem wp_tree {c : Ct σ} {p0 : Addr} {cs : List (Cm σ)} {hs : List (Hd σ)} {r0 : Ty c.RK} {Q : Nat → List (Cm σ) → Prop} {t : Tree σ} {W : Prop} (h : ∀ β γ, c.lhsW p0 cs hs (fun r => r = r0) Q t β γ = c.rhsW p0 cs hs t W β γ) (hW : W)
    {P : Program} {f : FuncId} {R : Ending → World → Prop} {B : Code} {n : Nat} {E : World} {G : Hp} (hc : hcode B hs = hcode' B hs) (H : ∀ j h, hs[j]? = some h → ∀ x, fitsC h.kd x = true → Q j x → ∀ ad, SW D P f R B n E G h.tds (h.L ad x) (h.K ad x)) :
    t.holds (RetOk (c.outC r0) (c.nwC p0 cs r0) (c.mksC r0)) (SW D P f R B n E G) := by
  refine Tree.wp_holds (RQ := fun v p K => c.retR v p K = r0) (SQ := soQ hs Q) (roL := c.roL p0 cs) (roR := c.roR p0 cs) (soL := soL hs) (soR := soR hs) (rb := c.rob_ p0 cs) (sb := soB hs)
    (fun v p K h1 h2 h3 => by have := Ct.ret_ok h1 h2; rw [h3] at this; exact this) (fun td L K h1 h2 h3 => soQ_ok D hc h1 h2 h3 H) t (fun β γ => ?_) (fun β γ => congrArg (·.2.1) (h β γ)) (fun β γ => congrArg (·.2.2) (h β γ))
  have : t.wp (fun v p K => c.retR v p K = r0) (soQ hs Q) β γ = W := congrArg (·.1) (h β γ)
  rw [this]; exact hW

/-- Each head's piece, up to the next heads. -/
def stepsC (c : Ct σ) (P : Program) (T : List (Nat × Entry σ)) (I : List Nat) (fuel : Nat) (fn : Func) (B : Code) (p0 : Addr) (cs : List (Cm σ)) (hs : List (Hd σ)) (r0 : Ty c.RK) (Inv : Nat → List (Cm σ) → Prop) (ms : Nat → List (Cm σ) → Nat × Nat × Nat) : List (Hd σ) → Nat → Prop
  | [], _ => True
  | h :: r, j => (AllC h.kd fun x => Inv j x → ∃ W : Prop, (∀ ad β γ, c.lhsW p0 cs hs (fun r => r = r0) (fun j' x' => Inv j' x' ∧ lx (ms j' x') (ms j x)) (run P T I fuel B fn.results.toList fn.ntmps h.tds (h.L ad x) (h.K ad x)) β γ =
      c.rhsW p0 cs hs (run P T I fuel B fn.results.toList fn.ntmps h.tds (h.L ad x) (h.K ad x)) W β γ) ∧ W) ∧ stepsC c P T I fuel fn B p0 cs hs r0 Inv ms r (j + 1)
theorem stepsC_get {c : Ct σ} {P : Program} {T : List (Nat × Entry σ)} {I : List Nat} {fuel : Nat} {fn : Func} {B : Code} {p0 : Addr} {cs : List (Cm σ)} {hs : List (Hd σ)} {r0 : Ty c.RK} {Inv : Nat → List (Cm σ) → Prop} {ms : Nat → List (Cm σ) → Nat × Nat × Nat} : ∀ {l : List (Hd σ)} {m : Nat} {i : Nat} {h : Hd σ}, stepsC c P T I fuel fn B p0 cs hs r0 Inv ms l m → l[i]? = some h →
    AllC h.kd fun x => Inv (m + i) x → ∃ W : Prop, (∀ ad β γ, c.lhsW p0 cs hs (fun r => r = r0) (fun j' x' => Inv j' x' ∧ lx (ms j' x') (ms (m + i) x)) (run P T I fuel B fn.results.toList fn.ntmps h.tds (h.L ad x) (h.K ad x)) β γ =
      c.rhsW p0 cs hs (run P T I fuel B fn.results.toList fn.ntmps h.tds (h.L ad x) (h.K ad x)) W β γ) ∧ W
  | [], _, _, _, _, h => by simp at h
  | h0 :: r, m, 0, h, hs, hg => by simp at hg; subst hg; exact hs.1
  | h0 :: r, m, i + 1, h, hs, hg => by
    have := stepsC_get hs.2 (i := i) (by simpa using hg)
    rw [show m + 1 + i = m + (i + 1) by omega] at this
    exact this

/-- **The contract of a function with loops.** -/
theorem ent_wp {c : Ct σ} {P : Program} {T : List (Nat × Entry σ)} (hT : TableOk D P T) {I : List Nat} {f : FuncId} {fn : Func} {B : Code} (hfn : P.funcs[f]? = some fn) (hmix : P.follows .mixedOrders = true) (hB : fn.body = some B)
    (ha : isArgs c.as = true) (hl : Nat.ble c.full.length fn.ntmps = true) {F : Cur c.AK (Ty c.RK)} {pre : Cur c.AK (List Prop)} (fuel : Nat)
    (H : ∀ p0, AllC c.AK fun cs => bds c.full cs → (∀ p ∈ appC c.AK pre cs, p) → ∃ (hs : List (Hd σ)) (Inv : Nat → List (Cm σ) → Prop) (ms : Nat → List (Cm σ) → Nat × Nat × Nat), hcode B hs = hcode' B hs ∧
      (∃ W : Prop, (∀ ad β γ, c.lhsW p0 cs hs (fun r => r = appC c.AK F cs) Inv (c.tree P T I fuel fn B p0 cs ad) β γ = c.rhsW p0 cs hs (c.tree P T I fuel fn B p0 cs ad) W β γ) ∧ W) ∧
      stepsC c P T I fuel fn B p0 cs hs (appC c.AK F cs) Inv ms hs 0) : EntryOk D P f (entC c F pre) := by
  refine ent_of D hT (I := I) hfn hmix hB ha hl fuel fun p0 => ?_
  have key : ∀ {ks : List (Kd σ)} {p q : List (Cm σ) → Prop}, (∀ cs, p cs → q cs) → AllC ks p → AllC ks q := by
    intro ks
    induction ks with
    | nil => exact fun h hp => h [] hp
    | cons k ks ih => exact fun h hp a => ih (fun cs => h _) (hp a)
  refine key (fun cs hH hb hp ad E G => ?_) (H p0)
  obtain ⟨hs, Inv, ms, hc, ⟨W, hW, hW'⟩, hst⟩ := hH hb hp
  have loop : ∀ x : Nat × Nat × Nat, ∀ j h, hs[j]? = some h → ∀ s, fitsC h.kd s = true → Inv j s → ms j s = x → ∀ ad, SW D P f (Post D E G (c.outC (appC c.AK F cs)) (c.nwC p0 cs (appC c.AK F cs)) (c.mksC (appC c.AK F cs))) B fn.ntmps E G h.tds (h.L ad s) (h.K ad s) := by
    refine lx_rec fun x ih j h hg s hf hI hm ad => ?_
    have hq := stepsC_get hst hg
    rw [Nat.zero_add] at hq
    obtain ⟨W1, hW1, hW2⟩ := hq.at s hf hI
    exact SW.go D hT (I := I) hfn hmix fuel rfl (wp_tree D (hW1 ad) hW2 hc fun j' h' hg' s' hf' hI' ad' => ih _ (by rw [← hm]; exact hI'.2) j' h' hg' s' hf' hI'.1 rfl ad')
  exact wp_tree D (hW ad) hW' hc fun j h hg s hf hI ad => loop _ j h hg s hf hI rfl ad

/-- A law: it hands back plain values, and no object is handed in. -/
theorem law_of {c : Ct σ} {P : Program} {f : FuncId} {F : Cur c.AK (Ty c.RK)} {pre : Cur c.AK (List Prop)} (h : EntryOk D P f (entC c F pre)) (args : List (Value × Info σ)) (cs : List (Cm σ)) (hc : argsC c.ob c.as args = some cs) (v : Value) (hv : c.outC (appC c.AK F cs) [] = v) (hm : c.mksC (appC c.AK F cs) = []) (ho : objOf args = none)
    (hpre : ∀ p ∈ appC c.AK pre cs, p) {E : World} {G : Hp} {w : World} (hi : ∀ x ∈ args, iOk G x.1 x.2) (hS : Sat E G w []) : Calls P f (args.map (·.1)).toArray w (fun en w' => en = .returned v ∧ Sat E G w' []) := by
  have he : entC c F pre args = some ⟨appC c.AK F cs, fun r => ⟨appC c.AK pre cs, newC c.rob (toCm c.RK r), c.mksC r, c.outC r, c.rs.outp⟩⟩ := by unfold entC; rw [hc]
  have := (h args _ _ he rfl).2 hpre E G w hi (by simpa [objAs, ho] using hS)
  refine this.mono fun en w' ⟨acs, h1, h2, h3⟩ => ?_
  dsimp only at h1 h2 h3
  rw [hm] at h1 h2 h3
  cases acs with
  | nil => exact ⟨by rw [h2, ← hv]; rfl, by simpa [newAs, ho] using h3⟩
  | cons _ _ => exact h1.elim

abbrev tw_ (A : Prop) : Prop := A ∧ A
theorem nd_ {p : Prop} (h : p := by first | assumption | omega | trivial | rfl | decide) : p := h
theorem stuck_ {p : Prop} (h : p := by exfalso; simp_all; done) : p := h
/-- The measure goes down. -/
theorem lxo_ {x y : Nat × Nat × Nat} (h : lx x y := by first | exact Or.inl (by omega) | exact Or.inr ⟨by omega, Or.inl (by omega)⟩ | exact Or.inr ⟨by omega, Or.inr ⟨by omega, by omega⟩⟩) : lx x y := h
end Go.Sl
