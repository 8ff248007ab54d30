/-
  DERIVED. Contracts whose proofs are reckoned, not printed: shapes of what is handed in, of what stands at a loop's head, and of what is handed back; what a tree of the machine comes to. No program is named.
-/
import Derived.Test.YtonfbgombglngaaSlO
namespace Go.Sl
open Go.RowKit

/-- How a state of the table's objects is one of these. -/
structure Wr (σ : Type) where
  τ : Type
  inj : τ → σ
  prj : σ → τ
  is : σ → Bool
  d : τ
  ok : ∀ s, is s = true → inj (prj s) = s

/-- A part of what is known. -/
inductive Cm (σ : Type) where
  | i (x : Int)
  | b (x : Bool)
  | n (x : Nat)
  | li (x : List Int)
  | lb (x : List Bool)
  | mp (x : Int → Option Int)
  | st (x : σ)
inductive Kd (σ : Type) : Type 1 where
  | i
  | b
  | n
  | li
  | lb
  | mp
  | st (w : Wr σ)
variable {σ : Type}

abbrev IMap := Int → Option Int
@[reducible] def Kd.T : Kd σ → Type
  | .i => Int
  | .b => Bool
  | .n => Nat
  | .li => List Int
  | .lb => List Bool
  | .mp => IMap
  | .st w => w.τ
def Cm.iOf : Cm σ → Int
  | .i x => x
  | _ => 0
def Cm.bOf : Cm σ → Bool
  | .b x => x
  | _ => false
def Cm.nOf : Cm σ → Nat
  | .n x => x
  | _ => 0
def Cm.liOf : Cm σ → List Int
  | .li x => x
  | _ => []
def Cm.lbOf : Cm σ → List Bool
  | .lb x => x
  | _ => []
def Cm.mpOf : Cm σ → IMap
  | .mp x => x
  | _ => fun _ => none
def Cm.stOf (w : Wr σ) : Cm σ → w.τ
  | .st x => w.prj x
  | _ => w.d
def Kd.of : (k : Kd σ) → Cm σ → k.T
  | .i, c => c.iOf
  | .b, c => c.bOf
  | .n, c => c.nOf
  | .li, c => c.liOf
  | .lb, c => c.lbOf
  | .mp, c => c.mpOf
  | .st w, c => c.stOf w
def Kd.to : (k : Kd σ) → k.T → Cm σ
  | .i, x => .i x
  | .b, x => .b x
  | .n, x => .n x
  | .li, x => .li x
  | .lb, x => .lb x
  | .mp, x => .mp x
  | .st w, x => .st (w.inj x)
def Kd.fits : Kd σ → Cm σ → Bool
  | .i, .i _ => true
  | .b, .b _ => true
  | .n, .n _ => true
  | .li, .li _ => true
  | .lb, .lb _ => true
  | .mp, .mp _ => true
  | .st w, .st x => w.is x
  | _, _ => false
theorem Kd.to_of {k : Kd σ} {c : Cm σ} (h : k.fits c = true) : k.to (k.of c) = c := by
  cases k <;> cases c <;> simp only [Kd.fits] at h <;> first | rfl | cases h | skip
  rename_i w x
  show Cm.st (w.inj (w.prj x)) = Cm.st x
  rw [w.ok x h]

abbrev hdC (cs : List (Cm σ)) : Cm σ := cs.headD (.b false)
@[reducible] def Ty : List (Kd σ) → Type
  | [] => Unit
  | [k] => k.T
  | k :: k' :: ks => k.T × Ty (k' :: ks)
def toCm : (ks : List (Kd σ)) → Ty ks → List (Cm σ)
  | [], _ => []
  | [k], x => [k.to x]
  | k :: k' :: ks, x => k.to x.1 :: toCm (k' :: ks) x.2
def ofCm : (ks : List (Kd σ)) → List (Cm σ) → Ty ks
  | [], _ => ()
  | [k], cs => k.of (hdC cs)
  | k :: k' :: ks, cs => (k.of (hdC cs), ofCm (k' :: ks) cs.tail)
@[reducible] def Cur : List (Kd σ) → Type → Type
  | [], α => α
  | k :: ks, α => k.T → Cur ks α
def appC {α : Type} : (ks : List (Kd σ)) → Cur ks α → List (Cm σ) → α
  | [], f, _ => f
  | k :: ks, f, cs => appC ks (f (k.of (hdC cs))) cs.tail
@[reducible] def AllC : (ks : List (Kd σ)) → (List (Cm σ) → Prop) → Prop
  | [], p => p []
  | k :: ks, p => ∀ a : k.T, AllC ks fun cs => p (k.to a :: cs)
def fitsC : List (Kd σ) → List (Cm σ) → Bool
  | [], [] => true
  | k :: ks, c :: cs => k.fits c && fitsC ks cs
  | _, _ => false
theorem AllC.at : ∀ {ks : List (Kd σ)} {p : List (Cm σ) → Prop}, AllC ks p → ∀ cs, fitsC ks cs = true → p cs
  | [], _, h, [], _ => h
  | [], _, _, _ :: _, hf => by simp [fitsC] at hf
  | _ :: _, _, _, [], hf => by simp [fitsC] at hf
  | k :: ks, p, h, c :: cs, hf => by
    simp only [fitsC, Bool.and_eq_true] at hf
    have := AllC.at (h (k.of c)) cs hf.2
    rw [Kd.to_of hf.1] at this
    exact this

inductive Sh (σ : Type) : Type 1 where
  | i (k : IntKind)
  | b
  | skip
  | ic (k : IntKind) (x : Int)
  | bc (x : Bool)
  | agg (l : List (Sh σ))
  | tup (l : List (Sh σ))
  | ro (ks : List (Option IntKind))
  | roc (cols : List Col)
  | own (t : TypeId) (ks : List (Option IntKind))
  | new (t : TypeId) (ks : List (Option IntKind))
  | obj (w : Wr σ)
  | nobj (w : Wr σ)
  | objc (w : Wr σ) (p : Addr)
  | box (t : TypeId) (l : List (Sh σ))
  | mp (kk vk : IntKind)
  | ago (j : Nat)
  | agc (j off : Nat)
  | ags (j n : Nat)
  | fn (f : Nat)
def colK : Option IntKind → Kd σ
  | some _ => .li
  | none => .lb
mutual
def Sh.kd : Sh σ → List (Kd σ)
  | .i _ => [.i]
  | .b => [.b]
  | .agg l => kds l
  | .tup l => kds l
  | .ro ks => ks.map colK
  | .own _ ks => .n :: ks.map colK
  | .new _ ks => ks.map colK
  | .obj w => [.st w]
  | .nobj w => [.st w]
  | .objc w _ => [.st w]
  | .box _ l => kds l
  | .mp _ _ => [.mp]
  | _ => []
def kds : List (Sh σ) → List (Kd σ)
  | [] => []
  | s :: l => s.kd ++ kds l
end
mutual
/-- How many parts. -/
def Sh.nC : Sh σ → Nat
  | .i _ => 1
  | .b => 1
  | .agg l => nCs l
  | .tup l => nCs l
  | .ro ks => ks.length
  | .own _ ks => 1 + ks.length
  | .new _ ks => ks.length
  | .obj _ => 1
  | .nobj _ => 1
  | .objc _ _ => 1
  | .box _ l => nCs l
  | .mp _ _ => 1
  | _ => 0
def nCs : List (Sh σ) → Nat
  | [] => 0
  | s :: l => s.nC + nCs l
end
mutual
/-- How many addresses. -/
def Sh.nA : Sh σ → Nat
  | .agg l => nAs l
  | .tup l => nAs l
  | .ro _ => 1
  | .roc _ => 1
  | .own _ _ => 1
  | .new _ _ => 1
  | .obj _ => 1
  | .nobj _ => 1
  | .box _ l => 1 + nAs l
  | .mp _ _ => 1
  | .ago _ => 1
  | .agc _ _ => 1
  | .ags _ _ => 1
  | _ => 0
def nAs : List (Sh σ) → Nat
  | [] => 0
  | s :: l => s.nA + nAs l
end
mutual
/-- How many chunks. -/
def Sh.nK : Sh σ → Nat
  | .agg l => nKs l
  | .tup l => nKs l
  | .ro _ => 1
  | .roc _ => 1
  | .own _ _ => 1
  | .obj _ => 1
  | .objc _ _ => 1
  | .box _ l => 1 + nKs l
  | .mp _ _ => 1
  | _ => 0
def nKs : List (Sh σ) → Nat
  | [] => 0
  | s :: l => s.nK + nKs l
end
mutual
/-- How many things are made. -/
def Sh.nS : Sh σ → Nat
  | .agg l => nSs l
  | .tup l => nSs l
  | .new _ _ => 1
  | .nobj _ => 1
  | _ => 0
def nSs : List (Sh σ) → Nat
  | [] => 0
  | s :: l => s.nS + nSs l
end

/-- What is not told: where things lie. -/
structure Ad where
  o : Option Nat
  b : Nat
  c : Nat
  a : Option Addr
  p : Addr
def Ad.z : Ad := ⟨none, 0, 0, none, ⟨0, 0, none⟩⟩

def colsOf : List (Option IntKind) → List (Cm σ) → List Col
  | [], _ => []
  | some k :: ks, cs => .ints k (hdC cs).liOf :: colsOf ks cs.tail
  | none :: ks, cs => .bools (hdC cs).lbOf :: colsOf ks cs.tail
def colsCm : List (Option IntKind) → List Col → List (Cm σ)
  | [], _ => []
  | some _ :: ks, cols => (match cols.headD (.vals []) with | .ints _ xs => .li xs | _ => .li []) :: colsCm ks cols.tail
  | none :: ks, cols => (match cols.headD (.vals []) with | .bools xs => .lb xs | _ => .lb []) :: colsCm ks cols.tail

structure Tp (σ : Type) where
  v : Value
  p : Pr
  K : List (Chunk σ)
def tpK : List (Tp σ) → List (Chunk σ)
  | [] => []
  | t :: r => t.K ++ tpK r
def tpV : List (Tp σ) → List Value
  | [] => []
  | t :: r => t.v :: tpV r
def tpP : List (Tp σ) → List Pr
  | [] => []
  | t :: r => t.p :: tpP r
def tpC : List (Tp σ) → List (Value × Pr)
  | [] => []
  | t :: r => (t.v, t.p) :: tpC r
mutual
/-- What stands there: a value, where it points, its chunks (the first of them has the number k). -/
def Sh.tp (ad : Nat → Ad) : Sh σ → Nat → Nat → List (Cm σ) → Tp σ
  | .i kd, _, _, cs => ⟨.int kd (hdC cs).iOf, .no, []⟩
  | .b, _, _, cs => ⟨.bool (hdC cs).bOf, .no, []⟩
  | .skip, _, _, _ => ⟨undef, .no, []⟩
  | .ic kd x, _, _, _ => ⟨.int kd x, .no, []⟩
  | .bc x, _, _, _ => ⟨.bool x, .no, []⟩
  | .agg l, k, j, cs => ⟨.agg (tpV (tps ad l k j cs)).toArray, mkMany (tpP (tps ad l k j cs)), tpK (tps ad l k j cs)⟩
  | .tup l, k, j, cs => ⟨.tuple (tpV (tps ad l k j cs)).toArray, mkMany (tpP (tps ad l k j cs)), tpK (tps ad l k j cs)⟩
  | .ro ks, k, j, cs => ⟨.slice (ad j).a (lenC (colsOf ks cs)) (ad j).c, .pt k .slice, [.ro (ad j).a (lenC (colsOf ks cs)) (ad j).c (colsOf ks cs)]⟩
  | .roc cols, k, j, _ => ⟨.slice (ad j).a (lenC cols) (ad j).c, .pt k .slice, [.ro (ad j).a (lenC cols) (ad j).c cols]⟩
  | .own t ks, k, j, cs => ⟨sliceVal (ad j).o (hdC cs).nOf (ad j).c, .pt k .slice, [.row (ad j).o t (hdC cs).nOf (ad j).c (colsOf ks cs.tail)]⟩
  | .new _ _, _, _, _ => ⟨undef, .no, []⟩
  | .obj w, k, j, cs => ⟨.pointer (some (ad j).p), .pt k .obj, [.obj (ad j).p (w.inj ((hdC cs).stOf w))]⟩
  | .nobj _, _, _, _ => ⟨undef, .no, []⟩
  | .objc w p, k, _, cs => ⟨.pointer (some p), .pt k .obj, [.obj p (w.inj ((hdC cs).stOf w))]⟩
  | .box t l, k, j, cs => ⟨.pointer (some ⟨(ad j).b, 0, none⟩), .pt k (.cell 0), .cells (ad j).b t (tpC (tps ad l (k + 1) (j + 1) cs)) :: tpK (tps ad l (k + 1) (j + 1) cs)⟩
  | .mp kk vk, k, j, cs => ⟨.map (some (ad j).b), .pt k .map, [.map (ad j).b kk vk (hdC cs).mpOf]⟩
  | .ago i, _, j, _ => ⟨.pointer (some (ad j).p), .pt i .obj, []⟩
  | .agc i off, _, j, _ => ⟨.pointer (some ⟨(ad j).b, off, none⟩), .pt i (.cell off), []⟩
  | .ags i n, _, j, _ => ⟨.slice (ad j).a n (ad j).c, .pt i .slice, []⟩
  | .fn f, _, _, _ => ⟨.func (.func f) #[] #[], .no, []⟩
def tps (ad : Nat → Ad) : List (Sh σ) → Nat → Nat → List (Cm σ) → List (Tp σ)
  | [], _, _, _ => []
  | s :: l, k, j, cs => s.tp ad k j cs :: tps ad l (k + s.nK) (j + s.nA) (cs.drop s.nC)
end

structure Dc (σ : Type) where
  cs : List (Cm σ)
  ad : List Ad
  is : List (Option Nat)
mutual
/-- Read off what stands there. -/
def Sh.dc (K : List (Chunk σ)) : Sh σ → Value → Pr → Dc σ
  | .i _, .int _ x, _ => ⟨[.i x], [], []⟩
  | .b, .bool x, _ => ⟨[.b x], [], []⟩
  | .agg l, .agg vs, p => dcs K l vs.toList (cellsPr (.agg vs) p)
  | .tup l, .tuple vs, p => dcs K l vs.toList (match p with | .many ps => ps | _ => nos vs.size)
  | .ro ks, .slice a _ c, .pt k .slice => match K[k]? with
    | some (.ro _ _ _ cols) => ⟨colsCm ks cols, [{ Ad.z with a := a, c := c }], [some k]⟩
    | _ => ⟨[], [], []⟩
  | .roc _, .slice a _ c, .pt k .slice => ⟨[], [{ Ad.z with a := a, c := c }], [some k]⟩
  | .own _ ks, .slice _ _ _, .pt k .slice => match K[k]? with
    | some (.row o _ n c cols) => ⟨.n n :: colsCm ks cols, [{ Ad.z with o := o, c := c }], [some k]⟩
    | _ => ⟨[], [], []⟩
  | .new _ ks, .slice _ _ _, .pt k .slice => match K[k]? with
    | some (.row o _ n c cols) => ⟨colsCm ks cols, [{ Ad.z with o := o, b := n, c := c }], [some k]⟩
    | _ => ⟨[], [], []⟩
  | .new _ ks, .slice _ _ _, .no => ⟨colsCm ks (colsOf (σ := σ) ks []), [Ad.z], [none]⟩
  | .obj _, .pointer (some p), .pt k .obj => match K[k]? with
    | some (.obj _ s) => ⟨[.st s], [{ Ad.z with p := p }], [some k]⟩
    | _ => ⟨[], [], []⟩
  | .objc _ _, .pointer (some _), .pt k .obj => match K[k]? with
    | some (.obj _ s) => ⟨[.st s], [], [some k]⟩
    | _ => ⟨[], [], []⟩
  | .nobj _, .pointer (some p), .pt k .obj => match K[k]? with
    | some (.obj _ s) => ⟨[.st s], [{ Ad.z with o := some p.block }], [some k]⟩
    | _ => ⟨[], [], []⟩
  | .box _ l, .pointer (some p), .pt k (.cell _) => match K[k]? with
    | some (.cells _ _ cs) => match dcs K l (cs.map (·.1)) (cs.map (·.2)) with
      | ⟨a, b, c⟩ => ⟨a, { Ad.z with b := p.block } :: b, some k :: c⟩
    | _ => ⟨[], [], []⟩
  | .mp _ _, .map (some b), .pt k .map => match K[k]? with
    | some (.map _ _ _ f) => ⟨[.mp f], [{ Ad.z with b := b }], [some k]⟩
    | _ => ⟨[], [], []⟩
  | .ago _, .pointer (some p), _ => ⟨[], [{ Ad.z with p := p }], []⟩
  | .agc _ _, .pointer (some p), _ => ⟨[], [{ Ad.z with b := p.block }], []⟩
  | .ags _ _, .slice a _ c, _ => ⟨[], [{ Ad.z with a := a, c := c }], []⟩
  | _, _, _ => ⟨[], [], []⟩
def dcs (K : List (Chunk σ)) : List (Sh σ) → List Value → List Pr → Dc σ
  | s :: l, v :: vs, p :: ps => match s.dc K v p, dcs K l vs ps with
    | ⟨a, b, c⟩, ⟨a', b', c'⟩ => ⟨a ++ a', b ++ b', c ++ c'⟩
  | _, _, _ => ⟨[], [], []⟩
end
def adF (l : List Ad) : Nat → Ad := fun j => l.getD j Ad.z
def fixIs : Nat → List (Option Nat) → List Nat
  | _, [] => []
  | j, some i :: r => i :: fixIs (j + 1) r
  | j, none :: r => (1000000 + j) :: fixIs (j + 1) r
def nodupB : List Nat → Bool
  | [] => true
  | i :: r => !(r.any (Nat.beq i)) && nodupB r
theorem nodupB_ok : ∀ {l : List Nat}, nodupB l = true → l.Nodup
  | [], _ => by simp
  | i :: r, h => by
    simp only [nodupB, Bool.and_eq_true, Bool.not_eq_true', List.any_eq_false, Bool.not_eq_true] at h
    refine List.nodup_cons.2 ⟨fun hm => ?_, nodupB_ok h.2⟩
    have := h.1 i hm
    rw [Nat.beq_refl] at this; cases this

/-! ### What is handed back -/
mutual
def Sh.out : Sh σ → List (Cm σ) → List Value → Value
  | .i kd, cs, _ => .int kd (hdC cs).iOf
  | .b, cs, _ => .bool (hdC cs).bOf
  | .agg l, cs, ss => .agg (outs l cs ss).toArray
  | .tup l, cs, ss => .tuple (outs l cs ss).toArray
  | .new _ _, _, ss => ss.headD undef
  | .nobj _, _, ss => ss.headD undef
  | .ic kd x, _, _ => .int kd x
  | .bc x, _, _ => .bool x
  | _, _, _ => undef
def outs : List (Sh σ) → List (Cm σ) → List Value → List Value
  | [], _, _ => []
  | s :: l, cs, ss => s.out cs ss :: outs l (cs.drop s.nC) (ss.drop s.nS)
end
mutual
def Sh.mks : Sh σ → List (Cm σ) → List (Mk σ)
  | .agg l, cs => mkss l cs
  | .tup l, cs => mkss l cs
  | .new t ks, cs => [.row t (colsOf ks cs)]
  | .nobj w, cs => [.obj (w.inj ((hdC cs).stOf w))]
  | _, _ => []
def mkss : List (Sh σ) → List (Cm σ) → List (Mk σ)
  | [], _ => []
  | s :: l, cs => s.mks cs ++ mkss l (cs.drop s.nC)
end
mutual
def Sh.outp : Sh σ → Nat → Pr
  | .agg l, k => mkMany (outps l k)
  | .tup l, k => mkMany (outps l k)
  | .new _ _, k => .pt k .slice
  | .nobj _, k => .pt k .obj
  | _, _ => .no
def outps : List (Sh σ) → Nat → List Pr
  | [], _ => []
  | s :: l, k => s.outp k :: outps l (k + s.nS)
end
mutual
theorem Sh.mks_len : ∀ (s : Sh σ) (cs : List (Cm σ)), (s.mks cs).length = s.nS
  | .agg l, cs => by simp only [Sh.mks, Sh.nS]; exact mkss_len l cs
  | .tup l, cs => by simp only [Sh.mks, Sh.nS]; exact mkss_len l cs
  | .new _ _, _ => rfl
  | .nobj _, _ => rfl
  | .i _, _ => rfl
  | .b, _ => rfl
  | .skip, _ => rfl
  | .ic _ _, _ => rfl
  | .bc _, _ => rfl
  | .ro _, _ => rfl
  | .roc _, _ => rfl
  | .own _ _, _ => rfl
  | .obj _, _ => rfl
  | .objc _ _, _ => rfl
  | .box _ _, _ => rfl
  | .mp _ _, _ => rfl
  | .ago _, _ => rfl
  | .agc _ _, _ => rfl
  | .ags _ _, _ => rfl
  | .fn _, _ => rfl
theorem mkss_len : ∀ (l : List (Sh σ)) (cs : List (Cm σ)), (mkss l cs).length = nSs l
  | [], _ => rfl
  | s :: l, cs => by simp only [mkss, nSs, List.length_append, s.mks_len cs, mkss_len l]
end
theorem acsOk_app : ∀ {R1 R2 : List (Mk σ)} {acs : List (Option Nat × Nat)}, acsOk (R1 ++ R2) acs → ∃ a1 a2, acs = a1 ++ a2 ∧ a1.length = R1.length ∧ acsOk R1 a1 ∧ acsOk R2 a2
  | [], R2, acs, h => ⟨[], acs, rfl, rfl, trivial, h⟩
  | r :: R1, R2, [], h => by simp [acsOk] at h
  | r :: R1, R2, a :: acs, h => by
    simp only [List.cons_append, acsOk] at h
    obtain ⟨a1, a2, rfl, h1, h2, h3⟩ := acsOk_app h.2
    exact ⟨a :: a1, a2, rfl, by simp [h1], ⟨h.1, h2⟩, h3⟩
theorem zip_app {α β γ : Type} (f : α → β → γ) : ∀ {l1 l2 : List α} {m1 m2 : List β}, m1.length = l1.length → List.zipWith f (l1 ++ l2) (m1 ++ m2) = List.zipWith f l1 m1 ++ List.zipWith f l2 m2
  | [], _, [], _, _ => rfl
  | [], _, _ :: _, _, h => by simp at h
  | _ :: _, _, [], _, h => by simp at h
  | a :: l1, l2, b :: m1, m2, h => by simp only [List.cons_append, List.zipWith_cons_cons, zip_app f (l1 := l1) (by simpa using h)]
theorem mkMany_tup {K : List (Chunk σ)} {vs : List Value} {ps : List Pr} (h : psOk K vs ps) : pOk K (.tuple vs.toArray) (mkMany ps) := by
  unfold mkMany
  cases hb : ps.all Pr.isNo with
  | true => simp [pOk]
  | false => simp only [cond_false]; unfold pOk; exact h
mutual
theorem Sh.outp_ok : ∀ (s : Sh σ) (cs : List (Cm σ)) (K K2 : List (Chunk σ)) (S2 : List Value) (acs : List (Option Nat × Nat)), acsOk (s.mks cs) acs →
    pOk (K ++ List.zipWith sliceC (s.mks cs) acs ++ K2) (s.out cs (List.zipWith sliceV (s.mks cs) acs ++ S2)) (s.outp K.length)
  | .agg l, cs, K, K2, S2, acs, h => by simp only [Sh.mks, Sh.out, Sh.outp] at h ⊢; exact mkMany_agg (outps_ok l cs K K2 S2 acs h)
  | .tup l, cs, K, K2, S2, acs, h => by simp only [Sh.mks, Sh.out, Sh.outp] at h ⊢; exact mkMany_tup (outps_ok l cs K K2 S2 acs h)
  | .new t ks, cs, K, K2, S2, acs, h => by
    simp only [Sh.mks] at h ⊢
    match acs, h with
    | [ac], _ =>
      simp only [List.zipWith_cons_cons, List.zipWith_nil_right, Sh.out, Sh.outp, List.cons_append, List.headD_cons]
      exact pOk_pt.2 ⟨sliceC (.row t (colsOf ks cs)) ac, by rw [List.append_assoc, List.getElem?_append_right (Nat.le_refl _)]; simp, rfl⟩
    | _ :: _ :: _, h => exact absurd h.2 (by simp [acsOk])
    | [], h => exact h.elim
  | .nobj w, cs, K, K2, S2, acs, h => by
    simp only [Sh.mks] at h ⊢
    match acs, h with
    | [ac], h =>
      obtain ⟨b, rfl⟩ := h.1
      simp only [List.zipWith_cons_cons, List.zipWith_nil_right, Sh.out, Sh.outp, List.cons_append, List.headD_cons]
      exact pOk_pt.2 ⟨sliceC (.obj (w.inj ((hdC cs).stOf w))) (some b, 0), by rw [List.append_assoc, List.getElem?_append_right (Nat.le_refl _)]; simp, rfl⟩
    | _ :: _ :: _, h => exact absurd h.2 (by simp [acsOk])
    | [], h => exact h.elim
  | .i _, _, _, _, _, _, _ => pOk_no
  | .b, _, _, _, _, _, _ => pOk_no
  | .skip, _, _, _, _, _, _ => pOk_no
  | .ic _ _, _, _, _, _, _, _ => pOk_no
  | .bc _, _, _, _, _, _, _ => pOk_no
  | .ro _, _, _, _, _, _, _ => pOk_no
  | .roc _, _, _, _, _, _, _ => pOk_no
  | .own _ _, _, _, _, _, _, _ => pOk_no
  | .obj _, _, _, _, _, _, _ => pOk_no
  | .objc _ _, _, _, _, _, _, _ => pOk_no
  | .box _ _, _, _, _, _, _, _ => pOk_no
  | .mp _ _, _, _, _, _, _, _ => pOk_no
  | .ago _, _, _, _, _, _, _ => pOk_no
  | .agc _ _, _, _, _, _, _, _ => pOk_no
  | .ags _ _, _, _, _, _, _, _ => pOk_no
  | .fn _, _, _, _, _, _, _ => pOk_no
theorem outps_ok : ∀ (l : List (Sh σ)) (cs : List (Cm σ)) (K K2 : List (Chunk σ)) (S2 : List Value) (acs : List (Option Nat × Nat)), acsOk (mkss l cs) acs →
    psOk (K ++ List.zipWith sliceC (mkss l cs) acs ++ K2) (outs l cs (List.zipWith sliceV (mkss l cs) acs ++ S2)) (outps l K.length)
  | [], _, _, _, _, _, _ => by simp [outs, outps, psOk]
  | s :: l, cs, K, K2, S2, acs, h => by
    simp only [mkss] at h ⊢
    obtain ⟨a1, a2, rfl, h1, h2, h3⟩ := acsOk_app h
    rw [zip_app _ h1, zip_app _ h1]
    have e1 : (List.zipWith sliceV (s.mks cs) a1).length = s.nS := by rw [List.length_zipWith, h1, s.mks_len]; simp
    have e2 : (List.zipWith sliceC (s.mks cs) a1).length = s.nS := by rw [List.length_zipWith, h1, s.mks_len]; simp
    refine psOk_cons ?_ ?_
    · have := Sh.outp_ok s cs K (List.zipWith sliceC (mkss l (cs.drop s.nC)) a2 ++ K2) (List.zipWith sliceV (mkss l (cs.drop s.nC)) a2 ++ S2) a1 h2
      simpa [List.append_assoc] using this
    · have := outps_ok l (cs.drop s.nC) (K ++ List.zipWith sliceC (s.mks cs) a1) K2 S2 a2 h3
      simp only [List.length_append, e2] at this
      have e3 : (List.zipWith sliceV (s.mks cs) a1 ++ List.zipWith sliceV (mkss l (cs.drop s.nC)) a2 ++ S2).drop s.nS = List.zipWith sliceV (mkss l (cs.drop s.nC)) a2 ++ S2 := by
        rw [List.append_assoc, ← e1]; exact List.drop_left
      rw [e3]
      simpa [List.append_assoc] using this
end
end Go.Sl
