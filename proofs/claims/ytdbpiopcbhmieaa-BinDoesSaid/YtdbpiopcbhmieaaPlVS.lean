/-
  DERIVED. Cells as a change sees them, in plain Lean: the state of a view, the program's and the reference's alike. No program is named.
-/
import Derived.Test.YtdbpiopcbhmieaaSlO
namespace Go.Sl

abbrev IM := Int → Option Int
/-- How many cells; whether all are known; what is known; what was put; what was read, and put, in order; the missing one. -/
structure VS where
  n : Int
  all : Bool
  src : Int → Option Int
  put : Int → Option Int
  reads : List Int
  wrote : List Int
  miss : Int

def nv (x : Int) : Int := x % 4294967296
theorem nv_bd (x : Int) : 0 ≤ nv x ∧ nv x < 4294967296 := ⟨Int.emod_nonneg _ (by decide), Int.emod_lt_of_pos _ (by decide)⟩
theorem nv_id {x : Int} (h : 0 ≤ x ∧ x < 4294967296) : nv x = x := Int.emod_eq_of_lt h.1 h.2
def VS.there (s : VS) (i : Int) : Bool := decide (0 ≤ i) && decide (i < s.n) && decide (s.miss < 0)
def VS.get (s : VS) (i : Int) : Int := bif s.there i then (match s.put i with
  | some v => nv v
  | none => match s.src i with
    | some v => nv v
    | none => 0) else 0
def VS.read (s : VS) (i : Int) : VS := bif s.there i then (match s.put i with
  | some _ => s
  | none => match s.src i with
    | none => { s with miss := i }
    | some _ => bif s.reads.contains i then s else { s with reads := s.reads ++ [i] }) else s
def VS.set (s : VS) (i x : Int) : VS := bif s.there i then { s with put := mupd s.put i x, wrote := bif (s.put i).isSome then s.wrote else s.wrote ++ [i] } else s
/-- What a cell holds; what all do. -/
def VS.cur (s : VS) (i : Int) : Int := match s.put i with
  | some v => nv v
  | none => match s.src i with
    | some v => nv v
    | none => 0
def VS.vals (s : VS) : List Int := bif s.all then (List.range s.n.toNat).map (fun i : Nat => s.cur (i : Int)) else []
/-- What was put, in order. -/
def VS.puts (s : VS) : List Int := s.wrote.map fun i => (s.put i).getD 0
theorem VS.get_bd (s : VS) (i : Int) : 0 ≤ s.get i ∧ s.get i < 4294967296 := by
  unfold VS.get
  cases s.there i with
  | false => exact (⟨by decide, by decide⟩ : (0 : Int) ≤ 0 ∧ (0 : Int) < 4294967296)
  | true =>
    simp only [cond_true]
    split
    · exact nv_bd _
    · split
      · exact nv_bd _
      · exact ⟨by decide, by decide⟩

/-- A view that knows all cells; one that knows some. -/
def VS.whole (xs : List Int) : VS := ⟨xs.length, true, fun i => bif decide (0 ≤ i) && decide (i < xs.length) then some (xs.getD i.toNat 0) else none, mnil, [], [], -1⟩
def fsUpto (xs ys : List Int) (k : Nat) : IM := fun i => ((List.range k).find? fun j => xs.getD j 0 == i).map fun j => ys.getD j 0
def VS.known (n : Int) (xs ys : List Int) : VS := ⟨n, false, fsUpto xs ys xs.length, mnil, [], [], -1⟩
theorem fsUpto_succ (xs ys : List Int) (k : Nat) : fsUpto xs ys (k + 1) = bif (fsUpto xs ys k (xs.getD k 0)).isSome then fsUpto xs ys k else mupd (fsUpto xs ys k) (xs.getD k 0) (ys.getD k 0) := by
  have e : ∀ i, fsUpto xs ys (k + 1) i = (match fsUpto xs ys k i with | some v => some v | none => bif xs.getD k 0 == i then some (ys.getD k 0) else none) := fun i => by
    unfold fsUpto
    rw [List.range_succ, List.find?_append]
    cases h : (List.range k).find? (fun j => xs.getD j 0 == i) with
    | some j => simp only [Option.some_or, Option.map_some]
    | none =>
      simp only [Option.none_or, Option.map_none, List.find?_cons, List.find?_nil]
      cases xs.getD k 0 == i <;> rfl
  funext i
  rw [e i]
  cases hs : fsUpto xs ys k (xs.getD k 0) with
  | some v =>
    simp only [Option.isSome_some, cond_true]
    cases hi : fsUpto xs ys k i with
    | some u => rfl
    | none =>
      cases hb : xs.getD k 0 == i with
      | false => rfl
      | true =>
        have : xs.getD k 0 = i := by simpa using hb
        rw [this] at hs; rw [hs] at hi; cases hi
  | none =>
    simp only [Option.isSome_none, cond_false, mupd]
    by_cases hb : i = xs.getD k 0
    · subst hb; rw [hs]
    · have h1 : (i == xs.getD k 0) = false := by simpa using hb
      have h2 : (xs.getD k 0 == i) = false := by simp; exact fun e => hb e.symm
      rw [h1, h2]
      cases fsUpto xs ys k i <;> rfl
end Go.Sl
