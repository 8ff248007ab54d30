/-
  DERIVED. Touches one behind the other as one program over cells: what they tell of a view that knows all, and of one that knows just what was read.
-/
import Derived.Test.YtdbpiopcbhmieaaSlView9b
namespace Go.Proofs.Ytdbpiopcbhmieaa
open Go Go.Sl Go.RowKit

def touchPg (x : Bool × Int × Int) : Pg Int := bif x.1 then .put x.2.1 x.2.2 (.ret 0) else .get x.2.1 fun v => .ret v
theorem touch_run (s : VS) (x : Bool × Int × Int) : (touchPg x).run s = l11_touch s x.1 x.2.1 x.2.2 := by
  obtain ⟨b, i, y⟩ := x
  cases b <;> rfl
def seqP : List (Bool × Int × Int) → Pg (List Int)
  | [] => .ret []
  | x :: r => (touchPg x).bind fun v => (seqP r).bind fun vs => .ret (v :: vs)
theorem seqP_cons (x : Bool × Int × Int) (r : List (Bool × Int × Int)) (s : VS) : (seqP (x :: r)).run s = (((seqP r).run (l11_touch s x.1 x.2.1 x.2.2).1).1, (l11_touch s x.1 x.2.1 x.2.2).2 :: ((seqP r).run (l11_touch s x.1 x.2.1 x.2.2).1).2) := by
  simp only [seqP, Pg.run_bind, Pg.run_ret, touch_run]
theorem seqP_append : ∀ (a b : List (Bool × Int × Int)) (s : VS), (seqP (a ++ b)).run s = (((seqP b).run ((seqP a).run s).1).1, ((seqP a).run s).2 ++ ((seqP b).run ((seqP a).run s).1).2)
  | [], b, s => rfl
  | x :: a, b, s => by rw [List.cons_append, seqP_cons, seqP_cons, seqP_append a b]; rfl
theorem seqP_len : ∀ (l : List (Bool × Int × Int)) (s : VS), ((seqP l).run s).2.length = l.length
  | [], _ => rfl
  | x :: r, s => by rw [seqP_cons]; simp only [List.length_cons, seqP_len r]
theorem seqP_snoc (l : List (Bool × Int × Int)) (x : Bool × Int × Int) (s : VS) :
    (seqP (l ++ [x])).run s = ((l11_touch ((seqP l).run s).1 x.1 x.2.1 x.2.2).1, ((seqP l).run s).2 ++ [(l11_touch ((seqP l).run s).1 x.1 x.2.1 x.2.2).2]) := by
  rw [seqP_append, seqP_cons]; rfl
theorem seqP_get (l : List (Bool × Int × Int)) (s : VS) (j : Nat) (x : Bool × Int × Int) (h : l[j]? = some x) : ((seqP l).run s).2.getD j 0 = (l11_touch ((seqP (l.take j)).run s).1 x.1 x.2.1 x.2.2).2 := by
  have hj : j < l.length := by
    rcases Nat.lt_or_ge j l.length with h' | h'
    · exact h'
    · rw [List.getElem?_eq_none h'] at h; cases h
  have e : l = l.take j ++ x :: l.drop (j + 1) := by
    have : l.drop j = x :: l.drop (j + 1) := by
      rw [List.drop_eq_getElem_cons hj]
      rw [List.getElem?_eq_getElem hj] at h
      injection h with h
      rw [h]
    rw [← this, List.take_append_drop]
  conv => lhs; rw [e]
  rw [seqP_append, seqP_cons]
  have hl : ((seqP (l.take j)).run s).2.length = j := by rw [seqP_len, List.length_take]; omega
  rw [List.getD_eq_getElem?_getD, List.getElem?_append_right (by omega), hl, Nat.sub_self]
  rfl
theorem seqP_all (l : List (Bool × Int × Int)) : ∀ s : VS, ((seqP l).run s).1.all = s.all := by
  induction l with
  | nil => intro s; rfl
  | cons x r ih => intro s; rw [seqP_cons]; exact (ih _).trans (touch_all _ _ _ _)

def trip (ps : List Bool) (is ys : List Int) : List (Bool × Int × Int) := (List.range ps.length).map fun j => (ps.getD j false, is.getD j 0, ys.getD j 0)
theorem trip_len (ps : List Bool) (is ys : List Int) : (trip ps is ys).length = ps.length := by simp [trip]
theorem trip_get {ps : List Bool} {is ys : List Int} {j : Nat} (h : j < ps.length) : (trip ps is ys)[j]? = some (ps.getD j false, is.getD j 0, ys.getD j 0) := by simp [trip, h]
theorem trip_succ {ps : List Bool} {is ys : List Int} {j : Nat} (h : j < ps.length) : (trip ps is ys).take (j + 1) = (trip ps is ys).take j ++ [(ps.getD j false, is.getD j 0, ys.getD j 0)] := by
  rw [List.take_add_one, trip_get h]; rfl
theorem trip_all (ps : List Bool) (is ys : List Int) : (trip ps is ys).take ps.length = trip ps is ys := by
  rw [← trip_len ps is ys, List.take_length]

section
variable (xs : List Int) (ts : List (Bool × Int × Int))
/-- All that is read; what it is. -/
def rdAll : List Int := ((seqP ts).run (VS.whole xs)).1.reads
def valAll : List Int := (rdAll xs ts).map fun c => xs.getD c.toNat 0
theorem reads_in : ∀ c ∈ rdAll xs ts, 0 ≤ c ∧ c < (xs.length : Int) := fun c hc => by
  have hf := Full.run (seqP ts) (VS.whole_full xs)
  have h1 := hf.ri c hc
  have hn : ((seqP ts).run (VS.whole xs)).1.n = (xs.length : Int) := by
    have key : ∀ (l : List (Bool × Int × Int)) (s : VS), ((seqP l).run s).1.n = s.n := by
      intro l
      induction l with
      | nil => intro s; rfl
      | cons x r ih =>
        intro s
        rw [seqP_cons]
        refine (ih _).trans ?_
        obtain ⟨b, i, y⟩ := x
        cases b with
        | true => exact (VS.set_same s i y).1
        | false => exact (VS.read_same s i).1
    exact key ts _
  rw [hn] at h1
  exact h1
theorem knows_all : Sim (fun i => ((rdAll xs ts).take (rdAll xs ts).length).contains i) ((seqP ts).run (VS.whole xs)).1 ((seqP ts).run (VS.known xs.length (rdAll xs ts) (valAll xs ts))).1 ∧
    ((seqP ts).run (VS.whole xs)).2 = ((seqP ts).run (VS.known xs.length (rdAll xs ts) (valAll xs ts))).2 := by
  have h := (known_run (seqP ts) (s := VS.whole xs) (k := VS.known xs.length (rdAll xs ts) (valAll xs ts)) (m := (rdAll xs ts).length) (Nat.le_refl _) (by
    have e : ((seqP ts).run (VS.whole xs)).1.reads.take (rdAll xs ts).length = rdAll xs ts := List.take_length
    rw [e]
    exact sim_known rfl)).1 rfl
  exact h
theorem knows_less {m : Nat} (hm : m < (rdAll xs ts).length) : ((seqP ts).run (VS.known xs.length ((rdAll xs ts).take m) ((valAll xs ts).take m))).1.miss = (rdAll xs ts).getD m 0 ∧
    ((seqP ts).run (VS.known xs.length ((rdAll xs ts).take m) ((valAll xs ts).take m))).1.reads = (rdAll xs ts).take m :=
  (known_run (seqP ts) (s := VS.whole xs) (k := VS.known xs.length ((rdAll xs ts).take m) ((valAll xs ts).take m)) (m := m) (Nat.le_of_lt hm) (sim_known (by
    unfold valAll
    rw [← List.map_take]
    rfl))).2 hm
theorem val_len : (valAll xs ts).length = (rdAll xs ts).length := by simp [valAll]
theorem val_bd (h : ∀ v ∈ xs, bd32 v) : ∀ v ∈ valAll xs ts, bd32 v := fun v hv => by
  obtain ⟨c, _, rfl⟩ := List.mem_map.1 hv
  exact getD_bd h _
theorem val_getD {j : Nat} (h : j < (rdAll xs ts).length) : (valAll xs ts).getD j 0 = xs.getD ((rdAll xs ts).getD j 0).toNat 0 := by
  unfold valAll
  simp [List.getD_eq_getElem?_getD, List.getElem?_map, List.getElem?_eq_getElem h]
end
theorem read_len (s : VS) (i : Int) : (s.read i).reads.length ≤ s.reads.length + 1 := by
  rcases s.read_cases i with e | ⟨_, _, _, e⟩ | ⟨_, _, _, _, e⟩ <;> rw [e] <;> simp
theorem seq_rd : ∀ (l : List (Bool × Int × Int)) (s : VS), ((seqP l).run s).1.reads.length ≤ s.reads.length + l.length
  | [], s => Nat.le_refl _
  | x :: r, s => by
    rw [seqP_cons]
    have h := seq_rd r (l11_touch s x.1 x.2.1 x.2.2).1
    have h2 : (l11_touch s x.1 x.2.1 x.2.2).1.reads.length ≤ s.reads.length + 1 := by
      obtain ⟨b, i, y⟩ := x
      cases b with
      | true =>
        have e : (l11_touch s true i y).1.reads = s.reads := (VS.set_same s i y).2.2.1
        rw [e]; omega
      | false => exact read_len s i
    simp only [List.length_cons]
    omega
theorem rd_len (xs : List Int) (ps : List Bool) (is ys : List Int) : (rdAll xs (trip ps is ys)).length ≤ ps.length := by
  have := seq_rd (trip ps is ys) (VS.whole xs)
  rw [trip_len] at this
  unfold rdAll
  simp only [VS.whole, List.length_nil] at this ⊢
  omega
theorem take_succD {l : List Int} {j : Nat} (h : j < l.length) : l.take (j + 1) = l.take j ++ [l.getD j 0] := by
  rw [List.take_add_one, List.getElem?_eq_getElem h, List.getD_eq_getElem?_getD, List.getElem?_eq_getElem h]; rfl
theorem getD_memI {l : List Int} {j : Nat} (h : j < l.length) : l.getD j 0 ∈ l := by
  rw [List.getD_eq_getElem?_getD, List.getElem?_eq_getElem h]; exact List.getElem_mem h
end Go.Proofs.Ytdbpiopcbhmieaa
