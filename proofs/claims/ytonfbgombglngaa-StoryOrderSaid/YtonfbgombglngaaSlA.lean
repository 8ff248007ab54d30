/-
  DERIVED. A calculus of parts of heaps over the model's worlds: assertions, the state 'Sat', and how blocks are read, written and made in it. No program is named.
-/
import Derived.WalkKit
import Derived.Deep.QuietTactic
import Derived.KernelRfl
namespace Go.Sl
open Go.RowKit

abbrev Hp := Nat → Option Obj
def Hp.sub (h : Hp) (w : World) : Prop := ∀ b o, h b = some o → w.heap[b]? = some o
abbrev Asn := Hp → Prop

/-- The blocks of a world that the assertion number i owns. -/
def part (w : World) (o : Nat → Option Nat) (i : Nat) : Hp := fun b => if o b = some i then w.heap[b]? else none

/-- Same streams as at the beginning; the heap has not shrunk. -/
structure Env (E w : World) : Prop where
  os : w.os = E.os
  tape : w.tape = E.tape
  output : w.output = E.output
  size : E.heap.size ≤ w.heap.size

/-- The state: 'G' stands as it is (nobody writes there); each of 'As' holds of the blocks that it owns. -/
def Sat (E : World) (G : Hp) (w : World) (As : List Asn) : Prop :=
  Env E w ∧ G.sub w ∧ ∃ o : Nat → Option Nat, (∀ b i, o b = some i → G b = none ∧ b < w.heap.size) ∧ ∀ (i : Nat) (A : Asn), As[i]? = some A → A (part w o i)

theorem part_sub {w : World} {o : Nat → Option Nat} {i b : Nat} {x : Obj} (h : part w o i b = some x) : w.heap[b]? = some x := by
  unfold part at h
  split at h
  · exact h
  · cases h

theorem part_congr {w w' : World} {o o' : Nat → Option Nat} {i j : Nat} (h : ∀ b, (o b = some i ↔ o' b = some j) ∧ (o b = some i → w.heap[b]? = w'.heap[b]?)) : part w o i = part w' o' j := by
  funext b
  unfold part
  by_cases hb : o b = some i
  · rw [if_pos hb, if_pos ((h b).1.1 hb), (h b).2 hb]
  · rw [if_neg hb, if_neg (fun e => hb ((h b).1.2 e))]

theorem lt_of_heap {w : World} {b : Nat} {x : Obj} (h : w.heap[b]? = some x) : b < w.heap.size := by
  rcases Nat.lt_or_ge b w.heap.size with hlt | hge
  · exact hlt
  · rw [Array.getElem?_eq_none hge] at h; cases h

/-- One block, known whole. -/
def pt (b : Nat) (x : Obj) : Asn := fun h => h b = some x

theorem Sat.pt {E : World} {G : Hp} {w : World} {As : List Asn} (h : Sat E G w As) {i b : Nat} {x : Obj} (hi : As[i]? = some (pt b x)) : w.heap[b]? = some x := by
  obtain ⟨_, _, o, _, hA⟩ := h
  exact part_sub (hA i _ hi)

theorem Sat.drop {E : World} {G : Hp} {w : World} {As Bs : List Asn} (h : Sat E G w As) (hB : ∀ (i : Nat) (A : Asn), Bs[i]? = some A → As[i]? = some A) : Sat E G w Bs := by
  obtain ⟨h1, h2, o, h3, h4⟩ := h
  exact ⟨h1, h2, o, h3, fun i A hi => h4 i A (hB i A hi)⟩

/-- The same with each assertion weakened. -/
theorem Sat.imp {E : World} {G : Hp} {w : World} {As Bs : List Asn} (h : Sat E G w As) (hB : ∀ (i : Nat) (B : Asn), Bs[i]? = some B → ∃ A, As[i]? = some A ∧ ∀ k : Hp, A k → B k) : Sat E G w Bs := by
  obtain ⟨h1, h2, o, h3, h4⟩ := h
  exact ⟨h1, h2, o, h3, fun i B hi => let ⟨A, hA, hAB⟩ := hB i B hi; hAB _ (h4 i A hA)⟩

/-- A draw. -/
theorem Sat.drawn {E : World} {G : Hp} {w : World} {As : List Asn} (h : Sat E G w As) (n : Nat) : Sat E G { w with drawn := n } As := by
  obtain ⟨⟨a, b, c, d⟩, h2, o, h3, h4⟩ := h
  exact ⟨⟨a, b, c, d⟩, h2, o, h3, h4⟩

/-- The block of one assertion is written. -/
theorem Sat.write {E : World} {G : Hp} {w w' : World} {As : List Asn} (h : Sat E G w As) {i b : Nat} {x : Obj} {A' : Asn} (hi : As[i]? = some (Sl.pt b x))
    (he : w'.os = w.os ∧ w'.tape = w.tape ∧ w'.output = w.output) (hs : w'.heap.size = w.heap.size) (hh : ∀ c, c ≠ b → w'.heap[c]? = w.heap[c]?)
    (hA : ∀ k : Hp, k b = w'.heap[b]? → A' k) : Sat E G w' (As.set i A') := by
  obtain ⟨⟨e1, e2, e3, e4⟩, h2, o, h3, h4⟩ := h
  have hpt := h4 i _ hi
  have hob : o b = some i := by
    simp only [Sl.pt, part] at hpt
    split at hpt
    · assumption
    · cases hpt
  refine ⟨⟨he.1.trans e1, he.2.1.trans e2, he.2.2.trans e3, by omega⟩, fun c y hc => ?_, o, fun c j hc => ⟨(h3 c j hc).1, by rw [hs]; exact (h3 c j hc).2⟩, fun j A hj => ?_⟩
  · rw [hh c (fun e => by subst e; rw [(h3 _ _ hob).1] at hc; cases hc)]; exact h2 c y hc
  · by_cases hij : i = j
    · subst hij
      have hlt : i < As.length := by
        rcases Nat.lt_or_ge i As.length with h' | h'
        · exact h'
        · rw [List.getElem?_eq_none h'] at hi; cases hi
      rw [List.getElem?_set_self hlt] at hj
      injection hj with hj
      subst hj
      exact hA _ (by simp [part, hob])
    · rw [List.getElem?_set_ne hij] at hj
      have : part w' o j = part w o j := by
        funext c
        unfold part
        split
        · rename_i hc
          exact hh c (fun e => by subst e; rw [hob] at hc; injection hc with hc; exact hij hc)
        · rfl
      rw [this]; exact h4 j A hj

/-- A new block, for a new assertion at the list's end. -/
theorem Sat.alloc {E : World} {G : Hp} {w : World} {As : List Asn} (h : Sat E G w As) (x : Obj) : Sat E G (w.alloc x) (As ++ [Sl.pt w.heap.size x]) := by
  obtain ⟨⟨e1, e2, e3, e4⟩, h2, o, h3, h4⟩ := h
  have hnew : (w.alloc x).heap[w.heap.size]? = some x := heap_alloc_new w x
  have hold : ∀ c, c < w.heap.size → (w.alloc x).heap[c]? = w.heap[c]? := fun c hc => Below.heap_alloc w x c hc
  have hsz : (w.alloc x).heap.size = w.heap.size + 1 := by simp
  refine ⟨⟨e1, e2, e3, by omega⟩, fun c y hc => ?_, fun c => if c = w.heap.size then some As.length else if o c = some As.length then none else o c, fun c j hc => ?_, fun j A hj => ?_⟩
  · have := h2 c y hc; rw [hold c (lt_of_heap this)]; exact this
  · dsimp only at hc
    split at hc
    · rename_i e
      subst e
      refine ⟨?_, by omega⟩
      cases hg : G w.heap.size with
      | none => rfl
      | some y => have := lt_of_heap (h2 _ _ hg); omega
    · split at hc
      · cases hc
      · have := h3 c j hc; exact ⟨this.1, by omega⟩
  · rcases Nat.lt_or_ge j As.length with hlt | hge
    · rw [List.getElem?_append_left hlt] at hj
      have : part (w.alloc x) (fun c => if c = w.heap.size then some As.length else if o c = some As.length then none else o c) j = part w o j := by
        refine part_congr fun c => ⟨⟨fun hc => ?_, fun hc => ?_⟩, fun hc => ?_⟩
        · split at hc
          · injection hc with hc; omega
          · split at hc
            · cases hc
            · exact hc
        · have := (h3 c j hc).2
          rw [if_neg (by omega), if_neg (fun e => by rw [hc] at e; injection e with e; omega)]
          exact hc
        · split at hc
          · injection hc with hc; omega
          · split at hc
            · cases hc
            · exact hold c (h3 c j hc).2
      rw [this]; exact h4 j A hj
    · rw [List.getElem?_append_right hge] at hj
      have hj0 : j - As.length = 0 := by
        rcases Nat.eq_zero_or_pos (j - As.length) with h0 | h0
        · exact h0
        · rw [List.getElem?_eq_none (by simp; omega)] at hj; cases hj
      rw [hj0] at hj
      simp at hj
      subst hj
      have : j = As.length := by omega
      subst this
      show part _ _ _ _ = _
      unfold part
      rw [if_pos (by simp)]
      exact hnew

/-- What an assertion owns is let go of, to stand as it is from here on. -/
theorem Sat.freeze {E : World} {G : Hp} {w : World} {As : List Asn} (h : Sat E G w As) {i b : Nat} {x : Obj} (hi : As[i]? = some (Sl.pt b x)) (A' : Asn) (hA' : ∀ k, A' k) :
    Sat E (fun c => if c = b then some x else G c) w (As.set i A') := by
  obtain ⟨e, h2, o, h3, h4⟩ := h
  have hpt := h4 i _ hi
  have hob : o b = some i := by
    simp only [Sl.pt, part] at hpt
    split at hpt
    · assumption
    · cases hpt
  have hb : w.heap[b]? = some x := part_sub hpt
  refine ⟨e, fun c y hc => ?_, fun c => if o c = some i then none else o c, fun c j hc => ?_, fun j A hj => ?_⟩
  · dsimp only at hc
    split at hc
    · rename_i e; subst e; injection hc with hc; subst hc; exact hb
    · exact h2 c y hc
  · dsimp only at hc ⊢
    split at hc
    · cases hc
    · rename_i hne
      refine ⟨?_, (h3 c j hc).2⟩
      rw [if_neg (fun e => by subst e; exact hne hob)]
      exact (h3 c j hc).1
  · by_cases hij : i = j
    · subst hij
      have hlt : i < As.length := by
        rcases Nat.lt_or_ge i As.length with h' | h'
        · exact h'
        · rw [List.getElem?_eq_none h'] at hi; cases hi
      rw [List.getElem?_set_self hlt] at hj
      injection hj with hj
      subst hj
      exact hA' _
    · rw [List.getElem?_set_ne hij] at hj
      have : part w (fun c => if o c = some i then none else o c) j = part w o j := by
        refine part_congr fun c => ⟨⟨fun hc => ?_, fun hc => ?_⟩, fun _ => rfl⟩
        · split at hc
          · cases hc
          · exact hc
        · rw [if_neg (fun e => by rw [hc] at e; injection e with e; exact hij e.symm)]
          exact hc
      rw [this]; exact h4 j A hj

/-- What stands in the list behind a call: at the places that it was given what the call left there; what it made more, behind. -/
def putBack (As : List Asn) : List Nat → List Asn → List Asn
  | [], Bs => As ++ Bs
  | i :: is, B :: Bs => putBack (As.set i B) is Bs
  | _ :: _, [] => As

theorem putBack_get : ∀ (is : List Nat) (As Bs : List Asn), is.Nodup → (∀ i ∈ is, i < As.length) → is.length ≤ Bs.length → ∀ (i : Nat) (A : Asn), (putBack As is Bs)[i]? = some A →
    (∃ j : Nat, is[j]? = some i ∧ Bs[j]? = some A) ∨ (i ∉ is ∧ As[i]? = some A) ∨ (As.length ≤ i ∧ Bs[is.length + (i - As.length)]? = some A) := by
  intro is
  induction is with
  | nil =>
    intro As Bs _ _ _ i A h
    simp only [putBack] at h
    rcases Nat.lt_or_ge i As.length with hl | hl
    · rw [List.getElem?_append_left hl] at h; exact .inr (.inl ⟨by simp, h⟩)
    · rw [List.getElem?_append_right hl] at h; exact .inr (.inr ⟨hl, by simpa using h⟩)
  | cons k ks ih =>
    intro As Bs hnd hall hle i A h
    cases Bs with
    | nil => simp at hle
    | cons B Bs =>
      simp only [putBack] at h
      rw [List.nodup_cons] at hnd
      have hk := hall k (by simp)
      rcases ih (As.set k B) Bs hnd.2 (fun i hi => by simpa using hall i (by simp [hi])) (by simpa using hle) i A h with ⟨j, h5, h6⟩ | ⟨h5, h7⟩ | ⟨h5, h6⟩
      · exact .inl ⟨j + 1, by simpa using h5, by simpa using h6⟩
      · by_cases hki : k = i
        · subst hki
          rw [List.getElem?_set_self hk] at h7
          exact .inl ⟨0, by simp, by simpa using h7⟩
        · rw [List.getElem?_set_ne hki] at h7
          exact .inr (.inl ⟨by simp only [List.mem_cons, not_or]; exact ⟨fun e => hki e.symm, h5⟩, h7⟩)
      · refine .inr (.inr ⟨by simpa using h5, ?_⟩)
        have : (k :: ks).length + (i - As.length) = (ks.length + (i - (As.set k B).length)) + 1 := by simp; omega
        rw [this]; simpa using h6

theorem idx_of {is : List Nat} (hn : is.Nodup) {j i : Nat} : is.idxOf? i = some j ↔ is[j]? = some i := by
  constructor
  · intro h
    rw [List.idxOf?_eq_some_iff] at h
    obtain ⟨hl, he, _⟩ := h
    rw [List.getElem?_eq_getElem hl, he]
  · intro h
    have hl : j < is.length := by
      rcases Nat.lt_or_ge j is.length with h' | h'
      · exact h'
      · rw [List.getElem?_eq_none h'] at h; cases h
    have he : is[j] = i := by rw [List.getElem?_eq_getElem hl] at h; injection h
    rw [List.idxOf?_eq_some_iff]
    refine ⟨hl, he, fun k hk hkj => ?_⟩
    have a := hn.idxOf_getElem k (by omega)
    have b := hn.idxOf_getElem j hl
    rw [hkj] at a; rw [he] at b; omega

def Gfr (w : World) (o : Nat → Option Nat) (is : List Nat) : Hp := fun b => match o b with | some i => if i ∈ is then none else w.heap[b]? | none => w.heap[b]?
def ownIn (o : Nat → Option Nat) (is : List Nat) : Nat → Option Nat := fun b => match o b with | some i => is.idxOf? i | none => none
def ownOut (o o' : Nat → Option Nat) (is : List Nat) (n : Nat) : Nat → Option Nat := fun b => match o' b with
  | some j => if j < is.length then is[j]? else some (n + (j - is.length))
  | none => match o b with | some i => if i ∈ is then none else some i | none => none

/-- **The frame rule.** All that is not picked stands, during the call, among what nobody writes. -/
theorem Sat.frame {E : World} {G : Hp} {w : World} {As : List Asn} (h : Sat E G w As) (is : List Nat) (hn : is.Nodup) (hlt : ∀ i ∈ is, i < As.length) :
    ∃ G' : Hp, (∀ b o, G b = some o → G' b = some o) ∧ (∀ (i : Nat) A, As[i]? = some A → i ∉ is → ∃ k : Hp, A k ∧ ∀ b o, k b = some o → G' b = some o) ∧
      Sat E G' w (is.map fun i => As.getD i (fun _ => True)) ∧
      ∀ (w' : World) (Bs : List Asn), is.length ≤ Bs.length → Sat E G' w' Bs → Sat E G w' (putBack As is Bs) := by
  obtain ⟨e, h2, o0, h30, h40⟩ := h
  -- nobody owns a block for a place beyond the list
  obtain ⟨o, h3, h4, h5⟩ : ∃ o : Nat → Option Nat, (∀ b i, o b = some i → G b = none ∧ b < w.heap.size) ∧ (∀ (i : Nat) (A : Asn), As[i]? = some A → A (part w o i)) ∧ ∀ b i, o b = some i → i < As.length := by
    refine ⟨fun b => match o0 b with | some i => if i < As.length then some i else none | none => none, fun b i hb => ?_, fun i A hi => ?_, fun b i hb => ?_⟩
    · dsimp only at hb
      split at hb
      · split at hb
        · injection hb with hb; subst hb; rename_i ho _; exact h30 b _ ho
        · cases hb
      · cases hb
    · have hl : i < As.length := by
        rcases Nat.lt_or_ge i As.length with h' | h'
        · exact h'
        · rw [List.getElem?_eq_none h'] at hi; cases hi
      have := h40 i A hi
      rw [part_congr (o' := fun b => match o0 b with | some i => if i < As.length then some i else none | none => none) (j := i) (w' := w)] at this
      · exact this
      · refine fun b => ⟨⟨fun hb => ?_, fun hb => ?_⟩, fun _ => rfl⟩
        · simp [hb, hl]
        · split at hb
          · split at hb
            · rename_i ho _; rw [ho]; exact hb
            · cases hb
          · cases hb
    · dsimp only at hb
      split at hb
      · split at hb
        · injection hb with hb; omega
        · cases hb
      · cases hb
  clear h30 h40
  refine ⟨Gfr w o is, fun b x hb => ?_, fun i A hi hni => ⟨_, h4 i A hi, fun b x hb => ?_⟩, ⟨e, fun b x hb => ?_, ownIn o is, fun b j hb => ?_, fun j A hj => ?_⟩, ?_⟩
  · have hw := h2 b x hb
    unfold Gfr
    cases ho : o b with
    | none => exact hw
    | some i => rw [(h3 b i ho).1] at hb; cases hb
  · unfold part at hb
    unfold Gfr
    split at hb
    · rename_i ho; simp only [ho, if_neg hni]; exact hb
    · cases hb
  · unfold Gfr at hb
    cases ho : o b with
    | none => simpa [ho] using hb
    | some i =>
      simp only [ho] at hb
      split at hb
      · cases hb
      · exact hb
  · unfold ownIn at hb
    unfold Gfr
    cases ho : o b with
    | none => simp [ho] at hb
    | some i =>
      simp only [ho] at hb
      have hm : i ∈ is := List.mem_of_getElem? ((idx_of hn).1 hb)
      simp only [if_pos hm]
      exact ⟨trivial, (h3 b i ho).2⟩
  · rw [List.getElem?_map] at hj
    cases hi : is[j]? with
    | none => simp [hi] at hj
    | some i =>
      simp only [hi, Option.map_some, Option.some.injEq] at hj
      have hl := hlt i (List.mem_of_getElem? hi)
      have hAs : As[i]? = some A := by rw [← hj]; simp [hl]
      rw [part_congr (w' := w) (o' := o) (j := i)]
      · exact h4 i A hAs
      · refine fun b => ⟨?_, fun _ => rfl⟩
        unfold ownIn
        cases ho : o b with
        | none => simp
        | some i' =>
          simp only [Option.some.injEq]
          rw [idx_of hn]
          constructor
          · intro h'; rw [hi] at h'; injection h' with h'; exact h'.symm
          · rintro rfl; exact hi
  · intro w' Bs hle hS
    obtain ⟨e', g2, o', g3, g4⟩ := hS
    have keep : ∀ b i, o b = some i → i ∉ is → w'.heap[b]? = w.heap[b]? ∧ o' b = none := fun b i ho hni => by
      have hlt' := (h3 b i ho).2
      have hG : Gfr w o is b = some w.heap[b] := by simp [Gfr, ho, hni, hlt']
      refine ⟨(g2 b _ hG).trans (by simp [hlt']), ?_⟩
      cases ho' : o' b with
      | none => rfl
      | some j => have := (g3 b j ho').1; rw [hG] at this; cases this
    refine ⟨e', fun b x hb => g2 b x ?_, ownOut o o' is As.length, fun b j hb => ?_, fun i A hi => ?_⟩
    · unfold Gfr
      cases ho : o b with
      | none => exact h2 b x hb
      | some i => rw [(h3 b i ho).1] at hb; cases hb
    · unfold ownOut at hb
      cases ho' : o' b with
      | some j' =>
        refine ⟨?_, (g3 b j' ho').2⟩
        have h6 := (g3 b j' ho').1
        cases hg : G b with
        | none => rfl
        | some x =>
          exfalso
          have hw := h2 b x hg
          unfold Gfr at h6
          cases ho : o b with
          | none => simp only [ho, hw] at h6; cases h6
          | some i => rw [(h3 b i ho).1] at hg; cases hg
      | none =>
        rw [ho'] at hb
        cases ho : o b with
        | none => simp [ho] at hb
        | some i =>
          simp only [ho] at hb
          split at hb
          · cases hb
          · rename_i hni
            refine ⟨(h3 b i ho).1, ?_⟩
            have h6 := (keep b i ho hni).1
            have hlt' := (h3 b i ho).2
            exact lt_of_heap (h6.trans (show w.heap[b]? = some w.heap[b] by simp [hlt']))
    · rcases putBack_get is As Bs hn hlt hle i A hi with ⟨j, h6, h7⟩ | ⟨h6, h7⟩ | ⟨h6, h7⟩
      · have hjl : j < is.length := by
          rcases Nat.lt_or_ge j is.length with h' | h'
          · exact h'
          · rw [List.getElem?_eq_none h'] at h6; cases h6
        rw [part_congr (w' := w') (o' := o') (j := j)]
        · exact g4 j A h7
        · refine fun b => ⟨⟨fun hb => ?_, fun hb => ?_⟩, fun _ => rfl⟩
          · unfold ownOut at hb
            cases ho' : o' b with
            | some j' =>
              simp only [ho'] at hb
              split at hb
              · have a := (idx_of hn).2 hb
                have c := (idx_of hn).2 h6
                rw [a] at c; exact c
              · injection hb with hb
                have := hlt i (List.mem_of_getElem? h6); omega
            | none =>
              rw [ho'] at hb
              cases ho : o b with
              | none => simp [ho] at hb
              | some i' =>
                simp only [ho] at hb
                split at hb
                · cases hb
                · rename_i hni; injection hb with hb; subst hb; exact absurd (List.mem_of_getElem? h6) hni
          · unfold ownOut; rw [hb]; simp only [if_pos hjl]; exact h6
      · rw [part_congr (w' := w) (o' := o) (j := i)]
        · exact h4 i A h7
        · have one : ∀ b, ownOut o o' is As.length b = some i ↔ o b = some i := fun b => by
            constructor
            · intro hb
              unfold ownOut at hb
              cases ho' : o' b with
              | some j' =>
                simp only [ho'] at hb
                split at hb
                · exact absurd (List.mem_of_getElem? hb) h6
                · injection hb with hb
                  have hl : i < As.length := by
                    rcases Nat.lt_or_ge i As.length with h' | h'
                    · exact h'
                    · rw [List.getElem?_eq_none h'] at h7; cases h7
                  omega
              | none =>
                rw [ho'] at hb
                cases ho : o b with
                | none => simp [ho] at hb
                | some i' =>
                  simp only [ho] at hb
                  split at hb
                  · cases hb
                  · exact hb
            · intro hb
              unfold ownOut
              rw [(keep b i hb h6).2, hb]
              simp only [if_neg h6]
          exact fun b => ⟨one b, fun hb => (keep b i ((one b).1 hb) h6).1⟩
      · rw [part_congr (w' := w') (o' := o') (j := is.length + (i - As.length))]
        · exact g4 _ A h7
        · refine fun b => ⟨⟨fun hb => ?_, fun hb => ?_⟩, fun _ => rfl⟩
          · unfold ownOut at hb
            cases ho' : o' b with
            | some j' =>
              simp only [ho'] at hb
              split at hb
              · have := hlt i (List.mem_of_getElem? hb); omega
              · injection hb with hb
                rw [show is.length + (i - As.length) = j' by omega]
            | none =>
              rw [ho'] at hb
              cases ho : o b with
              | none => simp [ho] at hb
              | some i' =>
                simp only [ho] at hb
                split at hb
                · cases hb
                · injection hb with hb; have := h5 b i' ho; omega
          · unfold ownOut; rw [hb]; simp only [if_neg (Nat.not_lt.2 (Nat.le_add_right _ _))]
            congr 1; omega
end Go.Sl
