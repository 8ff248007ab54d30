/-
  DERIVED. What functions of the program compute, read off their bodies by the machine of SlB, and that it is so. Printed by a program of this claim's own (wip/gen/gen2.py).
-/
import Derived.Test.YtaenbinoejnecaaSlClass
namespace Go.Proofs.Ytaenbinoejnecaa
open Go.Sl
set_option linter.unusedSimpArgs false
set_option linter.unusedVariables false

/-- nacrelaw05.live -/
def l05_live : Bool := true
def l05_live_out (r_ : Bool) : List Value → Value := fun ss => .bool (r_)
def l05_live_nw (r_ : Bool) : List (Chunk Sg) := []
def l05_live_rows (r_ : Bool) : List (TypeId × List Col) := []
theorem l05_live_calls {E_ : World} {G_ : Hp} {w_ : World} (hS : Sat E_ G_ w_ []) : Calls Try.prog 23 #[] w_ (Post Dg E_ G_ (l05_live_out l05_live) (l05_live_nw l05_live) (l05_live_rows l05_live)) :=
  calls_post Dg T_class_Of_ok Try.func23 mix (B := bodyOf Try.f23) (by kernel_rfl) [] [] (by kernel_rfl) (objs := []) (ros := []) (psOk_nil) (by kernel_rfl) (trivial) hS 400
    (t := Tree.freshS fun a cap => Tree.fresh fun b => Tree.ret (Value.bool true) [Chunk.row (Prod.fst (a, cap)) 2 9 (Prod.snd (a, cap)) [Col.ints IntKind.i64 [(32 : Int), (48 : Int), (64 : Int), (96 : Int), (128 : Int), (192 : Int), (256 : Int), (336 : Int), (512 : Int)]], Chunk.row (some b) 2 9 9 [Col.ints IntKind.i64 [(32 : Int), (48 : Int), (64 : Int), (96 : Int), (128 : Int), (192 : Int), (256 : Int), (336 : Int), (512 : Int)]]])
    (by kernel_rfl)
    (fun b0_0 b0_1 => fun b1_0 => RetOk.at (outf := l05_live_out) (nwf := l05_live_nw) (rowsf := l05_live_rows) (r := true) (by first | exact Eq.symm rfl | (simp only [l05_live, cond_true, cond_false]; done) | (exfalso; simp_all; done) | decide) ⟨[], [], (by decide), rfl, rfl, trivial⟩)
def l05_live_e : Entry Sg := fun
  | [] => some ⟨[], none, rowsR [], fun ss => .bool (l05_live), fun k_ => .no⟩
  | _ => none
theorem l05_live_ok : EntryOk Dg Try.prog 23 l05_live_e := by
  intro args r h
  unfold l05_live_e at h
  split at h
  · injection h with h; subst h
    refine ⟨fun K acs _ => pOk_no, fun hpre E G w hi hS => ?_⟩
    exact entry_post Dg (nw := []) rfl (l05_live_calls  hS)
  · cases h
def T_l05_live : List (Nat × Entry Sg) := (23, l05_live_e) :: T_class_Of
theorem T_l05_live_ok : TableOk Dg Try.prog T_l05_live := TableOk.cons Dg l05_live_ok T_class_Of_ok

/-- nacrelaw05.ClassTables -/
def ClassTables (s : Int) (k : Int) : Bool := (bif class_Slots k == r05_Slots k && class_Size s k == r05_Size s k then Longs (class_Table s) (r05_Table s) && l05_live else false)
def ClassTables_out (r_ : Bool) : List Value → Value := fun ss => .bool (r_)
def ClassTables_nw (r_ : Bool) : List (Chunk Sg) := []
def ClassTables_rows (r_ : Bool) : List (TypeId × List Col) := []
theorem ClassTables_calls {E_ : World} {G_ : Hp} {w_ : World} (s : Int) (k : Int) (hS : Sat E_ G_ w_ []) : Calls Try.prog 4 #[(.int .i64 s), (.int .i64 k)] w_ (Post Dg E_ G_ (ClassTables_out (ClassTables s k)) (ClassTables_nw (ClassTables s k)) (ClassTables_rows (ClassTables s k))) :=
  calls_post Dg T_l05_live_ok Try.func4 mix (B := bodyOf Try.f4) (by kernel_rfl) [(.int .i64 s), (.int .i64 k)] [.no, .no] (by kernel_rfl) (objs := []) (ros := []) (psOk_cons pOk_no (psOk_cons pOk_no (psOk_nil))) (by kernel_rfl) (trivial) hS 400
    (t := Tree.br (class_Slots k == r05_Slots k && class_Size s k == r05_Size s k) (Tree.freshS fun a cap => Tree.freshS fun a_1 cap_1 => Tree.ret (Value.bool (Longs (class_Table s) (r05_Table s) && l05_live)) [Chunk.row (Prod.fst (a, cap)) (Prod.fst (Prod.fst (2, [Col.ints IntKind.i64 (class_Table s)]), lenC [Col.ints IntKind.i64 (class_Table s)], [Col.ints IntKind.i64 (class_Table s)])) (Prod.fst (lenC [Col.ints IntKind.i64 (class_Table s)], [Col.ints IntKind.i64 (class_Table s)])) (Prod.snd (a, cap)) [Col.ints IntKind.i64 (class_Table s)], Chunk.row (Prod.fst (a_1, cap_1)) (Prod.fst (Prod.fst (2, [Col.ints IntKind.i64 (r05_Table s)]), lenC [Col.ints IntKind.i64 (r05_Table s)], [Col.ints IntKind.i64 (r05_Table s)])) (Prod.fst (lenC [Col.ints IntKind.i64 (r05_Table s)], [Col.ints IntKind.i64 (r05_Table s)])) (Prod.snd (a_1, cap_1)) [Col.ints IntKind.i64 (r05_Table s)]]) (Tree.ret (Value.bool false) []))
    (by kernel_rfl)
    (⟨fun z0 => fun b1_0 b1_1 => fun b2_0 b2_1 => RetOk.at (outf := ClassTables_out) (nwf := ClassTables_nw) (rowsf := ClassTables_rows) (r := Longs (class_Table s) (r05_Table s) && l05_live) (by first | exact Eq.symm ((cT z0).trans rfl) | (simp only [ClassTables, z0, cond_true, cond_false]; done) | (exfalso; simp_all; done) | decide) ⟨[], [], (by decide), rfl, rfl, trivial⟩, fun z0 => RetOk.at (outf := ClassTables_out) (nwf := ClassTables_nw) (rowsf := ClassTables_rows) (r := false) (by first | exact Eq.symm ((cF z0).trans rfl) | (simp only [ClassTables, z0, cond_true, cond_false]; done) | (exfalso; simp_all; done) | decide) ⟨[], [], (by decide), rfl, rfl, trivial⟩⟩)
theorem ClassTables_plain {E_ : World} {G_ : Hp} {w_ : World} (s : Int) (k : Int) (hS : Sat E_ G_ w_ []) : Calls Try.prog 4 #[(.int .i64 s), (.int .i64 k)] w_ (fun en w' => en = .returned (.bool ((ClassTables s k))) ∧ Sat E_ G_ w' []) := by
  have h := ClassTables_calls (E_ := E_) (G_ := G_) s k  hS
  refine h.mono fun en w' hp => ?_
  have hp' : Post Dg E_ G_ (fun _ => .bool ((ClassTables s k))) ([] : List (Chunk Sg)) [] en w' := hp
  rw [Post.plain] at hp'
  exact hp'
def ClassTables_e : Entry Sg := fun
  | [(.int .i64 s, _), (.int .i64 k, _)] => some ⟨[], none, rowsR [], fun ss => .bool ((ClassTables s k)), fun k_ => .no⟩
  | _ => none
theorem ClassTables_ok : EntryOk Dg Try.prog 4 ClassTables_e := by
  intro args r h
  unfold ClassTables_e at h
  split at h
  · injection h with h; subst h
    refine ⟨fun K acs _ => pOk_no, fun hpre E G w hi hS => ?_⟩
    exact entry_post Dg (nw := []) rfl (ClassTables_calls _ _  hS)
  · cases h
def T_ClassTables : List (Nat × Entry Sg) := (4, ClassTables_e) :: T_l05_live
theorem T_ClassTables_ok : TableOk Dg Try.prog T_ClassTables := TableOk.cons Dg ClassTables_ok T_l05_live_ok

/-- nacrelaw05.ClassOf -/
def ClassOf (s : Int) (z : Int) : Bool := Prod.fst (class_Of s z) == Prod.fst (r05_Of s z) && Prod.snd (class_Of s z) == Prod.snd (r05_Of s z) && l05_live
def ClassOf_out (r_ : Bool) : List Value → Value := fun ss => .bool (r_)
def ClassOf_nw (r_ : Bool) : List (Chunk Sg) := []
def ClassOf_rows (r_ : Bool) : List (TypeId × List Col) := []
theorem ClassOf_calls {E_ : World} {G_ : Hp} {w_ : World} (s : Int) (z : Int) (hS : Sat E_ G_ w_ []) : Calls Try.prog 5 #[(.int .i64 s), (.int .i64 z)] w_ (Post Dg E_ G_ (ClassOf_out (ClassOf s z)) (ClassOf_nw (ClassOf s z)) (ClassOf_rows (ClassOf s z))) :=
  calls_post Dg T_ClassTables_ok Try.func5 mix (B := bodyOf Try.f5) (by kernel_rfl) [(.int .i64 s), (.int .i64 z)] [.no, .no] (by kernel_rfl) (objs := []) (ros := []) (psOk_cons pOk_no (psOk_cons pOk_no (psOk_nil))) (by kernel_rfl) (trivial) hS 400
    (t := Tree.ret (Value.bool (Prod.fst (class_Of s z) == Prod.fst (r05_Of s z) && Prod.snd (class_Of s z) == Prod.snd (r05_Of s z) && l05_live)) [])
    (by kernel_rfl)
    (RetOk.at (outf := ClassOf_out) (nwf := ClassOf_nw) (rowsf := ClassOf_rows) (r := Prod.fst (class_Of s z) == Prod.fst (r05_Of s z) && Prod.snd (class_Of s z) == Prod.snd (r05_Of s z) && l05_live) (by first | exact Eq.symm rfl | (simp only [ClassOf, cond_true, cond_false]; done) | (exfalso; simp_all; done) | decide) ⟨[], [], (by decide), rfl, rfl, trivial⟩)
theorem ClassOf_plain {E_ : World} {G_ : Hp} {w_ : World} (s : Int) (z : Int) (hS : Sat E_ G_ w_ []) : Calls Try.prog 5 #[(.int .i64 s), (.int .i64 z)] w_ (fun en w' => en = .returned (.bool ((ClassOf s z))) ∧ Sat E_ G_ w' []) := by
  have h := ClassOf_calls (E_ := E_) (G_ := G_) s z  hS
  refine h.mono fun en w' hp => ?_
  have hp' : Post Dg E_ G_ (fun _ => .bool ((ClassOf s z))) ([] : List (Chunk Sg)) [] en w' := hp
  rw [Post.plain] at hp'
  exact hp'
def ClassOf_e : Entry Sg := fun
  | [(.int .i64 s, _), (.int .i64 z, _)] => some ⟨[], none, rowsR [], fun ss => .bool ((ClassOf s z)), fun k_ => .no⟩
  | _ => none
theorem ClassOf_ok : EntryOk Dg Try.prog 5 ClassOf_e := by
  intro args r h
  unfold ClassOf_e at h
  split at h
  · injection h with h; subst h
    refine ⟨fun K acs _ => pOk_no, fun hpre E G w hi hS => ?_⟩
    exact entry_post Dg (nw := []) rfl (ClassOf_calls _ _  hS)
  · cases h
def T_ClassOf : List (Nat × Entry Sg) := (5, ClassOf_e) :: T_ClassTables
theorem T_ClassOf_ok : TableOk Dg Try.prog T_ClassOf := TableOk.cons Dg ClassOf_ok T_ClassTables_ok

theorem size_facts : ∀ i : Nat, i < 11 → ∀ k : Nat, k < 9 → Int.tmod (class_Size (10 + (i : Int)) k) 16 = 0 ∧ 16 ≤ class_Size (10 + (i : Int)) k ∧ IntKind.wrap IntKind.i64 (class_Size (10 + (i : Int)) k * class_Slots k) ≤ 2 ^ (10 + i) ∧
    (0 < k → class_Size (10 + (i : Int)) ((k - 1 : Nat) : Int) < class_Size (10 + (i : Int)) k) ∧ class_Size (10 + (i : Int)) k ≤ 2 ^ (9 + i) ∧ (k = 8 → class_Size (10 + (i : Int)) k = 2 ^ (9 + i)) := by decide +kernel
theorem table_in {s : Int} (h : 10 ≤ s ∧ s ≤ 20) : class_Table s = (List.range 9).map fun (k : Nat) => class_Size s k := by
  have : (class_Size s 0 == 0) = false := by
    have := size_in (s := s) (k := 0) (by omega)
    simp; omega
  simp only [class_Table, this, cond_false]
theorem table_out {s : Int} (h : ¬ (10 ≤ s ∧ s ≤ 20)) : class_Table s = [] := by
  have : (class_Size s 0 == 0) = true := by
    have := (class_Size_zero (s := s) (k := 0) (by omega)).1
    simp [this]
  simp only [class_Table, this, cond_true]
theorem table_get {s k : Int} (h : 10 ≤ s ∧ s ≤ 20) (hk : 0 ≤ k ∧ k < 9) : (class_Table s).getD k.toNat 0 = class_Size s k := by
  rw [table_in h, getD_map_range _ (by omega)]
  congr 1; omega
theorem facts_in {s k : Int} (h : 10 ≤ s ∧ s ≤ 20) (hk : 0 ≤ k ∧ k < 9) : Int.tmod (class_Size s k) 16 = 0 ∧ 16 ≤ class_Size s k ∧ IntKind.wrap IntKind.i64 (class_Size s k * class_Slots k) ≤ 2 ^ s.toNat ∧ (0 < k → class_Size s (k - 1) < class_Size s k) ∧ class_Size s k ≤ 2 ^ (s - 1).toNat ∧ (k = 8 → class_Size s k = 2 ^ (s - 1).toNat) := by
  have := size_facts (s - 10).toNat (by omega) k.toNat (by omega)
  rw [show (10 + ((s - 10).toNat : Int)) = s by omega, show ((k.toNat : Nat) : Int) = k by omega, show 10 + (s - 10).toNat = s.toNat by omega, show 9 + (s - 10).toNat = (s - 1).toNat by omega] at this
  refine ⟨this.1, this.2.1, this.2.2.1, fun h0 => ?_, this.2.2.2.2.1, fun h0 => this.2.2.2.2.2 (by omega)⟩
  have h1 := this.2.2.2.1 (by omega)
  rwa [show ((k.toNat - 1 : Nat) : Int) = k - 1 by omega] at h1
theorem of_idx (o : Option Nat) : ((if 0 > idxOr o then 0 else idxOr o, decide (idxOr o ≥ 0)) : Int × Bool) = ofOpt o := by
  cases o with
  | none => rfl
  | some k =>
    have h0 : ¬ ((0 : Int) > idxOr (some k)) := by simp only [idxOr]; omega
    rw [if_neg h0]
    simp [idxOr, ofOpt]
theorem class_Of_eq (s z : Int) : class_Of s z = bif decide (z < 1) then (0, false) else ofOpt (firstGe (class_Table s) z) := by
  unfold class_Of
  cases hz : decide (z < 1) with
  | true => rfl
  | false => exact of_idx _
theorem of_facts {s : Int} (z : Int) (h : 10 ≤ s ∧ s ≤ 20) : (class_Of s z).2 = (decide (z ≥ 1) && decide (z ≤ 2 ^ (s - 1).toNat)) ∧ 0 ≤ (class_Of s z).1 ∧ (class_Of s z).1 < 9 ∧
    ((class_Of s z).2 = true → class_Size s (class_Of s z).1 ≥ z ∧ ((class_Of s z).1 = 0 ∨ class_Size s ((class_Of s z).1 - 1) < z)) := by
  have hlen : (class_Table s).length = 9 := by rw [table_in h]; simp
  rw [class_Of_eq]
  by_cases hz : z < 1
  · have e1 : decide (z < 1) = true := by simpa using hz
    have e2 : decide (z ≥ 1) = false := by simp; omega
    rw [e1, e2]
    simp
  · have e1 : decide (z < 1) = false := by simpa using hz
    have e2 : decide (z ≥ 1) = true := by simp; omega
    rw [e1, e2]
    simp only [cond_false, Bool.true_and]
    cases hf : firstGe (class_Table s) z with
    | none =>
      have := firstGe_none.1 hf 8 (by omega)
      have h8 := table_get (k := 8) h (by omega)
      simp only [show (8 : Int).toNat = 8 from rfl] at h8
      rw [h8, (facts_in (k := 8) h (by omega)).2.2.2.2.2 rfl] at this
      have e3 : decide (z ≤ 2 ^ (s - 1).toNat) = false := by simp only [decide_eq_false_iff_not]; omega
      rw [e3]
      simp [ofOpt]
    | some i =>
      obtain ⟨h1, h2, h3⟩ := firstGe_some.1 hf
      have hi := table_get (k := (i : Int)) h (by omega)
      simp only [Int.toNat_natCast] at hi
      rw [hi] at h2
      have h4 := (facts_in (k := (i : Int)) h (by omega)).2.2.2.2.1
      have e3 : decide (z ≤ 2 ^ (s - 1).toNat) = true := by simp only [decide_eq_true_eq]; omega
      rw [e3]
      simp only [ofOpt]
      refine ⟨by simp, by omega, by omega, fun _ => ⟨h2, ?_⟩⟩
      by_cases hi0 : i = 0
      · left; subst hi0; rfl
      · right
        have := h3 (i - 1) (by omega)
        have hg := table_get (k := (i : Int) - 1) h (by omega)
        rw [show ((i : Int) - 1).toNat = i - 1 by omega] at hg
        rw [hg] at this
        omega
theorem half_pow {s : Int} (h : 10 ≤ s ∧ s ≤ 20) : IntKind.wrap IntKind.i64 (Int.tdiv (2 ^ s.toNat) 2) = 2 ^ (s - 1).toNat := by
  have h1 : (2 : Int) ^ s.toNat = 2 ^ (s - 1).toNat * 2 := by rw [← pow2_succ]; congr 1; omega
  have h2 := pow2_pos (s - 1).toNat
  have h3 := pow2_le (show (s - 1).toNat ≤ 19 by omega)
  rw [h1, Int.tdiv_eq_ediv_of_nonneg (by omega), Int.mul_ediv_cancel _ (by decide), w64 (by omega)]


/-- nacrelaw05.ClassFits -/
def ClassFits (s : Int) (z : Int) : Bool := true
def ClassFits_out (r_ : Bool) : List Value → Value := fun ss => .bool (r_)
def ClassFits_nw (r_ : Bool) : List (Chunk Sg) := []
def ClassFits_rows (r_ : Bool) : List (TypeId × List Col) := []
def ClassFits_wp0 (s : Int) (z : Int) (Q1 : Int → Int → Option Nat → Nat → Prop) (R_ : Bool → Prop) : Prop := (((decide (s < (10 : Int)) || decide (s > (20 : Int))) = true → (∀ (b1_0 : Option Nat) (b1_1 : Nat), (R_ ((↑(Prod.fst (lenC [Col.ints IntKind.i64 (class_Table s)], [Col.ints IntKind.i64 (class_Table s)])) : Int) == (0 : Int) && l05_live)))) ∧ ((decide (s < (10 : Int)) || decide (s > (20 : Int))) = false → (((0 : Int) ≤ IntKind.wrap IntKind.u64 s) ∧ (((0 : Int) ≤ IntKind.wrap IntKind.u64 s) → (∀ (b2_0 : Option Nat) (b2_1 : Nat), ((((↑(Prod.fst (lenC [Col.ints IntKind.i64 (class_Table s)], [Col.ints IntKind.i64 (class_Table s)])) : Int) != (9 : Int)) = true → (R_ (false))) ∧ (((↑(Prod.fst (lenC [Col.ints IntKind.i64 (class_Table s)], [Col.ints IntKind.i64 (class_Table s)])) : Int) != (9 : Int)) = false → (Q1 ((0 : Int)) (IntKind.wrap IntKind.i64 ((1 : Int) * (2 : Int) ^ min (Int.toNat (IntKind.wrap IntKind.u64 s)) 64)) (Prod.fst (b2_0, b2_1)) (Prod.snd (b2_0, b2_1))))))))))
theorem ClassFits_pc0 {E_ : World} {G_ : Hp} (s : Int) (z : Int) {r_ : Bool} {Q1 : Int → Int → Option Nat → Nat → Prop} (hQ1 : ∀ (k : Int) (pg : Int) (a : Option Nat) (c : Nat), Q1 k pg a c → SW Dg Try.prog 6 (Post Dg E_ G_ (ClassFits_out r_) (ClassFits_nw r_) (ClassFits_rows r_)) (bodyOf Try.f6) Try.f6.ntmps E_ G_ (.code (0 :: [0,1,0,1,1,1,1,1]) :: .again [0,1,0,1,1,1,1,1] :: [.blk 0, .code [1,1,1,1,1,1]]) [⟨7, none, .int .i64 k, .no⟩, ⟨6, none, .slice (a.map fun b => ⟨b, 0, none⟩) (class_Table s).length c, .pt 0 .slice⟩, ⟨5, none, .int .i64 pg, .no⟩, ⟨0, none, .int .i64 s, .no⟩, ⟨1, none, .int .i64 z, .no⟩] [.row a 2 (class_Table s).length c [.ints .i64 (class_Table s)]]) (h : ClassFits_wp0 s z Q1 (fun x => x = r_)) : (Tree.br (decide (s < (10 : Int)) || decide (s > (20 : Int))) (Tree.freshS fun a cap => Tree.ret (Value.bool ((↑(Prod.fst (lenC [Col.ints IntKind.i64 (class_Table s)], [Col.ints IntKind.i64 (class_Table s)])) : Int) == (0 : Int) && l05_live)) [Chunk.row (Prod.fst (a, cap)) (Prod.fst (Prod.fst (2, [Col.ints IntKind.i64 (class_Table s)]), lenC [Col.ints IntKind.i64 (class_Table s)], [Col.ints IntKind.i64 (class_Table s)])) (Prod.fst (lenC [Col.ints IntKind.i64 (class_Table s)], [Col.ints IntKind.i64 (class_Table s)])) (Prod.snd (a, cap)) [Col.ints IntKind.i64 (class_Table s)]]) (Tree.need ((0 : Int) ≤ IntKind.wrap IntKind.u64 s) (Tree.freshS fun a cap => Tree.br ((↑(Prod.fst (lenC [Col.ints IntKind.i64 (class_Table s)], [Col.ints IntKind.i64 (class_Table s)])) : Int) != (9 : Int)) (Tree.ret (Value.bool false) [Chunk.row (Prod.fst (a, cap)) (Prod.fst (Prod.fst (2, [Col.ints IntKind.i64 (class_Table s)]), lenC [Col.ints IntKind.i64 (class_Table s)], [Col.ints IntKind.i64 (class_Table s)])) (Prod.fst (lenC [Col.ints IntKind.i64 (class_Table s)], [Col.ints IntKind.i64 (class_Table s)])) (Prod.snd (a, cap)) [Col.ints IntKind.i64 (class_Table s)]]) (Tree.stuck [Ab.code [0, 1, 0, 1, 1, 1, 1, 1], Ab.blk 0, Ab.code [1, 1, 1, 1, 1, 1]] [{ s := 7, g := none, v := Value.int IntKind.i64 (0 : Int), p := Pr.no }, { s := 30, g := none, v := Value.bool ((↑(Prod.fst (lenC [Col.ints IntKind.i64 (class_Table s)], [Col.ints IntKind.i64 (class_Table s)])) : Int) != (9 : Int)), p := Pr.no }, { s := 29, g := none, v := Value.int IntKind.i64 (↑(Prod.fst (lenC [Col.ints IntKind.i64 (class_Table s)], [Col.ints IntKind.i64 (class_Table s)])) : Int), p := Pr.no }, { s := 28, g := none, v := Value.slice (Option.map (fun b => { block := b, off := 0 }) (Prod.fst (a, cap))) (Prod.fst (lenC [Col.ints IntKind.i64 (class_Table s)], [Col.ints IntKind.i64 (class_Table s)])) (Prod.snd (a, cap)), p := Pr.pt 0 PK.slice }, { s := 6, g := none, v := Value.slice (Option.map (fun b => { block := b, off := 0 }) (Prod.fst (a, cap))) (Prod.fst (lenC [Col.ints IntKind.i64 (class_Table s)], [Col.ints IntKind.i64 (class_Table s)])) (Prod.snd (a, cap)), p := Pr.pt 0 PK.slice }, { s := 27, g := none, v := Value.slice (Option.map (fun b => { block := b, off := 0 }) (Prod.fst (a, cap))) (Prod.fst (lenC [Col.ints IntKind.i64 (class_Table s)], [Col.ints IntKind.i64 (class_Table s)])) (Prod.snd (a, cap)), p := Pr.pt 0 PK.slice }, { s := 26, g := none, v := Value.int IntKind.i64 s, p := Pr.no }, { s := 5, g := none, v := Value.int IntKind.i64 (IntKind.wrap IntKind.i64 ((1 : Int) * (2 : Int) ^ min (Int.toNat (IntKind.wrap IntKind.u64 s)) 64)), p := Pr.no }, { s := 25, g := none, v := Value.int IntKind.i64 (IntKind.wrap IntKind.i64 ((1 : Int) * (2 : Int) ^ min (Int.toNat (IntKind.wrap IntKind.u64 s)) 64)), p := Pr.no }, { s := 24, g := none, v := Value.int IntKind.u64 (IntKind.wrap IntKind.u64 s), p := Pr.no }, { s := 23, g := none, v := Value.int IntKind.i64 s, p := Pr.no }, { s := 15, g := none, v := Value.bool (decide (s < (10 : Int)) || decide (s > (20 : Int))), p := Pr.no }, { s := 14, g := some (12, false), v := Value.bool (decide (s > (20 : Int))), p := Pr.no }, { s := 13, g := some (12, false), v := Value.int IntKind.i64 s, p := Pr.no }, { s := 12, g := none, v := Value.bool (decide (s < (10 : Int))), p := Pr.no }, { s := 11, g := none, v := Value.bool (decide (s < (10 : Int))), p := Pr.no }, { s := 10, g := none, v := Value.int IntKind.i64 s, p := Pr.no }, { s := 4, g := none, v := Value.bool false, p := Pr.no }, { s := 0, g := none, v := Value.int IntKind.i64 s, p := Pr.no }, { s := 1, g := none, v := Value.int IntKind.i64 z, p := Pr.no }] [Chunk.row (Prod.fst (a, cap)) (Prod.fst (Prod.fst (2, [Col.ints IntKind.i64 (class_Table s)]), lenC [Col.ints IntKind.i64 (class_Table s)], [Col.ints IntKind.i64 (class_Table s)])) (Prod.fst (lenC [Col.ints IntKind.i64 (class_Table s)], [Col.ints IntKind.i64 (class_Table s)])) (Prod.snd (a, cap)) [Col.ints IntKind.i64 (class_Table s)]]))) : Tree Sg).holds (RetOk (ClassFits_out r_) (ClassFits_nw r_) (ClassFits_rows r_)) (SW Dg Try.prog 6 (Post Dg E_ G_ (ClassFits_out r_) (ClassFits_nw r_) (ClassFits_rows r_)) (bodyOf Try.f6) Try.f6.ntmps E_ G_) :=
  ⟨fun z0 => fun b1_0 b1_1 => RetOk.at (outf := ClassFits_out) (nwf := ClassFits_nw) (rowsf := ClassFits_rows) (r := (↑(Prod.fst (lenC [Col.ints IntKind.i64 (class_Table s)], [Col.ints IntKind.i64 (class_Table s)])) : Int) == (0 : Int) && l05_live) ((h.1 z0) b1_0 b1_1) ⟨[], [], (by decide), rfl, rfl, trivial⟩, fun z0 => ⟨(h.2 z0).1, fun z1 => fun b2_0 b2_1 => ⟨fun z3 => RetOk.at (outf := ClassFits_out) (nwf := ClassFits_nw) (rowsf := ClassFits_rows) (r := false) ((((h.2 z0).2 z1) b2_0 b2_1).1 z3) ⟨[], [], (by decide), rfl, rfl, trivial⟩, fun z3 => SW.move Dg [7, 6, 5, 0, 1] [0] (by decide) (by kernel_rfl) (by kernel_rfl) (SW.enter Dg (by kernel_rfl) (hQ1 ((0 : Int)) (IntKind.wrap IntKind.i64 ((1 : Int) * (2 : Int) ^ min (Int.toNat (IntKind.wrap IntKind.u64 s)) 64)) (Prod.fst (b2_0, b2_1)) (Prod.snd (b2_0, b2_1)) ((((h.2 z0).2 z1) b2_0 b2_1).2 z3)))⟩⟩⟩
def ClassFits_wp1 (s : Int) (z : Int) (k : Int) (pg : Int) (a : Option Nat) (c : Nat) (Q1 : Int → Int → Option Nat → Nat → Prop) (R_ : Bool → Prop) : Prop := (((decide (k < (9 : Int))) = true → (((0 : Int) ≤ k ∧ k < (↑(List.length (class_Table s)) : Int)) ∧ (((0 : Int) ≤ k ∧ k < (↑(List.length (class_Table s)) : Int)) → (((Int.tmod (List.getD (class_Table s) (Int.toNat k) (0 : Int)) (16 : Int) != (0 : Int)) = false → (0 : Int) ≤ k ∧ k < (↑(List.length (class_Table s)) : Int)) ∧ (((Int.tmod (List.getD (class_Table s) (Int.toNat k) (0 : Int)) (16 : Int) != (0 : Int)) = false → (0 : Int) ≤ k ∧ k < (↑(List.length (class_Table s)) : Int)) → (((Int.tmod (List.getD (class_Table s) (Int.toNat k) (0 : Int)) (16 : Int) != (0 : Int) || decide (List.getD (class_Table s) (Int.toNat k) (0 : Int) < (16 : Int))) = false → (0 : Int) ≤ k ∧ k < (↑(List.length (class_Table s)) : Int)) ∧ (((Int.tmod (List.getD (class_Table s) (Int.toNat k) (0 : Int)) (16 : Int) != (0 : Int) || decide (List.getD (class_Table s) (Int.toNat k) (0 : Int) < (16 : Int))) = false → (0 : Int) ≤ k ∧ k < (↑(List.length (class_Table s)) : Int)) → ((decide (k > (0 : Int)) = true → (0 : Int) ≤ k ∧ k < (↑(List.length (class_Table s)) : Int)) ∧ ((decide (k > (0 : Int)) = true → (0 : Int) ≤ k ∧ k < (↑(List.length (class_Table s)) : Int)) → ((decide (k > (0 : Int)) = true → (0 : Int) ≤ IntKind.wrap IntKind.i64 (k - (1 : Int)) ∧ IntKind.wrap IntKind.i64 (k - (1 : Int)) < (↑(List.length (class_Table s)) : Int)) ∧ ((decide (k > (0 : Int)) = true → (0 : Int) ≤ IntKind.wrap IntKind.i64 (k - (1 : Int)) ∧ IntKind.wrap IntKind.i64 (k - (1 : Int)) < (↑(List.length (class_Table s)) : Int)) → (((Int.tmod (List.getD (class_Table s) (Int.toNat k) (0 : Int)) (16 : Int) != (0 : Int) || decide (List.getD (class_Table s) (Int.toNat k) (0 : Int) < (16 : Int)) || decide (IntKind.wrap IntKind.i64 (List.getD (class_Table s) (Int.toNat k) (0 : Int) * class_Slots k) > pg) || decide (k > (0 : Int)) && decide (List.getD (class_Table s) (Int.toNat k) (0 : Int) ≤ List.getD (class_Table s) (Int.toNat (IntKind.wrap IntKind.i64 (k - (1 : Int)))) (0 : Int))) = true → (R_ (false))) ∧ ((Int.tmod (List.getD (class_Table s) (Int.toNat k) (0 : Int)) (16 : Int) != (0 : Int) || decide (List.getD (class_Table s) (Int.toNat k) (0 : Int) < (16 : Int)) || decide (IntKind.wrap IntKind.i64 (List.getD (class_Table s) (Int.toNat k) (0 : Int) * class_Slots k) > pg) || decide (k > (0 : Int)) && decide (List.getD (class_Table s) (Int.toNat k) (0 : Int) ≤ List.getD (class_Table s) (Int.toNat (IntKind.wrap IntKind.i64 (k - (1 : Int)))) (0 : Int))) = false → (Q1 (IntKind.wrap IntKind.i64 (k + (1 : Int))) (pg) (a) (c))))))))))))))) ∧ ((decide (k < (9 : Int))) = false → (((!Prod.snd (class_Of s z) == (decide (z ≥ (1 : Int)) && decide (z ≤ IntKind.wrap IntKind.i64 (Int.tdiv pg (2 : Int))))) = true → (R_ (false))) ∧ ((!Prod.snd (class_Of s z) == (decide (z ≥ (1 : Int)) && decide (z ≤ IntKind.wrap IntKind.i64 (Int.tdiv pg (2 : Int))))) = false → (((decide (Prod.fst (class_Of s z) ≥ (0 : Int)) && decide (Prod.fst (class_Of s z) < (9 : Int))) = true → (0 : Int) ≤ Prod.fst (class_Of s z) ∧ Prod.fst (class_Of s z) < (↑(List.length (class_Table s)) : Int)) ∧ (((decide (Prod.fst (class_Of s z) ≥ (0 : Int)) && decide (Prod.fst (class_Of s z) < (9 : Int))) = true → (0 : Int) ≤ Prod.fst (class_Of s z) ∧ Prod.fst (class_Of s z) < (↑(List.length (class_Table s)) : Int)) → (((Prod.fst (class_Of s z) == (0 : Int)) = false → (0 : Int) ≤ IntKind.wrap IntKind.i64 (Prod.fst (class_Of s z) - (1 : Int)) ∧ IntKind.wrap IntKind.i64 (Prod.fst (class_Of s z) - (1 : Int)) < (↑(List.length (class_Table s)) : Int)) ∧ (((Prod.fst (class_Of s z) == (0 : Int)) = false → (0 : Int) ≤ IntKind.wrap IntKind.i64 (Prod.fst (class_Of s z) - (1 : Int)) ∧ IntKind.wrap IntKind.i64 (Prod.fst (class_Of s z) - (1 : Int)) < (↑(List.length (class_Table s)) : Int)) → (R_ ((!Prod.snd (class_Of s z) || decide (Prod.fst (class_Of s z) ≥ (0 : Int)) && decide (Prod.fst (class_Of s z) < (9 : Int)) && decide (List.getD (class_Table s) (Int.toNat (Prod.fst (class_Of s z))) (0 : Int) ≥ z) && (Prod.fst (class_Of s z) == (0 : Int) || decide (List.getD (class_Table s) (Int.toNat (IntKind.wrap IntKind.i64 (Prod.fst (class_Of s z) - (1 : Int)))) (0 : Int) < z))) && l05_live))))))))))
theorem ClassFits_pc1 {E_ : World} {G_ : Hp} (s : Int) (z : Int) (k : Int) (pg : Int) (a : Option Nat) (c : Nat) {r_ : Bool} {Q1 : Int → Int → Option Nat → Nat → Prop} (hQ1 : ∀ (k : Int) (pg : Int) (a : Option Nat) (c : Nat), Q1 k pg a c → SW Dg Try.prog 6 (Post Dg E_ G_ (ClassFits_out r_) (ClassFits_nw r_) (ClassFits_rows r_)) (bodyOf Try.f6) Try.f6.ntmps E_ G_ (.code (0 :: [0,1,0,1,1,1,1,1]) :: .again [0,1,0,1,1,1,1,1] :: [.blk 0, .code [1,1,1,1,1,1]]) [⟨7, none, .int .i64 k, .no⟩, ⟨6, none, .slice (a.map fun b => ⟨b, 0, none⟩) (class_Table s).length c, .pt 0 .slice⟩, ⟨5, none, .int .i64 pg, .no⟩, ⟨0, none, .int .i64 s, .no⟩, ⟨1, none, .int .i64 z, .no⟩] [.row a 2 (class_Table s).length c [.ints .i64 (class_Table s)]]) (h : ClassFits_wp1 s z k pg a c Q1 (fun x => x = r_)) : (Tree.br (decide (k < (9 : Int))) (Tree.need ((0 : Int) ≤ k ∧ k < (↑(List.length (class_Table s)) : Int)) (Tree.need ((Int.tmod (List.getD (class_Table s) (Int.toNat k) (0 : Int)) (16 : Int) != (0 : Int)) = false → (0 : Int) ≤ k ∧ k < (↑(List.length (class_Table s)) : Int)) (Tree.need ((Int.tmod (List.getD (class_Table s) (Int.toNat k) (0 : Int)) (16 : Int) != (0 : Int) || decide (List.getD (class_Table s) (Int.toNat k) (0 : Int) < (16 : Int))) = false → (0 : Int) ≤ k ∧ k < (↑(List.length (class_Table s)) : Int)) (Tree.need (decide (k > (0 : Int)) = true → (0 : Int) ≤ k ∧ k < (↑(List.length (class_Table s)) : Int)) (Tree.need (decide (k > (0 : Int)) = true → (0 : Int) ≤ IntKind.wrap IntKind.i64 (k - (1 : Int)) ∧ IntKind.wrap IntKind.i64 (k - (1 : Int)) < (↑(List.length (class_Table s)) : Int)) (Tree.br (Int.tmod (List.getD (class_Table s) (Int.toNat k) (0 : Int)) (16 : Int) != (0 : Int) || decide (List.getD (class_Table s) (Int.toNat k) (0 : Int) < (16 : Int)) || decide (IntKind.wrap IntKind.i64 (List.getD (class_Table s) (Int.toNat k) (0 : Int) * class_Slots k) > pg) || decide (k > (0 : Int)) && decide (List.getD (class_Table s) (Int.toNat k) (0 : Int) ≤ List.getD (class_Table s) (Int.toNat (IntKind.wrap IntKind.i64 (k - (1 : Int)))) (0 : Int))) (Tree.ret (Value.bool false) [Chunk.row a 2 (List.length (class_Table s)) c [Col.ints IntKind.i64 (class_Table s)]]) (Tree.stuck [Ab.again [0, 1, 0, 1, 1, 1, 1, 1], Ab.blk 0, Ab.code [1, 1, 1, 1, 1, 1]] [{ s := 7, g := none, v := Value.int IntKind.i64 (IntKind.wrap IntKind.i64 (k + (1 : Int))), p := Pr.no }, { s := 34, g := none, v := Value.int IntKind.i64 (IntKind.wrap IntKind.i64 (k + (1 : Int))), p := Pr.no }, { s := 33, g := none, v := Value.int IntKind.i64 k, p := Pr.no }, { s := 74, g := none, v := Value.bool (Int.tmod (List.getD (class_Table s) (Int.toNat k) (0 : Int)) (16 : Int) != (0 : Int) || decide (List.getD (class_Table s) (Int.toNat k) (0 : Int) < (16 : Int)) || decide (IntKind.wrap IntKind.i64 (List.getD (class_Table s) (Int.toNat k) (0 : Int) * class_Slots k) > pg) || decide (k > (0 : Int)) && decide (List.getD (class_Table s) (Int.toNat k) (0 : Int) ≤ List.getD (class_Table s) (Int.toNat (IntKind.wrap IntKind.i64 (k - (1 : Int)))) (0 : Int))), p := Pr.no }, { s := 73, g := some (59, false), v := Value.bool (decide (k > (0 : Int)) && decide (List.getD (class_Table s) (Int.toNat k) (0 : Int) ≤ List.getD (class_Table s) (Int.toNat (IntKind.wrap IntKind.i64 (k - (1 : Int)))) (0 : Int))), p := Pr.no }, { s := 72, g := some (62, true), v := Value.bool (decide (List.getD (class_Table s) (Int.toNat k) (0 : Int) ≤ List.getD (class_Table s) (Int.toNat (IntKind.wrap IntKind.i64 (k - (1 : Int)))) (0 : Int))), p := Pr.no }, { s := 71, g := some (62, true), v := Value.int IntKind.i64 (List.getD (class_Table s) (Int.toNat (IntKind.wrap IntKind.i64 (k - (1 : Int)))) (0 : Int)), p := Pr.no }, { s := 70, g := some (62, true), v := Value.pointer (Option.map (fun a => Addr.add a (Int.toNat (IntKind.wrap IntKind.i64 (k - (1 : Int))) * 1)) (Option.map (fun b => { block := b, off := 0 }) a)), p := Pr.pt 0 (PK.elem (Int.toNat (IntKind.wrap IntKind.i64 (k - (1 : Int)))) 0) }, { s := 69, g := some (62, true), v := Value.int IntKind.i64 (IntKind.wrap IntKind.i64 (k - (1 : Int))), p := Pr.no }, { s := 68, g := some (62, true), v := Value.int IntKind.i64 k, p := Pr.no }, { s := 67, g := some (62, true), v := Value.slice (Option.map (fun b => { block := b, off := 0 }) a) (List.length (class_Table s)) c, p := Pr.pt 0 PK.slice }, { s := 66, g := some (62, true), v := Value.int IntKind.i64 (List.getD (class_Table s) (Int.toNat k) (0 : Int)), p := Pr.no }, { s := 65, g := some (62, true), v := Value.pointer (Option.map (fun a => Addr.add a (Int.toNat k * 1)) (Option.map (fun b => { block := b, off := 0 }) a)), p := Pr.pt 0 (PK.elem (Int.toNat k) 0) }, { s := 64, g := some (62, true), v := Value.int IntKind.i64 k, p := Pr.no }, { s := 63, g := some (62, true), v := Value.slice (Option.map (fun b => { block := b, off := 0 }) a) (List.length (class_Table s)) c, p := Pr.pt 0 PK.slice }, { s := 62, g := some (59, false), v := Value.bool (decide (k > (0 : Int))), p := Pr.no }, { s := 61, g := some (59, false), v := Value.bool (decide (k > (0 : Int))), p := Pr.no }, { s := 60, g := some (59, false), v := Value.int IntKind.i64 k, p := Pr.no }, { s := 59, g := none, v := Value.bool (Int.tmod (List.getD (class_Table s) (Int.toNat k) (0 : Int)) (16 : Int) != (0 : Int) || decide (List.getD (class_Table s) (Int.toNat k) (0 : Int) < (16 : Int)) || decide (IntKind.wrap IntKind.i64 (List.getD (class_Table s) (Int.toNat k) (0 : Int) * class_Slots k) > pg)), p := Pr.no }, { s := 58, g := none, v := Value.bool (Int.tmod (List.getD (class_Table s) (Int.toNat k) (0 : Int)) (16 : Int) != (0 : Int) || decide (List.getD (class_Table s) (Int.toNat k) (0 : Int) < (16 : Int)) || decide (IntKind.wrap IntKind.i64 (List.getD (class_Table s) (Int.toNat k) (0 : Int) * class_Slots k) > pg)), p := Pr.no }, { s := 57, g := some (48, false), v := Value.bool (decide (IntKind.wrap IntKind.i64 (List.getD (class_Table s) (Int.toNat k) (0 : Int) * class_Slots k) > pg)), p := Pr.no }, { s := 56, g := some (48, false), v := Value.int IntKind.i64 pg, p := Pr.no }, { s := 55, g := some (48, false), v := Value.int IntKind.i64 (IntKind.wrap IntKind.i64 (List.getD (class_Table s) (Int.toNat k) (0 : Int) * class_Slots k)), p := Pr.no }, { s := 54, g := some (48, false), v := Value.int IntKind.i64 (class_Slots k), p := Pr.no }, { s := 53, g := some (48, false), v := Value.int IntKind.i64 k, p := Pr.no }, { s := 52, g := some (48, false), v := Value.int IntKind.i64 (List.getD (class_Table s) (Int.toNat k) (0 : Int)), p := Pr.no }, { s := 51, g := some (48, false), v := Value.pointer (Option.map (fun a => Addr.add a (Int.toNat k * 1)) (Option.map (fun b => { block := b, off := 0 }) a)), p := Pr.pt 0 (PK.elem (Int.toNat k) 0) }, { s := 50, g := some (48, false), v := Value.int IntKind.i64 k, p := Pr.no }, { s := 49, g := some (48, false), v := Value.slice (Option.map (fun b => { block := b, off := 0 }) a) (List.length (class_Table s)) c, p := Pr.pt 0 PK.slice }, { s := 48, g := none, v := Value.bool (Int.tmod (List.getD (class_Table s) (Int.toNat k) (0 : Int)) (16 : Int) != (0 : Int) || decide (List.getD (class_Table s) (Int.toNat k) (0 : Int) < (16 : Int))), p := Pr.no }, { s := 47, g := none, v := Value.bool (Int.tmod (List.getD (class_Table s) (Int.toNat k) (0 : Int)) (16 : Int) != (0 : Int) || decide (List.getD (class_Table s) (Int.toNat k) (0 : Int) < (16 : Int))), p := Pr.no }, { s := 46, g := some (41, false), v := Value.bool (decide (List.getD (class_Table s) (Int.toNat k) (0 : Int) < (16 : Int))), p := Pr.no }, { s := 45, g := some (41, false), v := Value.int IntKind.i64 (List.getD (class_Table s) (Int.toNat k) (0 : Int)), p := Pr.no }, { s := 44, g := some (41, false), v := Value.pointer (Option.map (fun a => Addr.add a (Int.toNat k * 1)) (Option.map (fun b => { block := b, off := 0 }) a)), p := Pr.pt 0 (PK.elem (Int.toNat k) 0) }, { s := 43, g := some (41, false), v := Value.int IntKind.i64 k, p := Pr.no }, { s := 42, g := some (41, false), v := Value.slice (Option.map (fun b => { block := b, off := 0 }) a) (List.length (class_Table s)) c, p := Pr.pt 0 PK.slice }, { s := 41, g := none, v := Value.bool (Int.tmod (List.getD (class_Table s) (Int.toNat k) (0 : Int)) (16 : Int) != (0 : Int)), p := Pr.no }, { s := 40, g := none, v := Value.bool (Int.tmod (List.getD (class_Table s) (Int.toNat k) (0 : Int)) (16 : Int) != (0 : Int)), p := Pr.no }, { s := 39, g := none, v := Value.int IntKind.i64 (Int.tmod (List.getD (class_Table s) (Int.toNat k) (0 : Int)) (16 : Int)), p := Pr.no }, { s := 38, g := none, v := Value.int IntKind.i64 (List.getD (class_Table s) (Int.toNat k) (0 : Int)), p := Pr.no }, { s := 37, g := none, v := Value.pointer (Option.map (fun a => Addr.add a (Int.toNat k * 1)) (Option.map (fun b => { block := b, off := 0 }) a)), p := Pr.pt 0 (PK.elem (Int.toNat k) 0) }, { s := 36, g := none, v := Value.int IntKind.i64 k, p := Pr.no }, { s := 35, g := none, v := Value.slice (Option.map (fun b => { block := b, off := 0 }) a) (List.length (class_Table s)) c, p := Pr.pt 0 PK.slice }, { s := 32, g := none, v := Value.bool (decide (k < (9 : Int))), p := Pr.no }, { s := 31, g := none, v := Value.int IntKind.i64 k, p := Pr.no }, { s := 6, g := none, v := Value.slice (Option.map (fun b => { block := b, off := 0 }) a) (List.length (class_Table s)) c, p := Pr.pt 0 PK.slice }, { s := 5, g := none, v := Value.int IntKind.i64 pg, p := Pr.no }, { s := 0, g := none, v := Value.int IntKind.i64 s, p := Pr.no }, { s := 1, g := none, v := Value.int IntKind.i64 z, p := Pr.no }] [Chunk.row a 2 (List.length (class_Table s)) c [Col.ints IntKind.i64 (class_Table s)]])))))))
  (Tree.br (!Prod.snd (class_Of s z) == (decide (z ≥ (1 : Int)) && decide (z ≤ IntKind.wrap IntKind.i64 (Int.tdiv pg (2 : Int))))) (Tree.ret (Value.bool false) [Chunk.row a 2 (List.length (class_Table s)) c [Col.ints IntKind.i64 (class_Table s)]]) (Tree.need ((decide (Prod.fst (class_Of s z) ≥ (0 : Int)) && decide (Prod.fst (class_Of s z) < (9 : Int))) = true → (0 : Int) ≤ Prod.fst (class_Of s z) ∧ Prod.fst (class_Of s z) < (↑(List.length (class_Table s)) : Int)) (Tree.need ((Prod.fst (class_Of s z) == (0 : Int)) = false → (0 : Int) ≤ IntKind.wrap IntKind.i64 (Prod.fst (class_Of s z) - (1 : Int)) ∧ IntKind.wrap IntKind.i64 (Prod.fst (class_Of s z) - (1 : Int)) < (↑(List.length (class_Table s)) : Int)) (Tree.ret (Value.bool ((!Prod.snd (class_Of s z) || decide (Prod.fst (class_Of s z) ≥ (0 : Int)) && decide (Prod.fst (class_Of s z) < (9 : Int)) && decide (List.getD (class_Table s) (Int.toNat (Prod.fst (class_Of s z))) (0 : Int) ≥ z) && (Prod.fst (class_Of s z) == (0 : Int) || decide (List.getD (class_Table s) (Int.toNat (IntKind.wrap IntKind.i64 (Prod.fst (class_Of s z) - (1 : Int)))) (0 : Int) < z))) && l05_live)) [Chunk.row a 2 (List.length (class_Table s)) c [Col.ints IntKind.i64 (class_Table s)]])))) : Tree Sg).holds (RetOk (ClassFits_out r_) (ClassFits_nw r_) (ClassFits_rows r_)) (SW Dg Try.prog 6 (Post Dg E_ G_ (ClassFits_out r_) (ClassFits_nw r_) (ClassFits_rows r_)) (bodyOf Try.f6) Try.f6.ntmps E_ G_) :=
  ⟨fun z0 => ⟨(h.1 z0).1, fun z1 => ⟨((h.1 z0).2 z1).1, fun z2 => ⟨(((h.1 z0).2 z1).2 z2).1, fun z3 => ⟨((((h.1 z0).2 z1).2 z2).2 z3).1, fun z4 => ⟨(((((h.1 z0).2 z1).2 z2).2 z3).2 z4).1, fun z5 => ⟨fun z6 => RetOk.at (outf := ClassFits_out) (nwf := ClassFits_nw) (rowsf := ClassFits_rows) (r := false) (((((((h.1 z0).2 z1).2 z2).2 z3).2 z4).2 z5).1 z6) ⟨[], [], (by decide), rfl, rfl, trivial⟩, fun z6 => SW.move Dg [7, 6, 5, 0, 1] [0] (by decide) (by kernel_rfl) (by kernel_rfl) (SW.again Dg (hQ1 (IntKind.wrap IntKind.i64 (k + (1 : Int))) (pg) (a) (c) (((((((h.1 z0).2 z1).2 z2).2 z3).2 z4).2 z5).2 z6)))⟩⟩⟩⟩⟩⟩, fun z0 => ⟨fun z1 => RetOk.at (outf := ClassFits_out) (nwf := ClassFits_nw) (rowsf := ClassFits_rows) (r := false) ((h.2 z0).1 z1) ⟨[], [], (by decide), rfl, rfl, trivial⟩, fun z1 => ⟨((h.2 z0).2 z1).1, fun z2 => ⟨(((h.2 z0).2 z1).2 z2).1, fun z3 => RetOk.at (outf := ClassFits_out) (nwf := ClassFits_nw) (rowsf := ClassFits_rows) (r := (!Prod.snd (class_Of s z) || decide (Prod.fst (class_Of s z) ≥ (0 : Int)) && decide (Prod.fst (class_Of s z) < (9 : Int)) && decide (List.getD (class_Table s) (Int.toNat (Prod.fst (class_Of s z))) (0 : Int) ≥ z) && (Prod.fst (class_Of s z) == (0 : Int) || decide (List.getD (class_Table s) (Int.toNat (IntKind.wrap IntKind.i64 (Prod.fst (class_Of s z) - (1 : Int)))) (0 : Int) < z))) && l05_live) ((((h.2 z0).2 z1).2 z2).2 z3) ⟨[], [], (by decide), rfl, rfl, trivial⟩⟩⟩⟩⟩
theorem ClassFits_go1 {E_ : World} {G_ : Hp} (s : Int) (z : Int) (k : Int) (pg : Int) (a : Option Nat) (c : Nat) {r_ : Bool} {Q1 : Int → Int → Option Nat → Nat → Prop} (hQ1 : ∀ (k : Int) (pg : Int) (a : Option Nat) (c : Nat), Q1 k pg a c → SW Dg Try.prog 6 (Post Dg E_ G_ (ClassFits_out r_) (ClassFits_nw r_) (ClassFits_rows r_)) (bodyOf Try.f6) Try.f6.ntmps E_ G_ (.code (0 :: [0,1,0,1,1,1,1,1]) :: .again [0,1,0,1,1,1,1,1] :: [.blk 0, .code [1,1,1,1,1,1]]) [⟨7, none, .int .i64 k, .no⟩, ⟨6, none, .slice (a.map fun b => ⟨b, 0, none⟩) (class_Table s).length c, .pt 0 .slice⟩, ⟨5, none, .int .i64 pg, .no⟩, ⟨0, none, .int .i64 s, .no⟩, ⟨1, none, .int .i64 z, .no⟩] [.row a 2 (class_Table s).length c [.ints .i64 (class_Table s)]]) (h : ClassFits_wp1 s z k pg a c Q1 (fun x => x = r_)) : SW Dg Try.prog 6 (Post Dg E_ G_ (ClassFits_out r_) (ClassFits_nw r_) (ClassFits_rows r_)) (bodyOf Try.f6) Try.f6.ntmps E_ G_ (.code (0 :: [0,1,0,1,1,1,1,1]) :: .again [0,1,0,1,1,1,1,1] :: [.blk 0, .code [1,1,1,1,1,1]]) [⟨7, none, .int .i64 k, .no⟩, ⟨6, none, .slice (a.map fun b => ⟨b, 0, none⟩) (class_Table s).length c, .pt 0 .slice⟩, ⟨5, none, .int .i64 pg, .no⟩, ⟨0, none, .int .i64 s, .no⟩, ⟨1, none, .int .i64 z, .no⟩] [.row a 2 (class_Table s).length c [.ints .i64 (class_Table s)]] :=
  SW.go Dg T_ClassOf_ok Try.func6 mix 400 (by kernel_rfl) (ClassFits_pc1 s z k pg a c hQ1 h)
theorem ClassFits_start {E_ : World} {G_ : Hp} {w_ : World} (s : Int) (z : Int) {r_ : Bool} {Q1 : Int → Int → Option Nat → Nat → Prop} (hQ1 : ∀ (k : Int) (pg : Int) (a : Option Nat) (c : Nat), Q1 k pg a c → SW Dg Try.prog 6 (Post Dg E_ G_ (ClassFits_out r_) (ClassFits_nw r_) (ClassFits_rows r_)) (bodyOf Try.f6) Try.f6.ntmps E_ G_ (.code (0 :: [0,1,0,1,1,1,1,1]) :: .again [0,1,0,1,1,1,1,1] :: [.blk 0, .code [1,1,1,1,1,1]]) [⟨7, none, .int .i64 k, .no⟩, ⟨6, none, .slice (a.map fun b => ⟨b, 0, none⟩) (class_Table s).length c, .pt 0 .slice⟩, ⟨5, none, .int .i64 pg, .no⟩, ⟨0, none, .int .i64 s, .no⟩, ⟨1, none, .int .i64 z, .no⟩] [.row a 2 (class_Table s).length c [.ints .i64 (class_Table s)]]) (hS : Sat E_ G_ w_ []) (h : ClassFits_wp0 s z Q1 (fun x => x = r_)) : Calls Try.prog 6 #[(.int .i64 s), (.int .i64 z)] w_ (Post Dg E_ G_ (ClassFits_out r_) (ClassFits_nw r_) (ClassFits_rows r_)) :=
  calls_post Dg T_ClassOf_ok Try.func6 mix (B := bodyOf Try.f6) (by kernel_rfl) [(.int .i64 s), (.int .i64 z)] [.no, .no] (by kernel_rfl) (objs := []) (ros := []) (psOk_cons pOk_no (psOk_cons pOk_no (psOk_nil))) (by kernel_rfl) (trivial) hS 400
    (t := Tree.br (decide (s < (10 : Int)) || decide (s > (20 : Int))) (Tree.freshS fun a cap => Tree.ret (Value.bool ((↑(Prod.fst (lenC [Col.ints IntKind.i64 (class_Table s)], [Col.ints IntKind.i64 (class_Table s)])) : Int) == (0 : Int) && l05_live)) [Chunk.row (Prod.fst (a, cap)) (Prod.fst (Prod.fst (2, [Col.ints IntKind.i64 (class_Table s)]), lenC [Col.ints IntKind.i64 (class_Table s)], [Col.ints IntKind.i64 (class_Table s)])) (Prod.fst (lenC [Col.ints IntKind.i64 (class_Table s)], [Col.ints IntKind.i64 (class_Table s)])) (Prod.snd (a, cap)) [Col.ints IntKind.i64 (class_Table s)]]) (Tree.need ((0 : Int) ≤ IntKind.wrap IntKind.u64 s) (Tree.freshS fun a cap => Tree.br ((↑(Prod.fst (lenC [Col.ints IntKind.i64 (class_Table s)], [Col.ints IntKind.i64 (class_Table s)])) : Int) != (9 : Int)) (Tree.ret (Value.bool false) [Chunk.row (Prod.fst (a, cap)) (Prod.fst (Prod.fst (2, [Col.ints IntKind.i64 (class_Table s)]), lenC [Col.ints IntKind.i64 (class_Table s)], [Col.ints IntKind.i64 (class_Table s)])) (Prod.fst (lenC [Col.ints IntKind.i64 (class_Table s)], [Col.ints IntKind.i64 (class_Table s)])) (Prod.snd (a, cap)) [Col.ints IntKind.i64 (class_Table s)]]) (Tree.stuck [Ab.code [0, 1, 0, 1, 1, 1, 1, 1], Ab.blk 0, Ab.code [1, 1, 1, 1, 1, 1]] [{ s := 7, g := none, v := Value.int IntKind.i64 (0 : Int), p := Pr.no }, { s := 30, g := none, v := Value.bool ((↑(Prod.fst (lenC [Col.ints IntKind.i64 (class_Table s)], [Col.ints IntKind.i64 (class_Table s)])) : Int) != (9 : Int)), p := Pr.no }, { s := 29, g := none, v := Value.int IntKind.i64 (↑(Prod.fst (lenC [Col.ints IntKind.i64 (class_Table s)], [Col.ints IntKind.i64 (class_Table s)])) : Int), p := Pr.no }, { s := 28, g := none, v := Value.slice (Option.map (fun b => { block := b, off := 0 }) (Prod.fst (a, cap))) (Prod.fst (lenC [Col.ints IntKind.i64 (class_Table s)], [Col.ints IntKind.i64 (class_Table s)])) (Prod.snd (a, cap)), p := Pr.pt 0 PK.slice }, { s := 6, g := none, v := Value.slice (Option.map (fun b => { block := b, off := 0 }) (Prod.fst (a, cap))) (Prod.fst (lenC [Col.ints IntKind.i64 (class_Table s)], [Col.ints IntKind.i64 (class_Table s)])) (Prod.snd (a, cap)), p := Pr.pt 0 PK.slice }, { s := 27, g := none, v := Value.slice (Option.map (fun b => { block := b, off := 0 }) (Prod.fst (a, cap))) (Prod.fst (lenC [Col.ints IntKind.i64 (class_Table s)], [Col.ints IntKind.i64 (class_Table s)])) (Prod.snd (a, cap)), p := Pr.pt 0 PK.slice }, { s := 26, g := none, v := Value.int IntKind.i64 s, p := Pr.no }, { s := 5, g := none, v := Value.int IntKind.i64 (IntKind.wrap IntKind.i64 ((1 : Int) * (2 : Int) ^ min (Int.toNat (IntKind.wrap IntKind.u64 s)) 64)), p := Pr.no }, { s := 25, g := none, v := Value.int IntKind.i64 (IntKind.wrap IntKind.i64 ((1 : Int) * (2 : Int) ^ min (Int.toNat (IntKind.wrap IntKind.u64 s)) 64)), p := Pr.no }, { s := 24, g := none, v := Value.int IntKind.u64 (IntKind.wrap IntKind.u64 s), p := Pr.no }, { s := 23, g := none, v := Value.int IntKind.i64 s, p := Pr.no }, { s := 15, g := none, v := Value.bool (decide (s < (10 : Int)) || decide (s > (20 : Int))), p := Pr.no }, { s := 14, g := some (12, false), v := Value.bool (decide (s > (20 : Int))), p := Pr.no }, { s := 13, g := some (12, false), v := Value.int IntKind.i64 s, p := Pr.no }, { s := 12, g := none, v := Value.bool (decide (s < (10 : Int))), p := Pr.no }, { s := 11, g := none, v := Value.bool (decide (s < (10 : Int))), p := Pr.no }, { s := 10, g := none, v := Value.int IntKind.i64 s, p := Pr.no }, { s := 4, g := none, v := Value.bool false, p := Pr.no }, { s := 0, g := none, v := Value.int IntKind.i64 s, p := Pr.no }, { s := 1, g := none, v := Value.int IntKind.i64 z, p := Pr.no }] [Chunk.row (Prod.fst (a, cap)) (Prod.fst (Prod.fst (2, [Col.ints IntKind.i64 (class_Table s)]), lenC [Col.ints IntKind.i64 (class_Table s)], [Col.ints IntKind.i64 (class_Table s)])) (Prod.fst (lenC [Col.ints IntKind.i64 (class_Table s)], [Col.ints IntKind.i64 (class_Table s)])) (Prod.snd (a, cap)) [Col.ints IntKind.i64 (class_Table s)]]))))
    (by kernel_rfl)
    (ClassFits_pc0 s z hQ1 h)
def ClassFits_I (s : Int) (z : Int) (k : Int) (pg : Int) (a : Option Nat) (c : Nat) (r_ : Bool) : Prop := 10 ≤ s ∧ s ≤ 20 ∧ 0 ≤ k ∧ k ≤ 9 ∧ pg = 2 ^ s.toNat ∧ r_ = true
theorem ClassFits_step (s : Int) (z : Int) (k : Int) (pg : Int) (a : Option Nat) (c : Nat) {r_ : Bool} (hI : ClassFits_I s z k pg a c r_) : ClassFits_wp1 s z k pg a c (fun k' pg' a' c' => ClassFits_I s z k' pg' a' c' r_ ∧ ((9 - k').toNat) < ((9 - k).toNat)) (fun x => x = r_) := by
  unfold ClassFits_I at hI
  unfold ClassFits_wp1 ClassFits_I
  obtain ⟨hs1, hs2, h0, h1, hpg, hr⟩ := hI
  have hlen : (class_Table s).length = 9 := by rw [table_in ⟨hs1, hs2⟩]; simp
  refine ⟨fun hk => ?_, fun hk => ?_⟩
  · simp only [decide_eq_true_eq] at hk
    obtain ⟨f1, f2, f3, f4, f5, f6⟩ := facts_in (s := s) (k := k) ⟨hs1, hs2⟩ ⟨h0, hk⟩
    have hb : 0 ≤ k ∧ k < (((class_Table s).length : Nat) : Int) := by omega
    refine ⟨hb, fun _ => ⟨fun _ => hb, fun _ => ⟨fun _ => hb, fun _ => ⟨fun _ => hb, fun _ => ⟨fun hk0 => ?_, fun _ => ⟨fun hc => ?_, fun _ => ?_⟩⟩⟩⟩⟩⟩
    · simp only [decide_eq_true_eq] at hk0
      rw [w64 (by omega)]; omega
    · exfalso
      rw [table_get ⟨hs1, hs2⟩ ⟨h0, hk⟩] at hc
      rw [f1] at hc
      simp only [bne_self_eq_false, Bool.false_or, Bool.or_eq_true, Bool.and_eq_true, decide_eq_true_eq] at hc
      rcases hc with (hc | hc) | ⟨hk0, hc⟩
      · omega
      · rw [hpg] at hc; omega
      · rw [w64 (by omega), table_get ⟨hs1, hs2⟩ (by omega)] at hc
        have := f4 hk0
        omega
    · rw [w64 (by omega)]
      exact ⟨⟨hs1, hs2, by omega, by omega, hpg, hr⟩, by omega⟩
  · simp only [decide_eq_false_iff_not] at hk
    obtain ⟨g1, g2, g3, g4⟩ := of_facts z ⟨hs1, hs2⟩
    have hh := half_pow ⟨hs1, hs2⟩
    rw [← hpg] at hh
    refine ⟨fun hn => ?_, fun _ => ⟨fun _ => by omega, fun _ => ⟨fun hn => ?_, fun _ => ?_⟩⟩⟩
    · exfalso
      rw [hh, g1] at hn
      simp at hn
    · simp only [beq_eq_false_iff_ne, ne_eq] at hn
      rw [w64 (by omega)]; omega
    · rw [hr, l05_live, Bool.and_true]
      cases hg : (class_Of s z).2 with
      | false => rfl
      | true =>
        obtain ⟨q1, q2⟩ := g4 hg
        rw [table_get ⟨hs1, hs2⟩ ⟨g2, g3⟩]
        by_cases hz : (class_Of s z).1 = 0
        · simp only [hz] at q1 ⊢
          simpa using q1
        · rw [w64 (by omega), table_get ⟨hs1, hs2⟩ (by omega)]
          have q3 : class_Size s ((class_Of s z).1 - 1) < z := by rcases q2 with q2 | q2 <;> omega
          simp only [Bool.not_true, Bool.false_or, Bool.and_eq_true, Bool.or_eq_true, decide_eq_true_eq]
          exact ⟨⟨⟨g2, g3⟩, q1⟩, .inr q3⟩
theorem ClassFits_loop {E_ : World} {G_ : Hp} (s : Int) (z : Int) {r_ : Bool} : ∀ s_ : Int × Int × Option Nat × Nat, ClassFits_I s z s_.1 s_.2.1 s_.2.2.1 s_.2.2.2 r_ → SW Dg Try.prog 6 (Post Dg E_ G_ (ClassFits_out r_) (ClassFits_nw r_) (ClassFits_rows r_)) (bodyOf Try.f6) Try.f6.ntmps E_ G_ (.code (0 :: [0,1,0,1,1,1,1,1]) :: .again [0,1,0,1,1,1,1,1] :: [.blk 0, .code [1,1,1,1,1,1]]) [⟨7, none, .int .i64 s_.1, .no⟩, ⟨6, none, .slice (s_.2.2.1.map fun b => ⟨b, 0, none⟩) (class_Table s).length s_.2.2.2, .pt 0 .slice⟩, ⟨5, none, .int .i64 s_.2.1, .no⟩, ⟨0, none, .int .i64 s, .no⟩, ⟨1, none, .int .i64 z, .no⟩] [.row s_.2.2.1 2 (class_Table s).length s_.2.2.2 [.ints .i64 (class_Table s)]] :=
  SW.loop Dg (α := Int × Int × Option Nat × Nat) (fun s_ => [⟨7, none, .int .i64 s_.1, .no⟩, ⟨6, none, .slice (s_.2.2.1.map fun b => ⟨b, 0, none⟩) (class_Table s).length s_.2.2.2, .pt 0 .slice⟩, ⟨5, none, .int .i64 s_.2.1, .no⟩, ⟨0, none, .int .i64 s, .no⟩, ⟨1, none, .int .i64 z, .no⟩]) (fun s_ => [.row s_.2.2.1 2 (class_Table s).length s_.2.2.2 [.ints .i64 (class_Table s)]]) (fun s_ => (9 - s_.1).toNat) (fun s_ => ClassFits_I s z s_.1 s_.2.1 s_.2.2.1 s_.2.2.2 r_) (fun ⟨k, pg, a, c⟩ hI ih => ClassFits_go1 s z k pg a c (fun k' pg' a' c' h => ih (k', pg', a', c') h.1 h.2) (ClassFits_step s z k pg a c hI))
theorem ClassFits_begin (s : Int) (z : Int) : ClassFits_wp0 s z (fun k pg a c => ClassFits_I s z k pg a c (ClassFits s z)) (fun x => x = (ClassFits s z)) := by
  unfold ClassFits_wp0 ClassFits_I
  refine ⟨fun h a c => ?_, fun h => ?_⟩
  · have : class_Table s = [] := table_out (by simp only [Bool.or_eq_true, decide_eq_true_eq] at h; omega)
    simp [this, lenC, Col.len, ClassFits, l05_live]
  · have hs : 10 ≤ s ∧ s ≤ 20 := by simp only [Bool.or_eq_false_iff, decide_eq_false_iff_not] at h; omega
    refine ⟨by rw [IntKind.wrap_u64]; omega, fun _ a c => ⟨fun hn => ?_, fun hn => ⟨hs.1, hs.2, by omega, by omega, ?_, rfl⟩⟩⟩
    · exfalso
      simp [lenC, Col.len, table_in hs] at hn
    · have h1 := pow2_pos s.toNat
      have h2 := pow2_le (show s.toNat ≤ 20 by omega)
      rw [wu64 (by omega), show min s.toNat 64 = s.toNat by omega, Int.one_mul, w64 (by omega)]
theorem ClassFits_calls {E_ : World} {G_ : Hp} {w_ : World} (s : Int) (z : Int) (hS : Sat E_ G_ w_ []) : Calls Try.prog 6 #[(.int .i64 s), (.int .i64 z)] w_ (Post Dg E_ G_ (ClassFits_out (ClassFits s z)) (ClassFits_nw (ClassFits s z)) (ClassFits_rows (ClassFits s z))) :=
  ClassFits_start s z (fun k pg a c h => ClassFits_loop s z (k, pg, a, c) h) hS (ClassFits_begin s z )
theorem ClassFits_plain {E_ : World} {G_ : Hp} {w_ : World} (s : Int) (z : Int) (hS : Sat E_ G_ w_ []) : Calls Try.prog 6 #[(.int .i64 s), (.int .i64 z)] w_ (fun en w' => en = .returned (.bool ((ClassFits s z))) ∧ Sat E_ G_ w' []) := by
  have h := ClassFits_calls (E_ := E_) (G_ := G_) s z  hS
  refine h.mono fun en w' hp => ?_
  have hp' : Post Dg E_ G_ (fun _ => .bool ((ClassFits s z))) ([] : List (Chunk Sg)) [] en w' := hp
  rw [Post.plain] at hp'
  exact hp'
def ClassFits_e : Entry Sg := fun
  | [(.int .i64 s, _), (.int .i64 z, _)] => some ⟨[], none, rowsR [], fun ss => .bool ((ClassFits s z)), fun k_ => .no⟩
  | _ => none
theorem ClassFits_ok : EntryOk Dg Try.prog 6 ClassFits_e := by
  intro args r h
  unfold ClassFits_e at h
  split at h
  · injection h with h; subst h
    refine ⟨fun K acs _ => pOk_no, fun hpre E G w hi hS => ?_⟩
    exact entry_post Dg (nw := []) rfl (ClassFits_calls _ _  hS)
  · cases h
def T_ClassFits : List (Nat × Entry Sg) := (6, ClassFits_e) :: T_ClassOf
theorem T_ClassFits_ok : TableOk Dg Try.prog T_ClassFits := TableOk.cons Dg ClassFits_ok T_ClassOf_ok
end Go.Proofs.Ytaenbinoejnecaa
