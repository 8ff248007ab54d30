/-
  DERIVED. What functions of the program compute, read off their bodies by the machine of SlB, and that it is so. Printed by a program of this claim's own (wip/gen/gen2.py).
-/
import Derived.Test.YtaenbinoejnecaaDoorPlHalf2
namespace Go.Proofs.YtaenbinoejnecaaDoor
open Go.Sl
set_option linter.unusedSimpArgs false
set_option linter.unusedVariables false

def gN (w p : Int) : Nat → Int → Int
  | 0, n => n
  | k + 1, n => gN w p k (IntKind.wrap IntKind.u64 (IntKind.wrap IntKind.u64 (n * 2) + r01_bit w (IntKind.wrap IntKind.i64 (p + (k : Int)))))
def hB (v : Int) : Nat → Bool
  | 0 => false
  | k + 1 => (r01_bit v (63 - (k : Int)) == 1) || hB v k
def pN (w p q v : Int) : Nat → Int → Int
  | 0, n => n
  | k + 1, n => pN w p q v k (bif decide ((k : Int) ≥ p) && decide ((k : Int) < IntKind.wrap IntKind.i64 (p + q)) then IntKind.wrap IntKind.u64 (IntKind.wrap IntKind.u64 (n * 2) + r01_bit v (IntKind.wrap IntKind.i64 ((k : Int) - p))) else IntKind.wrap IntKind.u64 (IntKind.wrap IntKind.u64 (n * 2) + r01_bit w (k : Int)))


/- nacreref01.Get -/
def r01_Get (w : Int) (p : Int) (q : Int) : Int := bif r01_field p q then gN w p q.toNat 0 else 0
def r01_Get_out (r_ : Int) : List Value → Value := fun ss => .int .u64 (r_)
def r01_Get_nw (r_ : Int) : List (Chunk Sg) := []
def r01_Get_rows (r_ : Int) : List (Mk Sg) := []
section
variable (w : Int) (p : Int) (q : Int)
abbrev r01_Get_T1 : Type := Int → Int → Prop
abbrev r01_Get_L1 (w : Int) (p : Int) (q : Int) (i : Int) (m : Int) : List Ent := [⟨8, none, .int .i64 i, .no⟩, ⟨7, none, .int .u64 m, .no⟩, ⟨0, none, .int .u64 w, .no⟩, ⟨1, none, .int .i64 p, .no⟩]
abbrev r01_Get_K1 (w : Int) (p : Int) (q : Int) (i : Int) (m : Int) : List (Chunk Sg) := []
abbrev r01_Get_H (E_ : World) (G_ : Hp) (w : Int) (p : Int) (q : Int) (r_ : Int) (Q1 : r01_Get_T1) : Prop := (∀ (i : Int) (m : Int), Q1 i m → SW Dg Tryd.prog 26 (Post Dg E_ G_ (r01_Get_out r_) (r01_Get_nw r_) (r01_Get_rows r_)) (bodyOf Tryd.f26) Tryd.f26.ntmps E_ G_ (.code (0 :: [0,1,0,1,1,1]) :: .again [0,1,0,1,1,1] :: [.blk 0, .code [1,1,1,1]]) (r01_Get_L1 w p q i m) (r01_Get_K1 w p q i m))
abbrev r01_Get_wp0 (w : Int) (p : Int) (q : Int) (Q1 : r01_Get_T1) (R_ : Int → Prop) : Prop := (((!r01_field p q) = true → (R_ ((0 : Int)))) ∧ ((!r01_field p q) = false → (Q1 (IntKind.wrap IntKind.i64 (q - (1 : Int))) ((0 : Int)))))
abbrev r01_Get_t0 (w : Int) (p : Int) (q : Int) : Tree Sg := Tree.br (!r01_field p q) (Tree.ret (Value.int IntKind.u64 (0 : Int)) pn_ []) (Tree.stuck [Ab.code [0, 1, 0, 1, 1, 1], Ab.blk 0, Ab.code [1, 1, 1, 1]] [e0_ 8 (vi_ (IntKind.wrap IntKind.i64 (q - (1 : Int)))) pn_, e0_ 14 (vi_ (IntKind.wrap IntKind.i64 (q - (1 : Int)))) pn_, e0_ 13 (vi_ q) pn_, e0_ 1000007 (Value.tuple { toList := [] }) pn_, e0_ 7 (Value.int IntKind.u64 (0 : Int)) pn_, e0_ 12 (Value.bool !r01_field p q) pn_, e0_ 11 (Value.bool (r01_field p q)) pn_, e0_ 10 (vi_ q) pn_, e0_ 9 (vi_ p) pn_, e0_ 1000006 (Value.tuple { toList := [] }) pn_, e0_ 6 (Value.int IntKind.u64 (0 : Int)) pn_, e0_ 0 (Value.int IntKind.u64 w) pn_, e0_ 1 (vi_ p) pn_, e0_ 2 (vi_ q) pn_] [])
theorem r01_Get_pc0 {E_ : World} {G_ : Hp} {r_ : Int} {Q1 : r01_Get_T1} (hQ : r01_Get_H E_ G_ w p q r_ Q1) (h : r01_Get_wp0 w p q Q1 (fun x => x = r_)) : (r01_Get_t0 w p q ).holds (RetOk (r01_Get_out r_) (r01_Get_nw r_) (r01_Get_rows r_)) (SW Dg Tryd.prog 26 (Post Dg E_ G_ (r01_Get_out r_) (r01_Get_nw r_) (r01_Get_rows r_)) (bodyOf Tryd.f26) Tryd.f26.ntmps E_ G_) :=
  ⟨fun z0 => RetOk.at (outf := r01_Get_out) (nwf := r01_Get_nw) (rowsf := r01_Get_rows) (r := (0 : Int)) (h.1 z0) ⟨[], [], (by decide), rfl, rfl, trivial⟩, fun z0 => SW.move Dg [8, 7, 0, 1] [] (by decide) (by kernel_rfl) (by kernel_rfl) (SW.enter Dg (by kernel_rfl) (hQ (IntKind.wrap IntKind.i64 (q - (1 : Int))) ((0 : Int)) (h.2 z0)))⟩
abbrev r01_Get_wp1 (w : Int) (p : Int) (q : Int) (i : Int) (m : Int) (Q1 : r01_Get_T1) (R_ : Int → Prop) : Prop := (((decide (i ≥ (0 : Int))) = true → (Q1 (IntKind.wrap IntKind.i64 (i - (1 : Int))) (IntKind.wrap IntKind.u64 (IntKind.wrap IntKind.u64 (m * (2 : Int)) + r01_bit w (IntKind.wrap IntKind.i64 (p + i)))))) ∧ ((decide (i ≥ (0 : Int))) = false → (R_ (m))))
abbrev r01_Get_t1 (w : Int) (p : Int) (q : Int) (i : Int) (m : Int) : Tree Sg := Tree.br (decide (i ≥ (0 : Int))) (Tree.stuck [Ab.again [0, 1, 0, 1, 1, 1], Ab.blk 0, Ab.code [1, 1, 1, 1]] [e0_ 8 (vi_ (IntKind.wrap IntKind.i64 (i - (1 : Int)))) pn_, e0_ 18 (vi_ (IntKind.wrap IntKind.i64 (i - (1 : Int)))) pn_, e0_ 17 (vi_ i) pn_, e0_ 7 (Value.int IntKind.u64 (IntKind.wrap IntKind.u64 (IntKind.wrap IntKind.u64 (m * (2 : Int)) + r01_bit w (IntKind.wrap IntKind.i64 (p + i))))) pn_, e0_ 26 (Value.int IntKind.u64 (IntKind.wrap IntKind.u64 (IntKind.wrap IntKind.u64 (m * (2 : Int)) + r01_bit w (IntKind.wrap IntKind.i64 (p + i))))) pn_, e0_ 25 (Value.int IntKind.u64 (r01_bit w (IntKind.wrap IntKind.i64 (p + i)))) pn_, e0_ 24 (vi_ (IntKind.wrap IntKind.i64 (p + i))) pn_, e0_ 23 (vi_ i) pn_, e0_ 22 (vi_ p) pn_, e0_ 21 (Value.int IntKind.u64 w) pn_, e0_ 20 (Value.int IntKind.u64 (IntKind.wrap IntKind.u64 (m * (2 : Int)))) pn_, e0_ 19 (Value.int IntKind.u64 m) pn_, e0_ 16 (Value.bool (decide (i ≥ (0 : Int)))) pn_, e0_ 15 (vi_ i) pn_, e0_ 0 (Value.int IntKind.u64 w) pn_, e0_ 1 (vi_ p) pn_] []) (Tree.ret (Value.int IntKind.u64 m) pn_ [])
theorem r01_Get_pc1 {E_ : World} {G_ : Hp} (i : Int) (m : Int) {r_ : Int} {Q1 : r01_Get_T1} (hQ : r01_Get_H E_ G_ w p q r_ Q1) (h : r01_Get_wp1 w p q i m Q1 (fun x => x = r_)) : (r01_Get_t1 w p q i m ).holds (RetOk (r01_Get_out r_) (r01_Get_nw r_) (r01_Get_rows r_)) (SW Dg Tryd.prog 26 (Post Dg E_ G_ (r01_Get_out r_) (r01_Get_nw r_) (r01_Get_rows r_)) (bodyOf Tryd.f26) Tryd.f26.ntmps E_ G_) :=
  ⟨fun z0 => SW.move Dg [8, 7, 0, 1] [] (by decide) (by kernel_rfl) (by kernel_rfl) (SW.again Dg (hQ (IntKind.wrap IntKind.i64 (i - (1 : Int))) (IntKind.wrap IntKind.u64 (IntKind.wrap IntKind.u64 (m * (2 : Int)) + r01_bit w (IntKind.wrap IntKind.i64 (p + i)))) (h.1 z0))), fun z0 => RetOk.at (outf := r01_Get_out) (nwf := r01_Get_nw) (rowsf := r01_Get_rows) (r := m) (h.2 z0) ⟨[], [], (by decide), rfl, rfl, trivial⟩⟩
theorem r01_Get_go1 {E_ : World} {G_ : Hp} (i : Int) (m : Int) {r_ : Int} {Q1 : r01_Get_T1} (hQ : r01_Get_H E_ G_ w p q r_ Q1) (h : r01_Get_wp1 w p q i m Q1 (fun x => x = r_)) : SW Dg Tryd.prog 26 (Post Dg E_ G_ (r01_Get_out r_) (r01_Get_nw r_) (r01_Get_rows r_)) (bodyOf Tryd.f26) Tryd.f26.ntmps E_ G_ (.code (0 :: [0,1,0,1,1,1]) :: .again [0,1,0,1,1,1] :: [.blk 0, .code [1,1,1,1]]) (r01_Get_L1 w p q i m) (r01_Get_K1 w p q i m) :=
  SW.go Dg T_HalfBack_ok (I := []) Tryd.func26 mix 400 (t := r01_Get_t1 w p q i m ) (by kernel_rfl) (r01_Get_pc1 w p q i m hQ h)
theorem r01_Get_start {E_ : World} {G_ : Hp} {w_ : World} {r_ : Int} {Q1 : r01_Get_T1} (hQ : r01_Get_H E_ G_ w p q r_ Q1) (hS : Sat E_ G_ w_ []) (h : r01_Get_wp0 w p q Q1 (fun x => x = r_)) : Calls Tryd.prog 26 #[(.int .u64 w), (.int .i64 p), (.int .i64 q)] w_ (Post Dg E_ G_ (r01_Get_out r_) (r01_Get_nw r_) (r01_Get_rows r_)) :=
  calls_post Dg T_HalfBack_ok (I := []) Tryd.func26 mix (B := bodyOf Tryd.f26) (by kernel_rfl) [(.int .u64 w), (.int .i64 p), (.int .i64 q)] [.no, .no, .no] (by kernel_rfl) (objs := []) (ros := []) (psOk_cons pOk_no (psOk_cons pOk_no (psOk_cons pOk_no (psOk_nil)))) (by kernel_rfl) (trivial) hS 400
    (t := r01_Get_t0 w p q)
    (by kernel_rfl)
    (r01_Get_pc0 w p q hQ h)
def r01_Get_I (w : Int) (p : Int) (q : Int) (i : Int) (m : Int) (r_ : Int) : Prop := -1 ≤ i ∧ i ≤ 64 ∧ r_ = gN w p (i + 1).toNat m
theorem r01_Get_step (i : Int) (m : Int) {r_ : Int} (hI : r01_Get_I w p q i m r_) : r01_Get_wp1 w p q i m (fun i' m' => r01_Get_I w p q i' m' r_ ∧ ((i' + 1).toNat) < ((i + 1).toNat)) (fun x => x = r_) := by
  unfold r01_Get_I at hI
  unfold r01_Get_wp1 r01_Get_I
  obtain ⟨h0, h1, h2⟩ := hI
  refine ⟨fun h => ?_, fun h => ?_⟩
  · simp only [decide_eq_true_eq] at h
    rw [w64 (n := i - 1) (by omega)]
    refine ⟨⟨by omega, by omega, ?_⟩, by omega⟩
    have e : (i + 1).toNat = (i - 1 + 1).toNat + 1 := by omega
    rw [h2, e, gN, show (((i - 1 + 1).toNat : Nat) : Int) = i by omega]
  · simp only [decide_eq_false_iff_not] at h
    have e : (i + 1).toNat = 0 := by omega
    rw [h2, e]; rfl
theorem r01_Get_loop {E_ : World} {G_ : Hp} {r_ : Int} : ∀ s_ : Int × Int, r01_Get_I w p q s_.1 s_.2 r_ → SW Dg Tryd.prog 26 (Post Dg E_ G_ (r01_Get_out r_) (r01_Get_nw r_) (r01_Get_rows r_)) (bodyOf Tryd.f26) Tryd.f26.ntmps E_ G_ (.code (0 :: [0,1,0,1,1,1]) :: .again [0,1,0,1,1,1] :: [.blk 0, .code [1,1,1,1]]) (r01_Get_L1 w p q s_.1 s_.2) (r01_Get_K1 w p q s_.1 s_.2) :=
  SW.loop Dg (α := Int × Int) (fun s_ => r01_Get_L1 w p q s_.1 s_.2) (fun s_ => r01_Get_K1 w p q s_.1 s_.2) (fun s_ => (s_.1 + 1).toNat) (fun s_ => r01_Get_I w p q s_.1 s_.2 r_) (fun ⟨i, m⟩ hI ih => r01_Get_go1 w p q i m (fun i' m' h => ih (i', m') h.1 h.2) (r01_Get_step w p q i m hI))
theorem r01_Get_begin : r01_Get_wp0 w p q (fun i m => r01_Get_I w p q i m (r01_Get w p q)) (fun x => x = (r01_Get w p q)) := by
  unfold r01_Get_wp0 r01_Get_I
  refine ⟨fun h => ?_, fun h => ?_⟩
  · have : r01_field p q = false := by simpa using h
    simp only [r01_Get, this, cond_false]
  · have hf : r01_field p q = true := by simpa using h
    have hf' := hf
    simp only [r01_field, Bool.and_eq_true, decide_eq_true_eq, IntKind.wrap_i64] at hf'
    rw [w64 (n := q - 1) (by omega)]
    refine ⟨by omega, by omega, ?_⟩
    simp only [r01_Get, hf, cond_true]
    rw [show q - 1 + 1 = q by omega]
theorem r01_Get_calls {E_ : World} {G_ : Hp} {w_ : World} (hS : Sat E_ G_ w_ []) : Calls Tryd.prog 26 #[(.int .u64 w), (.int .i64 p), (.int .i64 q)] w_ (Post Dg E_ G_ (r01_Get_out (r01_Get w p q)) (r01_Get_nw (r01_Get w p q)) (r01_Get_rows (r01_Get w p q))) :=
  r01_Get_start w p q (fun i m h => r01_Get_loop w p q (i, m) h) hS (r01_Get_begin w p q )
end
def r01_Get_e : Entry Sg := fun
  | [(.int .u64 w, _), (.int .i64 p, _), (.int .i64 q, _)] => some ⟨(r01_Get w p q), fun (r_ : Int) => ⟨[], none, [], fun ss => .int .u64 (r_), fun k_ => .no⟩⟩
  | _ => none
theorem r01_Get_ok : EntryOk Dg Tryd.prog 26 r01_Get_e := by
  intro args c r h hr_
  unfold r01_Get_e at h
  split at h
  · injection h with h; subst h; subst hr_
    refine ⟨fun K acs _ => pOk_no, fun hpre E G w hi hS => ?_⟩
    exact entry_post Dg (by exact rfl) (r01_Get_calls _ _ _  hS)
  · cases h
def T_r01_Get : List (Nat × Entry Sg) := (26, r01_Get_e) :: T_HalfBack
theorem T_r01_Get_ok : TableOk Dg Tryd.prog T_r01_Get := TableOk.cons Dg r01_Get_ok T_HalfBack_ok

/- nacreref01.Put -/
def r01_Put (w : Int) (p : Int) (q : Int) (v : Int) : Int × Bool := bif r01_field p q then (bif hB v (64 - q).toNat then (0, false) else (pN w p q v 64 0, true)) else (0, false)
def r01_Put_out (r_ : Int × Bool) : List Value → Value := fun ss => .tuple #[.int .u64 (r_.1), .bool (r_.2)]
def r01_Put_nw (r_ : Int × Bool) : List (Chunk Sg) := []
def r01_Put_rows (r_ : Int × Bool) : List (Mk Sg) := []
section
variable (w : Int) (p : Int) (q : Int) (v : Int)
abbrev r01_Put_T1 : Type := Int → Prop
abbrev r01_Put_L1 (w : Int) (p : Int) (q : Int) (v : Int) (i : Int) : List Ent := [⟨10, none, .int .i64 i, .no⟩, ⟨0, none, .int .u64 w, .no⟩, ⟨1, none, .int .i64 p, .no⟩, ⟨2, none, .int .i64 q, .no⟩, ⟨3, none, .int .u64 v, .no⟩]
abbrev r01_Put_K1 (w : Int) (p : Int) (q : Int) (v : Int) (i : Int) : List (Chunk Sg) := []
abbrev r01_Put_T2 : Type := Int → Int → Prop
abbrev r01_Put_L2 (w : Int) (p : Int) (q : Int) (v : Int) (i : Int) (m : Int) : List Ent := [⟨12, none, .int .i64 i, .no⟩, ⟨11, none, .int .u64 m, .no⟩, ⟨0, none, .int .u64 w, .no⟩, ⟨1, none, .int .i64 p, .no⟩, ⟨2, none, .int .i64 q, .no⟩, ⟨3, none, .int .u64 v, .no⟩]
abbrev r01_Put_K2 (w : Int) (p : Int) (q : Int) (v : Int) (i : Int) (m : Int) : List (Chunk Sg) := []
abbrev r01_Put_H (E_ : World) (G_ : Hp) (w : Int) (p : Int) (q : Int) (v : Int) (r_ : Int × Bool) (Q1 : r01_Put_T1) (Q2 : r01_Put_T2) : Prop := (∀ (i : Int), Q1 i → SW Dg Tryd.prog 24 (Post Dg E_ G_ (r01_Put_out r_) (r01_Put_nw r_) (r01_Put_rows r_)) (bodyOf Tryd.f24) Tryd.f24.ntmps E_ G_ (.code (0 :: [0,1,0,1,1]) :: .again [0,1,0,1,1] :: [.blk 0, .code [1,1,1]]) (r01_Put_L1 w p q v i) (r01_Put_K1 w p q v i)) ∧ (∀ (i : Int) (m : Int), Q2 i m → SW Dg Tryd.prog 24 (Post Dg E_ G_ (r01_Put_out r_) (r01_Put_nw r_) (r01_Put_rows r_)) (bodyOf Tryd.f24) Tryd.f24.ntmps E_ G_ (.code (0 :: [0,1,0,1,1,1,1]) :: .again [0,1,0,1,1,1,1] :: [.blk 2, .code [1,1,1,1,1]]) (r01_Put_L2 w p q v i m) (r01_Put_K2 w p q v i m))
abbrev r01_Put_wp0 (w : Int) (p : Int) (q : Int) (v : Int) (Q1 : r01_Put_T1) (Q2 : r01_Put_T2) (R_ : Int × Bool → Prop) : Prop := (((!r01_field p q) = true → (R_ (((0 : Int), false)))) ∧ ((!r01_field p q) = false → (Q1 (q))))
abbrev r01_Put_t0 (w : Int) (p : Int) (q : Int) (v : Int) : Tree Sg := Tree.br (!r01_field p q) (Tree.ret (Value.tuple { toList := [Value.int IntKind.u64 (0 : Int), Value.bool false] }) pn_ []) (Tree.stuck [Ab.code [0, 1, 0, 1, 1], Ab.blk 0, Ab.code [1, 1, 1]] [e0_ 10 (vi_ q) pn_, e0_ 17 (vi_ q) pn_, e0_ 16 (Value.bool !r01_field p q) pn_, e0_ 15 (Value.bool (r01_field p q)) pn_, e0_ 14 (vi_ q) pn_, e0_ 13 (vi_ p) pn_, e0_ 1000009 (Value.tuple { toList := [] }) pn_, e0_ 9 (Value.bool false) pn_, e0_ 1000008 (Value.tuple { toList := [] }) pn_, e0_ 8 (Value.int IntKind.u64 (0 : Int)) pn_, e0_ 0 (Value.int IntKind.u64 w) pn_, e0_ 1 (vi_ p) pn_, e0_ 2 (vi_ q) pn_, e0_ 3 (Value.int IntKind.u64 v) pn_] [])
theorem r01_Put_pc0 {E_ : World} {G_ : Hp} {r_ : Int × Bool} {Q1 : r01_Put_T1} {Q2 : r01_Put_T2} (hQ : r01_Put_H E_ G_ w p q v r_ Q1 Q2) (h : r01_Put_wp0 w p q v Q1 Q2 (fun x => x = r_)) : (r01_Put_t0 w p q v ).holds (RetOk (r01_Put_out r_) (r01_Put_nw r_) (r01_Put_rows r_)) (SW Dg Tryd.prog 24 (Post Dg E_ G_ (r01_Put_out r_) (r01_Put_nw r_) (r01_Put_rows r_)) (bodyOf Tryd.f24) Tryd.f24.ntmps E_ G_) :=
  ⟨fun z0 => RetOk.at (outf := r01_Put_out) (nwf := r01_Put_nw) (rowsf := r01_Put_rows) (r := ((0 : Int), false)) (h.1 z0) ⟨[], [], (by decide), rfl, rfl, trivial⟩, fun z0 => SW.move Dg [10, 0, 1, 2, 3] [] (by decide) (by kernel_rfl) (by kernel_rfl) (SW.enter Dg (by kernel_rfl) (hQ.1 (q) (h.2 z0)))⟩
abbrev r01_Put_wp1 (w : Int) (p : Int) (q : Int) (v : Int) (i : Int) (Q1 : r01_Put_T1) (Q2 : r01_Put_T2) (R_ : Int × Bool → Prop) : Prop := (((decide (i < (64 : Int))) = true → (((r01_bit v i == (1 : Int)) = true → (R_ (((0 : Int), false)))) ∧ ((r01_bit v i == (1 : Int)) = false → (Q1 (IntKind.wrap IntKind.i64 (i + (1 : Int))))))) ∧ ((decide (i < (64 : Int))) = false → (Q2 ((63 : Int)) ((0 : Int)))))
abbrev r01_Put_t1 (w : Int) (p : Int) (q : Int) (v : Int) (i : Int) : Tree Sg := Tree.br (decide (i < (64 : Int))) (Tree.br (r01_bit v i == (1 : Int)) (Tree.ret (Value.tuple { toList := [Value.int IntKind.u64 (0 : Int), Value.bool false] }) pn_ []) (Tree.stuck [Ab.again [0, 1, 0, 1, 1], Ab.blk 0, Ab.code [1, 1, 1]] [e0_ 10 (vi_ (IntKind.wrap IntKind.i64 (i + (1 : Int)))) pn_, e0_ 21 (vi_ (IntKind.wrap IntKind.i64 (i + (1 : Int)))) pn_, e0_ 20 (vi_ i) pn_, e0_ 25 (Value.bool (r01_bit v i == (1 : Int))) pn_, e0_ 24 (Value.int IntKind.u64 (r01_bit v i)) pn_, e0_ 23 (vi_ i) pn_, e0_ 22 (Value.int IntKind.u64 v) pn_, e0_ 19 (Value.bool (decide (i < (64 : Int)))) pn_, e0_ 18 (vi_ i) pn_, e0_ 0 (Value.int IntKind.u64 w) pn_, e0_ 1 (vi_ p) pn_, e0_ 2 (vi_ q) pn_, e0_ 3 (Value.int IntKind.u64 v) pn_] [])) (Tree.stuck [Ab.code [0, 1, 0, 1, 1, 1, 1], Ab.blk 2, Ab.code [1, 1, 1, 1, 1]] [e0_ 1000012 (Value.tuple { toList := [] }) pn_, e0_ 12 (vi_ (63 : Int)) pn_, e0_ 1000011 (Value.tuple { toList := [] }) pn_, e0_ 11 (Value.int IntKind.u64 (0 : Int)) pn_, e0_ 19 (Value.bool (decide (i < (64 : Int)))) pn_, e0_ 18 (vi_ i) pn_, e0_ 10 (vi_ i) pn_, e0_ 0 (Value.int IntKind.u64 w) pn_, e0_ 1 (vi_ p) pn_, e0_ 2 (vi_ q) pn_, e0_ 3 (Value.int IntKind.u64 v) pn_] [])
theorem r01_Put_pc1 {E_ : World} {G_ : Hp} (i : Int) {r_ : Int × Bool} {Q1 : r01_Put_T1} {Q2 : r01_Put_T2} (hQ : r01_Put_H E_ G_ w p q v r_ Q1 Q2) (h : r01_Put_wp1 w p q v i Q1 Q2 (fun x => x = r_)) : (r01_Put_t1 w p q v i ).holds (RetOk (r01_Put_out r_) (r01_Put_nw r_) (r01_Put_rows r_)) (SW Dg Tryd.prog 24 (Post Dg E_ G_ (r01_Put_out r_) (r01_Put_nw r_) (r01_Put_rows r_)) (bodyOf Tryd.f24) Tryd.f24.ntmps E_ G_) :=
  ⟨fun z0 => ⟨fun z1 => RetOk.at (outf := r01_Put_out) (nwf := r01_Put_nw) (rowsf := r01_Put_rows) (r := ((0 : Int), false)) ((h.1 z0).1 z1) ⟨[], [], (by decide), rfl, rfl, trivial⟩, fun z1 => SW.move Dg [10, 0, 1, 2, 3] [] (by decide) (by kernel_rfl) (by kernel_rfl) (SW.again Dg (hQ.1 (IntKind.wrap IntKind.i64 (i + (1 : Int))) ((h.1 z0).2 z1)))⟩, fun z0 => SW.move Dg [12, 11, 0, 1, 2, 3] [] (by decide) (by kernel_rfl) (by kernel_rfl) (SW.enter Dg (by kernel_rfl) (hQ.2 ((63 : Int)) ((0 : Int)) (h.2 z0)))⟩
theorem r01_Put_go1 {E_ : World} {G_ : Hp} (i : Int) {r_ : Int × Bool} {Q1 : r01_Put_T1} {Q2 : r01_Put_T2} (hQ : r01_Put_H E_ G_ w p q v r_ Q1 Q2) (h : r01_Put_wp1 w p q v i Q1 Q2 (fun x => x = r_)) : SW Dg Tryd.prog 24 (Post Dg E_ G_ (r01_Put_out r_) (r01_Put_nw r_) (r01_Put_rows r_)) (bodyOf Tryd.f24) Tryd.f24.ntmps E_ G_ (.code (0 :: [0,1,0,1,1]) :: .again [0,1,0,1,1] :: [.blk 0, .code [1,1,1]]) (r01_Put_L1 w p q v i) (r01_Put_K1 w p q v i) :=
  SW.go Dg T_r01_Get_ok (I := []) Tryd.func24 mix 400 (t := r01_Put_t1 w p q v i ) (by kernel_rfl) (r01_Put_pc1 w p q v i hQ h)
abbrev r01_Put_wp2 (w : Int) (p : Int) (q : Int) (v : Int) (i : Int) (m : Int) (Q1 : r01_Put_T1) (Q2 : r01_Put_T2) (R_ : Int × Bool → Prop) : Prop := (((decide (i ≥ (0 : Int))) = true → (((decide (i ≥ p) && decide (i < IntKind.wrap IntKind.i64 (p + q))) = true → (Q2 (IntKind.wrap IntKind.i64 (i - (1 : Int))) (IntKind.wrap IntKind.u64 (IntKind.wrap IntKind.u64 (m * (2 : Int)) + r01_bit v (IntKind.wrap IntKind.i64 (i - p)))))) ∧ ((decide (i ≥ p) && decide (i < IntKind.wrap IntKind.i64 (p + q))) = false → (Q2 (IntKind.wrap IntKind.i64 (i - (1 : Int))) (IntKind.wrap IntKind.u64 (IntKind.wrap IntKind.u64 (m * (2 : Int)) + r01_bit w i)))))) ∧ ((decide (i ≥ (0 : Int))) = false → (R_ ((m, true)))))
abbrev r01_Put_t2 (w : Int) (p : Int) (q : Int) (v : Int) (i : Int) (m : Int) : Tree Sg := Tree.br (decide (i ≥ (0 : Int))) (Tree.br (decide (i ≥ p) && decide (i < IntKind.wrap IntKind.i64 (p + q))) (Tree.stuck [Ab.again [0, 1, 0, 1, 1, 1, 1], Ab.blk 2, Ab.code [1, 1, 1, 1, 1]] [e0_ 12 (vi_ (IntKind.wrap IntKind.i64 (i - (1 : Int)))) pn_, e0_ 29 (vi_ (IntKind.wrap IntKind.i64 (i - (1 : Int)))) pn_, e0_ 28 (vi_ i) pn_, e0_ 11 (Value.int IntKind.u64 (IntKind.wrap IntKind.u64 (IntKind.wrap IntKind.u64 (m * (2 : Int)) + r01_bit v (IntKind.wrap IntKind.i64 (i - p))))) pn_, e0_ 47 (Value.int IntKind.u64 (IntKind.wrap IntKind.u64 (IntKind.wrap IntKind.u64 (m * (2 : Int)) + r01_bit v (IntKind.wrap IntKind.i64 (i - p))))) pn_, e0_ 46 (Value.int IntKind.u64 (r01_bit v (IntKind.wrap IntKind.i64 (i - p)))) pn_, e0_ 45 (vi_ (IntKind.wrap IntKind.i64 (i - p))) pn_, e0_ 44 (vi_ p) pn_, e0_ 43 (vi_ i) pn_, e0_ 42 (Value.int IntKind.u64 v) pn_, e0_ 41 (Value.int IntKind.u64 (IntKind.wrap IntKind.u64 (m * (2 : Int)))) pn_, e0_ 40 (Value.int IntKind.u64 m) pn_, e0_ 39 (Value.bool (decide (i ≥ p) && decide (i < IntKind.wrap IntKind.i64 (p + q)))) pn_, eg_ 38 (33, true) (Value.bool (decide (i < IntKind.wrap IntKind.i64 (p + q)))) pn_, eg_ 37 (33, true) (vi_ (IntKind.wrap IntKind.i64 (p + q))) pn_, eg_ 36 (33, true) (vi_ q) pn_, eg_ 35 (33, true) (vi_ p) pn_, eg_ 34 (33, true) (vi_ i) pn_, e0_ 33 (Value.bool (decide (i ≥ p))) pn_, e0_ 32 (Value.bool (decide (i ≥ p))) pn_, e0_ 31 (vi_ p) pn_, e0_ 30 (vi_ i) pn_, e0_ 27 (Value.bool (decide (i ≥ (0 : Int)))) pn_, e0_ 26 (vi_ i) pn_, e0_ 0 (Value.int IntKind.u64 w) pn_, e0_ 1 (vi_ p) pn_, e0_ 2 (vi_ q) pn_, e0_ 3 (Value.int IntKind.u64 v) pn_] []) (Tree.stuck [Ab.again [0, 1, 0, 1, 1, 1, 1], Ab.blk 2, Ab.code [1, 1, 1, 1, 1]] [e0_ 12 (vi_ (IntKind.wrap IntKind.i64 (i - (1 : Int)))) pn_, e0_ 29 (vi_ (IntKind.wrap IntKind.i64 (i - (1 : Int)))) pn_, e0_ 28 (vi_ i) pn_, e0_ 11 (Value.int IntKind.u64 (IntKind.wrap IntKind.u64 (IntKind.wrap IntKind.u64 (m * (2 : Int)) + r01_bit w i))) pn_, e0_ 53 (Value.int IntKind.u64 (IntKind.wrap IntKind.u64 (IntKind.wrap IntKind.u64 (m * (2 : Int)) + r01_bit w i))) pn_, e0_ 52 (Value.int IntKind.u64 (r01_bit w i)) pn_, e0_ 51 (vi_ i) pn_, e0_ 50 (Value.int IntKind.u64 w) pn_, e0_ 49 (Value.int IntKind.u64 (IntKind.wrap IntKind.u64 (m * (2 : Int)))) pn_, e0_ 48 (Value.int IntKind.u64 m) pn_, e0_ 39 (Value.bool (decide (i ≥ p) && decide (i < IntKind.wrap IntKind.i64 (p + q)))) pn_, eg_ 38 (33, true) (Value.bool (decide (i < IntKind.wrap IntKind.i64 (p + q)))) pn_, eg_ 37 (33, true) (vi_ (IntKind.wrap IntKind.i64 (p + q))) pn_, eg_ 36 (33, true) (vi_ q) pn_, eg_ 35 (33, true) (vi_ p) pn_, eg_ 34 (33, true) (vi_ i) pn_, e0_ 33 (Value.bool (decide (i ≥ p))) pn_, e0_ 32 (Value.bool (decide (i ≥ p))) pn_, e0_ 31 (vi_ p) pn_, e0_ 30 (vi_ i) pn_, e0_ 27 (Value.bool (decide (i ≥ (0 : Int)))) pn_, e0_ 26 (vi_ i) pn_, e0_ 0 (Value.int IntKind.u64 w) pn_, e0_ 1 (vi_ p) pn_, e0_ 2 (vi_ q) pn_, e0_ 3 (Value.int IntKind.u64 v) pn_] [])) (Tree.ret (Value.tuple { toList := [Value.int IntKind.u64 m, Value.bool true] }) pn_ [])
theorem r01_Put_pc2 {E_ : World} {G_ : Hp} (i : Int) (m : Int) {r_ : Int × Bool} {Q1 : r01_Put_T1} {Q2 : r01_Put_T2} (hQ : r01_Put_H E_ G_ w p q v r_ Q1 Q2) (h : r01_Put_wp2 w p q v i m Q1 Q2 (fun x => x = r_)) : (r01_Put_t2 w p q v i m ).holds (RetOk (r01_Put_out r_) (r01_Put_nw r_) (r01_Put_rows r_)) (SW Dg Tryd.prog 24 (Post Dg E_ G_ (r01_Put_out r_) (r01_Put_nw r_) (r01_Put_rows r_)) (bodyOf Tryd.f24) Tryd.f24.ntmps E_ G_) :=
  ⟨fun z0 => ⟨fun z1 => SW.move Dg [12, 11, 0, 1, 2, 3] [] (by decide) (by kernel_rfl) (by kernel_rfl) (SW.again Dg (hQ.2 (IntKind.wrap IntKind.i64 (i - (1 : Int))) (IntKind.wrap IntKind.u64 (IntKind.wrap IntKind.u64 (m * (2 : Int)) + r01_bit v (IntKind.wrap IntKind.i64 (i - p)))) ((h.1 z0).1 z1))), fun z1 => SW.move Dg [12, 11, 0, 1, 2, 3] [] (by decide) (by kernel_rfl) (by kernel_rfl) (SW.again Dg (hQ.2 (IntKind.wrap IntKind.i64 (i - (1 : Int))) (IntKind.wrap IntKind.u64 (IntKind.wrap IntKind.u64 (m * (2 : Int)) + r01_bit w i)) ((h.1 z0).2 z1)))⟩, fun z0 => RetOk.at (outf := r01_Put_out) (nwf := r01_Put_nw) (rowsf := r01_Put_rows) (r := (m, true)) (h.2 z0) ⟨[], [], (by decide), rfl, rfl, trivial⟩⟩
theorem r01_Put_go2 {E_ : World} {G_ : Hp} (i : Int) (m : Int) {r_ : Int × Bool} {Q1 : r01_Put_T1} {Q2 : r01_Put_T2} (hQ : r01_Put_H E_ G_ w p q v r_ Q1 Q2) (h : r01_Put_wp2 w p q v i m Q1 Q2 (fun x => x = r_)) : SW Dg Tryd.prog 24 (Post Dg E_ G_ (r01_Put_out r_) (r01_Put_nw r_) (r01_Put_rows r_)) (bodyOf Tryd.f24) Tryd.f24.ntmps E_ G_ (.code (0 :: [0,1,0,1,1,1,1]) :: .again [0,1,0,1,1,1,1] :: [.blk 2, .code [1,1,1,1,1]]) (r01_Put_L2 w p q v i m) (r01_Put_K2 w p q v i m) :=
  SW.go Dg T_r01_Get_ok (I := []) Tryd.func24 mix 400 (t := r01_Put_t2 w p q v i m ) (by kernel_rfl) (r01_Put_pc2 w p q v i m hQ h)
theorem r01_Put_start {E_ : World} {G_ : Hp} {w_ : World} {r_ : Int × Bool} {Q1 : r01_Put_T1} {Q2 : r01_Put_T2} (hQ : r01_Put_H E_ G_ w p q v r_ Q1 Q2) (hS : Sat E_ G_ w_ []) (h : r01_Put_wp0 w p q v Q1 Q2 (fun x => x = r_)) : Calls Tryd.prog 24 #[(.int .u64 w), (.int .i64 p), (.int .i64 q), (.int .u64 v)] w_ (Post Dg E_ G_ (r01_Put_out r_) (r01_Put_nw r_) (r01_Put_rows r_)) :=
  calls_post Dg T_r01_Get_ok (I := []) Tryd.func24 mix (B := bodyOf Tryd.f24) (by kernel_rfl) [(.int .u64 w), (.int .i64 p), (.int .i64 q), (.int .u64 v)] [.no, .no, .no, .no] (by kernel_rfl) (objs := []) (ros := []) (psOk_cons pOk_no (psOk_cons pOk_no (psOk_cons pOk_no (psOk_cons pOk_no (psOk_nil))))) (by kernel_rfl) (trivial) hS 400
    (t := r01_Put_t0 w p q v)
    (by kernel_rfl)
    (r01_Put_pc0 w p q v hQ h)
def r01_Put_I1 (w : Int) (p : Int) (q : Int) (v : Int) (i : Int) (r_ : Int × Bool) : Prop := 1 ≤ i ∧ i ≤ 64 ∧ r_ = (bif hB v (64 - i).toNat then (0, false) else (pN w p q v 64 0, true))
def r01_Put_I2 (w : Int) (p : Int) (q : Int) (v : Int) (i : Int) (m : Int) (r_ : Int × Bool) : Prop := -1 ≤ i ∧ i ≤ 63 ∧ r_ = (pN w p q v (i + 1).toNat m, true)
theorem r01_Put_step2 (i : Int) (m : Int) {r_ : Int × Bool} (hI : r01_Put_I2 w p q v i m r_) : r01_Put_wp2 w p q v i m (fun i => False) (fun i' m' => r01_Put_I2 w p q v i' m' r_ ∧ ((i' + 1).toNat) < ((i + 1).toNat)) (fun x => x = r_) := by
  unfold r01_Put_I2 at hI
  unfold r01_Put_wp2
  try unfold r01_Put_I2
  obtain ⟨h0, h1, h2⟩ := hI
  refine ⟨fun h => ?_, fun h => ?_⟩
  · simp only [decide_eq_true_eq] at h
    rw [w64 (n := i - 1) (by omega)]
    have e : (i + 1).toNat = (i - 1 + 1).toNat + 1 := by omega
    rw [e, pN, show (((i - 1 + 1).toNat : Nat) : Int) = i by omega] at h2
    refine ⟨fun hc => ?_, fun hc => ?_⟩
    · rw [hc, cond_true] at h2
      exact ⟨⟨by omega, by omega, h2⟩, by omega⟩
    · rw [hc, cond_false] at h2
      exact ⟨⟨by omega, by omega, h2⟩, by omega⟩
  · simp only [decide_eq_false_iff_not] at h
    have e : (i + 1).toNat = 0 := by omega
    rw [e] at h2
    rw [h2]; rfl
theorem r01_Put_loop2 {E_ : World} {G_ : Hp} {r_ : Int × Bool} : ∀ s_ : Int × Int, r01_Put_I2 w p q v s_.1 s_.2 r_ → SW Dg Tryd.prog 24 (Post Dg E_ G_ (r01_Put_out r_) (r01_Put_nw r_) (r01_Put_rows r_)) (bodyOf Tryd.f24) Tryd.f24.ntmps E_ G_ (.code (0 :: [0,1,0,1,1,1,1]) :: .again [0,1,0,1,1,1,1] :: [.blk 2, .code [1,1,1,1,1]]) (r01_Put_L2 w p q v s_.1 s_.2) (r01_Put_K2 w p q v s_.1 s_.2) :=
  SW.loop Dg (α := Int × Int) (fun s_ => r01_Put_L2 w p q v s_.1 s_.2) (fun s_ => r01_Put_K2 w p q v s_.1 s_.2) (fun s_ => (s_.1 + 1).toNat) (fun s_ => r01_Put_I2 w p q v s_.1 s_.2 r_) (fun ⟨i, m⟩ hI ih => r01_Put_go2 w p q v i m ⟨fun _ h => h.elim, fun i' m' h => ih (i', m') h.1 h.2⟩ (r01_Put_step2 w p q v i m hI))
theorem r01_Put_step1 (i : Int) {r_ : Int × Bool} (hI : r01_Put_I1 w p q v i r_) : r01_Put_wp1 w p q v i (fun i' => r01_Put_I1 w p q v i' r_ ∧ ((64 - i').toNat) < ((64 - i).toNat)) (fun i m => r01_Put_I2 w p q v i m r_) (fun x => x = r_) := by
  unfold r01_Put_I1 at hI
  unfold r01_Put_wp1
  try unfold r01_Put_I1
  try unfold r01_Put_I2
  obtain ⟨h0, h1, h2⟩ := hI
  refine ⟨fun h => ?_, fun h => ?_⟩
  · simp only [decide_eq_true_eq] at h
    have e : (64 - i).toNat = (64 - (i + 1)).toNat + 1 := by omega
    rw [e, hB, show (63 - (((64 - (i + 1)).toNat : Nat) : Int)) = i by omega] at h2
    refine ⟨fun hb => ?_, fun hb => ?_⟩
    · rw [h2, hb]; rfl
    · rw [hb, Bool.false_or] at h2
      rw [w64 (n := i + 1) (by omega)]
      exact ⟨⟨by omega, by omega, h2⟩, by omega⟩
  · simp only [decide_eq_false_iff_not] at h
    have e : (64 - i).toNat = 0 := by omega
    rw [e] at h2
    exact ⟨by omega, by omega, h2⟩
theorem r01_Put_loop1 {E_ : World} {G_ : Hp} {r_ : Int × Bool} : ∀ s_ : Int, r01_Put_I1 w p q v s_ r_ → SW Dg Tryd.prog 24 (Post Dg E_ G_ (r01_Put_out r_) (r01_Put_nw r_) (r01_Put_rows r_)) (bodyOf Tryd.f24) Tryd.f24.ntmps E_ G_ (.code (0 :: [0,1,0,1,1]) :: .again [0,1,0,1,1] :: [.blk 0, .code [1,1,1]]) (r01_Put_L1 w p q v s_) (r01_Put_K1 w p q v s_) :=
  SW.loop Dg (α := Int) (fun s_ => r01_Put_L1 w p q v s_) (fun s_ => r01_Put_K1 w p q v s_) (fun s_ => (64 - s_).toNat) (fun s_ => r01_Put_I1 w p q v s_ r_) (fun i hI ih => r01_Put_go1 w p q v i ⟨fun i' h => ih i' h.1 h.2, fun i m h => r01_Put_loop2 w p q v (i, m) h⟩ (r01_Put_step1 w p q v i hI))
theorem r01_Put_begin : r01_Put_wp0 w p q v (fun i => r01_Put_I1 w p q v i (r01_Put w p q v)) (fun i m => r01_Put_I2 w p q v i m (r01_Put w p q v)) (fun x => x = (r01_Put w p q v)) := by
  unfold r01_Put_wp0
  try unfold r01_Put_I1
  try unfold r01_Put_I2
  refine ⟨fun h => ?_, fun h => ?_⟩
  · have : r01_field p q = false := by simpa using h
    simp only [r01_Put, this, cond_false]
  · have hf : r01_field p q = true := by simpa using h
    have hf' := hf
    simp only [r01_field, Bool.and_eq_true, decide_eq_true_eq, IntKind.wrap_i64] at hf'
    refine ⟨by omega, by omega, ?_⟩
    simp only [r01_Put, hf, cond_true]
theorem r01_Put_calls {E_ : World} {G_ : Hp} {w_ : World} (hS : Sat E_ G_ w_ []) : Calls Tryd.prog 24 #[(.int .u64 w), (.int .i64 p), (.int .i64 q), (.int .u64 v)] w_ (Post Dg E_ G_ (r01_Put_out (r01_Put w p q v)) (r01_Put_nw (r01_Put w p q v)) (r01_Put_rows (r01_Put w p q v))) :=
  r01_Put_start w p q v ⟨fun i h => r01_Put_loop1 w p q v i h, fun i m h => r01_Put_loop2 w p q v (i, m) h⟩ hS (r01_Put_begin w p q v )
end
def r01_Put_e : Entry Sg := fun
  | [(.int .u64 w, _), (.int .i64 p, _), (.int .i64 q, _), (.int .u64 v, _)] => some ⟨(r01_Put w p q v), fun (r_ : Int × Bool) => ⟨[], none, [], fun ss => .tuple #[.int .u64 (r_.1), .bool (r_.2)], fun k_ => .no⟩⟩
  | _ => none
theorem r01_Put_ok : EntryOk Dg Tryd.prog 24 r01_Put_e := by
  intro args c r h hr_
  unfold r01_Put_e at h
  split at h
  · injection h with h; subst h; subst hr_
    refine ⟨fun K acs _ => pOk_no, fun hpre E G w hi hS => ?_⟩
    exact entry_post Dg (by exact rfl) (r01_Put_calls _ _ _ _  hS)
  · cases h
def T_r01_Put : List (Nat × Entry Sg) := (24, r01_Put_e) :: T_r01_Get
theorem T_r01_Put_ok : TableOk Dg Tryd.prog T_r01_Put := TableOk.cons Dg r01_Put_ok T_r01_Get_ok

/- nacrelaw01.HalfFields -/
def HalfFields (w : Int) (p : Int) (q : Int) (v : Int) : Bool := half_Get w p q == r01_Get w p q && Prod.fst (half_Put w p q v) == Prod.fst (r01_Put w p q v) && Prod.snd (half_Put w p q v) == Prod.snd (r01_Put w p q v) && true
def HalfFields_out (r_ : Bool) : List Value → Value := fun ss => .bool (r_)
def HalfFields_nw (r_ : Bool) : List (Chunk Sg) := []
def HalfFields_rows (r_ : Bool) : List (Mk Sg) := []
section
variable (w : Int) (p : Int) (q : Int) (v : Int)
theorem HalfFields_calls {E_ : World} {G_ : Hp} {w_ : World} (hS : Sat E_ G_ w_ []) : Calls Tryd.prog 5 #[(.int .u64 w), (.agg #[.int .i64 p, .int .i64 q, .int .u64 v])] w_ (Post Dg E_ G_ (HalfFields_out (HalfFields w p q v)) (HalfFields_nw (HalfFields w p q v)) (HalfFields_rows (HalfFields w p q v))) :=
  calls_post Dg T_r01_Put_ok (I := []) Tryd.func5 mix (B := bodyOf Tryd.f5) (by kernel_rfl) [(.int .u64 w), (.agg #[.int .i64 p, .int .i64 q, .int .u64 v])] [.no, .no] (by kernel_rfl) (objs := []) (ros := []) (psOk_cons pOk_no (psOk_cons pOk_no (psOk_nil))) (by kernel_rfl) (trivial) hS 400
    (t := Tree.fresh fun b => Tree.ret (Value.bool (half_Get w p q == r01_Get w p q && Prod.fst (half_Put w p q v) == Prod.fst (r01_Put w p q v) && Prod.snd (half_Put w p q v) == Prod.snd (r01_Put w p q v) && true)) pn_ [kc_ b 35 [(vi_ p, pn_), (vi_ q, pn_), (Value.int IntKind.u64 v, pn_)]])
    (by kernel_rfl)
    (fun b0_0 => RetOk.at (outf := HalfFields_out) (nwf := HalfFields_nw) (rowsf := HalfFields_rows) (r := half_Get w p q == r01_Get w p q && Prod.fst (half_Put w p q v) == Prod.fst (r01_Put w p q v) && Prod.snd (half_Put w p q v) == Prod.snd (r01_Put w p q v) && true) (by first | exact Eq.symm rfl | (simp only [HalfFields, cond_true, cond_false]; done) | (exfalso; simp_all; done) | decide) ⟨[], [], (by decide), rfl, rfl, trivial⟩)
theorem HalfFields_plain {E_ : World} {G_ : Hp} {w_ : World} (hS : Sat E_ G_ w_ []) : Calls Tryd.prog 5 #[(.int .u64 w), (.agg #[.int .i64 p, .int .i64 q, .int .u64 v])] w_ (fun en w' => en = .returned (.bool ((HalfFields w p q v))) ∧ Sat E_ G_ w' []) := by
  have h := HalfFields_calls (E_ := E_) (G_ := G_) w p q v  hS
  refine h.mono fun en w' hp => ?_
  have hp' : Post Dg E_ G_ (fun _ => .bool ((HalfFields w p q v))) ([] : List (Chunk Sg)) [] en w' := hp
  rw [Post.plain] at hp'
  exact hp'
end
def HalfFields_e : Entry Sg := fun
  | [(.int .u64 w, _), (.agg ⟨[.int .i64 p, .int .i64 q, .int .u64 v]⟩, .none)] => some ⟨(HalfFields w p q v), fun (r_ : Bool) => ⟨[], none, [], fun ss => .bool (r_), fun k_ => .no⟩⟩
  | _ => none
theorem HalfFields_ok : EntryOk Dg Tryd.prog 5 HalfFields_e := by
  intro args c r h hr_
  unfold HalfFields_e at h
  split at h
  · injection h with h; subst h; subst hr_
    refine ⟨fun K acs _ => pOk_no, fun hpre E G w hi hS => ?_⟩
    exact entry_post Dg (by exact rfl) (HalfFields_calls _ _ _ _  hS)
  · cases h
def T_HalfFields : List (Nat × Entry Sg) := (5, HalfFields_e) :: T_r01_Put
theorem T_HalfFields_ok : TableOk Dg Tryd.prog T_HalfFields := TableOk.cons Dg HalfFields_ok T_r01_Put_ok
end Go.Proofs.YtaenbinoejnecaaDoor
