/-
  DERIVED. What functions of the program compute, read off their bodies by the machine of SlB, and that it is so. Printed by a program of this claim's own (wip/gen/gen2.py).
-/
import Derived.Test.YtaenbinoejnecaaDoorPlHalf3
namespace Go.Proofs.YtaenbinoejnecaaDoor
open Go.Sl
set_option linter.unusedSimpArgs false
set_option linter.unusedVariables false
set_option maxRecDepth 100000
def SlHalf4_bytes0 : ByteArray := ⟨⟨[0, 1, 1, 2, 1, 2, 2, 3, 1, 2, 2, 3, 2, 3, 3, 4, 1, 2, 2, 3, 2, 3, 3, 4, 2, 3, 3, 4, 3, 4, 4, 5, 1, 2, 2, 3, 2, 3, 3, 4, 2, 3, 3, 4, 3, 4, 4, 5, 2, 3, 3, 4, 3, 4, 4, 5, 3, 4, 4, 5, 4, 5, 5, 6, 1, 2, 2, 3, 2, 3, 3, 4, 2, 3, 3, 4, 3, 4, 4, 5, 2, 3, 3, 4, 3, 4, 4, 5, 3, 4, 4, 5, 4, 5, 5, 6, 2, 3, 3, 4, 3, 4, 4, 5, 3, 4, 4, 5, 4, 5, 5, 6, 3, 4, 4, 5, 4, 5, 5, 6, 4, 5, 5, 6, 5, 6, 6, 7, 1, 2, 2, 3, 2, 3, 3, 4, 2, 3, 3, 4, 3, 4, 4, 5, 2, 3, 3, 4, 3, 4, 4, 5, 3, 4, 4, 5, 4, 5, 5, 6, 2, 3, 3, 4, 3, 4, 4, 5, 3, 4, 4, 5, 4, 5, 5, 6, 3, 4, 4, 5, 4, 5, 5, 6, 4, 5, 5, 6, 5, 6, 6, 7, 2, 3, 3, 4, 3, 4, 4, 5, 3, 4, 4, 5, 4, 5, 5, 6, 3, 4, 4, 5, 4, 5, 5, 6, 4, 5, 5, 6, 5, 6, 6, 7, 3, 4, 4, 5, 4, 5, 5, 6, 4, 5, 5, 6, 5, 6, 6, 7, 4, 5, 5, 6, 5, 6, 6, 7, 5, 6, 6, 7, 6, 7, 7, 8]⟩⟩

def tab32 : List Int := [0, 1, 28, 2, 29, 14, 24, 3, 30, 22, 20, 15, 25, 17, 4, 8, 31, 27, 13, 23, 21, 19, 16, 7, 26, 12, 18, 6, 11, 5, 10, 9]
def oN (v : Int) : Nat → Int → Int
  | 0, n => n
  | k + 1, n => oN v k (bif r01_Bit v (31 - (k : Int)) then n + 1 else n)
def lN (v : Int) : Nat → Int
  | 0 => -1
  | k + 1 => bif r01_Bit v (31 - (k : Int)) then 31 - (k : Int) else lN v k
def logI (n : Int) : Int := if n < 1 then -1 else (Nat.log2 n.toNat : Int)
theorem logI_lt {n : Int} (h : n < 1) : logI n = -1 := by unfold logI; rw [if_pos h]
theorem logI_half {n : Int} (h : 1 ≤ n) : logI n = logI (n / 2) + 1 := by
  unfold logI
  rw [if_neg (by omega), Nat.log2_def]
  by_cases h2 : n / 2 < 1
  · rw [if_pos h2, if_neg (by omega)]; rfl
  · rw [if_neg h2, if_pos (by omega)]
    have : (n / 2).toNat = n.toNat / 2 := by omega
    rw [this]; push_cast; rfl
theorem logI_le (k : Nat) : ∀ n : Int, n < 2 ^ k → logI n ≤ (k : Int) - 1 := by
  induction k with
  | zero => intro n h; rw [logI_lt (by simpa using h)]; omega
  | succ k ih =>
    intro n h
    by_cases h1 : 1 ≤ n
    · rw [logI_half h1]
      have := ih (n / 2) (by rw [Int.pow_succ] at h; omega)
      push_cast; omega
    · rw [logI_lt (by omega)]; push_cast; omega
theorem logI_ge (n : Int) : -1 ≤ logI n := by
  unfold logI
  split <;> omega


def u32ok (v : Int) : Prop := 0 ≤ v ∧ v < 4294967296
theorem and255 (z : Int) : 0 ≤ IntKind.u32.wrap ((BitVec.ofInt 32 z &&& BitVec.ofInt 32 255).toNat : Int) ∧ IntKind.u32.wrap ((BitVec.ofInt 32 z &&& BitVec.ofInt 32 255).toNat : Int) < ((256 : Nat) : Int) := by
  have h : (BitVec.ofInt 32 z &&& BitVec.ofInt 32 255).toNat < 256 := by
    rw [BitVec.toNat_and]
    exact Nat.lt_of_le_of_lt Nat.and_le_right (by decide)
  rw [IntKind.wrap_u32]; omega
theorem top5 (z : Int) : 0 ≤ Int.fdiv (IntKind.u32.wrap z) 134217728 ∧ Int.fdiv (IntKind.u32.wrap z) 134217728 < ((32 : Nat) : Int) := by
  rw [IntKind.wrap_u32, Int.fdiv_eq_ediv_of_nonneg _ (by omega)]; omega
theorem top8 {v : Int} (h0 : 0 ≤ v) (h1 : v < 4294967296) : 0 ≤ Int.fdiv v 16777216 ∧ Int.fdiv v 16777216 < ((256 : Nat) : Int) := by
  rw [Int.fdiv_eq_ediv_of_nonneg _ (by omega)]; omega


/- math/bits.OnesCount32 -/
def bits_Ones (v : Int) : Int := IntKind.wrap IntKind.i64
  (IntKind.wrap IntKind.u8
    (IntKind.wrap IntKind.u8
        (IntKind.wrap IntKind.u8
            (sAt SlHalf4_bytes0 (Int.fdiv v (16777216 : Int)) +
              sAt SlHalf4_bytes0 (IntKind.wrap IntKind.u32 (↑(BitVec.toNat (BitVec.ofInt 32 (Int.fdiv v (65536 : Int)) &&& BitVec.ofInt 32 (255 : Int))) : Int))) +
          sAt SlHalf4_bytes0 (IntKind.wrap IntKind.u32 (↑(BitVec.toNat (BitVec.ofInt 32 (Int.fdiv v (256 : Int)) &&& BitVec.ofInt 32 (255 : Int))) : Int))) +
      sAt SlHalf4_bytes0 (IntKind.wrap IntKind.u32 (↑(BitVec.toNat (BitVec.ofInt 32 v &&& BitVec.ofInt 32 (255 : Int))) : Int))))
def bits_Ones_out (r_ : Int) : List Value → Value := fun ss => .int .i64 (r_)
def bits_Ones_nw (r_ : Int) : List (Chunk Sg) := []
def bits_Ones_rows (r_ : Int) : List (Mk Sg) := []
section
variable (v : Int)
theorem bits_Ones_calls {E_ : World} {G_ : Hp} {w_ : World} (hp0 : u32ok v) (hS : Sat E_ G_ w_ []) : Calls Tryd.prog 27 #[(.int .u32 v)] w_ (Post Dg E_ G_ (bits_Ones_out (bits_Ones v)) (bits_Ones_nw (bits_Ones v)) (bits_Ones_rows (bits_Ones v))) :=
  calls_post Dg T_HalfBack_ok (I := []) Tryd.func27 mix (B := bodyOf Tryd.f27) (by kernel_rfl) [(.int .u32 v)] [.no] (by kernel_rfl) (objs := []) (ros := []) (psOk_cons pOk_no (psOk_nil)) (by kernel_rfl) (trivial) hS 400
    (t := Tree.need ((0 : Int) ≤ Int.fdiv v (16777216 : Int) ∧ Int.fdiv v (16777216 : Int) < (256 : Int))
  (Tree.need ((0 : Int) ≤ IntKind.wrap IntKind.u32 (↑(BitVec.toNat (BitVec.ofInt 32 (Int.fdiv v (65536 : Int)) &&& BitVec.ofInt 32 (255 : Int))) : Int) ∧ IntKind.wrap IntKind.u32 (↑(BitVec.toNat (BitVec.ofInt 32 (Int.fdiv v (65536 : Int)) &&& BitVec.ofInt 32 (255 : Int))) : Int) < (256 : Int))
    (Tree.need ((0 : Int) ≤ IntKind.wrap IntKind.u32 (↑(BitVec.toNat (BitVec.ofInt 32 (Int.fdiv v (256 : Int)) &&& BitVec.ofInt 32 (255 : Int))) : Int) ∧ IntKind.wrap IntKind.u32 (↑(BitVec.toNat (BitVec.ofInt 32 (Int.fdiv v (256 : Int)) &&& BitVec.ofInt 32 (255 : Int))) : Int) < (256 : Int))
      (Tree.need ((0 : Int) ≤ IntKind.wrap IntKind.u32 (↑(BitVec.toNat (BitVec.ofInt 32 v &&& BitVec.ofInt 32 (255 : Int))) : Int) ∧ IntKind.wrap IntKind.u32 (↑(BitVec.toNat (BitVec.ofInt 32 v &&& BitVec.ofInt 32 (255 : Int))) : Int) < (256 : Int))
        (Tree.ret
          (vi_
            (IntKind.wrap IntKind.i64
              (IntKind.wrap IntKind.u8
                (IntKind.wrap IntKind.u8
                    (IntKind.wrap IntKind.u8
                        (sAt SlHalf4_bytes0 (Int.fdiv v (16777216 : Int)) +
                          sAt SlHalf4_bytes0 (IntKind.wrap IntKind.u32 (↑(BitVec.toNat (BitVec.ofInt 32 (Int.fdiv v (65536 : Int)) &&& BitVec.ofInt 32 (255 : Int))) : Int))) +
                      sAt SlHalf4_bytes0 (IntKind.wrap IntKind.u32 (↑(BitVec.toNat (BitVec.ofInt 32 (Int.fdiv v (256 : Int)) &&& BitVec.ofInt 32 (255 : Int))) : Int))) +
                  sAt SlHalf4_bytes0 (IntKind.wrap IntKind.u32 (↑(BitVec.toNat (BitVec.ofInt 32 v &&& BitVec.ofInt 32 (255 : Int))) : Int))))))
          pn_ [])))))
    (by kernel_rfl)
    (⟨by first | exact top8 hp0.1 hp0.2 | exact and255 _, fun y0 => ⟨by first | exact top8 hp0.1 hp0.2 | exact and255 _, fun y1 => ⟨by first | exact top8 hp0.1 hp0.2 | exact and255 _, fun y2 => ⟨by first | exact top8 hp0.1 hp0.2 | exact and255 _, fun y3 => RetOk.at (outf := bits_Ones_out) (nwf := bits_Ones_nw) (rowsf := bits_Ones_rows) (r := IntKind.wrap IntKind.i64
  (IntKind.wrap IntKind.u8
    (IntKind.wrap IntKind.u8
        (IntKind.wrap IntKind.u8
            (sAt SlHalf4_bytes0 (Int.fdiv v (16777216 : Int)) +
              sAt SlHalf4_bytes0 (IntKind.wrap IntKind.u32 (↑(BitVec.toNat (BitVec.ofInt 32 (Int.fdiv v (65536 : Int)) &&& BitVec.ofInt 32 (255 : Int))) : Int))) +
          sAt SlHalf4_bytes0 (IntKind.wrap IntKind.u32 (↑(BitVec.toNat (BitVec.ofInt 32 (Int.fdiv v (256 : Int)) &&& BitVec.ofInt 32 (255 : Int))) : Int))) +
      sAt SlHalf4_bytes0 (IntKind.wrap IntKind.u32 (↑(BitVec.toNat (BitVec.ofInt 32 v &&& BitVec.ofInt 32 (255 : Int))) : Int))))) (by first | exact Eq.symm rfl | (simp only [bits_Ones, cond_true, cond_false]; done) | (exfalso; simp_all; done) | decide) ⟨[], [], (by decide), rfl, rfl, trivial⟩⟩⟩⟩⟩)
end
def bits_Ones_e : Entry Sg := fun
  | [(.int .u32 v, _)] => some ⟨(bits_Ones v), fun (r_ : Int) => ⟨[(u32ok v : Prop)], none, [], fun ss => .int .i64 (r_), fun k_ => .no⟩⟩
  | _ => none
theorem bits_Ones_ok : EntryOk Dg Tryd.prog 27 bits_Ones_e := by
  intro args c r h hr_
  unfold bits_Ones_e at h
  split at h
  · injection h with h; subst h; subst hr_
    refine ⟨fun K acs _ => pOk_no, fun hpre E G w hi hS => ?_⟩
    exact entry_post Dg (by exact rfl) (bits_Ones_calls _ (hpre _ (by simp)) hS)
  · cases h
def T_bits_Ones : List (Nat × Entry Sg) := (27, bits_Ones_e) :: T_HalfBack
theorem T_bits_Ones_ok : TableOk Dg Tryd.prog T_bits_Ones := TableOk.cons Dg bits_Ones_ok T_HalfBack_ok

/- half.Ones -/
def half_Ones (v : Int) : Int := bits_Ones v
def half_Ones_out (r_ : Int) : List Value → Value := fun ss => .int .i64 (r_)
def half_Ones_nw (r_ : Int) : List (Chunk Sg) := []
def half_Ones_rows (r_ : Int) : List (Mk Sg) := []
section
variable (v : Int)
theorem half_Ones_calls {E_ : World} {G_ : Hp} {w_ : World} (hp0 : u32ok v) (hS : Sat E_ G_ w_ []) : Calls Tryd.prog 14 #[(.int .u32 v)] w_ (Post Dg E_ G_ (half_Ones_out (half_Ones v)) (half_Ones_nw (half_Ones v)) (half_Ones_rows (half_Ones v))) :=
  calls_post Dg T_bits_Ones_ok (I := []) Tryd.func14 mix (B := bodyOf Tryd.f14) (by kernel_rfl) [(.int .u32 v)] [.no] (by kernel_rfl) (objs := []) (ros := []) (psOk_cons pOk_no (psOk_nil)) (by kernel_rfl) (trivial) hS 400
    (t := Tree.need (u32ok v) (Tree.ret (vi_ (bits_Ones v)) pn_ []))
    (by kernel_rfl)
    (⟨by exact hp0, fun y0 => RetOk.at (outf := half_Ones_out) (nwf := half_Ones_nw) (rowsf := half_Ones_rows) (r := bits_Ones v) (by first | exact Eq.symm rfl | (simp only [half_Ones, cond_true, cond_false]; done) | (exfalso; simp_all; done) | decide) ⟨[], [], (by decide), rfl, rfl, trivial⟩⟩)
end
def half_Ones_e : Entry Sg := fun
  | [(.int .u32 v, _)] => some ⟨(half_Ones v), fun (r_ : Int) => ⟨[(u32ok v : Prop)], none, [], fun ss => .int .i64 (r_), fun k_ => .no⟩⟩
  | _ => none
theorem half_Ones_ok : EntryOk Dg Tryd.prog 14 half_Ones_e := by
  intro args c r h hr_
  unfold half_Ones_e at h
  split at h
  · injection h with h; subst h; subst hr_
    refine ⟨fun K acs _ => pOk_no, fun hpre E G w hi hS => ?_⟩
    exact entry_post Dg (by exact rfl) (half_Ones_calls _ (hpre _ (by simp)) hS)
  · cases h
def T_half_Ones : List (Nat × Entry Sg) := (14, half_Ones_e) :: T_bits_Ones
theorem T_half_Ones_ok : TableOk Dg Tryd.prog T_half_Ones := TableOk.cons Dg half_Ones_ok T_bits_Ones_ok

/- nacreref01.Ones -/
def r01_Ones (v : Int) : Int := oN v 32 0
def r01_Ones_out (r_ : Int) : List Value → Value := fun ss => .int .i64 (r_)
def r01_Ones_nw (r_ : Int) : List (Chunk Sg) := []
def r01_Ones_rows (r_ : Int) : List (Mk Sg) := []
section
variable (v : Int)
abbrev r01_Ones_T1 : Type := Int → Int → Prop
abbrev r01_Ones_L1 (v : Int) (i : Int) (m : Int) : List Ent := [⟨4, none, .int .i64 i, .no⟩, ⟨3, none, .int .i64 m, .no⟩, ⟨0, none, .int .u32 v, .no⟩]
abbrev r01_Ones_K1 (v : Int) (i : Int) (m : Int) : List (Chunk Sg) := []
abbrev r01_Ones_H (E_ : World) (G_ : Hp) (v : Int) (r_ : Int) (Q1 : r01_Ones_T1) : Prop := (∀ (i : Int) (m : Int), Q1 i m → SW Dg Tryd.prog 15 (Post Dg E_ G_ (r01_Ones_out r_) (r01_Ones_nw r_) (r01_Ones_rows r_)) (bodyOf Tryd.f15) Tryd.f15.ntmps E_ G_ (.code (0 :: [0,1,0,1,1]) :: .again [0,1,0,1,1] :: [.blk 0, .code [1,1,1]]) (r01_Ones_L1 v i m) (r01_Ones_K1 v i m))
abbrev r01_Ones_wp0 (v : Int) (Q1 : r01_Ones_T1) (R_ : Int → Prop) : Prop := (Q1 ((0 : Int)) ((0 : Int)))
abbrev r01_Ones_t0 (v : Int) : Tree Sg := Tree.stuck [Ab.code [0, 1, 0, 1, 1], Ab.blk 0, Ab.code [1, 1, 1]] [e0_ 1000004 (Value.tuple { toList := [] }) pn_, e0_ 4 (vi_ (0 : Int)) pn_, e0_ 1000003 (Value.tuple { toList := [] }) pn_, e0_ 3 (vi_ (0 : Int)) pn_, e0_ 1000002 (Value.tuple { toList := [] }) pn_, e0_ 2 (vi_ (0 : Int)) pn_, e0_ 0 (vu_ v) pn_] []
theorem r01_Ones_pc0 {E_ : World} {G_ : Hp} {r_ : Int} {Q1 : r01_Ones_T1} (hQ : r01_Ones_H E_ G_ v r_ Q1) (h : r01_Ones_wp0 v Q1 (fun x => x = r_)) : (r01_Ones_t0 v ).holds (RetOk (r01_Ones_out r_) (r01_Ones_nw r_) (r01_Ones_rows r_)) (SW Dg Tryd.prog 15 (Post Dg E_ G_ (r01_Ones_out r_) (r01_Ones_nw r_) (r01_Ones_rows r_)) (bodyOf Tryd.f15) Tryd.f15.ntmps E_ G_) :=
  SW.move Dg [4, 3, 0] [] (by decide) (by kernel_rfl) (by kernel_rfl) (SW.enter Dg (by kernel_rfl) (hQ ((0 : Int)) ((0 : Int)) h))
abbrev r01_Ones_wp1 (v : Int) (i : Int) (m : Int) (Q1 : r01_Ones_T1) (R_ : Int → Prop) : Prop := (((decide (i < (32 : Int))) = true → (((r01_Bit v i) = true → (Q1 (IntKind.wrap IntKind.i64 (i + (1 : Int))) (IntKind.wrap IntKind.i64 (m + (1 : Int))))) ∧ ((r01_Bit v i) = false → (Q1 (IntKind.wrap IntKind.i64 (i + (1 : Int))) (m))))) ∧ ((decide (i < (32 : Int))) = false → (R_ (m))))
abbrev r01_Ones_t1 (v : Int) (i : Int) (m : Int) : Tree Sg := Tree.br (decide (i < (32 : Int))) (Tree.br (r01_Bit v i) (Tree.stuck [Ab.again [0, 1, 0, 1, 1], Ab.blk 0, Ab.code [1, 1, 1]] [e0_ 4 (vi_ (IntKind.wrap IntKind.i64 (i + (1 : Int)))) pn_, e0_ 8 (vi_ (IntKind.wrap IntKind.i64 (i + (1 : Int)))) pn_, e0_ 7 (vi_ i) pn_, e0_ 3 (vi_ (IntKind.wrap IntKind.i64 (m + (1 : Int)))) pn_, e0_ 13 (vi_ (IntKind.wrap IntKind.i64 (m + (1 : Int)))) pn_, e0_ 12 (vi_ m) pn_, e0_ 11 (Value.bool (r01_Bit v i)) pn_, e0_ 10 (vi_ i) pn_, e0_ 9 (vu_ v) pn_, e0_ 6 (Value.bool (decide (i < (32 : Int)))) pn_, e0_ 5 (vi_ i) pn_, e0_ 0 (vu_ v) pn_] []) (Tree.stuck [Ab.again [0, 1, 0, 1, 1], Ab.blk 0, Ab.code [1, 1, 1]] [e0_ 4 (vi_ (IntKind.wrap IntKind.i64 (i + (1 : Int)))) pn_, e0_ 8 (vi_ (IntKind.wrap IntKind.i64 (i + (1 : Int)))) pn_, e0_ 7 (vi_ i) pn_, e0_ 11 (Value.bool (r01_Bit v i)) pn_, e0_ 10 (vi_ i) pn_, e0_ 9 (vu_ v) pn_, e0_ 6 (Value.bool (decide (i < (32 : Int)))) pn_, e0_ 5 (vi_ i) pn_, e0_ 3 (vi_ m) pn_, e0_ 0 (vu_ v) pn_] [])) (Tree.ret (vi_ m) pn_ [])
theorem r01_Ones_pc1 {E_ : World} {G_ : Hp} (i : Int) (m : Int) {r_ : Int} {Q1 : r01_Ones_T1} (hQ : r01_Ones_H E_ G_ v r_ Q1) (h : r01_Ones_wp1 v i m Q1 (fun x => x = r_)) : (r01_Ones_t1 v i m ).holds (RetOk (r01_Ones_out r_) (r01_Ones_nw r_) (r01_Ones_rows r_)) (SW Dg Tryd.prog 15 (Post Dg E_ G_ (r01_Ones_out r_) (r01_Ones_nw r_) (r01_Ones_rows r_)) (bodyOf Tryd.f15) Tryd.f15.ntmps E_ G_) :=
  ⟨fun z0 => ⟨fun z1 => SW.move Dg [4, 3, 0] [] (by decide) (by kernel_rfl) (by kernel_rfl) (SW.again Dg (hQ (IntKind.wrap IntKind.i64 (i + (1 : Int))) (IntKind.wrap IntKind.i64 (m + (1 : Int))) ((h.1 z0).1 z1))), fun z1 => SW.move Dg [4, 3, 0] [] (by decide) (by kernel_rfl) (by kernel_rfl) (SW.again Dg (hQ (IntKind.wrap IntKind.i64 (i + (1 : Int))) (m) ((h.1 z0).2 z1)))⟩, fun z0 => RetOk.at (outf := r01_Ones_out) (nwf := r01_Ones_nw) (rowsf := r01_Ones_rows) (r := m) (h.2 z0) ⟨[], [], (by decide), rfl, rfl, trivial⟩⟩
theorem r01_Ones_go1 {E_ : World} {G_ : Hp} (i : Int) (m : Int) {r_ : Int} {Q1 : r01_Ones_T1} (hQ : r01_Ones_H E_ G_ v r_ Q1) (h : r01_Ones_wp1 v i m Q1 (fun x => x = r_)) : SW Dg Tryd.prog 15 (Post Dg E_ G_ (r01_Ones_out r_) (r01_Ones_nw r_) (r01_Ones_rows r_)) (bodyOf Tryd.f15) Tryd.f15.ntmps E_ G_ (.code (0 :: [0,1,0,1,1]) :: .again [0,1,0,1,1] :: [.blk 0, .code [1,1,1]]) (r01_Ones_L1 v i m) (r01_Ones_K1 v i m) :=
  SW.go Dg T_half_Ones_ok (I := []) Tryd.func15 mix 400 (t := r01_Ones_t1 v i m ) (by kernel_rfl) (r01_Ones_pc1 v i m hQ h)
theorem r01_Ones_start {E_ : World} {G_ : Hp} {w_ : World} {r_ : Int} {Q1 : r01_Ones_T1} (hQ : r01_Ones_H E_ G_ v r_ Q1) (hS : Sat E_ G_ w_ []) (h : r01_Ones_wp0 v Q1 (fun x => x = r_)) : Calls Tryd.prog 15 #[(.int .u32 v)] w_ (Post Dg E_ G_ (r01_Ones_out r_) (r01_Ones_nw r_) (r01_Ones_rows r_)) :=
  calls_post Dg T_half_Ones_ok (I := []) Tryd.func15 mix (B := bodyOf Tryd.f15) (by kernel_rfl) [(.int .u32 v)] [.no] (by kernel_rfl) (objs := []) (ros := []) (psOk_cons pOk_no (psOk_nil)) (by kernel_rfl) (trivial) hS 400
    (t := r01_Ones_t0 v)
    (by kernel_rfl)
    (r01_Ones_pc0 v hQ h)
def r01_Ones_I (v : Int) (i : Int) (m : Int) (r_ : Int) : Prop := 0 ≤ i ∧ i ≤ 32 ∧ 0 ≤ m ∧ m ≤ i ∧ r_ = oN v (32 - i).toNat m
theorem r01_Ones_step (i : Int) (m : Int) {r_ : Int} (hI : r01_Ones_I v i m r_) : r01_Ones_wp1 v i m (fun i' m' => r01_Ones_I v i' m' r_ ∧ ((32 - i').toNat) < ((32 - i).toNat)) (fun x => x = r_) := by
  unfold r01_Ones_I at hI
  unfold r01_Ones_wp1 r01_Ones_I
  obtain ⟨h0, h1, h2, h3, h4⟩ := hI
  refine ⟨fun h => ?_, fun h => ?_⟩
  · simp only [decide_eq_true_eq] at h
    have e : (32 - i).toNat = (32 - (i + 1)).toNat + 1 := by omega
    rw [e, oN, show (31 - (((32 - (i + 1)).toNat : Nat) : Int)) = i by omega] at h4
    rw [w64 (n := i + 1) (by omega), w64 (n := m + 1) (by omega)]
    refine ⟨fun hb => ?_, fun hb => ?_⟩
    · rw [hb, cond_true] at h4; exact ⟨⟨by omega, by omega, by omega, by omega, h4⟩, by omega⟩
    · rw [hb, cond_false] at h4; exact ⟨⟨by omega, by omega, by omega, by omega, h4⟩, by omega⟩
  · simp only [decide_eq_false_iff_not] at h
    have e : (32 - i).toNat = 0 := by omega
    rw [e] at h4
    rw [h4]; rfl
theorem r01_Ones_loop {E_ : World} {G_ : Hp} {r_ : Int} : ∀ s_ : Int × Int, r01_Ones_I v s_.1 s_.2 r_ → SW Dg Tryd.prog 15 (Post Dg E_ G_ (r01_Ones_out r_) (r01_Ones_nw r_) (r01_Ones_rows r_)) (bodyOf Tryd.f15) Tryd.f15.ntmps E_ G_ (.code (0 :: [0,1,0,1,1]) :: .again [0,1,0,1,1] :: [.blk 0, .code [1,1,1]]) (r01_Ones_L1 v s_.1 s_.2) (r01_Ones_K1 v s_.1 s_.2) :=
  SW.loop Dg (α := Int × Int) (fun s_ => r01_Ones_L1 v s_.1 s_.2) (fun s_ => r01_Ones_K1 v s_.1 s_.2) (fun s_ => (32 - s_.1).toNat) (fun s_ => r01_Ones_I v s_.1 s_.2 r_) (fun ⟨i, m⟩ hI ih => r01_Ones_go1 v i m (fun i' m' h => ih (i', m') h.1 h.2) (r01_Ones_step v i m hI))
theorem r01_Ones_begin : r01_Ones_wp0 v (fun i m => r01_Ones_I v i m (r01_Ones v)) (fun x => x = (r01_Ones v)) := by
  unfold r01_Ones_wp0 r01_Ones_I
  exact ⟨by omega, by omega, by omega, by omega, rfl⟩
theorem r01_Ones_calls {E_ : World} {G_ : Hp} {w_ : World} (hS : Sat E_ G_ w_ []) : Calls Tryd.prog 15 #[(.int .u32 v)] w_ (Post Dg E_ G_ (r01_Ones_out (r01_Ones v)) (r01_Ones_nw (r01_Ones v)) (r01_Ones_rows (r01_Ones v))) :=
  r01_Ones_start v (fun i m h => r01_Ones_loop v (i, m) h) hS (r01_Ones_begin v )
end
def r01_Ones_e : Entry Sg := fun
  | [(.int .u32 v, _)] => some ⟨(r01_Ones v), fun (r_ : Int) => ⟨[], none, [], fun ss => .int .i64 (r_), fun k_ => .no⟩⟩
  | _ => none
theorem r01_Ones_ok : EntryOk Dg Tryd.prog 15 r01_Ones_e := by
  intro args c r h hr_
  unfold r01_Ones_e at h
  split at h
  · injection h with h; subst h; subst hr_
    refine ⟨fun K acs _ => pOk_no, fun hpre E G w hi hS => ?_⟩
    exact entry_post Dg (by exact rfl) (r01_Ones_calls _  hS)
  · cases h
def T_r01_Ones : List (Nat × Entry Sg) := (15, r01_Ones_e) :: T_half_Ones
theorem T_r01_Ones_ok : TableOk Dg Tryd.prog T_r01_Ones := TableOk.cons Dg r01_Ones_ok T_half_Ones_ok

/- nacreref01.Lowest -/
def r01_Lowest (v : Int) : Int := lN v 32
def r01_Lowest_out (r_ : Int) : List Value → Value := fun ss => .int .i64 (r_)
def r01_Lowest_nw (r_ : Int) : List (Chunk Sg) := []
def r01_Lowest_rows (r_ : Int) : List (Mk Sg) := []
section
variable (v : Int)
abbrev r01_Lowest_T1 : Type := Int → Prop
abbrev r01_Lowest_L1 (v : Int) (i : Int) : List Ent := [⟨3, none, .int .i64 i, .no⟩, ⟨0, none, .int .u32 v, .no⟩]
abbrev r01_Lowest_K1 (v : Int) (i : Int) : List (Chunk Sg) := []
abbrev r01_Lowest_H (E_ : World) (G_ : Hp) (v : Int) (r_ : Int) (Q1 : r01_Lowest_T1) : Prop := (∀ (i : Int), Q1 i → SW Dg Tryd.prog 17 (Post Dg E_ G_ (r01_Lowest_out r_) (r01_Lowest_nw r_) (r01_Lowest_rows r_)) (bodyOf Tryd.f17) Tryd.f17.ntmps E_ G_ (.code (0 :: [0,1,0,1]) :: .again [0,1,0,1] :: [.blk 0, .code [1,1]]) (r01_Lowest_L1 v i) (r01_Lowest_K1 v i))
abbrev r01_Lowest_wp0 (v : Int) (Q1 : r01_Lowest_T1) (R_ : Int → Prop) : Prop := (Q1 ((0 : Int)))
abbrev r01_Lowest_t0 (v : Int) : Tree Sg := Tree.stuck [Ab.code [0, 1, 0, 1], Ab.blk 0, Ab.code [1, 1]] [e0_ 1000003 (Value.tuple { toList := [] }) pn_, e0_ 3 (vi_ (0 : Int)) pn_, e0_ 1000002 (Value.tuple { toList := [] }) pn_, e0_ 2 (vi_ (0 : Int)) pn_, e0_ 0 (vu_ v) pn_] []
theorem r01_Lowest_pc0 {E_ : World} {G_ : Hp} {r_ : Int} {Q1 : r01_Lowest_T1} (hQ : r01_Lowest_H E_ G_ v r_ Q1) (h : r01_Lowest_wp0 v Q1 (fun x => x = r_)) : (r01_Lowest_t0 v ).holds (RetOk (r01_Lowest_out r_) (r01_Lowest_nw r_) (r01_Lowest_rows r_)) (SW Dg Tryd.prog 17 (Post Dg E_ G_ (r01_Lowest_out r_) (r01_Lowest_nw r_) (r01_Lowest_rows r_)) (bodyOf Tryd.f17) Tryd.f17.ntmps E_ G_) :=
  SW.move Dg [3, 0] [] (by decide) (by kernel_rfl) (by kernel_rfl) (SW.enter Dg (by kernel_rfl) (hQ ((0 : Int)) h))
abbrev r01_Lowest_wp1 (v : Int) (i : Int) (Q1 : r01_Lowest_T1) (R_ : Int → Prop) : Prop := (((decide (i < (32 : Int))) = true → (((r01_Bit v i) = true → (R_ (i))) ∧ ((r01_Bit v i) = false → (Q1 (IntKind.wrap IntKind.i64 (i + (1 : Int))))))) ∧ ((decide (i < (32 : Int))) = false → (R_ ((-1 : Int)))))
abbrev r01_Lowest_t1 (v : Int) (i : Int) : Tree Sg := Tree.br (decide (i < (32 : Int))) (Tree.br (r01_Bit v i) (Tree.ret (vi_ i) pn_ []) (Tree.stuck [Ab.again [0, 1, 0, 1], Ab.blk 0, Ab.code [1, 1]] [e0_ 3 (vi_ (IntKind.wrap IntKind.i64 (i + (1 : Int)))) pn_, e0_ 7 (vi_ (IntKind.wrap IntKind.i64 (i + (1 : Int)))) pn_, e0_ 6 (vi_ i) pn_, e0_ 10 (Value.bool (r01_Bit v i)) pn_, e0_ 9 (vi_ i) pn_, e0_ 8 (vu_ v) pn_, e0_ 5 (Value.bool (decide (i < (32 : Int)))) pn_, e0_ 4 (vi_ i) pn_, e0_ 0 (vu_ v) pn_] [])) (Tree.ret (vi_ (-1 : Int)) pn_ [])
theorem r01_Lowest_pc1 {E_ : World} {G_ : Hp} (i : Int) {r_ : Int} {Q1 : r01_Lowest_T1} (hQ : r01_Lowest_H E_ G_ v r_ Q1) (h : r01_Lowest_wp1 v i Q1 (fun x => x = r_)) : (r01_Lowest_t1 v i ).holds (RetOk (r01_Lowest_out r_) (r01_Lowest_nw r_) (r01_Lowest_rows r_)) (SW Dg Tryd.prog 17 (Post Dg E_ G_ (r01_Lowest_out r_) (r01_Lowest_nw r_) (r01_Lowest_rows r_)) (bodyOf Tryd.f17) Tryd.f17.ntmps E_ G_) :=
  ⟨fun z0 => ⟨fun z1 => RetOk.at (outf := r01_Lowest_out) (nwf := r01_Lowest_nw) (rowsf := r01_Lowest_rows) (r := i) ((h.1 z0).1 z1) ⟨[], [], (by decide), rfl, rfl, trivial⟩, fun z1 => SW.move Dg [3, 0] [] (by decide) (by kernel_rfl) (by kernel_rfl) (SW.again Dg (hQ (IntKind.wrap IntKind.i64 (i + (1 : Int))) ((h.1 z0).2 z1)))⟩, fun z0 => RetOk.at (outf := r01_Lowest_out) (nwf := r01_Lowest_nw) (rowsf := r01_Lowest_rows) (r := (-1 : Int)) (h.2 z0) ⟨[], [], (by decide), rfl, rfl, trivial⟩⟩
theorem r01_Lowest_go1 {E_ : World} {G_ : Hp} (i : Int) {r_ : Int} {Q1 : r01_Lowest_T1} (hQ : r01_Lowest_H E_ G_ v r_ Q1) (h : r01_Lowest_wp1 v i Q1 (fun x => x = r_)) : SW Dg Tryd.prog 17 (Post Dg E_ G_ (r01_Lowest_out r_) (r01_Lowest_nw r_) (r01_Lowest_rows r_)) (bodyOf Tryd.f17) Tryd.f17.ntmps E_ G_ (.code (0 :: [0,1,0,1]) :: .again [0,1,0,1] :: [.blk 0, .code [1,1]]) (r01_Lowest_L1 v i) (r01_Lowest_K1 v i) :=
  SW.go Dg T_r01_Ones_ok (I := []) Tryd.func17 mix 400 (t := r01_Lowest_t1 v i ) (by kernel_rfl) (r01_Lowest_pc1 v i hQ h)
theorem r01_Lowest_start {E_ : World} {G_ : Hp} {w_ : World} {r_ : Int} {Q1 : r01_Lowest_T1} (hQ : r01_Lowest_H E_ G_ v r_ Q1) (hS : Sat E_ G_ w_ []) (h : r01_Lowest_wp0 v Q1 (fun x => x = r_)) : Calls Tryd.prog 17 #[(.int .u32 v)] w_ (Post Dg E_ G_ (r01_Lowest_out r_) (r01_Lowest_nw r_) (r01_Lowest_rows r_)) :=
  calls_post Dg T_r01_Ones_ok (I := []) Tryd.func17 mix (B := bodyOf Tryd.f17) (by kernel_rfl) [(.int .u32 v)] [.no] (by kernel_rfl) (objs := []) (ros := []) (psOk_cons pOk_no (psOk_nil)) (by kernel_rfl) (trivial) hS 400
    (t := r01_Lowest_t0 v)
    (by kernel_rfl)
    (r01_Lowest_pc0 v hQ h)
def r01_Lowest_I (v : Int) (i : Int) (r_ : Int) : Prop := 0 ≤ i ∧ i ≤ 32 ∧ r_ = lN v (32 - i).toNat
theorem r01_Lowest_step (i : Int) {r_ : Int} (hI : r01_Lowest_I v i r_) : r01_Lowest_wp1 v i (fun i' => r01_Lowest_I v i' r_ ∧ ((32 - i').toNat) < ((32 - i).toNat)) (fun x => x = r_) := by
  unfold r01_Lowest_I at hI
  unfold r01_Lowest_wp1 r01_Lowest_I
  obtain ⟨h0, h1, h4⟩ := hI
  refine ⟨fun h => ?_, fun h => ?_⟩
  · simp only [decide_eq_true_eq] at h
    have e : (32 - i).toNat = (32 - (i + 1)).toNat + 1 := by omega
    rw [e, lN, show (31 - (((32 - (i + 1)).toNat : Nat) : Int)) = i by omega] at h4
    refine ⟨fun hb => ?_, fun hb => ?_⟩
    · rw [hb, cond_true] at h4; exact h4.symm
    · rw [hb, cond_false] at h4
      rw [w64 (n := i + 1) (by omega)]
      exact ⟨⟨by omega, by omega, h4⟩, by omega⟩
  · simp only [decide_eq_false_iff_not] at h
    have e : (32 - i).toNat = 0 := by omega
    rw [e] at h4
    rw [h4]; rfl
theorem r01_Lowest_loop {E_ : World} {G_ : Hp} {r_ : Int} : ∀ s_ : Int, r01_Lowest_I v s_ r_ → SW Dg Tryd.prog 17 (Post Dg E_ G_ (r01_Lowest_out r_) (r01_Lowest_nw r_) (r01_Lowest_rows r_)) (bodyOf Tryd.f17) Tryd.f17.ntmps E_ G_ (.code (0 :: [0,1,0,1]) :: .again [0,1,0,1] :: [.blk 0, .code [1,1]]) (r01_Lowest_L1 v s_) (r01_Lowest_K1 v s_) :=
  SW.loop Dg (α := Int) (fun s_ => r01_Lowest_L1 v s_) (fun s_ => r01_Lowest_K1 v s_) (fun s_ => (32 - s_).toNat) (fun s_ => r01_Lowest_I v s_ r_) (fun i hI ih => r01_Lowest_go1 v i (fun i' h => ih i' h.1 h.2) (r01_Lowest_step v i hI))
theorem r01_Lowest_begin : r01_Lowest_wp0 v (fun i => r01_Lowest_I v i (r01_Lowest v)) (fun x => x = (r01_Lowest v)) := by
  unfold r01_Lowest_wp0 r01_Lowest_I
  exact ⟨by omega, by omega, rfl⟩
theorem r01_Lowest_calls {E_ : World} {G_ : Hp} {w_ : World} (hS : Sat E_ G_ w_ []) : Calls Tryd.prog 17 #[(.int .u32 v)] w_ (Post Dg E_ G_ (r01_Lowest_out (r01_Lowest v)) (r01_Lowest_nw (r01_Lowest v)) (r01_Lowest_rows (r01_Lowest v))) :=
  r01_Lowest_start v (fun i h => r01_Lowest_loop v i h) hS (r01_Lowest_begin v )
end
def r01_Lowest_e : Entry Sg := fun
  | [(.int .u32 v, _)] => some ⟨(r01_Lowest v), fun (r_ : Int) => ⟨[], none, [], fun ss => .int .i64 (r_), fun k_ => .no⟩⟩
  | _ => none
theorem r01_Lowest_ok : EntryOk Dg Tryd.prog 17 r01_Lowest_e := by
  intro args c r h hr_
  unfold r01_Lowest_e at h
  split at h
  · injection h with h; subst h; subst hr_
    refine ⟨fun K acs _ => pOk_no, fun hpre E G w hi hS => ?_⟩
    exact entry_post Dg (by exact rfl) (r01_Lowest_calls _  hS)
  · cases h
def T_r01_Lowest : List (Nat × Entry Sg) := (17, r01_Lowest_e) :: T_r01_Ones
theorem T_r01_Lowest_ok : TableOk Dg Tryd.prog T_r01_Lowest := TableOk.cons Dg r01_Lowest_ok T_r01_Ones_ok

/- nacreref01.Log -/
def r01_Log (n : Int) : Int := logI n
def r01_Log_out (r_ : Int) : List Value → Value := fun ss => .int .i64 (r_)
def r01_Log_nw (r_ : Int) : List (Chunk Sg) := []
def r01_Log_rows (r_ : Int) : List (Mk Sg) := []
section
variable (n : Int)
abbrev r01_Log_T1 : Type := Int → Int → Prop
abbrev r01_Log_L1 (n : Int) (k : Int) (m : Int) : List Ent := [⟨3, none, .int .i64 k, .no⟩, ⟨0, none, .int .i64 m, .no⟩]
abbrev r01_Log_K1 (n : Int) (k : Int) (m : Int) : List (Chunk Sg) := []
abbrev r01_Log_H (E_ : World) (G_ : Hp) (n : Int) (r_ : Int) (Q1 : r01_Log_T1) : Prop := (∀ (k : Int) (m : Int), Q1 k m → SW Dg Tryd.prog 19 (Post Dg E_ G_ (r01_Log_out r_) (r01_Log_nw r_) (r01_Log_rows r_)) (bodyOf Tryd.f19) Tryd.f19.ntmps E_ G_ (.code (0 :: [0,0,1,1]) :: .again [0,0,1,1] :: [.blk 0, .code [1,1,1]]) (r01_Log_L1 n k m) (r01_Log_K1 n k m))
abbrev r01_Log_wp0 (n : Int) (Q1 : r01_Log_T1) (R_ : Int → Prop) : Prop := (Q1 ((-1 : Int)) (n))
abbrev r01_Log_t0 (n : Int) : Tree Sg := Tree.stuck [Ab.code [0, 0, 1, 1], Ab.blk 0, Ab.code [1, 1, 1]] [e0_ 1000003 (Value.tuple { toList := [] }) pn_, e0_ 3 (vi_ (-1 : Int)) pn_, e0_ 1000002 (Value.tuple { toList := [] }) pn_, e0_ 2 (vi_ (0 : Int)) pn_, e0_ 0 (vi_ n) pn_] []
theorem r01_Log_pc0 {E_ : World} {G_ : Hp} {r_ : Int} {Q1 : r01_Log_T1} (hQ : r01_Log_H E_ G_ n r_ Q1) (h : r01_Log_wp0 n Q1 (fun x => x = r_)) : (r01_Log_t0 n ).holds (RetOk (r01_Log_out r_) (r01_Log_nw r_) (r01_Log_rows r_)) (SW Dg Tryd.prog 19 (Post Dg E_ G_ (r01_Log_out r_) (r01_Log_nw r_) (r01_Log_rows r_)) (bodyOf Tryd.f19) Tryd.f19.ntmps E_ G_) :=
  SW.move Dg [3, 0] [] (by decide) (by kernel_rfl) (by kernel_rfl) (SW.enter Dg (by kernel_rfl) (hQ ((-1 : Int)) (n) h))
abbrev r01_Log_wp1 (n : Int) (k : Int) (m : Int) (Q1 : r01_Log_T1) (R_ : Int → Prop) : Prop := (((decide (m ≥ (1 : Int))) = true → (Q1 (IntKind.wrap IntKind.i64 (k + (1 : Int))) (IntKind.wrap IntKind.i64 (Int.tdiv m (2 : Int))))) ∧ ((decide (m ≥ (1 : Int))) = false → (R_ (k))))
abbrev r01_Log_t1 (n : Int) (k : Int) (m : Int) : Tree Sg := Tree.br (decide (m ≥ (1 : Int))) (Tree.stuck [Ab.again [0, 0, 1, 1], Ab.blk 0, Ab.code [1, 1, 1]] [e0_ 3 (vi_ (IntKind.wrap IntKind.i64 (k + (1 : Int)))) pn_, e0_ 9 (vi_ (IntKind.wrap IntKind.i64 (k + (1 : Int)))) pn_, e0_ 8 (vi_ k) pn_, e0_ 0 (vi_ (IntKind.wrap IntKind.i64 (Int.tdiv m (2 : Int)))) pn_, e0_ 7 (vi_ (IntKind.wrap IntKind.i64 (Int.tdiv m (2 : Int)))) pn_, e0_ 6 (vi_ m) pn_, e0_ 5 (Value.bool (decide (m ≥ (1 : Int)))) pn_, e0_ 4 (vi_ m) pn_] []) (Tree.ret (vi_ k) pn_ [])
theorem r01_Log_pc1 {E_ : World} {G_ : Hp} (k : Int) (m : Int) {r_ : Int} {Q1 : r01_Log_T1} (hQ : r01_Log_H E_ G_ n r_ Q1) (h : r01_Log_wp1 n k m Q1 (fun x => x = r_)) : (r01_Log_t1 n k m ).holds (RetOk (r01_Log_out r_) (r01_Log_nw r_) (r01_Log_rows r_)) (SW Dg Tryd.prog 19 (Post Dg E_ G_ (r01_Log_out r_) (r01_Log_nw r_) (r01_Log_rows r_)) (bodyOf Tryd.f19) Tryd.f19.ntmps E_ G_) :=
  ⟨fun z0 => SW.move Dg [3, 0] [] (by decide) (by kernel_rfl) (by kernel_rfl) (SW.again Dg (hQ (IntKind.wrap IntKind.i64 (k + (1 : Int))) (IntKind.wrap IntKind.i64 (Int.tdiv m (2 : Int))) (h.1 z0))), fun z0 => RetOk.at (outf := r01_Log_out) (nwf := r01_Log_nw) (rowsf := r01_Log_rows) (r := k) (h.2 z0) ⟨[], [], (by decide), rfl, rfl, trivial⟩⟩
theorem r01_Log_go1 {E_ : World} {G_ : Hp} (k : Int) (m : Int) {r_ : Int} {Q1 : r01_Log_T1} (hQ : r01_Log_H E_ G_ n r_ Q1) (h : r01_Log_wp1 n k m Q1 (fun x => x = r_)) : SW Dg Tryd.prog 19 (Post Dg E_ G_ (r01_Log_out r_) (r01_Log_nw r_) (r01_Log_rows r_)) (bodyOf Tryd.f19) Tryd.f19.ntmps E_ G_ (.code (0 :: [0,0,1,1]) :: .again [0,0,1,1] :: [.blk 0, .code [1,1,1]]) (r01_Log_L1 n k m) (r01_Log_K1 n k m) :=
  SW.go Dg T_r01_Lowest_ok (I := []) Tryd.func19 mix 400 (t := r01_Log_t1 n k m ) (by kernel_rfl) (r01_Log_pc1 n k m hQ h)
theorem r01_Log_start {E_ : World} {G_ : Hp} {w_ : World} {r_ : Int} {Q1 : r01_Log_T1} (hQ : r01_Log_H E_ G_ n r_ Q1) (hS : Sat E_ G_ w_ []) (h : r01_Log_wp0 n Q1 (fun x => x = r_)) : Calls Tryd.prog 19 #[(.int .i64 n)] w_ (Post Dg E_ G_ (r01_Log_out r_) (r01_Log_nw r_) (r01_Log_rows r_)) :=
  calls_post Dg T_r01_Lowest_ok (I := []) Tryd.func19 mix (B := bodyOf Tryd.f19) (by kernel_rfl) [(.int .i64 n)] [.no] (by kernel_rfl) (objs := []) (ros := []) (psOk_cons pOk_no (psOk_nil)) (by kernel_rfl) (trivial) hS 400
    (t := r01_Log_t0 n)
    (by kernel_rfl)
    (r01_Log_pc0 n hQ h)
def r01_Log_I (n : Int) (k : Int) (m : Int) (r_ : Int) : Prop := -1 ≤ k ∧ k + logI m ≤ 70 ∧ m ≤ 9223372036854775807 ∧ r_ = k + 1 + logI m
theorem r01_Log_step (hp0 : n ≤ 9223372036854775807) (k : Int) (m : Int) {r_ : Int} (hI : r01_Log_I n k m r_) : r01_Log_wp1 n k m (fun k' m' => r01_Log_I n k' m' r_ ∧ (m'.toNat) < (m.toNat)) (fun x => x = r_) := by
  unfold r01_Log_I at hI
  unfold r01_Log_wp1 r01_Log_I
  obtain ⟨h0, h1, hm, h2⟩ := hI
  refine ⟨fun h => ?_, fun h => ?_⟩
  · simp only [decide_eq_true_eq] at h
    have h3 : 1 ≤ m := by omega
    have h4 := logI_half h3
    have h5 := logI_ge (m / 2)
    have e : Int.tdiv m 2 = m / 2 := Int.tdiv_eq_ediv_of_nonneg (by omega)
    rw [e, w64 (by omega), w64 (by omega)]
    exact ⟨⟨by omega, by omega, by omega, by omega⟩, by omega⟩
  · simp only [decide_eq_false_iff_not] at h
    rw [h2, logI_lt (by omega)]; omega
theorem r01_Log_loop {E_ : World} {G_ : Hp} (hp0 : n ≤ 9223372036854775807) {r_ : Int} : ∀ s_ : Int × Int, r01_Log_I n s_.1 s_.2 r_ → SW Dg Tryd.prog 19 (Post Dg E_ G_ (r01_Log_out r_) (r01_Log_nw r_) (r01_Log_rows r_)) (bodyOf Tryd.f19) Tryd.f19.ntmps E_ G_ (.code (0 :: [0,0,1,1]) :: .again [0,0,1,1] :: [.blk 0, .code [1,1,1]]) (r01_Log_L1 n s_.1 s_.2) (r01_Log_K1 n s_.1 s_.2) :=
  SW.loop Dg (α := Int × Int) (fun s_ => r01_Log_L1 n s_.1 s_.2) (fun s_ => r01_Log_K1 n s_.1 s_.2) (fun s_ => s_.2.toNat) (fun s_ => r01_Log_I n s_.1 s_.2 r_) (fun ⟨k, m⟩ hI ih => r01_Log_go1 n k m (fun k' m' h => ih (k', m') h.1 h.2) (r01_Log_step n hp0 k m hI))
theorem r01_Log_begin (hp0 : n ≤ 9223372036854775807) : r01_Log_wp0 n (fun k m => r01_Log_I n k m (r01_Log n)) (fun x => x = (r01_Log n)) := by
  unfold r01_Log_wp0 r01_Log_I
  have := logI_le 63 n (by omega)
  exact ⟨by omega, by omega, hp0, by simp [r01_Log]⟩
theorem r01_Log_calls {E_ : World} {G_ : Hp} {w_ : World} (hp0 : n ≤ 9223372036854775807) (hS : Sat E_ G_ w_ []) : Calls Tryd.prog 19 #[(.int .i64 n)] w_ (Post Dg E_ G_ (r01_Log_out (r01_Log n)) (r01_Log_nw (r01_Log n)) (r01_Log_rows (r01_Log n))) :=
  r01_Log_start n (fun k m h => r01_Log_loop n hp0 (k, m) h) hS (r01_Log_begin n hp0 )
end
def r01_Log_e : Entry Sg := fun
  | [(.int .i64 n, _)] => some ⟨(r01_Log n), fun (r_ : Int) => ⟨[(n ≤ 9223372036854775807 : Prop)], none, [], fun ss => .int .i64 (r_), fun k_ => .no⟩⟩
  | _ => none
theorem r01_Log_ok : EntryOk Dg Tryd.prog 19 r01_Log_e := by
  intro args c r h hr_
  unfold r01_Log_e at h
  split at h
  · injection h with h; subst h; subst hr_
    refine ⟨fun K acs _ => pOk_no, fun hpre E G w hi hS => ?_⟩
    exact entry_post Dg (by exact rfl) (r01_Log_calls _ (hpre _ (by simp)) hS)
  · cases h
def T_r01_Log : List (Nat × Entry Sg) := (19, r01_Log_e) :: T_r01_Lowest
theorem T_r01_Log_ok : TableOk Dg Tryd.prog T_r01_Log := TableOk.cons Dg r01_Log_ok T_r01_Lowest_ok

/- nacreref01.Free -/
def r01_Free (v : Int) (n : Int) : List Int := freeN v n (fun (j : Nat) => !r01_Bit v (j : Int))
def r01_Free_out (r_ : List Int) : List Value → Value := fun ss => ss.getD 0 undef
def r01_Free_nw (r_ : List Int) : List (Chunk Sg) := []
def r01_Free_rows (r_ : List Int) : List (Mk Sg) := [.row 3 [.ints .i64 (r_)]]
section
variable (v : Int) (n : Int)
abbrev r01_Free_T1 : Type := Int → List Int → Option Nat → Nat → Nat → Prop
abbrev r01_Free_L1 (v : Int) (n : Int) (i : Int) (xs : List Int) (a : Option Nat) (no : Nat) (c : Nat) : List Ent := [⟨6, none, .int .i64 i, .no⟩, ⟨5, none, .slice (a.map fun b => ⟨b, 0, none⟩) no c, .pt 0 .slice⟩, ⟨0, none, .int .u32 v, .no⟩, ⟨1, none, .int .i64 n, .no⟩]
abbrev r01_Free_K1 (v : Int) (n : Int) (i : Int) (xs : List Int) (a : Option Nat) (no : Nat) (c : Nat) : List (Chunk Sg) := [.row a 3 no c [.ints .i64 xs]]
abbrev r01_Free_H (E_ : World) (G_ : Hp) (v : Int) (n : Int) (r_ : List Int) (Q1 : r01_Free_T1) : Prop := (∀ (i : Int) (xs : List Int) (a : Option Nat) (no : Nat) (c : Nat), Q1 i xs a no c → SW Dg Tryd.prog 22 (Post Dg E_ G_ (r01_Free_out r_) (r01_Free_nw r_) (r01_Free_rows r_)) (bodyOf Tryd.f22) Tryd.f22.ntmps E_ G_ (.code (0 :: [0,1,0,1,1]) :: .again [0,1,0,1,1] :: [.blk 0, .code [1,1,1]]) (r01_Free_L1 v n i xs a no c) (r01_Free_K1 v n i xs a no c))
abbrev r01_Free_wp0 (v : Int) (n : Int) (Q1 : r01_Free_T1) (R_ : List Int → Prop) : Prop := (∀ b0_0 : Nat, (Q1 ((0 : Int)) ([]) (some b0_0) (0) (0)))
abbrev r01_Free_t0 (v : Int) (n : Int) : Tree Sg := Tree.fresh fun b => Tree.stuck [Ab.code [0, 1, 0, 1, 1], Ab.blk 0, Ab.code [1, 1, 1]] [e0_ 1000006 (Value.tuple { toList := [] }) pn_, e0_ 6 (vi_ (0 : Int)) pn_, e0_ 5 (Value.slice (some { block := b, off := 0 }) 0 0) (ps_ 0), e0_ 7 (Value.slice (some { block := b, off := 0 }) 0 0) (ps_ 0), e0_ 1000004 (Value.tuple { toList := [] }) pn_, e0_ 4 (Value.slice none 0 0) pn_, e0_ 0 (vu_ v) pn_, e0_ 1 (vi_ n) pn_] [kr_ (some b) 3 0 0 [ci_ []]]
theorem r01_Free_pc0 {E_ : World} {G_ : Hp} {r_ : List Int} {Q1 : r01_Free_T1} (hQ : r01_Free_H E_ G_ v n r_ Q1) (h : r01_Free_wp0 v n Q1 (fun x => x = r_)) : (r01_Free_t0 v n ).holds (RetOk (r01_Free_out r_) (r01_Free_nw r_) (r01_Free_rows r_)) (SW Dg Tryd.prog 22 (Post Dg E_ G_ (r01_Free_out r_) (r01_Free_nw r_) (r01_Free_rows r_)) (bodyOf Tryd.f22) Tryd.f22.ntmps E_ G_) :=
  fun b0_0 => SW.move Dg [6, 5, 0, 1] [0] (by decide) (by kernel_rfl) (by kernel_rfl) (SW.enter Dg (by kernel_rfl) (hQ ((0 : Int)) ([]) (some b0_0) (0) (0) (h b0_0)))
abbrev r01_Free_wp1 (v : Int) (n : Int) (i : Int) (xs : List Int) (a : Option Nat) (no : Nat) (c : Nat) (Q1 : r01_Free_T1) (R_ : List Int → Prop) : Prop := (((decide (i < n) && decide (i < (32 : Int))) = true → (((!r01_Bit v i) = true → (∀ b2_0 : Nat, (((no + 1) * 8 ≤ 140737488355328) ∧ (((no + 1) * 8 ≤ 140737488355328) → (∀ (b4_0 : Option Nat) (b4_1 : Nat), (Q1 (IntKind.wrap IntKind.i64 (i + (1 : Int))) (xs ++ [i]) (b4_0) (no + 1) (b4_1))))))) ∧ ((!r01_Bit v i) = false → (Q1 (IntKind.wrap IntKind.i64 (i + (1 : Int))) (xs) (a) (no) (c))))) ∧ ((decide (i < n) && decide (i < (32 : Int))) = false → (R_ (xs))))
abbrev r01_Free_t1 (v : Int) (n : Int) (i : Int) (xs : List Int) (a : Option Nat) (no : Nat) (c : Nat) : Tree Sg := Tree.br (decide (i < n) && decide (i < (32 : Int))) (Tree.br (!r01_Bit v i) (Tree.fresh fun b => Tree.need ((no + 1) * 8 ≤ 140737488355328) (Tree.freshS fun a_1 cap => Tree.stuck [Ab.again [0, 1, 0, 1, 1], Ab.blk 0, Ab.code [1, 1, 1]] [e0_ 6 (vi_ (IntKind.wrap IntKind.i64 (i + (1 : Int)))) pn_, e0_ 16 (vi_ (IntKind.wrap IntKind.i64 (i + (1 : Int)))) pn_, e0_ 15 (vi_ i) pn_, e0_ 5 (vs_ (ob_ a_1) (no + 1) cap) (ps_ 2), e0_ 24 (vs_ (ob_ a_1) (no + 1) cap) (ps_ 2), e0_ 23 (Value.slice (some { block := b, off := 0 }) 1 1) (ps_ 1), e0_ 22 (vi_ i) pn_, e0_ 21 (vs_ (ob_ a) no c) (ps_ 0), e0_ 20 (Value.bool !r01_Bit v i) pn_, e0_ 19 (Value.bool (r01_Bit v i)) pn_, e0_ 18 (vi_ i) pn_, e0_ 17 (vu_ v) pn_, e0_ 14 (Value.bool (decide (i < n) && decide (i < (32 : Int)))) pn_, eg_ 13 (11, true) (Value.bool (decide (i < (32 : Int)))) pn_, eg_ 12 (11, true) (vi_ i) pn_, e0_ 11 (Value.bool (decide (i < n))) pn_, e0_ 10 (Value.bool (decide (i < n))) pn_, e0_ 9 (vi_ n) pn_, e0_ 8 (vi_ i) pn_, e0_ 0 (vu_ v) pn_, e0_ 1 (vi_ n) pn_] [Chunk.dead, kr_ (some b) 3 1 1 [ci_ [i]], kr_ a_1 3 (no + 1) cap [ci_ (xs ++ [i])]])) (Tree.stuck [Ab.again [0, 1, 0, 1, 1], Ab.blk 0, Ab.code [1, 1, 1]] [e0_ 6 (vi_ (IntKind.wrap IntKind.i64 (i + (1 : Int)))) pn_, e0_ 16 (vi_ (IntKind.wrap IntKind.i64 (i + (1 : Int)))) pn_, e0_ 15 (vi_ i) pn_, e0_ 20 (Value.bool !r01_Bit v i) pn_, e0_ 19 (Value.bool (r01_Bit v i)) pn_, e0_ 18 (vi_ i) pn_, e0_ 17 (vu_ v) pn_, e0_ 14 (Value.bool (decide (i < n) && decide (i < (32 : Int)))) pn_, eg_ 13 (11, true) (Value.bool (decide (i < (32 : Int)))) pn_, eg_ 12 (11, true) (vi_ i) pn_, e0_ 11 (Value.bool (decide (i < n))) pn_, e0_ 10 (Value.bool (decide (i < n))) pn_, e0_ 9 (vi_ n) pn_, e0_ 8 (vi_ i) pn_, e0_ 5 (vs_ (ob_ a) no c) (ps_ 0), e0_ 0 (vu_ v) pn_, e0_ 1 (vi_ n) pn_] [kr_ a 3 no c [ci_ xs]])) (Tree.ret (vs_ (ob_ a) no c) (ps_ 0) [kr_ a 3 no c [ci_ xs]])
theorem r01_Free_pc1 {E_ : World} {G_ : Hp} (i : Int) (xs : List Int) (a : Option Nat) (no : Nat) (c : Nat) {r_ : List Int} {Q1 : r01_Free_T1} (hQ : r01_Free_H E_ G_ v n r_ Q1) (h : r01_Free_wp1 v n i xs a no c Q1 (fun x => x = r_)) : (r01_Free_t1 v n i xs a no c ).holds (RetOk (r01_Free_out r_) (r01_Free_nw r_) (r01_Free_rows r_)) (SW Dg Tryd.prog 22 (Post Dg E_ G_ (r01_Free_out r_) (r01_Free_nw r_) (r01_Free_rows r_)) (bodyOf Tryd.f22) Tryd.f22.ntmps E_ G_) :=
  ⟨fun z0 => ⟨fun z1 => fun b2_0 => ⟨(((h.1 z0).1 z1) b2_0).1, fun z3 => fun b4_0 b4_1 => SW.move Dg [6, 5, 0, 1] [2] (by decide) (by kernel_rfl) (by kernel_rfl) (SW.again Dg (hQ (IntKind.wrap IntKind.i64 (i + (1 : Int))) (xs ++ [i]) (b4_0) (no + 1) (b4_1) (((((h.1 z0).1 z1) b2_0).2 z3) b4_0 b4_1)))⟩, fun z1 => SW.move Dg [6, 5, 0, 1] [0] (by decide) (by kernel_rfl) (by kernel_rfl) (SW.again Dg (hQ (IntKind.wrap IntKind.i64 (i + (1 : Int))) (xs) (a) (no) (c) ((h.1 z0).2 z1)))⟩, fun z0 => RetOk.at (outf := r01_Free_out) (nwf := r01_Free_nw) (rowsf := r01_Free_rows) (r := xs) (h.2 z0) ⟨[(a, no, c)], [0], (by decide), rfl, rfl, ⟨.inl rfl, trivial⟩⟩⟩
theorem r01_Free_go1 {E_ : World} {G_ : Hp} (i : Int) (xs : List Int) (a : Option Nat) (no : Nat) (c : Nat) {r_ : List Int} {Q1 : r01_Free_T1} (hQ : r01_Free_H E_ G_ v n r_ Q1) (h : r01_Free_wp1 v n i xs a no c Q1 (fun x => x = r_)) : SW Dg Tryd.prog 22 (Post Dg E_ G_ (r01_Free_out r_) (r01_Free_nw r_) (r01_Free_rows r_)) (bodyOf Tryd.f22) Tryd.f22.ntmps E_ G_ (.code (0 :: [0,1,0,1,1]) :: .again [0,1,0,1,1] :: [.blk 0, .code [1,1,1]]) (r01_Free_L1 v n i xs a no c) (r01_Free_K1 v n i xs a no c) :=
  SW.go Dg T_r01_Log_ok (I := []) Tryd.func22 mix 400 (t := r01_Free_t1 v n i xs a no c ) (by kernel_rfl) (r01_Free_pc1 v n i xs a no c hQ h)
theorem r01_Free_start {E_ : World} {G_ : Hp} {w_ : World} {r_ : List Int} {Q1 : r01_Free_T1} (hQ : r01_Free_H E_ G_ v n r_ Q1) (hS : Sat E_ G_ w_ []) (h : r01_Free_wp0 v n Q1 (fun x => x = r_)) : Calls Tryd.prog 22 #[(.int .u32 v), (.int .i64 n)] w_ (Post Dg E_ G_ (r01_Free_out r_) (r01_Free_nw r_) (r01_Free_rows r_)) :=
  calls_post Dg T_r01_Log_ok (I := []) Tryd.func22 mix (B := bodyOf Tryd.f22) (by kernel_rfl) [(.int .u32 v), (.int .i64 n)] [.no, .no] (by kernel_rfl) (objs := []) (ros := []) (psOk_cons pOk_no (psOk_cons pOk_no (psOk_nil))) (by kernel_rfl) (trivial) hS 400
    (t := r01_Free_t0 v n)
    (by kernel_rfl)
    (r01_Free_pc0 v n hQ h)
def r01_Free_I (v : Int) (n : Int) (i : Int) (xs : List Int) (a : Option Nat) (no : Nat) (c : Nat) (r_ : List Int) : Prop := 0 ≤ i ∧ i ≤ 32 ∧ (i ≤ n ∨ i = 0) ∧ no = xs.length ∧ xs = ((List.range i.toNat).filter (fun (j : Nat) => !r01_Bit v (j : Int))).map (fun (i : Nat) => (i : Int)) ∧ r_ = freeN v n (fun (j : Nat) => !r01_Bit v (j : Int))
theorem r01_Free_step (i : Int) (xs : List Int) (a : Option Nat) (no : Nat) (c : Nat) {r_ : List Int} (hI : r01_Free_I v n i xs a no c r_) : r01_Free_wp1 v n i xs a no c (fun i' xs' a' no' c' => r01_Free_I v n i' xs' a' no' c' r_ ∧ ((32 - i').toNat) < ((32 - i).toNat)) (fun x => x = r_) := by
  unfold r01_Free_I at hI
  unfold r01_Free_wp1 r01_Free_I
  obtain ⟨h0, h1, hn, h2, h3, hr⟩ := hI
  have hi : ((i.toNat : Nat) : Int) = i := by omega
  refine ⟨fun h => ?_, fun h => ?_⟩
  · simp only [Bool.and_eq_true, decide_eq_true_eq] at h
    rw [w64 (by omega)]
    have hl := frange_len (fun (j : Nat) => !r01_Bit v (j : Int)) i.toNat
    have hx : xs.length = ((List.range i.toNat).filter (fun (j : Nat) => !r01_Bit v (j : Int))).length := by
      conv => lhs; rw [h3]
      rw [List.length_map]
    refine ⟨fun hb => ?_, fun hb => ?_⟩
    · have hz : (!r01_Bit v ((i.toNat : Nat) : Int)) = true := by rw [hi]; exact hb
      refine fun b => ⟨by omega, fun _ a' c' => ⟨⟨by omega, by omega, by omega, by simp [h2], ?_, hr⟩, by omega⟩⟩
      rw [toNat_succ h0, frange_snoc, if_pos hz, List.map_append, ← h3]
      simp [hi]
    · have hz : ¬ (!r01_Bit v ((i.toNat : Nat) : Int)) = true := by rw [hi, hb]; simp
      refine ⟨⟨by omega, by omega, by omega, h2, ?_, hr⟩, by omega⟩
      rw [toNat_succ h0, frange_snoc, if_neg hz, List.append_nil]
      exact h3
  · have h' : ¬ (i < n ∧ i < 32) := by
      intro hh
      simp only [Bool.and_eq_false_iff, decide_eq_false_iff_not] at h
      omega
    show xs = r_
    rw [hr, freeN, show min n.toNat 32 = i.toNat by omega]
    exact h3
theorem r01_Free_loop {E_ : World} {G_ : Hp} {r_ : List Int} : ∀ s_ : Int × List Int × Option Nat × Nat × Nat, r01_Free_I v n s_.1 s_.2.1 s_.2.2.1 s_.2.2.2.1 s_.2.2.2.2 r_ → SW Dg Tryd.prog 22 (Post Dg E_ G_ (r01_Free_out r_) (r01_Free_nw r_) (r01_Free_rows r_)) (bodyOf Tryd.f22) Tryd.f22.ntmps E_ G_ (.code (0 :: [0,1,0,1,1]) :: .again [0,1,0,1,1] :: [.blk 0, .code [1,1,1]]) (r01_Free_L1 v n s_.1 s_.2.1 s_.2.2.1 s_.2.2.2.1 s_.2.2.2.2) (r01_Free_K1 v n s_.1 s_.2.1 s_.2.2.1 s_.2.2.2.1 s_.2.2.2.2) :=
  SW.loop Dg (α := Int × List Int × Option Nat × Nat × Nat) (fun s_ => r01_Free_L1 v n s_.1 s_.2.1 s_.2.2.1 s_.2.2.2.1 s_.2.2.2.2) (fun s_ => r01_Free_K1 v n s_.1 s_.2.1 s_.2.2.1 s_.2.2.2.1 s_.2.2.2.2) (fun s_ => (32 - s_.1).toNat) (fun s_ => r01_Free_I v n s_.1 s_.2.1 s_.2.2.1 s_.2.2.2.1 s_.2.2.2.2 r_) (fun ⟨i, xs, a, no, c⟩ hI ih => r01_Free_go1 v n i xs a no c (fun i' xs' a' no' c' h => ih (i', xs', a', no', c') h.1 h.2) (r01_Free_step v n i xs a no c hI))
theorem r01_Free_begin : r01_Free_wp0 v n (fun i xs a no c => r01_Free_I v n i xs a no c (r01_Free v n)) (fun x => x = (r01_Free v n)) := by
  unfold r01_Free_wp0 r01_Free_I
  exact fun _ => ⟨by omega, by omega, .inr rfl, rfl, rfl, rfl⟩
theorem r01_Free_calls {E_ : World} {G_ : Hp} {w_ : World} (hS : Sat E_ G_ w_ []) : Calls Tryd.prog 22 #[(.int .u32 v), (.int .i64 n)] w_ (Post Dg E_ G_ (r01_Free_out (r01_Free v n)) (r01_Free_nw (r01_Free v n)) (r01_Free_rows (r01_Free v n))) :=
  r01_Free_start v n (fun i xs a no c h => r01_Free_loop v n (i, xs, a, no, c) h) hS (r01_Free_begin v n )
end
def r01_Free_e : Entry Sg := fun
  | [(.int .u32 v, _), (.int .i64 n, _)] => some ⟨(r01_Free v n), fun (r_ : List Int) => ⟨[], none, [.row 3 [.ints .i64 (r_)]], fun ss => ss.getD 0 undef, fun k_ => .pt k_ .slice⟩⟩
  | _ => none
theorem r01_Free_ok : EntryOk Dg Tryd.prog 22 r01_Free_e := by
  intro args c r h hr_
  unfold r01_Free_e at h
  split at h
  · injection h with h; subst h; subst hr_
    refine ⟨(by
    intro K acs hl
    match acs, hl with
    | [a0_], hl =>
      simp only [acsOk, acOk] at hl
      simp [pOk, psOk, cOk, sliceC, sliceV, sliceVal, lenC, Col.len]), fun hpre E G w hi hS => ?_⟩
    exact entry_post Dg (by exact rfl) (r01_Free_calls _ _  hS)
  · cases h
def T_r01_Free : List (Nat × Entry Sg) := (22, r01_Free_e) :: T_r01_Log
theorem T_r01_Free_ok : TableOk Dg Tryd.prog T_r01_Free := TableOk.cons Dg r01_Free_ok T_r01_Log_ok

/- nacrelaw01.HalfBits -/
def HalfBits (v : Int) (n : Int) : Bool := (bif half_Ones v == r01_Ones v then (bif v == (0 : Int) then (bif (-1 : Int) == r01_Lowest v && half_Log n == r01_Log n then (let r5 : List Int := half_Free v n; (let r7 : List Int := r01_Free v n; (bif r01_Ints r5 r7 then (let r11 : List Int := half_Free v (32 : Int); IntKind.wrap IntKind.i64 (half_Ones v + (↑(List.length r11) : Int)) == (32 : Int) && true) else false))) else false) else (bif v == (0 : Int) then (bif (32 : Int) == r01_Lowest v && half_Log n == r01_Log n then (let r6 : List Int := half_Free v n; (let r8 : List Int := r01_Free v n; (bif r01_Ints r6 r8 then (let r12 : List Int := half_Free v (32 : Int); IntKind.wrap IntKind.i64 (half_Ones v + (↑(List.length r12) : Int)) == (32 : Int) && true) else false))) else false) else (bif IntKind.wrap IntKind.i64 (List.getD [(0 : Int), (1 : Int), (28 : Int), (2 : Int), (29 : Int), (14 : Int), (24 : Int), (3 : Int), (30 : Int), (22 : Int), (20 : Int), (15 : Int), (25 : Int), (17 : Int), (4 : Int), (8 : Int), (31 : Int), (27 : Int), (13 : Int), (23 : Int), (21 : Int), (19 : Int), (16 : Int), (7 : Int), (26 : Int), (12 : Int), (18 : Int), (6 : Int), (11 : Int), (5 : Int), (10 : Int), (9 : Int)] (Int.toNat (Int.fdiv (IntKind.wrap IntKind.u32 (IntKind.wrap IntKind.u32 (↑(BitVec.toNat (BitVec.ofInt 32 v &&& BitVec.ofInt 32 (IntKind.wrap IntKind.u32 ((0 : Int) - v)))) : Int) * (125613361 : Int))) (134217728 : Int))) (0 : Int)) == r01_Lowest v && half_Log n == r01_Log n then (let r7 : List Int := half_Free v n; (let r9 : List Int := r01_Free v n; (bif r01_Ints r7 r9 then (let r13 : List Int := half_Free v (32 : Int); IntKind.wrap IntKind.i64 (half_Ones v + (↑(List.length r13) : Int)) == (32 : Int) && true) else false))) else false))) else false)
def HalfBits_out (r_ : Bool) : List Value → Value := fun ss => .bool (r_)
def HalfBits_nw (r_ : Bool) : List (Chunk Sg) := []
def HalfBits_rows (r_ : Bool) : List (Mk Sg) := []
section
variable (v : Int) (n : Int)
theorem HalfBits_calls {E_ : World} {G_ : Hp} {w_ : World} (hr0 : RowAt G_ (some ⟨0, 0, none⟩) 32 [.ints .u8 tab32]) (hp0 : u32ok v) (hp1 : n ≤ 9223372036854775807) (hS : Sat E_ G_ w_ []) : Calls Tryd.prog 4 #[(.int .u32 v), (.int .i64 n)] w_ (Post Dg E_ G_ (HalfBits_out (HalfBits v n)) (HalfBits_nw (HalfBits v n)) (HalfBits_rows (HalfBits v n))) :=
  calls_post Dg T_r01_Free_ok (I := [16, 29]) Tryd.func4 mix (B := bodyOf Tryd.f4) (by kernel_rfl) [(.int .u32 v), (.int .i64 n)] [.no, .no] (by kernel_rfl) (objs := []) (ros := [.ro (some ⟨0, 0, none⟩) 32 32 [.ints .u8 tab32]]) (psOk_cons pOk_no (psOk_cons pOk_no (psOk_nil))) (by kernel_rfl) (⟨hr0, trivial⟩) hS 400
    (t := Tree.need (u32ok v) (Tree.br (half_Ones v == r01_Ones v) (Tree.br (v == (0 : Int)) (Tree.need (((-1 : Int) == r01_Lowest v) = true → n ≤ (9223372036854775807 : Int)) (Tree.br ((-1 : Int) == r01_Lowest v && half_Log n == r01_Log n) (Tree.bind (half_Free v n) fun a => Tree.freshS fun a_1 cap => Tree.bind (r01_Free v n) fun a_2 => Tree.freshS fun a_3 cap_1 => Tree.need (r01_Ints a a_2 = true → u32ok v) (Tree.br (r01_Ints a a_2) (Tree.bind (half_Free v (32 : Int)) fun a_4 => Tree.freshS fun a_5 cap_2 => Tree.ret (Value.bool (IntKind.wrap IntKind.i64 (half_Ones v + (↑(List.length a_4) : Int)) == (32 : Int) && true)) pn_ [Chunk.ro (some { block := 0, off := 0 }) 32 32 [Col.ints IntKind.u8 [(0 : Int), (1 : Int), (28 : Int), (2 : Int), (29 : Int), (14 : Int), (24 : Int), (3 : Int), (30 : Int), (22 : Int), (20 : Int), (15 : Int), (25 : Int), (17 : Int), (4 : Int), (8 : Int), (31 : Int), (27 : Int), (13 : Int), (23 : Int), (21 : Int), (19 : Int), (16 : Int), (7 : Int), (26 : Int), (12 : Int), (18 : Int), (6 : Int), (11 : Int), (5 : Int), (10 : Int), (9 : Int)]], kr_ a_1 3 (List.length a) cap [ci_ a], kr_ a_3 3 (List.length a_2) cap_1 [ci_ a_2], kr_ a_5 3 (List.length a_4) cap_2 [ci_ a_4]]) (Tree.ret (Value.bool false) pn_ [Chunk.ro (some { block := 0, off := 0 }) 32 32 [Col.ints IntKind.u8 [(0 : Int), (1 : Int), (28 : Int), (2 : Int), (29 : Int), (14 : Int), (24 : Int), (3 : Int), (30 : Int), (22 : Int), (20 : Int), (15 : Int), (25 : Int), (17 : Int), (4 : Int), (8 : Int), (31 : Int), (27 : Int), (13 : Int), (23 : Int), (21 : Int), (19 : Int), (16 : Int), (7 : Int), (26 : Int), (12 : Int), (18 : Int), (6 : Int), (11 : Int), (5 : Int), (10 : Int), (9 : Int)]], kr_ a_1 3 (List.length a) cap [ci_ a], kr_ a_3 3 (List.length a_2) cap_1 [ci_ a_2]]))) (Tree.need (false = true → u32ok v) (Tree.ret (Value.bool false) pn_ [Chunk.ro (some { block := 0, off := 0 }) 32 32 [Col.ints IntKind.u8 [(0 : Int), (1 : Int), (28 : Int), (2 : Int), (29 : Int), (14 : Int), (24 : Int), (3 : Int), (30 : Int), (22 : Int), (20 : Int), (15 : Int), (25 : Int), (17 : Int), (4 : Int), (8 : Int), (31 : Int), (27 : Int), (13 : Int), (23 : Int), (21 : Int), (19 : Int), (16 : Int), (7 : Int), (26 : Int), (12 : Int), (18 : Int), (6 : Int), (11 : Int), (5 : Int), (10 : Int), (9 : Int)]]])))) (Tree.br (v == (0 : Int)) (Tree.need (((32 : Int) == r01_Lowest v) = true → n ≤ (9223372036854775807 : Int)) (Tree.br ((32 : Int) == r01_Lowest v && half_Log n == r01_Log n) (Tree.bind (half_Free v n) fun a => Tree.freshS fun a_1 cap => Tree.bind (r01_Free v n) fun a_2 => Tree.freshS fun a_3 cap_1 => Tree.need (r01_Ints a a_2 = true → u32ok v) (Tree.br (r01_Ints a a_2) (Tree.bind (half_Free v (32 : Int)) fun a_4 => Tree.freshS fun a_5 cap_2 => Tree.ret (Value.bool (IntKind.wrap IntKind.i64 (half_Ones v + (↑(List.length a_4) : Int)) == (32 : Int) && true)) pn_ [Chunk.ro (some { block := 0, off := 0 }) 32 32 [Col.ints IntKind.u8 [(0 : Int), (1 : Int), (28 : Int), (2 : Int), (29 : Int), (14 : Int), (24 : Int), (3 : Int), (30 : Int), (22 : Int), (20 : Int), (15 : Int), (25 : Int), (17 : Int), (4 : Int), (8 : Int), (31 : Int), (27 : Int), (13 : Int), (23 : Int), (21 : Int), (19 : Int), (16 : Int), (7 : Int), (26 : Int), (12 : Int), (18 : Int), (6 : Int), (11 : Int), (5 : Int), (10 : Int), (9 : Int)]], kr_ a_1 3 (List.length a) cap [ci_ a], kr_ a_3 3 (List.length a_2) cap_1 [ci_ a_2], kr_ a_5 3 (List.length a_4) cap_2 [ci_ a_4]]) (Tree.ret (Value.bool false) pn_ [Chunk.ro (some { block := 0, off := 0 }) 32 32 [Col.ints IntKind.u8 [(0 : Int), (1 : Int), (28 : Int), (2 : Int), (29 : Int), (14 : Int), (24 : Int), (3 : Int), (30 : Int), (22 : Int), (20 : Int), (15 : Int), (25 : Int), (17 : Int), (4 : Int), (8 : Int), (31 : Int), (27 : Int), (13 : Int), (23 : Int), (21 : Int), (19 : Int), (16 : Int), (7 : Int), (26 : Int), (12 : Int), (18 : Int), (6 : Int), (11 : Int), (5 : Int), (10 : Int), (9 : Int)]], kr_ a_1 3 (List.length a) cap [ci_ a], kr_ a_3 3 (List.length a_2) cap_1 [ci_ a_2]]))) (Tree.need (false = true → u32ok v) (Tree.ret (Value.bool false) pn_ [Chunk.ro (some { block := 0, off := 0 }) 32 32 [Col.ints IntKind.u8 [(0 : Int), (1 : Int), (28 : Int), (2 : Int), (29 : Int), (14 : Int), (24 : Int), (3 : Int), (30 : Int), (22 : Int), (20 : Int), (15 : Int), (25 : Int), (17 : Int), (4 : Int), (8 : Int), (31 : Int), (27 : Int), (13 : Int), (23 : Int), (21 : Int), (19 : Int), (16 : Int), (7 : Int), (26 : Int), (12 : Int), (18 : Int), (6 : Int), (11 : Int), (5 : Int), (10 : Int), (9 : Int)]]])))) (Tree.need ((0 : Int) ≤ Int.fdiv (IntKind.wrap IntKind.u32 (IntKind.wrap IntKind.u32 (↑(BitVec.toNat (BitVec.ofInt 32 v &&& BitVec.ofInt 32 (IntKind.wrap IntKind.u32 ((0 : Int) - v)))) : Int) * (125613361 : Int))) (134217728 : Int) ∧ Int.fdiv (IntKind.wrap IntKind.u32 (IntKind.wrap IntKind.u32 (↑(BitVec.toNat (BitVec.ofInt 32 v &&& BitVec.ofInt 32 (IntKind.wrap IntKind.u32 ((0 : Int) - v)))) : Int) * (125613361 : Int))) (134217728 : Int) < (32 : Int)) (Tree.need ((IntKind.wrap IntKind.i64 (List.getD [(0 : Int), (1 : Int), (28 : Int), (2 : Int), (29 : Int), (14 : Int), (24 : Int), (3 : Int), (30 : Int), (22 : Int), (20 : Int), (15 : Int), (25 : Int), (17 : Int), (4 : Int), (8 : Int), (31 : Int), (27 : Int), (13 : Int), (23 : Int), (21 : Int), (19 : Int), (16 : Int), (7 : Int), (26 : Int), (12 : Int), (18 : Int), (6 : Int), (11 : Int), (5 : Int), (10 : Int), (9 : Int)] (Int.toNat (Int.fdiv (IntKind.wrap IntKind.u32 (IntKind.wrap IntKind.u32 (↑(BitVec.toNat (BitVec.ofInt 32 v &&& BitVec.ofInt 32 (IntKind.wrap IntKind.u32 ((0 : Int) - v)))) : Int) * (125613361 : Int))) (134217728 : Int))) (0 : Int)) == r01_Lowest v) = true → n ≤ (9223372036854775807 : Int)) (Tree.br (IntKind.wrap IntKind.i64 (List.getD [(0 : Int), (1 : Int), (28 : Int), (2 : Int), (29 : Int), (14 : Int), (24 : Int), (3 : Int), (30 : Int), (22 : Int), (20 : Int), (15 : Int), (25 : Int), (17 : Int), (4 : Int), (8 : Int), (31 : Int), (27 : Int), (13 : Int), (23 : Int), (21 : Int), (19 : Int), (16 : Int), (7 : Int), (26 : Int), (12 : Int), (18 : Int), (6 : Int), (11 : Int), (5 : Int), (10 : Int), (9 : Int)] (Int.toNat (Int.fdiv (IntKind.wrap IntKind.u32 (IntKind.wrap IntKind.u32 (↑(BitVec.toNat (BitVec.ofInt 32 v &&& BitVec.ofInt 32 (IntKind.wrap IntKind.u32 ((0 : Int) - v)))) : Int) * (125613361 : Int))) (134217728 : Int))) (0 : Int)) == r01_Lowest v && half_Log n == r01_Log n) (Tree.bind (half_Free v n) fun a => Tree.freshS fun a_1 cap => Tree.bind (r01_Free v n) fun a_2 => Tree.freshS fun a_3 cap_1 => Tree.need (r01_Ints a a_2 = true → u32ok v) (Tree.br (r01_Ints a a_2) (Tree.bind (half_Free v (32 : Int)) fun a_4 => Tree.freshS fun a_5 cap_2 => Tree.ret (Value.bool (IntKind.wrap IntKind.i64 (half_Ones v + (↑(List.length a_4) : Int)) == (32 : Int) && true)) pn_ [Chunk.ro (some { block := 0, off := 0 }) 32 32 [Col.ints IntKind.u8 [(0 : Int), (1 : Int), (28 : Int), (2 : Int), (29 : Int), (14 : Int), (24 : Int), (3 : Int), (30 : Int), (22 : Int), (20 : Int), (15 : Int), (25 : Int), (17 : Int), (4 : Int), (8 : Int), (31 : Int), (27 : Int), (13 : Int), (23 : Int), (21 : Int), (19 : Int), (16 : Int), (7 : Int), (26 : Int), (12 : Int), (18 : Int), (6 : Int), (11 : Int), (5 : Int), (10 : Int), (9 : Int)]], kr_ a_1 3 (List.length a) cap [ci_ a], kr_ a_3 3 (List.length a_2) cap_1 [ci_ a_2], kr_ a_5 3 (List.length a_4) cap_2 [ci_ a_4]]) (Tree.ret (Value.bool false) pn_ [Chunk.ro (some { block := 0, off := 0 }) 32 32 [Col.ints IntKind.u8 [(0 : Int), (1 : Int), (28 : Int), (2 : Int), (29 : Int), (14 : Int), (24 : Int), (3 : Int), (30 : Int), (22 : Int), (20 : Int), (15 : Int), (25 : Int), (17 : Int), (4 : Int), (8 : Int), (31 : Int), (27 : Int), (13 : Int), (23 : Int), (21 : Int), (19 : Int), (16 : Int), (7 : Int), (26 : Int), (12 : Int), (18 : Int), (6 : Int), (11 : Int), (5 : Int), (10 : Int), (9 : Int)]], kr_ a_1 3 (List.length a) cap [ci_ a], kr_ a_3 3 (List.length a_2) cap_1 [ci_ a_2]]))) (Tree.need (false = true → u32ok v) (Tree.ret (Value.bool false) pn_ [Chunk.ro (some { block := 0, off := 0 }) 32 32 [Col.ints IntKind.u8 [(0 : Int), (1 : Int), (28 : Int), (2 : Int), (29 : Int), (14 : Int), (24 : Int), (3 : Int), (30 : Int), (22 : Int), (20 : Int), (15 : Int), (25 : Int), (17 : Int), (4 : Int), (8 : Int), (31 : Int), (27 : Int), (13 : Int), (23 : Int), (21 : Int), (19 : Int), (16 : Int), (7 : Int), (26 : Int), (12 : Int), (18 : Int), (6 : Int), (11 : Int), (5 : Int), (10 : Int), (9 : Int)]]]))))))) (Tree.need (false = true → n ≤ (9223372036854775807 : Int)) (Tree.need (false = true → u32ok v) (Tree.ret (Value.bool false) pn_ [Chunk.ro (some { block := 0, off := 0 }) 32 32 [Col.ints IntKind.u8 [(0 : Int), (1 : Int), (28 : Int), (2 : Int), (29 : Int), (14 : Int), (24 : Int), (3 : Int), (30 : Int), (22 : Int), (20 : Int), (15 : Int), (25 : Int), (17 : Int), (4 : Int), (8 : Int), (31 : Int), (27 : Int), (13 : Int), (23 : Int), (21 : Int), (19 : Int), (16 : Int), (7 : Int), (26 : Int), (12 : Int), (18 : Int), (6 : Int), (11 : Int), (5 : Int), (10 : Int), (9 : Int)]]])))))
    (by kernel_rfl)
    (⟨by first | exact hp0 | exact hp1 | exact fun _ => hp0 | exact fun _ => hp1 | exact top5 _ | exact fun _ => top5 _, fun y0 => ⟨fun z1 => ⟨fun z2 => ⟨by first | exact hp0 | exact hp1 | exact fun _ => hp0 | exact fun _ => hp1 | exact top5 _ | exact fun _ => top5 _, fun y3 => ⟨fun z4 => fun r5 e5 => fun b6_0 b6_1 => fun r7 e7 => fun b8_0 b8_1 => ⟨by first | exact hp0 | exact hp1 | exact fun _ => hp0 | exact fun _ => hp1 | exact top5 _ | exact fun _ => top5 _, fun y9 => ⟨fun z10 => fun r11 e11 => fun b12_0 b12_1 => RetOk.at (outf := HalfBits_out) (nwf := HalfBits_nw) (rowsf := HalfBits_rows) (r := IntKind.wrap IntKind.i64 (half_Ones v + (↑(List.length r11) : Int)) == (32 : Int) && true) (by subst e5; subst e7; subst e11; first | exact Eq.symm ((cT z1).trans ((cT z2).trans ((cT z4).trans ((cT z10).trans rfl)))) | (simp only [HalfBits, z1, z2, z4, z10, cond_true, cond_false]; done) | (exfalso; simp_all; done) | decide) ⟨[], [], (by decide), rfl, rfl, trivial⟩, fun z10 => RetOk.at (outf := HalfBits_out) (nwf := HalfBits_nw) (rowsf := HalfBits_rows) (r := false) (by subst e5; subst e7; first | exact Eq.symm ((cT z1).trans ((cT z2).trans ((cT z4).trans ((cF z10).trans rfl)))) | (simp only [HalfBits, z1, z2, z4, z10, cond_true, cond_false]; done) | (exfalso; simp_all; done) | decide) ⟨[], [], (by decide), rfl, rfl, trivial⟩⟩⟩, fun z4 => ⟨by first | exact hp0 | exact hp1 | exact fun _ => hp0 | exact fun _ => hp1 | exact top5 _ | exact fun _ => top5 _, fun y5 => RetOk.at (outf := HalfBits_out) (nwf := HalfBits_nw) (rowsf := HalfBits_rows) (r := false) (by first | exact Eq.symm ((cT z1).trans ((cT z2).trans ((cF z4).trans rfl))) | (simp only [HalfBits, z1, z2, z4, cond_true, cond_false]; done) | (exfalso; simp_all; done) | decide) ⟨[], [], (by decide), rfl, rfl, trivial⟩⟩⟩⟩, fun z2 => ⟨fun z3 => ⟨by first | exact hp0 | exact hp1 | exact fun _ => hp0 | exact fun _ => hp1 | exact top5 _ | exact fun _ => top5 _, fun y4 => ⟨fun z5 => fun r6 e6 => fun b7_0 b7_1 => fun r8 e8 => fun b9_0 b9_1 => ⟨by first | exact hp0 | exact hp1 | exact fun _ => hp0 | exact fun _ => hp1 | exact top5 _ | exact fun _ => top5 _, fun y10 => ⟨fun z11 => fun r12 e12 => fun b13_0 b13_1 => RetOk.at (outf := HalfBits_out) (nwf := HalfBits_nw) (rowsf := HalfBits_rows) (r := IntKind.wrap IntKind.i64 (half_Ones v + (↑(List.length r12) : Int)) == (32 : Int) && true) (by subst e6; subst e8; subst e12; first | exact Eq.symm ((cT z1).trans ((cF z2).trans ((cT z3).trans ((cT z5).trans ((cT z11).trans rfl))))) | (simp only [HalfBits, z1, z2, z3, z5, z11, cond_true, cond_false]; done) | (exfalso; simp_all; done) | decide) ⟨[], [], (by decide), rfl, rfl, trivial⟩, fun z11 => RetOk.at (outf := HalfBits_out) (nwf := HalfBits_nw) (rowsf := HalfBits_rows) (r := false) (by subst e6; subst e8; first | exact Eq.symm ((cT z1).trans ((cF z2).trans ((cT z3).trans ((cT z5).trans ((cF z11).trans rfl))))) | (simp only [HalfBits, z1, z2, z3, z5, z11, cond_true, cond_false]; done) | (exfalso; simp_all; done) | decide) ⟨[], [], (by decide), rfl, rfl, trivial⟩⟩⟩, fun z5 => ⟨by first | exact hp0 | exact hp1 | exact fun _ => hp0 | exact fun _ => hp1 | exact top5 _ | exact fun _ => top5 _, fun y6 => RetOk.at (outf := HalfBits_out) (nwf := HalfBits_nw) (rowsf := HalfBits_rows) (r := false) (by first | exact Eq.symm ((cT z1).trans ((cF z2).trans ((cT z3).trans ((cF z5).trans rfl)))) | (simp only [HalfBits, z1, z2, z3, z5, cond_true, cond_false]; done) | (exfalso; simp_all; done) | decide) ⟨[], [], (by decide), rfl, rfl, trivial⟩⟩⟩⟩, fun z3 => ⟨by first | exact hp0 | exact hp1 | exact fun _ => hp0 | exact fun _ => hp1 | exact top5 _ | exact fun _ => top5 _, fun y4 => ⟨by first | exact hp0 | exact hp1 | exact fun _ => hp0 | exact fun _ => hp1 | exact top5 _ | exact fun _ => top5 _, fun y5 => ⟨fun z6 => fun r7 e7 => fun b8_0 b8_1 => fun r9 e9 => fun b10_0 b10_1 => ⟨by first | exact hp0 | exact hp1 | exact fun _ => hp0 | exact fun _ => hp1 | exact top5 _ | exact fun _ => top5 _, fun y11 => ⟨fun z12 => fun r13 e13 => fun b14_0 b14_1 => RetOk.at (outf := HalfBits_out) (nwf := HalfBits_nw) (rowsf := HalfBits_rows) (r := IntKind.wrap IntKind.i64 (half_Ones v + (↑(List.length r13) : Int)) == (32 : Int) && true) (by subst e7; subst e9; subst e13; first | exact Eq.symm ((cT z1).trans ((cF z2).trans ((cF z3).trans ((cT z6).trans ((cT z12).trans rfl))))) | (simp only [HalfBits, z1, z2, z3, z6, z12, cond_true, cond_false]; done) | (exfalso; simp_all; done) | decide) ⟨[], [], (by decide), rfl, rfl, trivial⟩, fun z12 => RetOk.at (outf := HalfBits_out) (nwf := HalfBits_nw) (rowsf := HalfBits_rows) (r := false) (by subst e7; subst e9; first | exact Eq.symm ((cT z1).trans ((cF z2).trans ((cF z3).trans ((cT z6).trans ((cF z12).trans rfl))))) | (simp only [HalfBits, z1, z2, z3, z6, z12, cond_true, cond_false]; done) | (exfalso; simp_all; done) | decide) ⟨[], [], (by decide), rfl, rfl, trivial⟩⟩⟩, fun z6 => ⟨by first | exact hp0 | exact hp1 | exact fun _ => hp0 | exact fun _ => hp1 | exact top5 _ | exact fun _ => top5 _, fun y7 => RetOk.at (outf := HalfBits_out) (nwf := HalfBits_nw) (rowsf := HalfBits_rows) (r := false) (by first | exact Eq.symm ((cT z1).trans ((cF z2).trans ((cF z3).trans ((cF z6).trans rfl)))) | (simp only [HalfBits, z1, z2, z3, z6, cond_true, cond_false]; done) | (exfalso; simp_all; done) | decide) ⟨[], [], (by decide), rfl, rfl, trivial⟩⟩⟩⟩⟩⟩⟩, fun z1 => ⟨by first | exact hp0 | exact hp1 | exact fun _ => hp0 | exact fun _ => hp1 | exact top5 _ | exact fun _ => top5 _, fun y2 => ⟨by first | exact hp0 | exact hp1 | exact fun _ => hp0 | exact fun _ => hp1 | exact top5 _ | exact fun _ => top5 _, fun y3 => RetOk.at (outf := HalfBits_out) (nwf := HalfBits_nw) (rowsf := HalfBits_rows) (r := false) (by first | exact Eq.symm ((cF z1).trans rfl) | (simp only [HalfBits, z1, cond_true, cond_false]; done) | (exfalso; simp_all; done) | decide) ⟨[], [], (by decide), rfl, rfl, trivial⟩⟩⟩⟩⟩)
theorem HalfBits_plain {E_ : World} {G_ : Hp} {w_ : World} (hr0 : RowAt G_ (some ⟨0, 0, none⟩) 32 [.ints .u8 tab32]) (hp0 : u32ok v) (hp1 : n ≤ 9223372036854775807) (hS : Sat E_ G_ w_ []) : Calls Tryd.prog 4 #[(.int .u32 v), (.int .i64 n)] w_ (fun en w' => en = .returned (.bool ((HalfBits v n))) ∧ Sat E_ G_ w' []) := by
  have h := HalfBits_calls (E_ := E_) (G_ := G_) v n hr0 hp0 hp1 hS
  refine h.mono fun en w' hp => ?_
  have hp' : Post Dg E_ G_ (fun _ => .bool ((HalfBits v n))) ([] : List (Chunk Sg)) [] en w' := hp
  rw [Post.plain] at hp'
  exact hp'
end
end Go.Proofs.YtaenbinoejnecaaDoor
