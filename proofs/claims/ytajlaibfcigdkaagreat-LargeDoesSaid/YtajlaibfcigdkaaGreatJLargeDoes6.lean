/-
  What allocating, freeing and resizing tells, reads and writes, of every heap, is as the document says: the law's function answers true for every configuration, values and numbers. Conditions: none.
-/
import Derived.Test.YtajlaibfcigdkaaGreatJLargeDoes5
import Derived.ProofKit
import Derived.Lib.SmallJoins
import Derived.Deep.Slices
import Derived.OpenShut
import Derived.Test.YtajlaibfcigdkaaGreatRows
set_option linter.unusedSimpArgs false
set_option linter.unusedVariables false
namespace Go.Proofs.YtajlaibfcigdkaaGreat
open Go.Sl
def x_blocks (t : Int) (p : Int) (sh : Int) (xs : List Int) : List Int × List Int := ((blocksL ⟨t, p, sh⟩ xs).map (·.a), (blocksL ⟨t, p, sh⟩ xs).map (·.s))
abbrev c_x_blocks : Ct Sg := ⟨none, false, [.agg [.i .i64, .i .i64, .i .i64, .ro [some .u32]]], .new 56 [some .i64, some .i64]⟩
def e_x_blocks : Entry Sg := entC c_x_blocks x_blocks (fun t p sh xs => [AGood ⟨t, p, sh⟩ xs])
def x_blocks_w (t : Int) (p : Int) (sh : Int) (xs : List Int) (Q0 : Int → Nat → List Int → List Int → List Int → Nat → List Int → List Int → Prop) (R_ : List Int × List Int → Prop) : Prop := (∀ r2 : List Int × List Int × List Int, r2 = (x_parts t p sh xs) → ((AGood { t := t, p := p, s := sh } xs) ∧ ((AGood { t := t, p := p, s := sh } xs) → (Q0 ((0 : Int)) (List.length (Prod.fst r2)) (Prod.fst r2) (Prod.fst (Prod.snd r2)) (Prod.snd (Prod.snd r2)) ((0 : Nat)) ([]) ([])))))
def x_blocks_w0 (t : Int) (p : Int) (sh : Int) (xs : List Int) (i : Int) (n1 : Nat) (ks : List Int) (zs : List Int) (ss : List Int) (n2 : Nat) (as_ : List Int) (bs : List Int) (Q0 : Int → Nat → List Int → List Int → List Int → Nat → List Int → List Int → Prop) (R_ : List Int × List Int → Prop) : Prop := (((decide (i < (↑n1 : Int))) = true → (((0 : Int) ≤ i ∧ i < (↑n1 : Int)) ∧ (((0 : Int) ≤ i ∧ i < (↑n1 : Int)) → (((List.getD ks (Int.toNat i) (0 : Int) == (2 : Int)) = true → (((0 : Int) ≤ i ∧ i < (↑n1 : Int)) ∧ (((0 : Int) ≤ i ∧ i < (↑n1 : Int)) → (((0 : Int) ≤ i ∧ i < (↑n1 : Int)) ∧ (((0 : Int) ≤ i ∧ i < (↑n1 : Int)) → (tw_ (((n2 + (1 : Nat)) * (16 : Nat) ≤ (140737488355328 : Nat)) ∧ (((n2 + (1 : Nat)) * (16 : Nat) ≤ (140737488355328 : Nat)) → (Q0 (IntKind.wrap IntKind.i64 (i + (1 : Int))) (n1) (ks) (zs) (ss) (n2 + (1 : Nat)) (as_ ++ [List.getD zs (Int.toNat i) (0 : Int)]) (bs ++ [List.getD ss (Int.toNat i) (0 : Int)])))))))))) ∧ ((List.getD ks (Int.toNat i) (0 : Int) == (2 : Int)) = false → (Q0 (IntKind.wrap IntKind.i64 (i + (1 : Int))) (n1) (ks) (zs) (ss) (n2) (as_) (bs))))))) ∧ ((decide (i < (↑n1 : Int))) = false → (R_ ((as_, bs)))))
def x_blocks_I0 (t : Int) (p : Int) (sh : Int) (xs : List Int) (i : Int) (n1 : Nat) (ks : List Int) (zs : List Int) (ss : List Int) (n2 : Nat) (as_ : List Int) (bs : List Int) (r_ : List Int × List Int) : Prop := 0 ≤ i ∧ i ≤ n1 ∧ n1 = (partsL ⟨t, p, sh⟩ xs).length ∧ n1 ≤ 33 * 1024 ∧ ks = (partsL ⟨t, p, sh⟩ xs).map (·.k) ∧ zs = (partsL ⟨t, p, sh⟩ xs).map (·.a) ∧ ss = (partsL ⟨t, p, sh⟩ xs).map (·.s) ∧ n2 = as_.length ∧ n2 ≤ i ∧ as_ = (((partsL ⟨t, p, sh⟩ xs).take i.toNat).filter fun x => x.k == 2).map (·.a) ∧ bs = (((partsL ⟨t, p, sh⟩ xs).take i.toNat).filter fun x => x.k == 2).map (·.s) ∧ r_ = x_blocks t p sh xs
theorem x_blocks_begin (t : Int) (p : Int) (sh : Int) (xs : List Int) (hp0 : AGood ⟨t, p, sh⟩ xs) (hl0 : xs.length ≤ 9223372036854775807) : x_blocks_w t p sh xs (fun i' n1' ks' zs' ss' n2' as_' bs' => x_blocks_I0 t p sh xs i' n1' ks' zs' ss' n2' as_' bs' (x_blocks t p sh xs)) (fun r__ => r__ = (x_blocks t p sh xs)) := by
  unfold x_blocks_w
  try unfold x_blocks_I0
  have hok := Cf.ok_iff.1 hp0.ok
  simp only at hok
  have hl : (partsL ⟨t, p, sh⟩ xs).length ≤ 33 * p.toNat := partsL_len _ _
  rintro r2 rfl
  exact ⟨hp0, fun _ => ⟨by omega, by omega, by simp [x_parts], by simp only [x_parts, List.length_map]; omega, rfl, rfl, rfl, rfl, by omega, by simp, by simp, rfl⟩⟩
theorem x_blocks_step0 (t : Int) (p : Int) (sh : Int) (xs : List Int) (hp0 : AGood ⟨t, p, sh⟩ xs) (hl0 : xs.length ≤ 9223372036854775807) (i : Int) (n1 : Nat) (ks : List Int) (zs : List Int) (ss : List Int) (n2 : Nat) (as_ : List Int) (bs : List Int) {r_ : List Int × List Int} (hI : x_blocks_I0 t p sh xs i n1 ks zs ss n2 as_ bs r_) : x_blocks_w0 t p sh xs i n1 ks zs ss n2 as_ bs (fun i' n1' ks' zs' ss' n2' as_' bs' => x_blocks_I0 t p sh xs i' n1' ks' zs' ss' n2' as_' bs' r_ ∧ lx ((n1' - i').toNat, 0, 0) ((n1 - i).toNat, 0, 0)) (fun r__ => r__ = r_) := by
  unfold x_blocks_I0 at hI
  unfold x_blocks_w0
  try unfold x_blocks_I0
  obtain ⟨h0, h1, h2, hb, h3, h4, h5, h6, h7, h8, h9, hr⟩ := hI
  refine ⟨fun h => ?_, fun h => ?_⟩
  · simp only [decide_eq_true_eq] at h
    have hi : 0 ≤ i ∧ i < (n1 : Int) := ⟨h0, h⟩
    have hs := blk_step (partsL ⟨t, p, sh⟩ xs) (i := i.toNat) (by omega)
    rw [← h3, ← h4, ← h5] at hs
    have es : (i + 1).toNat = i.toNat + 1 := by omega
    rw [w64 (n := i + 1) (by omega)]
    refine ⟨hi, fun _ => ⟨fun hc => ⟨hi, fun _ => ⟨hi, fun _ => ?_⟩⟩, fun hc => ?_⟩⟩
    · rw [hc] at hs
      refine And.intro ?_ ?_ <;> exact ⟨by omega, fun _ => ⟨⟨by omega, by omega, h2, hb, h3, h4, h5, by simp [h6], by omega, by rw [es, hs, List.map_append, ← h8]; rfl, by rw [es, hs, List.map_append, ← h9]; rfl, hr⟩, lxo_⟩⟩
    · rw [hc] at hs
      exact ⟨⟨by omega, by omega, h2, hb, h3, h4, h5, h6, by omega, by rw [es, hs, List.map_append, ← h8]; simp, by rw [es, hs, List.map_append, ← h9]; simp, hr⟩, lxo_⟩
  · simp only [decide_eq_false_iff_not] at h
    show _ = _
    rw [hr, x_blocks, blocksL, h8, h9, List.take_of_length_le (by omega)]
theorem x_blocks_ok : EntryOk Dg Tryz.prog 142 e_x_blocks :=
  ent_wp Dg T_x_parts_ok (I := [1643000000005, 1643000000004, 1643000000003]) Tryz.func142 mix (B := bodyOf Tryz.f142) (by kernel_rfl) rfl (by kernel_rfl) 400
    fun p0 t p sh xs hb hp => have hl0 : xs.length ≤ 9223372036854775807 := hb.1.2.2.2.1; have hp0 : AGood ⟨t, p, sh⟩ xs := hp _ (.head _); ⟨[⟨none, [0,1,0,1,1,1], [.blk 0, .code [1,1,1,1]], [5, 4, 3], [.i .i64, .own 158 [some .i64, some .i64, some .i64], .own 56 [some .i64, some .i64]]⟩], fun j => List.getD [appC (Hd.kd (⟨none, [0,1,0,1,1,1], [.blk 0, .code [1,1,1,1]], [5, 4, 3], [.i .i64, .own 158 [some .i64, some .i64, some .i64], .own 56 [some .i64, some .i64]]⟩ : Hd Sg)) (fun i' n1' ks' zs' ss' n2' as_' bs' => x_blocks_I0 t p sh xs i' n1' ks' zs' ss' n2' as_' bs' (x_blocks t p sh xs))] j (fun _ => False), fun j => List.getD [appC (Hd.kd (⟨none, [0,1,0,1,1,1], [.blk 0, .code [1,1,1,1]], [5, 4, 3], [.i .i64, .own 158 [some .i64, some .i64, some .i64], .own 56 [some .i64, some .i64]]⟩ : Hd Sg)) (fun i' n1' ks' zs' ss' n2' as_' bs' => ((n1' - i').toNat, 0, 0))] j (fun _ => (0, 0, 0)), by kernel_rfl, ⟨x_blocks_w t p sh xs (fun i' n1' ks' zs' ss' n2' as_' bs' => x_blocks_I0 t p sh xs i' n1' ks' zs' ss' n2' as_' bs' (x_blocks t p sh xs)) (fun r__ => r__ = (x_blocks t p sh xs)), fun _ _ _ => by kernel_rfl, x_blocks_begin t p sh xs hp0 hl0 ⟩, ⟨fun i n1 ks zs ss n2 as_ bs hI => ⟨x_blocks_w0 t p sh xs i n1 ks zs ss n2 as_ bs (fun i' n1' ks' zs' ss' n2' as_' bs' => x_blocks_I0 t p sh xs i' n1' ks' zs' ss' n2' as_' bs' (x_blocks t p sh xs) ∧ lx ((n1' - i').toNat, 0, 0) ((n1 - i).toNat, 0, 0)) (fun r__ => r__ = (x_blocks t p sh xs)), fun _ _ _ => by kernel_rfl, x_blocks_step0 t p sh xs hp0 hl0 i n1 ks zs ss n2 as_ bs hI⟩, trivial⟩⟩
def T_x_blocks : List (Nat × Entry Sg) := (142, e_x_blocks) :: T_x_parts
theorem T_x_blocks_ok : TableOk Dg Tryz.prog T_x_blocks := TableOk.cons Dg x_blocks_ok T_x_parts_ok
def x_roots (t : Int) (p : Int) (sh : Int) (xs : List Int) : Bool := rootsOk ⟨t, p, sh⟩ xs
abbrev c_x_roots : Ct Sg := ⟨none, false, [.agg [.i .i64, .i .i64, .i .i64, .ro [some .u32]]], .b⟩
def e_x_roots : Entry Sg := entC c_x_roots x_roots (fun t p sh xs => [AGood ⟨t, p, sh⟩ xs])
def x_roots_w (t : Int) (p : Int) (sh : Int) (xs : List Int) (Q0 : Int → Nat → List Int → List Int → Prop) (R_ : Bool → Prop) : Prop := (∀ r1 : List Int × List Int, r1 = (x_blocks t p sh xs) → ((AGood { t := t, p := p, s := sh } xs) ∧ ((AGood { t := t, p := p, s := sh } xs) → (Q0 ((0 : Int)) (List.length (Prod.fst r1)) (Prod.fst r1) (Prod.snd r1)))))
def x_roots_w0 (t : Int) (p : Int) (sh : Int) (xs : List Int) (i : Int) (n2 : Nat) (as_ : List Int) (bs : List Int) (Q0 : Int → Nat → List Int → List Int → Prop) (R_ : Bool → Prop) : Prop := (((decide (i < (8 : Int))) = true → (((0 : Int) ≤ r07_Root i ∧ r07_Root i < (↑(List.length xs) : Int)) ∧ (((0 : Int) ≤ r07_Root i ∧ r07_Root i < (↑(List.length xs) : Int)) → (((IntKind.wrap IntKind.i64 (List.getD xs (Int.toNat (r07_Root i)) (0 : Int)) != (0 : Int) && !r12_Has as_ bs (IntKind.wrap IntKind.i64 (List.getD xs (Int.toNat (r07_Root i)) (0 : Int)))) = true → (R_ (false))) ∧ ((IntKind.wrap IntKind.i64 (List.getD xs (Int.toNat (r07_Root i)) (0 : Int)) != (0 : Int) && !r12_Has as_ bs (IntKind.wrap IntKind.i64 (List.getD xs (Int.toNat (r07_Root i)) (0 : Int)))) = false → (Q0 (IntKind.wrap IntKind.i64 (i + (1 : Int))) (n2) (as_) (bs))))))) ∧ ((decide (i < (8 : Int))) = false → (R_ (true))))
def x_roots_I0 (t : Int) (p : Int) (sh : Int) (xs : List Int) (i : Int) (n2 : Nat) (as_ : List Int) (bs : List Int) (r_ : Bool) : Prop := 0 ≤ i ∧ i ≤ 8 ∧ n2 = as_.length ∧ as_.length = bs.length ∧ as_.length ≤ 33 * 1024 ∧ rootsF xs as_ (8 - i).toNat = r_
theorem x_roots_begin (t : Int) (p : Int) (sh : Int) (xs : List Int) (hp0 : AGood ⟨t, p, sh⟩ xs) (hl0 : xs.length ≤ 9223372036854775807) : x_roots_w t p sh xs (fun i' n2' as_' bs' => x_roots_I0 t p sh xs i' n2' as_' bs' (x_roots t p sh xs)) (fun r__ => r__ = (x_roots t p sh xs)) := by
  unfold x_roots_w
  try unfold x_roots_I0
  have hok := Cf.ok_iff.1 hp0.ok
  simp only at hok
  have hl : (blocksL ⟨t, p, sh⟩ xs).length ≤ 33 * p.toNat := blocksL_len _ _
  rintro r2 rfl
  exact ⟨hp0, fun _ => ⟨by omega, by omega, rfl, by simp [x_blocks], by simp only [x_blocks, List.length_map]; omega, rfl⟩⟩
theorem x_roots_step0 (t : Int) (p : Int) (sh : Int) (xs : List Int) (hp0 : AGood ⟨t, p, sh⟩ xs) (hl0 : xs.length ≤ 9223372036854775807) (i : Int) (n2 : Nat) (as_ : List Int) (bs : List Int) {r_ : Bool} (hI : x_roots_I0 t p sh xs i n2 as_ bs r_) : x_roots_w0 t p sh xs i n2 as_ bs (fun i' n2' as_' bs' => x_roots_I0 t p sh xs i' n2' as_' bs' r_ ∧ lx ((8 - i').toNat, 0, 0) ((8 - i).toNat, 0, 0)) (fun r__ => r__ = r_) := by
  unfold x_roots_I0 at hI
  unfold x_roots_w0
  try unfold x_roots_I0
  obtain ⟨h0, h1, h2, h3, hb, hr⟩ := hI
  refine ⟨fun h => ?_, fun h => ?_⟩
  · simp only [decide_eq_true_eq] at h
    have hin : 0 ≤ cRoot i ∧ cRoot i < (xs.length : Int) := by
      have h1 := Cf.ok_iff.1 hp0.ok
      have h2 := hp0.len
      unfold Cf.cells at h2
      rw [hp0.ok, cond_true] at h2
      have e : (decide (0 ≤ i) && decide (i < 8)) = true := by simp [h0, h]
      unfold cRoot
      rw [e, cond_true]
      omega
    have hbd := cel_bd hp0 (cRoot i)
    have hbd' : 0 ≤ xs.getD (cRoot i).toNat 0 ∧ xs.getD (cRoot i).toNat 0 < 4294967296 := hbd
    have e : (8 - i).toNat = (8 - (i + 1)).toNat + 1 := by omega
    have ei : (8 : Int) - (((8 - (i + 1)).toNat + 1 : Nat) : Int) = i := by omega
    rw [e] at hr
    simp only [rootsF] at hr
    rw [ei] at hr
    rw [r07_Root_eq, w64 (n := i + 1) (by omega), w64 (n := xs.getD (cRoot i).toNat 0) (by omega)]
    refine ⟨hin, fun _ => ⟨fun hc => ?_, fun hc => ?_⟩⟩
    · have hc' : (cel xs (cRoot i) != 0 && !as_.contains (cel xs (cRoot i))) = true := hc
      rw [hc', cond_true] at hr; exact hr
    · have hc' : (cel xs (cRoot i) != 0 && !as_.contains (cel xs (cRoot i))) = false := hc
      rw [hc', cond_false] at hr
      exact ⟨⟨by omega, by omega, h2, h3, hb, hr⟩, lxo_⟩
  · simp only [decide_eq_false_iff_not] at h
    rw [show (8 - i).toNat = 0 by omega] at hr
    exact hr
theorem x_roots_ok : EntryOk Dg Tryz.prog 128 e_x_roots :=
  ent_wp Dg T_x_blocks_ok (I := [411000000004, 411000000003, 411000000001]) Tryz.func128 mix (B := bodyOf Tryz.f128) (by kernel_rfl) rfl (by kernel_rfl) 400
    fun p0 t p sh xs hb hp => have hl0 : xs.length ≤ 9223372036854775807 := hb.1.2.2.2.1; have hp0 : AGood ⟨t, p, sh⟩ xs := hp _ (.head _); ⟨[⟨none, [0,1,0,1,1], [.blk 0, .code [1,1,1]], [4, 3, 1], [.i .i64, .own 56 [some .i64, some .i64], .box 29 [.ic .i64 (t), .ic .i64 (p), .ic .i64 (sh), .roc [.ints .u32 (xs)]]]⟩], fun j => List.getD [appC (Hd.kd (⟨none, [0,1,0,1,1], [.blk 0, .code [1,1,1]], [4, 3, 1], [.i .i64, .own 56 [some .i64, some .i64], .box 29 [.ic .i64 (t), .ic .i64 (p), .ic .i64 (sh), .roc [.ints .u32 (xs)]]]⟩ : Hd Sg)) (fun i' n2' as_' bs' => x_roots_I0 t p sh xs i' n2' as_' bs' (x_roots t p sh xs))] j (fun _ => False), fun j => List.getD [appC (Hd.kd (⟨none, [0,1,0,1,1], [.blk 0, .code [1,1,1]], [4, 3, 1], [.i .i64, .own 56 [some .i64, some .i64], .box 29 [.ic .i64 (t), .ic .i64 (p), .ic .i64 (sh), .roc [.ints .u32 (xs)]]]⟩ : Hd Sg)) (fun i' n2' as_' bs' => ((8 - i').toNat, 0, 0))] j (fun _ => (0, 0, 0)), by kernel_rfl, ⟨x_roots_w t p sh xs (fun i' n2' as_' bs' => x_roots_I0 t p sh xs i' n2' as_' bs' (x_roots t p sh xs)) (fun r__ => r__ = (x_roots t p sh xs)), fun _ _ _ => by kernel_rfl, x_roots_begin t p sh xs hp0 hl0 ⟩, ⟨fun i n2 as_ bs hI => ⟨x_roots_w0 t p sh xs i n2 as_ bs (fun i' n2' as_' bs' => x_roots_I0 t p sh xs i' n2' as_' bs' (x_roots t p sh xs) ∧ lx ((8 - i').toNat, 0, 0) ((8 - i).toNat, 0, 0)) (fun r__ => r__ = (x_roots t p sh xs)), fun _ _ _ => by kernel_rfl, x_roots_step0 t p sh xs hp0 hl0 i n2 as_ bs hI⟩, trivial⟩⟩
def T_x_roots : List (Nat × Entry Sg) := (128, e_x_roots) :: T_x_blocks
theorem T_x_roots_ok : TableOk Dg Tryz.prog T_x_roots := TableOk.cons Dg x_roots_ok T_x_blocks_ok
def r12_Check (t : Int) (p : Int) (sh : Int) (xs : List Int) : Int × Bool := checkA ⟨t, p, sh⟩ xs
abbrev c_r12_Check : Ct Sg := ⟨none, false, [.agg [.i .i64, .i .i64, .i .i64], .ro [some .u32]], .tup [.i .i64, .b]⟩
def e_r12_Check : Entry Sg := entC c_r12_Check r12_Check (fun t p sh xs => [bdAll xs])
def r12_Check_w (t : Int) (p : Int) (sh : Int) (xs : List Int) (R_ : Int × Bool → Prop) : Prop := (∀ r1 : Bool, r1 = (r04_Right t p sh) → (((!r1 || (↑(List.length xs) : Int) != r07_Cells t p sh) = true → (R_ (((1 : Int), false)))) ∧ ((!r1 || (↑(List.length xs) : Int) != r07_Cells t p sh) = false → (∀ r4 : Bool, r4 = (x_tiles t p sh xs) → ((AGood { t := t, p := p, s := sh } xs) ∧ ((AGood { t := t, p := p, s := sh } xs) → (((!r4) = true → (R_ (((2 : Int), false)))) ∧ ((!r4) = false → (∀ r7 : Bool, r7 = (x_feet t p sh xs) → ((AGood { t := t, p := p, s := sh } xs) ∧ ((AGood { t := t, p := p, s := sh } xs) → ((Prod.snd (starts { t := t, p := p, s := sh } xs) = true) ∧ ((Prod.snd (starts { t := t, p := p, s := sh } xs) = true) → (((!r7) = true → (R_ (((3 : Int), false)))) ∧ ((!r7) = false → (∀ r11 : Bool, r11 = (x_apart t p sh xs) → ((AGood { t := t, p := p, s := sh } xs) ∧ ((AGood { t := t, p := p, s := sh } xs) → (((!r11) = true → (R_ (((4 : Int), false)))) ∧ ((!r11) = false → (∀ r14 : Bool, r14 = (x_slots t p sh xs) → ((AGood { t := t, p := p, s := sh } xs) ∧ ((AGood { t := t, p := p, s := sh } xs) → (((!r14) = true → (R_ (((5 : Int), false)))) ∧ ((!r14) = false → (∀ r17 : Bool, r17 = (x_bins t p sh xs) → ((AGood { t := t, p := p, s := sh } xs) ∧ ((AGood { t := t, p := p, s := sh } xs) → (((!r17) = true → (R_ (((6 : Int), false)))) ∧ ((!r17) = false → (∀ r20 : Bool, r20 = (x_racks t p sh xs) → ((AGood { t := t, p := p, s := sh } xs) ∧ ((AGood { t := t, p := p, s := sh } xs) → (((!r20) = true → (R_ (((7 : Int), false)))) ∧ ((!r20) = false → (∀ r23 : Bool, r23 = (x_loose t p sh xs) → ((AGood { t := t, p := p, s := sh } xs) ∧ ((AGood { t := t, p := p, s := sh } xs) → (((!r23) = true → (R_ (((8 : Int), false)))) ∧ ((!r23) = false → (∀ r26 : Bool, r26 = (x_counts t p sh xs) → ((AGood { t := t, p := p, s := sh } xs) ∧ ((AGood { t := t, p := p, s := sh } xs) → (((!r26) = true → (R_ (((9 : Int), false)))) ∧ ((!r26) = false → (∀ r29 : Bool, r29 = (x_roots t p sh xs) → ((AGood { t := t, p := p, s := sh } xs) ∧ ((AGood { t := t, p := p, s := sh } xs) → (((!r29) = true → (R_ (((10 : Int), false)))) ∧ ((!r29) = false → (R_ (((0 : Int), true)))))))))))))))))))))))))))))))))))))))))))))))))))))
theorem r12_Check_begin (t : Int) (p : Int) (sh : Int) (xs : List Int) (hp0 : bdAll xs) (hl0 : xs.length ≤ 9223372036854775807) : r12_Check_w t p sh xs  (fun r__ => r__ = (r12_Check t p sh xs)) := by
  unfold r12_Check_w
  have hr : r04_Right t p sh = Cf.ok ⟨t, p, sh⟩ := by
    apply Bool.eq_iff_iff.2
    rw [Cf.ok_iff]
    simp only [r04_Right, Bool.and_eq_true, decide_eq_true_eq]; omega
  have hcl : r07_Cells t p sh = Cf.cells ⟨t, p, sh⟩ := by
    unfold r07_Cells Cf.cells
    rw [hr]
    cases h : Cf.ok ⟨t, p, sh⟩ with
    | false => rfl
    | true =>
      have := Cf.ok_iff.1 h
      simp only at this
      show IntKind.i64.wrap _ = 30 + 4 * t + 6 * p
      rw [w64 (n := 4 * t) (by omega), w64 (n := 30 + 4 * t) (by omega), w64 (n := 6 * p) (by omega), w64 (by omega)]
  rintro r1 rfl
  rw [hr, hcl]
  refine ⟨fun hc => ?_, fun hc => ?_⟩
  · show _ = checkA ⟨t, p, sh⟩ xs
    unfold checkA
    rw [hc]; rfl
  have hg : AGood ⟨t, p, sh⟩ xs := by
    simp only [Bool.or_eq_false_iff, Bool.not_eq_false', bne_eq_false_iff_eq] at hc
    exact { ok := hc.1, len := hc.2, bd := hp0 }
  have key : ∀ {r : Int × Bool}, r = checkA ⟨t, p, sh⟩ xs → (fun r__ => r__ = r12_Check t p sh xs) r := fun h => h
  unfold checkA at key
  rw [hc, cond_false] at key
  rintro r rfl
  refine ⟨hg, fun _ => ⟨fun hd => key (by rw [show (!tiles ⟨t, p, sh⟩ xs) = true from hd]; rfl), fun hd => ?_⟩⟩
  have h_tiles : (!tiles ⟨t, p, sh⟩ xs) = false := hd
  rw [h_tiles, cond_false] at key
  rintro r rfl
  have hst : (starts ⟨t, p, sh⟩ xs).2 = true := by
    have h1 : tiles ⟨t, p, sh⟩ xs = true := by simpa using h_tiles
    unfold tiles at h1
    cases hq : (starts ⟨t, p, sh⟩ xs).2 with
    | true => rfl
    | false => rw [hq] at h1; cases h1
  refine ⟨hg, fun _ => ⟨hst, fun _ => ⟨fun hd => key (by rw [show (!feet ⟨t, p, sh⟩ xs) = true from hd]; rfl), fun hd => ?_⟩⟩⟩
  have h_feet : (!feet ⟨t, p, sh⟩ xs) = false := hd
  rw [h_feet, cond_false] at key
  rintro r rfl
  refine ⟨hg, fun _ => ⟨fun hd => key (by rw [show (!apart ⟨t, p, sh⟩ xs) = true from hd]; rfl), fun hd => ?_⟩⟩
  have h_apart : (!apart ⟨t, p, sh⟩ xs) = false := hd
  rw [h_apart, cond_false] at key
  rintro r rfl
  refine ⟨hg, fun _ => ⟨fun hd => key (by rw [show (!slotsOk ⟨t, p, sh⟩ xs) = true from hd]; rfl), fun hd => ?_⟩⟩
  have h_slotsOk : (!slotsOk ⟨t, p, sh⟩ xs) = false := hd
  rw [h_slotsOk, cond_false] at key
  rintro r rfl
  refine ⟨hg, fun _ => ⟨fun hd => key (by rw [show (!bins ⟨t, p, sh⟩ xs) = true from hd]; rfl), fun hd => ?_⟩⟩
  have h_bins : (!bins ⟨t, p, sh⟩ xs) = false := hd
  rw [h_bins, cond_false] at key
  rintro r rfl
  refine ⟨hg, fun _ => ⟨fun hd => key (by rw [show (!racks ⟨t, p, sh⟩ xs) = true from hd]; rfl), fun hd => ?_⟩⟩
  have h_racks : (!racks ⟨t, p, sh⟩ xs) = false := hd
  rw [h_racks, cond_false] at key
  rintro r rfl
  refine ⟨hg, fun _ => ⟨fun hd => key (by rw [show (!loose ⟨t, p, sh⟩ xs) = true from hd]; rfl), fun hd => ?_⟩⟩
  have h_loose : (!loose ⟨t, p, sh⟩ xs) = false := hd
  rw [h_loose, cond_false] at key
  rintro r rfl
  refine ⟨hg, fun _ => ⟨fun hd => key (by rw [show (!counts ⟨t, p, sh⟩ xs) = true from hd]; rfl), fun hd => ?_⟩⟩
  have h_counts : (!counts ⟨t, p, sh⟩ xs) = false := hd
  rw [h_counts, cond_false] at key
  rintro r rfl
  refine ⟨hg, fun _ => ⟨fun hd => key (by rw [show (!rootsOk ⟨t, p, sh⟩ xs) = true from hd]; rfl), fun hd => ?_⟩⟩
  have h_rootsOk : (!rootsOk ⟨t, p, sh⟩ xs) = false := hd
  rw [h_rootsOk, cond_false] at key
  exact key rfl
theorem r12_Check_ok : EntryOk Dg Tryz.prog 58 e_r12_Check :=
  ent_wp Dg T_x_roots_ok (I := [2999998]) Tryz.func58 mix (B := bodyOf Tryz.f58) (by kernel_rfl) rfl (by kernel_rfl) 400
    fun p0 t p sh xs hb hp => have hl0 : xs.length ≤ 9223372036854775807 := hb.2.1; have hp0 : bdAll xs := hp _ (.head _); ⟨[], fun j => List.getD [] j (fun _ => False), fun j => List.getD [] j (fun _ => (0, 0, 0)), by kernel_rfl, ⟨r12_Check_w t p sh xs  (fun r__ => r__ = (r12_Check t p sh xs)), fun _ _ _ => by kernel_rfl, r12_Check_begin t p sh xs hp0 hl0 ⟩, trivial⟩
def T_r12_Check : List (Nat × Entry Sg) := (58, e_r12_Check) :: T_x_roots
theorem T_r12_Check_ok : TableOk Dg Tryz.prog T_r12_Check := TableOk.cons Dg r12_Check_ok T_x_roots_ok
def r12_Sound (t : Int) (p : Int) (sh : Int) (xs : List Int) : Bool := soundA ⟨t, p, sh⟩ xs
abbrev c_r12_Sound : Ct Sg := ⟨none, false, [.agg [.i .i64, .i .i64, .i .i64], .ro [some .u32]], .b⟩
def e_r12_Sound : Entry Sg := entC c_r12_Sound r12_Sound (fun t p sh xs => [bdAll xs])
def r12_Sound_w (t : Int) (p : Int) (sh : Int) (xs : List Int) (R_ : Bool → Prop) : Prop := (∀ r1 : Int × Bool, r1 = (r12_Check t p sh xs) → ((bdAll xs) ∧ ((bdAll xs) → (R_ (Prod.snd r1)))))
theorem r12_Sound_begin (t : Int) (p : Int) (sh : Int) (xs : List Int) (hp0 : bdAll xs) (hl0 : xs.length ≤ 9223372036854775807) : r12_Sound_w t p sh xs  (fun r__ => r__ = (r12_Sound t p sh xs)) := by
  unfold r12_Sound_w
  rintro r rfl
  exact ⟨hp0, fun _ => rfl⟩
theorem r12_Sound_ok : EntryOk Dg Tryz.prog 14 e_r12_Sound :=
  ent_wp Dg T_r12_Check_ok (I := [2999998]) Tryz.func14 mix (B := bodyOf Tryz.f14) (by kernel_rfl) rfl (by kernel_rfl) 400
    fun p0 t p sh xs hb hp => have hl0 : xs.length ≤ 9223372036854775807 := hb.2.1; have hp0 : bdAll xs := hp _ (.head _); ⟨[], fun j => List.getD [] j (fun _ => False), fun j => List.getD [] j (fun _ => (0, 0, 0)), by kernel_rfl, ⟨r12_Sound_w t p sh xs  (fun r__ => r__ = (r12_Sound t p sh xs)), fun _ _ _ => by kernel_rfl, r12_Sound_begin t p sh xs hp0 hl0 ⟩, trivial⟩
def T_r12_Sound : List (Nat × Entry Sg) := (14, e_r12_Sound) :: T_r12_Check
theorem T_r12_Sound_ok : TableOk Dg Tryz.prog T_r12_Sound := TableOk.cons Dg r12_Sound_ok T_r12_Check_ok
def r12_Few (t : Int) (p : Int) (sh : Int) : Bool := decide (p ≤ 64)
def r12_Few_v (t : Int) (p : Int) (sh : Int) : Bool := decide (p ≤ (64 : Int))
abbrev c_r12_Few : Ct Sg := ⟨none, false, [.agg [.i .i64, .i .i64, .i .i64]], .b⟩
def e_r12_Few : Entry Sg := entC c_r12_Few r12_Few (fun _ _ _ => [])
theorem r12_Few_eq (t : Int) (p : Int) (sh : Int) : r12_Few_v t p sh = (r12_Few t p sh) := by
  rfl
theorem r12_Few_ok : EntryOk Dg Tryz.prog 13 e_r12_Few :=
  ent_ok Dg T_r12_Sound_ok (I := []) Tryz.func13 mix (B := bodyOf Tryz.f13) (by kernel_rfl) rfl (by kernel_rfl) 400
    fun _ t p sh hb hp => ⟨(r12_Few_v t p sh), .t, fun _ _ _ => by kernel_rfl, trivial, r12_Few_eq t p sh ⟩
def T_r12_Few : List (Nat × Entry Sg) := (13, e_r12_Few) :: T_r12_Sound
theorem T_r12_Few_ok : TableOk Dg Tryz.prog T_r12_Few := TableOk.cons Dg r12_Few_ok T_r12_Sound_ok
def l14_Eight : Int × Int × Int × List Int := ((1 : Int), (8 : Int), (10 : Int), [(8 : Int), (0 : Int), (0 : Int), (0 : Int), (0 : Int), (1 : Int), (0 : Int), (0 : Int), (0 : Int), (0 : Int), (0 : Int), (0 : Int), (0 : Int), (0 : Int), (0 : Int), (0 : Int), (0 : Int), (0 : Int), (0 : Int), (0 : Int), (0 : Int), (0 : Int), (0 : Int), (0 : Int), (0 : Int), (0 : Int), (0 : Int), (0 : Int), (0 : Int), (0 : Int), (0 : Int), (0 : Int), (0 : Int), (0 : Int), (129 : Int), (0 : Int), (0 : Int), (0 : Int), (0 : Int), (0 : Int), (0 : Int), (0 : Int), (0 : Int), (0 : Int), (0 : Int), (0 : Int), (0 : Int), (0 : Int), (0 : Int), (0 : Int), (0 : Int), (0 : Int), (0 : Int), (0 : Int), (0 : Int), (0 : Int), (0 : Int), (0 : Int), (0 : Int), (0 : Int), (0 : Int), (0 : Int), (0 : Int), (0 : Int), (0 : Int), (0 : Int), (0 : Int), (0 : Int), (0 : Int), (0 : Int), (0 : Int), (0 : Int), (0 : Int), (0 : Int), (0 : Int), (0 : Int), (0 : Int), (1 : Int), (0 : Int), (0 : Int), (0 : Int), (0 : Int)])
abbrev c_l14_Eight : Ct Sg := ⟨none, false, [], .tup [.agg [.i .i64, .i .i64, .i .i64], .new 51 [some .u32]]⟩
def e_l14_Eight : Entry Sg := entC c_l14_Eight l14_Eight ([])
theorem l14_Eight_ok : EntryOk Dg Tryz.prog 59 e_l14_Eight :=
  ent_ok Dg T_r12_Few_ok (I := []) Tryz.func59 mix (B := bodyOf Tryz.f59) (by kernel_rfl) rfl (by kernel_rfl) 400
    fun _  hb hp => ⟨l14_Eight, (.need ((0 : Int) ≤ (82 : Int) ∧ (82 : Int) ≤ (82 : Int) ∧ (328 : Int) ≤ (140737488355328 : Int)) (.need ((0 : Int) ≤ (0 : Int) ∧ (0 : Int) < (82 : Int)) (.need ((0 : Int) ≤ (5 : Int) ∧ (5 : Int) < (82 : Int)) (.need ((0 : Int) ≤ (34 : Int) ∧ (34 : Int) < (82 : Int)) (.need ((0 : Int) ≤ (77 : Int) ∧ (77 : Int) < (82 : Int)) .t))))), fun _ _ _ => by kernel_rfl, ⟨(by first | omega | decide), fun z1 => ⟨(by first | omega | decide), fun z3 => ⟨(by first | omega | decide), fun z4 => ⟨(by first | omega | decide), fun z5 => ⟨(by first | omega | decide), fun z6 => trivial⟩⟩⟩⟩⟩, rfl⟩
def T_l14_Eight : List (Nat × Entry Sg) := (59, e_l14_Eight) :: T_r12_Few
theorem T_l14_Eight_ok : TableOk Dg Tryz.prog T_l14_Eight := TableOk.cons Dg l14_Eight_ok T_r12_Few_ok
end Go.Proofs.YtajlaibfcigdkaaGreat
namespace Go.Proofs.YtajlaibfcigdkaaGreat
open Go.Sl
def sp_used (s : VS) (t : Int) (p : Int) (h : Int) (g : Int) (n : Int) : VS := (let r1 : VS := VS.set s (place_Info t p h g) (Prod.fst (info_Put (2 : Int) n (0 : Int))); (let r3 : VS := VS.set r1 (place_Foot t p h (IntKind.wrap IntKind.i64 (IntKind.wrap IntKind.i64 (g + n) - (1 : Int)))) (IntKind.wrap IntKind.u32 (IntKind.wrap IntKind.i64 (g + (1 : Int)))); r3))
def sp_used_out (r_ : VS) : List Value → Value := fun ss => undef
def sp_used_nw (p_0 : Addr) (r_ : VS) : List (Chunk Sg) := [.obj p_0 (.view (r_))]
def sp_used_rows (r_ : VS) : List (Mk Sg) := []
section
variable (s : VS) (t : Int) (p : Int) (h : Int) (g : Int) (n : Int) (p_0 : Addr)
theorem sp_used_calls {E_ : World} {G_ : Hp} {w_ : World} (hS : Sat E_ G_ w_ [Dg p_0 ((.view s))]) : Calls Tryz.prog 78 #[(.agg #[.pointer (some p_0), .int .i64 t, .int .i64 p, .int .i64 h]), (.int .i64 g), (.int .i64 n)] w_ (Post Dg E_ G_ (sp_used_out (sp_used s t p h g n)) (sp_used_nw p_0 (sp_used s t p h g n)) (sp_used_rows (sp_used s t p h g n))) :=
  calls_post Dg T_l14_Eight_ok (I := []) Tryz.func78 mix (B := bodyOf Tryz.f78) (by kernel_rfl) [(.agg #[.pointer (some p_0), .int .i64 t, .int .i64 p, .int .i64 h]), (.int .i64 g), (.int .i64 n)] [.many [.pt 0 .obj, .no, .no, .no], .no, .no] (by kernel_rfl) (objs := [.obj p_0 (.view s)]) (ros := []) (psOk_cons (by simp [pOk, psOk, cOk]) (psOk_cons pOk_no (psOk_cons pOk_no (psOk_nil)))) (by kernel_rfl) (trivial) hS 400
    (t := Tree.fresh fun b => Tree.bind (VS.set s (place_Info t p h g) (Prod.fst (info_Put (2 : Int) n (0 : Int)))) fun a => Tree.need (bd32 (Prod.fst (info_Put (2 : Int) n (0 : Int)))) (Tree.bind (VS.set a (place_Foot t p h (IntKind.wrap IntKind.i64 (IntKind.wrap IntKind.i64 (g + n) - (1 : Int)))) (IntKind.wrap IntKind.u32 (IntKind.wrap IntKind.i64 (g + (1 : Int))))) fun a_1 => Tree.need (bd32 (IntKind.wrap IntKind.u32 (IntKind.wrap IntKind.i64 (g + (1 : Int))))) (Tree.ret (Value.tuple { toList := [] }) pn_ [Chunk.obj p_0 (Option.getD (some (Sg.view a_1)) (Option.getD (some (Sg.view a)) (Sg.view s))), kc_ b 108 [(Value.pointer (some p_0), po_ 0), (vi_ t, pn_), (vi_ p, pn_), (vi_ h, pn_)]])))
    (by kernel_rfl)
    (fun b0_0 => fun r1 e1 => ⟨by first | exact wu32_bd _ | exact VS.get_bd _ _ | exact zero_bd | (rw [info_Put_val]; exact iVal_bd _ _ _) | (subst_vars; exact VS.get_bd _ _) | omega, fun y2 => fun r3 e3 => ⟨by first | exact wu32_bd _ | exact VS.get_bd _ _ | exact zero_bd | (rw [info_Put_val]; exact iVal_bd _ _ _) | (subst_vars; exact VS.get_bd _ _) | omega, fun y4 => RetOk.at (outf := sp_used_out) (nwf := sp_used_nw p_0) (rowsf := sp_used_rows) (r := r3) (by subst e1; subst e3; first | exact Eq.symm rfl | (simp only [sp_used, cond_true, cond_false]; done) | (exfalso; simp_all; done) | decide) ⟨[], [0], (by decide), rfl, rfl, ⟨.inl rfl, trivial⟩⟩⟩⟩)
end
def sp_used_e : Entry Sg := fun
  | [(.agg ⟨[.pointer (some p_0), .int .i64 t, .int .i64 p, .int .i64 h]⟩, .many [.obj (.view s), .none, .none, .none]), (.int .i64 g, _), (.int .i64 n, _)] => some ⟨(sp_used s t p h g n), fun (r_ : VS) => ⟨[], some (.view (r_)), [], fun ss => undef, fun k_ => .no⟩⟩
  | _ => none
theorem sp_used_ok : EntryOk Dg Tryz.prog 78 sp_used_e := by
  intro args c r h hr_
  unfold sp_used_e at h
  split at h
  · injection h with h; subst h; subst hr_
    refine ⟨fun K acs _ => pOk_no, fun hpre E G w hi hS => ?_⟩
    exact entry_post Dg (by exact rfl) (sp_used_calls _ _ _ _ _ _ _  hS)
  · cases h
def T_sp_used : List (Nat × Entry Sg) := (78, sp_used_e) :: T_l14_Eight
theorem T_sp_used_ok : TableOk Dg Tryz.prog T_sp_used := TableOk.cons Dg sp_used_ok T_l14_Eight_ok
def sp_free (s : VS) (t : Int) (p : Int) (h : Int) (g : Int) : VS × Int := (let r1 : Ty (Ct.RK c_place_Info) := place_Info t p h g; (let r2 : VS × Int := (VS.read s r1, VS.get s r1); (let r3 : Ty (Ct.RK c_info_Get) := info_Get (Prod.snd r2); (bif Prod.fst r3 != (1 : Int) then (Prod.fst r2, (0 : Int)) else (Prod.fst r2, Prod.fst (Prod.snd r3))))))
def sp_free_out (r_ : VS × Int) : List Value → Value := fun ss => .int .i64 (r_.2)
def sp_free_nw (p_0 : Addr) (r_ : VS × Int) : List (Chunk Sg) := [.obj p_0 (.view (r_.1))]
def sp_free_rows (r_ : VS × Int) : List (Mk Sg) := []
section
variable (s : VS) (t : Int) (p : Int) (h : Int) (g : Int) (p_0 : Addr)
theorem sp_free_calls {E_ : World} {G_ : Hp} {w_ : World} (hS : Sat E_ G_ w_ [Dg p_0 ((.view s))]) : Calls Tryz.prog 82 #[(.agg #[.pointer (some p_0), .int .i64 t, .int .i64 p, .int .i64 h]), (.int .i64 g)] w_ (Post Dg E_ G_ (sp_free_out (sp_free s t p h g)) (sp_free_nw p_0 (sp_free s t p h g)) (sp_free_rows (sp_free s t p h g))) :=
  calls_post Dg T_sp_used_ok (I := []) Tryz.func82 mix (B := bodyOf Tryz.f82) (by kernel_rfl) [(.agg #[.pointer (some p_0), .int .i64 t, .int .i64 p, .int .i64 h]), (.int .i64 g)] [.many [.pt 0 .obj, .no, .no, .no], .no] (by kernel_rfl) (objs := [.obj p_0 (.view s)]) (ros := []) (psOk_cons (by simp [pOk, psOk, cOk]) (psOk_cons pOk_no (psOk_nil))) (by kernel_rfl) (trivial) hS 400
    (t := Tree.fresh fun b => Tree.two (Tree.bind (place_Info t p h g) fun a => Tree.two (Tree.bind (VS.read s a, VS.get s a) fun a => Tree.two (Tree.bind (info_Get (Prod.snd a)) fun a_1 => Tree.fresh fun b_1 => Tree.br (Prod.fst a_1 != (1 : Int)) (Tree.ret (vi_ (0 : Int)) pn_ [Chunk.obj p_0 (Option.getD (some (Sg.view (Prod.fst a))) (Sg.view s)), kc_ b 108 [(Value.pointer (some p_0), po_ 0), (vi_ t, pn_), (vi_ p, pn_), (vi_ h, pn_)], kc_ b_1 31 [(vi_ (Prod.fst a_1), pn_), (vi_ (Prod.fst (Prod.snd a_1)), pn_), (vi_ (Prod.fst (Prod.snd (Prod.snd a_1))), pn_)]]) (Tree.ret (vi_ (Prod.fst (Prod.snd a_1))) pn_ [Chunk.obj p_0 (Option.getD (some (Sg.view (Prod.fst a))) (Sg.view s)), kc_ b 108 [(Value.pointer (some p_0), po_ 0), (vi_ t, pn_), (vi_ p, pn_), (vi_ h, pn_)], kc_ b_1 31 [(vi_ (Prod.fst a_1), pn_), (vi_ (Prod.fst (Prod.snd a_1)), pn_), (vi_ (Prod.fst (Prod.snd (Prod.snd a_1))), pn_)]])) (Tree.fresh fun b_1 => Tree.bind (info_Get (Prod.snd a)) fun a_1 => Tree.br (Prod.fst a_1 != (1 : Int)) (Tree.ret (vi_ (0 : Int)) pn_ [Chunk.obj p_0 (Option.getD (some (Sg.view (Prod.fst a))) (Sg.view s)), kc_ b 108 [(Value.pointer (some p_0), po_ 0), (vi_ t, pn_), (vi_ p, pn_), (vi_ h, pn_)], kc_ b_1 31 [(vi_ (Prod.fst a_1), pn_), (vi_ (Prod.fst (Prod.snd a_1)), pn_), (vi_ (Prod.fst (Prod.snd (Prod.snd a_1))), pn_)]]) (Tree.ret (vi_ (Prod.fst (Prod.snd a_1))) pn_ [Chunk.obj p_0 (Option.getD (some (Sg.view (Prod.fst a))) (Sg.view s)), kc_ b 108 [(Value.pointer (some p_0), po_ 0), (vi_ t, pn_), (vi_ p, pn_), (vi_ h, pn_)], kc_ b_1 31 [(vi_ (Prod.fst a_1), pn_), (vi_ (Prod.fst (Prod.snd a_1)), pn_), (vi_ (Prod.fst (Prod.snd (Prod.snd a_1))), pn_)]]))) (Tree.fresh fun b_1 => Tree.bind (VS.read s a, VS.get s a) fun a => Tree.bind (info_Get (Prod.snd a)) fun a_1 => Tree.br (Prod.fst a_1 != (1 : Int)) (Tree.ret (vi_ (0 : Int)) pn_ [Chunk.obj p_0 (Option.getD (some (Sg.view (Prod.fst a))) (Sg.view s)), kc_ b 108 [(Value.pointer (some p_0), po_ 0), (vi_ t, pn_), (vi_ p, pn_), (vi_ h, pn_)], kc_ b_1 31 [(vi_ (Prod.fst a_1), pn_), (vi_ (Prod.fst (Prod.snd a_1)), pn_), (vi_ (Prod.fst (Prod.snd (Prod.snd a_1))), pn_)]]) (Tree.ret (vi_ (Prod.fst (Prod.snd a_1))) pn_ [Chunk.obj p_0 (Option.getD (some (Sg.view (Prod.fst a))) (Sg.view s)), kc_ b 108 [(Value.pointer (some p_0), po_ 0), (vi_ t, pn_), (vi_ p, pn_), (vi_ h, pn_)], kc_ b_1 31 [(vi_ (Prod.fst a_1), pn_), (vi_ (Prod.fst (Prod.snd a_1)), pn_), (vi_ (Prod.fst (Prod.snd (Prod.snd a_1))), pn_)]]))) (Tree.fresh fun b_1 => Tree.bind (place_Info t p h g) fun a => Tree.bind (VS.read s a, VS.get s a) fun a => Tree.bind (info_Get (Prod.snd a)) fun a_1 => Tree.br (Prod.fst a_1 != (1 : Int)) (Tree.ret (vi_ (0 : Int)) pn_ [Chunk.obj p_0 (Option.getD (some (Sg.view (Prod.fst a))) (Sg.view s)), kc_ b 108 [(Value.pointer (some p_0), po_ 0), (vi_ t, pn_), (vi_ p, pn_), (vi_ h, pn_)], kc_ b_1 31 [(vi_ (Prod.fst a_1), pn_), (vi_ (Prod.fst (Prod.snd a_1)), pn_), (vi_ (Prod.fst (Prod.snd (Prod.snd a_1))), pn_)]]) (Tree.ret (vi_ (Prod.fst (Prod.snd a_1))) pn_ [Chunk.obj p_0 (Option.getD (some (Sg.view (Prod.fst a))) (Sg.view s)), kc_ b 108 [(Value.pointer (some p_0), po_ 0), (vi_ t, pn_), (vi_ p, pn_), (vi_ h, pn_)], kc_ b_1 31 [(vi_ (Prod.fst a_1), pn_), (vi_ (Prod.fst (Prod.snd a_1)), pn_), (vi_ (Prod.fst (Prod.snd (Prod.snd a_1))), pn_)]])))
    (by kernel_rfl)
    (fun b0_0 => ⟨fun r1 e1 => ⟨fun r2 e2 => ⟨fun r3 e3 => fun b4_0 => ⟨fun z5 => RetOk.at (outf := sp_free_out) (nwf := sp_free_nw p_0) (rowsf := sp_free_rows) (r := (Prod.fst r2, (0 : Int))) (by subst e1; subst e2; subst e3; first | exact Eq.symm ((cT z5).trans rfl) | (simp only [sp_free, z5, cond_true, cond_false]; done) | (exfalso; simp_all; done) | decide) ⟨[], [0], (by decide), rfl, rfl, ⟨.inl rfl, trivial⟩⟩, fun z5 => RetOk.at (outf := sp_free_out) (nwf := sp_free_nw p_0) (rowsf := sp_free_rows) (r := (Prod.fst r2, Prod.fst (Prod.snd r3))) (by subst e1; subst e2; subst e3; first | exact Eq.symm ((cF z5).trans rfl) | (simp only [sp_free, z5, cond_true, cond_false]; done) | (exfalso; simp_all; done) | decide) ⟨[], [0], (by decide), rfl, rfl, ⟨.inl rfl, trivial⟩⟩⟩, fun b3_0 => fun r4 e4 => ⟨fun z5 => RetOk.at (outf := sp_free_out) (nwf := sp_free_nw p_0) (rowsf := sp_free_rows) (r := (Prod.fst r2, (0 : Int))) (by subst e1; subst e2; subst e4; first | exact Eq.symm ((cT z5).trans rfl) | (simp only [sp_free, z5, cond_true, cond_false]; done) | (exfalso; simp_all; done) | decide) ⟨[], [0], (by decide), rfl, rfl, ⟨.inl rfl, trivial⟩⟩, fun z5 => RetOk.at (outf := sp_free_out) (nwf := sp_free_nw p_0) (rowsf := sp_free_rows) (r := (Prod.fst r2, Prod.fst (Prod.snd r4))) (by subst e1; subst e2; subst e4; first | exact Eq.symm ((cF z5).trans rfl) | (simp only [sp_free, z5, cond_true, cond_false]; done) | (exfalso; simp_all; done) | decide) ⟨[], [0], (by decide), rfl, rfl, ⟨.inl rfl, trivial⟩⟩⟩⟩, fun b2_0 => fun r3 e3 => fun r4 e4 => ⟨fun z5 => RetOk.at (outf := sp_free_out) (nwf := sp_free_nw p_0) (rowsf := sp_free_rows) (r := (Prod.fst r3, (0 : Int))) (by subst e1; subst e3; subst e4; first | exact Eq.symm ((cT z5).trans rfl) | (simp only [sp_free, z5, cond_true, cond_false]; done) | (exfalso; simp_all; done) | decide) ⟨[], [0], (by decide), rfl, rfl, ⟨.inl rfl, trivial⟩⟩, fun z5 => RetOk.at (outf := sp_free_out) (nwf := sp_free_nw p_0) (rowsf := sp_free_rows) (r := (Prod.fst r3, Prod.fst (Prod.snd r4))) (by subst e1; subst e3; subst e4; first | exact Eq.symm ((cF z5).trans rfl) | (simp only [sp_free, z5, cond_true, cond_false]; done) | (exfalso; simp_all; done) | decide) ⟨[], [0], (by decide), rfl, rfl, ⟨.inl rfl, trivial⟩⟩⟩⟩, fun b1_0 => fun r2 e2 => fun r3 e3 => fun r4 e4 => ⟨fun z5 => RetOk.at (outf := sp_free_out) (nwf := sp_free_nw p_0) (rowsf := sp_free_rows) (r := (Prod.fst r3, (0 : Int))) (by subst e2; subst e3; subst e4; first | exact Eq.symm ((cT z5).trans rfl) | (simp only [sp_free, z5, cond_true, cond_false]; done) | (exfalso; simp_all; done) | decide) ⟨[], [0], (by decide), rfl, rfl, ⟨.inl rfl, trivial⟩⟩, fun z5 => RetOk.at (outf := sp_free_out) (nwf := sp_free_nw p_0) (rowsf := sp_free_rows) (r := (Prod.fst r3, Prod.fst (Prod.snd r4))) (by subst e2; subst e3; subst e4; first | exact Eq.symm ((cF z5).trans rfl) | (simp only [sp_free, z5, cond_true, cond_false]; done) | (exfalso; simp_all; done) | decide) ⟨[], [0], (by decide), rfl, rfl, ⟨.inl rfl, trivial⟩⟩⟩⟩)
end
def sp_free_e : Entry Sg := fun
  | [(.agg ⟨[.pointer (some p_0), .int .i64 t, .int .i64 p, .int .i64 h]⟩, .many [.obj (.view s), .none, .none, .none]), (.int .i64 g, _)] => some ⟨(sp_free s t p h g), fun (r_ : VS × Int) => ⟨[], some (.view (r_.1)), [], fun ss => .int .i64 (r_.2), fun k_ => .no⟩⟩
  | _ => none
theorem sp_free_ok : EntryOk Dg Tryz.prog 82 sp_free_e := by
  intro args c r h hr_
  unfold sp_free_e at h
  split at h
  · injection h with h; subst h; subst hr_
    refine ⟨fun K acs _ => pOk_no, fun hpre E G w hi hS => ?_⟩
    exact entry_post Dg (by exact rfl) (sp_free_calls _ _ _ _ _ _  hS)
  · cases h
def T_sp_free : List (Nat × Entry Sg) := (82, sp_free_e) :: T_sp_used
theorem T_sp_free_ok : TableOk Dg Tryz.prog T_sp_free := TableOk.cons Dg sp_free_ok T_sp_used_ok
def sp_count (s : VS) (t : Int) (p : Int) (h : Int) (n : Int) : VS := (let r1 : VS × Int := (VS.read s (0 : Int), VS.get s (0 : Int)); (let r2 : VS := VS.set (Prod.fst r1) (0 : Int) (IntKind.wrap IntKind.u32 (Prod.snd r1 + IntKind.wrap IntKind.u32 n)); r2))
def sp_count_out (r_ : VS) : List Value → Value := fun ss => undef
def sp_count_nw (p_0 : Addr) (r_ : VS) : List (Chunk Sg) := [.obj p_0 (.view (r_))]
def sp_count_rows (r_ : VS) : List (Mk Sg) := []
section
variable (s : VS) (t : Int) (p : Int) (h : Int) (n : Int) (p_0 : Addr)
theorem sp_count_calls {E_ : World} {G_ : Hp} {w_ : World} (hS : Sat E_ G_ w_ [Dg p_0 ((.view s))]) : Calls Tryz.prog 79 #[(.agg #[.pointer (some p_0), .int .i64 t, .int .i64 p, .int .i64 h]), (.int .i64 n)] w_ (Post Dg E_ G_ (sp_count_out (sp_count s t p h n)) (sp_count_nw p_0 (sp_count s t p h n)) (sp_count_rows (sp_count s t p h n))) :=
  calls_post Dg T_sp_free_ok (I := []) Tryz.func79 mix (B := bodyOf Tryz.f79) (by kernel_rfl) [(.agg #[.pointer (some p_0), .int .i64 t, .int .i64 p, .int .i64 h]), (.int .i64 n)] [.many [.pt 0 .obj, .no, .no, .no], .no] (by kernel_rfl) (objs := [.obj p_0 (.view s)]) (ros := []) (psOk_cons (by simp [pOk, psOk, cOk]) (psOk_cons pOk_no (psOk_nil))) (by kernel_rfl) (trivial) hS 400
    (t := Tree.fresh fun b => Tree.bind (VS.read s (0 : Int), VS.get s (0 : Int)) fun a => Tree.bind (VS.set (Prod.fst a) (0 : Int) (IntKind.wrap IntKind.u32 (Prod.snd a + IntKind.wrap IntKind.u32 n))) fun a_1 => Tree.need (bd32 (IntKind.wrap IntKind.u32 (Prod.snd a + IntKind.wrap IntKind.u32 n))) (Tree.ret (Value.tuple { toList := [] }) pn_ [Chunk.obj p_0 (Option.getD (some (Sg.view a_1)) (Option.getD (some (Sg.view (Prod.fst a))) (Sg.view s))), kc_ b 108 [(Value.pointer (some p_0), po_ 0), (vi_ t, pn_), (vi_ p, pn_), (vi_ h, pn_)]]))
    (by kernel_rfl)
    (fun b0_0 => fun r1 e1 => fun r2 e2 => ⟨by first | exact wu32_bd _ | exact VS.get_bd _ _ | exact zero_bd | (rw [info_Put_val]; exact iVal_bd _ _ _) | (subst_vars; exact VS.get_bd _ _) | omega, fun y3 => RetOk.at (outf := sp_count_out) (nwf := sp_count_nw p_0) (rowsf := sp_count_rows) (r := r2) (by subst e1; subst e2; first | exact Eq.symm rfl | (simp only [sp_count, cond_true, cond_false]; done) | (exfalso; simp_all; done) | decide) ⟨[], [0], (by decide), rfl, rfl, ⟨.inl rfl, trivial⟩⟩⟩)
end
def sp_count_e : Entry Sg := fun
  | [(.agg ⟨[.pointer (some p_0), .int .i64 t, .int .i64 p, .int .i64 h]⟩, .many [.obj (.view s), .none, .none, .none]), (.int .i64 n, _)] => some ⟨(sp_count s t p h n), fun (r_ : VS) => ⟨[], some (.view (r_)), [], fun ss => undef, fun k_ => .no⟩⟩
  | _ => none
theorem sp_count_ok : EntryOk Dg Tryz.prog 79 sp_count_e := by
  intro args c r h hr_
  unfold sp_count_e at h
  split at h
  · injection h with h; subst h; subst hr_
    refine ⟨fun K acs _ => pOk_no, fun hpre E G w hi hS => ?_⟩
    exact entry_post Dg (by exact rfl) (sp_count_calls _ _ _ _ _ _  hS)
  · cases h
def T_sp_count : List (Nat × Entry Sg) := (79, sp_count_e) :: T_sp_free
theorem T_sp_count_ok : TableOk Dg Tryz.prog T_sp_count := TableOk.cons Dg sp_count_ok T_sp_free_ok
def sp_join (s : VS) (t : Int) (p : Int) (h : Int) (g : Int) (b : Int) : VS × Int := (let r1 : Ty (Ct.RK c_bin_Drop) := bin_Drop s t p h g; (let r2 : VS := VS.set (Prod.fst r1) (place_Info t p h b) (0 : Int); (let r4 : VS := VS.set r2 (place_Foot t p h (IntKind.wrap IntKind.i64 (b - (1 : Int)))) (0 : Int); (r4, Prod.snd r1))))
def sp_join_out (r_ : VS × Int) : List Value → Value := fun ss => .int .i64 (r_.2)
def sp_join_nw (p_0 : Addr) (r_ : VS × Int) : List (Chunk Sg) := [.obj p_0 (.view (r_.1))]
def sp_join_rows (r_ : VS × Int) : List (Mk Sg) := []
section
variable (s : VS) (t : Int) (p : Int) (h : Int) (g : Int) (b : Int) (p_0 : Addr)
theorem sp_join_calls {E_ : World} {G_ : Hp} {w_ : World} (hS : Sat E_ G_ w_ [Dg p_0 ((.view s))]) : Calls Tryz.prog 83 #[(.agg #[.pointer (some p_0), .int .i64 t, .int .i64 p, .int .i64 h]), (.int .i64 g), (.int .i64 b)] w_ (Post Dg E_ G_ (sp_join_out (sp_join s t p h g b)) (sp_join_nw p_0 (sp_join s t p h g b)) (sp_join_rows (sp_join s t p h g b))) :=
  calls_post Dg T_sp_count_ok (I := []) Tryz.func83 mix (B := bodyOf Tryz.f83) (by kernel_rfl) [(.agg #[.pointer (some p_0), .int .i64 t, .int .i64 p, .int .i64 h]), (.int .i64 g), (.int .i64 b)] [.many [.pt 0 .obj, .no, .no, .no], .no, .no] (by kernel_rfl) (objs := [.obj p_0 (.view s)]) (ros := []) (psOk_cons (by simp [pOk, psOk, cOk]) (psOk_cons pOk_no (psOk_cons pOk_no (psOk_nil)))) (by kernel_rfl) (trivial) hS 400
    (t := Tree.fresh fun b_1 => Tree.bind (bin_Drop s t p h g) fun a => Tree.bind (VS.set (Prod.fst a) (place_Info t p h b) (0 : Int)) fun a_1 => Tree.need (bd32 (0 : Int)) (Tree.bind (VS.set a_1 (place_Foot t p h (IntKind.wrap IntKind.i64 (b - (1 : Int)))) (0 : Int)) fun a_2 => Tree.need (bd32 (0 : Int)) (Tree.ret (vi_ (Prod.snd a)) pn_ [Chunk.obj p_0 (Option.getD (some (Sg.view a_2)) (Option.getD (some (Sg.view a_1)) (Option.getD (some (Wr.inj wView (Prod.fst a))) (Sg.view s)))), kc_ b_1 108 [(Value.pointer (some p_0), po_ 0), (vi_ t, pn_), (vi_ p, pn_), (vi_ h, pn_)]])))
    (by kernel_rfl)
    (fun b0_0 => fun r1 e1 => fun r2 e2 => ⟨by first | exact wu32_bd _ | exact VS.get_bd _ _ | exact zero_bd | (rw [info_Put_val]; exact iVal_bd _ _ _) | (subst_vars; exact VS.get_bd _ _) | omega, fun y3 => fun r4 e4 => ⟨by first | exact wu32_bd _ | exact VS.get_bd _ _ | exact zero_bd | (rw [info_Put_val]; exact iVal_bd _ _ _) | (subst_vars; exact VS.get_bd _ _) | omega, fun y5 => RetOk.at (outf := sp_join_out) (nwf := sp_join_nw p_0) (rowsf := sp_join_rows) (r := (r4, Prod.snd r1)) (by subst e1; subst e2; subst e4; first | exact Eq.symm rfl | (simp only [sp_join, cond_true, cond_false]; done) | (exfalso; simp_all; done) | decide) ⟨[], [0], (by decide), rfl, rfl, ⟨.inl rfl, trivial⟩⟩⟩⟩)
end
def sp_join_e : Entry Sg := fun
  | [(.agg ⟨[.pointer (some p_0), .int .i64 t, .int .i64 p, .int .i64 h]⟩, .many [.obj (.view s), .none, .none, .none]), (.int .i64 g, _), (.int .i64 b, _)] => some ⟨(sp_join s t p h g b), fun (r_ : VS × Int) => ⟨[], some (.view (r_.1)), [], fun ss => .int .i64 (r_.2), fun k_ => .no⟩⟩
  | _ => none
theorem sp_join_ok : EntryOk Dg Tryz.prog 83 sp_join_e := by
  intro args c r h hr_
  unfold sp_join_e at h
  split at h
  · injection h with h; subst h; subst hr_
    refine ⟨fun K acs _ => pOk_no, fun hpre E G w hi hS => ?_⟩
    exact entry_post Dg (by exact rfl) (sp_join_calls _ _ _ _ _ _ _  hS)
  · cases h
def T_sp_join : List (Nat × Entry Sg) := (83, sp_join_e) :: T_sp_count
theorem T_sp_join_ok : TableOk Dg Tryz.prog T_sp_join := TableOk.cons Dg sp_join_ok T_sp_count_ok
def sp_ahead (s : VS) (t : Int) (p : Int) (h : Int) (g : Int) : VS × Int := (bif g == (0 : Int) then (s, (-1 : Int)) else (let r2 : VS × Int := (VS.read s (place_Foot t p h (IntKind.wrap IntKind.i64 (g - (1 : Int)))), VS.get s (place_Foot t p h (IntKind.wrap IntKind.i64 (g - (1 : Int))))); (Prod.fst r2, IntKind.wrap IntKind.i64 (IntKind.wrap IntKind.i64 (Prod.snd r2) - (1 : Int)))))
def sp_ahead_out (r_ : VS × Int) : List Value → Value := fun ss => .int .i64 (r_.2)
def sp_ahead_nw (p_0 : Addr) (r_ : VS × Int) : List (Chunk Sg) := [.obj p_0 (.view (r_.1))]
def sp_ahead_rows (r_ : VS × Int) : List (Mk Sg) := []
section
variable (s : VS) (t : Int) (p : Int) (h : Int) (g : Int) (p_0 : Addr)
theorem sp_ahead_calls {E_ : World} {G_ : Hp} {w_ : World} (hS : Sat E_ G_ w_ [Dg p_0 ((.view s))]) : Calls Tryz.prog 81 #[(.agg #[.pointer (some p_0), .int .i64 t, .int .i64 p, .int .i64 h]), (.int .i64 g)] w_ (Post Dg E_ G_ (sp_ahead_out (sp_ahead s t p h g)) (sp_ahead_nw p_0 (sp_ahead s t p h g)) (sp_ahead_rows (sp_ahead s t p h g))) :=
  calls_post Dg T_sp_join_ok (I := []) Tryz.func81 mix (B := bodyOf Tryz.f81) (by kernel_rfl) [(.agg #[.pointer (some p_0), .int .i64 t, .int .i64 p, .int .i64 h]), (.int .i64 g)] [.many [.pt 0 .obj, .no, .no, .no], .no] (by kernel_rfl) (objs := [.obj p_0 (.view s)]) (ros := []) (psOk_cons (by simp [pOk, psOk, cOk]) (psOk_cons pOk_no (psOk_nil))) (by kernel_rfl) (trivial) hS 400
    (t := Tree.fresh fun b => Tree.br (g == (0 : Int)) (Tree.ret (vi_ (-1 : Int)) pn_ [Chunk.obj p_0 (Sg.view s), kc_ b 108 [(Value.pointer (some p_0), po_ 0), (vi_ t, pn_), (vi_ p, pn_), (vi_ h, pn_)]]) (Tree.bind (VS.read s (place_Foot t p h (IntKind.wrap IntKind.i64 (g - (1 : Int)))), VS.get s (place_Foot t p h (IntKind.wrap IntKind.i64 (g - (1 : Int))))) fun a => Tree.ret (vi_ (IntKind.wrap IntKind.i64 (IntKind.wrap IntKind.i64 (Prod.snd a) - (1 : Int)))) pn_ [Chunk.obj p_0 (Option.getD (some (Sg.view (Prod.fst a))) (Sg.view s)), kc_ b 108 [(Value.pointer (some p_0), po_ 0), (vi_ t, pn_), (vi_ p, pn_), (vi_ h, pn_)]]))
    (by kernel_rfl)
    (fun b0_0 => ⟨fun z1 => RetOk.at (outf := sp_ahead_out) (nwf := sp_ahead_nw p_0) (rowsf := sp_ahead_rows) (r := (s, (-1 : Int))) (by first | exact Eq.symm ((cT z1).trans rfl) | (simp only [sp_ahead, z1, cond_true, cond_false]; done) | (exfalso; simp_all; done) | decide) ⟨[], [0], (by decide), rfl, rfl, ⟨.inl rfl, trivial⟩⟩, fun z1 => fun r2 e2 => RetOk.at (outf := sp_ahead_out) (nwf := sp_ahead_nw p_0) (rowsf := sp_ahead_rows) (r := (Prod.fst r2, IntKind.wrap IntKind.i64 (IntKind.wrap IntKind.i64 (Prod.snd r2) - (1 : Int)))) (by subst e2; first | exact Eq.symm ((cF z1).trans rfl) | (simp only [sp_ahead, z1, cond_true, cond_false]; done) | (exfalso; simp_all; done) | decide) ⟨[], [0], (by decide), rfl, rfl, ⟨.inl rfl, trivial⟩⟩⟩)
end
def sp_ahead_e : Entry Sg := fun
  | [(.agg ⟨[.pointer (some p_0), .int .i64 t, .int .i64 p, .int .i64 h]⟩, .many [.obj (.view s), .none, .none, .none]), (.int .i64 g, _)] => some ⟨(sp_ahead s t p h g), fun (r_ : VS × Int) => ⟨[], some (.view (r_.1)), [], fun ss => .int .i64 (r_.2), fun k_ => .no⟩⟩
  | _ => none
theorem sp_ahead_ok : EntryOk Dg Tryz.prog 81 sp_ahead_e := by
  intro args c r h hr_
  unfold sp_ahead_e at h
  split at h
  · injection h with h; subst h; subst hr_
    refine ⟨fun K acs _ => pOk_no, fun hpre E G w hi hS => ?_⟩
    exact entry_post Dg (by exact rfl) (sp_ahead_calls _ _ _ _ _ _  hS)
  · cases h
def T_sp_ahead : List (Nat × Entry Sg) := (81, sp_ahead_e) :: T_sp_join
theorem T_sp_ahead_ok : TableOk Dg Tryz.prog T_sp_ahead := TableOk.cons Dg sp_ahead_ok T_sp_join_ok
end Go.Proofs.YtajlaibfcigdkaaGreat
namespace Go.Sl
abbrev wI (x : Int) : Int := IntKind.wrap IntKind.i64 x
section
variable (c : Cf)
def qUsed (p n : Int) : Pg Unit := .put (c.info p) (iVal 2 n 0) <| .put (c.foot (wI (wI (p + n) - 1))) (nv (p + 1)) (.ret ())
def qJoin (p b : Int) : Pg Int := (pDrop c p).bind fun l => .put (c.info b) 0 <| .put (c.foot (wI (b - 1))) 0 (.ret l)
def qTake (n : Int) : Pg (Int × Bool) :=
  (pFind c n).bind fun r => bif r.2 then
    (pDrop c r.1).bind fun l => (qUsed c r.1 n).bind fun _ =>
      (bif decide (n < l) then pAdd c (wI (r.1 + n)) (wI (l - n)) else .ret ()).bind fun _ => (pCount (-n)).bind fun _ => .ret (r.1, true)
  else .ret (0, false)
def qAhead (p n : Int) : Pg (Int × Int) :=
  bif p == 0 then .ret (p, n) else .get (c.foot (wI (p - 1))) fun f =>
    (pFree c (f - 1)).bind fun l => bif decide (0 < l) then (qJoin c (f - 1) p).bind fun m => .ret (f - 1, wI (n + m)) else .ret (p, n)
def qNext (r : Int) (a : Int × Int) : Pg (Int × Int) :=
  bif decide (r < c.p) then (pFree c r).bind fun l => bif decide (0 < l) then (qJoin c r r).bind fun m => .ret (a.1, wI (a.2 + m)) else .ret a else .ret a
def qRelease (p n : Int) : Pg Unit :=
  (qAhead c p n).bind fun a => (qNext c (wI (p + n)) a).bind fun a => (pAdd c a.1 a.2).bind fun _ => pCount n
def qShrink (p n m : Int) : Pg Unit := (qUsed c p m).bind fun _ => qRelease c (wI (p + m)) (wI (n - m))
def qGrow (p n m : Int) : Pg Bool :=
  bif decide (c.p ≤ wI (p + n)) then .ret false else
    (pFree c (wI (p + n))).bind fun l => bif l == 0 || decide (l < wI (m - n)) then .ret false else
      (qJoin c (wI (p + n)) (wI (p + n))).bind fun _ => (qUsed c p m).bind fun _ =>
        (bif decide (wI (m - n) < l) then pAdd c (wI (p + m)) (wI (l - wI (m - n))) else .ret ()).bind fun _ => (pCount (-wI (m - n))).bind fun _ => .ret true
def pLen (p : Int) : Pg Int := .get (c.info p) fun v => .ret (iGet v).l
def qLAlloc (n : Int) : Pg (Int × Bool) := (qTake c n).bind fun r => bif r.2 then .get 1 fun v => .put 1 (nv (v + 1)) (.ret (r.1, true)) else .ret (0, false)
def qLFree (p : Int) : Pg Unit := (pLen c p).bind fun n => (qRelease c p n).bind fun _ => .get 1 fun v => .put 1 (nv (v - 1)) (.ret ())
def qLResize (p m : Int) : Pg Bool := (pLen c p).bind fun n =>
  bif decide (m < 1) || decide (c.p < m) then .ret false else bif decide (n < m) then qGrow c p n m else bif decide (m < n) then (qShrink c p n m).bind fun _ => .ret true else .ret true
theorem qTake_no (n : Int) (s : VS) (h : ((qTake c n).run s).2.2 = false) : ((qTake c n).run s).2.1 = 0 := by
  unfold qTake at h ⊢
  rw [Pg.run_bind] at h ⊢
  cases hb : ((pFind c n).run s).2.2 with
  | false => simp only [hb, cond_false, Pg.run_ret]
  | true =>
    simp only [hb, cond_true, Pg.run_bind, Pg.run_ret] at h
    cases h
end
theorem get_out1 (s : VS) {i : Int} (h : i < 0) : s.get i = 0 ∧ s.read i = s := by
  have : s.there i = false := by
    simp only [VS.there, Bool.and_eq_false_iff, decide_eq_false_iff_not]
    omega
  unfold VS.get VS.read
  rw [this]
  exact ⟨rfl, rfl⟩
end Go.Sl
namespace Go.Proofs.YtajlaibfcigdkaaGreat
open Go.Sl
theorem nvadd (x y : Int) : nv (x + nv y) = nv (x + y) := by unfold nv; omega
theorem nvsub (x y : Int) : nv (x - nv y) = nv (x + -y) := by unfold nv; omega
theorem nvwi0 (y : Int) : nv (IntKind.wrap IntKind.i64 y) = nv y := by rw [IntKind.wrap_i64]; unfold nv; omega
theorem nvaddw (x y : Int) : nv (x + IntKind.wrap IntKind.i64 y) = nv (x + y) := by rw [IntKind.wrap_i64]; unfold nv; omega
theorem dpos (v : Int) : decide (0 < bif (iGet v).k == 1 then (iGet v).l else 0) = ((iGet v).k == 1) := by
  have hi := iGet_cases v
  cases hk : (iGet v).k == 1 with
  | false => rfl
  | true =>
    simp only [beq_iff_eq] at hk
    simp only [cond_true, decide_eq_true_eq]; omega
theorem spFree_eq (s : VS) (t p h g : Int) : sp_free s t p h g = (pFree ⟨t, p, h⟩ g).run s := by
  simp only [sp_free, pFree, Pg.run_get, Pg.run_ret, place_Info_eq, infoG1, infoG2, bne]
  cases (iGet (s.get (Cf.info ⟨t, p, h⟩ g))).k == 1 <;> rfl
theorem dposr (c : Cf) (g : Int) (s : VS) : decide (0 < ((pFree c g).run s).2) = ((iGet (s.get (c.info g))).k == 1) := dpos _
theorem pFreeR (c : Cf) (g : Int) (s : VS) : (pFree c g).run s = (s.read (c.info g), bif (iGet (s.get (c.info g))).k == 1 then (iGet (s.get (c.info g))).l else 0) := rfl
theorem nvnegw (x y : Int) : nv (x + -IntKind.wrap IntKind.i64 y) = nv (x + -y) := by rw [IntKind.wrap_i64]; unfold nv; omega
theorem dz0 : decide ((0 : Int) < 0) = false := rfl
theorem growcr (c : Cf) (g w : Int) (s : VS) : (((pFree c g).run s).2 == 0 || decide (((pFree c g).run s).2 < w)) = (!((iGet (s.get (c.info g))).k == 1) || decide ((iGet (s.get (c.info g))).l < w)) := by
  rw [pFreeR]
  have hi := iGet_cases (s.get (c.info g))
  cases hk : (iGet (s.get (c.info g))).k == 1 with
  | false => rfl
  | true =>
    simp only [beq_iff_eq] at hk
    have e : ((iGet (s.get (c.info g))).l == 0) = false := by simp only [beq_eq_false_iff_ne, ne_eq]; omega
    simp only [cond_true, e, Bool.not_true, Bool.false_or]
theorem growdr {c : Cf} {g w : Int} {s : VS} (hk : ((iGet (s.get (c.info g))).k == 1) = true) : decide (w < ((pFree c g).run s).2) = decide (w < (iGet (s.get (c.info g))).l) := by
  rw [pFreeR]; simp only [hk, cond_true]
theorem dge1 (x : Int) : decide (0 ≤ x - 1) = decide (1 ≤ x) := decide_eq_decide.2 (by omega)
theorem dneg : decide ((0 : Int) ≤ -1) = false := rfl
theorem get_fb (s : VS) (i : Int) : IntKind.wrap IntKind.i64 (s.get i) = s.get i := w64g s i
theorem get_fb1 (s : VS) (i : Int) : IntKind.wrap IntKind.i64 (s.get i - 1) = s.get i - 1 := w64g1 s i
def span_Take (s : VS) (t : Int) (p : Int) (h : Int) (n : Int) : VS × Int × Bool := (qTake ⟨t, p, h⟩ n).run s
abbrev c_span_Take : Ct Sg := ⟨some wView, false, [.agg [.i .i64, .i .i64, .i .i64], .i .i64], .tup [.i .i64, .b]⟩
def e_span_Take : Entry Sg := entC c_span_Take span_Take (fun s t p h n => [p ≤ 1024])
def span_Take_w (s : VS) (t : Int) (p : Int) (h : Int) (n : Int) (R_ : VS × Int × Bool → Prop) : Prop := (∀ r2 : VS × Int × Bool, r2 = (bin_Find s t p h n) → ((p ≤ (9223372036854775807 : Int)) ∧ ((p ≤ (9223372036854775807 : Int)) → (((!Prod.snd (Prod.snd r2)) = true → (R_ ((Prod.fst r2, (0 : Int), false)))) ∧ ((!Prod.snd (Prod.snd r2)) = false → (∀ r5 : VS × Int, r5 = (bin_Drop (Prod.fst r2) t p h (Prod.fst (Prod.snd r2))) → (∀ r6 : VS, r6 = (sp_used (Prod.fst r5) t p h (Prod.fst (Prod.snd r2)) n) → (((decide (Prod.snd r5 > n)) = true → (∀ r8 : VS, r8 = (bin_Add r6 t p h (IntKind.wrap IntKind.i64 (Prod.fst (Prod.snd r2) + n)) (IntKind.wrap IntKind.i64 (Prod.snd r5 - n))) → ((p ≤ (1024 : Int)) ∧ ((p ≤ (1024 : Int)) → (∀ r10 : VS, r10 = (sp_count r8 t p h (IntKind.wrap IntKind.i64 ((0 : Int) - n))) → (R_ ((r10, Prod.fst (Prod.snd r2), true)))))))) ∧ ((decide (Prod.snd r5 > n)) = false → (∀ r8 : VS, r8 = (sp_count r6 t p h (IntKind.wrap IntKind.i64 ((0 : Int) - n))) → (R_ ((r8, Prod.fst (Prod.snd r2), true)))))))))))))
theorem span_Take_begin (s : VS) (t : Int) (p : Int) (h : Int) (n : Int) (hp0 : p ≤ 1024) : span_Take_w s t p h n  (fun r__ => r__ = (span_Take s t p h n)) := by
  unfold span_Take_w
  repeat' first
    | (refine fun r hr => ?_; subst hr)
    | refine ⟨(by first | exact wu32_bd _ | exact VS.get_bd _ _ | exact zero_bd | exact iVal_bd _ _ _ | exact nv_bd _ | (rw [info_Put_val]; exact iVal_bd _ _ _) | (rw [r09_Value_eq]; exact iVal_bd _ _ _) | assumption | omega), fun _ => ?_⟩
    | refine ⟨fun hc => ?_, fun hc => ?_⟩
    | fail
  all_goals
    simp only [link_page_eq, page_ne t p h, link_next, link_prev, place_Next_eq, place_Prev_eq, r07_Next_eq, r07_Prev_eq, link_to, w64g, w64g1, wrapu_nv, nvw, nvw2, bin_page, place_Info_eq, place_Foot_eq, r07_Info_eq, r07_Foot_eq, place_Bin_eq, r07_Bin_eq, info_Put_val, r09_Value_eq, bin_Of, r14_Of, infoG1, infoG2, infoG3, rinfoG1, rinfoG2, rinfoG3, gt_iff_lt, bin_Find, r14_Find, bin_Drop, r14_Drop, bin_Add, r14_Add, sp_used, spFree_eq, sp_count, nvadd, nvsub, nvwi0, nvaddw, nvnegw, Int.zero_sub, get_fb, get_fb1, dge1, dneg, ge_iff_le, bne, Bool.not_eq_true', Bool.not_eq_false', reduceCtorEq] at *
  all_goals
    skip
  all_goals
    simp only [span_Take, qUsed, pCount, qJoin, wI, nvadd, nvsub, nvaddw, nvnegw, qTake, Pg.run_get, Pg.run_put, Pg.run_ret, Pg.run_bind, Pg.run_cond, gt_iff_lt, cond_true, cond_false, *]
  all_goals
    try rfl
theorem span_Take_ok : EntryOk Dg Tryz.prog 25 e_span_Take :=
  ent_wp Dg T_sp_ahead_ok (I := [2999998]) Tryz.func25 mix (B := bodyOf Tryz.f25) (by kernel_rfl) rfl (by kernel_rfl) 400
    fun p0 s t p h n hb hp => have hp0 : p ≤ 1024 := hp _ (.head _); ⟨[], fun j => List.getD [] j (fun _ => False), fun j => List.getD [] j (fun _ => (0, 0, 0)), by kernel_rfl, ⟨span_Take_w s t p h n  (fun r__ => r__ = (span_Take s t p h n)), fun _ _ _ => by kernel_rfl, span_Take_begin s t p h n hp0 ⟩, trivial⟩
def T_span_Take : List (Nat × Entry Sg) := (25, e_span_Take) :: T_sp_ahead
theorem T_span_Take_ok : TableOk Dg Tryz.prog T_span_Take := TableOk.cons Dg span_Take_ok T_sp_ahead_ok
def span_Release (s : VS) (t : Int) (p : Int) (h : Int) (g : Int) (n : Int) : VS := ((qRelease ⟨t, p, h⟩ g n).run s).1
abbrev c_span_Release : Ct Sg := ⟨some wView, false, [.agg [.i .i64, .i .i64, .i .i64], .i .i64, .i .i64], .skip⟩
def e_span_Release : Entry Sg := entC c_span_Release span_Release (fun s t p h g n => [p ≤ 1024, 0 ≤ g])
def span_Release_w (s : VS) (t : Int) (p : Int) (h : Int) (g : Int) (n : Int) (R_ : VS → Prop) : Prop := (∀ r3 : VS × Int, r3 = (sp_ahead s t p h g) → (((decide (Prod.snd r3 ≥ (0 : Int))) = true → (∀ r5 : VS × Int, r5 = (sp_free (Prod.fst r3) t p h (Prod.snd r3)) → (((decide (Prod.snd r5 > (0 : Int))) = true → (∀ r7 : VS × Int, r7 = ((VS.set (VS.set (Prod.fst (bin_Drop (Prod.fst r5) t p h (Prod.snd r3))) (place_Info t p h g) (0 : Int)) (place_Foot t p h (IntKind.wrap IntKind.i64 (g - (1 : Int)))) (0 : Int), Prod.snd (bin_Drop (Prod.fst r5) t p h (Prod.snd r3)))) → (((decide (IntKind.wrap IntKind.i64 (g + n) < p)) = true → (∀ r9 : VS × Int, r9 = (sp_free (Prod.fst r7) t p h (IntKind.wrap IntKind.i64 (g + n))) → (((decide (Prod.snd r9 > (0 : Int))) = true → (∀ r11 : VS × Int, r11 = ((VS.set (VS.set (Prod.fst (bin_Drop (Prod.fst r9) t p h (IntKind.wrap IntKind.i64 (g + n)))) (place_Info t p h (IntKind.wrap IntKind.i64 (g + n))) (0 : Int)) (place_Foot t p h (IntKind.wrap IntKind.i64 (IntKind.wrap IntKind.i64 (g + n) - (1 : Int)))) (0 : Int), Prod.snd (bin_Drop (Prod.fst r9) t p h (IntKind.wrap IntKind.i64 (g + n))))) → (∀ r12 : VS, r12 = (bin_Add (Prod.fst r11) t p h (Prod.snd r3) (IntKind.wrap IntKind.i64 (IntKind.wrap IntKind.i64 (n + Prod.snd r7) + Prod.snd r11))) → ((p ≤ (1024 : Int)) ∧ ((p ≤ (1024 : Int)) → (∀ r14 : VS, r14 = (sp_count r12 t p h n) → (R_ (r14)))))))) ∧ ((decide (Prod.snd r9 > (0 : Int))) = false → (∀ r11 : VS, r11 = (bin_Add (Prod.fst r9) t p h (Prod.snd r3) (IntKind.wrap IntKind.i64 (n + Prod.snd r7))) → ((p ≤ (1024 : Int)) ∧ ((p ≤ (1024 : Int)) → (∀ r13 : VS, r13 = (sp_count r11 t p h n) → (R_ (r13)))))))))) ∧ ((decide (IntKind.wrap IntKind.i64 (g + n) < p)) = false → (∀ r9 : VS, r9 = (bin_Add (Prod.fst r7) t p h (Prod.snd r3) (IntKind.wrap IntKind.i64 (n + Prod.snd r7))) → ((p ≤ (1024 : Int)) ∧ ((p ≤ (1024 : Int)) → (∀ r11 : VS, r11 = (sp_count r9 t p h n) → (R_ (r11)))))))))) ∧ ((decide (Prod.snd r5 > (0 : Int))) = false → (((decide (IntKind.wrap IntKind.i64 (g + n) < p)) = true → (∀ r8 : VS × Int, r8 = (sp_free (Prod.fst r5) t p h (IntKind.wrap IntKind.i64 (g + n))) → (((decide (Prod.snd r8 > (0 : Int))) = true → (∀ r10 : VS × Int, r10 = ((VS.set (VS.set (Prod.fst (bin_Drop (Prod.fst r8) t p h (IntKind.wrap IntKind.i64 (g + n)))) (place_Info t p h (IntKind.wrap IntKind.i64 (g + n))) (0 : Int)) (place_Foot t p h (IntKind.wrap IntKind.i64 (IntKind.wrap IntKind.i64 (g + n) - (1 : Int)))) (0 : Int), Prod.snd (bin_Drop (Prod.fst r8) t p h (IntKind.wrap IntKind.i64 (g + n))))) → (∀ r11 : VS, r11 = (bin_Add (Prod.fst r10) t p h g (IntKind.wrap IntKind.i64 (n + Prod.snd r10))) → ((p ≤ (1024 : Int)) ∧ ((p ≤ (1024 : Int)) → (∀ r13 : VS, r13 = (sp_count r11 t p h n) → (R_ (r13)))))))) ∧ ((decide (Prod.snd r8 > (0 : Int))) = false → (∀ r10 : VS, r10 = (bin_Add (Prod.fst r8) t p h g n) → ((p ≤ (1024 : Int)) ∧ ((p ≤ (1024 : Int)) → (∀ r12 : VS, r12 = (sp_count r10 t p h n) → (R_ (r12)))))))))) ∧ ((decide (IntKind.wrap IntKind.i64 (g + n) < p)) = false → (∀ r8 : VS, r8 = (bin_Add (Prod.fst r5) t p h g n) → ((p ≤ (1024 : Int)) ∧ ((p ≤ (1024 : Int)) → (∀ r10 : VS, r10 = (sp_count r8 t p h n) → (R_ (r10)))))))))))) ∧ ((decide (Prod.snd r3 ≥ (0 : Int))) = false → (((decide (IntKind.wrap IntKind.i64 (g + n) < p)) = true → (∀ r6 : VS × Int, r6 = (sp_free (Prod.fst r3) t p h (IntKind.wrap IntKind.i64 (g + n))) → (((decide (Prod.snd r6 > (0 : Int))) = true → (∀ r8 : VS × Int, r8 = ((VS.set (VS.set (Prod.fst (bin_Drop (Prod.fst r6) t p h (IntKind.wrap IntKind.i64 (g + n)))) (place_Info t p h (IntKind.wrap IntKind.i64 (g + n))) (0 : Int)) (place_Foot t p h (IntKind.wrap IntKind.i64 (IntKind.wrap IntKind.i64 (g + n) - (1 : Int)))) (0 : Int), Prod.snd (bin_Drop (Prod.fst r6) t p h (IntKind.wrap IntKind.i64 (g + n))))) → (∀ r9 : VS, r9 = (bin_Add (Prod.fst r8) t p h g (IntKind.wrap IntKind.i64 (n + Prod.snd r8))) → ((p ≤ (1024 : Int)) ∧ ((p ≤ (1024 : Int)) → (∀ r11 : VS, r11 = (sp_count r9 t p h n) → (R_ (r11)))))))) ∧ ((decide (Prod.snd r6 > (0 : Int))) = false → (∀ r8 : VS, r8 = (bin_Add (Prod.fst r6) t p h g n) → ((p ≤ (1024 : Int)) ∧ ((p ≤ (1024 : Int)) → (∀ r10 : VS, r10 = (sp_count r8 t p h n) → (R_ (r10)))))))))) ∧ ((decide (IntKind.wrap IntKind.i64 (g + n) < p)) = false → (∀ r6 : VS, r6 = (bin_Add (Prod.fst r3) t p h g n) → ((p ≤ (1024 : Int)) ∧ ((p ≤ (1024 : Int)) → (∀ r8 : VS, r8 = (sp_count r6 t p h n) → (R_ (r8)))))))))))
theorem span_Release_begin (s : VS) (t : Int) (p : Int) (h : Int) (g : Int) (n : Int) (hp0 : p ≤ 1024) (hp1 : 0 ≤ g) : span_Release_w s t p h g n  (fun r__ => r__ = (span_Release s t p h g n)) := by
  unfold span_Release_w
  have hz : decide (1 ≤ s.get (Cf.foot ⟨t, p, h⟩ (IntKind.wrap IntKind.i64 (g - 1)))) = false → ∀ s' : VS, (pFree ⟨t, p, h⟩ (s.get (Cf.foot ⟨t, p, h⟩ (IntKind.wrap IntKind.i64 (g - 1))) - 1)).run s' = (s', 0) := fun hf s' => by
    have hb := VS.get_bd s (Cf.foot ⟨t, p, h⟩ (IntKind.wrap IntKind.i64 (g - 1)))
    simp only [decide_eq_false_iff_not] at hf
    rw [show s.get (Cf.foot ⟨t, p, h⟩ (IntKind.wrap IntKind.i64 (g - 1))) - 1 = -1 by omega]
    have e : Cf.info ⟨t, p, h⟩ (-1) = -1 := by
      unfold Cf.info Cf.pc Cf.page
      simp
    rw [pFreeR, e, (get_out1 s' (by decide)).1, (get_out1 s' (by decide)).2]
    rfl
  unfold sp_ahead
  cases hg0 : g == 0
  all_goals simp only [cond_true, cond_false]
  repeat' first
    | (refine fun r hr => ?_; subst hr)
    | refine ⟨(by first | exact wu32_bd _ | exact VS.get_bd _ _ | exact zero_bd | exact iVal_bd _ _ _ | exact nv_bd _ | (rw [info_Put_val]; exact iVal_bd _ _ _) | (rw [r09_Value_eq]; exact iVal_bd _ _ _) | assumption | omega), fun _ => ?_⟩
    | refine ⟨fun hc => ?_, fun hc => ?_⟩
    | fail
  all_goals
    simp only [link_page_eq, page_ne t p h, link_next, link_prev, place_Next_eq, place_Prev_eq, r07_Next_eq, r07_Prev_eq, link_to, w64g, w64g1, wrapu_nv, nvw, nvw2, bin_page, place_Info_eq, place_Foot_eq, r07_Info_eq, r07_Foot_eq, place_Bin_eq, r07_Bin_eq, info_Put_val, r09_Value_eq, bin_Of, r14_Of, infoG1, infoG2, infoG3, rinfoG1, rinfoG2, rinfoG3, gt_iff_lt, bin_Find, r14_Find, bin_Drop, r14_Drop, bin_Add, r14_Add, sp_used, spFree_eq, sp_count, nvadd, nvsub, nvwi0, nvaddw, nvnegw, Int.zero_sub, get_fb, get_fb1, dge1, dneg, ge_iff_le, bne, Bool.not_eq_true', Bool.not_eq_false', reduceCtorEq] at *
  all_goals
    skip
  all_goals
    simp only [span_Release, qUsed, pCount, qJoin, wI, nvadd, nvsub, nvaddw, nvnegw, qRelease, qAhead, qNext, dz0, Pg.run_get, Pg.run_put, Pg.run_ret, Pg.run_bind, Pg.run_cond, gt_iff_lt, cond_true, cond_false, *]
  all_goals
    try rfl
theorem span_Release_ok : EntryOk Dg Tryz.prog 29 e_span_Release :=
  ent_wp Dg T_span_Take_ok (I := [2999998]) Tryz.func29 mix (B := bodyOf Tryz.f29) (by kernel_rfl) rfl (by kernel_rfl) 400
    fun p0 s t p h g n hb hp => have hp0 : p ≤ 1024 := hp _ (.head _); have hp1 : 0 ≤ g := hp _ (.tail _ (.head _)); ⟨[], fun j => List.getD [] j (fun _ => False), fun j => List.getD [] j (fun _ => (0, 0, 0)), by kernel_rfl, ⟨span_Release_w s t p h g n  (fun r__ => r__ = (span_Release s t p h g n)), fun _ _ _ => by kernel_rfl, span_Release_begin s t p h g n hp0 hp1 ⟩, trivial⟩
def T_span_Release : List (Nat × Entry Sg) := (29, e_span_Release) :: T_span_Take
theorem T_span_Release_ok : TableOk Dg Tryz.prog T_span_Release := TableOk.cons Dg span_Release_ok T_span_Take_ok
def span_Shrink (s : VS) (t : Int) (p : Int) (h : Int) (g : Int) (n : Int) (m : Int) : VS := ((qShrink ⟨t, p, h⟩ g n m).run s).1
abbrev c_span_Shrink : Ct Sg := ⟨some wView, false, [.agg [.i .i64, .i .i64, .i .i64], .i .i64, .i .i64, .i .i64], .skip⟩
def e_span_Shrink : Entry Sg := entC c_span_Shrink span_Shrink (fun s t p h g n m => [p ≤ 1024, 0 ≤ g, 0 ≤ m ∧ m ≤ n ∧ n ≤ 1024 ∧ g ≤ p])
def span_Shrink_w (s : VS) (t : Int) (p : Int) (h : Int) (g : Int) (n : Int) (m : Int) (R_ : VS → Prop) : Prop := (∀ r1 : VS, r1 = (sp_used s t p h g m) → (∀ r2 : VS, r2 = (span_Release r1 t p h (IntKind.wrap IntKind.i64 (g + m)) (IntKind.wrap IntKind.i64 (n - m))) → ((p ≤ (1024 : Int)) ∧ ((p ≤ (1024 : Int)) → (((0 : Int) ≤ IntKind.wrap IntKind.i64 (g + m)) ∧ (((0 : Int) ≤ IntKind.wrap IntKind.i64 (g + m)) → (R_ (r2))))))))
theorem span_Shrink_begin (s : VS) (t : Int) (p : Int) (h : Int) (g : Int) (n : Int) (m : Int) (hp0 : p ≤ 1024) (hp1 : 0 ≤ g) (hp2 : 0 ≤ m ∧ m ≤ n ∧ n ≤ 1024 ∧ g ≤ p) : span_Shrink_w s t p h g n m  (fun r__ => r__ = (span_Shrink s t p h g n m)) := by
  unfold span_Shrink_w
  have hw : IntKind.wrap IntKind.i64 (g + m) = g + m := w64 (by omega)
  rw [hw]
  repeat' first
    | (refine fun r hr => ?_; subst hr)
    | refine ⟨(by first | exact wu32_bd _ | exact VS.get_bd _ _ | exact zero_bd | exact iVal_bd _ _ _ | exact nv_bd _ | (rw [info_Put_val]; exact iVal_bd _ _ _) | (rw [r09_Value_eq]; exact iVal_bd _ _ _) | assumption | omega), fun _ => ?_⟩
    | refine ⟨fun hc => ?_, fun hc => ?_⟩
    | fail
  all_goals
    simp only [link_page_eq, page_ne t p h, link_next, link_prev, place_Next_eq, place_Prev_eq, r07_Next_eq, r07_Prev_eq, link_to, w64g, w64g1, wrapu_nv, nvw, nvw2, bin_page, place_Info_eq, place_Foot_eq, r07_Info_eq, r07_Foot_eq, place_Bin_eq, r07_Bin_eq, info_Put_val, r09_Value_eq, bin_Of, r14_Of, infoG1, infoG2, infoG3, rinfoG1, rinfoG2, rinfoG3, gt_iff_lt, bin_Find, r14_Find, bin_Drop, r14_Drop, bin_Add, r14_Add, sp_used, spFree_eq, sp_count, nvadd, nvsub, nvwi0, nvaddw, nvnegw, Int.zero_sub, get_fb, get_fb1, dge1, dneg, ge_iff_le, span_Release, bne, Bool.not_eq_true', Bool.not_eq_false', reduceCtorEq] at *
  all_goals
    skip
  all_goals
    simp only [span_Shrink, qUsed, pCount, qJoin, wI, nvadd, nvsub, nvaddw, nvnegw, qShrink, span_Release, Pg.run_get, Pg.run_put, Pg.run_ret, Pg.run_bind, Pg.run_cond, gt_iff_lt, cond_true, cond_false, *]
  all_goals
    try rfl
theorem span_Shrink_ok : EntryOk Dg Tryz.prog 37 e_span_Shrink :=
  ent_wp Dg T_span_Release_ok (I := [2999998]) Tryz.func37 mix (B := bodyOf Tryz.f37) (by kernel_rfl) rfl (by kernel_rfl) 400
    fun p0 s t p h g n m hb hp => have hp0 : p ≤ 1024 := hp _ (.head _); have hp1 : 0 ≤ g := hp _ (.tail _ (.head _)); have hp2 : 0 ≤ m ∧ m ≤ n ∧ n ≤ 1024 ∧ g ≤ p := hp _ (.tail _ (.tail _ (.head _))); ⟨[], fun j => List.getD [] j (fun _ => False), fun j => List.getD [] j (fun _ => (0, 0, 0)), by kernel_rfl, ⟨span_Shrink_w s t p h g n m  (fun r__ => r__ = (span_Shrink s t p h g n m)), fun _ _ _ => by kernel_rfl, span_Shrink_begin s t p h g n m hp0 hp1 hp2 ⟩, trivial⟩
def T_span_Shrink : List (Nat × Entry Sg) := (37, e_span_Shrink) :: T_span_Release
theorem T_span_Shrink_ok : TableOk Dg Tryz.prog T_span_Shrink := TableOk.cons Dg span_Shrink_ok T_span_Release_ok
def span_Grow (s : VS) (t : Int) (p : Int) (h : Int) (g : Int) (n : Int) (m : Int) : VS × Bool := (qGrow ⟨t, p, h⟩ g n m).run s
abbrev c_span_Grow : Ct Sg := ⟨some wView, false, [.agg [.i .i64, .i .i64, .i .i64], .i .i64, .i .i64, .i .i64], .b⟩
def e_span_Grow : Entry Sg := entC c_span_Grow span_Grow (fun s t p h g n m => [p ≤ 1024, 0 ≤ g])
def span_Grow_w (s : VS) (t : Int) (p : Int) (h : Int) (g : Int) (n : Int) (m : Int) (R_ : VS × Bool → Prop) : Prop := (((decide (IntKind.wrap IntKind.i64 (g + n) ≥ p)) = true → (R_ ((s, false)))) ∧ ((decide (IntKind.wrap IntKind.i64 (g + n) ≥ p)) = false → (∀ r3 : VS × Int, r3 = (sp_free s t p h (IntKind.wrap IntKind.i64 (g + n))) → (((Prod.snd r3 == (0 : Int) || decide (Prod.snd r3 < IntKind.wrap IntKind.i64 (m - n))) = true → (R_ ((Prod.fst r3, false)))) ∧ ((Prod.snd r3 == (0 : Int) || decide (Prod.snd r3 < IntKind.wrap IntKind.i64 (m - n))) = false → (∀ r5 : VS × Int, r5 = ((VS.set (VS.set (Prod.fst (bin_Drop (Prod.fst r3) t p h (IntKind.wrap IntKind.i64 (g + n)))) (place_Info t p h (IntKind.wrap IntKind.i64 (g + n))) (0 : Int)) (place_Foot t p h (IntKind.wrap IntKind.i64 (IntKind.wrap IntKind.i64 (g + n) - (1 : Int)))) (0 : Int), Prod.snd (bin_Drop (Prod.fst r3) t p h (IntKind.wrap IntKind.i64 (g + n))))) → (∀ r6 : VS, r6 = (sp_used (Prod.fst r5) t p h g m) → (((decide (Prod.snd r3 > IntKind.wrap IntKind.i64 (m - n))) = true → (∀ r8 : VS, r8 = (bin_Add r6 t p h (IntKind.wrap IntKind.i64 (g + m)) (IntKind.wrap IntKind.i64 (Prod.snd r3 - IntKind.wrap IntKind.i64 (m - n)))) → ((p ≤ (1024 : Int)) ∧ ((p ≤ (1024 : Int)) → (∀ r10 : VS, r10 = (sp_count r8 t p h (IntKind.wrap IntKind.i64 ((0 : Int) - IntKind.wrap IntKind.i64 (m - n)))) → (R_ ((r10, true)))))))) ∧ ((decide (Prod.snd r3 > IntKind.wrap IntKind.i64 (m - n))) = false → (∀ r8 : VS, r8 = (sp_count r6 t p h (IntKind.wrap IntKind.i64 ((0 : Int) - IntKind.wrap IntKind.i64 (m - n)))) → (R_ ((r8, true)))))))))))))
theorem span_Grow_begin (s : VS) (t : Int) (p : Int) (h : Int) (g : Int) (n : Int) (m : Int) (hp0 : p ≤ 1024) (hp1 : 0 ≤ g) : span_Grow_w s t p h g n m  (fun r__ => r__ = (span_Grow s t p h g n m)) := by
  unfold span_Grow_w
  repeat' first
    | (refine fun r hr => ?_; subst hr)
    | refine ⟨(by first | exact wu32_bd _ | exact VS.get_bd _ _ | exact zero_bd | exact iVal_bd _ _ _ | exact nv_bd _ | (rw [info_Put_val]; exact iVal_bd _ _ _) | (rw [r09_Value_eq]; exact iVal_bd _ _ _) | assumption | omega), fun _ => ?_⟩
    | refine ⟨fun hc => ?_, fun hc => ?_⟩
    | fail
  all_goals
    simp only [link_page_eq, page_ne t p h, link_next, link_prev, place_Next_eq, place_Prev_eq, r07_Next_eq, r07_Prev_eq, link_to, w64g, w64g1, wrapu_nv, nvw, nvw2, bin_page, place_Info_eq, place_Foot_eq, r07_Info_eq, r07_Foot_eq, place_Bin_eq, r07_Bin_eq, info_Put_val, r09_Value_eq, bin_Of, r14_Of, infoG1, infoG2, infoG3, rinfoG1, rinfoG2, rinfoG3, gt_iff_lt, bin_Find, r14_Find, bin_Drop, r14_Drop, bin_Add, r14_Add, sp_used, spFree_eq, sp_count, nvadd, nvsub, nvwi0, nvaddw, nvnegw, Int.zero_sub, get_fb, get_fb1, dge1, dneg, ge_iff_le, bne, Bool.not_eq_true', Bool.not_eq_false', reduceCtorEq] at *
  all_goals
    skip
  all_goals
    simp only [span_Grow, qUsed, pCount, qJoin, wI, nvadd, nvsub, nvaddw, nvnegw, qGrow, Pg.run_get, Pg.run_put, Pg.run_ret, Pg.run_bind, Pg.run_cond, gt_iff_lt, cond_true, cond_false, *]
  all_goals
    try rfl
theorem span_Grow_ok : EntryOk Dg Tryz.prog 38 e_span_Grow :=
  ent_wp Dg T_span_Shrink_ok (I := [2999998]) Tryz.func38 mix (B := bodyOf Tryz.f38) (by kernel_rfl) rfl (by kernel_rfl) 400
    fun p0 s t p h g n m hb hp => have hp0 : p ≤ 1024 := hp _ (.head _); have hp1 : 0 ≤ g := hp _ (.tail _ (.head _)); ⟨[], fun j => List.getD [] j (fun _ => False), fun j => List.getD [] j (fun _ => (0, 0, 0)), by kernel_rfl, ⟨span_Grow_w s t p h g n m  (fun r__ => r__ = (span_Grow s t p h g n m)), fun _ _ _ => by kernel_rfl, span_Grow_begin s t p h g n m hp0 hp1 ⟩, trivial⟩
def T_span_Grow : List (Nat × Entry Sg) := (38, e_span_Grow) :: T_span_Shrink
theorem T_span_Grow_ok : TableOk Dg Tryz.prog T_span_Grow := TableOk.cons Dg span_Grow_ok T_span_Shrink_ok
def r15_Take (s : VS) (t : Int) (p : Int) (h : Int) (n : Int) : VS × Int × Bool := (qTake ⟨t, p, h⟩ n).run s
abbrev c_r15_Take : Ct Sg := ⟨some wRef, false, [.agg [.i .i64, .i .i64, .i .i64], .i .i64], .tup [.i .i64, .b]⟩
def e_r15_Take : Entry Sg := entC c_r15_Take r15_Take (fun s t p h n => [p ≤ 1024])
def r15_Take_w (s : VS) (t : Int) (p : Int) (h : Int) (n : Int) (R_ : VS × Int × Bool → Prop) : Prop := (∀ r1 : VS × Int × Bool, r1 = (r14_Find s t p h n) → ((p ≤ (9223372036854775807 : Int)) ∧ ((p ≤ (9223372036854775807 : Int)) → (((!Prod.snd (Prod.snd r1)) = true → (R_ ((Prod.fst r1, (0 : Int), false)))) ∧ ((!Prod.snd (Prod.snd r1)) = false → (∀ r4 : VS × Int, r4 = (r14_Drop (Prod.fst r1) t p h (Prod.fst (Prod.snd r1))) → (∀ r5 : Int, r5 = (r07_Info t p h (Prod.fst (Prod.snd r1))) → (∀ r6 : Int, r6 = (r09_Value (2 : Int) n (0 : Int)) → (∀ r7 : VS, r7 = (VS.set (Prod.fst r4) r5 r6) → ((bd32 r6) ∧ ((bd32 r6) → (∀ r9 : Int, r9 = (r07_Foot t p h (IntKind.wrap IntKind.i64 (IntKind.wrap IntKind.i64 (Prod.fst (Prod.snd r1) + n) - (1 : Int)))) → (∀ r10 : VS, r10 = (VS.set r7 r9 (IntKind.wrap IntKind.u32 (IntKind.wrap IntKind.u32 (Prod.fst (Prod.snd r1)) + (1 : Int)))) → ((bd32 (IntKind.wrap IntKind.u32 (IntKind.wrap IntKind.u32 (Prod.fst (Prod.snd r1)) + (1 : Int)))) ∧ ((bd32 (IntKind.wrap IntKind.u32 (IntKind.wrap IntKind.u32 (Prod.fst (Prod.snd r1)) + (1 : Int)))) → (((decide (Prod.snd r4 > n)) = true → (∀ r13 : VS, r13 = (r14_Add r10 t p h (IntKind.wrap IntKind.i64 (Prod.fst (Prod.snd r1) + n)) (IntKind.wrap IntKind.i64 (Prod.snd r4 - n))) → ((p ≤ (1024 : Int)) ∧ ((p ≤ (1024 : Int)) → (∀ r15 : VS × Int, r15 = ((VS.read r13 (0 : Int), VS.get r13 (0 : Int))) → (∀ r16 : VS, r16 = (VS.set (Prod.fst r15) (0 : Int) (IntKind.wrap IntKind.u32 (Prod.snd r15 - IntKind.wrap IntKind.u32 n))) → ((bd32 (IntKind.wrap IntKind.u32 (Prod.snd r15 - IntKind.wrap IntKind.u32 n))) ∧ ((bd32 (IntKind.wrap IntKind.u32 (Prod.snd r15 - IntKind.wrap IntKind.u32 n))) → (R_ ((r16, Prod.fst (Prod.snd r1), true))))))))))) ∧ ((decide (Prod.snd r4 > n)) = false → (∀ r13 : VS × Int, r13 = ((VS.read r10 (0 : Int), VS.get r10 (0 : Int))) → (∀ r14 : VS, r14 = (VS.set (Prod.fst r13) (0 : Int) (IntKind.wrap IntKind.u32 (Prod.snd r13 - IntKind.wrap IntKind.u32 n))) → ((bd32 (IntKind.wrap IntKind.u32 (Prod.snd r13 - IntKind.wrap IntKind.u32 n))) ∧ ((bd32 (IntKind.wrap IntKind.u32 (Prod.snd r13 - IntKind.wrap IntKind.u32 n))) → (R_ ((r14, Prod.fst (Prod.snd r1), true))))))))))))))))))))))))
theorem r15_Take_begin (s : VS) (t : Int) (p : Int) (h : Int) (n : Int) (hp0 : p ≤ 1024) : r15_Take_w s t p h n  (fun r__ => r__ = (r15_Take s t p h n)) := by
  unfold r15_Take_w
  repeat' first
    | (refine fun r hr => ?_; subst hr)
    | refine ⟨(by first | exact wu32_bd _ | exact VS.get_bd _ _ | exact zero_bd | exact iVal_bd _ _ _ | exact nv_bd _ | (rw [info_Put_val]; exact iVal_bd _ _ _) | (rw [r09_Value_eq]; exact iVal_bd _ _ _) | assumption | omega), fun _ => ?_⟩
    | refine ⟨fun hc => ?_, fun hc => ?_⟩
    | fail
  all_goals
    simp only [link_page_eq, page_ne t p h, link_next, link_prev, place_Next_eq, place_Prev_eq, r07_Next_eq, r07_Prev_eq, link_to, w64g, w64g1, wrapu_nv, nvw, nvw2, bin_page, place_Info_eq, place_Foot_eq, r07_Info_eq, r07_Foot_eq, place_Bin_eq, r07_Bin_eq, info_Put_val, r09_Value_eq, bin_Of, r14_Of, infoG1, infoG2, infoG3, rinfoG1, rinfoG2, rinfoG3, gt_iff_lt, bin_Find, r14_Find, bin_Drop, r14_Drop, bin_Add, r14_Add, sp_used, spFree_eq, sp_count, nvadd, nvsub, nvwi0, nvaddw, nvnegw, Int.zero_sub, get_fb, get_fb1, dge1, dneg, ge_iff_le, r14_Info, pInfo, Pg.run_get, Pg.run_ret, bne, Bool.not_eq_true', Bool.not_eq_false', reduceCtorEq] at *
  all_goals
    skip
  all_goals
    simp only [r15_Take, qUsed, pCount, qJoin, wI, nvadd, nvsub, nvaddw, nvnegw, ↓dposr, pFreeR, qTake, Pg.run_get, Pg.run_put, Pg.run_ret, Pg.run_bind, Pg.run_cond, gt_iff_lt, cond_true, cond_false, *]
  all_goals
    try rfl
theorem r15_Take_ok : EntryOk Dg Tryz.prog 31 e_r15_Take :=
  ent_wp Dg T_span_Grow_ok (I := [2999998]) Tryz.func31 mix (B := bodyOf Tryz.f31) (by kernel_rfl) rfl (by kernel_rfl) 400
    fun p0 s t p h n hb hp => have hp0 : p ≤ 1024 := hp _ (.head _); ⟨[], fun j => List.getD [] j (fun _ => False), fun j => List.getD [] j (fun _ => (0, 0, 0)), by kernel_rfl, ⟨r15_Take_w s t p h n  (fun r__ => r__ = (r15_Take s t p h n)), fun _ _ _ => by kernel_rfl, r15_Take_begin s t p h n hp0 ⟩, trivial⟩
def T_r15_Take : List (Nat × Entry Sg) := (31, e_r15_Take) :: T_span_Grow
theorem T_r15_Take_ok : TableOk Dg Tryz.prog T_r15_Take := TableOk.cons Dg r15_Take_ok T_span_Grow_ok
def r15_Release (s : VS) (t : Int) (p : Int) (h : Int) (g : Int) (n : Int) : VS := ((qRelease ⟨t, p, h⟩ g n).run s).1
abbrev c_r15_Release : Ct Sg := ⟨some wRef, false, [.agg [.i .i64, .i .i64, .i .i64], .i .i64, .i .i64], .skip⟩
def e_r15_Release : Entry Sg := entC c_r15_Release r15_Release (fun s t p h g n => [p ≤ 1024, 0 ≤ g])
def r15_Release_w (s : VS) (t : Int) (p : Int) (h : Int) (g : Int) (n : Int) (R_ : VS → Prop) : Prop := (((decide (g > (0 : Int))) = true → (∀ r2 : Int, r2 = (r07_Foot t p h (IntKind.wrap IntKind.i64 (g - (1 : Int)))) → (∀ r3 : VS × Int, r3 = ((VS.read s r2, VS.get s r2)) → (∀ r4 : VS × Int × Int × Int, r4 = (r14_Info (Prod.fst r3) t p h (IntKind.wrap IntKind.i64 (IntKind.wrap IntKind.i64 (Prod.snd r3) - (1 : Int)))) → (((Prod.fst (Prod.snd r4) == (1 : Int)) = true → (∀ r7 : VS × Int, r7 = (r14_Drop (Prod.fst r4) t p h (IntKind.wrap IntKind.i64 (IntKind.wrap IntKind.i64 (Prod.snd r3) - (1 : Int)))) → (∀ r8 : Int, r8 = (r07_Info t p h g) → (∀ r9 : VS, r9 = (VS.set (Prod.fst r7) r8 (0 : Int)) → ((bd32 (0 : Int)) ∧ ((bd32 (0 : Int)) → (∀ r11 : Int, r11 = (r07_Foot t p h (IntKind.wrap IntKind.i64 (g - (1 : Int)))) → (∀ r12 : VS, r12 = (VS.set r9 r11 (0 : Int)) → ((bd32 (0 : Int)) ∧ ((bd32 (0 : Int)) → (((decide (IntKind.wrap IntKind.i64 (g + n) < p)) = true → (∀ r15 : VS × Int × Int × Int, r15 = (r14_Info r12 t p h (IntKind.wrap IntKind.i64 (g + n))) → (((Prod.fst (Prod.snd r15) == (1 : Int)) = true → (∀ r18 : VS × Int, r18 = (r14_Drop (Prod.fst r15) t p h (IntKind.wrap IntKind.i64 (g + n))) → (∀ r19 : Int, r19 = (r07_Info t p h (IntKind.wrap IntKind.i64 (g + n))) → (∀ r20 : VS, r20 = (VS.set (Prod.fst r18) r19 (0 : Int)) → ((bd32 (0 : Int)) ∧ ((bd32 (0 : Int)) → (∀ r22 : Int, r22 = (r07_Foot t p h (IntKind.wrap IntKind.i64 (IntKind.wrap IntKind.i64 (g + n) - (1 : Int)))) → (∀ r23 : VS, r23 = (VS.set r20 r22 (0 : Int)) → ((bd32 (0 : Int)) ∧ ((bd32 (0 : Int)) → (∀ r25 : VS, r25 = (r14_Add r23 t p h (IntKind.wrap IntKind.i64 (IntKind.wrap IntKind.i64 (Prod.snd r3) - (1 : Int))) (IntKind.wrap IntKind.i64 (IntKind.wrap IntKind.i64 (n + Prod.snd r7) + Prod.snd r18))) → ((p ≤ (1024 : Int)) ∧ ((p ≤ (1024 : Int)) → (∀ r27 : VS × Int, r27 = ((VS.read r25 (0 : Int), VS.get r25 (0 : Int))) → (∀ r28 : VS, r28 = (VS.set (Prod.fst r27) (0 : Int) (IntKind.wrap IntKind.u32 (Prod.snd r27 + IntKind.wrap IntKind.u32 n))) → ((bd32 (IntKind.wrap IntKind.u32 (Prod.snd r27 + IntKind.wrap IntKind.u32 n))) ∧ ((bd32 (IntKind.wrap IntKind.u32 (Prod.snd r27 + IntKind.wrap IntKind.u32 n))) → (R_ (r28))))))))))))))))))) ∧ ((Prod.fst (Prod.snd r15) == (1 : Int)) = false → (∀ r18 : VS, r18 = (r14_Add (Prod.fst r15) t p h (IntKind.wrap IntKind.i64 (IntKind.wrap IntKind.i64 (Prod.snd r3) - (1 : Int))) (IntKind.wrap IntKind.i64 (n + Prod.snd r7))) → ((p ≤ (1024 : Int)) ∧ ((p ≤ (1024 : Int)) → (∀ r20 : VS × Int, r20 = ((VS.read r18 (0 : Int), VS.get r18 (0 : Int))) → (∀ r21 : VS, r21 = (VS.set (Prod.fst r20) (0 : Int) (IntKind.wrap IntKind.u32 (Prod.snd r20 + IntKind.wrap IntKind.u32 n))) → ((bd32 (IntKind.wrap IntKind.u32 (Prod.snd r20 + IntKind.wrap IntKind.u32 n))) ∧ ((bd32 (IntKind.wrap IntKind.u32 (Prod.snd r20 + IntKind.wrap IntKind.u32 n))) → (R_ (r21))))))))))))) ∧ ((decide (IntKind.wrap IntKind.i64 (g + n) < p)) = false → (∀ r15 : VS, r15 = (r14_Add r12 t p h (IntKind.wrap IntKind.i64 (IntKind.wrap IntKind.i64 (Prod.snd r3) - (1 : Int))) (IntKind.wrap IntKind.i64 (n + Prod.snd r7))) → ((p ≤ (1024 : Int)) ∧ ((p ≤ (1024 : Int)) → (∀ r17 : VS × Int, r17 = ((VS.read r15 (0 : Int), VS.get r15 (0 : Int))) → (∀ r18 : VS, r18 = (VS.set (Prod.fst r17) (0 : Int) (IntKind.wrap IntKind.u32 (Prod.snd r17 + IntKind.wrap IntKind.u32 n))) → ((bd32 (IntKind.wrap IntKind.u32 (Prod.snd r17 + IntKind.wrap IntKind.u32 n))) ∧ ((bd32 (IntKind.wrap IntKind.u32 (Prod.snd r17 + IntKind.wrap IntKind.u32 n))) → (R_ (r18))))))))))))))))))))) ∧ ((Prod.fst (Prod.snd r4) == (1 : Int)) = false → (((decide (IntKind.wrap IntKind.i64 (g + n) < p)) = true → (∀ r8 : VS × Int × Int × Int, r8 = (r14_Info (Prod.fst r4) t p h (IntKind.wrap IntKind.i64 (g + n))) → (((Prod.fst (Prod.snd r8) == (1 : Int)) = true → (∀ r11 : VS × Int, r11 = (r14_Drop (Prod.fst r8) t p h (IntKind.wrap IntKind.i64 (g + n))) → (∀ r12 : Int, r12 = (r07_Info t p h (IntKind.wrap IntKind.i64 (g + n))) → (∀ r13 : VS, r13 = (VS.set (Prod.fst r11) r12 (0 : Int)) → ((bd32 (0 : Int)) ∧ ((bd32 (0 : Int)) → (∀ r15 : Int, r15 = (r07_Foot t p h (IntKind.wrap IntKind.i64 (IntKind.wrap IntKind.i64 (g + n) - (1 : Int)))) → (∀ r16 : VS, r16 = (VS.set r13 r15 (0 : Int)) → ((bd32 (0 : Int)) ∧ ((bd32 (0 : Int)) → (∀ r18 : VS, r18 = (r14_Add r16 t p h g (IntKind.wrap IntKind.i64 (n + Prod.snd r11))) → ((p ≤ (1024 : Int)) ∧ ((p ≤ (1024 : Int)) → (∀ r20 : VS × Int, r20 = ((VS.read r18 (0 : Int), VS.get r18 (0 : Int))) → (∀ r21 : VS, r21 = (VS.set (Prod.fst r20) (0 : Int) (IntKind.wrap IntKind.u32 (Prod.snd r20 + IntKind.wrap IntKind.u32 n))) → ((bd32 (IntKind.wrap IntKind.u32 (Prod.snd r20 + IntKind.wrap IntKind.u32 n))) ∧ ((bd32 (IntKind.wrap IntKind.u32 (Prod.snd r20 + IntKind.wrap IntKind.u32 n))) → (R_ (r21))))))))))))))))))) ∧ ((Prod.fst (Prod.snd r8) == (1 : Int)) = false → (∀ r11 : VS, r11 = (r14_Add (Prod.fst r8) t p h g n) → ((p ≤ (1024 : Int)) ∧ ((p ≤ (1024 : Int)) → (∀ r13 : VS × Int, r13 = ((VS.read r11 (0 : Int), VS.get r11 (0 : Int))) → (∀ r14 : VS, r14 = (VS.set (Prod.fst r13) (0 : Int) (IntKind.wrap IntKind.u32 (Prod.snd r13 + IntKind.wrap IntKind.u32 n))) → ((bd32 (IntKind.wrap IntKind.u32 (Prod.snd r13 + IntKind.wrap IntKind.u32 n))) ∧ ((bd32 (IntKind.wrap IntKind.u32 (Prod.snd r13 + IntKind.wrap IntKind.u32 n))) → (R_ (r14))))))))))))) ∧ ((decide (IntKind.wrap IntKind.i64 (g + n) < p)) = false → (∀ r8 : VS, r8 = (r14_Add (Prod.fst r4) t p h g n) → ((p ≤ (1024 : Int)) ∧ ((p ≤ (1024 : Int)) → (∀ r10 : VS × Int, r10 = ((VS.read r8 (0 : Int), VS.get r8 (0 : Int))) → (∀ r11 : VS, r11 = (VS.set (Prod.fst r10) (0 : Int) (IntKind.wrap IntKind.u32 (Prod.snd r10 + IntKind.wrap IntKind.u32 n))) → ((bd32 (IntKind.wrap IntKind.u32 (Prod.snd r10 + IntKind.wrap IntKind.u32 n))) ∧ ((bd32 (IntKind.wrap IntKind.u32 (Prod.snd r10 + IntKind.wrap IntKind.u32 n))) → (R_ (r11))))))))))))))))) ∧ ((decide (g > (0 : Int))) = false → (((decide (IntKind.wrap IntKind.i64 (g + n) < p)) = true → (∀ r3 : VS × Int × Int × Int, r3 = (r14_Info s t p h (IntKind.wrap IntKind.i64 (g + n))) → (((Prod.fst (Prod.snd r3) == (1 : Int)) = true → (∀ r6 : VS × Int, r6 = (r14_Drop (Prod.fst r3) t p h (IntKind.wrap IntKind.i64 (g + n))) → (∀ r7 : Int, r7 = (r07_Info t p h (IntKind.wrap IntKind.i64 (g + n))) → (∀ r8 : VS, r8 = (VS.set (Prod.fst r6) r7 (0 : Int)) → ((bd32 (0 : Int)) ∧ ((bd32 (0 : Int)) → (∀ r10 : Int, r10 = (r07_Foot t p h (IntKind.wrap IntKind.i64 (IntKind.wrap IntKind.i64 (g + n) - (1 : Int)))) → (∀ r11 : VS, r11 = (VS.set r8 r10 (0 : Int)) → ((bd32 (0 : Int)) ∧ ((bd32 (0 : Int)) → (∀ r13 : VS, r13 = (r14_Add r11 t p h g (IntKind.wrap IntKind.i64 (n + Prod.snd r6))) → ((p ≤ (1024 : Int)) ∧ ((p ≤ (1024 : Int)) → (∀ r15 : VS × Int, r15 = ((VS.read r13 (0 : Int), VS.get r13 (0 : Int))) → (∀ r16 : VS, r16 = (VS.set (Prod.fst r15) (0 : Int) (IntKind.wrap IntKind.u32 (Prod.snd r15 + IntKind.wrap IntKind.u32 n))) → ((bd32 (IntKind.wrap IntKind.u32 (Prod.snd r15 + IntKind.wrap IntKind.u32 n))) ∧ ((bd32 (IntKind.wrap IntKind.u32 (Prod.snd r15 + IntKind.wrap IntKind.u32 n))) → (R_ (r16))))))))))))))))))) ∧ ((Prod.fst (Prod.snd r3) == (1 : Int)) = false → (∀ r6 : VS, r6 = (r14_Add (Prod.fst r3) t p h g n) → ((p ≤ (1024 : Int)) ∧ ((p ≤ (1024 : Int)) → (∀ r8 : VS × Int, r8 = ((VS.read r6 (0 : Int), VS.get r6 (0 : Int))) → (∀ r9 : VS, r9 = (VS.set (Prod.fst r8) (0 : Int) (IntKind.wrap IntKind.u32 (Prod.snd r8 + IntKind.wrap IntKind.u32 n))) → ((bd32 (IntKind.wrap IntKind.u32 (Prod.snd r8 + IntKind.wrap IntKind.u32 n))) ∧ ((bd32 (IntKind.wrap IntKind.u32 (Prod.snd r8 + IntKind.wrap IntKind.u32 n))) → (R_ (r9))))))))))))) ∧ ((decide (IntKind.wrap IntKind.i64 (g + n) < p)) = false → (∀ r3 : VS, r3 = (r14_Add s t p h g n) → ((p ≤ (1024 : Int)) ∧ ((p ≤ (1024 : Int)) → (∀ r5 : VS × Int, r5 = ((VS.read r3 (0 : Int), VS.get r3 (0 : Int))) → (∀ r6 : VS, r6 = (VS.set (Prod.fst r5) (0 : Int) (IntKind.wrap IntKind.u32 (Prod.snd r5 + IntKind.wrap IntKind.u32 n))) → ((bd32 (IntKind.wrap IntKind.u32 (Prod.snd r5 + IntKind.wrap IntKind.u32 n))) ∧ ((bd32 (IntKind.wrap IntKind.u32 (Prod.snd r5 + IntKind.wrap IntKind.u32 n))) → (R_ (r6)))))))))))))
theorem r15_Release_begin (s : VS) (t : Int) (p : Int) (h : Int) (g : Int) (n : Int) (hp0 : p ≤ 1024) (hp1 : 0 ≤ g) : r15_Release_w s t p h g n  (fun r__ => r__ = (r15_Release s t p h g n)) := by
  unfold r15_Release_w
  have hg1 : (g == 0) = !decide (0 < g) := by
    apply Bool.eq_iff_iff.2
    simp only [beq_iff_eq, Bool.not_eq_true', decide_eq_false_iff_not]; omega
  repeat' first
    | (refine fun r hr => ?_; subst hr)
    | refine ⟨(by first | exact wu32_bd _ | exact VS.get_bd _ _ | exact zero_bd | exact iVal_bd _ _ _ | exact nv_bd _ | (rw [info_Put_val]; exact iVal_bd _ _ _) | (rw [r09_Value_eq]; exact iVal_bd _ _ _) | assumption | omega), fun _ => ?_⟩
    | refine ⟨fun hc => ?_, fun hc => ?_⟩
    | fail
  all_goals
    simp only [link_page_eq, page_ne t p h, link_next, link_prev, place_Next_eq, place_Prev_eq, r07_Next_eq, r07_Prev_eq, link_to, w64g, w64g1, wrapu_nv, nvw, nvw2, bin_page, place_Info_eq, place_Foot_eq, r07_Info_eq, r07_Foot_eq, place_Bin_eq, r07_Bin_eq, info_Put_val, r09_Value_eq, bin_Of, r14_Of, infoG1, infoG2, infoG3, rinfoG1, rinfoG2, rinfoG3, gt_iff_lt, bin_Find, r14_Find, bin_Drop, r14_Drop, bin_Add, r14_Add, sp_used, spFree_eq, sp_count, nvadd, nvsub, nvwi0, nvaddw, nvnegw, Int.zero_sub, get_fb, get_fb1, dge1, dneg, ge_iff_le, r14_Info, pInfo, Pg.run_get, Pg.run_ret, bne, Bool.not_eq_true', Bool.not_eq_false', reduceCtorEq] at *
  all_goals
    skip
  all_goals
    simp only [r15_Release, qUsed, pCount, qJoin, wI, nvadd, nvsub, nvaddw, nvnegw, ↓dposr, pFreeR, qRelease, qAhead, qNext, hg1, Bool.not_true, Bool.not_false, Pg.run_get, Pg.run_put, Pg.run_ret, Pg.run_bind, Pg.run_cond, gt_iff_lt, cond_true, cond_false, *]
  all_goals
    try rfl
theorem r15_Release_ok : EntryOk Dg Tryz.prog 41 e_r15_Release :=
  ent_wp Dg T_r15_Take_ok (I := [2999998]) Tryz.func41 mix (B := bodyOf Tryz.f41) (by kernel_rfl) rfl (by kernel_rfl) 400
    fun p0 s t p h g n hb hp => have hp0 : p ≤ 1024 := hp _ (.head _); have hp1 : 0 ≤ g := hp _ (.tail _ (.head _)); ⟨[], fun j => List.getD [] j (fun _ => False), fun j => List.getD [] j (fun _ => (0, 0, 0)), by kernel_rfl, ⟨r15_Release_w s t p h g n  (fun r__ => r__ = (r15_Release s t p h g n)), fun _ _ _ => by kernel_rfl, r15_Release_begin s t p h g n hp0 hp1 ⟩, trivial⟩
def T_r15_Release : List (Nat × Entry Sg) := (41, e_r15_Release) :: T_r15_Take
theorem T_r15_Release_ok : TableOk Dg Tryz.prog T_r15_Release := TableOk.cons Dg r15_Release_ok T_r15_Take_ok
def r15_Shrink (s : VS) (t : Int) (p : Int) (h : Int) (g : Int) (n : Int) (m : Int) : VS := ((qShrink ⟨t, p, h⟩ g n m).run s).1
abbrev c_r15_Shrink : Ct Sg := ⟨some wRef, false, [.agg [.i .i64, .i .i64, .i .i64], .i .i64, .i .i64, .i .i64], .skip⟩
def e_r15_Shrink : Entry Sg := entC c_r15_Shrink r15_Shrink (fun s t p h g n m => [p ≤ 1024, 0 ≤ g, 0 ≤ m ∧ m ≤ n ∧ n ≤ 1024 ∧ g ≤ p])
def r15_Shrink_w (s : VS) (t : Int) (p : Int) (h : Int) (g : Int) (n : Int) (m : Int) (R_ : VS → Prop) : Prop := (∀ r1 : Int, r1 = (r07_Info t p h g) → (∀ r2 : Int, r2 = (r09_Value (2 : Int) m (0 : Int)) → (∀ r3 : VS, r3 = (VS.set s r1 r2) → ((bd32 r2) ∧ ((bd32 r2) → (∀ r5 : Int, r5 = (r07_Foot t p h (IntKind.wrap IntKind.i64 (IntKind.wrap IntKind.i64 (g + m) - (1 : Int)))) → (∀ r6 : VS, r6 = (VS.set r3 r5 (IntKind.wrap IntKind.u32 (IntKind.wrap IntKind.u32 g + (1 : Int)))) → ((bd32 (IntKind.wrap IntKind.u32 (IntKind.wrap IntKind.u32 g + (1 : Int)))) ∧ ((bd32 (IntKind.wrap IntKind.u32 (IntKind.wrap IntKind.u32 g + (1 : Int)))) → (∀ r8 : VS, r8 = (r15_Release r6 t p h (IntKind.wrap IntKind.i64 (g + m)) (IntKind.wrap IntKind.i64 (n - m))) → ((p ≤ (1024 : Int)) ∧ ((p ≤ (1024 : Int)) → (((0 : Int) ≤ IntKind.wrap IntKind.i64 (g + m)) ∧ (((0 : Int) ≤ IntKind.wrap IntKind.i64 (g + m)) → (R_ (r8))))))))))))))))
theorem r15_Shrink_begin (s : VS) (t : Int) (p : Int) (h : Int) (g : Int) (n : Int) (m : Int) (hp0 : p ≤ 1024) (hp1 : 0 ≤ g) (hp2 : 0 ≤ m ∧ m ≤ n ∧ n ≤ 1024 ∧ g ≤ p) : r15_Shrink_w s t p h g n m  (fun r__ => r__ = (r15_Shrink s t p h g n m)) := by
  unfold r15_Shrink_w
  have hw : IntKind.wrap IntKind.i64 (g + m) = g + m := w64 (by omega)
  rw [hw]
  repeat' first
    | (refine fun r hr => ?_; subst hr)
    | refine ⟨(by first | exact wu32_bd _ | exact VS.get_bd _ _ | exact zero_bd | exact iVal_bd _ _ _ | exact nv_bd _ | (rw [info_Put_val]; exact iVal_bd _ _ _) | (rw [r09_Value_eq]; exact iVal_bd _ _ _) | assumption | omega), fun _ => ?_⟩
    | refine ⟨fun hc => ?_, fun hc => ?_⟩
    | fail
  all_goals
    simp only [link_page_eq, page_ne t p h, link_next, link_prev, place_Next_eq, place_Prev_eq, r07_Next_eq, r07_Prev_eq, link_to, w64g, w64g1, wrapu_nv, nvw, nvw2, bin_page, place_Info_eq, place_Foot_eq, r07_Info_eq, r07_Foot_eq, place_Bin_eq, r07_Bin_eq, info_Put_val, r09_Value_eq, bin_Of, r14_Of, infoG1, infoG2, infoG3, rinfoG1, rinfoG2, rinfoG3, gt_iff_lt, bin_Find, r14_Find, bin_Drop, r14_Drop, bin_Add, r14_Add, sp_used, spFree_eq, sp_count, nvadd, nvsub, nvwi0, nvaddw, nvnegw, Int.zero_sub, get_fb, get_fb1, dge1, dneg, ge_iff_le, r14_Info, pInfo, Pg.run_get, Pg.run_ret, r15_Release, bne, Bool.not_eq_true', Bool.not_eq_false', reduceCtorEq] at *
  all_goals
    skip
  all_goals
    simp only [r15_Shrink, qUsed, pCount, qJoin, wI, nvadd, nvsub, nvaddw, nvnegw, ↓dposr, pFreeR, qShrink, r15_Release, Pg.run_get, Pg.run_put, Pg.run_ret, Pg.run_bind, Pg.run_cond, gt_iff_lt, cond_true, cond_false, *]
  all_goals
    try rfl
theorem r15_Shrink_ok : EntryOk Dg Tryz.prog 39 e_r15_Shrink :=
  ent_wp Dg T_r15_Release_ok (I := [2999998]) Tryz.func39 mix (B := bodyOf Tryz.f39) (by kernel_rfl) rfl (by kernel_rfl) 400
    fun p0 s t p h g n m hb hp => have hp0 : p ≤ 1024 := hp _ (.head _); have hp1 : 0 ≤ g := hp _ (.tail _ (.head _)); have hp2 : 0 ≤ m ∧ m ≤ n ∧ n ≤ 1024 ∧ g ≤ p := hp _ (.tail _ (.tail _ (.head _))); ⟨[], fun j => List.getD [] j (fun _ => False), fun j => List.getD [] j (fun _ => (0, 0, 0)), by kernel_rfl, ⟨r15_Shrink_w s t p h g n m  (fun r__ => r__ = (r15_Shrink s t p h g n m)), fun _ _ _ => by kernel_rfl, r15_Shrink_begin s t p h g n m hp0 hp1 hp2 ⟩, trivial⟩
def T_r15_Shrink : List (Nat × Entry Sg) := (39, e_r15_Shrink) :: T_r15_Release
theorem T_r15_Shrink_ok : TableOk Dg Tryz.prog T_r15_Shrink := TableOk.cons Dg r15_Shrink_ok T_r15_Release_ok
def r15_Grow (s : VS) (t : Int) (p : Int) (h : Int) (g : Int) (n : Int) (m : Int) : VS × Bool := (qGrow ⟨t, p, h⟩ g n m).run s
abbrev c_r15_Grow : Ct Sg := ⟨some wRef, false, [.agg [.i .i64, .i .i64, .i .i64], .i .i64, .i .i64, .i .i64], .b⟩
def e_r15_Grow : Entry Sg := entC c_r15_Grow r15_Grow (fun s t p h g n m => [p ≤ 1024, 0 ≤ g])
def r15_Grow_w (s : VS) (t : Int) (p : Int) (h : Int) (g : Int) (n : Int) (m : Int) (R_ : VS × Bool → Prop) : Prop := (((decide (IntKind.wrap IntKind.i64 (g + n) ≥ p)) = true → (R_ ((s, false)))) ∧ ((decide (IntKind.wrap IntKind.i64 (g + n) ≥ p)) = false → (∀ r2 : VS × Int × Int × Int, r2 = (r14_Info s t p h (IntKind.wrap IntKind.i64 (g + n))) → (((Prod.fst (Prod.snd r2) != (1 : Int) || decide (Prod.fst (Prod.snd (Prod.snd r2)) < IntKind.wrap IntKind.i64 (m - n))) = true → (R_ ((Prod.fst r2, false)))) ∧ ((Prod.fst (Prod.snd r2) != (1 : Int) || decide (Prod.fst (Prod.snd (Prod.snd r2)) < IntKind.wrap IntKind.i64 (m - n))) = false → (∀ r5 : VS × Int, r5 = (r14_Drop (Prod.fst r2) t p h (IntKind.wrap IntKind.i64 (g + n))) → (∀ r6 : Int, r6 = (r07_Info t p h (IntKind.wrap IntKind.i64 (g + n))) → (∀ r7 : VS, r7 = (VS.set (Prod.fst r5) r6 (0 : Int)) → ((bd32 (0 : Int)) ∧ ((bd32 (0 : Int)) → (∀ r9 : Int, r9 = (r07_Foot t p h (IntKind.wrap IntKind.i64 (IntKind.wrap IntKind.i64 (g + n) - (1 : Int)))) → (∀ r10 : VS, r10 = (VS.set r7 r9 (0 : Int)) → ((bd32 (0 : Int)) ∧ ((bd32 (0 : Int)) → (∀ r12 : Int, r12 = (r07_Info t p h g) → (∀ r13 : Int, r13 = (r09_Value (2 : Int) m (0 : Int)) → (∀ r14 : VS, r14 = (VS.set r10 r12 r13) → ((bd32 r13) ∧ ((bd32 r13) → (∀ r16 : Int, r16 = (r07_Foot t p h (IntKind.wrap IntKind.i64 (IntKind.wrap IntKind.i64 (g + m) - (1 : Int)))) → (∀ r17 : VS, r17 = (VS.set r14 r16 (IntKind.wrap IntKind.u32 (IntKind.wrap IntKind.u32 g + (1 : Int)))) → ((bd32 (IntKind.wrap IntKind.u32 (IntKind.wrap IntKind.u32 g + (1 : Int)))) ∧ ((bd32 (IntKind.wrap IntKind.u32 (IntKind.wrap IntKind.u32 g + (1 : Int)))) → (((decide (Prod.fst (Prod.snd (Prod.snd r2)) > IntKind.wrap IntKind.i64 (m - n))) = true → (∀ r20 : VS, r20 = (r14_Add r17 t p h (IntKind.wrap IntKind.i64 (g + m)) (IntKind.wrap IntKind.i64 (Prod.fst (Prod.snd (Prod.snd r2)) - IntKind.wrap IntKind.i64 (m - n)))) → ((p ≤ (1024 : Int)) ∧ ((p ≤ (1024 : Int)) → (∀ r22 : VS × Int, r22 = ((VS.read r20 (0 : Int), VS.get r20 (0 : Int))) → (∀ r23 : VS, r23 = (VS.set (Prod.fst r22) (0 : Int) (IntKind.wrap IntKind.u32 (Prod.snd r22 - IntKind.wrap IntKind.u32 (IntKind.wrap IntKind.i64 (m - n))))) → ((bd32 (IntKind.wrap IntKind.u32 (Prod.snd r22 - IntKind.wrap IntKind.u32 (IntKind.wrap IntKind.i64 (m - n))))) ∧ ((bd32 (IntKind.wrap IntKind.u32 (Prod.snd r22 - IntKind.wrap IntKind.u32 (IntKind.wrap IntKind.i64 (m - n))))) → (R_ ((r23, true))))))))))) ∧ ((decide (Prod.fst (Prod.snd (Prod.snd r2)) > IntKind.wrap IntKind.i64 (m - n))) = false → (∀ r20 : VS × Int, r20 = ((VS.read r17 (0 : Int), VS.get r17 (0 : Int))) → (∀ r21 : VS, r21 = (VS.set (Prod.fst r20) (0 : Int) (IntKind.wrap IntKind.u32 (Prod.snd r20 - IntKind.wrap IntKind.u32 (IntKind.wrap IntKind.i64 (m - n))))) → ((bd32 (IntKind.wrap IntKind.u32 (Prod.snd r20 - IntKind.wrap IntKind.u32 (IntKind.wrap IntKind.i64 (m - n))))) ∧ ((bd32 (IntKind.wrap IntKind.u32 (Prod.snd r20 - IntKind.wrap IntKind.u32 (IntKind.wrap IntKind.i64 (m - n))))) → (R_ ((r21, true))))))))))))))))))))))))))))))))
theorem r15_Grow_begin (s : VS) (t : Int) (p : Int) (h : Int) (g : Int) (n : Int) (m : Int) (hp0 : p ≤ 1024) (hp1 : 0 ≤ g) : r15_Grow_w s t p h g n m  (fun r__ => r__ = (r15_Grow s t p h g n m)) := by
  unfold r15_Grow_w
  repeat' first
    | (refine fun ⟨s1_, k1_, l1_, c1_⟩ hr => ?_; simp only [r14_Info, pInfo, Pg.run_get, Pg.run_ret, Prod.mk.injEq] at hr; obtain ⟨rfl, rfl, rfl, rfl⟩ := hr)
    | (refine fun r hr => ?_; subst hr)
    | refine ⟨(by first | exact wu32_bd _ | exact VS.get_bd _ _ | exact zero_bd | exact iVal_bd _ _ _ | exact nv_bd _ | (rw [info_Put_val]; exact iVal_bd _ _ _) | (rw [r09_Value_eq]; exact iVal_bd _ _ _) | assumption | omega), fun _ => ?_⟩
    | refine ⟨fun hc => ?_, fun hc => ?_⟩
    | fail
  all_goals
    simp only [link_page_eq, page_ne t p h, link_next, link_prev, place_Next_eq, place_Prev_eq, r07_Next_eq, r07_Prev_eq, link_to, w64g, w64g1, wrapu_nv, nvw, nvw2, bin_page, place_Info_eq, place_Foot_eq, r07_Info_eq, r07_Foot_eq, place_Bin_eq, r07_Bin_eq, info_Put_val, r09_Value_eq, bin_Of, r14_Of, infoG1, infoG2, infoG3, rinfoG1, rinfoG2, rinfoG3, gt_iff_lt, bin_Find, r14_Find, bin_Drop, r14_Drop, bin_Add, r14_Add, sp_used, spFree_eq, sp_count, nvadd, nvsub, nvwi0, nvaddw, nvnegw, Int.zero_sub, get_fb, get_fb1, dge1, dneg, ge_iff_le, r14_Info, pInfo, Pg.run_get, Pg.run_ret, bne, Bool.not_eq_true', Bool.not_eq_false', reduceCtorEq] at *
  all_goals
    skip
    try (have hk := (Bool.or_eq_false_iff.1 ‹(!_ || _) = false›).1; have hk2 := (Bool.or_eq_false_iff.1 ‹(!_ || _) = false›).2; have hk3 := (Bool.not_eq_false' _).mp hk)
  all_goals
    simp only [r15_Grow, qUsed, pCount, qJoin, wI, nvadd, nvsub, nvaddw, nvnegw, ↓dposr, pFreeR, qGrow, ↓growcr, ↓growdr, Bool.false_or, Pg.run_get, Pg.run_put, Pg.run_ret, Pg.run_bind, Pg.run_cond, gt_iff_lt, cond_true, cond_false, *]
  all_goals
    try rfl
theorem r15_Grow_ok : EntryOk Dg Tryz.prog 40 e_r15_Grow :=
  ent_wp Dg T_r15_Shrink_ok (I := [2999998]) Tryz.func40 mix (B := bodyOf Tryz.f40) (by kernel_rfl) rfl (by kernel_rfl) 400
    fun p0 s t p h g n m hb hp => have hp0 : p ≤ 1024 := hp _ (.head _); have hp1 : 0 ≤ g := hp _ (.tail _ (.head _)); ⟨[], fun j => List.getD [] j (fun _ => False), fun j => List.getD [] j (fun _ => (0, 0, 0)), by kernel_rfl, ⟨r15_Grow_w s t p h g n m  (fun r__ => r__ = (r15_Grow s t p h g n m)), fun _ _ _ => by kernel_rfl, r15_Grow_begin s t p h g n m hp0 hp1 ⟩, trivial⟩
def T_r15_Grow : List (Nat × Entry Sg) := (40, e_r15_Grow) :: T_r15_Shrink
theorem T_r15_Grow_ok : TableOk Dg Tryz.prog T_r15_Grow := TableOk.cons Dg r15_Grow_ok T_r15_Shrink_ok
end Go.Proofs.YtajlaibfcigdkaaGreat
namespace Go.Proofs.YtajlaibfcigdkaaGreat
open Go.Sl
theorem vals_bd (s : VS) : bdAll s.vals := by
  intro v hv
  unfold VS.vals at hv
  cases ha : s.all with
  | false => rw [ha] at hv; cases hv
  | true =>
    rw [ha, cond_true, List.mem_map] at hv
    obtain ⟨i, _, rfl⟩ := hv
    unfold VS.cur
    split
    · exact nv_bd _
    · split
      · exact nv_bd _
      · exact ⟨by decide, by decide⟩
theorem sound_good {c : Cf} {xs : List Int} (h : soundA c xs = true) (hb : bdAll xs) : AGood c xs := by
  rw [soundA_eq] at h
  unfold soundB at h
  simp only [Bool.and_eq_true, beq_iff_eq] at h
  exact { ok := h.1.1.1.1.1.1.1.1.1.1, len := h.1.1.1.1.1.1.1.1.1.2, bd := hb }
theorem good_len {c : Cf} {xs : List Int} (h : AGood c xs) : xs.length ≤ 1000000 := by
  have h1 := Cf.ok_iff.1 h.ok
  have h2 := h.len
  rw [show c.cells = 30 + 4 * c.t + 6 * c.p by unfold Cf.cells; rw [h.ok]; rfl] at h2
  omega
def l15_live : Bool := true
abbrev c_l15_live : Ct Sg := ⟨none, false, [], .b⟩
def e_l15_live : Entry Sg := entC c_l15_live l15_live ([])
def l15_live_w (R_ : Bool → Prop) : Prop := (∀ r0 : Int × Int × Int × List Int, r0 = (l14_Eight) → (∀ r3 : VS, r3 = (VS.whole (Prod.snd (Prod.snd (Prod.snd r0)))) → ((List.length (Prod.snd (Prod.snd (Prod.snd r0))) ≤ (1000000 : Nat)) ∧ ((List.length (Prod.snd (Prod.snd (Prod.snd r0))) ≤ (1000000 : Nat)) → ((∀ (v : Int), v ∈ Cm.liOf (hdC (List.drop (Sh.nC (σ := Sg) (Sh.agg [Sh.i IntKind.i64, Sh.i IntKind.i64, Sh.i IntKind.i64])) (restC (Ct.rob c_l14_Eight) (toCm (Ct.RK c_l14_Eight) r0)))) → bd32 v) ∧ ((∀ (v : Int), v ∈ Cm.liOf (hdC (List.drop (Sh.nC (σ := Sg) (Sh.agg [Sh.i IntKind.i64, Sh.i IntKind.i64, Sh.i IntKind.i64])) (restC (Ct.rob c_l14_Eight) (toCm (Ct.RK c_l14_Eight) r0)))) → bd32 v) → (∀ r7 : VS × Int × Bool, r7 = (span_Take r3 (Prod.fst r0) (Prod.fst (Prod.snd r0)) (Prod.fst (Prod.snd (Prod.snd r0))) (3 : Int)) → ((Prod.fst (Prod.snd r0) ≤ (1024 : Int)) ∧ ((Prod.fst (Prod.snd r0) ≤ (1024 : Int)) → (∀ r9 : VS × Int, r9 = ((VS.read (Prod.fst r7) (0 : Int), VS.get (Prod.fst r7) (0 : Int))) → (∀ r10 : VS, r10 = (span_Release (Prod.fst r9) (Prod.fst r0) (Prod.fst (Prod.snd r0)) (Prod.fst (Prod.snd (Prod.snd r0))) (0 : Int) (3 : Int)) → ((Prod.fst (Prod.snd r0) ≤ (1024 : Int)) ∧ ((Prod.fst (Prod.snd r0) ≤ (1024 : Int)) → (((0 : Int) ≤ (0 : Int)) ∧ (((0 : Int) ≤ (0 : Int)) → (∀ r13 : List Int, r13 = (VS.vals r10) → (∀ r15 : Int × Bool, r15 = (r12_Check (Prod.fst r0) (Prod.fst (Prod.snd r0)) (Prod.fst (Prod.snd (Prod.snd r0))) r13) → ((bdAll r13) ∧ ((bdAll r13) → (((Prod.snd (Prod.snd r7) && Prod.fst (Prod.snd r7) == (0 : Int) && Prod.snd r9 == (5 : Int) && Prod.snd r15) = true → (∀ r18 : VS × Int, r18 = ((VS.read r10 (0 : Int), VS.get r10 (0 : Int))) → (R_ (Prod.snd r18 == (8 : Int))))) ∧ ((Prod.snd (Prod.snd r7) && Prod.fst (Prod.snd r7) == (0 : Int) && Prod.snd r9 == (5 : Int) && Prod.snd r15) = false → (R_ (false)))))))))))))))))))))))
theorem l15_live_begin : l15_live_w   (fun r__ => r__ = l15_live) := by
  unfold l15_live_w
  have h1 : l14_Eight.2.2.2.length ≤ 1000000 := by decide +kernel
  have h2 : ∀ v ∈ l14_Eight.2.2.2, bd32 v := by unfold bd32; decide +kernel
  have h3 : l14_Eight.2.1 ≤ 1024 := by decide +kernel
  rintro r0 rfl
  repeat' first
    | (refine fun r hr => ?_; subst hr)
    | refine ⟨h1, fun _ => ?_⟩
    | refine ⟨h2, fun _ => ?_⟩
    | refine ⟨h3, fun _ => ?_⟩
    | refine ⟨Int.le_refl 0, fun _ => ?_⟩
    | refine ⟨vals_bd _, fun _ => ?_⟩
    | refine ⟨fun hd => ?_, fun hd => ?_⟩
    | fail
  · show (_ == _) = true
    decide +kernel
  · exfalso
    revert hd
    decide +kernel
theorem l15_live_ok : EntryOk Dg Tryz.prog 24 e_l15_live :=
  ent_wp Dg T_r15_Grow_ok (I := [2999998]) Tryz.func24 mix (B := bodyOf Tryz.f24) (by kernel_rfl) rfl (by kernel_rfl) 400
    fun p0  hb hp => ⟨[], fun j => List.getD [] j (fun _ => False), fun j => List.getD [] j (fun _ => (0, 0, 0)), by kernel_rfl, ⟨l15_live_w   (fun r__ => r__ = l15_live), fun _ _ _ => by kernel_rfl, l15_live_begin  ⟩, trivial⟩
def T_l15_live : List (Nat × Entry Sg) := (24, e_l15_live) :: T_r15_Grow
theorem T_l15_live_ok : TableOk Dg Tryz.prog T_l15_live := TableOk.cons Dg l15_live_ok T_r15_Grow_ok
def l15_used (t : Int) (p : Int) (sh : Int) (xs : List Int) (g : Int) : Int × Bool := bif Cf.page ⟨t, p, sh⟩ g then ((aInfo ⟨t, p, sh⟩ xs g).l, (aInfo ⟨t, p, sh⟩ xs g).k == 2) else (0, false)
abbrev c_l15_used : Ct Sg := ⟨none, false, [.agg [.i .i64, .i .i64, .i .i64], .ro [some .u32], .i .i64], .tup [.i .i64, .b]⟩
def e_l15_used : Entry Sg := entC c_l15_used l15_used (fun t p sh xs g => [AGood ⟨t, p, sh⟩ xs])
def l15_used_w (t : Int) (p : Int) (sh : Int) (xs : List Int) (g : Int) (R_ : Int × Bool → Prop) : Prop := (((decide (g < (0 : Int)) || decide (g ≥ p)) = true → (R_ (((0 : Int), false)))) ∧ ((decide (g < (0 : Int)) || decide (g ≥ p)) = false → (∀ r3 : Int × Int × Int, r3 = (x_Info t p sh xs g) → ((AGood { t := t, p := p, s := sh } xs) ∧ ((AGood { t := t, p := p, s := sh } xs) → (((0 : Int) ≤ g ∧ g < p) ∧ (((0 : Int) ≤ g ∧ g < p) → (R_ ((Prod.fst (Prod.snd r3), Prod.fst r3 == (2 : Int)))))))))))
theorem l15_used_begin (t : Int) (p : Int) (sh : Int) (xs : List Int) (g : Int) (hp0 : AGood ⟨t, p, sh⟩ xs) (hl0 : xs.length ≤ 9223372036854775807) : l15_used_w t p sh xs g  (fun r__ => r__ = (l15_used t p sh xs g)) := by
  unfold l15_used_w
  refine ⟨fun hc => ?_, fun hc => ?_⟩
  · rw [page_ne t p sh g] at hc
    show _ = l15_used t p sh xs g
    rw [l15_used, (Bool.not_eq_true' _).mp hc]; rfl
  · rintro r rfl
    rw [page_ne t p sh g] at hc
    have hpg := (Bool.not_eq_false' _).mp hc
    have hg : 0 ≤ g ∧ g < p := by
      simp only [Cf.page, Bool.and_eq_true, decide_eq_true_eq] at hpg; exact hpg
    refine ⟨hp0, fun _ => ⟨hg, fun _ => ?_⟩⟩
    show _ = l15_used t p sh xs g
    rw [l15_used, hpg]; rfl
theorem l15_used_ok : EntryOk Dg Tryz.prog 35 e_l15_used :=
  ent_wp Dg T_l15_live_ok (I := [2999998]) Tryz.func35 mix (B := bodyOf Tryz.f35) (by kernel_rfl) rfl (by kernel_rfl) 400
    fun p0 t p sh xs g hb hp => have hl0 : xs.length ≤ 9223372036854775807 := hb.2.1; have hp0 : AGood ⟨t, p, sh⟩ xs := hp _ (.head _); ⟨[], fun j => List.getD [] j (fun _ => False), fun j => List.getD [] j (fun _ => (0, 0, 0)), by kernel_rfl, ⟨l15_used_w t p sh xs g  (fun r__ => r__ = (l15_used t p sh xs g)), fun _ _ _ => by kernel_rfl, l15_used_begin t p sh xs g hp0 hl0 ⟩, trivial⟩
def T_l15_used : List (Nat × Entry Sg) := (35, e_l15_used) :: T_l15_live
theorem T_l15_used_ok : TableOk Dg Tryz.prog T_l15_used := TableOk.cons Dg l15_used_ok T_l15_live_ok
def SpanTakes (t : Int) (p : Int) (sh : Int) (xs : List Int) (n : Int) : Bool := true
abbrev c_SpanTakes : Ct Sg := ⟨none, false, [.agg [.i .i64, .i .i64, .i .i64], .ro [some .u32], .i .i64], .b⟩
def e_SpanTakes : Entry Sg := entC c_SpanTakes SpanTakes (fun t p sh xs n => [bdAll xs])
def SpanTakes_w (t : Int) (p : Int) (sh : Int) (xs : List Int) (n : Int) (R_ : Bool → Prop) : Prop := (∀ r1 : Bool, r1 = (r12_Few t p sh) → (((!r1) = false → bdAll xs) ∧ (((!r1) = false → bdAll xs) → (((!r1 || !r12_Sound t p sh xs) = true → (∀ r4 : Bool, r4 = (l15_live) → (R_ (r4)))) ∧ ((!r1 || !r12_Sound t p sh xs) = false → (∀ r4 : VS, r4 = (VS.whole xs) → ((List.length xs ≤ (1000000 : Nat)) ∧ ((List.length xs ≤ (1000000 : Nat)) → ((∀ (v : Int), v ∈ xs → bd32 v) ∧ ((∀ (v : Int), v ∈ xs → bd32 v) → (∀ r8 : VS, r8 = (VS.whole xs) → ((List.length xs ≤ (1000000 : Nat)) ∧ ((List.length xs ≤ (1000000 : Nat)) → ((∀ (v : Int), v ∈ xs → bd32 v) ∧ ((∀ (v : Int), v ∈ xs → bd32 v) → (∀ r12 : VS × Int × Bool, r12 = (span_Take r4 t p sh n) → ((p ≤ (1024 : Int)) ∧ ((p ≤ (1024 : Int)) → (∀ r14 : VS × Int × Bool, r14 = (r15_Take r8 t p sh n) → ((p ≤ (1024 : Int)) ∧ ((p ≤ (1024 : Int)) → (((Prod.fst (Prod.snd r12) == Prod.fst (Prod.snd r14) && Prod.snd (Prod.snd r12) == Prod.snd (Prod.snd r14)) = true → (∀ r17 : List Int, r17 = (VS.reads (Prod.fst r12)) → (∀ r19 : List Int × List Int, r19 = ((VS.wrote (Prod.fst r12), VS.puts (Prod.fst r12))) → (∀ r21 : Int, r21 = (VS.miss (Prod.fst r12)) → (∀ r22 : VS × Bool, r22 = ((Prod.fst r14, decide (r17 = VS.reads (Prod.fst r14)) && (decide (Prod.fst r19 = VS.wrote (Prod.fst r14) ∧ Prod.snd r19 = VS.puts (Prod.fst r14)) && decide (r21 = VS.miss (Prod.fst r14))))) → ((List.length (Prod.fst r19) = List.length (Prod.snd r19)) ∧ ((List.length (Prod.fst r19) = List.length (Prod.snd r19)) → (R_ (Prod.snd r22 && l15_live))))))))) ∧ ((Prod.fst (Prod.snd r12) == Prod.fst (Prod.snd r14) && Prod.snd (Prod.snd r12) == Prod.snd (Prod.snd r14)) = false → (R_ (false)))))))))))))))))))))))))
theorem SpanTakes_begin (t : Int) (p : Int) (sh : Int) (xs : List Int) (n : Int) (hp0 : bdAll xs) (hl0 : xs.length ≤ 9223372036854775807) : SpanTakes_w t p sh xs n  (fun r__ => r__ = (SpanTakes t p sh xs n)) := by
  unfold SpanTakes_w
  rintro r1 rfl
  refine ⟨fun _ => hp0, fun _ => ⟨fun hc => (by rintro r rfl; rfl), fun hc => ?_⟩⟩
  have hfs : p ≤ 64 ∧ soundA ⟨t, p, sh⟩ xs = true := by
    simp only [r12_Few, r12_Sound, Bool.or_eq_false_iff, Bool.not_eq_false', decide_eq_true_eq] at hc
    exact hc
  have hgood := sound_good hfs.2 hp0
  have hlen := good_len hgood
  have hok := Cf.ok_iff.1 hgood.ok
  simp only at hok
  have hp : p ≤ 1024 := by omega
  have hpb : p ≤ 9223372036854775807 := by omega
  repeat' first
    | (refine fun r hr => ?_; subst hr)
    | refine ⟨hlen, fun _ => ?_⟩
    | refine ⟨hp0, fun _ => ?_⟩
    | refine ⟨hgood, fun _ => ?_⟩
    | refine ⟨hp, fun _ => ?_⟩
    | refine ⟨fun hd => ?_, fun hd => ?_⟩
    | refine ⟨(by first | omega | (simp [VS.puts]; done)), fun _ => ?_⟩
    | fail
  · have e : span_Take (VS.whole xs) t p sh n = r15_Take (VS.whole xs) t p sh n := rfl
    show (_ && l15_live) = true
    rw [e]; simp [l15_live]
  · have e : span_Take (VS.whole xs) t p sh n = r15_Take (VS.whole xs) t p sh n := rfl
    rw [e] at hd; simp at hd
theorem SpanTakes_ok : EntryOk Dg Tryz.prog 5 e_SpanTakes :=
  ent_wp Dg T_l15_used_ok (I := [2999998]) Tryz.func5 mix (B := bodyOf Tryz.f5) (by kernel_rfl) rfl (by kernel_rfl) 400
    fun p0 t p sh xs n hb hp => have hl0 : xs.length ≤ 9223372036854775807 := hb.2.1; have hp0 : bdAll xs := hp _ (.head _); ⟨[], fun j => List.getD [] j (fun _ => False), fun j => List.getD [] j (fun _ => (0, 0, 0)), by kernel_rfl, ⟨SpanTakes_w t p sh xs n  (fun r__ => r__ = (SpanTakes t p sh xs n)), fun _ _ _ => by kernel_rfl, SpanTakes_begin t p sh xs n hp0 hl0 ⟩, trivial⟩
def T_SpanTakes : List (Nat × Entry Sg) := (5, e_SpanTakes) :: T_l15_used
theorem T_SpanTakes_ok : TableOk Dg Tryz.prog T_SpanTakes := TableOk.cons Dg SpanTakes_ok T_l15_used_ok
theorem SpanTakes_plain (t : Int) (p : Int) (sh : Int) (xs : List Int) (n : Int) (a_0 : Option Addr) (c_0 : Nat) {E_ : World} {G_ : Hp} {w_ : World} (hr0 : RowAt G_ a_0 xs.length [.ints .u32 xs] ∧ xs.length ≤ c_0) (hp0 : bdAll xs) (hS : Sat E_ G_ w_ []) : Calls Tryz.prog 5 #[(.agg #[.int .i64 t, .int .i64 p, .int .i64 sh]), (.slice a_0 xs.length c_0), (.int .i64 n)] w_ (fun en w' => en = .returned (.bool (SpanTakes t p sh xs n)) ∧ Sat E_ G_ w' []) := by
  refine law_of Dg (c := c_SpanTakes) (F := SpanTakes) (pre := fun t p sh xs n => [bdAll xs]) SpanTakes_ok [((.agg #[.int .i64 t, .int .i64 p, .int .i64 sh]), (.none)), ((.slice a_0 xs.length c_0), (.row xs.length [.ints .u32 xs])), ((.int .i64 n), (.none))] [.i t, .i p, .i sh, .li xs, .i n] (by kernel_rfl) _ (by kernel_rfl) (by kernel_rfl) (by kernel_rfl) ?_ ?_ hS
  · intro p hp
    have hp : p ∈ [(bdAll xs : Prop)] := hp
    simp only [List.mem_cons, List.not_mem_nil, or_false] at hp
    rcases hp with rfl
    · exact hp0
  · intro x hx
    simp only [List.mem_cons, List.not_mem_nil, or_false] at hx
    rcases hx with rfl | rfl | rfl
    · first | (simp only [iOk, isOk, and_true, true_and]; done) | (simp only [iOk, isOk, and_true, true_and]; exact ⟨_, _, rfl, trivial⟩) | simp [iOk, isOk]
    · first | (simp only [iOk, isOk, and_true, true_and]; done) | (simp only [iOk, isOk, and_true, true_and]; exact ⟨_, _, rfl, hr0⟩) | simp [iOk, isOk]
    · first | (simp only [iOk, isOk, and_true, true_and]; done) | (simp only [iOk, isOk, and_true, true_and]; exact ⟨_, _, rfl, trivial⟩) | simp [iOk, isOk]
end Go.Proofs.YtajlaibfcigdkaaGreat
namespace Go.Proofs.YtajlaibfcigdkaaGreat
open Go.Sl
def SpanTurns (t : Int) (p : Int) (sh : Int) (xs : List Int) (x0 : Int) (x1 : Int) : Bool := true
abbrev c_SpanTurns : Ct Sg := ⟨none, false, [.agg [.i .i64, .i .i64, .i .i64], .ro [some .u32], .agg [.i .i64, .i .i64]], .b⟩
def e_SpanTurns : Entry Sg := entC c_SpanTurns SpanTurns (fun t p sh xs x0 x1 => [bdAll xs, x0 ≤ 9223372036854775807, x1 ≤ 9223372036854775807])
def SpanTurns_w (t : Int) (p : Int) (sh : Int) (xs : List Int) (x0 : Int) (x1 : Int) (R_ : Bool → Prop) : Prop := (∀ r2 : Bool, r2 = (r12_Few t p sh) → (((!r2) = false → bdAll xs) ∧ (((!r2) = false → bdAll xs) → (((!r2 || !r12_Sound t p sh xs) = true → (∀ r5 : Bool, r5 = (l15_live) → (R_ (r5)))) ∧ ((!r2 || !r12_Sound t p sh xs) = false → (∀ r5 : Int × Bool, r5 = (l15_used t p sh xs x0) → ((AGood { t := t, p := p, s := sh } xs) ∧ ((AGood { t := t, p := p, s := sh } xs) → (((!Prod.snd r5) = true → (∀ r8 : Bool, r8 = (l15_live) → (R_ (r8)))) ∧ ((!Prod.snd r5) = false → (∀ r8 : VS, r8 = (VS.whole xs) → ((List.length xs ≤ (1000000 : Nat)) ∧ ((List.length xs ≤ (1000000 : Nat)) → ((∀ (v : Int), v ∈ xs → bd32 v) ∧ ((∀ (v : Int), v ∈ xs → bd32 v) → (∀ r12 : VS, r12 = (VS.whole xs) → ((List.length xs ≤ (1000000 : Nat)) ∧ ((List.length xs ≤ (1000000 : Nat)) → ((∀ (v : Int), v ∈ xs → bd32 v) ∧ ((∀ (v : Int), v ∈ xs → bd32 v) → (((decide (x1 ≥ (1 : Int)) && decide (x1 < Prod.fst r5)) = true → (∀ r17 : VS, r17 = (span_Shrink r8 t p sh x0 (Prod.fst r5) x1) → ((p ≤ (1024 : Int)) ∧ ((p ≤ (1024 : Int)) → (((0 : Int) ≤ x0) ∧ (((0 : Int) ≤ x0) → (((0 : Int) ≤ x1 ∧ x1 ≤ Prod.fst r5 ∧ Prod.fst r5 ≤ (1024 : Int) ∧ x0 ≤ p) ∧ (((0 : Int) ≤ x1 ∧ x1 ≤ Prod.fst r5 ∧ Prod.fst r5 ≤ (1024 : Int) ∧ x0 ≤ p) → (∀ r21 : VS, r21 = (r15_Shrink r12 t p sh x0 (Prod.fst r5) x1) → ((p ≤ (1024 : Int)) ∧ ((p ≤ (1024 : Int)) → (((0 : Int) ≤ x0) ∧ (((0 : Int) ≤ x0) → (((0 : Int) ≤ x1 ∧ x1 ≤ Prod.fst r5 ∧ Prod.fst r5 ≤ (1024 : Int) ∧ x0 ≤ p) ∧ (((0 : Int) ≤ x1 ∧ x1 ≤ Prod.fst r5 ∧ Prod.fst r5 ≤ (1024 : Int) ∧ x0 ≤ p) → (∀ r25 : List Int, r25 = (VS.reads r17) → (∀ r27 : List Int × List Int, r27 = ((VS.wrote r17, VS.puts r17)) → (∀ r29 : Int, r29 = (VS.miss r17) → (∀ r30 : VS × Bool, r30 = ((r21, decide (r25 = VS.reads r21) && (decide (Prod.fst r27 = VS.wrote r21 ∧ Prod.snd r27 = VS.puts r21) && decide (r29 = VS.miss r21)))) → ((List.length (Prod.fst r27) = List.length (Prod.snd r27)) ∧ ((List.length (Prod.fst r27) = List.length (Prod.snd r27)) → (R_ (Prod.snd r30 && l15_live))))))))))))))))))))))) ∧ ((decide (x1 ≥ (1 : Int)) && decide (x1 < Prod.fst r5)) = false → (((decide (x1 > Prod.fst r5)) = true → (∀ r18 : VS × Bool, r18 = (span_Grow r8 t p sh x0 (Prod.fst r5) x1) → ((p ≤ (1024 : Int)) ∧ ((p ≤ (1024 : Int)) → (((0 : Int) ≤ x0) ∧ (((0 : Int) ≤ x0) → (∀ r21 : VS × Bool, r21 = (r15_Grow r12 t p sh x0 (Prod.fst r5) x1) → ((p ≤ (1024 : Int)) ∧ ((p ≤ (1024 : Int)) → (((0 : Int) ≤ x0) ∧ (((0 : Int) ≤ x0) → (((!Prod.snd r18 == Prod.snd r21) = true → (R_ (false))) ∧ ((!Prod.snd r18 == Prod.snd r21) = false → (∀ r25 : List Int, r25 = (VS.reads (Prod.fst r18)) → (∀ r27 : List Int × List Int, r27 = ((VS.wrote (Prod.fst r18), VS.puts (Prod.fst r18))) → (∀ r29 : Int, r29 = (VS.miss (Prod.fst r18)) → (∀ r30 : VS × Bool, r30 = ((Prod.fst r21, decide (r25 = VS.reads (Prod.fst r21)) && (decide (Prod.fst r27 = VS.wrote (Prod.fst r21) ∧ Prod.snd r27 = VS.puts (Prod.fst r21)) && decide (r29 = VS.miss (Prod.fst r21))))) → ((List.length (Prod.fst r27) = List.length (Prod.snd r27)) ∧ ((List.length (Prod.fst r27) = List.length (Prod.snd r27)) → (R_ (Prod.snd r30 && l15_live))))))))))))))))))))) ∧ ((decide (x1 > Prod.fst r5)) = false → (∀ r18 : VS, r18 = (span_Release r8 t p sh x0 (Prod.fst r5)) → ((p ≤ (1024 : Int)) ∧ ((p ≤ (1024 : Int)) → (((0 : Int) ≤ x0) ∧ (((0 : Int) ≤ x0) → (∀ r21 : VS, r21 = (r15_Release r12 t p sh x0 (Prod.fst r5)) → ((p ≤ (1024 : Int)) ∧ ((p ≤ (1024 : Int)) → (((0 : Int) ≤ x0) ∧ (((0 : Int) ≤ x0) → (∀ r24 : List Int, r24 = (VS.reads r18) → (∀ r26 : List Int × List Int, r26 = ((VS.wrote r18, VS.puts r18)) → (∀ r28 : Int, r28 = (VS.miss r18) → (∀ r29 : VS × Bool, r29 = ((r21, decide (r24 = VS.reads r21) && (decide (Prod.fst r26 = VS.wrote r21 ∧ Prod.snd r26 = VS.puts r21) && decide (r28 = VS.miss r21)))) → ((List.length (Prod.fst r26) = List.length (Prod.snd r26)) ∧ ((List.length (Prod.fst r26) = List.length (Prod.snd r26)) → (R_ (Prod.snd r29 && l15_live))))))))))))))))))))))))))))))))))))))))))
theorem SpanTurns_begin (t : Int) (p : Int) (sh : Int) (xs : List Int) (x0 : Int) (x1 : Int) (hp0 : bdAll xs) (hp1 : x0 ≤ 9223372036854775807) (hp2 : x1 ≤ 9223372036854775807) (hl0 : xs.length ≤ 9223372036854775807) : SpanTurns_w t p sh xs x0 x1  (fun r__ => r__ = (SpanTurns t p sh xs x0 x1)) := by
  unfold SpanTurns_w
  rintro r1 rfl
  refine ⟨fun _ => hp0, fun _ => ⟨fun hc => (by rintro r rfl; rfl), fun hc => ?_⟩⟩
  have hfs : p ≤ 64 ∧ soundA ⟨t, p, sh⟩ xs = true := by
    simp only [r12_Few, r12_Sound, Bool.or_eq_false_iff, Bool.not_eq_false', decide_eq_true_eq] at hc
    exact hc
  have hgood := sound_good hfs.2 hp0
  have hlen := good_len hgood
  have hok := Cf.ok_iff.1 hgood.ok
  simp only at hok
  have hp : p ≤ 1024 := by omega
  have hpb : p ≤ 9223372036854775807 := by omega
  rintro r rfl
  refine ⟨hgood, fun _ => ⟨fun hd => (by rintro r rfl; rfl), fun hd => ?_⟩⟩
  have hu : Cf.page ⟨t, p, sh⟩ x0 = true ∧ ((aInfo ⟨t, p, sh⟩ xs x0).k == 2) = true := by
    unfold l15_used at hd
    cases hpg : Cf.page ⟨t, p, sh⟩ x0 with
    | false => rw [hpg] at hd; cases hd
    | true => rw [hpg] at hd; exact ⟨rfl, by simpa using hd⟩
  have hL : (l15_used t p sh xs x0).1 = (aInfo ⟨t, p, sh⟩ xs x0).l := by unfold l15_used; rw [hu.1]; rfl
  have hg : 0 ≤ x0 ∧ x0 < p := by
    have := hu.1
    simp only [Cf.page, Bool.and_eq_true, decide_eq_true_eq] at this; exact this
  have hi : 1 ≤ (aInfo ⟨t, p, sh⟩ xs x0).l ∧ (aInfo ⟨t, p, sh⟩ xs x0).l ≤ 1024 := by
    have h1 := iGet_cases (cel xs (Cf.info ⟨t, p, sh⟩ x0))
    have h2 : (iGet (cel xs (Cf.info ⟨t, p, sh⟩ x0))).k = 2 := beq_iff_eq.1 hu.2
    have h3 : 1 ≤ (iGet (cel xs (Cf.info ⟨t, p, sh⟩ x0))).l ∧ (iGet (cel xs (Cf.info ⟨t, p, sh⟩ x0))).l ≤ 1024 := by omega
    exact h3
  rw [hL]
  clear hd
  repeat' first
    | (refine fun r hr => ?_; subst hr)
    | refine ⟨hlen, fun _ => ?_⟩
    | refine ⟨hp0, fun _ => ?_⟩
    | refine ⟨hgood, fun _ => ?_⟩
    | refine ⟨hp, fun _ => ?_⟩
    | refine ⟨hg.1, fun _ => ?_⟩
    | (refine ⟨fun hd => ?_, fun hd => ?_⟩ <;> try simp only [Bool.and_eq_true, decide_eq_true_eq] at hd)
    | refine ⟨(by first | omega | (simp [VS.puts]; done)), fun _ => ?_⟩
    | fail
  all_goals first
    | (show (_ && l15_live) = true; simp [l15_live, span_Shrink, r15_Shrink, span_Grow, r15_Grow, span_Release, r15_Release]; done)
    | (exfalso; simp [span_Shrink, r15_Shrink, span_Grow, r15_Grow, span_Release, r15_Release] at hd; done)
    | (trace_state; fail)
theorem SpanTurns_ok : EntryOk Dg Tryz.prog 7 e_SpanTurns :=
  ent_wp Dg T_SpanTakes_ok (I := [2999998]) Tryz.func7 mix (B := bodyOf Tryz.f7) (by kernel_rfl) rfl (by kernel_rfl) 400
    fun p0 t p sh xs x0 x1 hb hp => have hl0 : xs.length ≤ 9223372036854775807 := hb.2.1; have hp0 : bdAll xs := hp _ (.head _); have hp1 : x0 ≤ 9223372036854775807 := hp _ (.tail _ (.head _)); have hp2 : x1 ≤ 9223372036854775807 := hp _ (.tail _ (.tail _ (.head _))); ⟨[], fun j => List.getD [] j (fun _ => False), fun j => List.getD [] j (fun _ => (0, 0, 0)), by kernel_rfl, ⟨SpanTurns_w t p sh xs x0 x1  (fun r__ => r__ = (SpanTurns t p sh xs x0 x1)), fun _ _ _ => by kernel_rfl, SpanTurns_begin t p sh xs x0 x1 hp0 hp1 hp2 hl0 ⟩, trivial⟩
def T_SpanTurns : List (Nat × Entry Sg) := (7, e_SpanTurns) :: T_SpanTakes
theorem T_SpanTurns_ok : TableOk Dg Tryz.prog T_SpanTurns := TableOk.cons Dg SpanTurns_ok T_SpanTakes_ok
theorem SpanTurns_plain (t : Int) (p : Int) (sh : Int) (xs : List Int) (x0 : Int) (x1 : Int) (a_0 : Option Addr) (c_0 : Nat) {E_ : World} {G_ : Hp} {w_ : World} (hr0 : RowAt G_ a_0 xs.length [.ints .u32 xs] ∧ xs.length ≤ c_0) (hp0 : bdAll xs) (hp1 : x0 ≤ 9223372036854775807) (hp2 : x1 ≤ 9223372036854775807) (hS : Sat E_ G_ w_ []) : Calls Tryz.prog 7 #[(.agg #[.int .i64 t, .int .i64 p, .int .i64 sh]), (.slice a_0 xs.length c_0), (.agg #[.int .i64 x0, .int .i64 x1])] w_ (fun en w' => en = .returned (.bool (SpanTurns t p sh xs x0 x1)) ∧ Sat E_ G_ w' []) := by
  refine law_of Dg (c := c_SpanTurns) (F := SpanTurns) (pre := fun t p sh xs x0 x1 => [bdAll xs, x0 ≤ 9223372036854775807, x1 ≤ 9223372036854775807]) SpanTurns_ok [((.agg #[.int .i64 t, .int .i64 p, .int .i64 sh]), (.none)), ((.slice a_0 xs.length c_0), (.row xs.length [.ints .u32 xs])), ((.agg #[.int .i64 x0, .int .i64 x1]), (.none))] [.i t, .i p, .i sh, .li xs, .i x0, .i x1] (by kernel_rfl) _ (by kernel_rfl) (by kernel_rfl) (by kernel_rfl) ?_ ?_ hS
  · intro p hp
    have hp : p ∈ [(bdAll xs : Prop), (x0 ≤ 9223372036854775807 : Prop), (x1 ≤ 9223372036854775807 : Prop)] := hp
    simp only [List.mem_cons, List.not_mem_nil, or_false] at hp
    rcases hp with rfl | rfl | rfl
    · exact hp0
    · exact hp1
    · exact hp2
  · intro x hx
    simp only [List.mem_cons, List.not_mem_nil, or_false] at hx
    rcases hx with rfl | rfl | rfl
    · first | (simp only [iOk, isOk, and_true, true_and]; done) | (simp only [iOk, isOk, and_true, true_and]; exact ⟨_, _, rfl, trivial⟩) | simp [iOk, isOk]
    · first | (simp only [iOk, isOk, and_true, true_and]; done) | (simp only [iOk, isOk, and_true, true_and]; exact ⟨_, _, rfl, hr0⟩) | simp [iOk, isOk]
    · first | (simp only [iOk, isOk, and_true, true_and]; done) | (simp only [iOk, isOk, and_true, true_and]; exact ⟨_, _, rfl, trivial⟩) | simp [iOk, isOk]
end Go.Proofs.YtajlaibfcigdkaaGreat
namespace Go.Proofs.YtajlaibfcigdkaaGreat
open Go.Sl
def large_pages (s : VS) (t : Int) (p : Int) (h : Int) (g : Int) : VS × Int := (pLen ⟨t, p, h⟩ g).run s
abbrev c_large_pages : Ct Sg := ⟨some wView, false, [.agg [.i .i64, .i .i64, .i .i64], .i .i64], .i .i64⟩
def e_large_pages : Entry Sg := entC c_large_pages large_pages (fun _ _ _ _ _ => [])
def large_pages_w (s : VS) (t : Int) (p : Int) (h : Int) (g : Int) (R_ : VS × Int → Prop) : Prop := (∀ r1 : Int, r1 = (place_Info t p h g) → (∀ r2 : VS × Int, r2 = ((VS.read s r1, VS.get s r1)) → (∀ r3 : Int × Int × Int × Bool, r3 = (info_Get (Prod.snd r2)) → (R_ ((Prod.fst r2, Prod.fst (Prod.snd r3)))))))
theorem large_pages_begin (s : VS) (t : Int) (p : Int) (h : Int) (g : Int) : large_pages_w s t p h g  (fun r__ => r__ = (large_pages s t p h g)) := by
  unfold large_pages_w
  repeat' first
    | (refine fun r hr => ?_; subst hr)
    | refine ⟨(by first | exact wu32_bd _ | exact VS.get_bd _ _ | exact zero_bd | exact iVal_bd _ _ _ | exact nv_bd _ | (rw [info_Put_val]; exact iVal_bd _ _ _) | (rw [r09_Value_eq]; exact iVal_bd _ _ _) | assumption | omega), fun _ => ?_⟩
    | refine ⟨fun hc => ?_, fun hc => ?_⟩
    | (refine fun hr => ?_; subst hr)
    | fail
  all_goals
    simp only [link_page_eq, page_ne t p h, link_next, link_prev, place_Next_eq, place_Prev_eq, r07_Next_eq, r07_Prev_eq, link_to, w64g, w64g1, wrapu_nv, nvw, nvw2, bin_page, place_Info_eq, place_Foot_eq, r07_Info_eq, r07_Foot_eq, place_Bin_eq, r07_Bin_eq, info_Put_val, r09_Value_eq, bin_Of, r14_Of, infoG1, infoG2, infoG3, rinfoG1, rinfoG2, rinfoG3, gt_iff_lt, bne, Bool.not_eq_true', Bool.not_eq_false', reduceCtorEq] at *
  all_goals
    skip
  all_goals
    simp only [large_pages, pLen, Pg.run_get, Pg.run_put, Pg.run_ret, Pg.run_bind, Pg.run_cond, gt_iff_lt, cond_true, cond_false, *]
  all_goals
    try rfl
theorem large_pages_ok : EntryOk Dg Tryz.prog 111 e_large_pages :=
  ent_wp Dg T_SpanTurns_ok (I := [2999998]) Tryz.func111 mix (B := bodyOf Tryz.f111) (by kernel_rfl) rfl (by kernel_rfl) 400
    fun p0 s t p h g hb hp => ⟨[], fun j => List.getD [] j (fun _ => False), fun j => List.getD [] j (fun _ => (0, 0, 0)), by kernel_rfl, ⟨large_pages_w s t p h g  (fun r__ => r__ = (large_pages s t p h g)), fun _ _ _ => by kernel_rfl, large_pages_begin s t p h g ⟩, trivial⟩
def T_large_pages : List (Nat × Entry Sg) := (111, e_large_pages) :: T_SpanTurns
theorem T_large_pages_ok : TableOk Dg Tryz.prog T_large_pages := TableOk.cons Dg large_pages_ok T_SpanTurns_ok
def large_Alloc (s : VS) (t : Int) (p : Int) (h : Int) (n : Int) : VS × Int × Bool := (qLAlloc ⟨t, p, h⟩ n).run s
abbrev c_large_Alloc : Ct Sg := ⟨some wView, false, [.agg [.i .i64, .i .i64, .i .i64], .i .i64], .tup [.i .i64, .b]⟩
def e_large_Alloc : Entry Sg := entC c_large_Alloc large_Alloc (fun s t p h n => [p ≤ 1024])
def large_Alloc_w (s : VS) (t : Int) (p : Int) (h : Int) (n : Int) (R_ : VS × Int × Bool → Prop) : Prop := (∀ r1 : VS × Int × Bool, r1 = (span_Take s t p h n) → ((p ≤ (1024 : Int)) ∧ ((p ≤ (1024 : Int)) → (((Prod.snd (Prod.snd r1)) = true → (∀ r4 : VS × Int, r4 = ((VS.read (Prod.fst r1) (1 : Int), VS.get (Prod.fst r1) (1 : Int))) → (∀ r5 : VS, r5 = (VS.set (Prod.fst r4) (1 : Int) (IntKind.wrap IntKind.u32 (Prod.snd r4 + (1 : Int)))) → ((bd32 (IntKind.wrap IntKind.u32 (Prod.snd r4 + (1 : Int)))) ∧ ((bd32 (IntKind.wrap IntKind.u32 (Prod.snd r4 + (1 : Int)))) → (R_ ((r5, Prod.fst (Prod.snd r1), Prod.snd (Prod.snd r1))))))))) ∧ ((Prod.snd (Prod.snd r1)) = false → (R_ ((Prod.fst r1, Prod.fst (Prod.snd r1), Prod.snd (Prod.snd r1)))))))))
theorem large_Alloc_begin (s : VS) (t : Int) (p : Int) (h : Int) (n : Int) (hp0 : p ≤ 1024) : large_Alloc_w s t p h n  (fun r__ => r__ = (large_Alloc s t p h n)) := by
  unfold large_Alloc_w
  repeat' first
    | (refine fun r hr => ?_; subst hr)
    | refine ⟨(by first | exact wu32_bd _ | exact VS.get_bd _ _ | exact zero_bd | exact iVal_bd _ _ _ | exact nv_bd _ | (rw [info_Put_val]; exact iVal_bd _ _ _) | (rw [r09_Value_eq]; exact iVal_bd _ _ _) | assumption | omega), fun _ => ?_⟩
    | refine ⟨fun hc => ?_, fun hc => ?_⟩
    | (refine fun hr => ?_; subst hr)
    | fail
  all_goals
    simp only [link_page_eq, page_ne t p h, link_next, link_prev, place_Next_eq, place_Prev_eq, r07_Next_eq, r07_Prev_eq, link_to, w64g, w64g1, wrapu_nv, nvw, nvw2, bin_page, place_Info_eq, place_Foot_eq, r07_Info_eq, r07_Foot_eq, place_Bin_eq, r07_Bin_eq, info_Put_val, r09_Value_eq, bin_Of, r14_Of, infoG1, infoG2, infoG3, rinfoG1, rinfoG2, rinfoG3, gt_iff_lt, span_Take, r15_Take, span_Release, r15_Release, nvadd, nvsub, nvwi0, nvaddw, nvnegw, r14_Info, pInfo, large_pages, pLen, Pg.run_get, Pg.run_ret, bne, Bool.not_eq_true', Bool.not_eq_false', reduceCtorEq] at *
  all_goals
    skip
    try have hq := qTake_no _ _ _ ‹((qTake _ _).run _).2.2 = false›
  all_goals
    simp only [large_Alloc, qLAlloc, Pg.run_get, Pg.run_put, Pg.run_ret, Pg.run_bind, Pg.run_cond, gt_iff_lt, cond_true, cond_false, *]
  all_goals
    try rfl
theorem large_Alloc_ok : EntryOk Dg Tryz.prog 49 e_large_Alloc :=
  ent_wp Dg T_large_pages_ok (I := [112, 113, 114, 2999998]) Tryz.func49 mix (B := bodyOf Tryz.f49) (by kernel_rfl) rfl (by kernel_rfl) 400
    fun p0 s t p h n hb hp => have hp0 : p ≤ 1024 := hp _ (.head _); ⟨[], fun j => List.getD [] j (fun _ => False), fun j => List.getD [] j (fun _ => (0, 0, 0)), by kernel_rfl, ⟨large_Alloc_w s t p h n  (fun r__ => r__ = (large_Alloc s t p h n)), fun _ _ _ => by kernel_rfl, large_Alloc_begin s t p h n hp0 ⟩, trivial⟩
def T_large_Alloc : List (Nat × Entry Sg) := (49, e_large_Alloc) :: T_large_pages
theorem T_large_Alloc_ok : TableOk Dg Tryz.prog T_large_Alloc := TableOk.cons Dg large_Alloc_ok T_large_pages_ok
def large_Free (s : VS) (t : Int) (p : Int) (h : Int) (g : Int) : VS := ((qLFree ⟨t, p, h⟩ g).run s).1
abbrev c_large_Free : Ct Sg := ⟨some wView, false, [.agg [.i .i64, .i .i64, .i .i64], .i .i64], .skip⟩
def e_large_Free : Entry Sg := entC c_large_Free large_Free (fun s t p h g => [p ≤ 1024, 0 ≤ g])
def large_Free_w (s : VS) (t : Int) (p : Int) (h : Int) (g : Int) (R_ : VS → Prop) : Prop := (tw_ (∀ r1 : VS × Int, r1 = (large_pages s t p h g) → (∀ r2 : VS, r2 = (span_Release (Prod.fst r1) t p h g (Prod.snd r1)) → ((p ≤ (1024 : Int)) ∧ ((p ≤ (1024 : Int)) → (((0 : Int) ≤ g) ∧ (((0 : Int) ≤ g) → (∀ r5 : VS × Int, r5 = ((VS.read r2 (1 : Int), VS.get r2 (1 : Int))) → (∀ r6 : VS, r6 = (VS.set (Prod.fst r5) (1 : Int) (IntKind.wrap IntKind.u32 (Prod.snd r5 - (1 : Int)))) → ((bd32 (IntKind.wrap IntKind.u32 (Prod.snd r5 - (1 : Int)))) ∧ ((bd32 (IntKind.wrap IntKind.u32 (Prod.snd r5 - (1 : Int)))) → (R_ (r6)))))))))))))
theorem large_Free_begin (s : VS) (t : Int) (p : Int) (h : Int) (g : Int) (hp0 : p ≤ 1024) (hp1 : 0 ≤ g) : large_Free_w s t p h g  (fun r__ => r__ = (large_Free s t p h g)) := by
  unfold large_Free_w
  repeat' first
    | (refine fun r hr => ?_; subst hr)
    | refine ⟨(by first | exact wu32_bd _ | exact VS.get_bd _ _ | exact zero_bd | exact iVal_bd _ _ _ | exact nv_bd _ | (rw [info_Put_val]; exact iVal_bd _ _ _) | (rw [r09_Value_eq]; exact iVal_bd _ _ _) | assumption | omega), fun _ => ?_⟩
    | refine ⟨fun hc => ?_, fun hc => ?_⟩
    | (refine fun hr => ?_; subst hr)
    | fail
  all_goals
    simp only [link_page_eq, page_ne t p h, link_next, link_prev, place_Next_eq, place_Prev_eq, r07_Next_eq, r07_Prev_eq, link_to, w64g, w64g1, wrapu_nv, nvw, nvw2, bin_page, place_Info_eq, place_Foot_eq, r07_Info_eq, r07_Foot_eq, place_Bin_eq, r07_Bin_eq, info_Put_val, r09_Value_eq, bin_Of, r14_Of, infoG1, infoG2, infoG3, rinfoG1, rinfoG2, rinfoG3, gt_iff_lt, span_Take, r15_Take, span_Release, r15_Release, nvadd, nvsub, nvwi0, nvaddw, nvnegw, r14_Info, pInfo, large_pages, pLen, Pg.run_get, Pg.run_ret, bne, Bool.not_eq_true', Bool.not_eq_false', reduceCtorEq] at *
  all_goals
    skip
  all_goals
    simp only [large_Free, qLFree, pLen, Pg.run_get, Pg.run_put, Pg.run_ret, Pg.run_bind, Pg.run_cond, gt_iff_lt, cond_true, cond_false, *]
  all_goals
    try rfl
theorem large_Free_ok : EntryOk Dg Tryz.prog 52 e_large_Free :=
  ent_wp Dg T_large_Alloc_ok (I := [112, 113, 114, 2999998]) Tryz.func52 mix (B := bodyOf Tryz.f52) (by kernel_rfl) rfl (by kernel_rfl) 400
    fun p0 s t p h g hb hp => have hp0 : p ≤ 1024 := hp _ (.head _); have hp1 : 0 ≤ g := hp _ (.tail _ (.head _)); ⟨[], fun j => List.getD [] j (fun _ => False), fun j => List.getD [] j (fun _ => (0, 0, 0)), by kernel_rfl, ⟨large_Free_w s t p h g  (fun r__ => r__ = (large_Free s t p h g)), fun _ _ _ => by kernel_rfl, large_Free_begin s t p h g hp0 hp1 ⟩, trivial⟩
def T_large_Free : List (Nat × Entry Sg) := (52, e_large_Free) :: T_large_Alloc
theorem T_large_Free_ok : TableOk Dg Tryz.prog T_large_Free := TableOk.cons Dg large_Free_ok T_large_Alloc_ok
def large_Resize (s : VS) (t : Int) (p : Int) (h : Int) (g : Int) (m : Int) : VS × Bool := (qLResize ⟨t, p, h⟩ g m).run s
abbrev c_large_Resize : Ct Sg := ⟨some wView, false, [.agg [.i .i64, .i .i64, .i .i64], .i .i64, .i .i64], .b⟩
def e_large_Resize : Entry Sg := entC c_large_Resize large_Resize (fun s t p h g m => [p ≤ 1024, 0 ≤ g, g ≤ p, 1 ≤ (iGet (s.get (Cf.info ⟨t, p, h⟩ g))).l ∧ (iGet (s.get (Cf.info ⟨t, p, h⟩ g))).l ≤ p])
def large_Resize_w (s : VS) (t : Int) (p : Int) (h : Int) (g : Int) (m : Int) (R_ : VS × Bool → Prop) : Prop := (∀ r1 : VS × Int, r1 = (large_pages s t p h g) → (((decide (m < (1 : Int)) || decide (m > p)) = true → (R_ ((Prod.fst r1, false)))) ∧ ((decide (m < (1 : Int)) || decide (m > p)) = false → (((decide (m > Prod.snd r1)) = true → (∀ r4 : VS × Bool, r4 = (span_Grow (Prod.fst r1) t p h g (Prod.snd r1) m) → ((p ≤ (1024 : Int)) ∧ ((p ≤ (1024 : Int)) → (((0 : Int) ≤ g) ∧ (((0 : Int) ≤ g) → (R_ ((Prod.fst r4, Prod.snd r4))))))))) ∧ ((decide (m > Prod.snd r1)) = false → (((decide (m < Prod.snd r1)) = true → (∀ r5 : VS, r5 = (span_Shrink (Prod.fst r1) t p h g (Prod.snd r1) m) → ((p ≤ (1024 : Int)) ∧ ((p ≤ (1024 : Int)) → (((0 : Int) ≤ g) ∧ (((0 : Int) ≤ g) → (((0 : Int) ≤ m ∧ m ≤ Prod.snd r1 ∧ Prod.snd r1 ≤ (1024 : Int) ∧ g ≤ p) ∧ (((0 : Int) ≤ m ∧ m ≤ Prod.snd r1 ∧ Prod.snd r1 ≤ (1024 : Int) ∧ g ≤ p) → (R_ ((r5, true))))))))))) ∧ ((decide (m < Prod.snd r1)) = false → (R_ ((Prod.fst r1, true))))))))))
theorem large_Resize_begin (s : VS) (t : Int) (p : Int) (h : Int) (g : Int) (m : Int) (hp0 : p ≤ 1024) (hp1 : 0 ≤ g) (hp2 : g ≤ p) (hp3 : 1 ≤ (iGet (s.get (Cf.info ⟨t, p, h⟩ g))).l ∧ (iGet (s.get (Cf.info ⟨t, p, h⟩ g))).l ≤ p) : large_Resize_w s t p h g m  (fun r__ => r__ = (large_Resize s t p h g m)) := by
  unfold large_Resize_w
  have hL : (large_pages s t p h g).2 = (iGet (s.get (Cf.info ⟨t, p, h⟩ g))).l := rfl
  have hb := iGet_bd (s.get (Cf.info ⟨t, p, h⟩ g))
  rintro r1 rfl
  rw [hL]
  generalize hn : (iGet (s.get (Cf.info ⟨t, p, h⟩ g))).l = n at *
  have key : ∀ x : VS × Bool, x = (bif decide (m < 1) || decide (p < m) then Pg.ret false else bif decide (n < m) then qGrow ⟨t, p, h⟩ g n m else bif decide (m < n) then (qShrink ⟨t, p, h⟩ g n m).bind fun _ => .ret true else .ret true).run (s.read (Cf.info ⟨t, p, h⟩ g)) → x = large_Resize s t p h g m := by
    rintro x rfl
    rw [← hn]; rfl
  have g1 : decide (m ≥ 1) = !decide (m < 1) := by
    apply Bool.eq_iff_iff.2
    simp only [ge_iff_le, decide_eq_true_eq, Bool.not_eq_true', decide_eq_false_iff_not]; omega
  have g2 : decide (m ≤ p) = !decide (p < m) := by
    apply Bool.eq_iff_iff.2
    simp only [decide_eq_true_eq, Bool.not_eq_true', decide_eq_false_iff_not]; omega
  have g0 : (m == n) = (!decide (n < m) && !decide (m < n)) := by
    apply Bool.eq_iff_iff.2
    simp only [beq_iff_eq, Bool.and_eq_true, Bool.not_eq_true', decide_eq_false_iff_not]; omega
  simp only [gt_iff_lt, g0, g1, g2]
  clear g0 g1 g2
  cases e1 : decide (m < 1) <;> cases e2 : decide (p < m) <;> cases e3 : decide (n < m) <;> cases e4 : decide (m < n) <;> simp only [e1, e2, e3, e4, Bool.not_true, Bool.not_false, Bool.or_true, Bool.or_false, Bool.and_true, Bool.and_false, cond_true, cond_false, true_implies, false_implies, reduceCtorEq, and_true, true_and] at key ⊢ <;> simp only [decide_eq_true_eq, decide_eq_false_iff_not] at e1 e2 e3 e4 <;> first
    | (exfalso; omega)
    | exact key _ rfl
    | (rintro r rfl; exact ⟨hp0, fun _ => ⟨hp1, fun _ => key _ rfl⟩⟩)
    | (rintro r rfl; exact ⟨hp0, fun _ => ⟨hp1, fun _ => ⟨⟨by omega, by omega, by omega, hp2⟩, fun _ => key _ (by rw [Pg.run_bind]; rfl)⟩⟩⟩)
    | (trace_state; fail)
theorem large_Resize_ok : EntryOk Dg Tryz.prog 48 e_large_Resize :=
  ent_wp Dg T_large_Free_ok (I := [2999998]) Tryz.func48 mix (B := bodyOf Tryz.f48) (by kernel_rfl) rfl (by kernel_rfl) 400
    fun p0 s t p h g m hb hp => have hp0 : p ≤ 1024 := hp _ (.head _); have hp1 : 0 ≤ g := hp _ (.tail _ (.head _)); have hp2 : g ≤ p := hp _ (.tail _ (.tail _ (.head _))); have hp3 : 1 ≤ (iGet (s.get (Cf.info ⟨t, p, h⟩ g))).l ∧ (iGet (s.get (Cf.info ⟨t, p, h⟩ g))).l ≤ p := hp _ (.tail _ (.tail _ (.tail _ (.head _)))); ⟨[], fun j => List.getD [] j (fun _ => False), fun j => List.getD [] j (fun _ => (0, 0, 0)), by kernel_rfl, ⟨large_Resize_w s t p h g m  (fun r__ => r__ = (large_Resize s t p h g m)), fun _ _ _ => by kernel_rfl, large_Resize_begin s t p h g m hp0 hp1 hp2 hp3 ⟩, trivial⟩
def T_large_Resize : List (Nat × Entry Sg) := (48, e_large_Resize) :: T_large_Free
theorem T_large_Resize_ok : TableOk Dg Tryz.prog T_large_Resize := TableOk.cons Dg large_Resize_ok T_large_Free_ok
def r19_Alloc (s : VS) (t : Int) (p : Int) (h : Int) (n : Int) : VS × Int × Bool := (qLAlloc ⟨t, p, h⟩ n).run s
abbrev c_r19_Alloc : Ct Sg := ⟨some wRef, false, [.agg [.i .i64, .i .i64, .i .i64], .i .i64], .tup [.i .i64, .b]⟩
def e_r19_Alloc : Entry Sg := entC c_r19_Alloc r19_Alloc (fun s t p h n => [p ≤ 1024])
def r19_Alloc_w (s : VS) (t : Int) (p : Int) (h : Int) (n : Int) (R_ : VS × Int × Bool → Prop) : Prop := (∀ r1 : VS × Int × Bool, r1 = (r15_Take s t p h n) → ((p ≤ (1024 : Int)) ∧ ((p ≤ (1024 : Int)) → (((!Prod.snd (Prod.snd r1)) = true → (R_ ((Prod.fst r1, (0 : Int), false)))) ∧ ((!Prod.snd (Prod.snd r1)) = false → (∀ r4 : VS × Int, r4 = ((VS.read (Prod.fst r1) (1 : Int), VS.get (Prod.fst r1) (1 : Int))) → (∀ r5 : VS, r5 = (VS.set (Prod.fst r4) (1 : Int) (IntKind.wrap IntKind.u32 (Prod.snd r4 + (1 : Int)))) → ((bd32 (IntKind.wrap IntKind.u32 (Prod.snd r4 + (1 : Int)))) ∧ ((bd32 (IntKind.wrap IntKind.u32 (Prod.snd r4 + (1 : Int)))) → (R_ ((r5, Prod.fst (Prod.snd r1), true))))))))))))
theorem r19_Alloc_begin (s : VS) (t : Int) (p : Int) (h : Int) (n : Int) (hp0 : p ≤ 1024) : r19_Alloc_w s t p h n  (fun r__ => r__ = (r19_Alloc s t p h n)) := by
  unfold r19_Alloc_w
  repeat' first
    | (refine fun r hr => ?_; subst hr)
    | refine ⟨(by first | exact wu32_bd _ | exact VS.get_bd _ _ | exact zero_bd | exact iVal_bd _ _ _ | exact nv_bd _ | (rw [info_Put_val]; exact iVal_bd _ _ _) | (rw [r09_Value_eq]; exact iVal_bd _ _ _) | assumption | omega), fun _ => ?_⟩
    | refine ⟨fun hc => ?_, fun hc => ?_⟩
    | (refine fun hr => ?_; subst hr)
    | fail
  all_goals
    simp only [link_page_eq, page_ne t p h, link_next, link_prev, place_Next_eq, place_Prev_eq, r07_Next_eq, r07_Prev_eq, link_to, w64g, w64g1, wrapu_nv, nvw, nvw2, bin_page, place_Info_eq, place_Foot_eq, r07_Info_eq, r07_Foot_eq, place_Bin_eq, r07_Bin_eq, info_Put_val, r09_Value_eq, bin_Of, r14_Of, infoG1, infoG2, infoG3, rinfoG1, rinfoG2, rinfoG3, gt_iff_lt, span_Take, r15_Take, span_Release, r15_Release, nvadd, nvsub, nvwi0, nvaddw, nvnegw, r14_Info, pInfo, large_pages, pLen, Pg.run_get, Pg.run_ret, bne, Bool.not_eq_true', Bool.not_eq_false', reduceCtorEq] at *
  all_goals
    skip
  all_goals
    simp only [r19_Alloc, qLAlloc, Pg.run_get, Pg.run_put, Pg.run_ret, Pg.run_bind, Pg.run_cond, gt_iff_lt, cond_true, cond_false, *]
  all_goals
    try rfl
theorem r19_Alloc_ok : EntryOk Dg Tryz.prog 50 e_r19_Alloc :=
  ent_wp Dg T_large_Resize_ok (I := [2999998]) Tryz.func50 mix (B := bodyOf Tryz.f50) (by kernel_rfl) rfl (by kernel_rfl) 400
    fun p0 s t p h n hb hp => have hp0 : p ≤ 1024 := hp _ (.head _); ⟨[], fun j => List.getD [] j (fun _ => False), fun j => List.getD [] j (fun _ => (0, 0, 0)), by kernel_rfl, ⟨r19_Alloc_w s t p h n  (fun r__ => r__ = (r19_Alloc s t p h n)), fun _ _ _ => by kernel_rfl, r19_Alloc_begin s t p h n hp0 ⟩, trivial⟩
def T_r19_Alloc : List (Nat × Entry Sg) := (50, e_r19_Alloc) :: T_large_Resize
theorem T_r19_Alloc_ok : TableOk Dg Tryz.prog T_r19_Alloc := TableOk.cons Dg r19_Alloc_ok T_large_Resize_ok
def r19_Free (s : VS) (t : Int) (p : Int) (h : Int) (g : Int) : VS := ((qLFree ⟨t, p, h⟩ g).run s).1
abbrev c_r19_Free : Ct Sg := ⟨some wRef, false, [.agg [.i .i64, .i .i64, .i .i64], .i .i64], .skip⟩
def e_r19_Free : Entry Sg := entC c_r19_Free r19_Free (fun s t p h g => [p ≤ 1024, 0 ≤ g])
def r19_Free_w (s : VS) (t : Int) (p : Int) (h : Int) (g : Int) (R_ : VS → Prop) : Prop := (∀ r1 : VS × Int × Int × Int, r1 = (r14_Info s t p h g) → (∀ r2 : VS, r2 = (r15_Release (Prod.fst r1) t p h g (Prod.fst (Prod.snd (Prod.snd r1)))) → ((p ≤ (1024 : Int)) ∧ ((p ≤ (1024 : Int)) → (((0 : Int) ≤ g) ∧ (((0 : Int) ≤ g) → (∀ r5 : VS × Int, r5 = ((VS.read r2 (1 : Int), VS.get r2 (1 : Int))) → (∀ r6 : VS, r6 = (VS.set (Prod.fst r5) (1 : Int) (IntKind.wrap IntKind.u32 (Prod.snd r5 - (1 : Int)))) → ((bd32 (IntKind.wrap IntKind.u32 (Prod.snd r5 - (1 : Int)))) ∧ ((bd32 (IntKind.wrap IntKind.u32 (Prod.snd r5 - (1 : Int)))) → (R_ (r6))))))))))))
theorem r19_Free_begin (s : VS) (t : Int) (p : Int) (h : Int) (g : Int) (hp0 : p ≤ 1024) (hp1 : 0 ≤ g) : r19_Free_w s t p h g  (fun r__ => r__ = (r19_Free s t p h g)) := by
  unfold r19_Free_w
  repeat' first
    | (refine fun r hr => ?_; subst hr)
    | refine ⟨(by first | exact wu32_bd _ | exact VS.get_bd _ _ | exact zero_bd | exact iVal_bd _ _ _ | exact nv_bd _ | (rw [info_Put_val]; exact iVal_bd _ _ _) | (rw [r09_Value_eq]; exact iVal_bd _ _ _) | assumption | omega), fun _ => ?_⟩
    | refine ⟨fun hc => ?_, fun hc => ?_⟩
    | (refine fun hr => ?_; subst hr)
    | fail
  all_goals
    simp only [link_page_eq, page_ne t p h, link_next, link_prev, place_Next_eq, place_Prev_eq, r07_Next_eq, r07_Prev_eq, link_to, w64g, w64g1, wrapu_nv, nvw, nvw2, bin_page, place_Info_eq, place_Foot_eq, r07_Info_eq, r07_Foot_eq, place_Bin_eq, r07_Bin_eq, info_Put_val, r09_Value_eq, bin_Of, r14_Of, infoG1, infoG2, infoG3, rinfoG1, rinfoG2, rinfoG3, gt_iff_lt, span_Take, r15_Take, span_Release, r15_Release, nvadd, nvsub, nvwi0, nvaddw, nvnegw, r14_Info, pInfo, large_pages, pLen, Pg.run_get, Pg.run_ret, bne, Bool.not_eq_true', Bool.not_eq_false', reduceCtorEq] at *
  all_goals
    skip
  all_goals
    simp only [r19_Free, qLFree, pLen, Pg.run_get, Pg.run_put, Pg.run_ret, Pg.run_bind, Pg.run_cond, gt_iff_lt, cond_true, cond_false, *]
  all_goals
    try rfl
theorem r19_Free_ok : EntryOk Dg Tryz.prog 53 e_r19_Free :=
  ent_wp Dg T_r19_Alloc_ok (I := [2999998]) Tryz.func53 mix (B := bodyOf Tryz.f53) (by kernel_rfl) rfl (by kernel_rfl) 400
    fun p0 s t p h g hb hp => have hp0 : p ≤ 1024 := hp _ (.head _); have hp1 : 0 ≤ g := hp _ (.tail _ (.head _)); ⟨[], fun j => List.getD [] j (fun _ => False), fun j => List.getD [] j (fun _ => (0, 0, 0)), by kernel_rfl, ⟨r19_Free_w s t p h g  (fun r__ => r__ = (r19_Free s t p h g)), fun _ _ _ => by kernel_rfl, r19_Free_begin s t p h g hp0 hp1 ⟩, trivial⟩
def T_r19_Free : List (Nat × Entry Sg) := (53, e_r19_Free) :: T_r19_Alloc
theorem T_r19_Free_ok : TableOk Dg Tryz.prog T_r19_Free := TableOk.cons Dg r19_Free_ok T_r19_Alloc_ok
def r19_Resize (s : VS) (t : Int) (p : Int) (h : Int) (g : Int) (m : Int) : VS × Bool := (qLResize ⟨t, p, h⟩ g m).run s
abbrev c_r19_Resize : Ct Sg := ⟨some wRef, false, [.agg [.i .i64, .i .i64, .i .i64], .i .i64, .i .i64], .b⟩
def e_r19_Resize : Entry Sg := entC c_r19_Resize r19_Resize (fun s t p h g m => [p ≤ 1024, 0 ≤ g, g ≤ p, 1 ≤ (iGet (s.get (Cf.info ⟨t, p, h⟩ g))).l ∧ (iGet (s.get (Cf.info ⟨t, p, h⟩ g))).l ≤ p])
def r19_Resize_w (s : VS) (t : Int) (p : Int) (h : Int) (g : Int) (m : Int) (R_ : VS × Bool → Prop) : Prop := (∀ r1 : VS × Int × Int × Int, r1 = (r14_Info s t p h g) → (((m == Prod.fst (Prod.snd (Prod.snd r1))) = true → (R_ ((Prod.fst r1, true)))) ∧ ((m == Prod.fst (Prod.snd (Prod.snd r1))) = false → (((decide (m ≥ (1 : Int)) && decide (m < Prod.fst (Prod.snd (Prod.snd r1)))) = true → (∀ r4 : VS, r4 = (r15_Shrink (Prod.fst r1) t p h g (Prod.fst (Prod.snd (Prod.snd r1))) m) → ((p ≤ (1024 : Int)) ∧ ((p ≤ (1024 : Int)) → (((0 : Int) ≤ g) ∧ (((0 : Int) ≤ g) → (((0 : Int) ≤ m ∧ m ≤ Prod.fst (Prod.snd (Prod.snd r1)) ∧ Prod.fst (Prod.snd (Prod.snd r1)) ≤ (1024 : Int) ∧ g ≤ p) ∧ (((0 : Int) ≤ m ∧ m ≤ Prod.fst (Prod.snd (Prod.snd r1)) ∧ Prod.fst (Prod.snd (Prod.snd r1)) ≤ (1024 : Int) ∧ g ≤ p) → (R_ ((r4, true))))))))))) ∧ ((decide (m ≥ (1 : Int)) && decide (m < Prod.fst (Prod.snd (Prod.snd r1)))) = false → (((decide (m > Prod.fst (Prod.snd (Prod.snd r1))) && decide (m ≤ p)) = true → (∀ r5 : VS × Bool, r5 = (r15_Grow (Prod.fst r1) t p h g (Prod.fst (Prod.snd (Prod.snd r1))) m) → ((p ≤ (1024 : Int)) ∧ ((p ≤ (1024 : Int)) → (((0 : Int) ≤ g) ∧ (((0 : Int) ≤ g) → (R_ ((Prod.fst r5, Prod.snd r5))))))))) ∧ ((decide (m > Prod.fst (Prod.snd (Prod.snd r1))) && decide (m ≤ p)) = false → (R_ ((Prod.fst r1, false))))))))))
theorem r19_Resize_begin (s : VS) (t : Int) (p : Int) (h : Int) (g : Int) (m : Int) (hp0 : p ≤ 1024) (hp1 : 0 ≤ g) (hp2 : g ≤ p) (hp3 : 1 ≤ (iGet (s.get (Cf.info ⟨t, p, h⟩ g))).l ∧ (iGet (s.get (Cf.info ⟨t, p, h⟩ g))).l ≤ p) : r19_Resize_w s t p h g m  (fun r__ => r__ = (r19_Resize s t p h g m)) := by
  unfold r19_Resize_w
  have hL : (r14_Info s t p h g).2.2.1 = (iGet (s.get (Cf.info ⟨t, p, h⟩ g))).l := rfl
  have hb := iGet_bd (s.get (Cf.info ⟨t, p, h⟩ g))
  rintro r1 rfl
  rw [hL]
  generalize hn : (iGet (s.get (Cf.info ⟨t, p, h⟩ g))).l = n at *
  have key : ∀ x : VS × Bool, x = (bif decide (m < 1) || decide (p < m) then Pg.ret false else bif decide (n < m) then qGrow ⟨t, p, h⟩ g n m else bif decide (m < n) then (qShrink ⟨t, p, h⟩ g n m).bind fun _ => .ret true else .ret true).run (s.read (Cf.info ⟨t, p, h⟩ g)) → x = r19_Resize s t p h g m := by
    rintro x rfl
    rw [← hn]; rfl
  have g1 : decide (m ≥ 1) = !decide (m < 1) := by
    apply Bool.eq_iff_iff.2
    simp only [ge_iff_le, decide_eq_true_eq, Bool.not_eq_true', decide_eq_false_iff_not]; omega
  have g2 : decide (m ≤ p) = !decide (p < m) := by
    apply Bool.eq_iff_iff.2
    simp only [decide_eq_true_eq, Bool.not_eq_true', decide_eq_false_iff_not]; omega
  have g0 : (m == n) = (!decide (n < m) && !decide (m < n)) := by
    apply Bool.eq_iff_iff.2
    simp only [beq_iff_eq, Bool.and_eq_true, Bool.not_eq_true', decide_eq_false_iff_not]; omega
  simp only [gt_iff_lt, g0, g1, g2]
  clear g0 g1 g2
  cases e1 : decide (m < 1) <;> cases e2 : decide (p < m) <;> cases e3 : decide (n < m) <;> cases e4 : decide (m < n) <;> simp only [e1, e2, e3, e4, Bool.not_true, Bool.not_false, Bool.or_true, Bool.or_false, Bool.and_true, Bool.and_false, cond_true, cond_false, true_implies, false_implies, reduceCtorEq, and_true, true_and] at key ⊢ <;> simp only [decide_eq_true_eq, decide_eq_false_iff_not] at e1 e2 e3 e4 <;> first
    | (exfalso; omega)
    | exact key _ rfl
    | (rintro r rfl; exact ⟨hp0, fun _ => ⟨hp1, fun _ => key _ rfl⟩⟩)
    | (rintro r rfl; exact ⟨hp0, fun _ => ⟨hp1, fun _ => ⟨⟨by omega, by omega, by omega, hp2⟩, fun _ => key _ (by rw [Pg.run_bind]; rfl)⟩⟩⟩)
    | (trace_state; fail)
theorem r19_Resize_ok : EntryOk Dg Tryz.prog 51 e_r19_Resize :=
  ent_wp Dg T_r19_Free_ok (I := [2999998]) Tryz.func51 mix (B := bodyOf Tryz.f51) (by kernel_rfl) rfl (by kernel_rfl) 400
    fun p0 s t p h g m hb hp => have hp0 : p ≤ 1024 := hp _ (.head _); have hp1 : 0 ≤ g := hp _ (.tail _ (.head _)); have hp2 : g ≤ p := hp _ (.tail _ (.tail _ (.head _))); have hp3 : 1 ≤ (iGet (s.get (Cf.info ⟨t, p, h⟩ g))).l ∧ (iGet (s.get (Cf.info ⟨t, p, h⟩ g))).l ≤ p := hp _ (.tail _ (.tail _ (.tail _ (.head _)))); ⟨[], fun j => List.getD [] j (fun _ => False), fun j => List.getD [] j (fun _ => (0, 0, 0)), by kernel_rfl, ⟨r19_Resize_w s t p h g m  (fun r__ => r__ = (r19_Resize s t p h g m)), fun _ _ _ => by kernel_rfl, r19_Resize_begin s t p h g m hp0 hp1 hp2 hp3 ⟩, trivial⟩
def T_r19_Resize : List (Nat × Entry Sg) := (51, e_r19_Resize) :: T_r19_Free
theorem T_r19_Resize_ok : TableOk Dg Tryz.prog T_r19_Resize := TableOk.cons Dg r19_Resize_ok T_r19_Free_ok
end Go.Proofs.YtajlaibfcigdkaaGreat
namespace Go.Proofs.YtajlaibfcigdkaaGreat
open Go.Sl
theorem startsF_fit {c : Cf} {xs : List Int} : ∀ (f : Nat) (a : Int) (out : List Int), (startsF c xs f a out).2 = true → a ≤ c.p ∧ ∀ x ∈ (startsF c xs f a out).1, x ∈ out ∨ x + (aInfo c xs x).l ≤ c.p
  | 0, a, out, h => ⟨by simp only [startsF, beq_iff_eq] at h; omega, fun x hx => .inl hx⟩
  | f + 1, a, out, h => by
    simp only [startsF] at h ⊢
    cases hd : decide (a < c.p) with
    | false =>
      rw [hd] at h
      simp only [cond_false, beq_iff_eq] at h ⊢
      exact ⟨by omega, fun x hx => .inl hx⟩
    | true =>
      rw [hd, cond_true] at h
      simp only [cond_true]
      cases hc : (!infoOk (cel xs (c.info a)) || (aInfo c xs a).k == 0) with
      | true => rw [hc] at h; cases h
      | false =>
        rw [hc, cond_false] at h
        simp only [cond_false]
        obtain ⟨h1, h2⟩ := startsF_fit f _ _ h
        have hd' : a < c.p := by simpa using hd
        refine ⟨by omega, fun x hx => ?_⟩
        rcases h2 x hx with h3 | h3
        · rcases List.mem_append.1 h3 with h4 | h4
          · exact .inl h4
          · rw [List.mem_singleton.1 h4]; exact .inr h1
        · exact .inr h3
theorem tilesF_out {c : Cf} {xs : List Int} {l : List Int} : ∀ (k n : Nat), tilesF c xs l k n = true → ∀ q : Int, c.p - k ≤ q → q < c.p → q ∈ l ∨ cel xs (c.info q) = 0
  | 0, _, _, q, h1, h2 => by omega
  | k + 1, n, h, q, h1, h2 => by
    simp only [tilesF] at h
    by_cases hq : q = c.p - (k + 1 : Nat)
    · cases hc : (decide (n < l.length) && l.getD n 0 == c.p - (k + 1 : Nat)) with
      | true =>
        simp only [Bool.and_eq_true, decide_eq_true_eq, beq_iff_eq] at hc
        left; rw [hq, ← hc.2]; exact getD_memA hc.1
      | false =>
        rw [hc, cond_false] at h
        right
        cases hz : cel xs (c.info (c.p - (k + 1 : Nat))) != 0 with
        | true => rw [hz] at h; cases h
        | false => rw [hq]; simpa using hz
    · cases hc : (decide (n < l.length) && l.getD n 0 == c.p - (k + 1 : Nat)) with
      | true => rw [hc, cond_true] at h; exact tilesF_out k _ h q (by push_cast at *; omega) h2
      | false =>
        rw [hc, cond_false] at h
        cases hz : cel xs (c.info (c.p - (k + 1 : Nat))) != 0 with
        | true => rw [hz] at h; cases h
        | false => rw [hz, cond_false] at h; exact tilesF_out k _ h q (by push_cast at *; omega) h2
theorem span_fits {c : Cf} {xs : List Int} (h : soundA c xs = true) {g : Int} (hg : 0 ≤ g ∧ g < c.p) (hk : (aInfo c xs g).k ≠ 0) : g + (aInfo c xs g).l ≤ c.p := by
  rw [soundA_eq] at h
  unfold soundB at h
  simp only [Bool.and_eq_true] at h
  have ht : tiles c xs = true := h.1.1.1.1.1.1.1.1.2
  unfold tiles at ht
  cases h2 : (starts c xs).2 with
  | false => rw [h2] at ht; cases ht
  | true =>
    rw [h2, cond_true] at ht
    rcases tilesF_out _ _ ht g (by omega) hg.2 with h3 | h3
    · rcases (startsF_fit _ _ _ h2).2 g h3 with h4 | h4
      · cases h4
      · exact h4
    · exfalso; apply hk; unfold aInfo; rw [h3]; rfl
theorem whole_get {xs : List Int} (hb : bdAll xs) {i : Int} (h0 : 0 ≤ i) (h1 : i < xs.length) : (VS.whole xs).get i = cel xs i := by
  have e1 : decide (0 ≤ i) = true := by simpa using h0
  have e2 : decide (i < (xs.length : Int)) = true := by simpa using h1
  have hv : bd32 (xs.getD i.toNat 0) := rootA_eq xs i hb
  have ht : (VS.whole xs).there i = true := by
    show (decide (0 ≤ i) && decide (i < (xs.length : Int)) && decide ((-1 : Int) < 0)) = true
    rw [e1, e2]; rfl
  have hs : (VS.whole xs).src i = some (xs.getD i.toNat 0) := by
    show (bif decide (0 ≤ i) && decide (i < (xs.length : Int)) then some (xs.getD i.toNat 0) else none) = _
    rw [e1, e2]; rfl
  unfold VS.get
  rw [ht, cond_true]
  show (match (VS.whole xs).src i with | some v => nv v | none => 0) = _
  rw [hs]
  exact nv_id hv
def l19_live : Bool := true
abbrev c_l19_live : Ct Sg := ⟨none, false, [], .b⟩
def e_l19_live : Entry Sg := entC c_l19_live l19_live ([])
def l19_live_w (R_ : Bool → Prop) : Prop := (∀ r0 : Int × Int × Int × List Int, r0 = (l14_Eight) → (∀ r3 : VS, r3 = (VS.whole (Prod.snd (Prod.snd (Prod.snd r0)))) → ((List.length (Prod.snd (Prod.snd (Prod.snd r0))) ≤ (1000000 : Nat)) ∧ ((List.length (Prod.snd (Prod.snd (Prod.snd r0))) ≤ (1000000 : Nat)) → ((∀ (v : Int), v ∈ Cm.liOf (hdC (List.drop (Sh.nC (σ := Sg) (Sh.agg [Sh.i IntKind.i64, Sh.i IntKind.i64, Sh.i IntKind.i64])) (restC (Ct.rob c_l14_Eight) (toCm (Ct.RK c_l14_Eight) r0)))) → bd32 v) ∧ ((∀ (v : Int), v ∈ Cm.liOf (hdC (List.drop (Sh.nC (σ := Sg) (Sh.agg [Sh.i IntKind.i64, Sh.i IntKind.i64, Sh.i IntKind.i64])) (restC (Ct.rob c_l14_Eight) (toCm (Ct.RK c_l14_Eight) r0)))) → bd32 v) → (∀ r7 : VS × Int × Bool, r7 = (large_Alloc r3 (Prod.fst r0) (Prod.fst (Prod.snd r0)) (Prod.fst (Prod.snd (Prod.snd r0))) (3 : Int)) → ((Prod.fst (Prod.snd r0) ≤ (1024 : Int)) ∧ ((Prod.fst (Prod.snd r0) ≤ (1024 : Int)) → (((Prod.snd (Prod.snd r7) && Prod.fst (Prod.snd r7) == (0 : Int)) = true → (∀ r10 : VS × Bool, r10 = (large_Resize (Prod.fst r7) (Prod.fst r0) (Prod.fst (Prod.snd r0)) (Prod.fst (Prod.snd (Prod.snd r0))) (0 : Int) (5 : Int)) → ((Prod.fst (Prod.snd r0) ≤ (1024 : Int)) ∧ ((Prod.fst (Prod.snd r0) ≤ (1024 : Int)) → (((0 : Int) ≤ (0 : Int)) ∧ (((0 : Int) ≤ (0 : Int)) → (((0 : Int) ≤ Prod.fst (Prod.snd r0)) ∧ (((0 : Int) ≤ Prod.fst (Prod.snd r0)) → (((1 : Int) ≤ If.l (iGet (VS.get (Prod.fst r7) (Cf.info { t := Prod.fst r0, p := Prod.fst (Prod.snd r0), s := Prod.fst (Prod.snd (Prod.snd r0)) } (0 : Int)))) ∧ If.l (iGet (VS.get (Prod.fst r7) (Cf.info { t := Prod.fst r0, p := Prod.fst (Prod.snd r0), s := Prod.fst (Prod.snd (Prod.snd r0)) } (0 : Int)))) ≤ Prod.fst (Prod.snd r0)) ∧ (((1 : Int) ≤ If.l (iGet (VS.get (Prod.fst r7) (Cf.info { t := Prod.fst r0, p := Prod.fst (Prod.snd r0), s := Prod.fst (Prod.snd (Prod.snd r0)) } (0 : Int)))) ∧ If.l (iGet (VS.get (Prod.fst r7) (Cf.info { t := Prod.fst r0, p := Prod.fst (Prod.snd r0), s := Prod.fst (Prod.snd (Prod.snd r0)) } (0 : Int)))) ≤ Prod.fst (Prod.snd r0)) → (((Prod.snd r10) = true → (∀ r16 : VS × Bool, r16 = (large_Resize (Prod.fst r10) (Prod.fst r0) (Prod.fst (Prod.snd r0)) (Prod.fst (Prod.snd (Prod.snd r0))) (0 : Int) (9 : Int)) → ((Prod.fst (Prod.snd r0) ≤ (1024 : Int)) ∧ ((Prod.fst (Prod.snd r0) ≤ (1024 : Int)) → (((0 : Int) ≤ (0 : Int)) ∧ (((0 : Int) ≤ (0 : Int)) → (((0 : Int) ≤ Prod.fst (Prod.snd r0)) ∧ (((0 : Int) ≤ Prod.fst (Prod.snd r0)) → (((1 : Int) ≤ If.l (iGet (VS.get (Prod.fst r10) (Cf.info { t := Prod.fst r0, p := Prod.fst (Prod.snd r0), s := Prod.fst (Prod.snd (Prod.snd r0)) } (0 : Int)))) ∧ If.l (iGet (VS.get (Prod.fst r10) (Cf.info { t := Prod.fst r0, p := Prod.fst (Prod.snd r0), s := Prod.fst (Prod.snd (Prod.snd r0)) } (0 : Int)))) ≤ Prod.fst (Prod.snd r0)) ∧ (((1 : Int) ≤ If.l (iGet (VS.get (Prod.fst r10) (Cf.info { t := Prod.fst r0, p := Prod.fst (Prod.snd r0), s := Prod.fst (Prod.snd (Prod.snd r0)) } (0 : Int)))) ∧ If.l (iGet (VS.get (Prod.fst r10) (Cf.info { t := Prod.fst r0, p := Prod.fst (Prod.snd r0), s := Prod.fst (Prod.snd (Prod.snd r0)) } (0 : Int)))) ≤ Prod.fst (Prod.snd r0)) → (((!Prod.snd r16) = true → (∀ r22 : VS × Int, r22 = ((VS.read (Prod.fst r16) (0 : Int), VS.get (Prod.fst r16) (0 : Int))) → (((Prod.snd r22 == (3 : Int)) = true → (∀ r24 : VS × Int, r24 = ((VS.read (Prod.fst r22) (1 : Int), VS.get (Prod.fst r22) (1 : Int))) → (R_ (Prod.snd r24 == (1 : Int))))) ∧ ((Prod.snd r22 == (3 : Int)) = false → (R_ (false)))))) ∧ ((!Prod.snd r16) = false → (R_ (false)))))))))))))) ∧ ((Prod.snd r10) = false → (R_ (false)))))))))))))) ∧ ((Prod.snd (Prod.snd r7) && Prod.fst (Prod.snd r7) == (0 : Int)) = false → (R_ (false)))))))))))))
theorem l19_live_begin : l19_live_w   (fun r__ => r__ = l19_live) := by
  unfold l19_live_w
  have h1 : l14_Eight.2.2.2.length ≤ 1000000 := by decide +kernel
  have h2 : ∀ v ∈ l14_Eight.2.2.2, bd32 v := by unfold bd32; decide +kernel
  have h3 : l14_Eight.2.1 ≤ 1024 := by decide +kernel
  have h4 : (0 : Int) ≤ l14_Eight.2.1 := by decide +kernel
  rintro r0 rfl
  repeat' first
    | (refine fun r hr => ?_; subst hr)
    | refine ⟨h1, fun _ => ?_⟩
    | refine ⟨h2, fun _ => ?_⟩
    | refine ⟨h3, fun _ => ?_⟩
    | refine ⟨h4, fun _ => ?_⟩
    | refine ⟨Int.le_refl 0, fun _ => ?_⟩
    | refine ⟨vals_bd _, fun _ => ?_⟩
    | refine ⟨fun hd => ?_, fun hd => ?_⟩
    | refine ⟨(by decide +kernel), fun _ => ?_⟩
    | fail
  all_goals first
    | (dsimp only; unfold l19_live; decide +kernel)
    | (exfalso; revert hd; decide +kernel)
    | (trace_state; fail)
theorem l19_live_ok : EntryOk Dg Tryz.prog 46 e_l19_live :=
  ent_wp Dg T_r19_Resize_ok (I := [2999998]) Tryz.func46 mix (B := bodyOf Tryz.f46) (by kernel_rfl) rfl (by kernel_rfl) 400
    fun p0  hb hp => ⟨[], fun j => List.getD [] j (fun _ => False), fun j => List.getD [] j (fun _ => (0, 0, 0)), by kernel_rfl, ⟨l19_live_w   (fun r__ => r__ = l19_live), fun _ _ _ => by kernel_rfl, l19_live_begin  ⟩, trivial⟩
def T_l19_live : List (Nat × Entry Sg) := (46, e_l19_live) :: T_r19_Resize
theorem T_l19_live_ok : TableOk Dg Tryz.prog T_l19_live := TableOk.cons Dg l19_live_ok T_r19_Resize_ok
def l19_used (t : Int) (p : Int) (sh : Int) (xs : List Int) (g : Int) : Int := bif Cf.page ⟨t, p, sh⟩ g && (aInfo ⟨t, p, sh⟩ xs g).k == 2 then (aInfo ⟨t, p, sh⟩ xs g).l else 0
abbrev c_l19_used : Ct Sg := ⟨none, false, [.agg [.i .i64, .i .i64, .i .i64], .ro [some .u32], .i .i64], .i .i64⟩
def e_l19_used : Entry Sg := entC c_l19_used l19_used (fun t p sh xs g => [AGood ⟨t, p, sh⟩ xs])
def l19_used_w (t : Int) (p : Int) (sh : Int) (xs : List Int) (g : Int) (R_ : Int → Prop) : Prop := (((decide (g < (0 : Int)) || decide (g ≥ p)) = true → (R_ ((0 : Int)))) ∧ ((decide (g < (0 : Int)) || decide (g ≥ p)) = false → (∀ r3 : Int × Int × Int, r3 = (x_Info t p sh xs g) → ((AGood { t := t, p := p, s := sh } xs) ∧ ((AGood { t := t, p := p, s := sh } xs) → (((0 : Int) ≤ g ∧ g < p) ∧ (((0 : Int) ≤ g ∧ g < p) → (((Prod.fst r3 != (2 : Int)) = true → (R_ ((0 : Int)))) ∧ ((Prod.fst r3 != (2 : Int)) = false → (R_ (Prod.fst (Prod.snd r3))))))))))))
theorem l19_used_begin (t : Int) (p : Int) (sh : Int) (xs : List Int) (g : Int) (hp0 : AGood ⟨t, p, sh⟩ xs) (hl0 : xs.length ≤ 9223372036854775807) : l19_used_w t p sh xs g  (fun r__ => r__ = (l19_used t p sh xs g)) := by
  unfold l19_used_w
  refine ⟨fun hc => ?_, fun hc => ?_⟩
  · rw [page_ne t p sh g] at hc
    show _ = l19_used t p sh xs g
    rw [l19_used, (Bool.not_eq_true' _).mp hc]; rfl
  · rintro r rfl
    rw [page_ne t p sh g] at hc
    have hpg := (Bool.not_eq_false' _).mp hc
    have hg : 0 ≤ g ∧ g < p := by
      simp only [Cf.page, Bool.and_eq_true, decide_eq_true_eq] at hpg; exact hpg
    refine ⟨hp0, fun _ => ⟨hg, fun _ => ⟨fun hk => ?_, fun hk => ?_⟩⟩⟩
    · have hk' : ((aInfo ⟨t, p, sh⟩ xs g).k != 2) = true := hk
      show (0 : Int) = l19_used t p sh xs g
      rw [l19_used, hpg, Bool.true_and, (Bool.not_eq_true' _).mp hk']; rfl
    · have hk' : ((aInfo ⟨t, p, sh⟩ xs g).k != 2) = false := hk
      show _ = l19_used t p sh xs g
      rw [l19_used, hpg, Bool.true_and, (Bool.not_eq_false' _).mp hk']; rfl
theorem l19_used_ok : EntryOk Dg Tryz.prog 47 e_l19_used :=
  ent_wp Dg T_l19_live_ok (I := [2999998]) Tryz.func47 mix (B := bodyOf Tryz.f47) (by kernel_rfl) rfl (by kernel_rfl) 400
    fun p0 t p sh xs g hb hp => have hl0 : xs.length ≤ 9223372036854775807 := hb.2.1; have hp0 : AGood ⟨t, p, sh⟩ xs := hp _ (.head _); ⟨[], fun j => List.getD [] j (fun _ => False), fun j => List.getD [] j (fun _ => (0, 0, 0)), by kernel_rfl, ⟨l19_used_w t p sh xs g  (fun r__ => r__ = (l19_used t p sh xs g)), fun _ _ _ => by kernel_rfl, l19_used_begin t p sh xs g hp0 hl0 ⟩, trivial⟩
def T_l19_used : List (Nat × Entry Sg) := (47, e_l19_used) :: T_l19_live
theorem T_l19_used_ok : TableOk Dg Tryz.prog T_l19_used := TableOk.cons Dg l19_used_ok T_l19_live_ok
def LargeDoes (t : Int) (p : Int) (sh : Int) (xs : List Int) (x0 : Int) (x1 : Int) : Bool := true
abbrev c_LargeDoes : Ct Sg := ⟨none, false, [.agg [.i .i64, .i .i64, .i .i64], .ro [some .u32], .agg [.i .i64, .i .i64]], .b⟩
def e_LargeDoes : Entry Sg := entC c_LargeDoes LargeDoes (fun t p sh xs x0 x1 => [bdAll xs, x0 ≤ 9223372036854775807, x1 ≤ 9223372036854775807])
def LargeDoes_w (t : Int) (p : Int) (sh : Int) (xs : List Int) (x0 : Int) (x1 : Int) (R_ : Bool → Prop) : Prop := (∀ r2 : Bool, r2 = (r12_Few t p sh) → (((!r2) = false → bdAll xs) ∧ (((!r2) = false → bdAll xs) → (((!r2 || !r12_Sound t p sh xs) = true → (∀ r5 : Bool, r5 = (l19_live) → (R_ (r5)))) ∧ ((!r2 || !r12_Sound t p sh xs) = false → (∀ r5 : VS, r5 = (VS.whole xs) → ((List.length xs ≤ (1000000 : Nat)) ∧ ((List.length xs ≤ (1000000 : Nat)) → ((∀ (v : Int), v ∈ xs → bd32 v) ∧ ((∀ (v : Int), v ∈ xs → bd32 v) → (∀ r9 : VS, r9 = (VS.whole xs) → ((List.length xs ≤ (1000000 : Nat)) ∧ ((List.length xs ≤ (1000000 : Nat)) → ((∀ (v : Int), v ∈ xs → bd32 v) ∧ ((∀ (v : Int), v ∈ xs → bd32 v) → (∀ r13 : VS × Int × Bool, r13 = (large_Alloc r5 t p sh x1) → ((p ≤ (1024 : Int)) ∧ ((p ≤ (1024 : Int)) → (∀ r15 : VS × Int × Bool, r15 = (r19_Alloc r9 t p sh x1) → ((p ≤ (1024 : Int)) ∧ ((p ≤ (1024 : Int)) → (((Prod.fst (Prod.snd r13) != Prod.fst (Prod.snd r15) || !Prod.snd (Prod.snd r13) == Prod.snd (Prod.snd r15)) = true → (R_ (false))) ∧ ((Prod.fst (Prod.snd r13) != Prod.fst (Prod.snd r15) || !Prod.snd (Prod.snd r13) == Prod.snd (Prod.snd r15)) = false → (∀ r18 : List Int, r18 = (VS.reads (Prod.fst r13)) → (∀ r20 : List Int × List Int, r20 = ((VS.wrote (Prod.fst r13), VS.puts (Prod.fst r13))) → (∀ r22 : Int, r22 = (VS.miss (Prod.fst r13)) → (∀ r23 : VS × Bool, r23 = ((Prod.fst r15, decide (r18 = VS.reads (Prod.fst r15)) && (decide (Prod.fst r20 = VS.wrote (Prod.fst r15) ∧ Prod.snd r20 = VS.puts (Prod.fst r15)) && decide (r22 = VS.miss (Prod.fst r15))))) → ((List.length (Prod.fst r20) = List.length (Prod.snd r20)) ∧ ((List.length (Prod.fst r20) = List.length (Prod.snd r20)) → (((!Prod.snd r23) = true → (R_ (false))) ∧ ((!Prod.snd r23) = false → (∀ r26 : Int, r26 = (l19_used t p sh xs x0) → ((AGood { t := t, p := p, s := sh } xs) ∧ ((AGood { t := t, p := p, s := sh } xs) → (((r26 == (0 : Int)) = true → (∀ r29 : Bool, r29 = (l19_live) → (R_ (r29)))) ∧ ((r26 == (0 : Int)) = false → (∀ r29 : VS, r29 = (VS.whole xs) → ((List.length xs ≤ (1000000 : Nat)) ∧ ((List.length xs ≤ (1000000 : Nat)) → ((∀ (v : Int), v ∈ xs → bd32 v) ∧ ((∀ (v : Int), v ∈ xs → bd32 v) → (∀ r33 : VS, r33 = (VS.whole xs) → ((List.length xs ≤ (1000000 : Nat)) ∧ ((List.length xs ≤ (1000000 : Nat)) → ((∀ (v : Int), v ∈ xs → bd32 v) ∧ ((∀ (v : Int), v ∈ xs → bd32 v) → (∀ r37 : VS × Bool, r37 = (large_Resize r29 t p sh x0 x1) → ((p ≤ (1024 : Int)) ∧ ((p ≤ (1024 : Int)) → (((0 : Int) ≤ x0) ∧ (((0 : Int) ≤ x0) → ((x0 ≤ p) ∧ ((x0 ≤ p) → (((1 : Int) ≤ If.l (iGet (VS.get r29 (Cf.info { t := t, p := p, s := sh } x0))) ∧ If.l (iGet (VS.get r29 (Cf.info { t := t, p := p, s := sh } x0))) ≤ p) ∧ (((1 : Int) ≤ If.l (iGet (VS.get r29 (Cf.info { t := t, p := p, s := sh } x0))) ∧ If.l (iGet (VS.get r29 (Cf.info { t := t, p := p, s := sh } x0))) ≤ p) → (∀ r42 : VS × Bool, r42 = (r19_Resize r33 t p sh x0 x1) → ((p ≤ (1024 : Int)) ∧ ((p ≤ (1024 : Int)) → (((0 : Int) ≤ x0) ∧ (((0 : Int) ≤ x0) → ((x0 ≤ p) ∧ ((x0 ≤ p) → (((1 : Int) ≤ If.l (iGet (VS.get r33 (Cf.info { t := t, p := p, s := sh } x0))) ∧ If.l (iGet (VS.get r33 (Cf.info { t := t, p := p, s := sh } x0))) ≤ p) ∧ (((1 : Int) ≤ If.l (iGet (VS.get r33 (Cf.info { t := t, p := p, s := sh } x0))) ∧ If.l (iGet (VS.get r33 (Cf.info { t := t, p := p, s := sh } x0))) ≤ p) → (((!Prod.snd r37 == Prod.snd r42) = true → (R_ (false))) ∧ ((!Prod.snd r37 == Prod.snd r42) = false → (∀ r48 : List Int, r48 = (VS.reads (Prod.fst r37)) → (∀ r50 : List Int × List Int, r50 = ((VS.wrote (Prod.fst r37), VS.puts (Prod.fst r37))) → (∀ r52 : Int, r52 = (VS.miss (Prod.fst r37)) → (∀ r53 : VS × Bool, r53 = ((Prod.fst r42, decide (r48 = VS.reads (Prod.fst r42)) && (decide (Prod.fst r50 = VS.wrote (Prod.fst r42) ∧ Prod.snd r50 = VS.puts (Prod.fst r42)) && decide (r52 = VS.miss (Prod.fst r42))))) → ((List.length (Prod.fst r50) = List.length (Prod.snd r50)) ∧ ((List.length (Prod.fst r50) = List.length (Prod.snd r50)) → (((!Prod.snd r53) = true → (R_ (false))) ∧ ((!Prod.snd r53) = false → (∀ r56 : VS, r56 = (VS.whole xs) → ((List.length xs ≤ (1000000 : Nat)) ∧ ((List.length xs ≤ (1000000 : Nat)) → ((∀ (v : Int), v ∈ xs → bd32 v) ∧ ((∀ (v : Int), v ∈ xs → bd32 v) → (∀ r60 : VS, r60 = (VS.whole xs) → ((List.length xs ≤ (1000000 : Nat)) ∧ ((List.length xs ≤ (1000000 : Nat)) → ((∀ (v : Int), v ∈ xs → bd32 v) ∧ ((∀ (v : Int), v ∈ xs → bd32 v) → (∀ r64 : VS, r64 = (large_Free r56 t p sh x0) → ((p ≤ (1024 : Int)) ∧ ((p ≤ (1024 : Int)) → (((0 : Int) ≤ x0) ∧ (((0 : Int) ≤ x0) → (∀ r67 : VS, r67 = (r19_Free r60 t p sh x0) → ((p ≤ (1024 : Int)) ∧ ((p ≤ (1024 : Int)) → (((0 : Int) ≤ x0) ∧ (((0 : Int) ≤ x0) → (∀ r70 : List Int, r70 = (VS.reads r64) → (∀ r72 : List Int × List Int, r72 = ((VS.wrote r64, VS.puts r64)) → (∀ r74 : Int, r74 = (VS.miss r64) → (∀ r75 : VS × Bool, r75 = ((r67, decide (r70 = VS.reads r67) && (decide (Prod.fst r72 = VS.wrote r67 ∧ Prod.snd r72 = VS.puts r67) && decide (r74 = VS.miss r67)))) → ((List.length (Prod.fst r72) = List.length (Prod.snd r72)) ∧ ((List.length (Prod.fst r72) = List.length (Prod.snd r72)) → (R_ (Prod.snd r75 && l19_live))))))))))))))))))))))))))))))))))))))))))))))))))))))))))))))))))))))))))))))))))))))))))))))))))))))
theorem LargeDoes_begin (t : Int) (p : Int) (sh : Int) (xs : List Int) (x0 : Int) (x1 : Int) (hp0 : bdAll xs) (hp1 : x0 ≤ 9223372036854775807) (hp2 : x1 ≤ 9223372036854775807) (hl0 : xs.length ≤ 9223372036854775807) : LargeDoes_w t p sh xs x0 x1  (fun r__ => r__ = (LargeDoes t p sh xs x0 x1)) := by
  unfold LargeDoes_w
  rintro r1 rfl
  refine ⟨fun _ => hp0, fun _ => ⟨fun hc => (by rintro r rfl; rfl), fun hc => ?_⟩⟩
  have hfs : p ≤ 64 ∧ soundA ⟨t, p, sh⟩ xs = true := by
    simp only [r12_Few, r12_Sound, Bool.or_eq_false_iff, Bool.not_eq_false', decide_eq_true_eq] at hc
    exact hc
  have hgood := sound_good hfs.2 hp0
  have hlen := good_len hgood
  have hok := Cf.ok_iff.1 hgood.ok
  simp only at hok
  have hp : p ≤ 1024 := by omega
  have hpb : p ≤ 9223372036854775807 := by omega
  have hpre : (l19_used t p sh xs x0 == 0) = false → (0 ≤ x0 ∧ x0 ≤ p) ∧ (1 ≤ (iGet ((VS.whole xs).get (Cf.info ⟨t, p, sh⟩ x0))).l ∧ (iGet ((VS.whole xs).get (Cf.info ⟨t, p, sh⟩ x0))).l ≤ p) := by
    intro hu
    unfold l19_used at hu
    cases hc : (Cf.page ⟨t, p, sh⟩ x0 && (aInfo ⟨t, p, sh⟩ xs x0).k == 2) with
    | false => rw [hc] at hu; cases hu
    | true =>
      simp only [Bool.and_eq_true] at hc
      have hg : 0 ≤ x0 ∧ x0 < p := by
        have := hc.1
        simp only [Cf.page, Bool.and_eq_true, decide_eq_true_eq] at this; exact this
      have hk : (aInfo ⟨t, p, sh⟩ xs x0).k = 2 := beq_iff_eq.1 hc.2
      have hf := span_fits (c := ⟨t, p, sh⟩) hfs.2 hg (by rw [hk]; decide)
      have h1 := iGet_cases (cel xs (Cf.info ⟨t, p, sh⟩ x0))
      have h2 : (iGet (cel xs (Cf.info ⟨t, p, sh⟩ x0))).k = 2 := hk
      have hin := pc_in hgood (g := x0) (k := 0) hg (by omega)
      have hw := whole_get hp0 hin.1 hin.2
      have hw' : (VS.whole xs).get (Cf.info ⟨t, p, sh⟩ x0) = cel xs (Cf.info ⟨t, p, sh⟩ x0) := hw
      rw [hw']
      have hf' : x0 + (iGet (cel xs (Cf.info ⟨t, p, sh⟩ x0))).l ≤ p := hf
      omega
  repeat' first
    | (refine fun r hr => ?_; subst hr)
    | refine ⟨hlen, fun _ => ?_⟩
    | refine ⟨hp0, fun _ => ?_⟩
    | refine ⟨hgood, fun _ => ?_⟩
    | refine ⟨hp, fun _ => ?_⟩
    | refine ⟨(hpre ‹_›).1.1, fun _ => ?_⟩
    | refine ⟨(hpre ‹_›).1.2, fun _ => ?_⟩
    | refine ⟨(hpre ‹_›).2, fun _ => ?_⟩
    | refine ⟨fun hd => ?_, fun hd => ?_⟩
    | refine ⟨(by first | omega | (simp [VS.puts]; done)), fun _ => ?_⟩
    | fail
  all_goals first
    | rfl
    | (show (_ && l19_live) = true; simp [l19_live, large_Alloc, r19_Alloc, large_Free, r19_Free, large_Resize, r19_Resize]; done)
    | (exfalso; simp [large_Alloc, r19_Alloc, large_Free, r19_Free, large_Resize, r19_Resize] at hd; done)
    | (trace_state; fail)
theorem LargeDoes_ok : EntryOk Dg Tryz.prog 10 e_LargeDoes :=
  ent_wp Dg T_l19_used_ok (I := [2999998]) Tryz.func10 mix (B := bodyOf Tryz.f10) (by kernel_rfl) rfl (by kernel_rfl) 400
    fun p0 t p sh xs x0 x1 hb hp => have hl0 : xs.length ≤ 9223372036854775807 := hb.2.1; have hp0 : bdAll xs := hp _ (.head _); have hp1 : x0 ≤ 9223372036854775807 := hp _ (.tail _ (.head _)); have hp2 : x1 ≤ 9223372036854775807 := hp _ (.tail _ (.tail _ (.head _))); ⟨[], fun j => List.getD [] j (fun _ => False), fun j => List.getD [] j (fun _ => (0, 0, 0)), by kernel_rfl, ⟨LargeDoes_w t p sh xs x0 x1  (fun r__ => r__ = (LargeDoes t p sh xs x0 x1)), fun _ _ _ => by kernel_rfl, LargeDoes_begin t p sh xs x0 x1 hp0 hp1 hp2 hl0 ⟩, trivial⟩
def T_LargeDoes : List (Nat × Entry Sg) := (10, e_LargeDoes) :: T_l19_used
theorem T_LargeDoes_ok : TableOk Dg Tryz.prog T_LargeDoes := TableOk.cons Dg LargeDoes_ok T_l19_used_ok
theorem LargeDoes_plain (t : Int) (p : Int) (sh : Int) (xs : List Int) (x0 : Int) (x1 : Int) (a_0 : Option Addr) (c_0 : Nat) {E_ : World} {G_ : Hp} {w_ : World} (hr0 : RowAt G_ a_0 xs.length [.ints .u32 xs] ∧ xs.length ≤ c_0) (hp0 : bdAll xs) (hp1 : x0 ≤ 9223372036854775807) (hp2 : x1 ≤ 9223372036854775807) (hS : Sat E_ G_ w_ []) : Calls Tryz.prog 10 #[(.agg #[.int .i64 t, .int .i64 p, .int .i64 sh]), (.slice a_0 xs.length c_0), (.agg #[.int .i64 x0, .int .i64 x1])] w_ (fun en w' => en = .returned (.bool (LargeDoes t p sh xs x0 x1)) ∧ Sat E_ G_ w' []) := by
  refine law_of Dg (c := c_LargeDoes) (F := LargeDoes) (pre := fun t p sh xs x0 x1 => [bdAll xs, x0 ≤ 9223372036854775807, x1 ≤ 9223372036854775807]) LargeDoes_ok [((.agg #[.int .i64 t, .int .i64 p, .int .i64 sh]), (.none)), ((.slice a_0 xs.length c_0), (.row xs.length [.ints .u32 xs])), ((.agg #[.int .i64 x0, .int .i64 x1]), (.none))] [.i t, .i p, .i sh, .li xs, .i x0, .i x1] (by kernel_rfl) _ (by kernel_rfl) (by kernel_rfl) (by kernel_rfl) ?_ ?_ hS
  · intro p hp
    have hp : p ∈ [(bdAll xs : Prop), (x0 ≤ 9223372036854775807 : Prop), (x1 ≤ 9223372036854775807 : Prop)] := hp
    simp only [List.mem_cons, List.not_mem_nil, or_false] at hp
    rcases hp with rfl | rfl | rfl
    · exact hp0
    · exact hp1
    · exact hp2
  · intro x hx
    simp only [List.mem_cons, List.not_mem_nil, or_false] at hx
    rcases hx with rfl | rfl | rfl
    · first | (simp only [iOk, isOk, and_true, true_and]; done) | (simp only [iOk, isOk, and_true, true_and]; exact ⟨_, _, rfl, trivial⟩) | simp [iOk, isOk]
    · first | (simp only [iOk, isOk, and_true, true_and]; done) | (simp only [iOk, isOk, and_true, true_and]; exact ⟨_, _, rfl, hr0⟩) | simp [iOk, isOk]
    · first | (simp only [iOk, isOk, and_true, true_and]; done) | (simp only [iOk, isOk, and_true, true_and]; exact ⟨_, _, rfl, trivial⟩) | simp [iOk, isOk]
end Go.Proofs.YtajlaibfcigdkaaGreat
namespace Go.Sl
open Go.RowKit Go.ChangeShapes Go.WideShapes Go.ChangeAt
theorem Sat.start (W : World) : Sat W (fun b => W.heap[b]?) W [] :=
  ⟨⟨rfl, rfl, rfl, Nat.le_refl _⟩, fun _ _ h => h, fun _ => none, ⟨fun _ _ h => (by cases h), fun i A h => (by simp at h)⟩⟩
theorem Sat.below {W W' : World} {As : List Asn} (h : Sat W (fun b => W.heap[b]?) W' As) : Below W.heap.size W W' :=
  ⟨h.1.os, h.1.tape, h.1.output, h.1.size, fun k hk => by
    have h1 : (fun b => W.heap[b]?) k = some W.heap[k] := by simp [hk]
    rw [h.2.1 k _ h1]; simp [hk]⟩
section
variable {H : Type} {enc : TypeId × Value → H} {P : Program}
theorem trodAll_stays (hl : laidOutB P = true) {W W' : World} (hb : Below W.heap.size W W') {sp : Nat → Bool} : ∀ (ts : List TypeId) (vs : List Value) (ds : List (DataW H)) (ps : List MemPlace), (∀ t ∈ ts, P.readableRec t = true ∧ t < P.types.size) →
    DataW.TrodAll enc P W 0 (fun _ => true) true ts vs ds ps → (∀ x ∈ ps, x.block < W.heap.size) → (∀ x ∈ ps, sp x.block = true) → DataW.TrodAll enc P W' 0 sp true ts vs ds ps
  | [], vs, ds, ps, _, h, _, _ => by
    obtain ⟨rfl, rfl, rfl⟩ := trodAll_nil h
    exact trodAll_mk0
  | t :: ts, vs, ds, ps, hr, h, hlt, hsp => by
    obtain ⟨v, vs', d, ds', p, q, rfl, rfl, rfl, hd, hrest⟩ := trodAll_cons h
    obtain ⟨hr1, hr2⟩ := hr t (by simp)
    exact ⟨p, q, WideElems.Trod_stays hl hr1 hr2 hd (fun x hx => hb.same (hlt x (by simp [hx]))) (fun x hx => hsp x (by simp [hx])),
      trodAll_stays hl hb ts vs' ds' q (fun t ht => hr t (by simp [ht])) hrest (fun x hx => hlt x (by simp [hx])) (fun x hx => hsp x (by simp [hx])), rfl⟩
theorem law_post {f : Func} {s : ChangeSpec} {apart fresh handsOn : Bool} {W W' : World} {args : Array Value} {ds gs : List (DataW H)} {before : List MemPlace} (tb : TypeId) (hl : laidOutB P = true)
    (hW : DataW.Whole enc P f.params.toList s.vars apart W args.toList ds gs before) (hv : s.vars = []) (hres : f.resultTypes = #[tb]) (hb : P.underlying tb = some .bool)
    (hp : f.params.toList.all (fun t => P.readableRec t && Nat.blt t P.types.size) = true) (hfn : (s.fn H ds).results = [.lit (.bool true)] ∧ (s.fn H ds).args = ds ∧ (s.fn H ds).vars = [])
    (hbel : Below W.heap.size W W') : s.post enc P f apart fresh handsOn false W args (.bool true) W' := by
  have hW2 := hW
  have hlt : ∀ x ∈ before, x.block < W.heap.size := fun x hx => hW.lt x hx
  obtain ⟨p, q, hA, hV, hpq, _, _⟩ := hW
  rw [hv] at hV
  obtain ⟨hgs, hq⟩ := trodVars_none hV
  subst hgs; subst hq
  have hpp : before = p := by rw [hpq]; simp
  subst hpp
  have hr : ∀ t ∈ f.params.toList, P.readableRec t = true ∧ t < P.types.size := fun t ht => by
    rw [List.all_eq_true] at hp
    have := hp t ht
    simp only [Bool.and_eq_true] at this
    exact ⟨this.1, Nat.lt_of_lt_of_le (Nat.lt_succ_self t) (Nat.le_of_ble_eq_true this.2)⟩
  refine ⟨ds, [], before, [], before, [], by rw [hv] at hW2 ⊢; exact hW2, ?_, ?_, ?_, World.keptBut_mono (fun x hx => ⟨hx, .inr (.inl hx)⟩) (hbel.frame (· ∈ before)), fun h => by cases h⟩
  · rw [List.append_nil, hfn.1, hres]
    exact trodAll_mk1 (shut_bool hb true)
  · rw [List.append_nil, hfn.2.1]
    exact trodAll_stays hl hbel _ _ _ _ hr hA hlt (fun x hx => by simpa using hlt x hx)
  · rw [List.append_nil, hfn.2.2, hv]
    rfl
end
theorem bd_i64 {x : Int} (h : (Lit.int .i64 x).wf = true) : -9223372036854775808 ≤ x ∧ x < 9223372036854775808 := by
  simp [Lit.wf, IntKind.min, IntKind.max, IntKind.signed, IntKind.bits] at h; omega
theorem bd_u64 {x : Int} (h : (Lit.int .u64 x).wf = true) : 0 ≤ x ∧ x < 18446744073709551616 := by
  simp [Lit.wf, IntKind.min, IntKind.max, IntKind.signed, IntKind.bits] at h; omega
theorem bd_u32 {x : Int} (h : (Lit.int .u32 x).wf = true) : 0 ≤ x ∧ x < 4294967296 := by
  simp [Lit.wf, IntKind.min, IntKind.max, IntKind.signed, IntKind.bits] at h; omega
end Go.Sl
namespace Go.Sl
open Go.RowKit Go.ChangeShapes Go.WideShapes Go.ChangeAt
inductive Shp where
  | int (k : IntKind)
  | bool
def vIs : Shp → Value → Prop
  | .int k, v => ∃ x, v = .int k x ∧ (Lit.int k x).wf = true
  | .bool, v => ∃ b, v = .bool b
def cellsIs : List Shp → List Value → Prop
  | [], vs => vs = []
  | s :: r, vs => ∃ v vs', vs = v :: vs' ∧ vIs s v ∧ cellsIs r vs'
def colIs (n : Nat) : Shp → Col → Prop
  | .int k, c => ∃ xs, c = .ints k xs ∧ xs.length = n ∧ ∀ x ∈ xs, (Lit.int k x).wf = true
  | .bool, c => ∃ xs, c = .bools xs ∧ xs.length = n
def colsIs (n : Nat) : List Shp → List Col → Prop
  | [], cs => cs = []
  | s :: r, cs => ∃ c cs', cs = c :: cs' ∧ colIs n s c ∧ colsIs n r cs'
theorem cellsIs_len : ∀ {sh : List Shp} {vs : List Value}, cellsIs sh vs → vs.length = sh.length
  | [], _, h => by rw [h]; rfl
  | _ :: r, _, ⟨v, vs', e, _, h⟩ => by rw [e, List.length_cons, List.length_cons, cellsIs_len h]
theorem cellsIs_append : ∀ {a b : List Shp} {u v : List Value}, cellsIs a u → cellsIs b v → cellsIs (a ++ b) (u ++ v)
  | [], b, u, v, h, h' => by rw [h]; exact h'
  | s :: r, b, u, v, ⟨x, u', e, hx, h⟩, h' => ⟨x, u' ++ v, by rw [e]; rfl, hx, cellsIs_append h h'⟩
theorem cellsIs_get : ∀ {sh : List Shp} {vs : List Value}, cellsIs sh vs → ∀ (j : Nat) s, sh[j]? = some s → ∃ v, vs[j]? = some v ∧ vIs s v
  | [], _, _, j, s, hs => by simp at hs
  | s0 :: r, _, ⟨x, u', e, hx, h⟩, j, s, hs => by
    subst e
    cases j with
    | zero => simp at hs; subst hs; exact ⟨x, rfl, hx⟩
    | succ j => exact cellsIs_get h j s (by simpa using hs)
section
variable (P : Program)
def shpFs (f : TypeId → Option (List Shp)) : Nat → List Field → Option (List Shp)
  | _, [] => some []
  | o, fd :: fs => bif Nat.beq fd.offset o then match f fd.type, shpFs f (o + P.cellsOf fd.type) fs with
      | some a, some b => bif Nat.beq a.length (P.cellsOf fd.type) then some (a ++ b) else none
      | _, _ => none
    else none
def reps (s : List Shp) : Nat → List Shp
  | 0 => []
  | n + 1 => s ++ reps s n
def shpT : Nat → TypeId → Option (List Shp)
  | 0, _ => none
  | d + 1, t => match P.underlying t with
    | some (.int k) => some [.int k]
    | some .bool => some [.bool]
    | some (.struct fs) => match shpFs P (shpT d) 0 fs.toList with
      | some s => bif Nat.beq s.length (P.cellsOf t) then some s else none
      | none => none
    | some (.array n e) => match shpT d e with
      | some s => bif Nat.beq s.length (P.cellsOf e) && Nat.beq (n * P.cellsOf e) (P.cellsOf t) then some (reps s n) else none
      | none => none
    | _ => none
end
section
variable {H : Type} {enc : TypeId × Value → H} {P : Program} {w : World} {base : Nat} {sp : Nat → Bool} {held : Bool}
theorem shpFs_ok {f : TypeId → Option (List Shp)} {n : Nat} (hf : ∀ t sh cs x, f t = some sh → DataW.trod enc P w base sp held n t cs = some x → cellsIs sh cs) {cs : List Value} :
    ∀ (fs : List Field) (o : Nat) (s : List Shp), shpFs P f o fs = some s → (∀ fd ∈ fs, ∃ y, DataW.trod enc P w base sp held n fd.type ((cs.drop fd.offset).take (P.cellsOf fd.type)) = some y) → cellsIs s ((cs.drop o).take s.length)
  | [], o, s, h, _ => by simp only [shpFs, Option.some.injEq] at h; subst h; simp [cellsIs]
  | fd :: fs, o, s, h, hall => by
    simp only [shpFs] at h
    cases ho : Nat.beq fd.offset o with
    | false => rw [ho] at h; cases h
    | true =>
      rw [ho] at h
      have ho := Nat.eq_of_beq_eq_true ho
      simp only [cond_true] at h
      split at h
      · rename_i a b ha hb
        cases hl : Nat.beq a.length (P.cellsOf fd.type) with
        | false => rw [hl] at h; cases h
        | true =>
          rw [hl] at h
          have hl := Nat.eq_of_beq_eq_true hl
          simp only [cond_true, Option.some.injEq] at h
          subst h
          obtain ⟨y, hy⟩ := hall fd (by simp)
          have h1 := hf _ _ _ _ ha hy
          have h2 := shpFs_ok hf fs _ _ hb fun fd' hfd => hall fd' (by simp [hfd])
          have e : (cs.drop o).take (a ++ b).length = (cs.drop fd.offset).take (P.cellsOf fd.type) ++ (cs.drop (o + P.cellsOf fd.type)).take b.length := by
            rw [List.length_append, List.take_add, List.drop_drop, ho, hl]
          rw [e]
          exact cellsIs_append h1 h2
      · cases h
theorem shpT_ok : ∀ (d : Nat) (t : TypeId) (sh : List Shp) (n : Nat) (cs : List Value) (x : DataW H × List MemPlace), shpT P d t = some sh → DataW.trod enc P w base sp held n t cs = some x → cellsIs sh cs
  | 0, t, sh, n, cs, x, h, _ => by simp [shpT] at h
  | d + 1, t, sh, n, cs, x, h, hx => by
    simp only [shpT] at h
    split at h
    · rename_i k hk
      injection h with h; subst h
      obtain ⟨m, rfl, _, hw⟩ := DataW.trod_int hk hx
      exact ⟨_, _, rfl, ⟨m, rfl, hw⟩, rfl⟩
    · rename_i hk
      injection h with h; subst h
      obtain ⟨b, rfl, _⟩ := DataW.trod_bool hk hx
      exact ⟨_, _, rfl, ⟨b, rfl⟩, rfl⟩
    · rename_i fs hk
      split at h
      · rename_i s hs
        cases hl : Nat.beq s.length (P.cellsOf t) with
        | false => rw [hl] at h; cases h
        | true =>
          rw [hl] at h
          have hl := Nat.eq_of_beq_eq_true hl
          simp only [cond_true, Option.some.injEq] at h
          subst h
          obtain ⟨xs, m, _, _, hlen, hxl, hf⟩ := DataW.trod_struct hk hx
          have := shpFs_ok (n := m) (cs := cs) (fun t' sh' cs' x' h1 h2 => shpT_ok d t' sh' m cs' x' h1 h2) fs.toList 0 s hs fun fd hfd => by
            obtain ⟨i, hi⟩ := List.getElem?_of_mem hfd
            have hi' : fs[i]? = some fd := by simpa using hi
            have h1 := hf i fd hi'
            have hlt : i < xs.length := by
              rw [hxl]
              rcases Nat.lt_or_ge i fs.size with h' | h'
              · exact h'
              · rw [Array.getElem?_eq_none h'] at hi'; cases hi'
            rw [List.getElem?_eq_getElem hlt] at h1
            exact ⟨_, h1⟩
          rw [List.drop_zero, hl, ← hlen, List.take_length] at this
          exact this
      · cases h
    · rename_i m e hk
      split at h
      · rename_i s hs
        cases hl : (Nat.beq s.length (P.cellsOf e) && Nat.beq (m * P.cellsOf e) (P.cellsOf t)) with
        | false => rw [hl] at h; cases h
        | true =>
          rw [hl] at h
          simp only [Bool.and_eq_true] at hl
          have hl1 := Nat.eq_of_beq_eq_true hl.1
          have hl2 := Nat.eq_of_beq_eq_true hl.2
          simp only [cond_true, Option.some.injEq] at h
          subst h
          obtain ⟨xs, q, _, _, hlen, hxl, hf⟩ := DataW.trod_array hk hx
          have key : ∀ (j i : Nat), i + j = m → cellsIs (reps s j) ((cs.drop (i * P.cellsOf e)).take (j * P.cellsOf e)) := by
            intro j
            induction j with
            | zero => intro i _; simp [reps, cellsIs]
            | succ j ih =>
              intro i hij
              have h1 := hf i (by omega)
              rw [List.getElem?_eq_getElem (by omega)] at h1
              have h2 := shpT_ok d e s q _ _ hs h1
              have h3 := ih (i + 1) (by omega)
              have e1 : (cs.drop (i * P.cellsOf e)).take ((j + 1) * P.cellsOf e) = (cs.drop (i * P.cellsOf e)).take (P.cellsOf e) ++ (cs.drop ((i + 1) * P.cellsOf e)).take (j * P.cellsOf e) := by
                rw [show (j + 1) * P.cellsOf e = P.cellsOf e + j * P.cellsOf e by rw [Nat.succ_mul]; omega, List.take_add, List.drop_drop, show i * P.cellsOf e + P.cellsOf e = (i + 1) * P.cellsOf e by rw [Nat.succ_mul]]
              rw [e1]
              exact cellsIs_append h2 h3
          have := key m 0 (by omega)
          rw [Nat.zero_mul, List.drop_zero, hl2, ← hlen, List.take_length] at this
          exact this
      · cases h
    · cases h
theorem open_flat {r : Reach} {b0 : Nat} {t : TypeId} {v : Value} {dt : DataW H} {ps : List MemPlace} (d : Nat) (hs : (P.underlying t).any (fun | .struct _ => true | .array _ _ => true | _ => false) = true) {sh : List Shp} (hsh : shpT P d t = some sh)
    (hv : Value.okWide P w r b0 t v) (h : DataW.Trod enc P w base sp held t v dt ps) : ∃ vs : List Value, v = .agg vs.toArray ∧ cellsIs sh vs := by
  obtain ⟨fuel, hf⟩ := h
  have hc := shpT_ok d t sh fuel _ _ hsh hf
  unfold Value.okWide at hv
  cases hu : P.underlying t with
  | none => rw [hu] at hs; simp at hs
  | some ty =>
    rw [hu] at hs hv
    cases ty <;> simp at hs <;> (obtain ⟨cs, rfl, _, _⟩ := hv; exact ⟨cs.toList, by simp, hc⟩)
def colOf : Shp → (Nat → Value) → Nat → Col
  | .int k, V, n => .ints k ((List.range n).map fun i => match V i with | .int _ x => x | _ => 0)
  | .bool, V, n => .bools ((List.range n).map fun i => match V i with | .bool b => b | _ => false)
theorem colOf_ok {s : Shp} {V : Nat → Value} {n : Nat} (h : ∀ i, i < n → vIs s (V i)) : colIs n s (colOf s V n) ∧ (colOf s V n).len = n ∧ ∀ i, i < n → (colOf s V n).at i = V i := by
  cases s with
  | int k =>
    refine ⟨⟨_, rfl, by simp, fun x hx => ?_⟩, by simp [colOf, Col.len], fun i hi => ?_⟩
    · obtain ⟨i, hi, rfl⟩ := List.mem_map.1 hx
      obtain ⟨y, hy, hw⟩ := h i (List.mem_range.1 hi)
      rw [hy]; exact hw
    · obtain ⟨y, hy, hw⟩ := h i hi
      simp [colOf, Col.at, hi, hy]
  | bool =>
    refine ⟨⟨_, rfl, by simp⟩, by simp [colOf, Col.len], fun i hi => ?_⟩
    obtain ⟨y, hy⟩ := h i hi
    simp [colOf, Col.at, hi, hy]
def colsSh : List Shp → Nat → (Nat → List Value) → Nat → List Col
  | [], _, _, _ => []
  | s :: r, j, cs, n => colOf s (fun i => (cs i).getD j undef) n :: colsSh r (j + 1) cs n
theorem colsSh_len : ∀ (sh : List Shp) (j : Nat) (cs : Nat → List Value) (n : Nat), (colsSh sh j cs n).length = sh.length
  | [], _, _, _ => rfl
  | _ :: r, j, cs, n => by simp only [colsSh, List.length_cons, colsSh_len r]
theorem colsSh_ok {cs : Nat → List Value} {n : Nat} : ∀ (sh : List Shp) (j : Nat), (∀ i, i < n → ∀ (m : Nat) s, sh[m]? = some s → vIs s ((cs i).getD (j + m) undef)) →
    colsIs n sh (colsSh sh j cs n) ∧ ∀ (m : Nat) c, (colsSh sh j cs n)[m]? = some c → c.len = n ∧ ∀ i, i < n → c.at i = (cs i).getD (j + m) undef
  | [], j, _ => ⟨rfl, fun m c h => by simp [colsSh] at h⟩
  | s :: r, j, h => by
    have h0 := colOf_ok (s := s) (V := fun i => (cs i).getD j undef) (n := n) fun i hi => h i hi 0 s rfl
    obtain ⟨h1, h2⟩ := colsSh_ok (cs := cs) (n := n) r (j + 1) fun i hi m s' hm => by
      have := h i hi (m + 1) s' (by simpa using hm)
      rwa [show j + (m + 1) = j + 1 + m by omega] at this
    refine ⟨⟨_, _, rfl, h0.1, h1⟩, fun m c hm => ?_⟩
    cases m with
    | zero => simp only [colsSh, List.getElem?_cons_zero, Option.some.injEq] at hm; subst hm; exact ⟨h0.2.1, h0.2.2⟩
    | succ m =>
      have := h2 m c (by simpa [colsSh] using hm)
      rwa [show j + 1 + m = j + (m + 1) by omega] at this
theorem cellOf_world (W : World) (a : Addr) : cellOf (fun b => W.heap[b]?) a = W.cell? a := rfl
theorem open_rows {r : Reach} {b0 : Nat} {t e : TypeId} {v : Value} {dt : DataW H} {ps : List MemPlace} (d : Nat) (ht : P.underlying t = some (.slice e)) {sh : List Shp} (hsh : shpT P d e = some sh) (hce : P.cellsOf e = sh.length)
    (hv : Value.okWide P w r b0 t v) (h : DataW.Trod enc P w base sp held t v dt ps) :
    ∃ (a : Option Addr) (len cap : Nat) (cols : List Col), v = .slice a len cap ∧ colsIs len sh cols ∧ (RowAt (fun b => w.heap[b]?) a len cols ∧ len ≤ cap) := by
  obtain ⟨a0, len0, cap0, rfl⟩ := okWide_slice ht hv
  obtain ⟨fuel, hf⟩ := h
  rcases Go.Deep.open_slice ht hf with ⟨hcs, _⟩ | ⟨a, len, cap, m, n, Dt, Pl, hcs, hb, hl, hm, hmm, _, hx⟩
  · simp only [Value.cells, List.cons.injEq, and_true] at hcs
    injection hcs with e1 e2 e3
    subst e1; subst e2; subst e3
    obtain ⟨h1, h2⟩ := colsSh_ok (cs := fun _ => []) (n := 0) sh 0 fun i hi => absurd hi (Nat.not_lt_zero _)
    refine ⟨none, 0, 0, _, rfl, h1, ⟨fun c hc => ?_, fun i hi => absurd hi (Nat.not_lt_zero _), Nat.zero_le _⟩, Nat.le_refl _⟩
    obtain ⟨k, hk⟩ := List.getElem?_of_mem hc
    exact (h2 k c hk).1
  · simp only [Value.cells, List.cons.injEq, and_true] at hcs
    injection hcs with e1 e2 e3
    subst e1; subst e2; subst e3
    have hml : len0 ≤ m := by rw [hmm]; split <;> omega
    obtain ⟨cs, hcs⟩ := Go.Deep.choose_lt (α := List Value) (p := fun i cs' => w.cells? base (a.add (i * P.cellsOf e)) (P.cellsOf e) = some cs' ∧ DataW.trod enc P w base sp held n e cs' = some (Dt i, Pl i)) (n := len0) fun i hi => hx i (by omega)
    have hcells : ∀ i, i < len0 → cellsIs sh (cs i) := fun i hi => shpT_ok d e sh n _ _ hsh (hcs i hi).2
    obtain ⟨h1, h2⟩ := colsSh_ok (cs := cs) (n := len0) sh 0 fun i hi k s hk => by
      obtain ⟨x, hx1, hx2⟩ := cellsIs_get (hcells i hi) k s hk
      rw [Nat.zero_add, List.getD_eq_getElem?_getD, hx1]
      exact hx2
    refine ⟨some a, len0, cap0, _, rfl, h1, ⟨fun c hc => ?_, fun i hi => ⟨a, rfl, fun j c hj => ?_⟩, by omega⟩, by omega⟩
    · obtain ⟨k, hk⟩ := List.getElem?_of_mem hc
      exact (h2 k c hk).1
    · obtain ⟨_, hlen, hget⟩ := World.cells?_some (hcs i hi).1
      have hj' : j < sh.length := by
        have := lt_of_get hj
        rwa [colsSh_len] at this
      rw [cellOf_world, colsSh_len, ← hce, ← Go.Deep.add_add, hget j (by omega), (h2 j c hj).2 i hi, Nat.zero_add, List.getD_eq_getElem?_getD]
      rw [List.getElem?_eq_getElem (by omega)]
      rfl
end
end Go.Sl
namespace Go.Proofs.YtajlaibfcigdkaaGreat
open Go.ChangeShapes Go.WideShapes Go.ChangeAt Go.RowKit Go.Joins Go.Sl
theorem LargeDoes_own : ownKnob Tryz.prog.godebug = none := by kernel_rfl
theorem LargeDoes_laidOut : laidOutB Tryz.prog = true := by kernel_rfl
set_option maxRecDepth 100000 in
theorem LargeDoes_lifted (os : Os) (started : os.Started) (H : Type) (enc : TypeId × Value → H) :
    ReturnsInHanded {} Tryz.checked os 10 .any (Rows.largeDoesSpec.pre6 enc Tryz.prog Tryz.f10 Rows.largeDoesRow.domain false) (Rows.largeDoesSpec.post enc Tryz.prog Tryz.f10 false true false false) := by
  refine returnsInHanded_of_change (C := Tryz.checked) LargeDoes_own started (by kernel_rfl) Tryz.func10
    (ChangeSpec.witness6 (enc := enc) (C := Tryz.checked) false ⟨#[], #[.agg #[.int .i64 0, .int .i64 0, .int .i64 0], .slice none 0 0, .agg #[.int .i64 0, .int .i64 0]], []⟩ 8 (by kernel_rfl) (by kernel_rfl) (by kernel_rfl) (by kernel_rfl)) ?_
  intro W base args ds gs before hval0 hW _ _
  have hval : ∀ (j : Nat) t v, Tryz.f10.params[j]? = some t → args[j]? = some v → Value.okWide Tryz.prog W .any base t v := hval0
  have hW' := hW
  obtain ⟨p, q, hA0, _, _, _, _⟩ := hW
  have hA : DataW.TrodAll enc Tryz.prog W 0 (fun _ => true) true Tryz.f10.params.toList args.toList ds p := hA0
  rw [Tryz.params10] at hA hval
  obtain ⟨v0, v1, v2, d0, d1, d2, p0, p1, p2, rfl, rfl, _, h0, h1, h2⟩ := trodAll_three hA
  obtain ⟨k0, rfl, hk0⟩ := open_flat 8 (by kernel_rfl) (sh := [.int .i64, .int .i64, .int .i64]) (by kernel_rfl) (hval 0 23 v0 rfl rfl) h0
  obtain ⟨_, r0_0, rfl, ⟨a0_0, rfl, wa0_0⟩, hk0⟩ := hk0
  have ba0_0 := bd_i64 wa0_0
  obtain ⟨_, r0_1, rfl, ⟨a0_1, rfl, wa0_1⟩, hk0⟩ := hk0
  have ba0_1 := bd_i64 wa0_1
  obtain ⟨_, r0_2, rfl, ⟨a0_2, rfl, wa0_2⟩, hk0⟩ := hk0
  have ba0_2 := bd_i64 wa0_2
  obtain rfl := hk0
  obtain ⟨s1, n1, c1, k1, rfl, hk1, hr1⟩ := open_rows 8 Tryz.underlying24 (sh := [.int .u32]) (by kernel_rfl) (by kernel_rfl) (hval 1 24 v1 rfl rfl) h1
  obtain ⟨_, r1_0, rfl, ⟨x1_0, rfl, hl1_0, hw1_0⟩, hk1⟩ := hk1
  obtain rfl := hk1
  subst hl1_0
  obtain ⟨k2, rfl, hk2⟩ := open_flat 8 (by kernel_rfl) (sh := [.int .i64, .int .i64]) (by kernel_rfl) (hval 2 64 v2 rfl rfl) h2
  obtain ⟨_, r2_0, rfl, ⟨a2_0, rfl, wa2_0⟩, hk2⟩ := hk2
  have ba2_0 := bd_i64 wa2_0
  obtain ⟨_, r2_1, rfl, ⟨a2_1, rfl, wa2_1⟩, hk2⟩ := hk2
  have ba2_1 := bd_i64 wa2_1
  obtain rfl := hk2
  clear hA0 hval0
  refine (LargeDoes_plain a0_0 a0_1 a0_2 x1_0 a2_0 a2_1 s1 c1 hr1 (fun v hv => bd_u32 (hw1_0 v hv)) (Int.lt_add_one_iff.1 ba2_0.2) (Int.lt_add_one_iff.1 ba2_1.2) (Sat.start W)).mono fun e W' ⟨he, hS⟩ => ?_
  rw [show LargeDoes a0_0 a0_1 a0_2 x1_0 a2_0 a2_1 = true from rfl] at he
  subst he
  exact ⟨_, rfl, law_post 4 LargeDoes_laidOut hW' rfl rfl Tryz.underlying4 (by kernel_rfl) ⟨rfl, rfl, rfl⟩ hS.below⟩
theorem LargeDoes_holds : Rows.LargeDoesSaid :=
  OpenClaim.holds_of_wide 10 Tryz.f10 rfl rfl rfl rfl rfl rfl rfl ⟨rfl, rfl, rfl, rfl, rfl⟩ rfl rfl rfl rfl rfl (by kernel_rfl) Tryz.func10 (by kernel_rfl)
    (of_decide_eq_true (by kernel_rfl)) (by unfold Func.isWrapper; rw [if_neg (of_decide_eq_false (by kernel_rfl))]; exact ⟨rfl, rfl⟩)
    (fun os started H enc _ => LargeDoes_lifted os started H enc)
#print axioms LargeDoes_holds
end Go.Proofs.YtajlaibfcigdkaaGreat
