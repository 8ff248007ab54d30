/-
  DERIVED. Part 4 of the texts of this claim: What functions of the program compute, read off their bodies by the machine of SlB, and that it is so. Printed by a program of this claim's own.
-/
import Derived.Test.YtajcpopikdpcmaaGreatJLargeStays3
set_option linter.unusedSimpArgs false
set_option linter.unusedVariables false
namespace Go.Proofs.YtajcpopikdpcmaaGreat
open Go.Sl
structure AGood (c : Cf) (xs : List Int) : Prop where
  ok : c.ok = true
  len : (xs.length : Int) = c.cells
  bd : ∀ v ∈ xs, bd32 v
theorem cel_bd {c : Cf} {xs : List Int} (h : AGood c xs) (i : Int) : bd32 (cel xs i) := by
  unfold cel
  rw [List.getD_eq_getElem?_getD]
  cases e : xs[i.toNat]? with
  | none => exact ⟨by decide, by decide⟩
  | some v => exact h.bd v (List.mem_of_getElem? e)
theorem pc_in {c : Cf} {xs : List Int} (h : AGood c xs) {g k : Int} (hg : 0 ≤ g ∧ g < c.p) (hk : 0 ≤ k ∧ k ≤ 5) : 0 ≤ c.pc g k ∧ c.pc g k < (xs.length : Int) := by
  have h1 := Cf.ok_iff.1 h.ok
  have h2 := h.len
  have hp : c.page g = true := by simp [Cf.page, hg.1, hg.2]
  unfold Cf.cells at h2
  rw [h.ok, cond_true] at h2
  unfold Cf.pc
  rw [h.ok, hp]
  simp only [Bool.and_self, cond_true]
  omega
theorem bin_in {c : Cf} {xs : List Int} (h : AGood c xs) {k : Int} (hk : 0 ≤ k ∧ k < 11) : 0 ≤ cBin k ∧ cBin k < (xs.length : Int) := by
  have h1 := Cf.ok_iff.1 h.ok
  have h2 := h.len
  unfold Cf.cells at h2
  rw [h.ok, cond_true] at h2
  have e : (decide (0 ≤ k) && decide (k < 11)) = true := by simp [hk.1, hk.2]
  unfold cBin
  rw [e, cond_true]
  omega
theorem rack_in {c : Cf} {xs : List Int} (h : AGood c xs) {k : Int} (hk : 0 ≤ k ∧ k < 9) : 0 ≤ cRack k ∧ cRack k < (xs.length : Int) := by
  have h1 := Cf.ok_iff.1 h.ok
  have h2 := h.len
  unfold Cf.cells at h2
  rw [h.ok, cond_true] at h2
  have e : (decide (0 ≤ k) && decide (k < 9)) = true := by simp [hk.1, hk.2]
  unfold cRack
  rw [e, cond_true]
  omega
def r01_Bit (w : Int) (i : Int) : Bool := decide (i ≥ (0 : Int)) && decide (i < (32 : Int)) && Int.tmod (Int.fdiv w ((2 : Int) ^ min (Int.toNat (IntKind.wrap IntKind.u64 i)) (32 : Nat))) (2 : Int) == (1 : Int)
abbrev c_r01_Bit : Ct Sg := ⟨none, false, [.i .u32, .i .i64], .b⟩
def e_r01_Bit : Entry Sg := entC c_r01_Bit r01_Bit (fun _ _ => [])
theorem r01_Bit_ok : EntryOk Dg Tryz.prog 84 e_r01_Bit :=
  ent_ok Dg T_bin_Find_ok (I := []) Tryz.func84 mix (B := bodyOf Tryz.f84) (by kernel_rfl) rfl (by kernel_rfl) 400
    fun _ w i hb hp => ⟨(r01_Bit w i), (.need ((decide (i ≥ (0 : Int)) && decide (i < (32 : Int))) = true → (0 : Int) ≤ IntKind.wrap IntKind.u64 i) .t), fun _ _ _ => by kernel_rfl, ⟨(by first | omega | (rw [IntKind.wrap_u64]; omega) | (intro _; rw [IntKind.wrap_u64]; omega)), fun z0 => trivial⟩, rfl⟩
def T_r01_Bit : List (Nat × Entry Sg) := (84, e_r01_Bit) :: T_bin_Find
theorem T_r01_Bit_ok : TableOk Dg Tryz.prog T_r01_Bit := TableOk.cons Dg r01_Bit_ok T_bin_Find_ok
def r07_Slots (t : Int) (p : Int) (sh : Int) (g : Int) : Int := r07_Page t p sh g (4 : Int)
abbrev c_r07_Slots : Ct Sg := ⟨none, false, [.agg [.i .i64, .i .i64, .i .i64], .i .i64], .i .i64⟩
def e_r07_Slots : Entry Sg := entC c_r07_Slots r07_Slots (fun _ _ _ _ => [])
theorem r07_Slots_ok : EntryOk Dg Tryz.prog 116 e_r07_Slots :=
  ent_ok Dg T_r01_Bit_ok (I := []) Tryz.func116 mix (B := bodyOf Tryz.f116) (by kernel_rfl) rfl (by kernel_rfl) 400
    fun _ t p sh g hb hp => ⟨(r07_Slots t p sh g), .t, fun _ _ _ => by kernel_rfl, trivial, rfl⟩
def T_r07_Slots : List (Nat × Entry Sg) := (116, e_r07_Slots) :: T_r01_Bit
theorem T_r07_Slots_ok : TableOk Dg Tryz.prog T_r07_Slots := TableOk.cons Dg r07_Slots_ok T_r01_Bit_ok
def r07_Taken (t : Int) (p : Int) (sh : Int) (g : Int) : Int := r07_Page t p sh g (5 : Int)
abbrev c_r07_Taken : Ct Sg := ⟨none, false, [.agg [.i .i64, .i .i64, .i .i64], .i .i64], .i .i64⟩
def e_r07_Taken : Entry Sg := entC c_r07_Taken r07_Taken (fun _ _ _ _ => [])
theorem r07_Taken_ok : EntryOk Dg Tryz.prog 87 e_r07_Taken :=
  ent_ok Dg T_r07_Slots_ok (I := []) Tryz.func87 mix (B := bodyOf Tryz.f87) (by kernel_rfl) rfl (by kernel_rfl) 400
    fun _ t p sh g hb hp => ⟨(r07_Taken t p sh g), .t, fun _ _ _ => by kernel_rfl, trivial, rfl⟩
def T_r07_Taken : List (Nat × Entry Sg) := (87, e_r07_Taken) :: T_r07_Slots
theorem T_r07_Taken_ok : TableOk Dg Tryz.prog T_r07_Taken := TableOk.cons Dg r07_Taken_ok T_r07_Slots_ok
def r07_Rack (k : Int) : Int := (bif decide (k < (0 : Int)) || decide (k > (8 : Int)) then (-1 : Int) else IntKind.wrap IntKind.i64 ((13 : Int) + k))
abbrev c_r07_Rack : Ct Sg := ⟨none, false, [.i .i64], .i .i64⟩
def e_r07_Rack : Entry Sg := entC c_r07_Rack r07_Rack (fun _ => [])
theorem r07_Rack_ok : EntryOk Dg Tryz.prog 124 e_r07_Rack :=
  ent_ok Dg T_r07_Taken_ok (I := []) Tryz.func124 mix (B := bodyOf Tryz.f124) (by kernel_rfl) rfl (by kernel_rfl) 400
    fun _ k hb hp => ⟨(r07_Rack k), .t, fun _ _ _ => by kernel_rfl, trivial, rfl⟩
def T_r07_Rack : List (Nat × Entry Sg) := (124, e_r07_Rack) :: T_r07_Taken
theorem T_r07_Rack_ok : TableOk Dg Tryz.prog T_r07_Rack := TableOk.cons Dg r07_Rack_ok T_r07_Taken_ok
def r07_Cells (t : Int) (p : Int) (sh : Int) : Int := (bif !r04_Right t p sh then (0 : Int) else IntKind.wrap IntKind.i64 (IntKind.wrap IntKind.i64 ((30 : Int) + IntKind.wrap IntKind.i64 ((4 : Int) * t)) + IntKind.wrap IntKind.i64 ((6 : Int) * p)))
abbrev c_r07_Cells : Ct Sg := ⟨none, false, [.agg [.i .i64, .i .i64, .i .i64]], .i .i64⟩
def e_r07_Cells : Entry Sg := entC c_r07_Cells r07_Cells (fun _ _ _ => [])
theorem r07_Cells_ok : EntryOk Dg Tryz.prog 89 e_r07_Cells :=
  ent_ok Dg T_r07_Rack_ok (I := []) Tryz.func89 mix (B := bodyOf Tryz.f89) (by kernel_rfl) rfl (by kernel_rfl) 400
    fun _ t p sh hb hp => ⟨(r07_Cells t p sh), .t, fun _ _ _ => by kernel_rfl, trivial, rfl⟩
def T_r07_Cells : List (Nat × Entry Sg) := (89, e_r07_Cells) :: T_r07_Rack
theorem T_r07_Cells_ok : TableOk Dg Tryz.prog T_r07_Cells := TableOk.cons Dg r07_Cells_ok T_r07_Rack_ok
def r05_Slots (k : Int) : Int := (bif k == (0 : Int) then (32 : Int) else (bif k == (1 : Int) then (21 : Int) else (bif k == (2 : Int) then (16 : Int) else (bif k == (3 : Int) then (10 : Int) else (bif k == (4 : Int) then (8 : Int) else (bif k == (5 : Int) then (5 : Int) else (bif k == (6 : Int) then (4 : Int) else (bif k == (7 : Int) then (3 : Int) else (bif k == (8 : Int) then (2 : Int) else (0 : Int))))))))))
abbrev c_r05_Slots : Ct Sg := ⟨none, false, [.i .i64], .i .i64⟩
def e_r05_Slots : Entry Sg := entC c_r05_Slots r05_Slots (fun _ => [])
theorem r05_Slots_ok : EntryOk Dg Tryz.prog 39 e_r05_Slots :=
  ent_ok Dg T_r07_Cells_ok (I := []) Tryz.func39 mix (B := bodyOf Tryz.f39) (by kernel_rfl) rfl (by kernel_rfl) 400
    fun _ k hb hp => ⟨(r05_Slots k), .t, fun _ _ _ => by kernel_rfl, trivial, rfl⟩
def T_r05_Slots : List (Nat × Entry Sg) := (39, e_r05_Slots) :: T_r07_Cells
theorem T_r05_Slots_ok : TableOk Dg Tryz.prog T_r05_Slots := TableOk.cons Dg r05_Slots_ok T_r07_Cells_ok
def x_Info (t : Int) (p : Int) (sh : Int) (xs : List Int) (g : Int) : Int × Int × Int := ((aInfo ⟨t, p, sh⟩ xs g).k, (aInfo ⟨t, p, sh⟩ xs g).l, (aInfo ⟨t, p, sh⟩ xs g).c)
abbrev c_x_Info : Ct Sg := ⟨none, false, [.agg [.i .i64, .i .i64, .i .i64, .ro [some .u32]], .i .i64], .agg [.i .i64, .i .i64, .i .i64]⟩
def e_x_Info : Entry Sg := entC c_x_Info x_Info (fun t p sh xs g => [AGood ⟨t, p, sh⟩ xs, 0 ≤ g ∧ g < p])
def x_Info_w (t : Int) (p : Int) (sh : Int) (xs : List Int) (g : Int) (R_ : Int × Int × Int → Prop) : Prop := ((∀ r2 : Int, r2 = (r07_Info t p sh g) → (((0 : Int) ≤ r2 ∧ r2 < (↑(List.length xs) : Int)) ∧ (((0 : Int) ≤ r2 ∧ r2 < (↑(List.length xs) : Int)) → ((∀ r4 : Int × Int × Int × Bool, r4 = (r09_Get (List.getD xs (Int.toNat r2) (0 : Int))) → (R_ ((Prod.fst r4, Prod.fst (Prod.snd r4), Prod.fst (Prod.snd (Prod.snd r4)))))) ∧ (∀ r5 : Int × Int × Int × Bool, r5 = (r09_Get (List.getD xs (Int.toNat r2) (0 : Int))) → (R_ ((Prod.fst r5, Prod.fst (Prod.snd r5), Prod.fst (Prod.snd (Prod.snd r5)))))))))) ∧ (∀ r3 : Int, r3 = (r07_Info t p sh g) → (((0 : Int) ≤ r3 ∧ r3 < (↑(List.length xs) : Int)) ∧ (((0 : Int) ≤ r3 ∧ r3 < (↑(List.length xs) : Int)) → (∀ r5 : Int × Int × Int × Bool, r5 = (r09_Get (List.getD xs (Int.toNat r3) (0 : Int))) → (R_ ((Prod.fst r5, Prod.fst (Prod.snd r5), Prod.fst (Prod.snd (Prod.snd r5))))))))))
theorem x_Info_begin (t : Int) (p : Int) (sh : Int) (xs : List Int) (g : Int) (hp0 : AGood ⟨t, p, sh⟩ xs) (hp1 : 0 ≤ g ∧ g < p) (hl0 : xs.length ≤ 9223372036854775807) : x_Info_w t p sh xs g  (fun r__ => r__ = (x_Info t p sh xs g)) := by
  unfold x_Info_w
  have hin := pc_in hp0 hp1 (k := 0) (by omega)
  obtain ⟨e1, e2, e3⟩ := r09_Get_i (cel_bd hp0 (Cf.info ⟨t, p, sh⟩ g))
  have key : ∀ r2, r2 = r07_Info t p sh g → (0 ≤ r2 ∧ r2 < (xs.length : Int)) ∧ ∀ r4 : Int × Int × Int × Bool, r4 = r09_Get (xs.getD r2.toNat 0) → (r4.1, r4.2.1, r4.2.2.1) = x_Info t p sh xs g := by
    rintro r2 rfl
    rw [r07_Info_eq]
    refine ⟨hin, ?_⟩
    rintro r4 rfl
    exact Prod.ext e1 (Prod.ext e2 e3)
  exact ⟨fun r2 h2 => ⟨(key r2 h2).1, fun _ => ⟨fun r4 h4 => (key r2 h2).2 r4 h4, fun r5 h5 => (key r2 h2).2 r5 h5⟩⟩, fun r3 h3 => ⟨(key r3 h3).1, fun _ r5 h5 => (key r3 h3).2 r5 h5⟩⟩
theorem x_Info_ok : EntryOk Dg Tryz.prog 13 e_x_Info :=
  ent_wp Dg T_r05_Slots_ok (I := []) Tryz.func13 mix (B := bodyOf Tryz.f13) (by kernel_rfl) rfl (by kernel_rfl) 400
    fun p0 t p sh xs g hb hp => have hl0 : xs.length ≤ 9223372036854775807 := hb.1.2.2.2.1; have hp0 : AGood ⟨t, p, sh⟩ xs := hp _ (.head _); have hp1 : 0 ≤ g ∧ g < p := hp _ (.tail _ (.head _)); ⟨[], fun j => List.getD [] j (fun _ => False), fun j => List.getD [] j (fun _ => (0, 0, 0)), by kernel_rfl, ⟨x_Info_w t p sh xs g  (fun r__ => r__ = (x_Info t p sh xs g)), fun _ _ _ => by kernel_rfl, x_Info_begin t p sh xs g hp0 hp1 hl0 ⟩, trivial⟩
def T_x_Info : List (Nat × Entry Sg) := (13, e_x_Info) :: T_r05_Slots
theorem T_x_Info_ok : TableOk Dg Tryz.prog T_x_Info := TableOk.cons Dg x_Info_ok T_r05_Slots_ok
def x_Slots (t : Int) (p : Int) (sh : Int) (xs : List Int) (g : Int) : Int := cel xs (Cf.slots ⟨t, p, sh⟩ g)
abbrev c_x_Slots : Ct Sg := ⟨none, false, [.agg [.i .i64, .i .i64, .i .i64, .ro [some .u32]], .i .i64], .i .u32⟩
def e_x_Slots : Entry Sg := entC c_x_Slots x_Slots (fun t p sh xs g => [AGood ⟨t, p, sh⟩ xs, 0 ≤ g ∧ g < p])
def x_Slots_w (t : Int) (p : Int) (sh : Int) (xs : List Int) (g : Int) (R_ : Int → Prop) : Prop := (((0 : Int) ≤ r07_Slots t p sh g ∧ r07_Slots t p sh g < (↑(List.length xs) : Int)) ∧ (((0 : Int) ≤ r07_Slots t p sh g ∧ r07_Slots t p sh g < (↑(List.length xs) : Int)) → (R_ (List.getD xs (Int.toNat (r07_Slots t p sh g)) (0 : Int)))))
theorem x_Slots_begin (t : Int) (p : Int) (sh : Int) (xs : List Int) (g : Int) (hp0 : AGood ⟨t, p, sh⟩ xs) (hp1 : 0 ≤ g ∧ g < p) (hl0 : xs.length ≤ 9223372036854775807) : x_Slots_w t p sh xs g  (fun r__ => r__ = (x_Slots t p sh xs g)) := by
  unfold x_Slots_w
  have e : r07_Slots t p sh g = Cf.slots ⟨t, p, sh⟩ g := r07_Page_eq (by omega)
  have hin := pc_in hp0 hp1 (k := 4) (by omega)
  rw [e]
  exact ⟨hin, fun _ => rfl⟩
theorem x_Slots_ok : EntryOk Dg Tryz.prog 85 e_x_Slots :=
  ent_wp Dg T_x_Info_ok (I := []) Tryz.func85 mix (B := bodyOf Tryz.f85) (by kernel_rfl) rfl (by kernel_rfl) 400
    fun p0 t p sh xs g hb hp => have hl0 : xs.length ≤ 9223372036854775807 := hb.1.2.2.2.1; have hp0 : AGood ⟨t, p, sh⟩ xs := hp _ (.head _); have hp1 : 0 ≤ g ∧ g < p := hp _ (.tail _ (.head _)); ⟨[], fun j => List.getD [] j (fun _ => False), fun j => List.getD [] j (fun _ => (0, 0, 0)), by kernel_rfl, ⟨x_Slots_w t p sh xs g  (fun r__ => r__ = (x_Slots t p sh xs g)), fun _ _ _ => by kernel_rfl, x_Slots_begin t p sh xs g hp0 hp1 hl0 ⟩, trivial⟩
def T_x_Slots : List (Nat × Entry Sg) := (85, e_x_Slots) :: T_x_Info
theorem T_x_Slots_ok : TableOk Dg Tryz.prog T_x_Slots := TableOk.cons Dg x_Slots_ok T_x_Info_ok
def x_Taken (t : Int) (p : Int) (sh : Int) (xs : List Int) (g : Int) : Int := cel xs (Cf.taken ⟨t, p, sh⟩ g)
abbrev c_x_Taken : Ct Sg := ⟨none, false, [.agg [.i .i64, .i .i64, .i .i64, .ro [some .u32]], .i .i64], .i .u32⟩
def e_x_Taken : Entry Sg := entC c_x_Taken x_Taken (fun t p sh xs g => [AGood ⟨t, p, sh⟩ xs, 0 ≤ g ∧ g < p])
def x_Taken_w (t : Int) (p : Int) (sh : Int) (xs : List Int) (g : Int) (R_ : Int → Prop) : Prop := (((0 : Int) ≤ r07_Taken t p sh g ∧ r07_Taken t p sh g < (↑(List.length xs) : Int)) ∧ (((0 : Int) ≤ r07_Taken t p sh g ∧ r07_Taken t p sh g < (↑(List.length xs) : Int)) → (R_ (List.getD xs (Int.toNat (r07_Taken t p sh g)) (0 : Int)))))
theorem x_Taken_begin (t : Int) (p : Int) (sh : Int) (xs : List Int) (g : Int) (hp0 : AGood ⟨t, p, sh⟩ xs) (hp1 : 0 ≤ g ∧ g < p) (hl0 : xs.length ≤ 9223372036854775807) : x_Taken_w t p sh xs g  (fun r__ => r__ = (x_Taken t p sh xs g)) := by
  unfold x_Taken_w
  have e : r07_Taken t p sh g = Cf.taken ⟨t, p, sh⟩ g := r07_Page_eq (by omega)
  have hin := pc_in hp0 hp1 (k := 5) (by omega)
  rw [e]
  exact ⟨hin, fun _ => rfl⟩
theorem x_Taken_ok : EntryOk Dg Tryz.prog 44 e_x_Taken :=
  ent_wp Dg T_x_Slots_ok (I := []) Tryz.func44 mix (B := bodyOf Tryz.f44) (by kernel_rfl) rfl (by kernel_rfl) 400
    fun p0 t p sh xs g hb hp => have hl0 : xs.length ≤ 9223372036854775807 := hb.1.2.2.2.1; have hp0 : AGood ⟨t, p, sh⟩ xs := hp _ (.head _); have hp1 : 0 ≤ g ∧ g < p := hp _ (.tail _ (.head _)); ⟨[], fun j => List.getD [] j (fun _ => False), fun j => List.getD [] j (fun _ => (0, 0, 0)), by kernel_rfl, ⟨x_Taken_w t p sh xs g  (fun r__ => r__ = (x_Taken t p sh xs g)), fun _ _ _ => by kernel_rfl, x_Taken_begin t p sh xs g hp0 hp1 hl0 ⟩, trivial⟩
def T_x_Taken : List (Nat × Entry Sg) := (44, e_x_Taken) :: T_x_Slots
theorem T_x_Taken_ok : TableOk Dg Tryz.prog T_x_Taken := TableOk.cons Dg x_Taken_ok T_x_Slots_ok
end Go.Proofs.YtajcpopikdpcmaaGreat
namespace Go.Proofs.YtajcpopikdpcmaaGreat
open Go.Sl
theorem r09_ok {v : Int} (h : bd32 v) : (r09_Get v).2.2.2 = infoOk v := by
  rw [r09_Get_eq h.1 h.2]
  unfold infoOk
  rw [← iRight_eq]
  cases info_right (v % 16) (v / 16 % 4096) (v / 65536) <;> rfl
def x_starts (t : Int) (p : Int) (sh : Int) (xs : List Int) : List Int × Bool := starts ⟨t, p, sh⟩ xs
abbrev c_x_starts : Ct Sg := ⟨none, false, [.agg [.i .i64, .i .i64, .i .i64, .ro [some .u32]]], .tup [.new 3 [some .i64], .b]⟩
def e_x_starts : Entry Sg := entC c_x_starts x_starts (fun t p sh xs => [AGood ⟨t, p, sh⟩ xs])
def x_starts_w (t : Int) (p : Int) (sh : Int) (xs : List Int) (Q0 : Int → Nat → List Int → Prop) (R_ : List Int × Bool → Prop) : Prop := (Q0 ((0 : Int)) ((0 : Nat)) ([]))
def x_starts_w0 (t : Int) (p : Int) (sh : Int) (xs : List Int) (i : Int) (n1 : Nat) (out : List Int) (Q0 : Int → Nat → List Int → Prop) (R_ : List Int × Bool → Prop) : Prop := (((decide (i < p)) = true → ((∀ r1 : Int, r1 = (r07_Info t p sh i) → (((0 : Int) ≤ r1 ∧ r1 < (↑(List.length xs) : Int)) ∧ (((0 : Int) ≤ r1 ∧ r1 < (↑(List.length xs) : Int)) → ((∀ r3 : Int × Int × Int × Bool, r3 = (r09_Get (List.getD xs (Int.toNat r1) (0 : Int))) → (((!Prod.snd (Prod.snd (Prod.snd r3)) || Prod.fst r3 == (0 : Int)) = true → (R_ (([], false)))) ∧ ((!Prod.snd (Prod.snd (Prod.snd r3)) || Prod.fst r3 == (0 : Int)) = false → (((n1 + (1 : Nat)) * (8 : Nat) ≤ (140737488355328 : Nat)) ∧ (((n1 + (1 : Nat)) * (8 : Nat) ≤ (140737488355328 : Nat)) → (Q0 (IntKind.wrap IntKind.i64 (i + Prod.fst (Prod.snd r3))) (n1 + (1 : Nat)) (out ++ [i]))))))) ∧ (∀ r4 : Int × Int × Int × Bool, r4 = (r09_Get (List.getD xs (Int.toNat r1) (0 : Int))) → (((!Prod.snd (Prod.snd (Prod.snd r4)) || Prod.fst r4 == (0 : Int)) = true → (R_ (([], false)))) ∧ ((!Prod.snd (Prod.snd (Prod.snd r4)) || Prod.fst r4 == (0 : Int)) = false → (((n1 + (1 : Nat)) * (8 : Nat) ≤ (140737488355328 : Nat)) ∧ (((n1 + (1 : Nat)) * (8 : Nat) ≤ (140737488355328 : Nat)) → (Q0 (IntKind.wrap IntKind.i64 (i + Prod.fst (Prod.snd r4))) (n1 + (1 : Nat)) (out ++ [i]))))))))))) ∧ (∀ r2 : Int, r2 = (r07_Info t p sh i) → (((0 : Int) ≤ r2 ∧ r2 < (↑(List.length xs) : Int)) ∧ (((0 : Int) ≤ r2 ∧ r2 < (↑(List.length xs) : Int)) → (∀ r4 : Int × Int × Int × Bool, r4 = (r09_Get (List.getD xs (Int.toNat r2) (0 : Int))) → (((!Prod.snd (Prod.snd (Prod.snd r4)) || Prod.fst r4 == (0 : Int)) = true → (R_ (([], false)))) ∧ ((!Prod.snd (Prod.snd (Prod.snd r4)) || Prod.fst r4 == (0 : Int)) = false → (((n1 + (1 : Nat)) * (8 : Nat) ≤ (140737488355328 : Nat)) ∧ (((n1 + (1 : Nat)) * (8 : Nat) ≤ (140737488355328 : Nat)) → (Q0 (IntKind.wrap IntKind.i64 (i + Prod.fst (Prod.snd r4))) (n1 + (1 : Nat)) (out ++ [i])))))))))))) ∧ ((decide (i < p)) = false → (R_ ((out, i == p)))))
def x_starts_I0 (t : Int) (p : Int) (sh : Int) (xs : List Int) (i : Int) (n1 : Nat) (out : List Int) (r_ : List Int × Bool) : Prop := 0 ≤ i ∧ n1 = out.length ∧ (out.length : Int) ≤ i ∧ i ≤ p + 1024 ∧ ∃ f : Nat, p - i < f ∧ startsF ⟨t, p, sh⟩ xs f i out = r_
theorem x_starts_begin (t : Int) (p : Int) (sh : Int) (xs : List Int) (hp0 : AGood ⟨t, p, sh⟩ xs) (hl0 : xs.length ≤ 9223372036854775807) : x_starts_w t p sh xs (fun i' n1' out' => x_starts_I0 t p sh xs i' n1' out' (x_starts t p sh xs)) (fun r__ => r__ = (x_starts t p sh xs)) := by
  unfold x_starts_w
  try unfold x_starts_I0
  have hok := Cf.ok_iff.1 hp0.ok
  simp only at hok
  exact ⟨by omega, rfl, by simp, by omega, p.toNat + 1, by omega, rfl⟩
theorem x_starts_step0 (t : Int) (p : Int) (sh : Int) (xs : List Int) (hp0 : AGood ⟨t, p, sh⟩ xs) (hl0 : xs.length ≤ 9223372036854775807) (i : Int) (n1 : Nat) (out : List Int) {r_ : List Int × Bool} (hI : x_starts_I0 t p sh xs i n1 out r_) : x_starts_w0 t p sh xs i n1 out (fun i' n1' out' => x_starts_I0 t p sh xs i' n1' out' r_ ∧ lx ((p + 1025 - i').toNat, 0, 0) ((p + 1025 - i).toNat, 0, 0)) (fun r__ => r__ = r_) := by
  unfold x_starts_I0 at hI
  unfold x_starts_w0
  try unfold x_starts_I0
  obtain ⟨h0, h1, h2, h3, f, hf, hr⟩ := hI
  have hok := Cf.ok_iff.1 hp0.ok
  simp only at hok
  refine ⟨fun h => ?_, fun h => ?_⟩
  · simp only [decide_eq_true_eq] at h
    obtain ⟨f', rfl⟩ : ∃ f', f = f' + 1 := ⟨f - 1, by omega⟩
    have hin := pc_in hp0 (g := i) (k := 0) ⟨h0, h⟩ (by omega)
    have hb := cel_bd hp0 (Cf.info ⟨t, p, sh⟩ i)
    obtain ⟨g1, g2, _⟩ := r09_Get_i hb
    have g3 := r09_ok hb
    have hd : decide (i < p) = true := by simpa using h
    simp only [startsF, hd, cond_true] at hr
    have hw : ∀ l : Int, 0 ≤ l → l ≤ 1024 → IntKind.i64.wrap (i + l) = i + l := fun l h1 h2 => w64 (by omega)
    have key : ∀ r1, r1 = r07_Info t p sh i → (0 ≤ r1 ∧ r1 < (xs.length : Int)) ∧ ∀ r4 : Int × Int × Int × Bool, r4 = r09_Get (xs.getD r1.toNat 0) → ((!r4.2.2.2 || r4.1 == 0) = true → ([], false) = r_) ∧ ((!r4.2.2.2 || r4.1 == 0) = false → (n1 + 1) * 8 ≤ 140737488355328 ∧
        ((0 ≤ IntKind.i64.wrap (i + r4.2.1) ∧ n1 + 1 = (out ++ [i]).length ∧ ((out ++ [i]).length : Int) ≤ IntKind.i64.wrap (i + r4.2.1) ∧ IntKind.i64.wrap (i + r4.2.1) ≤ p + 1024 ∧ ∃ f : Nat, p - IntKind.i64.wrap (i + r4.2.1) < f ∧ startsF ⟨t, p, sh⟩ xs f (IntKind.i64.wrap (i + r4.2.1)) (out ++ [i]) = r_) ∧ lx ((p + 1025 - IntKind.i64.wrap (i + r4.2.1)).toNat, 0, 0) ((p + 1025 - i).toNat, 0, 0))) := by
      rintro r1 rfl
      rw [r07_Info_eq]
      refine ⟨hin, ?_⟩
      rintro r4 rfl
      have e1 : (r09_Get (xs.getD (Cf.info ⟨t, p, sh⟩ i).toNat 0)).1 = (aInfo ⟨t, p, sh⟩ xs i).k := g1
      have e2 : (r09_Get (xs.getD (Cf.info ⟨t, p, sh⟩ i).toNat 0)).2.1 = (aInfo ⟨t, p, sh⟩ xs i).l := g2
      have e3 : (r09_Get (xs.getD (Cf.info ⟨t, p, sh⟩ i).toNat 0)).2.2.2 = infoOk (cel xs (Cf.info ⟨t, p, sh⟩ i)) := g3
      rw [e1, e2, e3]
      refine ⟨fun hc => ?_, fun hc => ?_⟩
      · rw [hc] at hr; exact hr
      · rw [hc, cond_false] at hr
        simp only [Bool.or_eq_false_iff, Bool.not_eq_false'] at hc
        have hl : 1 ≤ (aInfo ⟨t, p, sh⟩ xs i).l := iGet_len hc.1 hc.2
        have hl2 : (aInfo ⟨t, p, sh⟩ xs i).l ≤ 1024 := (iGet_bd _).2.2.2.1
        rw [hw _ (by omega) hl2]
        refine ⟨by omega, ⟨by omega, by simp [h1], by simp; omega, by omega, f', by omega, hr⟩, lxo_⟩
    exact ⟨fun r1 q1 => ⟨(key r1 q1).1, fun _ => ⟨fun r3 q3 => ⟨((key r1 q1).2 r3 q3).1, fun hc => ⟨(((key r1 q1).2 r3 q3).2 hc).1, fun _ => (((key r1 q1).2 r3 q3).2 hc).2⟩⟩, fun r4 q4 => ⟨((key r1 q1).2 r4 q4).1, fun hc => ⟨(((key r1 q1).2 r4 q4).2 hc).1, fun _ => (((key r1 q1).2 r4 q4).2 hc).2⟩⟩⟩⟩, fun r2 q2 => ⟨(key r2 q2).1, fun _ r4 q4 => ⟨((key r2 q2).2 r4 q4).1, fun hc => ⟨(((key r2 q2).2 r4 q4).2 hc).1, fun _ => (((key r2 q2).2 r4 q4).2 hc).2⟩⟩⟩⟩
  · have hd : decide (i < p) = false := h
    show (out, i == p) = r_
    rw [← hr]
    cases f with
    | zero => rfl
    | succ f => simp only [startsF, hd, cond_false]
theorem x_starts_ok : EntryOk Dg Tryz.prog 118 e_x_starts :=
  ent_wp Dg T_x_Taken_ok (I := [363000000005, 363000000004, 363000000001]) Tryz.func118 mix (B := bodyOf Tryz.f118) (by kernel_rfl) rfl (by kernel_rfl) 400
    fun p0 t p sh xs hb hp => have hl0 : xs.length ≤ 9223372036854775807 := hb.1.2.2.2.1; have hp0 : AGood ⟨t, p, sh⟩ xs := hp _ (.head _); ⟨[⟨none, [0,0,1,1,1], [.blk 0, .code [1,1,1,1]], [5, 4, 1], [.i .i64, .own 3 [some .i64], .box 29 [.ic .i64 (t), .ic .i64 (p), .ic .i64 (sh), .roc [.ints .u32 (xs)]]]⟩], fun j => List.getD [appC (Hd.kd (⟨none, [0,0,1,1,1], [.blk 0, .code [1,1,1,1]], [5, 4, 1], [.i .i64, .own 3 [some .i64], .box 29 [.ic .i64 (t), .ic .i64 (p), .ic .i64 (sh), .roc [.ints .u32 (xs)]]]⟩ : Hd Sg)) (fun i' n1' out' => x_starts_I0 t p sh xs i' n1' out' (x_starts t p sh xs))] j (fun _ => False), fun j => List.getD [appC (Hd.kd (⟨none, [0,0,1,1,1], [.blk 0, .code [1,1,1,1]], [5, 4, 1], [.i .i64, .own 3 [some .i64], .box 29 [.ic .i64 (t), .ic .i64 (p), .ic .i64 (sh), .roc [.ints .u32 (xs)]]]⟩ : Hd Sg)) (fun i' n1' out' => ((p + 1025 - i').toNat, 0, 0))] j (fun _ => (0, 0, 0)), by kernel_rfl, ⟨x_starts_w t p sh xs (fun i' n1' out' => x_starts_I0 t p sh xs i' n1' out' (x_starts t p sh xs)) (fun r__ => r__ = (x_starts t p sh xs)), fun _ _ _ => by kernel_rfl, x_starts_begin t p sh xs hp0 hl0 ⟩, ⟨fun i n1 out hI => ⟨x_starts_w0 t p sh xs i n1 out (fun i' n1' out' => x_starts_I0 t p sh xs i' n1' out' (x_starts t p sh xs) ∧ lx ((p + 1025 - i').toNat, 0, 0) ((p + 1025 - i).toNat, 0, 0)) (fun r__ => r__ = (x_starts t p sh xs)), fun _ _ _ => by kernel_rfl, x_starts_step0 t p sh xs hp0 hl0 i n1 out hI⟩, trivial⟩⟩
def T_x_starts : List (Nat × Entry Sg) := (118, e_x_starts) :: T_x_Taken
theorem T_x_starts_ok : TableOk Dg Tryz.prog T_x_starts := TableOk.cons Dg x_starts_ok T_x_Taken_ok
end Go.Proofs.YtajcpopikdpcmaaGreat
namespace Go.Proofs.YtajcpopikdpcmaaGreat
open Go.Sl
theorem startsF_in {c : Cf} {xs : List Int} : ∀ (f : Nat) (a : Int) (out : List Int), 0 ≤ a → (∀ x ∈ out, 0 ≤ x ∧ x < c.p) → ∀ x ∈ (startsF c xs f a out).1, 0 ≤ x ∧ x < c.p
  | 0, _, out, _, h, x, hx => h x hx
  | f + 1, a, out, ha, h, x, hx => by
    simp only [startsF] at hx
    cases hd : decide (a < c.p) with
    | false => rw [hd] at hx; exact h x hx
    | true =>
      rw [hd, cond_true] at hx
      cases hc : (!infoOk (cel xs (c.info a)) || (aInfo c xs a).k == 0) with
      | true => rw [hc] at hx; cases hx
      | false =>
        rw [hc, cond_false] at hx
        have hl := (iGet_bd (cel xs (c.info a))).2.2.1
        have hl' : 0 ≤ (aInfo c xs a).l := hl
        refine startsF_in f _ _ (by omega) (fun y hy => ?_) x hx
        rcases List.mem_append.1 hy with hy | hy
        · exact h y hy
        · rw [List.mem_singleton.1 hy]; exact ⟨ha, by simpa using hd⟩
theorem starts_in {c : Cf} {xs : List Int} : ∀ x ∈ (starts c xs).1, 0 ≤ x ∧ x < c.p := startsF_in _ _ _ (Int.le_refl 0) fun x hx => by cases hx
theorem startsF_ne {c : Cf} {xs : List Int} : ∀ (f : Nat) (a : Int) (out : List Int), out ≠ [] → (startsF c xs f a out).2 = true → (startsF c xs f a out).1 ≠ []
  | 0, _, out, h, _ => h
  | f + 1, a, out, h, ht => by
    simp only [startsF] at ht ⊢
    cases hd : decide (a < c.p) with
    | false => exact h
    | true =>
      rw [hd, cond_true] at ht
      rw [cond_true]
      cases hc : (!infoOk (cel xs (c.info a)) || (aInfo c xs a).k == 0) with
      | true => rw [hc] at ht; cases ht
      | false =>
        rw [hc, cond_false] at ht
        exact startsF_ne f _ _ (by simp) ht
theorem starts_ne {c : Cf} {xs : List Int} (hp : 1 ≤ c.p) (h : (starts c xs).2 = true) : 1 ≤ (starts c xs).1.length := by
  have hd : decide ((0 : Int) < c.p) = true := by simp; omega
  have : (starts c xs).1 ≠ [] := by
    unfold starts at h ⊢
    simp only [startsF, hd, cond_true] at h ⊢
    cases hc : (!infoOk (cel xs (c.info 0)) || (aInfo c xs 0).k == 0) with
    | true => rw [hc] at h; cases h
    | false =>
      rw [hc, cond_false] at h
      exact startsF_ne _ _ _ (by simp) h
  rcases hl : (starts c xs).1 with _ | ⟨x, r⟩
  · exact absurd hl this
  · simp
theorem startsF_len {c : Cf} {xs : List Int} : ∀ (f : Nat) (a : Int) (out : List Int), (startsF c xs f a out).1.length ≤ out.length + f
  | 0, _, out => Nat.le_refl _
  | f + 1, a, out => by
    simp only [startsF]
    cases decide (a < c.p) with
    | false => simp only [cond_false]; omega
    | true =>
      simp only [cond_true]
      cases (!infoOk (cel xs (c.info a)) || (aInfo c xs a).k == 0) with
      | true => simp only [cond_true, List.length_nil]; omega
      | false =>
        simp only [cond_false]
        have := startsF_len (c := c) (xs := xs) f (a + (aInfo c xs a).l) (out ++ [a])
        simp only [List.length_append, List.length_singleton] at this
        omega
theorem starts_len {c : Cf} {xs : List Int} : (starts c xs).1.length ≤ c.p.toNat + 1 := by
  have := startsF_len (c := c) (xs := xs) (c.p.toNat + 1) 0 []
  unfold starts
  simpa using this
theorem getD_memA {l : List Int} {j : Nat} (h : j < l.length) : l.getD j 0 ∈ l := by
  rw [List.getD_eq_getElem?_getD, List.getElem?_eq_getElem h]; exact List.getElem_mem h
def x_tiles (t : Int) (p : Int) (sh : Int) (xs : List Int) : Bool := tiles ⟨t, p, sh⟩ xs
abbrev c_x_tiles : Ct Sg := ⟨none, false, [.agg [.i .i64, .i .i64, .i .i64, .ro [some .u32]]], .b⟩
def e_x_tiles : Entry Sg := entC c_x_tiles x_tiles (fun t p sh xs => [AGood ⟨t, p, sh⟩ xs])
def x_tiles_w (t : Int) (p : Int) (sh : Int) (xs : List Int) (Q0 : Int → Int → Nat → List Int → Prop) (R_ : Bool → Prop) : Prop := (∀ r1 : List Int × Bool, r1 = (x_starts t p sh xs) → ((AGood { t := t, p := p, s := sh } xs) ∧ ((AGood { t := t, p := p, s := sh } xs) → (((!Prod.snd r1) = true → (R_ (false))) ∧ ((!Prod.snd r1) = false → (Q0 ((0 : Int)) ((0 : Int)) (List.length (Prod.fst r1)) (Prod.fst r1)))))))
def x_tiles_w0 (t : Int) (p : Int) (sh : Int) (xs : List Int) (i : Int) (n : Int) (n1 : Nat) (ls : List Int) (Q0 : Int → Int → Nat → List Int → Prop) (R_ : Bool → Prop) : Prop := (((decide (i < p)) = true → ((decide (n < (↑n1 : Int)) = true → (0 : Int) ≤ n ∧ n < (↑n1 : Int)) ∧ ((decide (n < (↑n1 : Int)) = true → (0 : Int) ≤ n ∧ n < (↑n1 : Int)) → (((decide (n < (↑n1 : Int)) && List.getD ls (Int.toNat n) (0 : Int) == i) = true → (Q0 (IntKind.wrap IntKind.i64 (i + (1 : Int))) (IntKind.wrap IntKind.i64 (n + (1 : Int))) (n1) (ls))) ∧ ((decide (n < (↑n1 : Int)) && List.getD ls (Int.toNat n) (0 : Int) == i) = false → (((0 : Int) ≤ r07_Info t p sh i ∧ r07_Info t p sh i < (↑(List.length xs) : Int)) ∧ (((0 : Int) ≤ r07_Info t p sh i ∧ r07_Info t p sh i < (↑(List.length xs) : Int)) → (((List.getD xs (Int.toNat (r07_Info t p sh i)) (0 : Int) != (0 : Int)) = true → (R_ (false))) ∧ ((List.getD xs (Int.toNat (r07_Info t p sh i)) (0 : Int) != (0 : Int)) = false → (Q0 (IntKind.wrap IntKind.i64 (i + (1 : Int))) (n) (n1) (ls))))))))))) ∧ ((decide (i < p)) = false → (R_ (true))))
def x_tiles_I0 (t : Int) (p : Int) (sh : Int) (xs : List Int) (i : Int) (n : Int) (n1 : Nat) (ls : List Int) (r_ : Bool) : Prop := 0 ≤ i ∧ i ≤ p ∧ 0 ≤ n ∧ n ≤ i ∧ n1 = ls.length ∧ tilesF ⟨t, p, sh⟩ xs ls (p - i).toNat n.toNat = r_
theorem x_tiles_begin (t : Int) (p : Int) (sh : Int) (xs : List Int) (hp0 : AGood ⟨t, p, sh⟩ xs) (hl0 : xs.length ≤ 9223372036854775807) : x_tiles_w t p sh xs (fun i' n' n1' ls' => x_tiles_I0 t p sh xs i' n' n1' ls' (x_tiles t p sh xs)) (fun r__ => r__ = (x_tiles t p sh xs)) := by
  unfold x_tiles_w
  try unfold x_tiles_I0
  have hok := Cf.ok_iff.1 hp0.ok
  simp only at hok
  rintro r1 rfl
  refine ⟨hp0, fun _ => ⟨fun hc => ?_, fun hc => ?_⟩⟩
  · have e : (starts ⟨t, p, sh⟩ xs).2 = false := by simpa [x_starts] using hc
    show false = tiles ⟨t, p, sh⟩ xs
    unfold tiles
    rw [e]; rfl
  · have e : (starts ⟨t, p, sh⟩ xs).2 = true := by simpa [x_starts] using hc
    refine ⟨by omega, by omega, by omega, by omega, rfl, ?_⟩
    show _ = tiles ⟨t, p, sh⟩ xs
    unfold tiles
    rw [e, cond_true, show (p - 0).toNat = p.toNat by omega]
    rfl
theorem x_tiles_step0 (t : Int) (p : Int) (sh : Int) (xs : List Int) (hp0 : AGood ⟨t, p, sh⟩ xs) (hl0 : xs.length ≤ 9223372036854775807) (i : Int) (n : Int) (n1 : Nat) (ls : List Int) {r_ : Bool} (hI : x_tiles_I0 t p sh xs i n n1 ls r_) : x_tiles_w0 t p sh xs i n n1 ls (fun i' n' n1' ls' => x_tiles_I0 t p sh xs i' n' n1' ls' r_ ∧ lx ((p - i').toNat, 0, 0) ((p - i).toNat, 0, 0)) (fun r__ => r__ = r_) := by
  unfold x_tiles_I0 at hI
  unfold x_tiles_w0
  try unfold x_tiles_I0
  obtain ⟨h0, h1, h2, h3, h4, hr⟩ := hI
  have hok := Cf.ok_iff.1 hp0.ok
  simp only at hok
  refine ⟨fun h => ?_, fun h => ?_⟩
  · simp only [decide_eq_true_eq] at h
    have hin := pc_in hp0 (g := i) (k := 0) ⟨h0, h⟩ (by omega)
    have e : (p - i).toNat = (p - (i + 1)).toNat + 1 := by omega
    have ei : (p : Int) - (((p - (i + 1)).toNat + 1 : Nat) : Int) = i := by omega
    have hb : decide (n < (n1 : Int)) = decide (n.toNat < ls.length) := by rw [h4]; apply decide_eq_decide.2; omega
    rw [e] at hr
    simp only [tilesF] at hr
    rw [ei] at hr
    rw [w64 (n := i + 1) (by omega), w64 (n := n + 1) (by omega), r07_Info_eq, hb]
    refine ⟨fun hh => (by simp only [decide_eq_true_eq] at hh; omega), fun _ => ⟨fun hc => ?_, fun hc => ?_⟩⟩
    · rw [hc, cond_true] at hr
      refine ⟨⟨by omega, by omega, by omega, by omega, h4, ?_⟩, lxo_⟩
      rw [show (n + 1).toNat = n.toNat + 1 by omega]; exact hr
    · rw [hc, cond_false] at hr
      refine ⟨hin, fun _ => ⟨fun hz => ?_, fun hz => ?_⟩⟩
      · have hz' : (cel xs (Cf.info ⟨t, p, sh⟩ i) != 0) = true := hz
        rw [hz', cond_true] at hr; exact hr
      · have hz' : (cel xs (Cf.info ⟨t, p, sh⟩ i) != 0) = false := hz
        rw [hz', cond_false] at hr
        exact ⟨⟨by omega, by omega, h2, by omega, h4, hr⟩, lxo_⟩
  · simp only [decide_eq_false_iff_not] at h
    rw [show (p - i).toNat = 0 by omega] at hr
    exact hr
theorem x_tiles_ok : EntryOk Dg Tryz.prog 90 e_x_tiles :=
  ent_wp Dg T_x_starts_ok (I := [6571000000006, 6571000000005, 6571000000003, 6571000000001]) Tryz.func90 mix (B := bodyOf Tryz.f90) (by kernel_rfl) rfl (by kernel_rfl) 400
    fun p0 t p sh xs hb hp => have hl0 : xs.length ≤ 9223372036854775807 := hb.1.2.2.2.1; have hp0 : AGood ⟨t, p, sh⟩ xs := hp _ (.head _); ⟨[⟨none, [0,1,0,1,1,1,1], [.blk 0, .code [1,1,1,1,1]], [6, 5, 3, 1], [.i .i64, .i .i64, .own 3 [some .i64], .box 29 [.ic .i64 (t), .ic .i64 (p), .ic .i64 (sh), .roc [.ints .u32 (xs)]]]⟩], fun j => List.getD [appC (Hd.kd (⟨none, [0,1,0,1,1,1,1], [.blk 0, .code [1,1,1,1,1]], [6, 5, 3, 1], [.i .i64, .i .i64, .own 3 [some .i64], .box 29 [.ic .i64 (t), .ic .i64 (p), .ic .i64 (sh), .roc [.ints .u32 (xs)]]]⟩ : Hd Sg)) (fun i' n' n1' ls' => x_tiles_I0 t p sh xs i' n' n1' ls' (x_tiles t p sh xs))] j (fun _ => False), fun j => List.getD [appC (Hd.kd (⟨none, [0,1,0,1,1,1,1], [.blk 0, .code [1,1,1,1,1]], [6, 5, 3, 1], [.i .i64, .i .i64, .own 3 [some .i64], .box 29 [.ic .i64 (t), .ic .i64 (p), .ic .i64 (sh), .roc [.ints .u32 (xs)]]]⟩ : Hd Sg)) (fun i' n' n1' ls' => ((p - i').toNat, 0, 0))] j (fun _ => (0, 0, 0)), by kernel_rfl, ⟨x_tiles_w t p sh xs (fun i' n' n1' ls' => x_tiles_I0 t p sh xs i' n' n1' ls' (x_tiles t p sh xs)) (fun r__ => r__ = (x_tiles t p sh xs)), fun _ _ _ => by kernel_rfl, x_tiles_begin t p sh xs hp0 hl0 ⟩, ⟨fun i n n1 ls hI => ⟨x_tiles_w0 t p sh xs i n n1 ls (fun i' n' n1' ls' => x_tiles_I0 t p sh xs i' n' n1' ls' (x_tiles t p sh xs) ∧ lx ((p - i').toNat, 0, 0) ((p - i).toNat, 0, 0)) (fun r__ => r__ = (x_tiles t p sh xs)), fun _ _ _ => by kernel_rfl, x_tiles_step0 t p sh xs hp0 hl0 i n n1 ls hI⟩, trivial⟩⟩
def T_x_tiles : List (Nat × Entry Sg) := (90, e_x_tiles) :: T_x_starts
theorem T_x_tiles_ok : TableOk Dg Tryz.prog T_x_tiles := TableOk.cons Dg x_tiles_ok T_x_starts_ok
def x_apart (t : Int) (p : Int) (sh : Int) (xs : List Int) : Bool := apart ⟨t, p, sh⟩ xs
abbrev c_x_apart : Ct Sg := ⟨none, false, [.agg [.i .i64, .i .i64, .i .i64, .ro [some .u32]]], .b⟩
def e_x_apart : Entry Sg := entC c_x_apart x_apart (fun t p sh xs => [AGood ⟨t, p, sh⟩ xs])
def x_apart_w (t : Int) (p : Int) (sh : Int) (xs : List Int) (Q0 : Int → Nat → List Int → Prop) (R_ : Bool → Prop) : Prop := (∀ r1 : List Int × Bool, r1 = (x_starts t p sh xs) → ((AGood { t := t, p := p, s := sh } xs) ∧ ((AGood { t := t, p := p, s := sh } xs) → (Q0 ((1 : Int)) (List.length (Prod.fst r1)) (Prod.fst r1)))))
def x_apart_w0 (t : Int) (p : Int) (sh : Int) (xs : List Int) (n : Int) (n1 : Nat) (ls : List Int) (Q0 : Int → Nat → List Int → Prop) (R_ : Bool → Prop) : Prop := (((decide (n < (↑n1 : Int))) = true → (((0 : Int) ≤ n ∧ n < (↑n1 : Int)) ∧ (((0 : Int) ≤ n ∧ n < (↑n1 : Int)) → ((AGood { t := t, p := p, s := sh } xs) ∧ ((AGood { t := t, p := p, s := sh } xs) → (((0 : Int) ≤ List.getD ls (Int.toNat n) (0 : Int) ∧ List.getD ls (Int.toNat n) (0 : Int) < p) ∧ (((0 : Int) ≤ List.getD ls (Int.toNat n) (0 : Int) ∧ List.getD ls (Int.toNat n) (0 : Int) < p) → (((Prod.fst (x_Info t p sh xs (List.getD ls (Int.toNat n) (0 : Int))) == (1 : Int)) = true → (0 : Int) ≤ IntKind.wrap IntKind.i64 (n - (1 : Int)) ∧ IntKind.wrap IntKind.i64 (n - (1 : Int)) < (↑n1 : Int)) ∧ (((Prod.fst (x_Info t p sh xs (List.getD ls (Int.toNat n) (0 : Int))) == (1 : Int)) = true → (0 : Int) ≤ IntKind.wrap IntKind.i64 (n - (1 : Int)) ∧ IntKind.wrap IntKind.i64 (n - (1 : Int)) < (↑n1 : Int)) → (((Prod.fst (x_Info t p sh xs (List.getD ls (Int.toNat n) (0 : Int))) == (1 : Int)) = true → AGood { t := t, p := p, s := sh } xs) ∧ (((Prod.fst (x_Info t p sh xs (List.getD ls (Int.toNat n) (0 : Int))) == (1 : Int)) = true → AGood { t := t, p := p, s := sh } xs) → (((Prod.fst (x_Info t p sh xs (List.getD ls (Int.toNat n) (0 : Int))) == (1 : Int)) = true → (0 : Int) ≤ List.getD ls (Int.toNat (IntKind.wrap IntKind.i64 (n - (1 : Int)))) (0 : Int) ∧ List.getD ls (Int.toNat (IntKind.wrap IntKind.i64 (n - (1 : Int)))) (0 : Int) < p) ∧ (((Prod.fst (x_Info t p sh xs (List.getD ls (Int.toNat n) (0 : Int))) == (1 : Int)) = true → (0 : Int) ≤ List.getD ls (Int.toNat (IntKind.wrap IntKind.i64 (n - (1 : Int)))) (0 : Int) ∧ List.getD ls (Int.toNat (IntKind.wrap IntKind.i64 (n - (1 : Int)))) (0 : Int) < p) → (((Prod.fst (x_Info t p sh xs (List.getD ls (Int.toNat n) (0 : Int))) == (1 : Int) && Prod.fst (x_Info t p sh xs (List.getD ls (Int.toNat (IntKind.wrap IntKind.i64 (n - (1 : Int)))) (0 : Int))) == (1 : Int)) = true → (R_ (false))) ∧ ((Prod.fst (x_Info t p sh xs (List.getD ls (Int.toNat n) (0 : Int))) == (1 : Int) && Prod.fst (x_Info t p sh xs (List.getD ls (Int.toNat (IntKind.wrap IntKind.i64 (n - (1 : Int)))) (0 : Int))) == (1 : Int)) = false → (Q0 (IntKind.wrap IntKind.i64 (n + (1 : Int))) (n1) (ls))))))))))))))))) ∧ ((decide (n < (↑n1 : Int))) = false → (R_ (true))))
def x_apart_I0 (t : Int) (p : Int) (sh : Int) (xs : List Int) (n : Int) (n1 : Nat) (ls : List Int) (r_ : Bool) : Prop := 1 ≤ n ∧ (n ≤ ls.length ∨ n = 1) ∧ n1 = ls.length ∧ ls = (starts ⟨t, p, sh⟩ xs).1 ∧ apartF ⟨t, p, sh⟩ xs ls (ls.length - n).toNat = r_
theorem x_apart_begin (t : Int) (p : Int) (sh : Int) (xs : List Int) (hp0 : AGood ⟨t, p, sh⟩ xs) (hl0 : xs.length ≤ 9223372036854775807) : x_apart_w t p sh xs (fun n' n1' ls' => x_apart_I0 t p sh xs n' n1' ls' (x_apart t p sh xs)) (fun r__ => r__ = (x_apart t p sh xs)) := by
  unfold x_apart_w
  try unfold x_apart_I0
  rintro r1 rfl
  refine ⟨hp0, fun _ => ⟨by omega, .inr rfl, rfl, rfl, ?_⟩⟩
  show apartF ⟨t, p, sh⟩ xs (starts ⟨t, p, sh⟩ xs).1 (((starts ⟨t, p, sh⟩ xs).1.length : Int) - 1).toNat = apart ⟨t, p, sh⟩ xs
  unfold apart
  congr 1
  omega
theorem x_apart_step0 (t : Int) (p : Int) (sh : Int) (xs : List Int) (hp0 : AGood ⟨t, p, sh⟩ xs) (hl0 : xs.length ≤ 9223372036854775807) (n : Int) (n1 : Nat) (ls : List Int) {r_ : Bool} (hI : x_apart_I0 t p sh xs n n1 ls r_) : x_apart_w0 t p sh xs n n1 ls (fun n' n1' ls' => x_apart_I0 t p sh xs n' n1' ls' r_ ∧ lx ((ls'.length - n').toNat, 0, 0) ((ls.length - n).toNat, 0, 0)) (fun r__ => r__ = r_) := by
  unfold x_apart_I0 at hI
  unfold x_apart_w0
  try unfold x_apart_I0
  obtain ⟨h0, h1, h4, h5, hr⟩ := hI
  have hok := Cf.ok_iff.1 hp0.ok
  simp only at hok
  refine ⟨fun h => ?_, fun h => ?_⟩
  · simp only [decide_eq_true_eq] at h
    have hn : n < (ls.length : Int) := by omega
    have hm := starts_in (c := ⟨t, p, sh⟩) (xs := xs) (ls.getD n.toNat 0) (by rw [← h5]; exact getD_memA (by omega))
    have hm' := starts_in (c := ⟨t, p, sh⟩) (xs := xs) (ls.getD (n - 1).toNat 0) (by rw [← h5]; exact getD_memA (by omega))
    have hbig : n < 9223372036854775807 := by
      have hl := starts_len (c := ⟨t, p, sh⟩) (xs := xs)
      rw [← h5] at hl
      simp only at hl
      omega
    obtain ⟨m, hm2⟩ : ∃ m : Nat, (ls.length - n).toNat = m + 1 := ⟨(ls.length - n).toNat - 1, by omega⟩
    rw [hm2] at hr
    simp only [apartF] at hr
    rw [show ls.length - (m + 1) = n.toNat by omega, show n.toNat - 1 = (n - 1).toNat by omega] at hr
    rw [w64 (n := n - 1) (by omega), w64 (n := n + 1) (by omega)]
    refine ⟨⟨by omega, h⟩, fun _ => ⟨hp0, fun _ => ⟨hm, fun _ => ⟨fun _ => by omega, fun _ => ⟨fun _ => hp0, fun _ => ⟨fun _ => hm', fun _ => ⟨fun hc => ?_, fun hc => ?_⟩⟩⟩⟩⟩⟩⟩
    · simp only [x_Info] at hc; rw [hc, cond_true] at hr; exact hr.symm ▸ rfl
    · simp only [x_Info] at hc; rw [hc, cond_false] at hr
      refine ⟨⟨by omega, by omega, h4, h5, ?_⟩, lxo_⟩
      rw [show (ls.length - (n + 1)).toNat = m by omega]; exact hr
  · simp only [decide_eq_false_iff_not] at h
    rw [show (ls.length - n).toNat = 0 by omega] at hr
    exact hr
theorem x_apart_ok : EntryOk Dg Tryz.prog 92 e_x_apart :=
  ent_wp Dg T_x_tiles_ok (I := [411000000005, 411000000003, 411000000001]) Tryz.func92 mix (B := bodyOf Tryz.f92) (by kernel_rfl) rfl (by kernel_rfl) 400
    fun p0 t p sh xs hb hp => have hl0 : xs.length ≤ 9223372036854775807 := hb.1.2.2.2.1; have hp0 : AGood ⟨t, p, sh⟩ xs := hp _ (.head _); ⟨[⟨none, [0,1,0,1,1], [.blk 0, .code [1,1,1]], [5, 3, 1], [.i .i64, .own 3 [some .i64], .box 29 [.ic .i64 (t), .ic .i64 (p), .ic .i64 (sh), .roc [.ints .u32 (xs)]]]⟩], fun j => List.getD [appC (Hd.kd (⟨none, [0,1,0,1,1], [.blk 0, .code [1,1,1]], [5, 3, 1], [.i .i64, .own 3 [some .i64], .box 29 [.ic .i64 (t), .ic .i64 (p), .ic .i64 (sh), .roc [.ints .u32 (xs)]]]⟩ : Hd Sg)) (fun n' n1' ls' => x_apart_I0 t p sh xs n' n1' ls' (x_apart t p sh xs))] j (fun _ => False), fun j => List.getD [appC (Hd.kd (⟨none, [0,1,0,1,1], [.blk 0, .code [1,1,1]], [5, 3, 1], [.i .i64, .own 3 [some .i64], .box 29 [.ic .i64 (t), .ic .i64 (p), .ic .i64 (sh), .roc [.ints .u32 (xs)]]]⟩ : Hd Sg)) (fun n' n1' ls' => ((ls'.length - n').toNat, 0, 0))] j (fun _ => (0, 0, 0)), by kernel_rfl, ⟨x_apart_w t p sh xs (fun n' n1' ls' => x_apart_I0 t p sh xs n' n1' ls' (x_apart t p sh xs)) (fun r__ => r__ = (x_apart t p sh xs)), fun _ _ _ => by kernel_rfl, x_apart_begin t p sh xs hp0 hl0 ⟩, ⟨fun n n1 ls hI => ⟨x_apart_w0 t p sh xs n n1 ls (fun n' n1' ls' => x_apart_I0 t p sh xs n' n1' ls' (x_apart t p sh xs) ∧ lx ((ls'.length - n').toNat, 0, 0) ((ls.length - n).toNat, 0, 0)) (fun r__ => r__ = (x_apart t p sh xs)), fun _ _ _ => by kernel_rfl, x_apart_step0 t p sh xs hp0 hl0 n n1 ls hI⟩, trivial⟩⟩
def T_x_apart : List (Nat × Entry Sg) := (92, e_x_apart) :: T_x_tiles
theorem T_x_apart_ok : TableOk Dg Tryz.prog T_x_apart := TableOk.cons Dg x_apart_ok T_x_tiles_ok
def r12_in (ls : List Int) (g : Int) : Int := inA ls g
abbrev c_r12_in : Ct Sg := ⟨none, false, [.ro [some .i64], .i .i64], .i .i64⟩
def e_r12_in : Entry Sg := entC c_r12_in r12_in (fun _ _ => [])
def r12_in_w (ls : List Int) (g : Int) (Q0 : Int → Int → Prop) (R_ : Int → Prop) : Prop := (Q0 ((0 : Int)) ((0 : Int)))
def r12_in_w0 (ls : List Int) (g : Int) (i : Int) (m : Int) (Q0 : Int → Int → Prop) (R_ : Int → Prop) : Prop := (((decide (i < (↑(List.length ls) : Int))) = true → (((0 : Int) ≤ i ∧ i < (↑(List.length ls) : Int)) ∧ (((0 : Int) ≤ i ∧ i < (↑(List.length ls) : Int)) → (((List.getD ls (Int.toNat i) (0 : Int) == g) = true → (Q0 (IntKind.wrap IntKind.i64 (i + (1 : Int))) (IntKind.wrap IntKind.i64 (m + (1 : Int))))) ∧ ((List.getD ls (Int.toNat i) (0 : Int) == g) = false → (Q0 (IntKind.wrap IntKind.i64 (i + (1 : Int))) (m))))))) ∧ ((decide (i < (↑(List.length ls) : Int))) = false → (R_ (m))))
def r12_in_I0 (ls : List Int) (g : Int) (i : Int) (m : Int) (r_ : Int) : Prop := 0 ≤ i ∧ i ≤ ls.length ∧ m = inA (ls.take i.toNat) g ∧ ls.length ≤ 9223372036854775807 ∧ r_ = inA ls g
theorem r12_in_begin (ls : List Int) (g : Int) (hl0 : ls.length ≤ 9223372036854775807) : r12_in_w ls g (fun i' m' => r12_in_I0 ls g i' m' (r12_in ls g)) (fun r__ => r__ = (r12_in ls g)) := by
  unfold r12_in_w
  try unfold r12_in_I0
  exact ⟨by omega, by omega, by simp [inA], hl0, rfl⟩
theorem r12_in_step0 (ls : List Int) (g : Int) (hl0 : ls.length ≤ 9223372036854775807) (i : Int) (m : Int) {r_ : Int} (hI : r12_in_I0 ls g i m r_) : r12_in_w0 ls g i m (fun i' m' => r12_in_I0 ls g i' m' r_ ∧ lx ((ls.length - i').toNat, 0, 0) ((ls.length - i).toNat, 0, 0)) (fun r__ => r__ = r_) := by
  unfold r12_in_I0 at hI
  unfold r12_in_w0
  try unfold r12_in_I0
  obtain ⟨h0, h1, h2, h3, hr⟩ := hI
  refine ⟨fun h => ?_, fun h => ?_⟩
  · simp only [decide_eq_true_eq] at h
    have ht : ls.take (i + 1).toNat = ls.take i.toNat ++ [ls.getD i.toNat 0] := by
      rw [show (i + 1).toNat = i.toNat + 1 by omega, List.take_add_one, List.getD_eq_getElem?_getD, List.getElem?_eq_getElem (by omega)]; rfl
    have hle : 0 ≤ m ∧ m ≤ i := by
      rw [h2]; unfold inA
      have := List.length_filter_le (· == g) (ls.take i.toNat)
      rw [List.length_take] at this
      omega
    rw [w64 (n := i + 1) (by omega), w64 (n := m + 1) (by omega)]
    refine ⟨⟨h0, h⟩, fun _ => ⟨fun hc => ?_, fun hc => ?_⟩⟩
    · refine ⟨⟨by omega, by omega, ?_, h3, hr⟩, lxo_⟩
      rw [ht, h2]
      generalize ls.getD i.toNat 0 = q at hc
      unfold inA
      rw [List.filter_append, List.length_append]
      simp only [beq_iff_eq, beq_eq_false_iff_ne] at hc
      simp [List.filter_cons, hc]
    · refine ⟨⟨by omega, by omega, ?_, h3, hr⟩, lxo_⟩
      rw [ht, h2]
      generalize ls.getD i.toNat 0 = q at hc
      unfold inA
      rw [List.filter_append, List.length_append]
      simp only [beq_iff_eq, beq_eq_false_iff_ne] at hc
      simp [List.filter_cons, hc]
  · simp only [decide_eq_false_iff_not] at h
    show m = r_
    rw [hr, h2, List.take_of_length_le (by omega)]
theorem r12_in_ok : EntryOk Dg Tryz.prog 123 e_r12_in :=
  ent_wp Dg T_x_apart_ok (I := [411000000006, 411000000005, 411000000000, 411000000001]) Tryz.func123 mix (B := bodyOf Tryz.f123) (by kernel_rfl) rfl (by kernel_rfl) 400
    fun p0 ls g hb hp => have hl0 : ls.length ≤ 9223372036854775807 := hb.1; ⟨[⟨none, [0,1,0,1,1], [.blk 0, .code [1,1,1]], [6, 5, 0, 1], [.i .i64, .i .i64, .roc [.ints .i64 (ls)], .ic .i64 (g)]⟩], fun j => List.getD [appC (Hd.kd (⟨none, [0,1,0,1,1], [.blk 0, .code [1,1,1]], [6, 5, 0, 1], [.i .i64, .i .i64, .roc [.ints .i64 (ls)], .ic .i64 (g)]⟩ : Hd Sg)) (fun i' m' => r12_in_I0 ls g i' m' (r12_in ls g))] j (fun _ => False), fun j => List.getD [appC (Hd.kd (⟨none, [0,1,0,1,1], [.blk 0, .code [1,1,1]], [6, 5, 0, 1], [.i .i64, .i .i64, .roc [.ints .i64 (ls)], .ic .i64 (g)]⟩ : Hd Sg)) (fun i' m' => ((ls.length - i').toNat, 0, 0))] j (fun _ => (0, 0, 0)), by kernel_rfl, ⟨r12_in_w ls g (fun i' m' => r12_in_I0 ls g i' m' (r12_in ls g)) (fun r__ => r__ = (r12_in ls g)), fun _ _ _ => by kernel_rfl, r12_in_begin ls g hl0 ⟩, ⟨fun i m hI => ⟨r12_in_w0 ls g i m (fun i' m' => r12_in_I0 ls g i' m' (r12_in ls g) ∧ lx ((ls.length - i').toNat, 0, 0) ((ls.length - i).toNat, 0, 0)) (fun r__ => r__ = (r12_in ls g)), fun _ _ _ => by kernel_rfl, r12_in_step0 ls g hl0 i m hI⟩, trivial⟩⟩
def T_r12_in : List (Nat × Entry Sg) := (123, e_r12_in) :: T_x_apart
theorem T_r12_in_ok : TableOk Dg Tryz.prog T_r12_in := TableOk.cons Dg r12_in_ok T_x_apart_ok
end Go.Proofs.YtajcpopikdpcmaaGreat
namespace Go.Proofs.YtajcpopikdpcmaaGreat
open Go.Sl
theorem r05_Slots_eq (k : Int) : r05_Slots k = kSlots k := by
  by_cases h : 0 ≤ k ∧ k ≤ 8
  · rcases (by omega : k = 0 ∨ k = 1 ∨ k = 2 ∨ k = 3 ∨ k = 4 ∨ k = 5 ∨ k = 6 ∨ k = 7 ∨ k = 8) with rfl | rfl | rfl | rfl | rfl | rfl | rfl | rfl | rfl <;> rfl
  · have e : ∀ j : Int, 0 ≤ j → j ≤ 8 → (k == j) = false := fun j h0 h1 => by simp; omega
    have e1 : r05_Slots k = 0 := by
      unfold r05_Slots
      simp only [e 0 (by omega) (by omega), e 1 (by omega) (by omega), e 2 (by omega) (by omega), e 3 (by omega) (by omega), e 4 (by omega) (by omega), e 5 (by omega) (by omega), e 6 (by omega) (by omega), e 7 (by omega) (by omega), e 8 (by omega) (by omega), cond_false]
    rw [e1]
    unfold kSlots
    by_cases h0 : 0 ≤ k
    · have : decide (0 ≤ k) = true := by simpa using h0
      rw [this, cond_true, List.getD_eq_getElem?_getD, List.getElem?_eq_none (by simp; omega)]; rfl
    · have : decide (0 ≤ k) = false := by simpa using h0
      rw [this]; rfl
theorem bit_eq {v : Int} (hv : bd32 v) (i : Int) : r01_Bit v i = bitAt v i := by
  unfold r01_Bit bitAt
  by_cases h : 0 ≤ i ∧ i < 32
  · have e1 : decide (i ≥ 0) = true := by simp; omega
    have e2 : decide (i < 32) = true := by simp; omega
    rw [e1, e2]
    have ew : IntKind.wrap IntKind.u64 i = i := by rw [IntKind.wrap_u64]; omega
    have em : min i.toNat 32 = i.toNat := by omega
    have hp : (0 : Int) ≤ 2 ^ i.toNat := Int.le_of_lt (Int.pow_pos (by omega))
    rw [ew, em, Int.fdiv_eq_ediv_of_nonneg _ hp, Int.tmod_eq_emod_of_nonneg (Int.ediv_nonneg hv.1 hp)]
  · have : (decide (i ≥ 0) && decide (i < 32)) = false := by simp; omega
    rw [this, Bool.false_and, Bool.false_and]
def r01_Ones (v : Int) : Int := ones v
abbrev c_r01_Ones : Ct Sg := ⟨none, false, [.i .u32], .i .i64⟩
def e_r01_Ones : Entry Sg := entC c_r01_Ones r01_Ones (fun v => [bd32 v])
def r01_Ones_w (v : Int) (Q0 : Int → Int → Prop) (R_ : Int → Prop) : Prop := (Q0 ((0 : Int)) ((0 : Int)))
def r01_Ones_w0 (v : Int) (i : Int) (m : Int) (Q0 : Int → Int → Prop) (R_ : Int → Prop) : Prop := (((decide (i < (32 : Int))) = true → (((r01_Bit v i) = true → (Q0 (IntKind.wrap IntKind.i64 (i + (1 : Int))) (IntKind.wrap IntKind.i64 (m + (1 : Int))))) ∧ ((r01_Bit v i) = false → (Q0 (IntKind.wrap IntKind.i64 (i + (1 : Int))) (m))))) ∧ ((decide (i < (32 : Int))) = false → (R_ (m))))
def r01_Ones_I0 (v : Int) (i : Int) (m : Int) (r_ : Int) : Prop := 0 ≤ i ∧ i ≤ 32 ∧ 0 ≤ m ∧ m ≤ i ∧ m = onesF v i.toNat ∧ r_ = ones v
theorem r01_Ones_begin (v : Int) (hp0 : bd32 v) : r01_Ones_w v (fun i' m' => r01_Ones_I0 v i' m' (r01_Ones v)) (fun r__ => r__ = (r01_Ones v)) := by
  unfold r01_Ones_w
  try unfold r01_Ones_I0
  exact ⟨by omega, by omega, by omega, by omega, rfl, rfl⟩
theorem r01_Ones_step0 (v : Int) (hp0 : bd32 v) (i : Int) (m : Int) {r_ : Int} (hI : r01_Ones_I0 v i m r_) : r01_Ones_w0 v i m (fun i' m' => r01_Ones_I0 v i' m' r_ ∧ lx ((32 - i').toNat, 0, 0) ((32 - i).toNat, 0, 0)) (fun r__ => r__ = r_) := by
  unfold r01_Ones_I0 at hI
  unfold r01_Ones_w0
  try unfold r01_Ones_I0
  obtain ⟨h0, h1, h2, h3, h4, hr⟩ := hI
  refine ⟨fun h => ?_, fun h => ?_⟩
  · simp only [decide_eq_true_eq] at h
    have e : (i + 1).toNat = i.toNat + 1 := by omega
    have ei : ((i.toNat : Nat) : Int) = i := by omega
    rw [w64 (n := i + 1) (by omega), w64 (n := m + 1) (by omega), bit_eq hp0]
    refine ⟨fun hb => ?_, fun hb => ?_⟩
    · exact ⟨⟨by omega, by omega, by omega, by omega, by rw [e, onesF, ei, hb, ← h4]; rfl, hr⟩, lxo_⟩
    · exact ⟨⟨by omega, by omega, by omega, by omega, by rw [e, onesF, ei, hb, ← h4]; simp, hr⟩, lxo_⟩
  · simp only [decide_eq_false_iff_not] at h
    have e : i.toNat = 32 := by omega
    rw [e] at h4
    rw [hr]; exact h4
theorem r01_Ones_ok : EntryOk Dg Tryz.prog 43 e_r01_Ones :=
  ent_wp Dg T_r12_in_ok (I := [411000000004, 411000000003, 411000000000]) Tryz.func43 mix (B := bodyOf Tryz.f43) (by kernel_rfl) rfl (by kernel_rfl) 400
    fun p0 v hb hp => have hp0 : bd32 v := hp _ (.head _); ⟨[⟨none, [0,1,0,1,1], [.blk 0, .code [1,1,1]], [4, 3, 0], [.i .i64, .i .i64, .ic .u32 (v)]⟩], fun j => List.getD [appC (Hd.kd (⟨none, [0,1,0,1,1], [.blk 0, .code [1,1,1]], [4, 3, 0], [.i .i64, .i .i64, .ic .u32 (v)]⟩ : Hd Sg)) (fun i' m' => r01_Ones_I0 v i' m' (r01_Ones v))] j (fun _ => False), fun j => List.getD [appC (Hd.kd (⟨none, [0,1,0,1,1], [.blk 0, .code [1,1,1]], [4, 3, 0], [.i .i64, .i .i64, .ic .u32 (v)]⟩ : Hd Sg)) (fun i' m' => ((32 - i').toNat, 0, 0))] j (fun _ => (0, 0, 0)), by kernel_rfl, ⟨r01_Ones_w v (fun i' m' => r01_Ones_I0 v i' m' (r01_Ones v)) (fun r__ => r__ = (r01_Ones v)), fun _ _ _ => by kernel_rfl, r01_Ones_begin v hp0 ⟩, ⟨fun i m hI => ⟨r01_Ones_w0 v i m (fun i' m' => r01_Ones_I0 v i' m' (r01_Ones v) ∧ lx ((32 - i').toNat, 0, 0) ((32 - i).toNat, 0, 0)) (fun r__ => r__ = (r01_Ones v)), fun _ _ _ => by kernel_rfl, r01_Ones_step0 v hp0 i m hI⟩, trivial⟩⟩
def T_r01_Ones : List (Nat × Entry Sg) := (43, e_r01_Ones) :: T_r12_in
theorem T_r01_Ones_ok : TableOk Dg Tryz.prog T_r01_Ones := TableOk.cons Dg r01_Ones_ok T_r12_in_ok
def r12_Full (v : Int) (k : Int) : Bool := r01_Ones v == r05_Slots k
abbrev c_r12_Full : Ct Sg := ⟨none, false, [.i .u32, .i .i64], .b⟩
def e_r12_Full : Entry Sg := entC c_r12_Full r12_Full (fun v k => [bd32 v])
theorem r12_Full_ok : EntryOk Dg Tryz.prog 126 e_r12_Full :=
  ent_ok Dg T_r01_Ones_ok (I := []) Tryz.func126 mix (B := bodyOf Tryz.f126) (by kernel_rfl) rfl (by kernel_rfl) 400
    fun _ v k hb hp => have hp0 : bd32 v := hp _ (.head _); ⟨(r12_Full v k), (.need (bd32 v) .t), fun _ _ _ => by kernel_rfl, ⟨(by exact hp0), fun z0 => trivial⟩, rfl⟩
def T_r12_Full : List (Nat × Entry Sg) := (126, e_r12_Full) :: T_r01_Ones
theorem T_r12_Full_ok : TableOk Dg Tryz.prog T_r12_Full := TableOk.cons Dg r12_Full_ok T_r01_Ones_ok
def x_List (t : Int) (p : Int) (sh : Int) (xs : List Int) (hd : Int) : List Int × Bool := listA ⟨t, p, sh⟩ xs hd
abbrev c_x_List : Ct Sg := ⟨none, false, [.agg [.i .i64, .i .i64, .i .i64, .ro [some .u32]], .i .i64], .tup [.new 3 [some .i64], .b]⟩
def e_x_List : Entry Sg := entC c_x_List x_List (fun t p sh xs hd => [AGood ⟨t, p, sh⟩ xs, 0 ≤ hd ∧ hd < xs.length])
def x_List_w (t : Int) (p : Int) (sh : Int) (xs : List Int) (hd : Int) (Q0 : Int → Int → Nat → List Int → Prop) (R_ : List Int × Bool → Prop) : Prop := (((0 : Int) ≤ hd ∧ hd < (↑(List.length xs) : Int)) ∧ (((0 : Int) ≤ hd ∧ hd < (↑(List.length xs) : Int)) → (Q0 ((0 : Int)) (List.getD xs (Int.toNat hd) (0 : Int)) ((0 : Nat)) ([]))))
def x_List_w0 (t : Int) (p : Int) (sh : Int) (xs : List Int) (hd : Int) (ah : Int) (q : Int) (n1 : Nat) (out : List Int) (Q0 : Int → Int → Nat → List Int → Prop) (R_ : List Int × Bool → Prop) : Prop := (((q != (0 : Int)) = true → (((decide (IntKind.wrap IntKind.i64 q > p) || decide ((↑n1 : Int) ≥ p)) = true → (R_ ((out, false)))) ∧ ((decide (IntKind.wrap IntKind.i64 q > p) || decide ((↑n1 : Int) ≥ p)) = false → (((0 : Int) ≤ r07_Prev t p sh (IntKind.wrap IntKind.i64 (IntKind.wrap IntKind.i64 q - (1 : Int))) ∧ r07_Prev t p sh (IntKind.wrap IntKind.i64 (IntKind.wrap IntKind.i64 q - (1 : Int))) < (↑(List.length xs) : Int)) ∧ (((0 : Int) ≤ r07_Prev t p sh (IntKind.wrap IntKind.i64 (IntKind.wrap IntKind.i64 q - (1 : Int))) ∧ r07_Prev t p sh (IntKind.wrap IntKind.i64 (IntKind.wrap IntKind.i64 q - (1 : Int))) < (↑(List.length xs) : Int)) → (((List.getD xs (Int.toNat (r07_Prev t p sh (IntKind.wrap IntKind.i64 (IntKind.wrap IntKind.i64 q - (1 : Int))))) (0 : Int) != ah) = true → (R_ ((out, false)))) ∧ ((List.getD xs (Int.toNat (r07_Prev t p sh (IntKind.wrap IntKind.i64 (IntKind.wrap IntKind.i64 q - (1 : Int))))) (0 : Int) != ah) = false → (((n1 + (1 : Nat)) * (8 : Nat) ≤ (140737488355328 : Nat)) ∧ (((n1 + (1 : Nat)) * (8 : Nat) ≤ (140737488355328 : Nat)) → (((0 : Int) ≤ r07_Next t p sh (IntKind.wrap IntKind.i64 (IntKind.wrap IntKind.i64 q - (1 : Int))) ∧ r07_Next t p sh (IntKind.wrap IntKind.i64 (IntKind.wrap IntKind.i64 q - (1 : Int))) < (↑(List.length xs) : Int)) ∧ (((0 : Int) ≤ r07_Next t p sh (IntKind.wrap IntKind.i64 (IntKind.wrap IntKind.i64 q - (1 : Int))) ∧ r07_Next t p sh (IntKind.wrap IntKind.i64 (IntKind.wrap IntKind.i64 q - (1 : Int))) < (↑(List.length xs) : Int)) → (Q0 (q) (List.getD xs (Int.toNat (r07_Next t p sh (IntKind.wrap IntKind.i64 (IntKind.wrap IntKind.i64 q - (1 : Int))))) (0 : Int)) (n1 + (1 : Nat)) (out ++ [IntKind.wrap IntKind.i64 (IntKind.wrap IntKind.i64 q - (1 : Int))]))))))))))))) ∧ ((q != (0 : Int)) = false → (R_ ((out, true)))))
def x_List_I0 (t : Int) (p : Int) (sh : Int) (xs : List Int) (hd : Int) (ah : Int) (q : Int) (n1 : Nat) (out : List Int) (r_ : List Int × Bool) : Prop := bd32 q ∧ n1 = out.length ∧ (out.length : Int) ≤ p ∧ ∃ f : Nat, p + 1 - out.length < f ∧ listF ⟨t, p, sh⟩ xs f q ah out = r_
theorem x_List_begin (t : Int) (p : Int) (sh : Int) (xs : List Int) (hd : Int) (hp0 : AGood ⟨t, p, sh⟩ xs) (hp1 : 0 ≤ hd ∧ hd < xs.length) (hl0 : xs.length ≤ 9223372036854775807) : x_List_w t p sh xs hd (fun ah' q' n1' out' => x_List_I0 t p sh xs hd ah' q' n1' out' (x_List t p sh xs hd)) (fun r__ => r__ = (x_List t p sh xs hd)) := by
  unfold x_List_w
  try unfold x_List_I0
  have hok := Cf.ok_iff.1 hp0.ok
  simp only at hok
  exact ⟨hp1, fun _ => ⟨cel_bd hp0 hd, rfl, by simp; omega, p.toNat + 2, by simp; omega, rfl⟩⟩
theorem x_List_step0 (t : Int) (p : Int) (sh : Int) (xs : List Int) (hd : Int) (hp0 : AGood ⟨t, p, sh⟩ xs) (hp1 : 0 ≤ hd ∧ hd < xs.length) (hl0 : xs.length ≤ 9223372036854775807) (ah : Int) (q : Int) (n1 : Nat) (out : List Int) {r_ : List Int × Bool} (hI : x_List_I0 t p sh xs hd ah q n1 out r_) : x_List_w0 t p sh xs hd ah q n1 out (fun ah' q' n1' out' => x_List_I0 t p sh xs hd ah' q' n1' out' r_ ∧ lx ((p + 1 - out'.length).toNat, 0, 0) ((p + 1 - out.length).toNat, 0, 0)) (fun r__ => r__ = r_) := by
  unfold x_List_I0 at hI
  unfold x_List_w0
  try unfold x_List_I0
  obtain ⟨hq, h1, h2, f, hf, hr⟩ := hI
  have hok := Cf.ok_iff.1 hp0.ok
  simp only at hok
  have hq' : 0 ≤ q ∧ q < 4294967296 := hq
  obtain ⟨f', rfl⟩ : ∃ f', f = f' + 1 := ⟨f - 1, by omega⟩
  simp only [listF] at hr
  refine ⟨fun h => ?_, fun h => ?_⟩
  · have hne : q ≠ 0 := by simpa using h
    have e0 : (q == 0) = false := by simpa using hne
    rw [e0, cond_false] at hr
    have hb : (decide (q > p) || decide ((n1 : Int) ≥ p)) = (decide (q > p) || decide ((out.length : Int) ≥ p)) := by rw [h1]
    rw [w64 (n := q) (by omega), w64 (n := q - 1) (by omega), hb, r07_Prev_eq, r07_Next_eq]
    refine ⟨fun hc => ?_, fun hc => ?_⟩
    · rw [hc, cond_true] at hr; exact hr
    · rw [hc, cond_false] at hr
      simp only [Bool.or_eq_false_iff, decide_eq_false_iff_not] at hc
      have hg : 0 ≤ q - 1 ∧ q - 1 < p := by omega
      have hin := pc_in hp0 (g := q - 1) (k := 3) hg (by omega)
      have hin2 := pc_in hp0 (g := q - 1) (k := 2) hg (by omega)
      refine ⟨hin, fun _ => ⟨fun hz => ?_, fun hz => ?_⟩⟩
      · have hz' : (cel xs (Cf.prev ⟨t, p, sh⟩ (q - 1)) != ah) = true := hz
        rw [hz', cond_true] at hr; exact hr
      · have hz' : (cel xs (Cf.prev ⟨t, p, sh⟩ (q - 1)) != ah) = false := hz
        rw [hz', cond_false] at hr
        exact ⟨by omega, fun _ => ⟨hin2, fun _ => ⟨⟨cel_bd hp0 _, by simp [h1], by simp; omega, f', by simp; omega, hr⟩, Or.inl (by simp; omega)⟩⟩⟩
  · have e0 : (q == 0) = true := by simpa using h
    rw [e0, cond_true] at hr
    exact hr
theorem x_List_ok : EntryOk Dg Tryz.prog 120 e_x_List :=
  ent_wp Dg T_r12_Full_ok (I := [1451000000008, 1451000000007, 1451000000006, 1451000000002]) Tryz.func120 mix (B := bodyOf Tryz.f120) (by kernel_rfl) rfl (by kernel_rfl) 400
    fun p0 t p sh xs hd hb hp => have hl0 : xs.length ≤ 9223372036854775807 := hb.1.2.2.2.1; have hp0 : AGood ⟨t, p, sh⟩ xs := hp _ (.head _); have hp1 : 0 ≤ hd ∧ hd < xs.length := hp _ (.tail _ (.head _)); ⟨[⟨none, [0,0,1,1,1,1], [.blk 0, .code [1,1,1,1,1]], [8, 7, 6, 2], [.i .u32, .i .u32, .own 3 [some .i64], .box 29 [.ic .i64 (t), .ic .i64 (p), .ic .i64 (sh), .roc [.ints .u32 (xs)]]]⟩], fun j => List.getD [appC (Hd.kd (⟨none, [0,0,1,1,1,1], [.blk 0, .code [1,1,1,1,1]], [8, 7, 6, 2], [.i .u32, .i .u32, .own 3 [some .i64], .box 29 [.ic .i64 (t), .ic .i64 (p), .ic .i64 (sh), .roc [.ints .u32 (xs)]]]⟩ : Hd Sg)) (fun ah' q' n1' out' => x_List_I0 t p sh xs hd ah' q' n1' out' (x_List t p sh xs hd))] j (fun _ => False), fun j => List.getD [appC (Hd.kd (⟨none, [0,0,1,1,1,1], [.blk 0, .code [1,1,1,1,1]], [8, 7, 6, 2], [.i .u32, .i .u32, .own 3 [some .i64], .box 29 [.ic .i64 (t), .ic .i64 (p), .ic .i64 (sh), .roc [.ints .u32 (xs)]]]⟩ : Hd Sg)) (fun ah' q' n1' out' => ((p + 1 - out'.length).toNat, 0, 0))] j (fun _ => (0, 0, 0)), by kernel_rfl, ⟨x_List_w t p sh xs hd (fun ah' q' n1' out' => x_List_I0 t p sh xs hd ah' q' n1' out' (x_List t p sh xs hd)) (fun r__ => r__ = (x_List t p sh xs hd)), fun _ _ _ => by kernel_rfl, x_List_begin t p sh xs hd hp0 hp1 hl0 ⟩, ⟨fun ah q n1 out hI => ⟨x_List_w0 t p sh xs hd ah q n1 out (fun ah' q' n1' out' => x_List_I0 t p sh xs hd ah' q' n1' out' (x_List t p sh xs hd) ∧ lx ((p + 1 - out'.length).toNat, 0, 0) ((p + 1 - out.length).toNat, 0, 0)) (fun r__ => r__ = (x_List t p sh xs hd)), fun _ _ _ => by kernel_rfl, x_List_step0 t p sh xs hd hp0 hp1 hl0 ah q n1 out hI⟩, trivial⟩⟩
def T_x_List : List (Nat × Entry Sg) := (120, e_x_List) :: T_r12_Full
theorem T_x_List_ok : TableOk Dg Tryz.prog T_x_List := TableOk.cons Dg x_List_ok T_r12_Full_ok
def x_binned (t : Int) (p : Int) (sh : Int) (xs : List Int) (g : Int) (k : Int) : Bool := binned ⟨t, p, sh⟩ xs g k
abbrev c_x_binned : Ct Sg := ⟨none, false, [.agg [.i .i64, .i .i64, .i .i64, .ro [some .u32]], .i .i64, .i .i64], .b⟩
def e_x_binned : Entry Sg := entC c_x_binned x_binned (fun t p sh xs g k => [AGood ⟨t, p, sh⟩ xs, 0 ≤ g ∧ g < p])
def x_binned_w (t : Int) (p : Int) (sh : Int) (xs : List Int) (g : Int) (k : Int) (R_ : Bool → Prop) : Prop := ((AGood { t := t, p := p, s := sh } xs) ∧ ((AGood { t := t, p := p, s := sh } xs) → (((0 : Int) ≤ g ∧ g < p) ∧ (((0 : Int) ≤ g ∧ g < p) → (((Prod.fst (x_Info t p sh xs g) == (1 : Int)) = true → Prod.fst (If.l (aInfo { t := t, p := p, s := sh } xs g), If.c (aInfo { t := t, p := p, s := sh } xs g)) ≤ (9223372036854775807 : Int)) ∧ (((Prod.fst (x_Info t p sh xs g) == (1 : Int)) = true → Prod.fst (If.l (aInfo { t := t, p := p, s := sh } xs g), If.c (aInfo { t := t, p := p, s := sh } xs g)) ≤ (9223372036854775807 : Int)) → (R_ (Prod.fst (If.k (aInfo { t := t, p := p, s := sh } xs g), If.l (aInfo { t := t, p := p, s := sh } xs g), If.c (aInfo { t := t, p := p, s := sh } xs g)) == (1 : Int) && r01_Log (If.l (aInfo { t := t, p := p, s := sh } xs g)) == k))))))))
theorem x_binned_begin (t : Int) (p : Int) (sh : Int) (xs : List Int) (g : Int) (k : Int) (hp0 : AGood ⟨t, p, sh⟩ xs) (hp1 : 0 ≤ g ∧ g < p) (hl0 : xs.length ≤ 9223372036854775807) : x_binned_w t p sh xs g k  (fun r__ => r__ = (x_binned t p sh xs g k)) := by
  unfold x_binned_w
  have hl : (aInfo ⟨t, p, sh⟩ xs g).l ≤ 9223372036854775807 := by
    have := (iGet_bd (cel xs (Cf.info ⟨t, p, sh⟩ g))).2.2.2.1
    have h2 : (aInfo ⟨t, p, sh⟩ xs g).l ≤ 1024 := this
    omega
  exact ⟨hp0, fun _ => ⟨hp1, fun _ => ⟨fun _ => hl, fun _ => rfl⟩⟩⟩
theorem x_binned_ok : EntryOk Dg Tryz.prog 122 e_x_binned :=
  ent_wp Dg T_x_List_ok (I := []) Tryz.func122 mix (B := bodyOf Tryz.f122) (by kernel_rfl) rfl (by kernel_rfl) 400
    fun p0 t p sh xs g k hb hp => have hl0 : xs.length ≤ 9223372036854775807 := hb.1.2.2.2.1; have hp0 : AGood ⟨t, p, sh⟩ xs := hp _ (.head _); have hp1 : 0 ≤ g ∧ g < p := hp _ (.tail _ (.head _)); ⟨[], fun j => List.getD [] j (fun _ => False), fun j => List.getD [] j (fun _ => (0, 0, 0)), by kernel_rfl, ⟨x_binned_w t p sh xs g k  (fun r__ => r__ = (x_binned t p sh xs g k)), fun _ _ _ => by kernel_rfl, x_binned_begin t p sh xs g k hp0 hp1 hl0 ⟩, trivial⟩
def T_x_binned : List (Nat × Entry Sg) := (122, e_x_binned) :: T_x_List
theorem T_x_binned_ok : TableOk Dg Tryz.prog T_x_binned := TableOk.cons Dg x_binned_ok T_x_List_ok
def x_racked (t : Int) (p : Int) (sh : Int) (xs : List Int) (g : Int) (k : Int) : Bool := racked ⟨t, p, sh⟩ xs g k
abbrev c_x_racked : Ct Sg := ⟨none, false, [.agg [.i .i64, .i .i64, .i .i64, .ro [some .u32]], .i .i64, .i .i64], .b⟩
def e_x_racked : Entry Sg := entC c_x_racked x_racked (fun t p sh xs g k => [AGood ⟨t, p, sh⟩ xs, 0 ≤ g ∧ g < p])
def x_racked_w (t : Int) (p : Int) (sh : Int) (xs : List Int) (g : Int) (k : Int) (R_ : Bool → Prop) : Prop := ((AGood { t := t, p := p, s := sh } xs) ∧ ((AGood { t := t, p := p, s := sh } xs) → (((0 : Int) ≤ g ∧ g < p) ∧ (((0 : Int) ≤ g ∧ g < p) → (((Prod.fst (x_Info t p sh xs g) == (3 : Int) && Prod.snd (If.l (aInfo { t := t, p := p, s := sh } xs g), If.c (aInfo { t := t, p := p, s := sh } xs g)) == k) = true → AGood { t := t, p := p, s := sh } xs) ∧ (((Prod.fst (x_Info t p sh xs g) == (3 : Int) && Prod.snd (If.l (aInfo { t := t, p := p, s := sh } xs g), If.c (aInfo { t := t, p := p, s := sh } xs g)) == k) = true → AGood { t := t, p := p, s := sh } xs) → (((Prod.fst (x_Info t p sh xs g) == (3 : Int) && Prod.snd (If.l (aInfo { t := t, p := p, s := sh } xs g), If.c (aInfo { t := t, p := p, s := sh } xs g)) == k) = true → (0 : Int) ≤ g ∧ g < p) ∧ (((Prod.fst (x_Info t p sh xs g) == (3 : Int) && Prod.snd (If.l (aInfo { t := t, p := p, s := sh } xs g), If.c (aInfo { t := t, p := p, s := sh } xs g)) == k) = true → (0 : Int) ≤ g ∧ g < p) → (((Prod.fst (x_Info t p sh xs g) == (3 : Int) && Prod.snd (If.l (aInfo { t := t, p := p, s := sh } xs g), If.c (aInfo { t := t, p := p, s := sh } xs g)) == k) = true → bd32 (x_Taken t p sh xs g)) ∧ (((Prod.fst (x_Info t p sh xs g) == (3 : Int) && Prod.snd (If.l (aInfo { t := t, p := p, s := sh } xs g), If.c (aInfo { t := t, p := p, s := sh } xs g)) == k) = true → bd32 (x_Taken t p sh xs g)) → (R_ (Prod.fst (If.k (aInfo { t := t, p := p, s := sh } xs g), If.l (aInfo { t := t, p := p, s := sh } xs g), If.c (aInfo { t := t, p := p, s := sh } xs g)) == (3 : Int) && If.c (aInfo { t := t, p := p, s := sh } xs g) == k && !r12_Full (x_Taken t p sh xs g) k))))))))))))
theorem x_racked_begin (t : Int) (p : Int) (sh : Int) (xs : List Int) (g : Int) (k : Int) (hp0 : AGood ⟨t, p, sh⟩ xs) (hp1 : 0 ≤ g ∧ g < p) (hl0 : xs.length ≤ 9223372036854775807) : x_racked_w t p sh xs g k  (fun r__ => r__ = (x_racked t p sh xs g k)) := by
  unfold x_racked_w
  have hbd := cel_bd hp0 (Cf.taken ⟨t, p, sh⟩ g)
  refine ⟨hp0, fun _ => ⟨hp1, fun _ => ⟨fun _ => hp0, fun _ => ⟨fun _ => hp1, fun _ => ⟨fun _ => hbd, fun _ => ?_⟩⟩⟩⟩⟩
  show (_ && _ && !r12_Full (cel xs (Cf.taken ⟨t, p, sh⟩ g)) k) = racked ⟨t, p, sh⟩ xs g k
  unfold racked full r12_Full
  rw [r05_Slots_eq]
  rfl
theorem x_racked_ok : EntryOk Dg Tryz.prog 125 e_x_racked :=
  ent_wp Dg T_x_binned_ok (I := []) Tryz.func125 mix (B := bodyOf Tryz.f125) (by kernel_rfl) rfl (by kernel_rfl) 400
    fun p0 t p sh xs g k hb hp => have hl0 : xs.length ≤ 9223372036854775807 := hb.1.2.2.2.1; have hp0 : AGood ⟨t, p, sh⟩ xs := hp _ (.head _); have hp1 : 0 ≤ g ∧ g < p := hp _ (.tail _ (.head _)); ⟨[], fun j => List.getD [] j (fun _ => False), fun j => List.getD [] j (fun _ => (0, 0, 0)), by kernel_rfl, ⟨x_racked_w t p sh xs g k  (fun r__ => r__ = (x_racked t p sh xs g k)), fun _ _ _ => by kernel_rfl, x_racked_begin t p sh xs g k hp0 hp1 hl0 ⟩, trivial⟩
def T_x_racked : List (Nat × Entry Sg) := (125, e_x_racked) :: T_x_binned
theorem T_x_racked_ok : TableOk Dg Tryz.prog T_x_racked := TableOk.cons Dg x_racked_ok T_x_binned_ok
end Go.Proofs.YtajcpopikdpcmaaGreat
namespace Go.Proofs.YtajcpopikdpcmaaGreat
open Go.Sl
theorem onesF_bd (v : Int) : ∀ k : Nat, 0 ≤ onesF v k ∧ onesF v k ≤ k
  | 0 => ⟨Int.le_refl _, Int.le_refl _⟩
  | k + 1 => by
    have := onesF_bd v k
    simp only [onesF]
    cases bitAt v k with
    | true => simp only [cond_true]; omega
    | false => simp only [cond_false]; omega
theorem countsF_bd (c : Cf) (xs : List Int) : ∀ k : Nat, 0 ≤ (countsF c xs k).1 ∧ (countsF c xs k).1 ≤ 1024 * k ∧ 0 ≤ (countsF c xs k).2 ∧ (countsF c xs k).2 ≤ 33 * k
  | 0 => by simp [countsF]
  | k + 1 => by
    have h := countsF_bd c xs k
    have h2 : 0 ≤ ones (cel xs (c.slots k)) ∧ ones (cel xs (c.slots k)) ≤ 32 := onesF_bd _ 32
    have h3 : 0 ≤ (aInfo c xs k).l ∧ (aInfo c xs k).l ≤ 1024 := ⟨(iGet_bd (cel xs (c.info k))).2.2.1, (iGet_bd (cel xs (c.info k))).2.2.2.1⟩
    simp only [countsF]
    cases (aInfo c xs k).k == 1 <;> cases (aInfo c xs k).k == 2 <;> simp only [cond_true, cond_false] <;> omega
def x_loose (t : Int) (p : Int) (sh : Int) (xs : List Int) : Bool := loose ⟨t, p, sh⟩ xs
abbrev c_x_loose : Ct Sg := ⟨none, false, [.agg [.i .i64, .i .i64, .i .i64, .ro [some .u32]]], .b⟩
def e_x_loose : Entry Sg := entC c_x_loose x_loose (fun t p sh xs => [AGood ⟨t, p, sh⟩ xs])
def x_loose_w (t : Int) (p : Int) (sh : Int) (xs : List Int) (Q0 : Int → Prop) (R_ : Bool → Prop) : Prop := (Q0 ((0 : Int)))
def x_loose_w0 (t : Int) (p : Int) (sh : Int) (xs : List Int) (i : Int) (Q0 : Int → Prop) (R_ : Bool → Prop) : Prop := (((decide (i < p)) = true → ((AGood { t := t, p := p, s := sh } xs) ∧ ((AGood { t := t, p := p, s := sh } xs) → (((0 : Int) ≤ i ∧ i < p) ∧ (((0 : Int) ≤ i ∧ i < p) → (((Prod.fst (x_Info t p sh xs i) == (3 : Int)) = true → AGood { t := t, p := p, s := sh } xs) ∧ (((Prod.fst (x_Info t p sh xs i) == (3 : Int)) = true → AGood { t := t, p := p, s := sh } xs) → (((Prod.fst (x_Info t p sh xs i) == (3 : Int)) = true → (0 : Int) ≤ i ∧ i < p) ∧ (((Prod.fst (x_Info t p sh xs i) == (3 : Int)) = true → (0 : Int) ≤ i ∧ i < p) → (((Prod.fst (x_Info t p sh xs i) == (3 : Int)) = true → bd32 (x_Taken t p sh xs i)) ∧ (((Prod.fst (x_Info t p sh xs i) == (3 : Int)) = true → bd32 (x_Taken t p sh xs i)) → (((Prod.fst (x_Info t p sh xs i) == (1 : Int) || Prod.fst (x_Info t p sh xs i) == (3 : Int) && !r12_Full (x_Taken t p sh xs i) (If.c (aInfo { t := t, p := p, s := sh } xs i))) = true → (Q0 (IntKind.wrap IntKind.i64 (i + (1 : Int))))) ∧ ((Prod.fst (x_Info t p sh xs i) == (1 : Int) || Prod.fst (x_Info t p sh xs i) == (3 : Int) && !r12_Full (x_Taken t p sh xs i) (If.c (aInfo { t := t, p := p, s := sh } xs i))) = false → (((0 : Int) ≤ r07_Next t p sh i ∧ r07_Next t p sh i < (↑(List.length xs) : Int)) ∧ (((0 : Int) ≤ r07_Next t p sh i ∧ r07_Next t p sh i < (↑(List.length xs) : Int)) → (((List.getD xs (Int.toNat (r07_Next t p sh i)) (0 : Int) != (0 : Int)) = false → (0 : Int) ≤ r07_Prev t p sh i ∧ r07_Prev t p sh i < (↑(List.length xs) : Int)) ∧ (((List.getD xs (Int.toNat (r07_Next t p sh i)) (0 : Int) != (0 : Int)) = false → (0 : Int) ≤ r07_Prev t p sh i ∧ r07_Prev t p sh i < (↑(List.length xs) : Int)) → (((List.getD xs (Int.toNat (r07_Next t p sh i)) (0 : Int) != (0 : Int) || List.getD xs (Int.toNat (r07_Prev t p sh i)) (0 : Int) != (0 : Int)) = true → (R_ (false))) ∧ ((List.getD xs (Int.toNat (r07_Next t p sh i)) (0 : Int) != (0 : Int) || List.getD xs (Int.toNat (r07_Prev t p sh i)) (0 : Int) != (0 : Int)) = false → (Q0 (IntKind.wrap IntKind.i64 (i + (1 : Int))))))))))))))))))))))) ∧ ((decide (i < p)) = false → (R_ (true))))
def x_loose_I0 (t : Int) (p : Int) (sh : Int) (xs : List Int) (i : Int) (r_ : Bool) : Prop := 0 ≤ i ∧ i ≤ p ∧ looseF ⟨t, p, sh⟩ xs (p - i).toNat = r_
theorem x_loose_begin (t : Int) (p : Int) (sh : Int) (xs : List Int) (hp0 : AGood ⟨t, p, sh⟩ xs) (hl0 : xs.length ≤ 9223372036854775807) : x_loose_w t p sh xs (fun i' => x_loose_I0 t p sh xs i' (x_loose t p sh xs)) (fun r__ => r__ = (x_loose t p sh xs)) := by
  unfold x_loose_w
  try unfold x_loose_I0
  have hok := Cf.ok_iff.1 hp0.ok
  simp only at hok
  refine ⟨by omega, by omega, ?_⟩
  show _ = loose ⟨t, p, sh⟩ xs
  unfold loose
  rw [show (p - 0).toNat = p.toNat by omega]
theorem x_loose_step0 (t : Int) (p : Int) (sh : Int) (xs : List Int) (hp0 : AGood ⟨t, p, sh⟩ xs) (hl0 : xs.length ≤ 9223372036854775807) (i : Int) {r_ : Bool} (hI : x_loose_I0 t p sh xs i r_) : x_loose_w0 t p sh xs i (fun i' => x_loose_I0 t p sh xs i' r_ ∧ lx ((p - i').toNat, 0, 0) ((p - i).toNat, 0, 0)) (fun r__ => r__ = r_) := by
  unfold x_loose_I0 at hI
  unfold x_loose_w0
  try unfold x_loose_I0
  obtain ⟨h0, h1, hr⟩ := hI
  have hok := Cf.ok_iff.1 hp0.ok
  simp only at hok
  refine ⟨fun h => ?_, fun h => ?_⟩
  · simp only [decide_eq_true_eq] at h
    have hg : 0 ≤ i ∧ i < p := ⟨h0, h⟩
    have hbt : bd32 (x_Taken t p sh xs i) := cel_bd hp0 _
    have hin2 := pc_in hp0 (g := i) (k := 2) hg (by omega)
    have hin3 := pc_in hp0 (g := i) (k := 3) hg (by omega)
    have e : (p - i).toNat = (p - (i + 1)).toNat + 1 := by omega
    have ei : (p : Int) - (((p - (i + 1)).toNat + 1 : Nat) : Int) = i := by omega
    rw [e] at hr
    simp only [looseF] at hr
    rw [ei] at hr
    have hf : ∀ k, r12_Full (x_Taken t p sh xs i) k = full (cel xs (Cf.taken ⟨t, p, sh⟩ i)) k := fun k => by
      unfold r12_Full full
      rw [r05_Slots_eq]; rfl
    rw [w64 (n := i + 1) (by omega), r07_Next_eq, r07_Prev_eq, hf]
    refine ⟨hp0, fun _ => ⟨hg, fun _ => ⟨fun _ => hp0, fun _ => ⟨fun _ => hg, fun _ => ⟨fun _ => hbt, fun _ => ⟨fun hc => ?_, fun hc => ?_⟩⟩⟩⟩⟩⟩
    · have hc' : ((aInfo ⟨t, p, sh⟩ xs i).k == 1 || ((aInfo ⟨t, p, sh⟩ xs i).k == 3 && !full (cel xs (Cf.taken ⟨t, p, sh⟩ i)) (aInfo ⟨t, p, sh⟩ xs i).c)) = true := hc
      rw [hc', cond_true] at hr
      exact ⟨⟨by omega, by omega, hr⟩, lxo_⟩
    · have hc' : ((aInfo ⟨t, p, sh⟩ xs i).k == 1 || ((aInfo ⟨t, p, sh⟩ xs i).k == 3 && !full (cel xs (Cf.taken ⟨t, p, sh⟩ i)) (aInfo ⟨t, p, sh⟩ xs i).c)) = false := hc
      rw [hc', cond_false] at hr
      refine ⟨hin2, fun _ => ⟨fun _ => hin3, fun _ => ⟨fun hz => ?_, fun hz => ?_⟩⟩⟩
      · have hz' : (cel xs (Cf.next ⟨t, p, sh⟩ i) != 0 || cel xs (Cf.prev ⟨t, p, sh⟩ i) != 0) = true := hz
        rw [hz', cond_true] at hr; exact hr
      · have hz' : (cel xs (Cf.next ⟨t, p, sh⟩ i) != 0 || cel xs (Cf.prev ⟨t, p, sh⟩ i) != 0) = false := hz
        rw [hz', cond_false] at hr
        exact ⟨⟨by omega, by omega, hr⟩, lxo_⟩
  · simp only [decide_eq_false_iff_not] at h
    rw [show (p - i).toNat = 0 by omega] at hr
    exact hr
theorem x_loose_ok : EntryOk Dg Tryz.prog 96 e_x_loose :=
  ent_wp Dg T_x_racked_ok (I := [103000000003, 103000000001]) Tryz.func96 mix (B := bodyOf Tryz.f96) (by kernel_rfl) rfl (by kernel_rfl) 400
    fun p0 t p sh xs hb hp => have hl0 : xs.length ≤ 9223372036854775807 := hb.1.2.2.2.1; have hp0 : AGood ⟨t, p, sh⟩ xs := hp _ (.head _); ⟨[⟨none, [0,1,0,1], [.blk 0, .code [1,1]], [3, 1], [.i .i64, .box 29 [.ic .i64 (t), .ic .i64 (p), .ic .i64 (sh), .roc [.ints .u32 (xs)]]]⟩], fun j => List.getD [appC (Hd.kd (⟨none, [0,1,0,1], [.blk 0, .code [1,1]], [3, 1], [.i .i64, .box 29 [.ic .i64 (t), .ic .i64 (p), .ic .i64 (sh), .roc [.ints .u32 (xs)]]]⟩ : Hd Sg)) (fun i' => x_loose_I0 t p sh xs i' (x_loose t p sh xs))] j (fun _ => False), fun j => List.getD [appC (Hd.kd (⟨none, [0,1,0,1], [.blk 0, .code [1,1]], [3, 1], [.i .i64, .box 29 [.ic .i64 (t), .ic .i64 (p), .ic .i64 (sh), .roc [.ints .u32 (xs)]]]⟩ : Hd Sg)) (fun i' => ((p - i').toNat, 0, 0))] j (fun _ => (0, 0, 0)), by kernel_rfl, ⟨x_loose_w t p sh xs (fun i' => x_loose_I0 t p sh xs i' (x_loose t p sh xs)) (fun r__ => r__ = (x_loose t p sh xs)), fun _ _ _ => by kernel_rfl, x_loose_begin t p sh xs hp0 hl0 ⟩, ⟨fun i hI => ⟨x_loose_w0 t p sh xs i (fun i' => x_loose_I0 t p sh xs i' (x_loose t p sh xs) ∧ lx ((p - i').toNat, 0, 0) ((p - i).toNat, 0, 0)) (fun r__ => r__ = (x_loose t p sh xs)), fun _ _ _ => by kernel_rfl, x_loose_step0 t p sh xs hp0 hl0 i hI⟩, trivial⟩⟩
def T_x_loose : List (Nat × Entry Sg) := (96, e_x_loose) :: T_x_racked
theorem T_x_loose_ok : TableOk Dg Tryz.prog T_x_loose := TableOk.cons Dg x_loose_ok T_x_racked_ok
def x_counts (t : Int) (p : Int) (sh : Int) (xs : List Int) : Bool := counts ⟨t, p, sh⟩ xs
abbrev c_x_counts : Ct Sg := ⟨none, false, [.agg [.i .i64, .i .i64, .i .i64, .ro [some .u32]]], .b⟩
def e_x_counts : Entry Sg := entC c_x_counts x_counts (fun t p sh xs => [AGood ⟨t, p, sh⟩ xs])
def x_counts_w (t : Int) (p : Int) (sh : Int) (xs : List Int) (Q0 : Int → Int → Int → Prop) (R_ : Bool → Prop) : Prop := (Q0 ((0 : Int)) ((0 : Int)) ((0 : Int)))
def x_counts_w0 (t : Int) (p : Int) (sh : Int) (xs : List Int) (i : Int) (lv : Int) (fr : Int) (Q0 : Int → Int → Int → Prop) (R_ : Bool → Prop) : Prop := (((decide (i < p)) = true → ((AGood { t := t, p := p, s := sh } xs) ∧ ((AGood { t := t, p := p, s := sh } xs) → (((0 : Int) ≤ i ∧ i < p) ∧ (((0 : Int) ≤ i ∧ i < p) → (((Prod.fst (x_Info t p sh xs i) == (1 : Int)) = true → (((Prod.fst (x_Info t p sh xs i) == (2 : Int)) = true → ((AGood { t := t, p := p, s := sh } xs) ∧ ((AGood { t := t, p := p, s := sh } xs) → (((0 : Int) ≤ i ∧ i < p) ∧ (((0 : Int) ≤ i ∧ i < p) → ((bd32 (x_Slots t p sh xs i)) ∧ ((bd32 (x_Slots t p sh xs i)) → (Q0 (IntKind.wrap IntKind.i64 (i + (1 : Int))) (IntKind.wrap IntKind.i64 (IntKind.wrap IntKind.i64 (lv + (1 : Int)) + r01_Ones (x_Slots t p sh xs i))) (IntKind.wrap IntKind.i64 (fr + If.l (aInfo { t := t, p := p, s := sh } xs i))))))))))) ∧ ((Prod.fst (x_Info t p sh xs i) == (2 : Int)) = false → ((AGood { t := t, p := p, s := sh } xs) ∧ ((AGood { t := t, p := p, s := sh } xs) → (((0 : Int) ≤ i ∧ i < p) ∧ (((0 : Int) ≤ i ∧ i < p) → ((bd32 (x_Slots t p sh xs i)) ∧ ((bd32 (x_Slots t p sh xs i)) → (Q0 (IntKind.wrap IntKind.i64 (i + (1 : Int))) (IntKind.wrap IntKind.i64 (lv + r01_Ones (x_Slots t p sh xs i))) (IntKind.wrap IntKind.i64 (fr + If.l (aInfo { t := t, p := p, s := sh } xs i))))))))))))) ∧ ((Prod.fst (x_Info t p sh xs i) == (1 : Int)) = false → (((Prod.fst (x_Info t p sh xs i) == (2 : Int)) = true → ((AGood { t := t, p := p, s := sh } xs) ∧ ((AGood { t := t, p := p, s := sh } xs) → (((0 : Int) ≤ i ∧ i < p) ∧ (((0 : Int) ≤ i ∧ i < p) → ((bd32 (x_Slots t p sh xs i)) ∧ ((bd32 (x_Slots t p sh xs i)) → (Q0 (IntKind.wrap IntKind.i64 (i + (1 : Int))) (IntKind.wrap IntKind.i64 (IntKind.wrap IntKind.i64 (lv + (1 : Int)) + r01_Ones (x_Slots t p sh xs i))) (fr))))))))) ∧ ((Prod.fst (x_Info t p sh xs i) == (2 : Int)) = false → ((AGood { t := t, p := p, s := sh } xs) ∧ ((AGood { t := t, p := p, s := sh } xs) → (((0 : Int) ≤ i ∧ i < p) ∧ (((0 : Int) ≤ i ∧ i < p) → ((bd32 (x_Slots t p sh xs i)) ∧ ((bd32 (x_Slots t p sh xs i)) → (Q0 (IntKind.wrap IntKind.i64 (i + (1 : Int))) (IntKind.wrap IntKind.i64 (lv + r01_Ones (x_Slots t p sh xs i))) (fr))))))))))))))))) ∧ ((decide (i < p)) = false → (((0 : Int) ≤ (0 : Int) ∧ (0 : Int) < (↑(List.length xs) : Int)) ∧ (((0 : Int) ≤ (0 : Int) ∧ (0 : Int) < (↑(List.length xs) : Int)) → (((List.getD xs (0 : Nat) (0 : Int) == IntKind.wrap IntKind.u32 fr) = true → (0 : Int) ≤ (1 : Int) ∧ (1 : Int) < (↑(List.length xs) : Int)) ∧ (((List.getD xs (0 : Nat) (0 : Int) == IntKind.wrap IntKind.u32 fr) = true → (0 : Int) ≤ (1 : Int) ∧ (1 : Int) < (↑(List.length xs) : Int)) → (R_ (List.getD xs (0 : Nat) (0 : Int) == IntKind.wrap IntKind.u32 fr && List.getD xs (1 : Nat) (0 : Int) == IntKind.wrap IntKind.u32 lv))))))))
def x_counts_I0 (t : Int) (p : Int) (sh : Int) (xs : List Int) (i : Int) (lv : Int) (fr : Int) (r_ : Bool) : Prop := 0 ≤ i ∧ i ≤ p ∧ fr = (countsF ⟨t, p, sh⟩ xs i.toNat).1 ∧ lv = (countsF ⟨t, p, sh⟩ xs i.toNat).2 ∧ r_ = counts ⟨t, p, sh⟩ xs
theorem x_counts_begin (t : Int) (p : Int) (sh : Int) (xs : List Int) (hp0 : AGood ⟨t, p, sh⟩ xs) (hl0 : xs.length ≤ 9223372036854775807) : x_counts_w t p sh xs (fun i' lv' fr' => x_counts_I0 t p sh xs i' lv' fr' (x_counts t p sh xs)) (fun r__ => r__ = (x_counts t p sh xs)) := by
  unfold x_counts_w
  try unfold x_counts_I0
  have hok := Cf.ok_iff.1 hp0.ok
  simp only at hok
  exact ⟨by omega, by omega, rfl, rfl, rfl⟩
theorem x_counts_step0 (t : Int) (p : Int) (sh : Int) (xs : List Int) (hp0 : AGood ⟨t, p, sh⟩ xs) (hl0 : xs.length ≤ 9223372036854775807) (i : Int) (lv : Int) (fr : Int) {r_ : Bool} (hI : x_counts_I0 t p sh xs i lv fr r_) : x_counts_w0 t p sh xs i lv fr (fun i' lv' fr' => x_counts_I0 t p sh xs i' lv' fr' r_ ∧ lx ((p - i').toNat, 0, 0) ((p - i).toNat, 0, 0)) (fun r__ => r__ = r_) := by
  unfold x_counts_I0 at hI
  unfold x_counts_w0
  try unfold x_counts_I0
  obtain ⟨h0, h1, hf, hl, hr⟩ := hI
  have hok := Cf.ok_iff.1 hp0.ok
  simp only at hok
  have hb := countsF_bd ⟨t, p, sh⟩ xs i.toNat
  refine ⟨fun h => ?_, fun h => ?_⟩
  · simp only [decide_eq_true_eq] at h
    have hg : 0 ≤ i ∧ i < p := ⟨h0, h⟩
    have e : (i + 1).toNat = i.toNat + 1 := by omega
    have ei : ((i.toNat : Nat) : Int) = i := by omega
    have hbs : bd32 (x_Slots t p sh xs i) := cel_bd hp0 _
    have hl0 : 0 ≤ (aInfo ⟨t, p, sh⟩ xs i).l := (iGet_bd (cel xs (Cf.info ⟨t, p, sh⟩ i))).2.2.1
    have hl1 : (aInfo ⟨t, p, sh⟩ xs i).l ≤ 1024 := (iGet_bd (cel xs (Cf.info ⟨t, p, sh⟩ i))).2.2.2.1
    have ho : 0 ≤ ones (cel xs (Cf.slots ⟨t, p, sh⟩ i)) ∧ ones (cel xs (Cf.slots ⟨t, p, sh⟩ i)) ≤ 32 := onesF_bd _ 32
    have hones : r01_Ones (x_Slots t p sh xs i) = ones (cel xs (Cf.slots ⟨t, p, sh⟩ i)) := rfl
    have key : countsF ⟨t, p, sh⟩ xs (i + 1).toNat = (fr + (bif (aInfo ⟨t, p, sh⟩ xs i).k == 1 then (aInfo ⟨t, p, sh⟩ xs i).l else 0), lv + (bif (aInfo ⟨t, p, sh⟩ xs i).k == 2 then 1 else 0) + ones (cel xs (Cf.slots ⟨t, p, sh⟩ i))) := by
      rw [e, countsF, ei, ← hf, ← hl]
    have F1 : IntKind.i64.wrap (fr + (aInfo ⟨t, p, sh⟩ xs i).l) = fr + (aInfo ⟨t, p, sh⟩ xs i).l := w64 (by omega)
    have F2 : IntKind.i64.wrap (lv + 1) = lv + 1 := w64 (by omega)
    have F3 : IntKind.i64.wrap (lv + 1 + ones (cel xs (Cf.slots ⟨t, p, sh⟩ i))) = lv + 1 + ones (cel xs (Cf.slots ⟨t, p, sh⟩ i)) := w64 (by omega)
    have F4 : IntKind.i64.wrap (lv + ones (cel xs (Cf.slots ⟨t, p, sh⟩ i))) = lv + ones (cel xs (Cf.slots ⟨t, p, sh⟩ i)) := w64 (by omega)
    rw [hones, w64 (n := i + 1) (by omega), F2, F3, F4]
    have fin : ∀ (b1 b2 : Bool), ((aInfo ⟨t, p, sh⟩ xs i).k == 1) = b1 → ((aInfo ⟨t, p, sh⟩ xs i).k == 2) = b2 → ∀ x y : Int, x = fr + (bif b1 then (aInfo ⟨t, p, sh⟩ xs i).l else 0) → y = lv + (bif b2 then 1 else 0) + ones (cel xs (Cf.slots ⟨t, p, sh⟩ i)) →
        (0 ≤ i + 1 ∧ i + 1 ≤ p ∧ x = (countsF ⟨t, p, sh⟩ xs (i + 1).toNat).1 ∧ y = (countsF ⟨t, p, sh⟩ xs (i + 1).toNat).2 ∧ r_ = counts ⟨t, p, sh⟩ xs) ∧ lx ((p - (i + 1)).toNat, 0, 0) ((p - i).toNat, 0, 0) := by
      intro b1 b2 e1 e2 x y hx hy
      rw [key, e1, e2]
      exact ⟨⟨by omega, by omega, hx, hy, hr⟩, lxo_⟩
    refine ⟨hp0, fun _ => ⟨hg, fun _ => ⟨fun c1 => ⟨fun c2 => ?_, fun c2 => ?_⟩, fun c1 => ⟨fun c2 => ?_, fun c2 => ?_⟩⟩⟩⟩
    · exact ⟨hp0, fun _ => ⟨hg, fun _ => ⟨hbs, fun _ => fin true true c1 c2 _ _ F1 rfl⟩⟩⟩
    · exact ⟨hp0, fun _ => ⟨hg, fun _ => ⟨hbs, fun _ => fin true false c1 c2 _ _ F1 (by simp)⟩⟩⟩
    · exact ⟨hp0, fun _ => ⟨hg, fun _ => ⟨hbs, fun _ => fin false true c1 c2 _ _ (by simp) rfl⟩⟩⟩
    · exact ⟨hp0, fun _ => ⟨hg, fun _ => ⟨hbs, fun _ => fin false false c1 c2 _ _ (by simp) (by simp)⟩⟩⟩
  · simp only [decide_eq_false_iff_not] at h
    have hlen := hp0.len
    unfold Cf.cells at hlen
    rw [hp0.ok, cond_true] at hlen
    simp only at hlen
    have e : i.toNat = p.toNat := by omega
    refine ⟨⟨by omega, by omega⟩, fun _ => ⟨fun _ => ⟨by omega, by omega⟩, fun _ => ?_⟩⟩
    show _ = r_
    rw [hr, wrapu_nv, wrapu_nv, hf, hl, e]
    rfl
theorem x_counts_ok : EntryOk Dg Tryz.prog 97 e_x_counts :=
  ent_wp Dg T_x_loose_ok (I := [411000000005, 411000000004, 411000000003, 411000000001]) Tryz.func97 mix (B := bodyOf Tryz.f97) (by kernel_rfl) rfl (by kernel_rfl) 400
    fun p0 t p sh xs hb hp => have hl0 : xs.length ≤ 9223372036854775807 := hb.1.2.2.2.1; have hp0 : AGood ⟨t, p, sh⟩ xs := hp _ (.head _); ⟨[⟨none, [0,1,0,1,1], [.blk 0, .code [1,1,1]], [5, 4, 3, 1], [.i .i64, .i .i64, .i .i64, .box 29 [.ic .i64 (t), .ic .i64 (p), .ic .i64 (sh), .roc [.ints .u32 (xs)]]]⟩], fun j => List.getD [appC (Hd.kd (⟨none, [0,1,0,1,1], [.blk 0, .code [1,1,1]], [5, 4, 3, 1], [.i .i64, .i .i64, .i .i64, .box 29 [.ic .i64 (t), .ic .i64 (p), .ic .i64 (sh), .roc [.ints .u32 (xs)]]]⟩ : Hd Sg)) (fun i' lv' fr' => x_counts_I0 t p sh xs i' lv' fr' (x_counts t p sh xs))] j (fun _ => False), fun j => List.getD [appC (Hd.kd (⟨none, [0,1,0,1,1], [.blk 0, .code [1,1,1]], [5, 4, 3, 1], [.i .i64, .i .i64, .i .i64, .box 29 [.ic .i64 (t), .ic .i64 (p), .ic .i64 (sh), .roc [.ints .u32 (xs)]]]⟩ : Hd Sg)) (fun i' lv' fr' => ((p - i').toNat, 0, 0))] j (fun _ => (0, 0, 0)), by kernel_rfl, ⟨x_counts_w t p sh xs (fun i' lv' fr' => x_counts_I0 t p sh xs i' lv' fr' (x_counts t p sh xs)) (fun r__ => r__ = (x_counts t p sh xs)), fun _ _ _ => by kernel_rfl, x_counts_begin t p sh xs hp0 hl0 ⟩, ⟨fun i lv fr hI => ⟨x_counts_w0 t p sh xs i lv fr (fun i' lv' fr' => x_counts_I0 t p sh xs i' lv' fr' (x_counts t p sh xs) ∧ lx ((p - i').toNat, 0, 0) ((p - i).toNat, 0, 0)) (fun r__ => r__ = (x_counts t p sh xs)), fun _ _ _ => by kernel_rfl, x_counts_step0 t p sh xs hp0 hl0 i lv fr hI⟩, trivial⟩⟩
def T_x_counts : List (Nat × Entry Sg) := (97, e_x_counts) :: T_x_loose
theorem T_x_counts_ok : TableOk Dg Tryz.prog T_x_counts := TableOk.cons Dg x_counts_ok T_x_loose_ok
end Go.Proofs.YtajcpopikdpcmaaGreat
namespace Go.Proofs.YtajcpopikdpcmaaGreat
open Go.Sl
theorem lxp_ {x y : Nat × Nat × Nat} (h : lx x y := by unfold lx; dsimp only; omega) : lx x y := h
theorem r07_Rack_eq (k : Int) : r07_Rack k = cRack k := by
  unfold r07_Rack cRack
  by_cases hg : 0 ≤ k ∧ k < 9
  · have a1 : (decide (k < 0) || decide (k > 8)) = false := by simp; omega
    have a2 : (decide (0 ≤ k) && decide (k < 9)) = true := by simp; omega
    rw [a2]
    first | (rw [a1]; simp only [cond_false, cond_true]; rw [w64 (by omega)]) | (simp only [cond_true]; rw [w64 (by omega)])
  · have a1 : (decide (k < 0) || decide (k > 8)) = true := by simp; omega
    have a2 : (decide (0 ≤ k) && decide (k < 9)) = false := by simp; omega
    rw [a2]
    first | (rw [a1]; rfl) | rfl
def x_bins (t : Int) (p : Int) (sh : Int) (xs : List Int) : Bool := bins ⟨t, p, sh⟩ xs
abbrev c_x_bins : Ct Sg := ⟨none, false, [.agg [.i .i64, .i .i64, .i .i64, .ro [some .u32]]], .b⟩
def e_x_bins : Entry Sg := entC c_x_bins x_bins (fun t p sh xs => [AGood ⟨t, p, sh⟩ xs])
def x_bins_w (t : Int) (p : Int) (sh : Int) (xs : List Int) (Q0 : Int → Prop) (Q1 : Int → Nat → List Int → Int → Prop) (R_ : Bool → Prop) : Prop := (Q0 ((0 : Int)))
def x_bins_w0 (t : Int) (p : Int) (sh : Int) (xs : List Int) (k : Int) (Q0 : Int → Prop) (Q1 : Int → Nat → List Int → Int → Prop) (R_ : Bool → Prop) : Prop := (((decide (k < (11 : Int))) = true → (∀ r1 : Int, r1 = (r07_Bin k) → (∀ r2 : List Int × Bool, r2 = (x_List t p sh xs r1) → ((AGood { t := t, p := p, s := sh } xs) ∧ ((AGood { t := t, p := p, s := sh } xs) → (((0 : Int) ≤ r1 ∧ r1 < (↑(List.length xs) : Int)) ∧ (((0 : Int) ≤ r1 ∧ r1 < (↑(List.length xs) : Int)) → (((!Prod.snd r2) = true → (R_ (false))) ∧ ((!Prod.snd r2) = false → (Q1 ((0 : Int)) (List.length (Prod.fst r2)) (Prod.fst r2) (k))))))))))) ∧ ((decide (k < (11 : Int))) = false → (R_ (true))))
def x_bins_I0 (t : Int) (p : Int) (sh : Int) (xs : List Int) (k : Int) (r_ : Bool) : Prop := 0 ≤ k ∧ k ≤ 11 ∧ binsF ⟨t, p, sh⟩ xs (11 - k).toNat = r_
def x_bins_w1 (t : Int) (p : Int) (sh : Int) (xs : List Int) (i : Int) (n1 : Nat) (ls : List Int) (k : Int) (Q0 : Int → Prop) (Q1 : Int → Nat → List Int → Int → Prop) (R_ : Bool → Prop) : Prop := (((decide (i < p)) = true → ((AGood { t := t, p := p, s := sh } xs) ∧ ((AGood { t := t, p := p, s := sh } xs) → (((0 : Int) ≤ i ∧ i < p) ∧ (((0 : Int) ≤ i ∧ i < p) → (((x_binned t p sh xs i k) = true → (((r12_in ls i != (1 : Int)) = true → (R_ (false))) ∧ ((r12_in ls i != (1 : Int)) = false → (Q1 (IntKind.wrap IntKind.i64 (i + (1 : Int))) (n1) (ls) (k))))) ∧ ((x_binned t p sh xs i k) = false → (((r12_in ls i != (0 : Int)) = true → (R_ (false))) ∧ ((r12_in ls i != (0 : Int)) = false → (Q1 (IntKind.wrap IntKind.i64 (i + (1 : Int))) (n1) (ls) (k))))))))))) ∧ ((decide (i < p)) = false → (Q0 (IntKind.wrap IntKind.i64 (k + (1 : Int))))))
def x_bins_I1 (t : Int) (p : Int) (sh : Int) (xs : List Int) (i : Int) (n1 : Nat) (ls : List Int) (k : Int) (r_ : Bool) : Prop := 0 ≤ k ∧ k < 11 ∧ 0 ≤ i ∧ i ≤ p ∧ n1 = ls.length ∧ (bif onceF ⟨t, p, sh⟩ ls (fun g => binned ⟨t, p, sh⟩ xs g k) (p - i).toNat then binsF ⟨t, p, sh⟩ xs (10 - k).toNat else false) = r_
theorem x_bins_begin (t : Int) (p : Int) (sh : Int) (xs : List Int) (hp0 : AGood ⟨t, p, sh⟩ xs) (hl0 : xs.length ≤ 9223372036854775807) : x_bins_w t p sh xs (fun k' => x_bins_I0 t p sh xs k' (x_bins t p sh xs)) (fun i' n1' ls' k' => x_bins_I1 t p sh xs i' n1' ls' k' (x_bins t p sh xs)) (fun r__ => r__ = (x_bins t p sh xs)) := by
  unfold x_bins_w
  try unfold x_bins_I0
  try unfold x_bins_I1
  exact ⟨by omega, by omega, rfl⟩
theorem x_bins_step0 (t : Int) (p : Int) (sh : Int) (xs : List Int) (hp0 : AGood ⟨t, p, sh⟩ xs) (hl0 : xs.length ≤ 9223372036854775807) (k : Int) {r_ : Bool} (hI : x_bins_I0 t p sh xs k r_) : x_bins_w0 t p sh xs k (fun k' => x_bins_I0 t p sh xs k' r_ ∧ lx ((11 - k').toNat, p.toNat + 1, 0) ((11 - k).toNat, p.toNat + 1, 0)) (fun i' n1' ls' k' => x_bins_I1 t p sh xs i' n1' ls' k' r_ ∧ lx ((11 - k').toNat, (p - i').toNat, 0) ((11 - k).toNat, p.toNat + 1, 0)) (fun r__ => r__ = r_) := by
  unfold x_bins_I0 at hI
  unfold x_bins_w0
  try unfold x_bins_I0
  try unfold x_bins_I1
  obtain ⟨h0, h1, hr⟩ := hI
  have hok := Cf.ok_iff.1 hp0.ok
  simp only at hok
  refine ⟨fun h => ?_, fun h => ?_⟩
  · simp only [decide_eq_true_eq] at h
    have e : (11 - k).toNat = (10 - k).toNat + 1 := by omega
    have ek : (11 : Int) - (((10 - k).toNat + 1 : Nat) : Int) = k := by omega
    rw [e] at hr
    simp only [binsF] at hr
    rw [ek] at hr
    have hb := bin_in hp0 (k := k) ⟨h0, h⟩
    rintro r1 rfl r2 rfl
    rw [r07_Bin_eq]
    refine ⟨hp0, fun _ => ⟨hb, fun _ => ⟨fun hc => ?_, fun hc => ?_⟩⟩⟩
    · have hc' : (listA ⟨t, p, sh⟩ xs (cBin k)).2 = false := by simpa [x_List] using hc
      rw [hc', cond_false] at hr; exact hr
    · have hc' : (listA ⟨t, p, sh⟩ xs (cBin k)).2 = true := by simpa [x_List] using hc
      rw [hc', cond_true] at hr
      refine ⟨⟨h0, h, by omega, by omega, rfl, ?_⟩, lxp_⟩
      rw [show (p - 0).toNat = p.toNat by omega]; exact hr
  · simp only [decide_eq_false_iff_not] at h
    rw [show (11 - k).toNat = 0 by omega] at hr
    exact hr
theorem x_bins_step1 (t : Int) (p : Int) (sh : Int) (xs : List Int) (hp0 : AGood ⟨t, p, sh⟩ xs) (hl0 : xs.length ≤ 9223372036854775807) (i : Int) (n1 : Nat) (ls : List Int) (k : Int) {r_ : Bool} (hI : x_bins_I1 t p sh xs i n1 ls k r_) : x_bins_w1 t p sh xs i n1 ls k (fun k' => x_bins_I0 t p sh xs k' r_ ∧ lx ((11 - k').toNat, p.toNat + 1, 0) ((11 - k).toNat, (p - i).toNat, 0)) (fun i' n1' ls' k' => x_bins_I1 t p sh xs i' n1' ls' k' r_ ∧ lx ((11 - k').toNat, (p - i').toNat, 0) ((11 - k).toNat, (p - i).toNat, 0)) (fun r__ => r__ = r_) := by
  unfold x_bins_I1 at hI
  unfold x_bins_w1
  try unfold x_bins_I0
  try unfold x_bins_I1
  obtain ⟨h0, h1, h2, h3, h4, hr⟩ := hI
  have hok := Cf.ok_iff.1 hp0.ok
  simp only at hok
  refine ⟨fun h => ?_, fun h => ?_⟩
  · simp only [decide_eq_true_eq] at h
    have hg : 0 ≤ i ∧ i < p := ⟨h2, h⟩
    have e : (p - i).toNat = (p - (i + 1)).toNat + 1 := by omega
    have ei : (p : Int) - (((p - (i + 1)).toNat + 1 : Nat) : Int) = i := by omega
    rw [e] at hr
    simp only [onceF] at hr
    rw [ei] at hr
    rw [w64 (n := i + 1) (by omega)]
    refine ⟨hp0, fun _ => ⟨hg, fun _ => ⟨fun hc => ?_, fun hc => ?_⟩⟩⟩
    · have hc' : binned ⟨t, p, sh⟩ xs i k = true := hc
      rw [hc', cond_true] at hr
      refine ⟨fun hn => ?_, fun hn => ?_⟩
      · have hn' : (inA ls i != 1) = true := hn
        rw [hn', cond_true, cond_false] at hr; exact hr
      · have hn' : (inA ls i != 1) = false := hn
        rw [hn', cond_false] at hr
        exact ⟨⟨h0, h1, by omega, by omega, h4, hr⟩, lxp_⟩
    · have hc' : binned ⟨t, p, sh⟩ xs i k = false := hc
      rw [hc', cond_false] at hr
      refine ⟨fun hn => ?_, fun hn => ?_⟩
      · have hn' : (inA ls i != 0) = true := hn
        rw [hn', cond_true, cond_false] at hr; exact hr
      · have hn' : (inA ls i != 0) = false := hn
        rw [hn', cond_false] at hr
        exact ⟨⟨h0, h1, by omega, by omega, h4, hr⟩, lxp_⟩
  · simp only [decide_eq_false_iff_not] at h
    rw [show (p - i).toNat = 0 by omega] at hr
    simp only [onceF, cond_true] at hr
    rw [w64 (n := k + 1) (by omega)]
    refine ⟨⟨by omega, by omega, ?_⟩, lxp_⟩
    rw [show (11 - (k + 1)).toNat = (10 - k).toNat by omega]; exact hr
theorem x_bins_ok : EntryOk Dg Tryz.prog 94 e_x_bins :=
  ent_wp Dg T_x_counts_ok (I := [103000000003, 103000000001, 8549000000006, 8549000000004, 8549000000003, 8549000000001]) Tryz.func94 mix (B := bodyOf Tryz.f94) (by kernel_rfl) rfl (by kernel_rfl) 400
    fun p0 t p sh xs hb hp => have hl0 : xs.length ≤ 9223372036854775807 := hb.1.2.2.2.1; have hp0 : AGood ⟨t, p, sh⟩ xs := hp _ (.head _); ⟨[⟨none, [0,1,0,1], [.blk 0, .code [1,1]], [3, 1], [.i .i64, .box 29 [.ic .i64 (t), .ic .i64 (p), .ic .i64 (sh), .roc [.ints .u32 (xs)]]]⟩, ⟨none, [0,1,1,1,0,0,1,0,0,1,0,1], [.blk 2, .blk 1, .code [1,1,0,0,1,0,1], .again [0,1,0,1], .blk 0, .code [1,1]], [6, 4, 3, 1], [.i .i64, .own 3 [some .i64], .i .i64, .box 29 [.ic .i64 (t), .ic .i64 (p), .ic .i64 (sh), .roc [.ints .u32 (xs)]]]⟩], fun j => List.getD [appC (Hd.kd (⟨none, [0,1,0,1], [.blk 0, .code [1,1]], [3, 1], [.i .i64, .box 29 [.ic .i64 (t), .ic .i64 (p), .ic .i64 (sh), .roc [.ints .u32 (xs)]]]⟩ : Hd Sg)) (fun k' => x_bins_I0 t p sh xs k' (x_bins t p sh xs)), appC (Hd.kd (⟨none, [0,1,1,1,0,0,1,0,0,1,0,1], [.blk 2, .blk 1, .code [1,1,0,0,1,0,1], .again [0,1,0,1], .blk 0, .code [1,1]], [6, 4, 3, 1], [.i .i64, .own 3 [some .i64], .i .i64, .box 29 [.ic .i64 (t), .ic .i64 (p), .ic .i64 (sh), .roc [.ints .u32 (xs)]]]⟩ : Hd Sg)) (fun i' n1' ls' k' => x_bins_I1 t p sh xs i' n1' ls' k' (x_bins t p sh xs))] j (fun _ => False), fun j => List.getD [appC (Hd.kd (⟨none, [0,1,0,1], [.blk 0, .code [1,1]], [3, 1], [.i .i64, .box 29 [.ic .i64 (t), .ic .i64 (p), .ic .i64 (sh), .roc [.ints .u32 (xs)]]]⟩ : Hd Sg)) (fun k' => ((11 - k').toNat, p.toNat + 1, 0)), appC (Hd.kd (⟨none, [0,1,1,1,0,0,1,0,0,1,0,1], [.blk 2, .blk 1, .code [1,1,0,0,1,0,1], .again [0,1,0,1], .blk 0, .code [1,1]], [6, 4, 3, 1], [.i .i64, .own 3 [some .i64], .i .i64, .box 29 [.ic .i64 (t), .ic .i64 (p), .ic .i64 (sh), .roc [.ints .u32 (xs)]]]⟩ : Hd Sg)) (fun i' n1' ls' k' => ((11 - k').toNat, (p - i').toNat, 0))] j (fun _ => (0, 0, 0)), by kernel_rfl, ⟨x_bins_w t p sh xs (fun k' => x_bins_I0 t p sh xs k' (x_bins t p sh xs)) (fun i' n1' ls' k' => x_bins_I1 t p sh xs i' n1' ls' k' (x_bins t p sh xs)) (fun r__ => r__ = (x_bins t p sh xs)), fun _ _ _ => by kernel_rfl, x_bins_begin t p sh xs hp0 hl0 ⟩, ⟨fun k hI => ⟨x_bins_w0 t p sh xs k (fun k' => x_bins_I0 t p sh xs k' (x_bins t p sh xs) ∧ lx ((11 - k').toNat, p.toNat + 1, 0) ((11 - k).toNat, p.toNat + 1, 0)) (fun i' n1' ls' k' => x_bins_I1 t p sh xs i' n1' ls' k' (x_bins t p sh xs) ∧ lx ((11 - k').toNat, (p - i').toNat, 0) ((11 - k).toNat, p.toNat + 1, 0)) (fun r__ => r__ = (x_bins t p sh xs)), fun _ _ _ => by kernel_rfl, x_bins_step0 t p sh xs hp0 hl0 k hI⟩, ⟨fun i n1 ls k hI => ⟨x_bins_w1 t p sh xs i n1 ls k (fun k' => x_bins_I0 t p sh xs k' (x_bins t p sh xs) ∧ lx ((11 - k').toNat, p.toNat + 1, 0) ((11 - k).toNat, (p - i).toNat, 0)) (fun i' n1' ls' k' => x_bins_I1 t p sh xs i' n1' ls' k' (x_bins t p sh xs) ∧ lx ((11 - k').toNat, (p - i').toNat, 0) ((11 - k).toNat, (p - i).toNat, 0)) (fun r__ => r__ = (x_bins t p sh xs)), fun _ _ _ => by kernel_rfl, x_bins_step1 t p sh xs hp0 hl0 i n1 ls k hI⟩, trivial⟩⟩⟩
def T_x_bins : List (Nat × Entry Sg) := (94, e_x_bins) :: T_x_counts
theorem T_x_bins_ok : TableOk Dg Tryz.prog T_x_bins := TableOk.cons Dg x_bins_ok T_x_counts_ok
def x_racks (t : Int) (p : Int) (sh : Int) (xs : List Int) : Bool := racks ⟨t, p, sh⟩ xs
abbrev c_x_racks : Ct Sg := ⟨none, false, [.agg [.i .i64, .i .i64, .i .i64, .ro [some .u32]]], .b⟩
def e_x_racks : Entry Sg := entC c_x_racks x_racks (fun t p sh xs => [AGood ⟨t, p, sh⟩ xs])
def x_racks_w (t : Int) (p : Int) (sh : Int) (xs : List Int) (Q0 : Int → Prop) (Q1 : Int → Nat → List Int → Int → Prop) (R_ : Bool → Prop) : Prop := (Q0 ((0 : Int)))
def x_racks_w0 (t : Int) (p : Int) (sh : Int) (xs : List Int) (k : Int) (Q0 : Int → Prop) (Q1 : Int → Nat → List Int → Int → Prop) (R_ : Bool → Prop) : Prop := (((decide (k < (9 : Int))) = true → (∀ r1 : Int, r1 = (r07_Rack k) → (∀ r2 : List Int × Bool, r2 = (x_List t p sh xs r1) → ((AGood { t := t, p := p, s := sh } xs) ∧ ((AGood { t := t, p := p, s := sh } xs) → (((0 : Int) ≤ r1 ∧ r1 < (↑(List.length xs) : Int)) ∧ (((0 : Int) ≤ r1 ∧ r1 < (↑(List.length xs) : Int)) → (((!Prod.snd r2) = true → (R_ (false))) ∧ ((!Prod.snd r2) = false → (Q1 ((0 : Int)) (List.length (Prod.fst r2)) (Prod.fst r2) (k))))))))))) ∧ ((decide (k < (9 : Int))) = false → (R_ (true))))
def x_racks_I0 (t : Int) (p : Int) (sh : Int) (xs : List Int) (k : Int) (r_ : Bool) : Prop := 0 ≤ k ∧ k ≤ 9 ∧ racksF ⟨t, p, sh⟩ xs (9 - k).toNat = r_
def x_racks_w1 (t : Int) (p : Int) (sh : Int) (xs : List Int) (i : Int) (n1 : Nat) (ls : List Int) (k : Int) (Q0 : Int → Prop) (Q1 : Int → Nat → List Int → Int → Prop) (R_ : Bool → Prop) : Prop := (((decide (i < p)) = true → ((AGood { t := t, p := p, s := sh } xs) ∧ ((AGood { t := t, p := p, s := sh } xs) → (((0 : Int) ≤ i ∧ i < p) ∧ (((0 : Int) ≤ i ∧ i < p) → (((x_racked t p sh xs i k) = true → (((r12_in ls i != (1 : Int)) = true → (R_ (false))) ∧ ((r12_in ls i != (1 : Int)) = false → (Q1 (IntKind.wrap IntKind.i64 (i + (1 : Int))) (n1) (ls) (k))))) ∧ ((x_racked t p sh xs i k) = false → (((r12_in ls i != (0 : Int)) = true → (R_ (false))) ∧ ((r12_in ls i != (0 : Int)) = false → (Q1 (IntKind.wrap IntKind.i64 (i + (1 : Int))) (n1) (ls) (k))))))))))) ∧ ((decide (i < p)) = false → (Q0 (IntKind.wrap IntKind.i64 (k + (1 : Int))))))
def x_racks_I1 (t : Int) (p : Int) (sh : Int) (xs : List Int) (i : Int) (n1 : Nat) (ls : List Int) (k : Int) (r_ : Bool) : Prop := 0 ≤ k ∧ k < 9 ∧ 0 ≤ i ∧ i ≤ p ∧ n1 = ls.length ∧ (bif onceF ⟨t, p, sh⟩ ls (fun g => racked ⟨t, p, sh⟩ xs g k) (p - i).toNat then racksF ⟨t, p, sh⟩ xs (8 - k).toNat else false) = r_
theorem x_racks_begin (t : Int) (p : Int) (sh : Int) (xs : List Int) (hp0 : AGood ⟨t, p, sh⟩ xs) (hl0 : xs.length ≤ 9223372036854775807) : x_racks_w t p sh xs (fun k' => x_racks_I0 t p sh xs k' (x_racks t p sh xs)) (fun i' n1' ls' k' => x_racks_I1 t p sh xs i' n1' ls' k' (x_racks t p sh xs)) (fun r__ => r__ = (x_racks t p sh xs)) := by
  unfold x_racks_w
  try unfold x_racks_I0
  try unfold x_racks_I1
  exact ⟨by omega, by omega, rfl⟩
theorem x_racks_step0 (t : Int) (p : Int) (sh : Int) (xs : List Int) (hp0 : AGood ⟨t, p, sh⟩ xs) (hl0 : xs.length ≤ 9223372036854775807) (k : Int) {r_ : Bool} (hI : x_racks_I0 t p sh xs k r_) : x_racks_w0 t p sh xs k (fun k' => x_racks_I0 t p sh xs k' r_ ∧ lx ((9 - k').toNat, p.toNat + 1, 0) ((9 - k).toNat, p.toNat + 1, 0)) (fun i' n1' ls' k' => x_racks_I1 t p sh xs i' n1' ls' k' r_ ∧ lx ((9 - k').toNat, (p - i').toNat, 0) ((9 - k).toNat, p.toNat + 1, 0)) (fun r__ => r__ = r_) := by
  unfold x_racks_I0 at hI
  unfold x_racks_w0
  try unfold x_racks_I0
  try unfold x_racks_I1
  obtain ⟨h0, h1, hr⟩ := hI
  have hok := Cf.ok_iff.1 hp0.ok
  simp only at hok
  refine ⟨fun h => ?_, fun h => ?_⟩
  · simp only [decide_eq_true_eq] at h
    have e : (9 - k).toNat = (8 - k).toNat + 1 := by omega
    have ek : (9 : Int) - (((8 - k).toNat + 1 : Nat) : Int) = k := by omega
    rw [e] at hr
    simp only [racksF] at hr
    rw [ek] at hr
    have hb := rack_in hp0 (k := k) ⟨h0, h⟩
    rintro r1 rfl r2 rfl
    rw [r07_Rack_eq]
    refine ⟨hp0, fun _ => ⟨hb, fun _ => ⟨fun hc => ?_, fun hc => ?_⟩⟩⟩
    · have hc' : (listA ⟨t, p, sh⟩ xs (cRack k)).2 = false := by simpa [x_List] using hc
      rw [hc', cond_false] at hr; exact hr
    · have hc' : (listA ⟨t, p, sh⟩ xs (cRack k)).2 = true := by simpa [x_List] using hc
      rw [hc', cond_true] at hr
      refine ⟨⟨h0, h, by omega, by omega, rfl, ?_⟩, lxp_⟩
      rw [show (p - 0).toNat = p.toNat by omega]; exact hr
  · simp only [decide_eq_false_iff_not] at h
    rw [show (9 - k).toNat = 0 by omega] at hr
    exact hr
theorem x_racks_step1 (t : Int) (p : Int) (sh : Int) (xs : List Int) (hp0 : AGood ⟨t, p, sh⟩ xs) (hl0 : xs.length ≤ 9223372036854775807) (i : Int) (n1 : Nat) (ls : List Int) (k : Int) {r_ : Bool} (hI : x_racks_I1 t p sh xs i n1 ls k r_) : x_racks_w1 t p sh xs i n1 ls k (fun k' => x_racks_I0 t p sh xs k' r_ ∧ lx ((9 - k').toNat, p.toNat + 1, 0) ((9 - k).toNat, (p - i).toNat, 0)) (fun i' n1' ls' k' => x_racks_I1 t p sh xs i' n1' ls' k' r_ ∧ lx ((9 - k').toNat, (p - i').toNat, 0) ((9 - k).toNat, (p - i).toNat, 0)) (fun r__ => r__ = r_) := by
  unfold x_racks_I1 at hI
  unfold x_racks_w1
  try unfold x_racks_I0
  try unfold x_racks_I1
  obtain ⟨h0, h1, h2, h3, h4, hr⟩ := hI
  have hok := Cf.ok_iff.1 hp0.ok
  simp only at hok
  refine ⟨fun h => ?_, fun h => ?_⟩
  · simp only [decide_eq_true_eq] at h
    have hg : 0 ≤ i ∧ i < p := ⟨h2, h⟩
    have e : (p - i).toNat = (p - (i + 1)).toNat + 1 := by omega
    have ei : (p : Int) - (((p - (i + 1)).toNat + 1 : Nat) : Int) = i := by omega
    rw [e] at hr
    simp only [onceF] at hr
    rw [ei] at hr
    rw [w64 (n := i + 1) (by omega)]
    refine ⟨hp0, fun _ => ⟨hg, fun _ => ⟨fun hc => ?_, fun hc => ?_⟩⟩⟩
    · have hc' : racked ⟨t, p, sh⟩ xs i k = true := hc
      rw [hc', cond_true] at hr
      refine ⟨fun hn => ?_, fun hn => ?_⟩
      · have hn' : (inA ls i != 1) = true := hn
        rw [hn', cond_true, cond_false] at hr; exact hr
      · have hn' : (inA ls i != 1) = false := hn
        rw [hn', cond_false] at hr
        exact ⟨⟨h0, h1, by omega, by omega, h4, hr⟩, lxp_⟩
    · have hc' : racked ⟨t, p, sh⟩ xs i k = false := hc
      rw [hc', cond_false] at hr
      refine ⟨fun hn => ?_, fun hn => ?_⟩
      · have hn' : (inA ls i != 0) = true := hn
        rw [hn', cond_true, cond_false] at hr; exact hr
      · have hn' : (inA ls i != 0) = false := hn
        rw [hn', cond_false] at hr
        exact ⟨⟨h0, h1, by omega, by omega, h4, hr⟩, lxp_⟩
  · simp only [decide_eq_false_iff_not] at h
    rw [show (p - i).toNat = 0 by omega] at hr
    simp only [onceF, cond_true] at hr
    rw [w64 (n := k + 1) (by omega)]
    refine ⟨⟨by omega, by omega, ?_⟩, lxp_⟩
    rw [show (9 - (k + 1)).toNat = (8 - k).toNat by omega]; exact hr
theorem x_racks_ok : EntryOk Dg Tryz.prog 95 e_x_racks :=
  ent_wp Dg T_x_bins_ok (I := [103000000003, 103000000001, 8549000000006, 8549000000004, 8549000000003, 8549000000001]) Tryz.func95 mix (B := bodyOf Tryz.f95) (by kernel_rfl) rfl (by kernel_rfl) 400
    fun p0 t p sh xs hb hp => have hl0 : xs.length ≤ 9223372036854775807 := hb.1.2.2.2.1; have hp0 : AGood ⟨t, p, sh⟩ xs := hp _ (.head _); ⟨[⟨none, [0,1,0,1], [.blk 0, .code [1,1]], [3, 1], [.i .i64, .box 29 [.ic .i64 (t), .ic .i64 (p), .ic .i64 (sh), .roc [.ints .u32 (xs)]]]⟩, ⟨none, [0,1,1,1,0,0,1,0,0,1,0,1], [.blk 2, .blk 1, .code [1,1,0,0,1,0,1], .again [0,1,0,1], .blk 0, .code [1,1]], [6, 4, 3, 1], [.i .i64, .own 3 [some .i64], .i .i64, .box 29 [.ic .i64 (t), .ic .i64 (p), .ic .i64 (sh), .roc [.ints .u32 (xs)]]]⟩], fun j => List.getD [appC (Hd.kd (⟨none, [0,1,0,1], [.blk 0, .code [1,1]], [3, 1], [.i .i64, .box 29 [.ic .i64 (t), .ic .i64 (p), .ic .i64 (sh), .roc [.ints .u32 (xs)]]]⟩ : Hd Sg)) (fun k' => x_racks_I0 t p sh xs k' (x_racks t p sh xs)), appC (Hd.kd (⟨none, [0,1,1,1,0,0,1,0,0,1,0,1], [.blk 2, .blk 1, .code [1,1,0,0,1,0,1], .again [0,1,0,1], .blk 0, .code [1,1]], [6, 4, 3, 1], [.i .i64, .own 3 [some .i64], .i .i64, .box 29 [.ic .i64 (t), .ic .i64 (p), .ic .i64 (sh), .roc [.ints .u32 (xs)]]]⟩ : Hd Sg)) (fun i' n1' ls' k' => x_racks_I1 t p sh xs i' n1' ls' k' (x_racks t p sh xs))] j (fun _ => False), fun j => List.getD [appC (Hd.kd (⟨none, [0,1,0,1], [.blk 0, .code [1,1]], [3, 1], [.i .i64, .box 29 [.ic .i64 (t), .ic .i64 (p), .ic .i64 (sh), .roc [.ints .u32 (xs)]]]⟩ : Hd Sg)) (fun k' => ((9 - k').toNat, p.toNat + 1, 0)), appC (Hd.kd (⟨none, [0,1,1,1,0,0,1,0,0,1,0,1], [.blk 2, .blk 1, .code [1,1,0,0,1,0,1], .again [0,1,0,1], .blk 0, .code [1,1]], [6, 4, 3, 1], [.i .i64, .own 3 [some .i64], .i .i64, .box 29 [.ic .i64 (t), .ic .i64 (p), .ic .i64 (sh), .roc [.ints .u32 (xs)]]]⟩ : Hd Sg)) (fun i' n1' ls' k' => ((9 - k').toNat, (p - i').toNat, 0))] j (fun _ => (0, 0, 0)), by kernel_rfl, ⟨x_racks_w t p sh xs (fun k' => x_racks_I0 t p sh xs k' (x_racks t p sh xs)) (fun i' n1' ls' k' => x_racks_I1 t p sh xs i' n1' ls' k' (x_racks t p sh xs)) (fun r__ => r__ = (x_racks t p sh xs)), fun _ _ _ => by kernel_rfl, x_racks_begin t p sh xs hp0 hl0 ⟩, ⟨fun k hI => ⟨x_racks_w0 t p sh xs k (fun k' => x_racks_I0 t p sh xs k' (x_racks t p sh xs) ∧ lx ((9 - k').toNat, p.toNat + 1, 0) ((9 - k).toNat, p.toNat + 1, 0)) (fun i' n1' ls' k' => x_racks_I1 t p sh xs i' n1' ls' k' (x_racks t p sh xs) ∧ lx ((9 - k').toNat, (p - i').toNat, 0) ((9 - k).toNat, p.toNat + 1, 0)) (fun r__ => r__ = (x_racks t p sh xs)), fun _ _ _ => by kernel_rfl, x_racks_step0 t p sh xs hp0 hl0 k hI⟩, ⟨fun i n1 ls k hI => ⟨x_racks_w1 t p sh xs i n1 ls k (fun k' => x_racks_I0 t p sh xs k' (x_racks t p sh xs) ∧ lx ((9 - k').toNat, p.toNat + 1, 0) ((9 - k).toNat, (p - i).toNat, 0)) (fun i' n1' ls' k' => x_racks_I1 t p sh xs i' n1' ls' k' (x_racks t p sh xs) ∧ lx ((9 - k').toNat, (p - i').toNat, 0) ((9 - k).toNat, (p - i).toNat, 0)) (fun r__ => r__ = (x_racks t p sh xs)), fun _ _ _ => by kernel_rfl, x_racks_step1 t p sh xs hp0 hl0 i n1 ls k hI⟩, trivial⟩⟩⟩
def T_x_racks : List (Nat × Entry Sg) := (95, e_x_racks) :: T_x_bins
theorem T_x_racks_ok : TableOk Dg Tryz.prog T_x_racks := TableOk.cons Dg x_racks_ok T_x_bins_ok
end Go.Proofs.YtajcpopikdpcmaaGreat
namespace Go.Proofs.YtajcpopikdpcmaaGreat
open Go.Sl
def x_slots (t : Int) (p : Int) (sh : Int) (xs : List Int) : Bool := slotsOk ⟨t, p, sh⟩ xs
abbrev c_x_slots : Ct Sg := ⟨none, false, [.agg [.i .i64, .i .i64, .i .i64, .ro [some .u32]]], .b⟩
def e_x_slots : Entry Sg := entC c_x_slots x_slots (fun t p sh xs => [AGood ⟨t, p, sh⟩ xs])
def x_slots_w (t : Int) (p : Int) (sh : Int) (xs : List Int) (Q0 : Int → Prop) (Q1 : Int → Int → Int → Int → Int → Prop) (R_ : Bool → Prop) : Prop := (Q0 ((0 : Int)))
def x_slots_w0 (t : Int) (p : Int) (sh : Int) (xs : List Int) (g : Int) (Q0 : Int → Prop) (Q1 : Int → Int → Int → Int → Int → Prop) (R_ : Bool → Prop) : Prop := (((decide (g < p)) = true → ((AGood { t := t, p := p, s := sh } xs) ∧ ((AGood { t := t, p := p, s := sh } xs) → (((0 : Int) ≤ g ∧ g < p) ∧ (((0 : Int) ≤ g ∧ g < p) → (Q1 ((0 : Int)) (Prod.fst (If.k (aInfo { t := t, p := p, s := sh } xs g), If.l (aInfo { t := t, p := p, s := sh } xs g), If.c (aInfo { t := t, p := p, s := sh } xs g))) (If.l (aInfo { t := t, p := p, s := sh } xs g)) (If.c (aInfo { t := t, p := p, s := sh } xs g)) (g))))))) ∧ ((decide (g < p)) = false → (R_ (true))))
def x_slots_I0 (t : Int) (p : Int) (sh : Int) (xs : List Int) (g : Int) (r_ : Bool) : Prop := 0 ≤ g ∧ g ≤ p ∧ slotsF ⟨t, p, sh⟩ xs (p - g).toNat = r_
def x_slots_w1 (t : Int) (p : Int) (sh : Int) (xs : List Int) (j : Int) (ik : Int) (il : Int) (ic : Int) (g : Int) (Q0 : Int → Prop) (Q1 : Int → Int → Int → Int → Int → Prop) (R_ : Bool → Prop) : Prop := (((decide (j < (32 : Int))) = true → ((AGood { t := t, p := p, s := sh } xs) ∧ ((AGood { t := t, p := p, s := sh } xs) → (((0 : Int) ≤ g ∧ g < p) ∧ (((0 : Int) ≤ g ∧ g < p) → ((AGood { t := t, p := p, s := sh } xs) ∧ ((AGood { t := t, p := p, s := sh } xs) → (((0 : Int) ≤ g ∧ g < p) ∧ (((0 : Int) ≤ g ∧ g < p) → (((r01_Bit (x_Slots t p sh xs g) j && !r01_Bit (x_Taken t p sh xs g) j || r01_Bit (x_Taken t p sh xs g) j && (ik != (3 : Int) || decide (j ≥ r05_Slots ic))) = true → (R_ (false))) ∧ ((r01_Bit (x_Slots t p sh xs g) j && !r01_Bit (x_Taken t p sh xs g) j || r01_Bit (x_Taken t p sh xs g) j && (ik != (3 : Int) || decide (j ≥ r05_Slots ic))) = false → (Q1 (IntKind.wrap IntKind.i64 (j + (1 : Int))) (ik) (il) (ic) (g))))))))))))) ∧ ((decide (j < (32 : Int))) = false → (((ik == (3 : Int)) = true → AGood { t := t, p := p, s := sh } xs) ∧ (((ik == (3 : Int)) = true → AGood { t := t, p := p, s := sh } xs) → (((ik == (3 : Int)) = true → (0 : Int) ≤ g ∧ g < p) ∧ (((ik == (3 : Int)) = true → (0 : Int) ≤ g ∧ g < p) → (((ik == (3 : Int) && x_Taken t p sh xs g == (0 : Int)) = true → (R_ (false))) ∧ ((ik == (3 : Int) && x_Taken t p sh xs g == (0 : Int)) = false → (Q0 (IntKind.wrap IntKind.i64 (g + (1 : Int))))))))))))
def x_slots_I1 (t : Int) (p : Int) (sh : Int) (xs : List Int) (j : Int) (ik : Int) (il : Int) (ic : Int) (g : Int) (r_ : Bool) : Prop := 0 ≤ g ∧ g < p ∧ 0 ≤ j ∧ j ≤ 32 ∧ ik = (aInfo ⟨t, p, sh⟩ xs g).k ∧ ic = (aInfo ⟨t, p, sh⟩ xs g).c ∧ (bif slotsB ⟨t, p, sh⟩ xs g (aInfo ⟨t, p, sh⟩ xs g) (32 - j).toNat then (bif (aInfo ⟨t, p, sh⟩ xs g).k == 3 && cel xs (Cf.taken ⟨t, p, sh⟩ g) == 0 then false else slotsF ⟨t, p, sh⟩ xs (p - (g + 1)).toNat) else false) = r_
theorem x_slots_begin (t : Int) (p : Int) (sh : Int) (xs : List Int) (hp0 : AGood ⟨t, p, sh⟩ xs) (hl0 : xs.length ≤ 9223372036854775807) : x_slots_w t p sh xs (fun g' => x_slots_I0 t p sh xs g' (x_slots t p sh xs)) (fun j' ik' il' ic' g' => x_slots_I1 t p sh xs j' ik' il' ic' g' (x_slots t p sh xs)) (fun r__ => r__ = (x_slots t p sh xs)) := by
  unfold x_slots_w
  try unfold x_slots_I0
  try unfold x_slots_I1
  have hok := Cf.ok_iff.1 hp0.ok
  simp only at hok
  refine ⟨by omega, by omega, ?_⟩
  show _ = slotsOk ⟨t, p, sh⟩ xs
  unfold slotsOk
  rw [show (p - 0).toNat = p.toNat by omega]
theorem x_slots_step0 (t : Int) (p : Int) (sh : Int) (xs : List Int) (hp0 : AGood ⟨t, p, sh⟩ xs) (hl0 : xs.length ≤ 9223372036854775807) (g : Int) {r_ : Bool} (hI : x_slots_I0 t p sh xs g r_) : x_slots_w0 t p sh xs g (fun g' => x_slots_I0 t p sh xs g' r_ ∧ lx ((p - g').toNat, 33, 0) ((p - g).toNat, 33, 0)) (fun j' ik' il' ic' g' => x_slots_I1 t p sh xs j' ik' il' ic' g' r_ ∧ lx ((p - g').toNat, (32 - j').toNat, 0) ((p - g).toNat, 33, 0)) (fun r__ => r__ = r_) := by
  unfold x_slots_I0 at hI
  unfold x_slots_w0
  try unfold x_slots_I0
  try unfold x_slots_I1
  obtain ⟨h0, h1, hr⟩ := hI
  refine ⟨fun h => ?_, fun h => ?_⟩
  · simp only [decide_eq_true_eq] at h
    have e : (p - g).toNat = (p - (g + 1)).toNat + 1 := by omega
    have ei : (p : Int) - (((p - (g + 1)).toNat + 1 : Nat) : Int) = g := by omega
    rw [e] at hr
    simp only [slotsF] at hr
    rw [ei] at hr
    exact ⟨hp0, fun _ => ⟨⟨h0, h⟩, fun _ => ⟨⟨h0, h, by omega, by omega, rfl, rfl, hr⟩, lxp_⟩⟩⟩
  · simp only [decide_eq_false_iff_not] at h
    rw [show (p - g).toNat = 0 by omega] at hr
    exact hr
theorem x_slots_step1 (t : Int) (p : Int) (sh : Int) (xs : List Int) (hp0 : AGood ⟨t, p, sh⟩ xs) (hl0 : xs.length ≤ 9223372036854775807) (j : Int) (ik : Int) (il : Int) (ic : Int) (g : Int) {r_ : Bool} (hI : x_slots_I1 t p sh xs j ik il ic g r_) : x_slots_w1 t p sh xs j ik il ic g (fun g' => x_slots_I0 t p sh xs g' r_ ∧ lx ((p - g').toNat, 33, 0) ((p - g).toNat, (32 - j).toNat, 0)) (fun j' ik' il' ic' g' => x_slots_I1 t p sh xs j' ik' il' ic' g' r_ ∧ lx ((p - g').toNat, (32 - j').toNat, 0) ((p - g).toNat, (32 - j).toNat, 0)) (fun r__ => r__ = r_) := by
  unfold x_slots_I1 at hI
  unfold x_slots_w1
  try unfold x_slots_I0
  try unfold x_slots_I1
  obtain ⟨h0, h1, h2, h3, rfl, rfl, hr⟩ := hI
  have hok := Cf.ok_iff.1 hp0.ok
  simp only at hok
  have hbs := cel_bd hp0 (Cf.slots ⟨t, p, sh⟩ g)
  have hbt := cel_bd hp0 (Cf.taken ⟨t, p, sh⟩ g)
  have hg : 0 ≤ g ∧ g < p := ⟨h0, h1⟩
  refine ⟨fun h => ?_, fun h => ?_⟩
  · simp only [decide_eq_true_eq] at h
    have e : (32 - j).toNat = (32 - (j + 1)).toNat + 1 := by omega
    have ej : (32 : Int) - (((32 - (j + 1)).toNat + 1 : Nat) : Int) = j := by omega
    rw [e] at hr
    simp only [slotsB] at hr
    rw [ej] at hr
    have hb1 : r01_Bit (x_Slots t p sh xs g) j = bitAt (cel xs (Cf.slots ⟨t, p, sh⟩ g)) j := bit_eq hbs j
    have hb2 : r01_Bit (x_Taken t p sh xs g) j = bitAt (cel xs (Cf.taken ⟨t, p, sh⟩ g)) j := bit_eq hbt j
    rw [w64 (n := j + 1) (by omega), hb1, hb2, r05_Slots_eq]
    refine ⟨hp0, fun _ => ⟨hg, fun _ => ⟨hp0, fun _ => ⟨hg, fun _ => ⟨fun hc => ?_, fun hc => ?_⟩⟩⟩⟩⟩
    · rw [hc, cond_true, cond_false] at hr; exact hr
    · rw [hc, cond_false] at hr
      exact ⟨⟨h0, h1, by omega, by omega, rfl, rfl, hr⟩, lxp_⟩
  · simp only [decide_eq_false_iff_not] at h
    rw [show (32 - j).toNat = 0 by omega] at hr
    simp only [slotsB, cond_true] at hr
    rw [w64 (n := g + 1) (by omega)]
    refine ⟨fun _ => hp0, fun _ => ⟨fun _ => hg, fun _ => ⟨fun hc => ?_, fun hc => ?_⟩⟩⟩
    · have hc' : ((aInfo ⟨t, p, sh⟩ xs g).k == 3 && cel xs (Cf.taken ⟨t, p, sh⟩ g) == 0) = true := hc
      rw [hc', cond_true] at hr; exact hr
    · have hc' : ((aInfo ⟨t, p, sh⟩ xs g).k == 3 && cel xs (Cf.taken ⟨t, p, sh⟩ g) == 0) = false := hc
      rw [hc', cond_false] at hr
      exact ⟨⟨by omega, by omega, hr⟩, lxp_⟩
theorem x_slots_ok : EntryOk Dg Tryz.prog 93 e_x_slots :=
  ent_wp Dg T_x_racks_ok (I := [103000000003, 103000000001, 5703000000005, 5703000000004, 5703000000003, 5703000000001]) Tryz.func93 mix (B := bodyOf Tryz.f93) (by kernel_rfl) rfl (by kernel_rfl) 400
    fun p0 t p sh xs hb hp => have hl0 : xs.length ≤ 9223372036854775807 := hb.1.2.2.2.1; have hp0 : AGood ⟨t, p, sh⟩ xs := hp _ (.head _); ⟨[⟨none, [0,1,0,1], [.blk 0, .code [1,1]], [3, 1], [.i .i64, .box 29 [.ic .i64 (t), .ic .i64 (p), .ic .i64 (sh), .roc [.ints .u32 (xs)]]]⟩, ⟨none, [0,1,0,1,0,0,1,0,0,1,0,1], [.blk 2, .code [1,1,0,0,1,0,0,1,0,1], .blk 1, .code [1,1,0,0,1,0,1], .again [0,1,0,1], .blk 0, .code [1,1]], [5, 4, 3, 1], [.i .i64, .box 31 [.i .i64, .i .i64, .i .i64], .i .i64, .box 29 [.ic .i64 (t), .ic .i64 (p), .ic .i64 (sh), .roc [.ints .u32 (xs)]]]⟩], fun j => List.getD [appC (Hd.kd (⟨none, [0,1,0,1], [.blk 0, .code [1,1]], [3, 1], [.i .i64, .box 29 [.ic .i64 (t), .ic .i64 (p), .ic .i64 (sh), .roc [.ints .u32 (xs)]]]⟩ : Hd Sg)) (fun g' => x_slots_I0 t p sh xs g' (x_slots t p sh xs)), appC (Hd.kd (⟨none, [0,1,0,1,0,0,1,0,0,1,0,1], [.blk 2, .code [1,1,0,0,1,0,0,1,0,1], .blk 1, .code [1,1,0,0,1,0,1], .again [0,1,0,1], .blk 0, .code [1,1]], [5, 4, 3, 1], [.i .i64, .box 31 [.i .i64, .i .i64, .i .i64], .i .i64, .box 29 [.ic .i64 (t), .ic .i64 (p), .ic .i64 (sh), .roc [.ints .u32 (xs)]]]⟩ : Hd Sg)) (fun j' ik' il' ic' g' => x_slots_I1 t p sh xs j' ik' il' ic' g' (x_slots t p sh xs))] j (fun _ => False), fun j => List.getD [appC (Hd.kd (⟨none, [0,1,0,1], [.blk 0, .code [1,1]], [3, 1], [.i .i64, .box 29 [.ic .i64 (t), .ic .i64 (p), .ic .i64 (sh), .roc [.ints .u32 (xs)]]]⟩ : Hd Sg)) (fun g' => ((p - g').toNat, 33, 0)), appC (Hd.kd (⟨none, [0,1,0,1,0,0,1,0,0,1,0,1], [.blk 2, .code [1,1,0,0,1,0,0,1,0,1], .blk 1, .code [1,1,0,0,1,0,1], .again [0,1,0,1], .blk 0, .code [1,1]], [5, 4, 3, 1], [.i .i64, .box 31 [.i .i64, .i .i64, .i .i64], .i .i64, .box 29 [.ic .i64 (t), .ic .i64 (p), .ic .i64 (sh), .roc [.ints .u32 (xs)]]]⟩ : Hd Sg)) (fun j' ik' il' ic' g' => ((p - g').toNat, (32 - j').toNat, 0))] j (fun _ => (0, 0, 0)), by kernel_rfl, ⟨x_slots_w t p sh xs (fun g' => x_slots_I0 t p sh xs g' (x_slots t p sh xs)) (fun j' ik' il' ic' g' => x_slots_I1 t p sh xs j' ik' il' ic' g' (x_slots t p sh xs)) (fun r__ => r__ = (x_slots t p sh xs)), fun _ _ _ => by kernel_rfl, x_slots_begin t p sh xs hp0 hl0 ⟩, ⟨fun g hI => ⟨x_slots_w0 t p sh xs g (fun g' => x_slots_I0 t p sh xs g' (x_slots t p sh xs) ∧ lx ((p - g').toNat, 33, 0) ((p - g).toNat, 33, 0)) (fun j' ik' il' ic' g' => x_slots_I1 t p sh xs j' ik' il' ic' g' (x_slots t p sh xs) ∧ lx ((p - g').toNat, (32 - j').toNat, 0) ((p - g).toNat, 33, 0)) (fun r__ => r__ = (x_slots t p sh xs)), fun _ _ _ => by kernel_rfl, x_slots_step0 t p sh xs hp0 hl0 g hI⟩, ⟨fun j ik il ic g hI => ⟨x_slots_w1 t p sh xs j ik il ic g (fun g' => x_slots_I0 t p sh xs g' (x_slots t p sh xs) ∧ lx ((p - g').toNat, 33, 0) ((p - g).toNat, (32 - j).toNat, 0)) (fun j' ik' il' ic' g' => x_slots_I1 t p sh xs j' ik' il' ic' g' (x_slots t p sh xs) ∧ lx ((p - g').toNat, (32 - j').toNat, 0) ((p - g).toNat, (32 - j).toNat, 0)) (fun r__ => r__ = (x_slots t p sh xs)), fun _ _ _ => by kernel_rfl, x_slots_step1 t p sh xs hp0 hl0 j ik il ic g hI⟩, trivial⟩⟩⟩
def T_x_slots : List (Nat × Entry Sg) := (93, e_x_slots) :: T_x_racks
theorem T_x_slots_ok : TableOk Dg Tryz.prog T_x_slots := TableOk.cons Dg x_slots_ok T_x_racks_ok
end Go.Proofs.YtajcpopikdpcmaaGreat
namespace Go.Proofs.YtajcpopikdpcmaaGreat
open Go.Sl
def r12_Has (ls : List Int) (zs : List Int) (g : Int) : Bool := ls.contains g
abbrev c_r12_Has : Ct Sg := ⟨none, false, [.ro [some .i64, some .i64], .i .i64], .b⟩
def e_r12_Has : Entry Sg := entC c_r12_Has r12_Has (fun _ _ _ => [])
def r12_Has_w (ls : List Int) (zs : List Int) (g : Int) (Q0 : Int → Prop) (R_ : Bool → Prop) : Prop := (Q0 ((0 : Int)))
def r12_Has_w0 (ls : List Int) (zs : List Int) (g : Int) (i : Int) (Q0 : Int → Prop) (R_ : Bool → Prop) : Prop := (((decide (i < (↑(List.length ls) : Int))) = true → (((0 : Int) ≤ i ∧ i < (↑(List.length ls) : Int)) ∧ (((0 : Int) ≤ i ∧ i < (↑(List.length ls) : Int)) → (((List.getD ls (Int.toNat i) (0 : Int) == g) = true → (R_ (true))) ∧ ((List.getD ls (Int.toNat i) (0 : Int) == g) = false → (Q0 (IntKind.wrap IntKind.i64 (i + (1 : Int))))))))) ∧ ((decide (i < (↑(List.length ls) : Int))) = false → (R_ (false))))
def r12_Has_I0 (ls : List Int) (zs : List Int) (g : Int) (i : Int) (r_ : Bool) : Prop := 0 ≤ i ∧ i ≤ ls.length ∧ (ls.take i.toNat).contains g = false ∧ ls.length ≤ 9223372036854775807 ∧ r_ = ls.contains g
theorem r12_Has_begin (ls : List Int) (zs : List Int) (g : Int) (hl0 : ls.length ≤ 9223372036854775807) : r12_Has_w ls zs g (fun i' => r12_Has_I0 ls zs g i' (r12_Has ls zs g)) (fun r__ => r__ = (r12_Has ls zs g)) := by
  unfold r12_Has_w
  try unfold r12_Has_I0
  exact ⟨by omega, by omega, by simp, hl0, rfl⟩
theorem r12_Has_step0 (ls : List Int) (zs : List Int) (g : Int) (hl0 : ls.length ≤ 9223372036854775807) (i : Int) {r_ : Bool} (hI : r12_Has_I0 ls zs g i r_) : r12_Has_w0 ls zs g i (fun i' => r12_Has_I0 ls zs g i' r_ ∧ lx ((ls.length - i').toNat, 0, 0) ((ls.length - i).toNat, 0, 0)) (fun r__ => r__ = r_) := by
  unfold r12_Has_I0 at hI
  unfold r12_Has_w0
  try unfold r12_Has_I0
  obtain ⟨h0, h1, h2, h3, hr⟩ := hI
  refine ⟨fun h => ?_, fun h => ?_⟩
  · simp only [decide_eq_true_eq] at h
    have hlt : i.toNat < ls.length := by omega
    have ht : ls.take (i + 1).toNat = ls.take i.toNat ++ [ls.getD i.toNat 0] := by
      rw [show (i + 1).toNat = i.toNat + 1 by omega, List.take_add_one, List.getD_eq_getElem?_getD, List.getElem?_eq_getElem hlt]; rfl
    rw [w64 (n := i + 1) (by omega)]
    refine ⟨⟨h0, h⟩, fun _ => ⟨fun hc => ?_, fun hc => ?_⟩⟩
    · have hm := getD_memA hlt
      simp only [beq_iff_eq] at hc
      rw [hc] at hm
      show true = r_
      rw [hr]
      simpa using hm
    · refine ⟨⟨by omega, by omega, ?_, h3, hr⟩, lxo_⟩
      rw [ht]
      generalize ls.getD i.toNat 0 = q at hc
      simp only [beq_eq_false_iff_ne] at hc
      simp only [List.contains_eq_mem, List.mem_append, decide_eq_false_iff_not] at h2 ⊢
      intro hh
      rcases hh with hh | hh
      · exact h2 hh
      · exact hc (List.mem_singleton.1 hh).symm
  · simp only [decide_eq_false_iff_not] at h
    rw [List.take_of_length_le (by omega)] at h2
    show false = r_
    rw [hr, h2]
theorem r12_Has_ok : EntryOk Dg Tryz.prog 35 e_r12_Has :=
  ent_wp Dg T_x_slots_ok (I := [103000000005, 103000000000, 103000000001]) Tryz.func35 mix (B := bodyOf Tryz.f35) (by kernel_rfl) rfl (by kernel_rfl) 400
    fun p0 ls zs g hb hp => have hl0 : ls.length ≤ 9223372036854775807 := hb.1; ⟨[⟨none, [0,1,0,1], [.blk 0, .code [1,1]], [5, 0, 1], [.i .i64, .roc [.ints .i64 (ls), .ints .i64 (zs)], .ic .i64 (g)]⟩], fun j => List.getD [appC (Hd.kd (⟨none, [0,1,0,1], [.blk 0, .code [1,1]], [5, 0, 1], [.i .i64, .roc [.ints .i64 (ls), .ints .i64 (zs)], .ic .i64 (g)]⟩ : Hd Sg)) (fun i' => r12_Has_I0 ls zs g i' (r12_Has ls zs g))] j (fun _ => False), fun j => List.getD [appC (Hd.kd (⟨none, [0,1,0,1], [.blk 0, .code [1,1]], [5, 0, 1], [.i .i64, .roc [.ints .i64 (ls), .ints .i64 (zs)], .ic .i64 (g)]⟩ : Hd Sg)) (fun i' => ((ls.length - i').toNat, 0, 0))] j (fun _ => (0, 0, 0)), by kernel_rfl, ⟨r12_Has_w ls zs g (fun i' => r12_Has_I0 ls zs g i' (r12_Has ls zs g)) (fun r__ => r__ = (r12_Has ls zs g)), fun _ _ _ => by kernel_rfl, r12_Has_begin ls zs g hl0 ⟩, ⟨fun i hI => ⟨r12_Has_w0 ls zs g i (fun i' => r12_Has_I0 ls zs g i' (r12_Has ls zs g) ∧ lx ((ls.length - i').toNat, 0, 0) ((ls.length - i).toNat, 0, 0)) (fun r__ => r__ = (r12_Has ls zs g)), fun _ _ _ => by kernel_rfl, r12_Has_step0 ls zs g hl0 i hI⟩, trivial⟩⟩
def T_r12_Has : List (Nat × Entry Sg) := (35, e_r12_Has) :: T_x_slots
theorem T_r12_Has_ok : TableOk Dg Tryz.prog T_r12_Has := TableOk.cons Dg r12_Has_ok T_x_slots_ok
def r04_Page (t : Int) (p : Int) (sh : Int) : Int := bif r04_Right t p sh then 2 ^ sh.toNat else 0
abbrev c_r04_Page : Ct Sg := ⟨none, false, [.agg [.i .i64, .i .i64, .i .i64]], .i .i64⟩
def e_r04_Page : Entry Sg := entC c_r04_Page r04_Page (fun _ _ _ => [])
def r04_Page_w (t : Int) (p : Int) (sh : Int) (Q0 : Int → Int → Prop) (R_ : Int → Prop) : Prop := (((!r04_Right t p sh) = true → (R_ ((0 : Int)))) ∧ ((!r04_Right t p sh) = false → (Q0 ((0 : Int)) ((1 : Int)))))
def r04_Page_w0 (t : Int) (p : Int) (sh : Int) (i : Int) (m : Int) (Q0 : Int → Int → Prop) (R_ : Int → Prop) : Prop := (((decide (i < sh)) = true → (Q0 (IntKind.wrap IntKind.i64 (i + (1 : Int))) (IntKind.wrap IntKind.i64 (m * (2 : Int))))) ∧ ((decide (i < sh)) = false → (R_ (m))))
def r04_Page_I0 (t : Int) (p : Int) (sh : Int) (i : Int) (m : Int) (r_ : Int) : Prop := 0 ≤ i ∧ i ≤ sh ∧ sh ≤ 20 ∧ m = 2 ^ i.toNat ∧ r_ = 2 ^ sh.toNat
theorem r04_Page_begin (t : Int) (p : Int) (sh : Int) : r04_Page_w t p sh (fun i' m' => r04_Page_I0 t p sh i' m' (r04_Page t p sh)) (fun r__ => r__ = (r04_Page t p sh)) := by
  unfold r04_Page_w
  try unfold r04_Page_I0
  refine ⟨fun hc => ?_, fun hc => ?_⟩
  · have e : r04_Right t p sh = false := by simpa using hc
    show (0 : Int) = r04_Page t p sh
    unfold r04_Page
    rw [e]; rfl
  · have e : r04_Right t p sh = true := by simpa using hc
    have e' := e
    simp only [r04_Right, Bool.and_eq_true, decide_eq_true_eq] at e'
    refine ⟨by omega, by omega, by omega, rfl, ?_⟩
    unfold r04_Page
    rw [e]; rfl
theorem r04_Page_step0 (t : Int) (p : Int) (sh : Int) (i : Int) (m : Int) {r_ : Int} (hI : r04_Page_I0 t p sh i m r_) : r04_Page_w0 t p sh i m (fun i' m' => r04_Page_I0 t p sh i' m' r_ ∧ lx ((sh - i').toNat, 0, 0) ((sh - i).toNat, 0, 0)) (fun r__ => r__ = r_) := by
  unfold r04_Page_I0 at hI
  unfold r04_Page_w0
  try unfold r04_Page_I0
  obtain ⟨h0, h1, h2, h3, hr⟩ := hI
  refine ⟨fun h => ?_, fun h => ?_⟩
  · simp only [decide_eq_true_eq] at h
    have e : (2 : Int) ^ (i + 1).toNat = 2 ^ i.toNat * 2 := by rw [show (i + 1).toNat = i.toNat + 1 by omega, Int.pow_succ]
    have hb : (2 : Int) ^ i.toNat ≤ 1048576 := by
      have h4 : (2 : Nat) ^ i.toNat ≤ 2 ^ 20 := Nat.pow_le_pow_right (by omega) (by omega)
      have h5 : ((2 ^ i.toNat : Nat) : Int) ≤ ((2 ^ 20 : Nat) : Int) := by exact_mod_cast h4
      simpa using h5
    have hb0 : (0 : Int) < 2 ^ i.toNat := Int.pow_pos (by omega)
    rw [w64 (n := i + 1) (by omega), w64 (by omega)]
    exact ⟨⟨by omega, by omega, h2, by rw [e, h3], hr⟩, lxo_⟩
  · simp only [decide_eq_false_iff_not] at h
    have e : i = sh := by omega
    subst e
    rw [hr]; exact h3
theorem r04_Page_ok : EntryOk Dg Tryz.prog 137 e_r04_Page :=
  ent_wp Dg T_r12_Has_ok (I := [1643000000004, 1643000000003, 1643000000001]) Tryz.func137 mix (B := bodyOf Tryz.f137) (by kernel_rfl) rfl (by kernel_rfl) 400
    fun p0 t p sh hb hp => ⟨[⟨none, [0,1,0,1,1,1], [.blk 0, .code [1,1,1,1]], [4, 3, 1], [.i .i64, .i .i64, .box 23 [.ic .i64 (t), .ic .i64 (p), .ic .i64 (sh)]]⟩], fun j => List.getD [appC (Hd.kd (⟨none, [0,1,0,1,1,1], [.blk 0, .code [1,1,1,1]], [4, 3, 1], [.i .i64, .i .i64, .box 23 [.ic .i64 (t), .ic .i64 (p), .ic .i64 (sh)]]⟩ : Hd Sg)) (fun i' m' => r04_Page_I0 t p sh i' m' (r04_Page t p sh))] j (fun _ => False), fun j => List.getD [appC (Hd.kd (⟨none, [0,1,0,1,1,1], [.blk 0, .code [1,1,1,1]], [4, 3, 1], [.i .i64, .i .i64, .box 23 [.ic .i64 (t), .ic .i64 (p), .ic .i64 (sh)]]⟩ : Hd Sg)) (fun i' m' => ((sh - i').toNat, 0, 0))] j (fun _ => (0, 0, 0)), by kernel_rfl, ⟨r04_Page_w t p sh (fun i' m' => r04_Page_I0 t p sh i' m' (r04_Page t p sh)) (fun r__ => r__ = (r04_Page t p sh)), fun _ _ _ => by kernel_rfl, r04_Page_begin t p sh ⟩, ⟨fun i m hI => ⟨r04_Page_w0 t p sh i m (fun i' m' => r04_Page_I0 t p sh i' m' (r04_Page t p sh) ∧ lx ((sh - i').toNat, 0, 0) ((sh - i).toNat, 0, 0)) (fun r__ => r__ = (r04_Page t p sh)), fun _ _ _ => by kernel_rfl, r04_Page_step0 t p sh i m hI⟩, trivial⟩⟩
def T_r04_Page : List (Nat × Entry Sg) := (137, e_r04_Page) :: T_r12_Has
theorem T_r04_Page_ok : TableOk Dg Tryz.prog T_r04_Page := TableOk.cons Dg r04_Page_ok T_r12_Has_ok
def r05_Size (sh : Int) (k : Int) : Int := (bif r05_Slots k == (0 : Int) || r04_Page (1 : Int) (4 : Int) sh == (0 : Int) then (0 : Int) else IntKind.wrap IntKind.i64 (IntKind.wrap IntKind.i64 (Int.tdiv (r04_Page (1 : Int) (4 : Int) sh) (r05_Slots k)) - Int.tmod (IntKind.wrap IntKind.i64 (Int.tdiv (r04_Page (1 : Int) (4 : Int) sh) (r05_Slots k))) (16 : Int)))
abbrev c_r05_Size : Ct Sg := ⟨none, false, [.i .i64, .i .i64], .i .i64⟩
def e_r05_Size : Entry Sg := entC c_r05_Size r05_Size (fun _ _ => [])
theorem r05_Size_ok : EntryOk Dg Tryz.prog 142 e_r05_Size :=
  ent_ok Dg T_r04_Page_ok (I := []) Tryz.func142 mix (B := bodyOf Tryz.f142) (by kernel_rfl) rfl (by kernel_rfl) 400
    fun _ sh k hb hp => ⟨(r05_Size sh k), (.br (r05_Slots k == (0 : Int) || r04_Page (1 : Int) (4 : Int) sh == (0 : Int)) .t (.need (r05_Slots k ≠ (0 : Int)) .t)), fun _ _ _ => by kernel_rfl, ⟨fun z0 => trivial, fun z0 => ⟨(by first | omega | (simp_all; done)), fun z1 => trivial⟩⟩, rfl⟩
def T_r05_Size : List (Nat × Entry Sg) := (142, e_r05_Size) :: T_r04_Page
theorem T_r05_Size_ok : TableOk Dg Tryz.prog T_r05_Size := TableOk.cons Dg r05_Size_ok T_r04_Page_ok
def r06_Of (t : Int) (p : Int) (sh : Int) (g : Int) (o : Int) : Int × Bool := (bif !r04_Right t p sh || decide (g < (0 : Int)) || decide (g ≥ p) || decide (o < (0 : Int)) || decide (o ≥ r04_Page t p sh) then ((0 : Int), false) else (IntKind.wrap IntKind.i64 (IntKind.wrap IntKind.i64 (IntKind.wrap IntKind.i64 (g + (1 : Int)) * r04_Page t p sh) + o), true))
abbrev c_r06_Of : Ct Sg := ⟨none, false, [.agg [.i .i64, .i .i64, .i .i64], .i .i64, .i .i64], .tup [.i .i64, .b]⟩
def e_r06_Of : Entry Sg := entC c_r06_Of r06_Of (fun _ _ _ _ _ => [])
theorem r06_Of_ok : EntryOk Dg Tryz.prog 136 e_r06_Of :=
  ent_ok Dg T_r05_Size_ok (I := []) Tryz.func136 mix (B := bodyOf Tryz.f136) (by kernel_rfl) rfl (by kernel_rfl) 400
    fun _ t p sh g o hb hp => ⟨(r06_Of t p sh g o), .t, fun _ _ _ => by kernel_rfl, trivial, rfl⟩
def T_r06_Of : List (Nat × Entry Sg) := (136, e_r06_Of) :: T_r05_Size
theorem T_r06_Of_ok : TableOk Dg Tryz.prog T_r06_Of := TableOk.cons Dg r06_Of_ok T_r05_Size_ok
def r06_At (t : Int) (p : Int) (sh : Int) (k : Int) (g : Int) (j : Int) : Int × Bool := (bif decide (j < (0 : Int)) || decide (j ≥ r05_Slots k) then ((0 : Int), false) else (Prod.fst (r06_Of t p sh g (IntKind.wrap IntKind.i64 (j * r05_Size sh k))), Prod.snd (r06_Of t p sh g (IntKind.wrap IntKind.i64 (j * r05_Size sh k)))))
abbrev c_r06_At : Ct Sg := ⟨none, false, [.agg [.i .i64, .i .i64, .i .i64], .i .i64, .i .i64, .i .i64], .tup [.i .i64, .b]⟩
def e_r06_At : Entry Sg := entC c_r06_At r06_At (fun _ _ _ _ _ _ => [])
theorem r06_At_ok : EntryOk Dg Tryz.prog 143 e_r06_At :=
  ent_ok Dg T_r06_Of_ok (I := []) Tryz.func143 mix (B := bodyOf Tryz.f143) (by kernel_rfl) rfl (by kernel_rfl) 400
    fun _ t p sh k g j hb hp => ⟨(r06_At t p sh k g j), .t, fun _ _ _ => by kernel_rfl, trivial, rfl⟩
def T_r06_At : List (Nat × Entry Sg) := (143, e_r06_At) :: T_r06_Of
theorem T_r06_At_ok : TableOk Dg Tryz.prog T_r06_At := TableOk.cons Dg r06_At_ok T_r06_Of_ok
end Go.Proofs.YtajcpopikdpcmaaGreat
namespace Go.Proofs.YtajcpopikdpcmaaGreat
open Go.Sl
def x_feet (t : Int) (p : Int) (sh : Int) (xs : List Int) : Bool := feet ⟨t, p, sh⟩ xs
abbrev c_x_feet : Ct Sg := ⟨none, false, [.agg [.i .i64, .i .i64, .i .i64, .ro [some .u32]]], .b⟩
def e_x_feet : Entry Sg := entC c_x_feet x_feet (fun t p sh xs => [AGood ⟨t, p, sh⟩ xs, (starts ⟨t, p, sh⟩ xs).2 = true])
def x_feet_w (t : Int) (p : Int) (sh : Int) (xs : List Int) (Q0 : Int → Int → Nat → List Int → Prop) (R_ : Bool → Prop) : Prop := (∀ r1 : List Int × Bool, r1 = (x_starts t p sh xs) → ((AGood { t := t, p := p, s := sh } xs) ∧ ((AGood { t := t, p := p, s := sh } xs) → (Q0 ((0 : Int)) ((0 : Int)) (List.length (Prod.fst r1)) (Prod.fst r1)))))
def x_feet_w0 (t : Int) (p : Int) (sh : Int) (xs : List Int) (i : Int) (n : Int) (n1 : Nat) (ls : List Int) (Q0 : Int → Int → Nat → List Int → Prop) (R_ : Bool → Prop) : Prop := (((decide (i < p)) = true → ((decide (IntKind.wrap IntKind.i64 (n + (1 : Int)) < (↑n1 : Int)) = true → (0 : Int) ≤ IntKind.wrap IntKind.i64 (n + (1 : Int)) ∧ IntKind.wrap IntKind.i64 (n + (1 : Int)) < (↑n1 : Int)) ∧ ((decide (IntKind.wrap IntKind.i64 (n + (1 : Int)) < (↑n1 : Int)) = true → (0 : Int) ≤ IntKind.wrap IntKind.i64 (n + (1 : Int)) ∧ IntKind.wrap IntKind.i64 (n + (1 : Int)) < (↑n1 : Int)) → (((decide (IntKind.wrap IntKind.i64 (n + (1 : Int)) < (↑n1 : Int)) && List.getD ls (Int.toNat (IntKind.wrap IntKind.i64 (n + (1 : Int)))) (0 : Int) == i) = true → (((0 : Int) ≤ IntKind.wrap IntKind.i64 (n + (1 : Int)) ∧ IntKind.wrap IntKind.i64 (n + (1 : Int)) < (↑n1 : Int)) ∧ (((0 : Int) ≤ IntKind.wrap IntKind.i64 (n + (1 : Int)) ∧ IntKind.wrap IntKind.i64 (n + (1 : Int)) < (↑n1 : Int)) → (((0 : Int) ≤ IntKind.wrap IntKind.i64 (n + (1 : Int)) ∧ IntKind.wrap IntKind.i64 (n + (1 : Int)) < (↑n1 : Int)) ∧ (((0 : Int) ≤ IntKind.wrap IntKind.i64 (n + (1 : Int)) ∧ IntKind.wrap IntKind.i64 (n + (1 : Int)) < (↑n1 : Int)) → ((AGood { t := t, p := p, s := sh } xs) ∧ ((AGood { t := t, p := p, s := sh } xs) → (((0 : Int) ≤ List.getD ls (Int.toNat (IntKind.wrap IntKind.i64 (n + (1 : Int)))) (0 : Int) ∧ List.getD ls (Int.toNat (IntKind.wrap IntKind.i64 (n + (1 : Int)))) (0 : Int) < p) ∧ (((0 : Int) ≤ List.getD ls (Int.toNat (IntKind.wrap IntKind.i64 (n + (1 : Int)))) (0 : Int) ∧ List.getD ls (Int.toNat (IntKind.wrap IntKind.i64 (n + (1 : Int)))) (0 : Int) < p) → (((i == IntKind.wrap IntKind.i64 (IntKind.wrap IntKind.i64 (List.getD ls (Int.toNat (IntKind.wrap IntKind.i64 (n + (1 : Int)))) (0 : Int) + Prod.fst (If.l (aInfo { t := t, p := p, s := sh } xs (List.getD ls (Int.toNat (IntKind.wrap IntKind.i64 (n + (1 : Int)))) (0 : Int))), If.c (aInfo { t := t, p := p, s := sh } xs (List.getD ls (Int.toNat (IntKind.wrap IntKind.i64 (n + (1 : Int)))) (0 : Int))))) - (1 : Int))) = true → (((0 : Int) ≤ IntKind.wrap IntKind.i64 (n + (1 : Int)) ∧ IntKind.wrap IntKind.i64 (n + (1 : Int)) < (↑n1 : Int)) ∧ (((0 : Int) ≤ IntKind.wrap IntKind.i64 (n + (1 : Int)) ∧ IntKind.wrap IntKind.i64 (n + (1 : Int)) < (↑n1 : Int)) → (((0 : Int) ≤ r07_Foot t p sh i ∧ r07_Foot t p sh i < (↑(List.length xs) : Int)) ∧ (((0 : Int) ≤ r07_Foot t p sh i ∧ r07_Foot t p sh i < (↑(List.length xs) : Int)) → (((List.getD xs (Int.toNat (r07_Foot t p sh i)) (0 : Int) != IntKind.wrap IntKind.u32 (IntKind.wrap IntKind.i64 (List.getD ls (Int.toNat (IntKind.wrap IntKind.i64 (n + (1 : Int)))) (0 : Int) + (1 : Int)))) = true → (R_ (false))) ∧ ((List.getD xs (Int.toNat (r07_Foot t p sh i)) (0 : Int) != IntKind.wrap IntKind.u32 (IntKind.wrap IntKind.i64 (List.getD ls (Int.toNat (IntKind.wrap IntKind.i64 (n + (1 : Int)))) (0 : Int) + (1 : Int)))) = false → (Q0 (IntKind.wrap IntKind.i64 (i + (1 : Int))) (IntKind.wrap IntKind.i64 (n + (1 : Int))) (n1) (ls))))))))) ∧ ((i == IntKind.wrap IntKind.i64 (IntKind.wrap IntKind.i64 (List.getD ls (Int.toNat (IntKind.wrap IntKind.i64 (n + (1 : Int)))) (0 : Int) + Prod.fst (If.l (aInfo { t := t, p := p, s := sh } xs (List.getD ls (Int.toNat (IntKind.wrap IntKind.i64 (n + (1 : Int)))) (0 : Int))), If.c (aInfo { t := t, p := p, s := sh } xs (List.getD ls (Int.toNat (IntKind.wrap IntKind.i64 (n + (1 : Int)))) (0 : Int))))) - (1 : Int))) = false → (((0 : Int) ≤ r07_Foot t p sh i ∧ r07_Foot t p sh i < (↑(List.length xs) : Int)) ∧ (((0 : Int) ≤ r07_Foot t p sh i ∧ r07_Foot t p sh i < (↑(List.length xs) : Int)) → (((List.getD xs (Int.toNat (r07_Foot t p sh i)) (0 : Int) != (0 : Int)) = true → (R_ (false))) ∧ ((List.getD xs (Int.toNat (r07_Foot t p sh i)) (0 : Int) != (0 : Int)) = false → (Q0 (IntKind.wrap IntKind.i64 (i + (1 : Int))) (IntKind.wrap IntKind.i64 (n + (1 : Int))) (n1) (ls))))))))))))))))) ∧ ((decide (IntKind.wrap IntKind.i64 (n + (1 : Int)) < (↑n1 : Int)) && List.getD ls (Int.toNat (IntKind.wrap IntKind.i64 (n + (1 : Int)))) (0 : Int) == i) = false → (((0 : Int) ≤ n ∧ n < (↑n1 : Int)) ∧ (((0 : Int) ≤ n ∧ n < (↑n1 : Int)) → (((0 : Int) ≤ n ∧ n < (↑n1 : Int)) ∧ (((0 : Int) ≤ n ∧ n < (↑n1 : Int)) → ((AGood { t := t, p := p, s := sh } xs) ∧ ((AGood { t := t, p := p, s := sh } xs) → (((0 : Int) ≤ List.getD ls (Int.toNat n) (0 : Int) ∧ List.getD ls (Int.toNat n) (0 : Int) < p) ∧ (((0 : Int) ≤ List.getD ls (Int.toNat n) (0 : Int) ∧ List.getD ls (Int.toNat n) (0 : Int) < p) → (((i == IntKind.wrap IntKind.i64 (IntKind.wrap IntKind.i64 (List.getD ls (Int.toNat n) (0 : Int) + Prod.fst (If.l (aInfo { t := t, p := p, s := sh } xs (List.getD ls (Int.toNat n) (0 : Int))), If.c (aInfo { t := t, p := p, s := sh } xs (List.getD ls (Int.toNat n) (0 : Int))))) - (1 : Int))) = true → (((0 : Int) ≤ n ∧ n < (↑n1 : Int)) ∧ (((0 : Int) ≤ n ∧ n < (↑n1 : Int)) → (((0 : Int) ≤ r07_Foot t p sh i ∧ r07_Foot t p sh i < (↑(List.length xs) : Int)) ∧ (((0 : Int) ≤ r07_Foot t p sh i ∧ r07_Foot t p sh i < (↑(List.length xs) : Int)) → (((List.getD xs (Int.toNat (r07_Foot t p sh i)) (0 : Int) != IntKind.wrap IntKind.u32 (IntKind.wrap IntKind.i64 (List.getD ls (Int.toNat n) (0 : Int) + (1 : Int)))) = true → (R_ (false))) ∧ ((List.getD xs (Int.toNat (r07_Foot t p sh i)) (0 : Int) != IntKind.wrap IntKind.u32 (IntKind.wrap IntKind.i64 (List.getD ls (Int.toNat n) (0 : Int) + (1 : Int)))) = false → (Q0 (IntKind.wrap IntKind.i64 (i + (1 : Int))) (n) (n1) (ls))))))))) ∧ ((i == IntKind.wrap IntKind.i64 (IntKind.wrap IntKind.i64 (List.getD ls (Int.toNat n) (0 : Int) + Prod.fst (If.l (aInfo { t := t, p := p, s := sh } xs (List.getD ls (Int.toNat n) (0 : Int))), If.c (aInfo { t := t, p := p, s := sh } xs (List.getD ls (Int.toNat n) (0 : Int))))) - (1 : Int))) = false → (((0 : Int) ≤ r07_Foot t p sh i ∧ r07_Foot t p sh i < (↑(List.length xs) : Int)) ∧ (((0 : Int) ≤ r07_Foot t p sh i ∧ r07_Foot t p sh i < (↑(List.length xs) : Int)) → (((List.getD xs (Int.toNat (r07_Foot t p sh i)) (0 : Int) != (0 : Int)) = true → (R_ (false))) ∧ ((List.getD xs (Int.toNat (r07_Foot t p sh i)) (0 : Int) != (0 : Int)) = false → (Q0 (IntKind.wrap IntKind.i64 (i + (1 : Int))) (n) (n1) (ls))))))))))))))))))))) ∧ ((decide (i < p)) = false → (R_ (true))))
def x_feet_I0 (t : Int) (p : Int) (sh : Int) (xs : List Int) (i : Int) (n : Int) (n1 : Nat) (ls : List Int) (r_ : Bool) : Prop := 0 ≤ i ∧ i ≤ p ∧ 0 ≤ n ∧ n < ls.length ∧ n1 = ls.length ∧ ls = (starts ⟨t, p, sh⟩ xs).1 ∧ feetF ⟨t, p, sh⟩ xs ls (p - i).toNat n.toNat = r_
theorem x_feet_begin (t : Int) (p : Int) (sh : Int) (xs : List Int) (hp0 : AGood ⟨t, p, sh⟩ xs) (hp1 : (starts ⟨t, p, sh⟩ xs).2 = true) (hl0 : xs.length ≤ 9223372036854775807) : x_feet_w t p sh xs (fun i' n' n1' ls' => x_feet_I0 t p sh xs i' n' n1' ls' (x_feet t p sh xs)) (fun r__ => r__ = (x_feet t p sh xs)) := by
  unfold x_feet_w
  try unfold x_feet_I0
  have hok := Cf.ok_iff.1 hp0.ok
  simp only at hok
  have hne := starts_ne (c := ⟨t, p, sh⟩) (xs := xs) (by show 1 ≤ p; omega) hp1
  rintro r1 rfl
  refine ⟨hp0, fun _ => ⟨by omega, by omega, by omega, ?_, rfl, rfl, ?_⟩⟩
  · show (0 : Int) < ((starts ⟨t, p, sh⟩ xs).1.length : Int)
    omega
  · show feetF ⟨t, p, sh⟩ xs (starts ⟨t, p, sh⟩ xs).1 (p - 0).toNat (Int.toNat 0) = feet ⟨t, p, sh⟩ xs
    unfold feet
    rw [show (p - 0).toNat = p.toNat by omega]
    rfl
theorem x_feet_step0 (t : Int) (p : Int) (sh : Int) (xs : List Int) (hp0 : AGood ⟨t, p, sh⟩ xs) (hp1 : (starts ⟨t, p, sh⟩ xs).2 = true) (hl0 : xs.length ≤ 9223372036854775807) (i : Int) (n : Int) (n1 : Nat) (ls : List Int) {r_ : Bool} (hI : x_feet_I0 t p sh xs i n n1 ls r_) : x_feet_w0 t p sh xs i n n1 ls (fun i' n' n1' ls' => x_feet_I0 t p sh xs i' n' n1' ls' r_ ∧ lx ((p - i').toNat, 0, 0) ((p - i).toNat, 0, 0)) (fun r__ => r__ = r_) := by
  unfold x_feet_I0 at hI
  unfold x_feet_w0
  try unfold x_feet_I0
  obtain ⟨h0, h1, h2, h3, h4, h5, hr⟩ := hI
  have hok := Cf.ok_iff.1 hp0.ok
  simp only at hok
  have hlen : (ls.length : Int) ≤ p + 1 := by
    have := starts_len (c := ⟨t, p, sh⟩) (xs := xs)
    rw [← h5] at this
    simp only at this
    omega
  refine ⟨fun h => ?_, fun h => ?_⟩
  · simp only [decide_eq_true_eq] at h
    have hft := pc_in hp0 (g := i) (k := 1) ⟨h0, h⟩ (by omega)
    have e : (p - i).toNat = (p - (i + 1)).toNat + 1 := by omega
    have ei : (p : Int) - (((p - (i + 1)).toNat + 1 : Nat) : Int) = i := by omega
    rw [e] at hr
    simp only [feetF] at hr
    rw [ei] at hr
    have hmem : ∀ q : Nat, q < ls.length → 0 ≤ ls.getD q 0 ∧ ls.getD q 0 < p := fun q hq => starts_in (c := ⟨t, p, sh⟩) (xs := xs) _ (by rw [← h5]; exact getD_memA hq)
    have hw : ∀ x : Int, 0 ≤ x → x < p → IntKind.i64.wrap (IntKind.i64.wrap (x + (aInfo ⟨t, p, sh⟩ xs x).l) - 1) = x + (aInfo ⟨t, p, sh⟩ xs x).l - 1 := fun x a b => by
      have h7 := iGet_bd (cel xs (Cf.info ⟨t, p, sh⟩ x))
      have h8 : 0 ≤ (aInfo ⟨t, p, sh⟩ xs x).l ∧ (aInfo ⟨t, p, sh⟩ xs x).l ≤ 1024 := ⟨h7.2.2.1, h7.2.2.2.1⟩
      rw [w64 (n := x + (aInfo ⟨t, p, sh⟩ xs x).l) (by omega), w64 (by omega)]
    have hv : ∀ x : Int, 0 ≤ x → x < p → IntKind.u32.wrap (IntKind.i64.wrap (x + 1)) = nv (x + 1) := fun x a b => by rw [w64 (n := x + 1) (by omega), wrapu_nv]
    have hn1 : decide (n + 1 < (n1 : Int)) = decide (n.toNat + 1 < ls.length) := by rw [h4]; apply decide_eq_decide.2; omega
    have en : (n + 1).toNat = n.toNat + 1 := by omega
    rw [w64 (n := n + 1) (by omega), w64 (n := i + 1) (by omega), r07_Foot_eq, hn1, en]
    refine ⟨fun hh => (by simp only [decide_eq_true_eq] at hh; omega), fun _ => ⟨fun hc => ?_, fun hc => ?_⟩⟩
    · rw [hc, cond_true] at hr
      have hlt : n.toNat + 1 < ls.length := by simp only [Bool.and_eq_true, decide_eq_true_eq] at hc; exact hc.1
      have hq : 0 ≤ n + 1 ∧ n + 1 < (n1 : Int) := by omega
      have hm := hmem (n.toNat + 1) hlt
      refine ⟨hq, fun _ => ⟨hq, fun _ => ⟨hp0, fun _ => ⟨hm, fun _ => ⟨fun hcc => ⟨hq, fun _ => ⟨hft, fun _ => ⟨fun hz => ?_, fun hz => ?_⟩⟩⟩, fun hcc => ⟨hft, fun _ => ⟨fun hz => ?_, fun hz => ?_⟩⟩⟩⟩⟩⟩⟩
      · have hcc' : (i == ls.getD (n.toNat + 1) 0 + (aInfo ⟨t, p, sh⟩ xs (ls.getD (n.toNat + 1) 0)).l - 1) = true := by rw [← hw _ hm.1 hm.2]; exact hcc
        have hz' : (cel xs (Cf.foot ⟨t, p, sh⟩ i) != nv (ls.getD (n.toNat + 1) 0 + 1)) = true := by rw [← hv _ hm.1 hm.2]; exact hz
        rw [hcc', cond_true, hz', cond_true] at hr; exact hr
      · have hcc' : (i == ls.getD (n.toNat + 1) 0 + (aInfo ⟨t, p, sh⟩ xs (ls.getD (n.toNat + 1) 0)).l - 1) = true := by rw [← hw _ hm.1 hm.2]; exact hcc
        have hz' : (cel xs (Cf.foot ⟨t, p, sh⟩ i) != nv (ls.getD (n.toNat + 1) 0 + 1)) = false := by rw [← hv _ hm.1 hm.2]; exact hz
        rw [hcc', cond_true, hz', cond_false] at hr
        exact ⟨⟨by omega, by omega, by omega, by omega, h4, h5, by rw [en]; exact hr⟩, lxo_⟩
      · have hcc' : (i == ls.getD (n.toNat + 1) 0 + (aInfo ⟨t, p, sh⟩ xs (ls.getD (n.toNat + 1) 0)).l - 1) = false := by rw [← hw _ hm.1 hm.2]; exact hcc
        have hz' : (cel xs (Cf.foot ⟨t, p, sh⟩ i) != 0) = true := hz
        rw [hcc', cond_false, hz', cond_true] at hr; exact hr
      · have hcc' : (i == ls.getD (n.toNat + 1) 0 + (aInfo ⟨t, p, sh⟩ xs (ls.getD (n.toNat + 1) 0)).l - 1) = false := by rw [← hw _ hm.1 hm.2]; exact hcc
        have hz' : (cel xs (Cf.foot ⟨t, p, sh⟩ i) != 0) = false := hz
        rw [hcc', cond_false, hz', cond_false] at hr
        exact ⟨⟨by omega, by omega, by omega, by omega, h4, h5, by rw [en]; exact hr⟩, lxo_⟩
    · rw [hc, cond_false] at hr
      have hlt : n.toNat < ls.length := by omega
      have hq : 0 ≤ n ∧ n < (n1 : Int) := by omega
      have hm := hmem (n.toNat) hlt
      refine ⟨hq, fun _ => ⟨hq, fun _ => ⟨hp0, fun _ => ⟨hm, fun _ => ⟨fun hcc => ⟨hq, fun _ => ⟨hft, fun _ => ⟨fun hz => ?_, fun hz => ?_⟩⟩⟩, fun hcc => ⟨hft, fun _ => ⟨fun hz => ?_, fun hz => ?_⟩⟩⟩⟩⟩⟩⟩
      · have hcc' : (i == ls.getD (n.toNat) 0 + (aInfo ⟨t, p, sh⟩ xs (ls.getD (n.toNat) 0)).l - 1) = true := by rw [← hw _ hm.1 hm.2]; exact hcc
        have hz' : (cel xs (Cf.foot ⟨t, p, sh⟩ i) != nv (ls.getD (n.toNat) 0 + 1)) = true := by rw [← hv _ hm.1 hm.2]; exact hz
        rw [hcc', cond_true, hz', cond_true] at hr; exact hr
      · have hcc' : (i == ls.getD (n.toNat) 0 + (aInfo ⟨t, p, sh⟩ xs (ls.getD (n.toNat) 0)).l - 1) = true := by rw [← hw _ hm.1 hm.2]; exact hcc
        have hz' : (cel xs (Cf.foot ⟨t, p, sh⟩ i) != nv (ls.getD (n.toNat) 0 + 1)) = false := by rw [← hv _ hm.1 hm.2]; exact hz
        rw [hcc', cond_true, hz', cond_false] at hr
        exact ⟨⟨by omega, by omega, by omega, by omega, h4, h5, hr⟩, lxo_⟩
      · have hcc' : (i == ls.getD (n.toNat) 0 + (aInfo ⟨t, p, sh⟩ xs (ls.getD (n.toNat) 0)).l - 1) = false := by rw [← hw _ hm.1 hm.2]; exact hcc
        have hz' : (cel xs (Cf.foot ⟨t, p, sh⟩ i) != 0) = true := hz
        rw [hcc', cond_false, hz', cond_true] at hr; exact hr
      · have hcc' : (i == ls.getD (n.toNat) 0 + (aInfo ⟨t, p, sh⟩ xs (ls.getD (n.toNat) 0)).l - 1) = false := by rw [← hw _ hm.1 hm.2]; exact hcc
        have hz' : (cel xs (Cf.foot ⟨t, p, sh⟩ i) != 0) = false := hz
        rw [hcc', cond_false, hz', cond_false] at hr
        exact ⟨⟨by omega, by omega, by omega, by omega, h4, h5, hr⟩, lxo_⟩
  · simp only [decide_eq_false_iff_not] at h
    rw [show (p - i).toNat = 0 by omega] at hr
    exact hr
theorem x_feet_ok : EntryOk Dg Tryz.prog 91 e_x_feet :=
  ent_wp Dg T_r06_At_ok (I := [1643000000006, 1643000000005, 1643000000003, 1643000000001]) Tryz.func91 mix (B := bodyOf Tryz.f91) (by kernel_rfl) rfl (by kernel_rfl) 400
    fun p0 t p sh xs hb hp => have hl0 : xs.length ≤ 9223372036854775807 := hb.1.2.2.2.1; have hp0 : AGood ⟨t, p, sh⟩ xs := hp _ (.head _); have hp1 : (starts ⟨t, p, sh⟩ xs).2 = true := hp _ (.tail _ (.head _)); ⟨[⟨none, [0,1,0,1,1,1], [.blk 0, .code [1,1,1,1]], [6, 5, 3, 1], [.i .i64, .i .i64, .own 3 [some .i64], .box 29 [.ic .i64 (t), .ic .i64 (p), .ic .i64 (sh), .roc [.ints .u32 (xs)]]]⟩], fun j => List.getD [appC (Hd.kd (⟨none, [0,1,0,1,1,1], [.blk 0, .code [1,1,1,1]], [6, 5, 3, 1], [.i .i64, .i .i64, .own 3 [some .i64], .box 29 [.ic .i64 (t), .ic .i64 (p), .ic .i64 (sh), .roc [.ints .u32 (xs)]]]⟩ : Hd Sg)) (fun i' n' n1' ls' => x_feet_I0 t p sh xs i' n' n1' ls' (x_feet t p sh xs))] j (fun _ => False), fun j => List.getD [appC (Hd.kd (⟨none, [0,1,0,1,1,1], [.blk 0, .code [1,1,1,1]], [6, 5, 3, 1], [.i .i64, .i .i64, .own 3 [some .i64], .box 29 [.ic .i64 (t), .ic .i64 (p), .ic .i64 (sh), .roc [.ints .u32 (xs)]]]⟩ : Hd Sg)) (fun i' n' n1' ls' => ((p - i').toNat, 0, 0))] j (fun _ => (0, 0, 0)), by kernel_rfl, ⟨x_feet_w t p sh xs (fun i' n' n1' ls' => x_feet_I0 t p sh xs i' n' n1' ls' (x_feet t p sh xs)) (fun r__ => r__ = (x_feet t p sh xs)), fun _ _ _ => by kernel_rfl, x_feet_begin t p sh xs hp0 hp1 hl0 ⟩, ⟨fun i n n1 ls hI => ⟨x_feet_w0 t p sh xs i n n1 ls (fun i' n' n1' ls' => x_feet_I0 t p sh xs i' n' n1' ls' (x_feet t p sh xs) ∧ lx ((p - i').toNat, 0, 0) ((p - i).toNat, 0, 0)) (fun r__ => r__ = (x_feet t p sh xs)), fun _ _ _ => by kernel_rfl, x_feet_step0 t p sh xs hp0 hp1 hl0 i n n1 ls hI⟩, trivial⟩⟩
def T_x_feet : List (Nat × Entry Sg) := (91, e_x_feet) :: T_r06_At
theorem T_x_feet_ok : TableOk Dg Tryz.prog T_x_feet := TableOk.cons Dg x_feet_ok T_r06_At_ok
end Go.Proofs.YtajcpopikdpcmaaGreat
namespace Go.Sl
open Go.Proofs.YtajcpopikdpcmaaGreat
structure Pt where
  k : Int
  a : Int
  s : Int
deriving DecidableEq
def pgB (sh : Int) : Int := 2 ^ sh.toNat
def szB (sh k : Int) : Int := pgB sh / kSlots k - pgB sh / kSlots k % 16
theorem kSlots_bd (k : Int) : 0 ≤ kSlots k ∧ kSlots k ≤ 32 := by
  by_cases h : 0 ≤ k ∧ k ≤ 8
  · rcases (by omega : k = 0 ∨ k = 1 ∨ k = 2 ∨ k = 3 ∨ k = 4 ∨ k = 5 ∨ k = 6 ∨ k = 7 ∨ k = 8) with rfl | rfl | rfl | rfl | rfl | rfl | rfl | rfl | rfl <;> decide
  · unfold kSlots
    by_cases h0 : 0 ≤ k
    · have : decide (0 ≤ k) = true := by simpa using h0
      rw [this, cond_true, List.getD_eq_getElem?_getD, List.getElem?_eq_none (by simp; omega)]; decide
    · have : decide (0 ≤ k) = false := by simpa using h0
      rw [this]; simp
theorem szB_all : ∀ a : Fin 11, ∀ k : Fin 9, r05_Size ((a.val + 10 : Nat) : Int) (k.val : Int) = szB ((a.val + 10 : Nat) : Int) (k.val : Int) ∧ 16 ≤ szB ((a.val + 10 : Nat) : Int) (k.val : Int) ∧ szB ((a.val + 10 : Nat) : Int) (k.val : Int) * kSlots (k.val : Int) ≤ pgB ((a.val + 10 : Nat) : Int) ∧ 1 ≤ kSlots (k.val : Int) ∧ 1024 ≤ pgB ((a.val + 10 : Nat) : Int) ∧ pgB ((a.val + 10 : Nat) : Int) ≤ 1048576 ∧ szB ((a.val + 10 : Nat) : Int) (k.val : Int) % 16 = 0 := by decide +kernel
theorem szB_ok {sh k : Int} (h : 10 ≤ sh ∧ sh ≤ 20) (hk : 0 ≤ k ∧ k ≤ 8) : r05_Size sh k = szB sh k ∧ 16 ≤ szB sh k ∧ szB sh k * kSlots k ≤ pgB sh ∧ 1 ≤ kSlots k ∧ 1024 ≤ pgB sh ∧ pgB sh ≤ 1048576 ∧ szB sh k % 16 = 0 := by
  have := szB_all ⟨(sh - 10).toNat, by omega⟩ ⟨k.toNat, by omega⟩
  have e1 : (((sh - 10).toNat + 10 : Nat) : Int) = sh := by omega
  have e2 : ((k.toNat : Nat) : Int) = k := by omega
  simp only [e1, e2] at this
  exact this
theorem Cf.right {c : Cf} (h : c.ok = true) : r04_Right c.t c.p c.s = true := by
  have := Cf.ok_iff.1 h
  simp only [r04_Right, Bool.and_eq_true, decide_eq_true_eq]; omega
theorem page_pgB {c : Cf} (h : c.ok = true) : r04_Page c.t c.p c.s = pgB c.s := by
  unfold r04_Page pgB; rw [Cf.right h]; rfl
theorem of_pgB {c : Cf} (h : c.ok = true) {g o : Int} (hg : 0 ≤ g ∧ g < c.p) (ho : 0 ≤ o ∧ o < pgB c.s) : (r06_Of c.t c.p c.s g o).1 = (g + 1) * pgB c.s + o ∧ (r06_Of c.t c.p c.s g o).2 = true := by
  have h1 := Cf.ok_iff.1 h
  have h2 := (szB_ok h1.2.2 (k := 0) (by omega)).2.2.2.2
  have e : (!r04_Right c.t c.p c.s || decide (g < (0 : Int)) || decide (g ≥ c.p) || decide (o < (0 : Int)) || decide (o ≥ r04_Page c.t c.p c.s)) = false := by
    rw [Cf.right h, page_pgB h]
    simp only [Bool.not_true, Bool.false_or, Bool.or_eq_false_iff, decide_eq_false_iff_not]
    omega
  unfold r06_Of
  rw [e, page_pgB h]
  have h3 : (g + 1) * pgB c.s ≤ 1024 * 1048576 := Int.mul_le_mul (by omega) (by omega) (by omega) (by omega)
  have h4 : 0 ≤ (g + 1) * pgB c.s := Int.mul_nonneg (by omega) (by omega)
  rw [cond_false, w64 (n := g + 1) (by omega), w64 (n := (g + 1) * pgB c.s) (by omega), w64 (by omega)]
  exact ⟨rfl, rfl⟩
theorem at_pgB {c : Cf} (h : c.ok = true) {k g j : Int} (hk : 0 ≤ k ∧ k ≤ 8) (hg : 0 ≤ g ∧ g < c.p) (hj : 0 ≤ j ∧ j < kSlots k) : (r06_At c.t c.p c.s k g j).1 = (g + 1) * pgB c.s + j * szB c.s k ∧ (r06_At c.t c.p c.s k g j).2 = true := by
  have h1 := Cf.ok_iff.1 h
  obtain ⟨e, e2, e3, e4, e5, e6, _⟩ := szB_ok h1.2.2 hk
  have e0 : (decide (j < (0 : Int)) || decide (j ≥ r05_Slots k)) = false := by
    rw [r05_Slots_eq]
    simp only [Bool.or_eq_false_iff, decide_eq_false_iff_not]; omega
  have f1 : 0 ≤ j * szB c.s k := Int.mul_nonneg hj.1 (by omega)
  have f2 : (j + 1) * szB c.s k ≤ kSlots k * szB c.s k := Int.mul_le_mul_of_nonneg_right (by omega) (by omega)
  have f3 : (j + 1) * szB c.s k = j * szB c.s k + szB c.s k := by rw [Int.add_mul, Int.one_mul]
  have f4 : kSlots k * szB c.s k = szB c.s k * kSlots k := Int.mul_comm _ _
  unfold r06_At
  rw [e0, e, cond_false, w64 (n := j * szB c.s k) (by omega)]
  obtain ⟨g1, g2⟩ := of_pgB h hg (o := j * szB c.s k) (by omega)
  exact ⟨g1, g2⟩
section
variable (c : Cf) (xs : List Int)
def slabKind (g j : Int) : Int := bif bitAt (cel xs (c.slots g)) j then 2 else bif bitAt (cel xs (c.taken g)) j then 4 else 3
def slabPt (g k j : Int) : Pt := ⟨slabKind c xs g j, (g + 1) * pgB c.s + j * szB c.s k, szB c.s k⟩
def slabF (g k : Int) : Nat → List Pt
  | 0 => []
  | n + 1 => slabF g k n ++ [slabPt c xs g k n]
theorem slabF_len (g k : Int) : ∀ n, (slabF c xs g k n).length = n
  | 0 => rfl
  | n + 1 => by rw [slabF, List.length_append, slabF_len g k n]; rfl
def slabRest (k : Int) : Int := pgB c.s - szB c.s k * kSlots k
def slabL (g k : Int) : List Pt := bif decide (0 < slabRest c k) then slabF c xs g k (kSlots k).toNat ++ [⟨5, (g + 1) * pgB c.s + szB c.s k * kSlots k, slabRest c k⟩] else slabF c xs g k (kSlots k).toNat
def partsOf (g : Int) : List Pt :=
  let i := aInfo c xs g
  bif i.k == 1 || i.k == 2 then [⟨i.k, (g + 1) * pgB c.s, i.l * pgB c.s⟩] else bif i.k == 3 then slabL c xs g i.c else []
theorem slabKind_of {g j : Int} {b1 b2 : Bool} (h1 : bitAt (cel xs (c.slots g)) j = b1) (h2 : bitAt (cel xs (c.taken g)) j = b2) : slabKind c xs g j = bif b1 then 2 else bif b2 then 4 else 3 := by unfold slabKind; rw [h1, h2]
def partsF : Nat → List Pt
  | 0 => []
  | n + 1 => partsF n ++ partsOf c xs n
theorem slabL_len (g k : Int) : (slabL c xs g k).length ≤ 33 := by
  have := (kSlots_bd k).2
  unfold slabL
  cases decide (0 < slabRest c k) with
  | true => simp only [cond_true, List.length_append, slabF_len, List.length_singleton]; omega
  | false => simp only [cond_false, slabF_len]; omega
theorem partsOf_len (g : Int) : (partsOf c xs g).length ≤ 33 := by
  unfold partsOf
  simp only
  cases (aInfo c xs g).k == 1 || (aInfo c xs g).k == 2 with
  | true => simp
  | false =>
    simp only [cond_false]
    cases (aInfo c xs g).k == 3 with
    | true => exact slabL_len c xs g _
    | false => simp
theorem partsF_len : ∀ n : Nat, (partsF c xs n).length ≤ 33 * n
  | 0 => Nat.le_refl _
  | n + 1 => by
    have h1 := partsF_len n
    have h2 := partsOf_len c xs n
    rw [partsF, List.length_append]; omega
theorem partsOf_one {g : Int} (h : ((aInfo c xs g).k == 1 || (aInfo c xs g).k == 2) = true) : partsOf c xs g = [⟨(aInfo c xs g).k, (g + 1) * pgB c.s, (aInfo c xs g).l * pgB c.s⟩] := by simp only [partsOf, h, cond_true]
theorem partsOf_slab {g : Int} (h : ((aInfo c xs g).k == 3) = true) : partsOf c xs g = slabL c xs g (aInfo c xs g).c := by
  have e : ((aInfo c xs g).k == 1 || (aInfo c xs g).k == 2) = false := by
    simp only [beq_iff_eq] at h; rw [h]; rfl
  simp only [partsOf, e, h, cond_true, cond_false]
theorem partsOf_none {g : Int} (h1 : ((aInfo c xs g).k == 1) = false) (h2 : ((aInfo c xs g).k == 2) = false) (h3 : ((aInfo c xs g).k == 3) = false) : partsOf c xs g = [] := by simp only [partsOf, h1, h2, h3, Bool.or_self, cond_false]
def partsL : List Pt := partsF c xs c.p.toNat
def blocksL : List Pt := (partsL c xs).filter fun x => x.k == 2
def rootsF (l : List Int) : Nat → Bool
  | 0 => true
  | k + 1 =>
    let a := cel xs (cRoot (8 - (k + 1 : Nat)))
    bif a != 0 && !l.contains a then false else rootsF l k
def rootsOk : Bool := rootsF xs ((blocksL c xs).map (·.a)) 8
def checkA : Int × Bool :=
  bif !c.ok || ((xs.length : Int) != c.cells) then (1, false) else
  bif !tiles c xs then (2, false) else
  bif !feet c xs then (3, false) else
  bif !apart c xs then (4, false) else
  bif !slotsOk c xs then (5, false) else
  bif !bins c xs then (6, false) else
  bif !racks c xs then (7, false) else
  bif !loose c xs then (8, false) else
  bif !counts c xs then (9, false) else
  bif !rootsOk c xs then (10, false) else (0, true)
def soundA : Bool := (checkA c xs).2
theorem blk_step (P : List Pt) {i : Nat} (h : i < P.length) : (P.take (i + 1)).filter (fun x => x.k == 2) = (P.take i).filter (fun x => x.k == 2) ++ bif (P.map (·.k)).getD i 0 == 2 then [⟨(P.map (·.k)).getD i 0, (P.map (·.a)).getD i 0, (P.map (·.s)).getD i 0⟩] else [] := by
  have e : ∀ f : Pt → Int, (P.map f).getD i 0 = f P[i] := fun f => by
    rw [List.getD_eq_getElem?_getD, List.getElem?_map, List.getElem?_eq_getElem h]; rfl
  rw [List.take_add_one, List.filter_append, e, e, e, List.getElem?_eq_getElem h]
  congr 1
theorem partsL_len : (partsL c xs).length ≤ 33 * c.p.toNat := partsF_len c xs _
theorem blocksL_len : (blocksL c xs).length ≤ 33 * c.p.toNat := Nat.le_trans (List.length_filter_le _ _) (partsL_len c xs)
def bdAll (xs : List Int) : Prop := ∀ v ∈ xs, bd32 v
theorem rootA_eq (k : Int) (h : bdAll xs) : bd32 (cel xs k) := by
  unfold cel
  rw [List.getD_eq_getElem?_getD]
  cases e : xs[k.toNat]? with
  | none => exact ⟨by decide, by decide⟩
  | some v => exact h v (List.mem_of_getElem? e)
def rootA (k : Int) : Int := cel xs (cRoot k)
def stateA : List Int × List Int × Int × Int × Int × Int × Int × Int × Int × Int × Bool :=
  bif soundA c xs then ((blocksL c xs).map (·.a), (blocksL c xs).map (·.s), rootA xs 0, rootA xs 1, rootA xs 2, rootA xs 3, rootA xs 4, rootA xs 5, rootA xs 6, rootA xs 7, true) else ([], [], 0, 0, 0, 0, 0, 0, 0, 0, false)
def soundB : Bool := c.ok && (xs.length == c.cells) && tiles c xs && feet c xs && apart c xs && slotsOk c xs && bins c xs && racks c xs && loose c xs && counts c xs && rootsOk c xs
theorem soundA_eq : soundA c xs = soundB c xs := by
  unfold soundA checkA soundB bne
  cases c.ok <;> cases (xs.length : Int) == c.cells <;> cases tiles c xs <;> cases feet c xs <;> cases apart c xs <;> cases slotsOk c xs <;> cases bins c xs <;> cases racks c xs <;> cases loose c xs <;> cases counts c xs <;> cases rootsOk c xs <;> rfl
end
end Go.Sl
namespace Go.Proofs.YtajcpopikdpcmaaGreat
open Go.Sl
def x_slab (t : Int) (p : Int) (sh : Int) (xs : List Int) (g : Int) (k : Int) : List Int × List Int × List Int := ((slabL ⟨t, p, sh⟩ xs g k).map (·.k), (slabL ⟨t, p, sh⟩ xs g k).map (·.a), (slabL ⟨t, p, sh⟩ xs g k).map (·.s))
abbrev c_x_slab : Ct Sg := ⟨none, false, [.agg [.i .i64, .i .i64, .i .i64, .ro [some .u32]], .i .i64, .i .i64], .new 112 [some .i64, some .i64, some .i64]⟩
def e_x_slab : Entry Sg := entC c_x_slab x_slab (fun t p sh xs g k => [AGood ⟨t, p, sh⟩ xs, 0 ≤ g ∧ g < p, 0 ≤ k ∧ k ≤ 8])
def x_slab_w (t : Int) (p : Int) (sh : Int) (xs : List Int) (g : Int) (k : Int) (Q0 : Int → Nat → List Int → List Int → List Int → Prop) (R_ : List Int × List Int × List Int → Prop) : Prop := (Q0 ((0 : Int)) ((0 : Nat)) ([]) ([]) ([]))
def x_slab_w0 (t : Int) (p : Int) (sh : Int) (xs : List Int) (g : Int) (k : Int) (s : Int) (n1 : Nat) (ks : List Int) (zs : List Int) (ss : List Int) (Q0 : Int → Nat → List Int → List Int → List Int → Prop) (R_ : List Int × List Int × List Int → Prop) : Prop := (((decide (s < r05_Slots k)) = true → ((AGood { t := t, p := p, s := sh } xs) ∧ ((AGood { t := t, p := p, s := sh } xs) → (((0 : Int) ≤ g ∧ g < p) ∧ (((0 : Int) ≤ g ∧ g < p) → (((r01_Bit (x_Taken t p sh xs g) s) = true → ((AGood { t := t, p := p, s := sh } xs) ∧ ((AGood { t := t, p := p, s := sh } xs) → (((0 : Int) ≤ g ∧ g < p) ∧ (((0 : Int) ≤ g ∧ g < p) → (((r01_Bit (x_Slots t p sh xs g) s) = true → (((n1 + (1 : Nat)) * (24 : Nat) ≤ (140737488355328 : Nat)) ∧ (((n1 + (1 : Nat)) * (24 : Nat) ≤ (140737488355328 : Nat)) → (Q0 (IntKind.wrap IntKind.i64 (s + (1 : Int))) (n1 + (1 : Nat)) (ks ++ [(2 : Int)]) (zs ++ [Prod.fst (r06_At t p sh k g s)]) (ss ++ [r05_Size sh k]))))) ∧ ((r01_Bit (x_Slots t p sh xs g) s) = false → (((n1 + (1 : Nat)) * (24 : Nat) ≤ (140737488355328 : Nat)) ∧ (((n1 + (1 : Nat)) * (24 : Nat) ≤ (140737488355328 : Nat)) → (Q0 (IntKind.wrap IntKind.i64 (s + (1 : Int))) (n1 + (1 : Nat)) (ks ++ [(4 : Int)]) (zs ++ [Prod.fst (r06_At t p sh k g s)]) (ss ++ [r05_Size sh k]))))))))))) ∧ ((r01_Bit (x_Taken t p sh xs g) s) = false → ((AGood { t := t, p := p, s := sh } xs) ∧ ((AGood { t := t, p := p, s := sh } xs) → (((0 : Int) ≤ g ∧ g < p) ∧ (((0 : Int) ≤ g ∧ g < p) → (((r01_Bit (x_Slots t p sh xs g) s) = true → (((n1 + (1 : Nat)) * (24 : Nat) ≤ (140737488355328 : Nat)) ∧ (((n1 + (1 : Nat)) * (24 : Nat) ≤ (140737488355328 : Nat)) → (Q0 (IntKind.wrap IntKind.i64 (s + (1 : Int))) (n1 + (1 : Nat)) (ks ++ [(2 : Int)]) (zs ++ [Prod.fst (r06_At t p sh k g s)]) (ss ++ [r05_Size sh k]))))) ∧ ((r01_Bit (x_Slots t p sh xs g) s) = false → (((n1 + (1 : Nat)) * (24 : Nat) ≤ (140737488355328 : Nat)) ∧ (((n1 + (1 : Nat)) * (24 : Nat) ≤ (140737488355328 : Nat)) → (Q0 (IntKind.wrap IntKind.i64 (s + (1 : Int))) (n1 + (1 : Nat)) (ks ++ [(3 : Int)]) (zs ++ [Prod.fst (r06_At t p sh k g s)]) (ss ++ [r05_Size sh k]))))))))))))))))) ∧ ((decide (s < r05_Slots k)) = false → (((decide (IntKind.wrap IntKind.i64 (r04_Page t p sh - IntKind.wrap IntKind.i64 (r05_Size sh k * r05_Slots k)) > (0 : Int))) = true → (((n1 + (1 : Nat)) * (24 : Nat) ≤ (140737488355328 : Nat)) ∧ (((n1 + (1 : Nat)) * (24 : Nat) ≤ (140737488355328 : Nat)) → (R_ ((ks ++ [(5 : Int)], zs ++ [Prod.fst (r06_Of t p sh g (IntKind.wrap IntKind.i64 (r04_Page t p sh - IntKind.wrap IntKind.i64 (r04_Page t p sh - IntKind.wrap IntKind.i64 (r05_Size sh k * r05_Slots k)))))], ss ++ [IntKind.wrap IntKind.i64 (r04_Page t p sh - IntKind.wrap IntKind.i64 (r05_Size sh k * r05_Slots k))])))))) ∧ ((decide (IntKind.wrap IntKind.i64 (r04_Page t p sh - IntKind.wrap IntKind.i64 (r05_Size sh k * r05_Slots k)) > (0 : Int))) = false → (R_ ((ks, zs, ss)))))))
def x_slab_I0 (t : Int) (p : Int) (sh : Int) (xs : List Int) (g : Int) (k : Int) (s : Int) (n1 : Nat) (ks : List Int) (zs : List Int) (ss : List Int) (r_ : List Int × List Int × List Int) : Prop := 0 ≤ s ∧ s ≤ kSlots k ∧ n1 = ks.length ∧ ks = (slabF ⟨t, p, sh⟩ xs g k s.toNat).map (·.k) ∧ zs = (slabF ⟨t, p, sh⟩ xs g k s.toNat).map (·.a) ∧ ss = (slabF ⟨t, p, sh⟩ xs g k s.toNat).map (·.s) ∧ r_ = x_slab t p sh xs g k
theorem x_slab_begin (t : Int) (p : Int) (sh : Int) (xs : List Int) (g : Int) (k : Int) (hp0 : AGood ⟨t, p, sh⟩ xs) (hp1 : 0 ≤ g ∧ g < p) (hp2 : 0 ≤ k ∧ k ≤ 8) (hl0 : xs.length ≤ 9223372036854775807) : x_slab_w t p sh xs g k (fun s' n1' ks' zs' ss' => x_slab_I0 t p sh xs g k s' n1' ks' zs' ss' (x_slab t p sh xs g k)) (fun r__ => r__ = (x_slab t p sh xs g k)) := by
  unfold x_slab_w
  try unfold x_slab_I0
  exact ⟨by omega, (kSlots_bd k).1, rfl, rfl, rfl, rfl, rfl⟩
theorem x_slab_step0 (t : Int) (p : Int) (sh : Int) (xs : List Int) (g : Int) (k : Int) (hp0 : AGood ⟨t, p, sh⟩ xs) (hp1 : 0 ≤ g ∧ g < p) (hp2 : 0 ≤ k ∧ k ≤ 8) (hl0 : xs.length ≤ 9223372036854775807) (s : Int) (n1 : Nat) (ks : List Int) (zs : List Int) (ss : List Int) {r_ : List Int × List Int × List Int} (hI : x_slab_I0 t p sh xs g k s n1 ks zs ss r_) : x_slab_w0 t p sh xs g k s n1 ks zs ss (fun s' n1' ks' zs' ss' => x_slab_I0 t p sh xs g k s' n1' ks' zs' ss' r_ ∧ lx ((kSlots k - s').toNat, 0, 0) ((kSlots k - s).toNat, 0, 0)) (fun r__ => r__ = r_) := by
  unfold x_slab_I0 at hI
  unfold x_slab_w0
  try unfold x_slab_I0
  obtain ⟨h0, h1, h2, h3, h4, h5, hr⟩ := hI
  have hok := Cf.ok_iff.1 hp0.ok
  simp only at hok
  have hkb := kSlots_bd k
  obtain ⟨s1, s2, s3, s4, s5, s6, _⟩ := szB_ok hok.2.2 hp2
  have hlen : ks.length = s.toNat := by rw [h3, List.length_map, slabF_len]
  refine ⟨fun h => ?_, fun h => ?_⟩
  · rw [r05_Slots_eq] at h
    simp only [decide_eq_true_eq] at h
    have hb1 : r01_Bit (x_Taken t p sh xs g) s = bitAt (cel xs (Cf.taken ⟨t, p, sh⟩ g)) s := bit_eq (cel_bd hp0 _) s
    have hb2 : r01_Bit (x_Slots t p sh xs g) s = bitAt (cel xs (Cf.slots ⟨t, p, sh⟩ g)) s := bit_eq (cel_bd hp0 _) s
    obtain ⟨ha, _⟩ := at_pgB hp0.ok (k := k) (g := g) (j := s) hp2 hp1 ⟨h0, h⟩
    simp only at ha
    rw [w64 (n := s + 1) (by omega), hb1, hb2, ha, s1]
    have es : (s + 1).toNat = s.toNat + 1 := by omega
    have ei : ((s.toNat : Nat) : Int) = s := by omega
    have hst0 : slabF ⟨t, p, sh⟩ xs g k (s + 1).toNat = slabF ⟨t, p, sh⟩ xs g k s.toNat ++ [slabPt ⟨t, p, sh⟩ xs g k s] := by rw [es, slabF, ei]
    have fin : ∀ kd, kd = slabKind ⟨t, p, sh⟩ xs g s → (n1 + 1) * 24 ≤ 140737488355328 ∧ ((0 ≤ s + 1 ∧ s + 1 ≤ kSlots k ∧ n1 + 1 = (ks ++ [kd]).length ∧ ks ++ [kd] = (slabF ⟨t, p, sh⟩ xs g k (s + 1).toNat).map (·.k) ∧ zs ++ [(g + 1) * pgB sh + s * szB sh k] = (slabF ⟨t, p, sh⟩ xs g k (s + 1).toNat).map (·.a) ∧ ss ++ [szB sh k] = (slabF ⟨t, p, sh⟩ xs g k (s + 1).toNat).map (·.s) ∧ r_ = x_slab t p sh xs g k) ∧ lx ((kSlots k - (s + 1)).toNat, 0, 0) ((kSlots k - s).toNat, 0, 0)) := by
      rintro kd rfl
      refine ⟨by omega, ⟨by omega, by omega, by simp [h2], ?_, ?_, ?_, hr⟩, lxo_⟩ <;> rw [hst0, List.map_append]
      · rw [← h3]; rfl
      · rw [← h4]; rfl
      · rw [← h5]; rfl
    refine ⟨hp0, fun _ => ⟨hp1, fun _ => ⟨fun c1 => ⟨hp0, fun _ => ⟨hp1, fun _ => ⟨fun c2 => ?_, fun c2 => ?_⟩⟩⟩, fun c1 => ⟨hp0, fun _ => ⟨hp1, fun _ => ⟨fun c2 => ?_, fun c2 => ?_⟩⟩⟩⟩⟩⟩
    · obtain ⟨a, b⟩ := fin 2 (slabKind_of _ _ c2 c1).symm; exact ⟨a, fun _ => b⟩
    · obtain ⟨a, b⟩ := fin 4 (slabKind_of _ _ c2 c1).symm; exact ⟨a, fun _ => b⟩
    · obtain ⟨a, b⟩ := fin 2 (slabKind_of _ _ c2 c1).symm; exact ⟨a, fun _ => b⟩
    · obtain ⟨a, b⟩ := fin 3 (slabKind_of _ _ c2 c1).symm; exact ⟨a, fun _ => b⟩
  · rw [r05_Slots_eq] at h
    simp only [decide_eq_false_iff_not] at h
    have e : s.toNat = (kSlots k).toNat := by omega
    have hpg : r04_Page t p sh = pgB sh := page_pgB hp0.ok
    have hz : 0 ≤ szB sh k * kSlots k := Int.mul_nonneg (by omega) (by omega)
    have w1 : IntKind.i64.wrap (szB sh k * kSlots k) = szB sh k * kSlots k := w64 (by omega)
    have w2 : IntKind.i64.wrap (pgB sh - szB sh k * kSlots k) = slabRest ⟨t, p, sh⟩ k := w64 (by omega)
    have hre : slabRest ⟨t, p, sh⟩ k = pgB sh - szB sh k * kSlots k := rfl
    rw [hpg, s1, r05_Slots_eq, w1, w2]
    have w3 : IntKind.i64.wrap (pgB sh - slabRest ⟨t, p, sh⟩ k) = szB sh k * kSlots k := by rw [hre, w64 (by omega)]; omega
    rw [w3]
    rw [e] at h3 h4 h5
    refine ⟨fun hc => ⟨by omega, fun _ => ?_⟩, fun hc => ?_⟩
    · obtain ⟨ha, _⟩ := of_pgB hp0.ok (g := g) (o := szB sh k * kSlots k) hp1 (by simp only [gt_iff_lt, decide_eq_true_eq] at hc; show 0 ≤ _ ∧ _ < pgB sh; omega)
      simp only at ha
      rw [ha]
      show _ = _
      have hc' : decide (0 < slabRest ⟨t, p, sh⟩ k) = true := hc
      rw [hr, x_slab, slabL, hc', cond_true, h3, h4, h5]
      simp only [List.map_append]; rfl
    · have hc' : decide (0 < slabRest ⟨t, p, sh⟩ k) = false := hc
      show _ = _
      rw [hr, x_slab, slabL, hc', cond_false, h3, h4, h5]
theorem x_slab_ok : EntryOk Dg Tryz.prog 138 e_x_slab :=
  ent_wp Dg T_x_feet_ok (I := [1643000000009, 1643000000008, 1643000000007, 1643000000003, 1643000000001, 1643000000002]) Tryz.func138 mix (B := bodyOf Tryz.f138) (by kernel_rfl) rfl (by kernel_rfl) 400
    fun p0 t p sh xs g k hb hp => have hl0 : xs.length ≤ 9223372036854775807 := hb.1.2.2.2.1; have hp0 : AGood ⟨t, p, sh⟩ xs := hp _ (.head _); have hp1 : 0 ≤ g ∧ g < p := hp _ (.tail _ (.head _)); have hp2 : 0 ≤ k ∧ k ≤ 8 := hp _ (.tail _ (.tail _ (.head _))); ⟨[⟨none, [0,1,0,1,1,1], [.blk 0, .code [1,1,1,1]], [9, 8, 7, 3, 1, 2], [.i .i64, .ic .i64 (r05_Size sh k), .own 112 [some .i64, some .i64, some .i64], .box 29 [.ic .i64 (t), .ic .i64 (p), .ic .i64 (sh), .roc [.ints .u32 (xs)]], .ic .i64 (g), .ic .i64 (k)]⟩], fun j => List.getD [appC (Hd.kd (⟨none, [0,1,0,1,1,1], [.blk 0, .code [1,1,1,1]], [9, 8, 7, 3, 1, 2], [.i .i64, .ic .i64 (r05_Size sh k), .own 112 [some .i64, some .i64, some .i64], .box 29 [.ic .i64 (t), .ic .i64 (p), .ic .i64 (sh), .roc [.ints .u32 (xs)]], .ic .i64 (g), .ic .i64 (k)]⟩ : Hd Sg)) (fun s' n1' ks' zs' ss' => x_slab_I0 t p sh xs g k s' n1' ks' zs' ss' (x_slab t p sh xs g k))] j (fun _ => False), fun j => List.getD [appC (Hd.kd (⟨none, [0,1,0,1,1,1], [.blk 0, .code [1,1,1,1]], [9, 8, 7, 3, 1, 2], [.i .i64, .ic .i64 (r05_Size sh k), .own 112 [some .i64, some .i64, some .i64], .box 29 [.ic .i64 (t), .ic .i64 (p), .ic .i64 (sh), .roc [.ints .u32 (xs)]], .ic .i64 (g), .ic .i64 (k)]⟩ : Hd Sg)) (fun s' n1' ks' zs' ss' => ((kSlots k - s').toNat, 0, 0))] j (fun _ => (0, 0, 0)), by kernel_rfl, ⟨x_slab_w t p sh xs g k (fun s' n1' ks' zs' ss' => x_slab_I0 t p sh xs g k s' n1' ks' zs' ss' (x_slab t p sh xs g k)) (fun r__ => r__ = (x_slab t p sh xs g k)), fun _ _ _ => by kernel_rfl, x_slab_begin t p sh xs g k hp0 hp1 hp2 hl0 ⟩, ⟨fun s n1 ks zs ss hI => ⟨x_slab_w0 t p sh xs g k s n1 ks zs ss (fun s' n1' ks' zs' ss' => x_slab_I0 t p sh xs g k s' n1' ks' zs' ss' (x_slab t p sh xs g k) ∧ lx ((kSlots k - s').toNat, 0, 0) ((kSlots k - s).toNat, 0, 0)) (fun r__ => r__ = (x_slab t p sh xs g k)), fun _ _ _ => by kernel_rfl, x_slab_step0 t p sh xs g k hp0 hp1 hp2 hl0 s n1 ks zs ss hI⟩, trivial⟩⟩
def T_x_slab : List (Nat × Entry Sg) := (138, e_x_slab) :: T_x_feet
theorem T_x_slab_ok : TableOk Dg Tryz.prog T_x_slab := TableOk.cons Dg x_slab_ok T_x_feet_ok
def x_parts (t : Int) (p : Int) (sh : Int) (xs : List Int) : List Int × List Int × List Int := ((partsL ⟨t, p, sh⟩ xs).map (·.k), (partsL ⟨t, p, sh⟩ xs).map (·.a), (partsL ⟨t, p, sh⟩ xs).map (·.s))
abbrev c_x_parts : Ct Sg := ⟨none, false, [.agg [.i .i64, .i .i64, .i .i64, .ro [some .u32]]], .new 112 [some .i64, some .i64, some .i64]⟩
def e_x_parts : Entry Sg := entC c_x_parts x_parts (fun t p sh xs => [AGood ⟨t, p, sh⟩ xs])
def x_parts_w (t : Int) (p : Int) (sh : Int) (xs : List Int) (Q0 : Int → Nat → List Int → List Int → List Int → Prop) (R_ : List Int × List Int × List Int → Prop) : Prop := (Q0 ((0 : Int)) ((0 : Nat)) ([]) ([]) ([]))
def x_parts_w0 (t : Int) (p : Int) (sh : Int) (xs : List Int) (i : Int) (n1 : Nat) (ks : List Int) (zs : List Int) (ss : List Int) (Q0 : Int → Nat → List Int → List Int → List Int → Prop) (R_ : List Int × List Int × List Int → Prop) : Prop := (((decide (i < p)) = true → ((AGood { t := t, p := p, s := sh } xs) ∧ ((AGood { t := t, p := p, s := sh } xs) → (((0 : Int) ≤ i ∧ i < p) ∧ (((0 : Int) ≤ i ∧ i < p) → (((Prod.fst (x_Info t p sh xs i) == (1 : Int)) = true → (((Prod.fst (x_Info t p sh xs i) == (1 : Int)) = true → (tw_ (((n1 + (1 : Nat)) * (24 : Nat) ≤ (140737488355328 : Nat)) ∧ (((n1 + (1 : Nat)) * (24 : Nat) ≤ (140737488355328 : Nat)) → (Q0 (IntKind.wrap IntKind.i64 (i + (1 : Int))) (n1 + (1 : Nat)) (ks ++ [Prod.fst (If.k (aInfo { t := t, p := p, s := sh } xs i), If.l (aInfo { t := t, p := p, s := sh } xs i), If.c (aInfo { t := t, p := p, s := sh } xs i))]) (zs ++ [Prod.fst (r06_Of t p sh i (0 : Int))]) (ss ++ [IntKind.wrap IntKind.i64 (If.l (aInfo { t := t, p := p, s := sh } xs i) * r04_Page t p sh)])))))) ∧ ((Prod.fst (x_Info t p sh xs i) == (1 : Int)) = false → (((Prod.fst (x_Info t p sh xs i) == (3 : Int)) = true → (∀ r7 : List Int × List Int × List Int, r7 = (x_slab t p sh xs i (If.c (aInfo { t := t, p := p, s := sh } xs i))) → ((AGood { t := t, p := p, s := sh } xs) ∧ ((AGood { t := t, p := p, s := sh } xs) → (((0 : Int) ≤ i ∧ i < p) ∧ (((0 : Int) ≤ i ∧ i < p) → (((0 : Int) ≤ Prod.snd (If.l (aInfo { t := t, p := p, s := sh } xs i), If.c (aInfo { t := t, p := p, s := sh } xs i)) ∧ Prod.snd (If.l (aInfo { t := t, p := p, s := sh } xs i), If.c (aInfo { t := t, p := p, s := sh } xs i)) ≤ (8 : Int)) ∧ (((0 : Int) ≤ Prod.snd (If.l (aInfo { t := t, p := p, s := sh } xs i), If.c (aInfo { t := t, p := p, s := sh } xs i)) ∧ Prod.snd (If.l (aInfo { t := t, p := p, s := sh } xs i), If.c (aInfo { t := t, p := p, s := sh } xs i)) ≤ (8 : Int)) → (((n1 + List.length (Prod.fst r7)) * (24 : Nat) ≤ (140737488355328 : Nat)) ∧ (((n1 + List.length (Prod.fst r7)) * (24 : Nat) ≤ (140737488355328 : Nat)) → (Q0 (IntKind.wrap IntKind.i64 (i + (1 : Int))) (n1 + List.length (Prod.fst r7)) (ks ++ Prod.fst r7) (zs ++ Prod.fst (Prod.snd r7)) (ss ++ Prod.snd (Prod.snd r7))))))))))))) ∧ ((Prod.fst (x_Info t p sh xs i) == (3 : Int)) = false → (Q0 (IntKind.wrap IntKind.i64 (i + (1 : Int))) (n1) (ks) (zs) (ss))))))) ∧ ((Prod.fst (x_Info t p sh xs i) == (1 : Int)) = false → (((Prod.fst (x_Info t p sh xs i) == (2 : Int)) = true → (tw_ (((n1 + (1 : Nat)) * (24 : Nat) ≤ (140737488355328 : Nat)) ∧ (((n1 + (1 : Nat)) * (24 : Nat) ≤ (140737488355328 : Nat)) → (Q0 (IntKind.wrap IntKind.i64 (i + (1 : Int))) (n1 + (1 : Nat)) (ks ++ [Prod.fst (If.k (aInfo { t := t, p := p, s := sh } xs i), If.l (aInfo { t := t, p := p, s := sh } xs i), If.c (aInfo { t := t, p := p, s := sh } xs i))]) (zs ++ [Prod.fst (r06_Of t p sh i (0 : Int))]) (ss ++ [IntKind.wrap IntKind.i64 (If.l (aInfo { t := t, p := p, s := sh } xs i) * r04_Page t p sh)])))))) ∧ ((Prod.fst (x_Info t p sh xs i) == (2 : Int)) = false → (((Prod.fst (x_Info t p sh xs i) == (3 : Int)) = true → (∀ r7 : List Int × List Int × List Int, r7 = (x_slab t p sh xs i (If.c (aInfo { t := t, p := p, s := sh } xs i))) → ((AGood { t := t, p := p, s := sh } xs) ∧ ((AGood { t := t, p := p, s := sh } xs) → (((0 : Int) ≤ i ∧ i < p) ∧ (((0 : Int) ≤ i ∧ i < p) → (((0 : Int) ≤ Prod.snd (If.l (aInfo { t := t, p := p, s := sh } xs i), If.c (aInfo { t := t, p := p, s := sh } xs i)) ∧ Prod.snd (If.l (aInfo { t := t, p := p, s := sh } xs i), If.c (aInfo { t := t, p := p, s := sh } xs i)) ≤ (8 : Int)) ∧ (((0 : Int) ≤ Prod.snd (If.l (aInfo { t := t, p := p, s := sh } xs i), If.c (aInfo { t := t, p := p, s := sh } xs i)) ∧ Prod.snd (If.l (aInfo { t := t, p := p, s := sh } xs i), If.c (aInfo { t := t, p := p, s := sh } xs i)) ≤ (8 : Int)) → (((n1 + List.length (Prod.fst r7)) * (24 : Nat) ≤ (140737488355328 : Nat)) ∧ (((n1 + List.length (Prod.fst r7)) * (24 : Nat) ≤ (140737488355328 : Nat)) → (Q0 (IntKind.wrap IntKind.i64 (i + (1 : Int))) (n1 + List.length (Prod.fst r7)) (ks ++ Prod.fst r7) (zs ++ Prod.fst (Prod.snd r7)) (ss ++ Prod.snd (Prod.snd r7))))))))))))) ∧ ((Prod.fst (x_Info t p sh xs i) == (3 : Int)) = false → (Q0 (IntKind.wrap IntKind.i64 (i + (1 : Int))) (n1) (ks) (zs) (ss))))))))))))) ∧ ((decide (i < p)) = false → (R_ ((ks, zs, ss)))))
def x_parts_I0 (t : Int) (p : Int) (sh : Int) (xs : List Int) (i : Int) (n1 : Nat) (ks : List Int) (zs : List Int) (ss : List Int) (r_ : List Int × List Int × List Int) : Prop := 0 ≤ i ∧ i ≤ p ∧ n1 = ks.length ∧ ks = (partsF ⟨t, p, sh⟩ xs i.toNat).map (·.k) ∧ zs = (partsF ⟨t, p, sh⟩ xs i.toNat).map (·.a) ∧ ss = (partsF ⟨t, p, sh⟩ xs i.toNat).map (·.s) ∧ r_ = x_parts t p sh xs
theorem x_parts_begin (t : Int) (p : Int) (sh : Int) (xs : List Int) (hp0 : AGood ⟨t, p, sh⟩ xs) (hl0 : xs.length ≤ 9223372036854775807) : x_parts_w t p sh xs (fun i' n1' ks' zs' ss' => x_parts_I0 t p sh xs i' n1' ks' zs' ss' (x_parts t p sh xs)) (fun r__ => r__ = (x_parts t p sh xs)) := by
  unfold x_parts_w
  try unfold x_parts_I0
  have hok := Cf.ok_iff.1 hp0.ok
  simp only at hok
  exact ⟨by omega, by omega, rfl, rfl, rfl, rfl, rfl⟩
theorem x_parts_step0 (t : Int) (p : Int) (sh : Int) (xs : List Int) (hp0 : AGood ⟨t, p, sh⟩ xs) (hl0 : xs.length ≤ 9223372036854775807) (i : Int) (n1 : Nat) (ks : List Int) (zs : List Int) (ss : List Int) {r_ : List Int × List Int × List Int} (hI : x_parts_I0 t p sh xs i n1 ks zs ss r_) : x_parts_w0 t p sh xs i n1 ks zs ss (fun i' n1' ks' zs' ss' => x_parts_I0 t p sh xs i' n1' ks' zs' ss' r_ ∧ lx ((p - i').toNat, 0, 0) ((p - i).toNat, 0, 0)) (fun r__ => r__ = r_) := by
  unfold x_parts_I0 at hI
  unfold x_parts_w0
  try unfold x_parts_I0
  obtain ⟨h0, h1, h2, h3, h4, h5, hr⟩ := hI
  have hok := Cf.ok_iff.1 hp0.ok
  simp only at hok
  have hlen : ks.length ≤ 33 * i.toNat := by rw [h3, List.length_map]; exact partsF_len _ _ _
  refine ⟨fun h => ?_, fun h => ?_⟩
  · simp only [decide_eq_true_eq] at h
    have hg : 0 ≤ i ∧ i < p := ⟨h0, h⟩
    have hbd := iGet_bd (cel xs (Cf.info ⟨t, p, sh⟩ i))
    have hb1 : 0 ≤ (aInfo ⟨t, p, sh⟩ xs i).l ∧ (aInfo ⟨t, p, sh⟩ xs i).l ≤ 1024 := ⟨hbd.2.2.1, hbd.2.2.2.1⟩
    have hb2 : 0 ≤ (aInfo ⟨t, p, sh⟩ xs i).c ∧ (aInfo ⟨t, p, sh⟩ xs i).c ≤ 8 := ⟨hbd.2.2.2.2.1, hbd.2.2.2.2.2⟩
    have hpb := (szB_ok hok.2.2 (k := 0) (by omega)).2.2.2.2
    obtain ⟨ha, _⟩ := of_pgB hp0.ok (g := i) (o := 0) hg (by show 0 ≤ 0 ∧ 0 < pgB sh; omega)
    simp only [Int.add_zero] at ha
    have hpg : r04_Page t p sh = pgB sh := page_pgB hp0.ok
    have hm1 : 0 ≤ (aInfo ⟨t, p, sh⟩ xs i).l * pgB sh := Int.mul_nonneg hb1.1 (by omega)
    have hm2 : (aInfo ⟨t, p, sh⟩ xs i).l * pgB sh ≤ 1024 * 1048576 := Int.mul_le_mul hb1.2 hpb.2.1 (by omega) (by omega)
    have hst : partsF ⟨t, p, sh⟩ xs (i + 1).toNat = partsF ⟨t, p, sh⟩ xs i.toNat ++ partsOf ⟨t, p, sh⟩ xs i := by
      rw [show (i + 1).toNat = i.toNat + 1 by omega, partsF, show ((i.toNat : Nat) : Int) = i by omega]
    have fin : ∀ (L : List Pt), partsOf ⟨t, p, sh⟩ xs i = L → ∀ (n1' : Nat) (ks' zs' ss' : List Int), n1' = n1 + L.length → ks' = ks ++ L.map (·.k) → zs' = zs ++ L.map (·.a) → ss' = ss ++ L.map (·.s) →
        (0 ≤ i + 1 ∧ i + 1 ≤ p ∧ n1' = ks'.length ∧ ks' = (partsF ⟨t, p, sh⟩ xs (i + 1).toNat).map (·.k) ∧ zs' = (partsF ⟨t, p, sh⟩ xs (i + 1).toNat).map (·.a) ∧ ss' = (partsF ⟨t, p, sh⟩ xs (i + 1).toNat).map (·.s) ∧ r_ = x_parts t p sh xs) ∧ lx ((p - (i + 1)).toNat, 0, 0) ((p - i).toNat, 0, 0) := by
      intro L hL n1' ks' zs' ss' e1 e2 e3 e4
      rw [hst, hL, List.map_append, List.map_append, List.map_append, ← h3, ← h4, ← h5]
      exact ⟨⟨by omega, by omega, by rw [e1, e2, List.length_append, List.length_map, h2], e2, e3, e4, hr⟩, lxo_⟩
    simp only [x_Info]
    rw [w64 (n := i + 1) (by omega), ha, hpg, w64 (n := (aInfo ⟨t, p, sh⟩ xs i).l * pgB sh) (by omega)]
    refine ⟨hp0, fun _ => ⟨hg, fun _ => ?_⟩⟩
    have hsl := slabL_len ⟨t, p, sh⟩ xs i (aInfo ⟨t, p, sh⟩ xs i).c
    have hl2 : (x_slab t p sh xs i (aInfo ⟨t, p, sh⟩ xs i).c).1.length = (slabL ⟨t, p, sh⟩ xs i (aInfo ⟨t, p, sh⟩ xs i).c).length := by simp [x_slab]
    have f1 : ∀ h : ((aInfo ⟨t, p, sh⟩ xs i).k == 1 || (aInfo ⟨t, p, sh⟩ xs i).k == 2) = true, _ := fun h => fin _ (partsOf_one _ _ h) _ _ _ _ rfl rfl rfl rfl
    have f3 : ∀ h : ((aInfo ⟨t, p, sh⟩ xs i).k == 3) = true, _ := fun h => fin _ (partsOf_slab _ _ h) _ _ _ _ rfl rfl rfl rfl
    rw [← hl2] at f3
    have f0 := fun h1 h2 h3 => fin _ (partsOf_none ⟨t, p, sh⟩ xs (g := i) h1 h2 h3) n1 ks zs ss (by simp) (by simp) (by simp) (by simp)
    cases k1 : (aInfo ⟨t, p, sh⟩ xs i).k == 1 <;> cases k2 : (aInfo ⟨t, p, sh⟩ xs i).k == 2 <;> cases k3 : (aInfo ⟨t, p, sh⟩ xs i).k == 3 <;> simp only [true_implies, false_implies, Bool.true_eq_false, Bool.false_eq_true, reduceCtorEq, and_true, true_and, and_self] <;> first
      | exact f0 k1 k2 k3
      | exact ⟨by omega, fun _ => f1 (by rw [k1, k2]; rfl)⟩
      | (refine fun r hr => ?_; subst hr; exact ⟨hp0, fun _ => ⟨hg, fun _ => ⟨hb2, fun _ => ⟨by omega, fun _ => f3 k3⟩⟩⟩⟩)
      | fail
  · simp only [decide_eq_false_iff_not] at h
    have e : i.toNat = p.toNat := by omega
    show _ = _
    rw [hr, x_parts, partsL, h3, h4, h5, e]
theorem x_parts_ok : EntryOk Dg Tryz.prog 115 e_x_parts :=
  ent_wp Dg T_x_slab_ok (I := [411000000004, 411000000003, 411000000001]) Tryz.func115 mix (B := bodyOf Tryz.f115) (by kernel_rfl) rfl (by kernel_rfl) 400
    fun p0 t p sh xs hb hp => have hl0 : xs.length ≤ 9223372036854775807 := hb.1.2.2.2.1; have hp0 : AGood ⟨t, p, sh⟩ xs := hp _ (.head _); ⟨[⟨none, [0,1,0,1,1], [.blk 0, .code [1,1,1]], [4, 3, 1], [.i .i64, .own 112 [some .i64, some .i64, some .i64], .box 29 [.ic .i64 (t), .ic .i64 (p), .ic .i64 (sh), .roc [.ints .u32 (xs)]]]⟩], fun j => List.getD [appC (Hd.kd (⟨none, [0,1,0,1,1], [.blk 0, .code [1,1,1]], [4, 3, 1], [.i .i64, .own 112 [some .i64, some .i64, some .i64], .box 29 [.ic .i64 (t), .ic .i64 (p), .ic .i64 (sh), .roc [.ints .u32 (xs)]]]⟩ : Hd Sg)) (fun i' n1' ks' zs' ss' => x_parts_I0 t p sh xs i' n1' ks' zs' ss' (x_parts t p sh xs))] j (fun _ => False), fun j => List.getD [appC (Hd.kd (⟨none, [0,1,0,1,1], [.blk 0, .code [1,1,1]], [4, 3, 1], [.i .i64, .own 112 [some .i64, some .i64, some .i64], .box 29 [.ic .i64 (t), .ic .i64 (p), .ic .i64 (sh), .roc [.ints .u32 (xs)]]]⟩ : Hd Sg)) (fun i' n1' ks' zs' ss' => ((p - i').toNat, 0, 0))] j (fun _ => (0, 0, 0)), by kernel_rfl, ⟨x_parts_w t p sh xs (fun i' n1' ks' zs' ss' => x_parts_I0 t p sh xs i' n1' ks' zs' ss' (x_parts t p sh xs)) (fun r__ => r__ = (x_parts t p sh xs)), fun _ _ _ => by kernel_rfl, x_parts_begin t p sh xs hp0 hl0 ⟩, ⟨fun i n1 ks zs ss hI => ⟨x_parts_w0 t p sh xs i n1 ks zs ss (fun i' n1' ks' zs' ss' => x_parts_I0 t p sh xs i' n1' ks' zs' ss' (x_parts t p sh xs) ∧ lx ((p - i').toNat, 0, 0) ((p - i).toNat, 0, 0)) (fun r__ => r__ = (x_parts t p sh xs)), fun _ _ _ => by kernel_rfl, x_parts_step0 t p sh xs hp0 hl0 i n1 ks zs ss hI⟩, trivial⟩⟩
def T_x_parts : List (Nat × Entry Sg) := (115, e_x_parts) :: T_x_slab
theorem T_x_parts_ok : TableOk Dg Tryz.prog T_x_parts := TableOk.cons Dg x_parts_ok T_x_slab_ok
end Go.Proofs.YtajcpopikdpcmaaGreat
namespace Go.Proofs.YtajcpopikdpcmaaGreat
open Go.Sl
def x_blocks (t : Int) (p : Int) (sh : Int) (xs : List Int) : List Int × List Int := ((blocksL ⟨t, p, sh⟩ xs).map (·.a), (blocksL ⟨t, p, sh⟩ xs).map (·.s))
abbrev c_x_blocks : Ct Sg := ⟨none, false, [.agg [.i .i64, .i .i64, .i .i64, .ro [some .u32]]], .new 56 [some .i64, some .i64]⟩
def e_x_blocks : Entry Sg := entC c_x_blocks x_blocks (fun t p sh xs => [AGood ⟨t, p, sh⟩ xs])
def x_blocks_w (t : Int) (p : Int) (sh : Int) (xs : List Int) (Q0 : Int → Nat → List Int → List Int → List Int → Nat → List Int → List Int → Prop) (R_ : List Int × List Int → Prop) : Prop := (∀ r2 : List Int × List Int × List Int, r2 = (x_parts t p sh xs) → ((AGood { t := t, p := p, s := sh } xs) ∧ ((AGood { t := t, p := p, s := sh } xs) → (Q0 ((0 : Int)) (List.length (Prod.fst r2)) (Prod.fst r2) (Prod.fst (Prod.snd r2)) (Prod.snd (Prod.snd r2)) ((0 : Nat)) ([]) ([])))))
def x_blocks_w0 (t : Int) (p : Int) (sh : Int) (xs : List Int) (i : Int) (n1 : Nat) (ks : List Int) (zs : List Int) (ss : List Int) (n2 : Nat) (as_ : List Int) (bs : List Int) (Q0 : Int → Nat → List Int → List Int → List Int → Nat → List Int → List Int → Prop) (R_ : List Int × List Int → Prop) : Prop := (((decide (i < (↑n1 : Int))) = true → (((0 : Int) ≤ i ∧ i < (↑n1 : Int)) ∧ (((0 : Int) ≤ i ∧ i < (↑n1 : Int)) → (((List.getD ks (Int.toNat i) (0 : Int) == (2 : Int)) = true → (((0 : Int) ≤ i ∧ i < (↑n1 : Int)) ∧ (((0 : Int) ≤ i ∧ i < (↑n1 : Int)) → (((0 : Int) ≤ i ∧ i < (↑n1 : Int)) ∧ (((0 : Int) ≤ i ∧ i < (↑n1 : Int)) → (tw_ (((n2 + (1 : Nat)) * (16 : Nat) ≤ (140737488355328 : Nat)) ∧ (((n2 + (1 : Nat)) * (16 : Nat) ≤ (140737488355328 : Nat)) → (Q0 (IntKind.wrap IntKind.i64 (i + (1 : Int))) (n1) (ks) (zs) (ss) (n2 + (1 : Nat)) (as_ ++ [List.getD zs (Int.toNat i) (0 : Int)]) (bs ++ [List.getD ss (Int.toNat i) (0 : Int)])))))))))) ∧ ((List.getD ks (Int.toNat i) (0 : Int) == (2 : Int)) = false → (Q0 (IntKind.wrap IntKind.i64 (i + (1 : Int))) (n1) (ks) (zs) (ss) (n2) (as_) (bs))))))) ∧ ((decide (i < (↑n1 : Int))) = false → (R_ ((as_, bs)))))
def x_blocks_I0 (t : Int) (p : Int) (sh : Int) (xs : List Int) (i : Int) (n1 : Nat) (ks : List Int) (zs : List Int) (ss : List Int) (n2 : Nat) (as_ : List Int) (bs : List Int) (r_ : List Int × List Int) : Prop := 0 ≤ i ∧ i ≤ n1 ∧ n1 = (partsL ⟨t, p, sh⟩ xs).length ∧ n1 ≤ 33 * 1024 ∧ ks = (partsL ⟨t, p, sh⟩ xs).map (·.k) ∧ zs = (partsL ⟨t, p, sh⟩ xs).map (·.a) ∧ ss = (partsL ⟨t, p, sh⟩ xs).map (·.s) ∧ n2 = as_.length ∧ n2 ≤ i ∧ as_ = (((partsL ⟨t, p, sh⟩ xs).take i.toNat).filter fun x => x.k == 2).map (·.a) ∧ bs = (((partsL ⟨t, p, sh⟩ xs).take i.toNat).filter fun x => x.k == 2).map (·.s) ∧ r_ = x_blocks t p sh xs
theorem x_blocks_begin (t : Int) (p : Int) (sh : Int) (xs : List Int) (hp0 : AGood ⟨t, p, sh⟩ xs) (hl0 : xs.length ≤ 9223372036854775807) : x_blocks_w t p sh xs (fun i' n1' ks' zs' ss' n2' as_' bs' => x_blocks_I0 t p sh xs i' n1' ks' zs' ss' n2' as_' bs' (x_blocks t p sh xs)) (fun r__ => r__ = (x_blocks t p sh xs)) := by
  unfold x_blocks_w
  try unfold x_blocks_I0
  have hok := Cf.ok_iff.1 hp0.ok
  simp only at hok
  have hl : (partsL ⟨t, p, sh⟩ xs).length ≤ 33 * p.toNat := partsL_len _ _
  rintro r2 rfl
  exact ⟨hp0, fun _ => ⟨by omega, by omega, by simp [x_parts], by simp only [x_parts, List.length_map]; omega, rfl, rfl, rfl, rfl, by omega, by simp, by simp, rfl⟩⟩
theorem x_blocks_step0 (t : Int) (p : Int) (sh : Int) (xs : List Int) (hp0 : AGood ⟨t, p, sh⟩ xs) (hl0 : xs.length ≤ 9223372036854775807) (i : Int) (n1 : Nat) (ks : List Int) (zs : List Int) (ss : List Int) (n2 : Nat) (as_ : List Int) (bs : List Int) {r_ : List Int × List Int} (hI : x_blocks_I0 t p sh xs i n1 ks zs ss n2 as_ bs r_) : x_blocks_w0 t p sh xs i n1 ks zs ss n2 as_ bs (fun i' n1' ks' zs' ss' n2' as_' bs' => x_blocks_I0 t p sh xs i' n1' ks' zs' ss' n2' as_' bs' r_ ∧ lx ((n1' - i').toNat, 0, 0) ((n1 - i).toNat, 0, 0)) (fun r__ => r__ = r_) := by
  unfold x_blocks_I0 at hI
  unfold x_blocks_w0
  try unfold x_blocks_I0
  obtain ⟨h0, h1, h2, hb, h3, h4, h5, h6, h7, h8, h9, hr⟩ := hI
  refine ⟨fun h => ?_, fun h => ?_⟩
  · simp only [decide_eq_true_eq] at h
    have hi : 0 ≤ i ∧ i < (n1 : Int) := ⟨h0, h⟩
    have hs := blk_step (partsL ⟨t, p, sh⟩ xs) (i := i.toNat) (by omega)
    rw [← h3, ← h4, ← h5] at hs
    have es : (i + 1).toNat = i.toNat + 1 := by omega
    rw [w64 (n := i + 1) (by omega)]
    refine ⟨hi, fun _ => ⟨fun hc => ⟨hi, fun _ => ⟨hi, fun _ => ?_⟩⟩, fun hc => ?_⟩⟩
    · rw [hc] at hs
      refine And.intro ?_ ?_ <;> exact ⟨by omega, fun _ => ⟨⟨by omega, by omega, h2, hb, h3, h4, h5, by simp [h6], by omega, by rw [es, hs, List.map_append, ← h8]; rfl, by rw [es, hs, List.map_append, ← h9]; rfl, hr⟩, lxo_⟩⟩
    · rw [hc] at hs
      exact ⟨⟨by omega, by omega, h2, hb, h3, h4, h5, h6, by omega, by rw [es, hs, List.map_append, ← h8]; simp, by rw [es, hs, List.map_append, ← h9]; simp, hr⟩, lxo_⟩
  · simp only [decide_eq_false_iff_not] at h
    show _ = _
    rw [hr, x_blocks, blocksL, h8, h9, List.take_of_length_le (by omega)]
theorem x_blocks_ok : EntryOk Dg Tryz.prog 112 e_x_blocks :=
  ent_wp Dg T_x_parts_ok (I := [1643000000005, 1643000000004, 1643000000003]) Tryz.func112 mix (B := bodyOf Tryz.f112) (by kernel_rfl) rfl (by kernel_rfl) 400
    fun p0 t p sh xs hb hp => have hl0 : xs.length ≤ 9223372036854775807 := hb.1.2.2.2.1; have hp0 : AGood ⟨t, p, sh⟩ xs := hp _ (.head _); ⟨[⟨none, [0,1,0,1,1,1], [.blk 0, .code [1,1,1,1]], [5, 4, 3], [.i .i64, .own 112 [some .i64, some .i64, some .i64], .own 56 [some .i64, some .i64]]⟩], fun j => List.getD [appC (Hd.kd (⟨none, [0,1,0,1,1,1], [.blk 0, .code [1,1,1,1]], [5, 4, 3], [.i .i64, .own 112 [some .i64, some .i64, some .i64], .own 56 [some .i64, some .i64]]⟩ : Hd Sg)) (fun i' n1' ks' zs' ss' n2' as_' bs' => x_blocks_I0 t p sh xs i' n1' ks' zs' ss' n2' as_' bs' (x_blocks t p sh xs))] j (fun _ => False), fun j => List.getD [appC (Hd.kd (⟨none, [0,1,0,1,1,1], [.blk 0, .code [1,1,1,1]], [5, 4, 3], [.i .i64, .own 112 [some .i64, some .i64, some .i64], .own 56 [some .i64, some .i64]]⟩ : Hd Sg)) (fun i' n1' ks' zs' ss' n2' as_' bs' => ((n1' - i').toNat, 0, 0))] j (fun _ => (0, 0, 0)), by kernel_rfl, ⟨x_blocks_w t p sh xs (fun i' n1' ks' zs' ss' n2' as_' bs' => x_blocks_I0 t p sh xs i' n1' ks' zs' ss' n2' as_' bs' (x_blocks t p sh xs)) (fun r__ => r__ = (x_blocks t p sh xs)), fun _ _ _ => by kernel_rfl, x_blocks_begin t p sh xs hp0 hl0 ⟩, ⟨fun i n1 ks zs ss n2 as_ bs hI => ⟨x_blocks_w0 t p sh xs i n1 ks zs ss n2 as_ bs (fun i' n1' ks' zs' ss' n2' as_' bs' => x_blocks_I0 t p sh xs i' n1' ks' zs' ss' n2' as_' bs' (x_blocks t p sh xs) ∧ lx ((n1' - i').toNat, 0, 0) ((n1 - i).toNat, 0, 0)) (fun r__ => r__ = (x_blocks t p sh xs)), fun _ _ _ => by kernel_rfl, x_blocks_step0 t p sh xs hp0 hl0 i n1 ks zs ss n2 as_ bs hI⟩, trivial⟩⟩
def T_x_blocks : List (Nat × Entry Sg) := (112, e_x_blocks) :: T_x_parts
theorem T_x_blocks_ok : TableOk Dg Tryz.prog T_x_blocks := TableOk.cons Dg x_blocks_ok T_x_parts_ok
def x_roots (t : Int) (p : Int) (sh : Int) (xs : List Int) : Bool := rootsOk ⟨t, p, sh⟩ xs
abbrev c_x_roots : Ct Sg := ⟨none, false, [.agg [.i .i64, .i .i64, .i .i64, .ro [some .u32]]], .b⟩
def e_x_roots : Entry Sg := entC c_x_roots x_roots (fun t p sh xs => [AGood ⟨t, p, sh⟩ xs])
def x_roots_w (t : Int) (p : Int) (sh : Int) (xs : List Int) (Q0 : Int → Nat → List Int → List Int → Prop) (R_ : Bool → Prop) : Prop := (∀ r1 : List Int × List Int, r1 = (x_blocks t p sh xs) → ((AGood { t := t, p := p, s := sh } xs) ∧ ((AGood { t := t, p := p, s := sh } xs) → (Q0 ((0 : Int)) (List.length (Prod.fst r1)) (Prod.fst r1) (Prod.snd r1)))))
def x_roots_w0 (t : Int) (p : Int) (sh : Int) (xs : List Int) (i : Int) (n2 : Nat) (as_ : List Int) (bs : List Int) (Q0 : Int → Nat → List Int → List Int → Prop) (R_ : Bool → Prop) : Prop := (((decide (i < (8 : Int))) = true → (((0 : Int) ≤ r07_Root i ∧ r07_Root i < (↑(List.length xs) : Int)) ∧ (((0 : Int) ≤ r07_Root i ∧ r07_Root i < (↑(List.length xs) : Int)) → (((IntKind.wrap IntKind.i64 (List.getD xs (Int.toNat (r07_Root i)) (0 : Int)) != (0 : Int) && !r12_Has as_ bs (IntKind.wrap IntKind.i64 (List.getD xs (Int.toNat (r07_Root i)) (0 : Int)))) = true → (R_ (false))) ∧ ((IntKind.wrap IntKind.i64 (List.getD xs (Int.toNat (r07_Root i)) (0 : Int)) != (0 : Int) && !r12_Has as_ bs (IntKind.wrap IntKind.i64 (List.getD xs (Int.toNat (r07_Root i)) (0 : Int)))) = false → (Q0 (IntKind.wrap IntKind.i64 (i + (1 : Int))) (n2) (as_) (bs))))))) ∧ ((decide (i < (8 : Int))) = false → (R_ (true))))
def x_roots_I0 (t : Int) (p : Int) (sh : Int) (xs : List Int) (i : Int) (n2 : Nat) (as_ : List Int) (bs : List Int) (r_ : Bool) : Prop := 0 ≤ i ∧ i ≤ 8 ∧ n2 = as_.length ∧ as_.length = bs.length ∧ as_.length ≤ 33 * 1024 ∧ rootsF xs as_ (8 - i).toNat = r_
theorem x_roots_begin (t : Int) (p : Int) (sh : Int) (xs : List Int) (hp0 : AGood ⟨t, p, sh⟩ xs) (hl0 : xs.length ≤ 9223372036854775807) : x_roots_w t p sh xs (fun i' n2' as_' bs' => x_roots_I0 t p sh xs i' n2' as_' bs' (x_roots t p sh xs)) (fun r__ => r__ = (x_roots t p sh xs)) := by
  unfold x_roots_w
  try unfold x_roots_I0
  have hok := Cf.ok_iff.1 hp0.ok
  simp only at hok
  have hl : (blocksL ⟨t, p, sh⟩ xs).length ≤ 33 * p.toNat := blocksL_len _ _
  rintro r2 rfl
  exact ⟨hp0, fun _ => ⟨by omega, by omega, rfl, by simp [x_blocks], by simp only [x_blocks, List.length_map]; omega, rfl⟩⟩
theorem x_roots_step0 (t : Int) (p : Int) (sh : Int) (xs : List Int) (hp0 : AGood ⟨t, p, sh⟩ xs) (hl0 : xs.length ≤ 9223372036854775807) (i : Int) (n2 : Nat) (as_ : List Int) (bs : List Int) {r_ : Bool} (hI : x_roots_I0 t p sh xs i n2 as_ bs r_) : x_roots_w0 t p sh xs i n2 as_ bs (fun i' n2' as_' bs' => x_roots_I0 t p sh xs i' n2' as_' bs' r_ ∧ lx ((8 - i').toNat, 0, 0) ((8 - i).toNat, 0, 0)) (fun r__ => r__ = r_) := by
  unfold x_roots_I0 at hI
  unfold x_roots_w0
  try unfold x_roots_I0
  obtain ⟨h0, h1, h2, h3, hb, hr⟩ := hI
  refine ⟨fun h => ?_, fun h => ?_⟩
  · simp only [decide_eq_true_eq] at h
    have hin : 0 ≤ cRoot i ∧ cRoot i < (xs.length : Int) := by
      have h1 := Cf.ok_iff.1 hp0.ok
      have h2 := hp0.len
      unfold Cf.cells at h2
      rw [hp0.ok, cond_true] at h2
      have e : (decide (0 ≤ i) && decide (i < 8)) = true := by simp [h0, h]
      unfold cRoot
      rw [e, cond_true]
      omega
    have hbd := cel_bd hp0 (cRoot i)
    have hbd' : 0 ≤ xs.getD (cRoot i).toNat 0 ∧ xs.getD (cRoot i).toNat 0 < 4294967296 := hbd
    have e : (8 - i).toNat = (8 - (i + 1)).toNat + 1 := by omega
    have ei : (8 : Int) - (((8 - (i + 1)).toNat + 1 : Nat) : Int) = i := by omega
    rw [e] at hr
    simp only [rootsF] at hr
    rw [ei] at hr
    rw [r07_Root_eq, w64 (n := i + 1) (by omega), w64 (n := xs.getD (cRoot i).toNat 0) (by omega)]
    refine ⟨hin, fun _ => ⟨fun hc => ?_, fun hc => ?_⟩⟩
    · have hc' : (cel xs (cRoot i) != 0 && !as_.contains (cel xs (cRoot i))) = true := hc
      rw [hc', cond_true] at hr; exact hr
    · have hc' : (cel xs (cRoot i) != 0 && !as_.contains (cel xs (cRoot i))) = false := hc
      rw [hc', cond_false] at hr
      exact ⟨⟨by omega, by omega, h2, h3, hb, hr⟩, lxo_⟩
  · simp only [decide_eq_false_iff_not] at h
    rw [show (8 - i).toNat = 0 by omega] at hr
    exact hr
theorem x_roots_ok : EntryOk Dg Tryz.prog 98 e_x_roots :=
  ent_wp Dg T_x_blocks_ok (I := [411000000004, 411000000003, 411000000001]) Tryz.func98 mix (B := bodyOf Tryz.f98) (by kernel_rfl) rfl (by kernel_rfl) 400
    fun p0 t p sh xs hb hp => have hl0 : xs.length ≤ 9223372036854775807 := hb.1.2.2.2.1; have hp0 : AGood ⟨t, p, sh⟩ xs := hp _ (.head _); ⟨[⟨none, [0,1,0,1,1], [.blk 0, .code [1,1,1]], [4, 3, 1], [.i .i64, .own 56 [some .i64, some .i64], .box 29 [.ic .i64 (t), .ic .i64 (p), .ic .i64 (sh), .roc [.ints .u32 (xs)]]]⟩], fun j => List.getD [appC (Hd.kd (⟨none, [0,1,0,1,1], [.blk 0, .code [1,1,1]], [4, 3, 1], [.i .i64, .own 56 [some .i64, some .i64], .box 29 [.ic .i64 (t), .ic .i64 (p), .ic .i64 (sh), .roc [.ints .u32 (xs)]]]⟩ : Hd Sg)) (fun i' n2' as_' bs' => x_roots_I0 t p sh xs i' n2' as_' bs' (x_roots t p sh xs))] j (fun _ => False), fun j => List.getD [appC (Hd.kd (⟨none, [0,1,0,1,1], [.blk 0, .code [1,1,1]], [4, 3, 1], [.i .i64, .own 56 [some .i64, some .i64], .box 29 [.ic .i64 (t), .ic .i64 (p), .ic .i64 (sh), .roc [.ints .u32 (xs)]]]⟩ : Hd Sg)) (fun i' n2' as_' bs' => ((8 - i').toNat, 0, 0))] j (fun _ => (0, 0, 0)), by kernel_rfl, ⟨x_roots_w t p sh xs (fun i' n2' as_' bs' => x_roots_I0 t p sh xs i' n2' as_' bs' (x_roots t p sh xs)) (fun r__ => r__ = (x_roots t p sh xs)), fun _ _ _ => by kernel_rfl, x_roots_begin t p sh xs hp0 hl0 ⟩, ⟨fun i n2 as_ bs hI => ⟨x_roots_w0 t p sh xs i n2 as_ bs (fun i' n2' as_' bs' => x_roots_I0 t p sh xs i' n2' as_' bs' (x_roots t p sh xs) ∧ lx ((8 - i').toNat, 0, 0) ((8 - i).toNat, 0, 0)) (fun r__ => r__ = (x_roots t p sh xs)), fun _ _ _ => by kernel_rfl, x_roots_step0 t p sh xs hp0 hl0 i n2 as_ bs hI⟩, trivial⟩⟩
def T_x_roots : List (Nat × Entry Sg) := (98, e_x_roots) :: T_x_blocks
theorem T_x_roots_ok : TableOk Dg Tryz.prog T_x_roots := TableOk.cons Dg x_roots_ok T_x_blocks_ok
def r12_Check (t : Int) (p : Int) (sh : Int) (xs : List Int) : Int × Bool := checkA ⟨t, p, sh⟩ xs
abbrev c_r12_Check : Ct Sg := ⟨none, false, [.agg [.i .i64, .i .i64, .i .i64], .ro [some .u32]], .tup [.i .i64, .b]⟩
def e_r12_Check : Entry Sg := entC c_r12_Check r12_Check (fun t p sh xs => [bdAll xs])
def r12_Check_w (t : Int) (p : Int) (sh : Int) (xs : List Int) (R_ : Int × Bool → Prop) : Prop := (∀ r1 : Bool, r1 = (r04_Right t p sh) → (((!r1 || (↑(List.length xs) : Int) != r07_Cells t p sh) = true → (R_ (((1 : Int), false)))) ∧ ((!r1 || (↑(List.length xs) : Int) != r07_Cells t p sh) = false → (∀ r4 : Bool, r4 = (x_tiles t p sh xs) → ((AGood { t := t, p := p, s := sh } xs) ∧ ((AGood { t := t, p := p, s := sh } xs) → (((!r4) = true → (R_ (((2 : Int), false)))) ∧ ((!r4) = false → (∀ r7 : Bool, r7 = (x_feet t p sh xs) → ((AGood { t := t, p := p, s := sh } xs) ∧ ((AGood { t := t, p := p, s := sh } xs) → ((Prod.snd (starts { t := t, p := p, s := sh } xs) = true) ∧ ((Prod.snd (starts { t := t, p := p, s := sh } xs) = true) → (((!r7) = true → (R_ (((3 : Int), false)))) ∧ ((!r7) = false → (∀ r11 : Bool, r11 = (x_apart t p sh xs) → ((AGood { t := t, p := p, s := sh } xs) ∧ ((AGood { t := t, p := p, s := sh } xs) → (((!r11) = true → (R_ (((4 : Int), false)))) ∧ ((!r11) = false → (∀ r14 : Bool, r14 = (x_slots t p sh xs) → ((AGood { t := t, p := p, s := sh } xs) ∧ ((AGood { t := t, p := p, s := sh } xs) → (((!r14) = true → (R_ (((5 : Int), false)))) ∧ ((!r14) = false → (∀ r17 : Bool, r17 = (x_bins t p sh xs) → ((AGood { t := t, p := p, s := sh } xs) ∧ ((AGood { t := t, p := p, s := sh } xs) → (((!r17) = true → (R_ (((6 : Int), false)))) ∧ ((!r17) = false → (∀ r20 : Bool, r20 = (x_racks t p sh xs) → ((AGood { t := t, p := p, s := sh } xs) ∧ ((AGood { t := t, p := p, s := sh } xs) → (((!r20) = true → (R_ (((7 : Int), false)))) ∧ ((!r20) = false → (∀ r23 : Bool, r23 = (x_loose t p sh xs) → ((AGood { t := t, p := p, s := sh } xs) ∧ ((AGood { t := t, p := p, s := sh } xs) → (((!r23) = true → (R_ (((8 : Int), false)))) ∧ ((!r23) = false → (∀ r26 : Bool, r26 = (x_counts t p sh xs) → ((AGood { t := t, p := p, s := sh } xs) ∧ ((AGood { t := t, p := p, s := sh } xs) → (((!r26) = true → (R_ (((9 : Int), false)))) ∧ ((!r26) = false → (∀ r29 : Bool, r29 = (x_roots t p sh xs) → ((AGood { t := t, p := p, s := sh } xs) ∧ ((AGood { t := t, p := p, s := sh } xs) → (((!r29) = true → (R_ (((10 : Int), false)))) ∧ ((!r29) = false → (R_ (((0 : Int), true)))))))))))))))))))))))))))))))))))))))))))))))))))))
theorem r12_Check_begin (t : Int) (p : Int) (sh : Int) (xs : List Int) (hp0 : bdAll xs) (hl0 : xs.length ≤ 9223372036854775807) : r12_Check_w t p sh xs  (fun r__ => r__ = (r12_Check t p sh xs)) := by
  unfold r12_Check_w
  have hr : r04_Right t p sh = Cf.ok ⟨t, p, sh⟩ := by
    apply Bool.eq_iff_iff.2
    rw [Cf.ok_iff]
    simp only [r04_Right, Bool.and_eq_true, decide_eq_true_eq]; omega
  have hcl : r07_Cells t p sh = Cf.cells ⟨t, p, sh⟩ := by
    unfold r07_Cells Cf.cells
    rw [hr]
    cases h : Cf.ok ⟨t, p, sh⟩ with
    | false => rfl
    | true =>
      have := Cf.ok_iff.1 h
      simp only at this
      show IntKind.i64.wrap _ = 30 + 4 * t + 6 * p
      rw [w64 (n := 4 * t) (by omega), w64 (n := 30 + 4 * t) (by omega), w64 (n := 6 * p) (by omega), w64 (by omega)]
  rintro r1 rfl
  rw [hr, hcl]
  refine ⟨fun hc => ?_, fun hc => ?_⟩
  · show _ = checkA ⟨t, p, sh⟩ xs
    unfold checkA
    rw [hc]; rfl
  have hg : AGood ⟨t, p, sh⟩ xs := by
    simp only [Bool.or_eq_false_iff, Bool.not_eq_false', bne_eq_false_iff_eq] at hc
    exact { ok := hc.1, len := hc.2, bd := hp0 }
  have key : ∀ {r : Int × Bool}, r = checkA ⟨t, p, sh⟩ xs → (fun r__ => r__ = r12_Check t p sh xs) r := fun h => h
  unfold checkA at key
  rw [hc, cond_false] at key
  rintro r rfl
  refine ⟨hg, fun _ => ⟨fun hd => key (by rw [show (!tiles ⟨t, p, sh⟩ xs) = true from hd]; rfl), fun hd => ?_⟩⟩
  have h_tiles : (!tiles ⟨t, p, sh⟩ xs) = false := hd
  rw [h_tiles, cond_false] at key
  rintro r rfl
  have hst : (starts ⟨t, p, sh⟩ xs).2 = true := by
    have h1 : tiles ⟨t, p, sh⟩ xs = true := by simpa using h_tiles
    unfold tiles at h1
    cases hq : (starts ⟨t, p, sh⟩ xs).2 with
    | true => rfl
    | false => rw [hq] at h1; cases h1
  refine ⟨hg, fun _ => ⟨hst, fun _ => ⟨fun hd => key (by rw [show (!feet ⟨t, p, sh⟩ xs) = true from hd]; rfl), fun hd => ?_⟩⟩⟩
  have h_feet : (!feet ⟨t, p, sh⟩ xs) = false := hd
  rw [h_feet, cond_false] at key
  rintro r rfl
  refine ⟨hg, fun _ => ⟨fun hd => key (by rw [show (!apart ⟨t, p, sh⟩ xs) = true from hd]; rfl), fun hd => ?_⟩⟩
  have h_apart : (!apart ⟨t, p, sh⟩ xs) = false := hd
  rw [h_apart, cond_false] at key
  rintro r rfl
  refine ⟨hg, fun _ => ⟨fun hd => key (by rw [show (!slotsOk ⟨t, p, sh⟩ xs) = true from hd]; rfl), fun hd => ?_⟩⟩
  have h_slotsOk : (!slotsOk ⟨t, p, sh⟩ xs) = false := hd
  rw [h_slotsOk, cond_false] at key
  rintro r rfl
  refine ⟨hg, fun _ => ⟨fun hd => key (by rw [show (!bins ⟨t, p, sh⟩ xs) = true from hd]; rfl), fun hd => ?_⟩⟩
  have h_bins : (!bins ⟨t, p, sh⟩ xs) = false := hd
  rw [h_bins, cond_false] at key
  rintro r rfl
  refine ⟨hg, fun _ => ⟨fun hd => key (by rw [show (!racks ⟨t, p, sh⟩ xs) = true from hd]; rfl), fun hd => ?_⟩⟩
  have h_racks : (!racks ⟨t, p, sh⟩ xs) = false := hd
  rw [h_racks, cond_false] at key
  rintro r rfl
  refine ⟨hg, fun _ => ⟨fun hd => key (by rw [show (!loose ⟨t, p, sh⟩ xs) = true from hd]; rfl), fun hd => ?_⟩⟩
  have h_loose : (!loose ⟨t, p, sh⟩ xs) = false := hd
  rw [h_loose, cond_false] at key
  rintro r rfl
  refine ⟨hg, fun _ => ⟨fun hd => key (by rw [show (!counts ⟨t, p, sh⟩ xs) = true from hd]; rfl), fun hd => ?_⟩⟩
  have h_counts : (!counts ⟨t, p, sh⟩ xs) = false := hd
  rw [h_counts, cond_false] at key
  rintro r rfl
  refine ⟨hg, fun _ => ⟨fun hd => key (by rw [show (!rootsOk ⟨t, p, sh⟩ xs) = true from hd]; rfl), fun hd => ?_⟩⟩
  have h_rootsOk : (!rootsOk ⟨t, p, sh⟩ xs) = false := hd
  rw [h_rootsOk, cond_false] at key
  exact key rfl
theorem r12_Check_ok : EntryOk Dg Tryz.prog 45 e_r12_Check :=
  ent_wp Dg T_x_roots_ok (I := [2999998]) Tryz.func45 mix (B := bodyOf Tryz.f45) (by kernel_rfl) rfl (by kernel_rfl) 400
    fun p0 t p sh xs hb hp => have hl0 : xs.length ≤ 9223372036854775807 := hb.2.1; have hp0 : bdAll xs := hp _ (.head _); ⟨[], fun j => List.getD [] j (fun _ => False), fun j => List.getD [] j (fun _ => (0, 0, 0)), by kernel_rfl, ⟨r12_Check_w t p sh xs  (fun r__ => r__ = (r12_Check t p sh xs)), fun _ _ _ => by kernel_rfl, r12_Check_begin t p sh xs hp0 hl0 ⟩, trivial⟩
def T_r12_Check : List (Nat × Entry Sg) := (45, e_r12_Check) :: T_x_roots
theorem T_r12_Check_ok : TableOk Dg Tryz.prog T_r12_Check := TableOk.cons Dg r12_Check_ok T_x_roots_ok
def r12_Sound (t : Int) (p : Int) (sh : Int) (xs : List Int) : Bool := soundA ⟨t, p, sh⟩ xs
abbrev c_r12_Sound : Ct Sg := ⟨none, false, [.agg [.i .i64, .i .i64, .i .i64], .ro [some .u32]], .b⟩
def e_r12_Sound : Entry Sg := entC c_r12_Sound r12_Sound (fun t p sh xs => [bdAll xs])
def r12_Sound_w (t : Int) (p : Int) (sh : Int) (xs : List Int) (R_ : Bool → Prop) : Prop := (∀ r1 : Int × Bool, r1 = (r12_Check t p sh xs) → ((bdAll xs) ∧ ((bdAll xs) → (R_ (Prod.snd r1)))))
theorem r12_Sound_begin (t : Int) (p : Int) (sh : Int) (xs : List Int) (hp0 : bdAll xs) (hl0 : xs.length ≤ 9223372036854775807) : r12_Sound_w t p sh xs  (fun r__ => r__ = (r12_Sound t p sh xs)) := by
  unfold r12_Sound_w
  rintro r rfl
  exact ⟨hp0, fun _ => rfl⟩
theorem r12_Sound_ok : EntryOk Dg Tryz.prog 11 e_r12_Sound :=
  ent_wp Dg T_r12_Check_ok (I := [2999998]) Tryz.func11 mix (B := bodyOf Tryz.f11) (by kernel_rfl) rfl (by kernel_rfl) 400
    fun p0 t p sh xs hb hp => have hl0 : xs.length ≤ 9223372036854775807 := hb.2.1; have hp0 : bdAll xs := hp _ (.head _); ⟨[], fun j => List.getD [] j (fun _ => False), fun j => List.getD [] j (fun _ => (0, 0, 0)), by kernel_rfl, ⟨r12_Sound_w t p sh xs  (fun r__ => r__ = (r12_Sound t p sh xs)), fun _ _ _ => by kernel_rfl, r12_Sound_begin t p sh xs hp0 hl0 ⟩, trivial⟩
def T_r12_Sound : List (Nat × Entry Sg) := (11, e_r12_Sound) :: T_r12_Check
theorem T_r12_Sound_ok : TableOk Dg Tryz.prog T_r12_Sound := TableOk.cons Dg r12_Sound_ok T_r12_Check_ok
def r12_Few (t : Int) (p : Int) (sh : Int) : Bool := decide (p ≤ 64)
def r12_Few_v (t : Int) (p : Int) (sh : Int) : Bool := decide (p ≤ (64 : Int))
abbrev c_r12_Few : Ct Sg := ⟨none, false, [.agg [.i .i64, .i .i64, .i .i64]], .b⟩
def e_r12_Few : Entry Sg := entC c_r12_Few r12_Few (fun _ _ _ => [])
theorem r12_Few_eq (t : Int) (p : Int) (sh : Int) : r12_Few_v t p sh = (r12_Few t p sh) := by
  rfl
theorem r12_Few_ok : EntryOk Dg Tryz.prog 10 e_r12_Few :=
  ent_ok Dg T_r12_Sound_ok (I := []) Tryz.func10 mix (B := bodyOf Tryz.f10) (by kernel_rfl) rfl (by kernel_rfl) 400
    fun _ t p sh hb hp => ⟨(r12_Few_v t p sh), .t, fun _ _ _ => by kernel_rfl, trivial, r12_Few_eq t p sh ⟩
def T_r12_Few : List (Nat × Entry Sg) := (10, e_r12_Few) :: T_r12_Sound
theorem T_r12_Few_ok : TableOk Dg Tryz.prog T_r12_Few := TableOk.cons Dg r12_Few_ok T_r12_Sound_ok
def l14_Eight : Int × Int × Int × List Int := ((1 : Int), (8 : Int), (10 : Int), [(8 : Int), (0 : Int), (0 : Int), (0 : Int), (0 : Int), (1 : Int), (0 : Int), (0 : Int), (0 : Int), (0 : Int), (0 : Int), (0 : Int), (0 : Int), (0 : Int), (0 : Int), (0 : Int), (0 : Int), (0 : Int), (0 : Int), (0 : Int), (0 : Int), (0 : Int), (0 : Int), (0 : Int), (0 : Int), (0 : Int), (0 : Int), (0 : Int), (0 : Int), (0 : Int), (0 : Int), (0 : Int), (0 : Int), (0 : Int), (129 : Int), (0 : Int), (0 : Int), (0 : Int), (0 : Int), (0 : Int), (0 : Int), (0 : Int), (0 : Int), (0 : Int), (0 : Int), (0 : Int), (0 : Int), (0 : Int), (0 : Int), (0 : Int), (0 : Int), (0 : Int), (0 : Int), (0 : Int), (0 : Int), (0 : Int), (0 : Int), (0 : Int), (0 : Int), (0 : Int), (0 : Int), (0 : Int), (0 : Int), (0 : Int), (0 : Int), (0 : Int), (0 : Int), (0 : Int), (0 : Int), (0 : Int), (0 : Int), (0 : Int), (0 : Int), (0 : Int), (0 : Int), (0 : Int), (0 : Int), (1 : Int), (0 : Int), (0 : Int), (0 : Int), (0 : Int)])
abbrev c_l14_Eight : Ct Sg := ⟨none, false, [], .tup [.agg [.i .i64, .i .i64, .i .i64], .new 51 [some .u32]]⟩
def e_l14_Eight : Entry Sg := entC c_l14_Eight l14_Eight ([])
theorem l14_Eight_ok : EntryOk Dg Tryz.prog 46 e_l14_Eight :=
  ent_ok Dg T_r12_Few_ok (I := []) Tryz.func46 mix (B := bodyOf Tryz.f46) (by kernel_rfl) rfl (by kernel_rfl) 400
    fun _  hb hp => ⟨l14_Eight, (.need ((0 : Int) ≤ (82 : Int) ∧ (82 : Int) ≤ (82 : Int) ∧ (328 : Int) ≤ (140737488355328 : Int)) (.need ((0 : Int) ≤ (0 : Int) ∧ (0 : Int) < (82 : Int)) (.need ((0 : Int) ≤ (5 : Int) ∧ (5 : Int) < (82 : Int)) (.need ((0 : Int) ≤ (34 : Int) ∧ (34 : Int) < (82 : Int)) (.need ((0 : Int) ≤ (77 : Int) ∧ (77 : Int) < (82 : Int)) .t))))), fun _ _ _ => by kernel_rfl, ⟨(by first | omega | decide), fun z1 => ⟨(by first | omega | decide), fun z3 => ⟨(by first | omega | decide), fun z4 => ⟨(by first | omega | decide), fun z5 => ⟨(by first | omega | decide), fun z6 => trivial⟩⟩⟩⟩⟩, rfl⟩
def T_l14_Eight : List (Nat × Entry Sg) := (46, e_l14_Eight) :: T_r12_Few
theorem T_l14_Eight_ok : TableOk Dg Tryz.prog T_l14_Eight := TableOk.cons Dg l14_Eight_ok T_r12_Few_ok
end Go.Proofs.YtajcpopikdpcmaaGreat
namespace Go.Proofs.YtajcpopikdpcmaaGreat
open Go.Sl
theorem sound_good {c : Cf} {xs : List Int} (h : soundA c xs = true) (hb : bdAll xs) : AGood c xs := by
  rw [soundA_eq] at h
  unfold soundB at h
  simp only [Bool.and_eq_true, beq_iff_eq] at h
  exact { ok := h.1.1.1.1.1.1.1.1.1.1, len := h.1.1.1.1.1.1.1.1.1.2, bd := hb }
theorem wcel {xs : List Int} (h : bdAll xs) (k : Int) : IntKind.i64.wrap (xs.getD k.toNat 0) = cel xs k := by
  have := rootA_eq xs k h
  unfold bd32 at this
  exact w64 (n := cel xs k) (by omega)
theorem good_long {c : Cf} {xs : List Int} (h : AGood c xs) : 30 ≤ (xs.length : Int) ∧ xs.length ≤ 1000000 := by
  have h1 := Cf.ok_iff.1 h.ok
  have h2 := h.len
  rw [show c.cells = 30 + 4 * c.t + 6 * c.p by unfold Cf.cells; rw [h.ok]; rfl] at h2
  omega
def r12_Live (t : Int) (p : Int) (sh : Int) (xs : List Int) : List Int × List Int := bif soundA ⟨t, p, sh⟩ xs then ((blocksL ⟨t, p, sh⟩ xs).map (·.a), (blocksL ⟨t, p, sh⟩ xs).map (·.s)) else ([], [])
abbrev c_r12_Live : Ct Sg := ⟨none, false, [.agg [.i .i64, .i .i64, .i .i64], .ro [some .u32]], .new 56 [some .i64, some .i64]⟩
def e_r12_Live : Entry Sg := entC c_r12_Live r12_Live (fun t p sh xs => [bdAll xs])
def r12_Live_w (t : Int) (p : Int) (sh : Int) (xs : List Int) (R_ : List Int × List Int → Prop) : Prop := (∀ r1 : Bool, r1 = (r12_Sound t p sh xs) → ((bdAll xs) ∧ ((bdAll xs) → (((!r1) = true → (R_ (([], [])))) ∧ ((!r1) = false → (∀ r5 : List Int × List Int, r5 = (x_blocks t p sh xs) → ((AGood { t := t, p := p, s := sh } xs) ∧ ((AGood { t := t, p := p, s := sh } xs) → (R_ ((Prod.fst r5, Prod.snd r5)))))))))))
theorem r12_Live_begin (t : Int) (p : Int) (sh : Int) (xs : List Int) (hp0 : bdAll xs) (hl0 : xs.length ≤ 9223372036854775807) : r12_Live_w t p sh xs  (fun r__ => r__ = (r12_Live t p sh xs)) := by
  unfold r12_Live_w
  have hS : soundA ⟨t, p, sh⟩ xs = r12_Sound t p sh xs := rfl
  rintro r rfl
  refine ⟨hp0, fun _ => ⟨fun h => ?_, fun h => ?_⟩⟩
  · show _ = r12_Live t p sh xs
    rw [← hS] at h
    rw [r12_Live, (Bool.not_eq_true' _).mp h]; rfl
  · rintro r rfl
    rw [← hS] at h
    have hs := (Bool.not_eq_false' _).mp h
    refine ⟨sound_good hs hp0, fun _ => ?_⟩
    show _ = r12_Live t p sh xs
    rw [r12_Live, hs]; rfl
theorem r12_Live_ok : EntryOk Dg Tryz.prog 62 e_r12_Live :=
  ent_wp Dg T_l14_Eight_ok (I := [2999998]) Tryz.func62 mix (B := bodyOf Tryz.f62) (by kernel_rfl) rfl (by kernel_rfl) 400
    fun p0 t p sh xs hb hp => have hl0 : xs.length ≤ 9223372036854775807 := hb.2.1; have hp0 : bdAll xs := hp _ (.head _); ⟨[], fun j => List.getD [] j (fun _ => False), fun j => List.getD [] j (fun _ => (0, 0, 0)), by kernel_rfl, ⟨r12_Live_w t p sh xs  (fun r__ => r__ = (r12_Live t p sh xs)), fun _ _ _ => by kernel_rfl, r12_Live_begin t p sh xs hp0 hl0 ⟩, trivial⟩
def T_r12_Live : List (Nat × Entry Sg) := (62, e_r12_Live) :: T_l14_Eight
theorem T_r12_Live_ok : TableOk Dg Tryz.prog T_r12_Live := TableOk.cons Dg r12_Live_ok T_l14_Eight_ok
def r12_State (t : Int) (p : Int) (sh : Int) (xs : List Int) : List Int × List Int × Int × Int × Int × Int × Int × Int × Int × Int × Bool := stateA ⟨t, p, sh⟩ xs
abbrev c_r12_State : Ct Sg := ⟨none, false, [.agg [.i .i64, .i .i64, .i .i64], .ro [some .u32]], .tup [.agg [.new 56 [some .i64, some .i64], .i .i64, .i .i64, .i .i64, .i .i64, .i .i64, .i .i64, .i .i64, .i .i64], .b]⟩
def e_r12_State : Entry Sg := entC c_r12_State r12_State (fun t p sh xs => [bdAll xs])
def r12_State_w (t : Int) (p : Int) (sh : Int) (xs : List Int) (R_ : List Int × List Int × Int × Int × Int × Int × Int × Int × Int × Int × Bool → Prop) : Prop := (∀ r2 : Bool, r2 = (r12_Sound t p sh xs) → ((bdAll xs) ∧ ((bdAll xs) → (((!r2) = true → (R_ (([], [], (0 : Int), (0 : Int), (0 : Int), (0 : Int), (0 : Int), (0 : Int), (0 : Int), (0 : Int), false)))) ∧ ((!r2) = false → (∀ r5 : List Int × List Int, r5 = (r12_Live t p sh xs) → ((bdAll xs) ∧ ((bdAll xs) → (∀ r9 : Int, r9 = ((22 : Int)) → (((0 : Int) ≤ r9 ∧ r9 < (↑(List.length xs) : Int)) ∧ (((0 : Int) ≤ r9 ∧ r9 < (↑(List.length xs) : Int)) → (((0 : Int) ≤ (0 : Int) ∧ (0 : Int) < (8 : Int)) ∧ (((0 : Int) ≤ (0 : Int) ∧ (0 : Int) < (8 : Int)) → (∀ r12 : Int, r12 = ((23 : Int)) → (((0 : Int) ≤ r12 ∧ r12 < (↑(List.length xs) : Int)) ∧ (((0 : Int) ≤ r12 ∧ r12 < (↑(List.length xs) : Int)) → (((0 : Int) ≤ (1 : Int) ∧ (1 : Int) < (8 : Int)) ∧ (((0 : Int) ≤ (1 : Int) ∧ (1 : Int) < (8 : Int)) → (∀ r15 : Int, r15 = ((24 : Int)) → (((0 : Int) ≤ r15 ∧ r15 < (↑(List.length xs) : Int)) ∧ (((0 : Int) ≤ r15 ∧ r15 < (↑(List.length xs) : Int)) → (((0 : Int) ≤ (2 : Int) ∧ (2 : Int) < (8 : Int)) ∧ (((0 : Int) ≤ (2 : Int) ∧ (2 : Int) < (8 : Int)) → (∀ r18 : Int, r18 = ((25 : Int)) → (((0 : Int) ≤ r18 ∧ r18 < (↑(List.length xs) : Int)) ∧ (((0 : Int) ≤ r18 ∧ r18 < (↑(List.length xs) : Int)) → (((0 : Int) ≤ (3 : Int) ∧ (3 : Int) < (8 : Int)) ∧ (((0 : Int) ≤ (3 : Int) ∧ (3 : Int) < (8 : Int)) → (∀ r21 : Int, r21 = ((26 : Int)) → (((0 : Int) ≤ r21 ∧ r21 < (↑(List.length xs) : Int)) ∧ (((0 : Int) ≤ r21 ∧ r21 < (↑(List.length xs) : Int)) → (((0 : Int) ≤ (4 : Int) ∧ (4 : Int) < (8 : Int)) ∧ (((0 : Int) ≤ (4 : Int) ∧ (4 : Int) < (8 : Int)) → (∀ r24 : Int, r24 = ((27 : Int)) → (((0 : Int) ≤ r24 ∧ r24 < (↑(List.length xs) : Int)) ∧ (((0 : Int) ≤ r24 ∧ r24 < (↑(List.length xs) : Int)) → (((0 : Int) ≤ (5 : Int) ∧ (5 : Int) < (8 : Int)) ∧ (((0 : Int) ≤ (5 : Int) ∧ (5 : Int) < (8 : Int)) → (∀ r27 : Int, r27 = ((28 : Int)) → (((0 : Int) ≤ r27 ∧ r27 < (↑(List.length xs) : Int)) ∧ (((0 : Int) ≤ r27 ∧ r27 < (↑(List.length xs) : Int)) → (((0 : Int) ≤ (6 : Int) ∧ (6 : Int) < (8 : Int)) ∧ (((0 : Int) ≤ (6 : Int) ∧ (6 : Int) < (8 : Int)) → (∀ r30 : Int, r30 = ((29 : Int)) → (((0 : Int) ≤ r30 ∧ r30 < (↑(List.length xs) : Int)) ∧ (((0 : Int) ≤ r30 ∧ r30 < (↑(List.length xs) : Int)) → (((0 : Int) ≤ (7 : Int) ∧ (7 : Int) < (8 : Int)) ∧ (((0 : Int) ≤ (7 : Int) ∧ (7 : Int) < (8 : Int)) → (R_ ((Prod.fst r5, Prod.snd r5, IntKind.wrap IntKind.i64 (List.getD xs (Int.toNat r9) (0 : Int)), IntKind.wrap IntKind.i64 (List.getD xs (Int.toNat r12) (0 : Int)), IntKind.wrap IntKind.i64 (List.getD xs (Int.toNat r15) (0 : Int)), IntKind.wrap IntKind.i64 (List.getD xs (Int.toNat r18) (0 : Int)), IntKind.wrap IntKind.i64 (List.getD xs (Int.toNat r21) (0 : Int)), IntKind.wrap IntKind.i64 (List.getD xs (Int.toNat r24) (0 : Int)), IntKind.wrap IntKind.i64 (List.getD xs (Int.toNat r27) (0 : Int)), IntKind.wrap IntKind.i64 (List.getD xs (Int.toNat r30) (0 : Int)), true)))))))))))))))))))))))))))))))))))))))))))))))))))
theorem r12_State_begin (t : Int) (p : Int) (sh : Int) (xs : List Int) (hp0 : bdAll xs) (hl0 : xs.length ≤ 9223372036854775807) : r12_State_w t p sh xs  (fun r__ => r__ = (r12_State t p sh xs)) := by
  unfold r12_State_w
  have hS : soundA ⟨t, p, sh⟩ xs = r12_Sound t p sh xs := rfl
  rintro r rfl
  refine ⟨hp0, fun _ => ⟨fun h => ?_, fun h => ?_⟩⟩
  · show _ = r12_State t p sh xs
    rw [← hS] at h
    rw [r12_State, stateA, (Bool.not_eq_true' _).mp h]; rfl
  · rintro r rfl
    rw [← hS] at h
    have hs := (Bool.not_eq_false' _).mp h
    have hl := good_long (sound_good hs hp0)
    refine ⟨hp0, fun _ => ?_⟩
    repeat' first
      | (refine fun r hr => ?_; subst hr)
      | refine ⟨(by omega), fun _ => ?_⟩
      | fail
    show _ = r12_State t p sh xs
    simp only [wcel hp0]
    rw [r12_State, stateA, hs, cond_true, r12_Live, hs, cond_true]; rfl
theorem r12_State_ok : EntryOk Dg Tryz.prog 18 e_r12_State :=
  ent_wp Dg T_r12_Live_ok (I := [2999999, 2999998]) Tryz.func18 mix (B := bodyOf Tryz.f18) (by kernel_rfl) rfl (by kernel_rfl) 400
    fun p0 t p sh xs hb hp => have hl0 : xs.length ≤ 9223372036854775807 := hb.2.1; have hp0 : bdAll xs := hp _ (.head _); ⟨[], fun j => List.getD [] j (fun _ => False), fun j => List.getD [] j (fun _ => (0, 0, 0)), by kernel_rfl, ⟨r12_State_w t p sh xs  (fun r__ => r__ = (r12_State t p sh xs)), fun _ _ _ => by kernel_rfl, r12_State_begin t p sh xs hp0 hl0 ⟩, trivial⟩
def T_r12_State : List (Nat × Entry Sg) := (18, e_r12_State) :: T_r12_Live
theorem T_r12_State_ok : TableOk Dg Tryz.prog T_r12_State := TableOk.cons Dg r12_State_ok T_r12_Live_ok
def r12_Same (xa : List Int) (xz : List Int) (u0 : Int) (u1 : Int) (u2 : Int) (u3 : Int) (u4 : Int) (u5 : Int) (u6 : Int) (u7 : Int) (ya : List Int) (yz : List Int) (v0 : Int) (v1 : Int) (v2 : Int) (v3 : Int) (v4 : Int) (v5 : Int) (v6 : Int) (v7 : Int) : Bool := decide (xa = ya ∧ xz = yz) && (u0 == v0 && (u1 == v1 && (u2 == v2 && (u3 == v3 && (u4 == v4 && (u5 == v5 && (u6 == v6 && (u7 == v7 && true))))))))
abbrev c_r12_Same : Ct Sg := ⟨none, false, [.agg [.ro [some .i64, some .i64], .i .i64, .i .i64, .i .i64, .i .i64, .i .i64, .i .i64, .i .i64, .i .i64], .agg [.ro [some .i64, some .i64], .i .i64, .i .i64, .i .i64, .i .i64, .i .i64, .i .i64, .i .i64, .i .i64]], .b⟩
def e_r12_Same : Entry Sg := entC c_r12_Same r12_Same (fun xa xz u0 u1 u2 u3 u4 u5 u6 u7 ya yz v0 v1 v2 v3 v4 v5 v6 v7 => [xa.length = xz.length, ya.length = yz.length])
def r12_Same_w (xa : List Int) (xz : List Int) (u0 : Int) (u1 : Int) (u2 : Int) (u3 : Int) (u4 : Int) (u5 : Int) (u6 : Int) (u7 : Int) (ya : List Int) (yz : List Int) (v0 : Int) (v1 : Int) (v2 : Int) (v3 : Int) (v4 : Int) (v5 : Int) (v6 : Int) (v7 : Int) (Q0 : Int → Prop) (R_ : Bool → Prop) : Prop := ((((↑(List.length xa) : Int) != (↑(List.length ya) : Int) || !(u0 == v0 && (u1 == v1 && (u2 == v2 && (u3 == v3 && (u4 == v4 && (u5 == v5 && (u6 == v6 && (u7 == v7 && true))))))))) = true → (R_ (false))) ∧ (((↑(List.length xa) : Int) != (↑(List.length ya) : Int) || !(u0 == v0 && (u1 == v1 && (u2 == v2 && (u3 == v3 && (u4 == v4 && (u5 == v5 && (u6 == v6 && (u7 == v7 && true))))))))) = false → (Q0 ((0 : Int)))))
def r12_Same_w0 (xa : List Int) (xz : List Int) (u0 : Int) (u1 : Int) (u2 : Int) (u3 : Int) (u4 : Int) (u5 : Int) (u6 : Int) (u7 : Int) (ya : List Int) (yz : List Int) (v0 : Int) (v1 : Int) (v2 : Int) (v3 : Int) (v4 : Int) (v5 : Int) (v6 : Int) (v7 : Int) (i : Int) (Q0 : Int → Prop) (R_ : Bool → Prop) : Prop := (((decide (i < (↑(List.length xa) : Int))) = true → (((0 : Int) ≤ i ∧ i < (↑(List.length xa) : Int)) ∧ (((0 : Int) ≤ i ∧ i < (↑(List.length xa) : Int)) → (((0 : Int) ≤ i ∧ i < (↑(List.length ya) : Int)) ∧ (((0 : Int) ≤ i ∧ i < (↑(List.length ya) : Int)) → (((!(List.getD xa (Int.toNat i) (0 : Int) == List.getD ya (Int.toNat i) (0 : Int) && (List.getD xz (Int.toNat i) (0 : Int) == List.getD yz (Int.toNat i) (0 : Int) && true))) = true → (R_ (false))) ∧ ((!(List.getD xa (Int.toNat i) (0 : Int) == List.getD ya (Int.toNat i) (0 : Int) && (List.getD xz (Int.toNat i) (0 : Int) == List.getD yz (Int.toNat i) (0 : Int) && true))) = false → (Q0 (IntKind.wrap IntKind.i64 (i + (1 : Int))))))))))) ∧ ((decide (i < (↑(List.length xa) : Int))) = false → (R_ (true))))
def r12_Same_I0 (xa : List Int) (xz : List Int) (u0 : Int) (u1 : Int) (u2 : Int) (u3 : Int) (u4 : Int) (u5 : Int) (u6 : Int) (u7 : Int) (ya : List Int) (yz : List Int) (v0 : Int) (v1 : Int) (v2 : Int) (v3 : Int) (v4 : Int) (v5 : Int) (v6 : Int) (v7 : Int) (i : Int) (r_ : Bool) : Prop := 0 ≤ i ∧ i ≤ xa.length ∧ xa.length = ya.length ∧ (∀ j : Nat, j < i.toNat → xa.getD j 0 = ya.getD j 0 ∧ xz.getD j 0 = yz.getD j 0) ∧ r_ = decide (xa = ya ∧ xz = yz)
theorem r12_Same_begin (xa : List Int) (xz : List Int) (u0 : Int) (u1 : Int) (u2 : Int) (u3 : Int) (u4 : Int) (u5 : Int) (u6 : Int) (u7 : Int) (ya : List Int) (yz : List Int) (v0 : Int) (v1 : Int) (v2 : Int) (v3 : Int) (v4 : Int) (v5 : Int) (v6 : Int) (v7 : Int) (hp0 : xa.length = xz.length) (hp1 : ya.length = yz.length) (hl0 : xa.length ≤ 9223372036854775807) (hl1 : ya.length ≤ 9223372036854775807) : r12_Same_w xa xz u0 u1 u2 u3 u4 u5 u6 u7 ya yz v0 v1 v2 v3 v4 v5 v6 v7 (fun i' => r12_Same_I0 xa xz u0 u1 u2 u3 u4 u5 u6 u7 ya yz v0 v1 v2 v3 v4 v5 v6 v7 i' (r12_Same xa xz u0 u1 u2 u3 u4 u5 u6 u7 ya yz v0 v1 v2 v3 v4 v5 v6 v7)) (fun r__ => r__ = (r12_Same xa xz u0 u1 u2 u3 u4 u5 u6 u7 ya yz v0 v1 v2 v3 v4 v5 v6 v7)) := by
  unfold r12_Same_w
  try unfold r12_Same_I0
  refine ⟨fun h => ?_, fun h => ?_⟩
  · show false = r12_Same xa xz u0 u1 u2 u3 u4 u5 u6 u7 ya yz v0 v1 v2 v3 v4 v5 v6 v7
    revert h
    unfold r12_Same
    generalize (u0 == v0 && (u1 == v1 && (u2 == v2 && (u3 == v3 && (u4 == v4 && (u5 == v5 && (u6 == v6 && (u7 == v7 && true)))))))) = e
    intro h
    cases e with
    | false => simp
    | true =>
      have hne : xa ≠ ya := fun e2 => by rw [e2] at h; simp at h
      simp [hne]
  · have hh : xa.length = ya.length ∧ (u0 == v0 && (u1 == v1 && (u2 == v2 && (u3 == v3 && (u4 == v4 && (u5 == v5 && (u6 == v6 && (u7 == v7 && true)))))))) = true := by
      simp only [Bool.or_eq_false_iff, Bool.not_eq_false', bne_eq_false_iff_eq] at h
      exact ⟨by have := h.1; omega, h.2⟩
    refine ⟨by omega, by omega, hh.1, fun j hj => absurd hj (Nat.not_lt_zero j), ?_⟩
    unfold r12_Same
    rw [hh.2, Bool.and_true]
theorem r12_Same_step0 (xa : List Int) (xz : List Int) (u0 : Int) (u1 : Int) (u2 : Int) (u3 : Int) (u4 : Int) (u5 : Int) (u6 : Int) (u7 : Int) (ya : List Int) (yz : List Int) (v0 : Int) (v1 : Int) (v2 : Int) (v3 : Int) (v4 : Int) (v5 : Int) (v6 : Int) (v7 : Int) (hp0 : xa.length = xz.length) (hp1 : ya.length = yz.length) (hl0 : xa.length ≤ 9223372036854775807) (hl1 : ya.length ≤ 9223372036854775807) (i : Int) {r_ : Bool} (hI : r12_Same_I0 xa xz u0 u1 u2 u3 u4 u5 u6 u7 ya yz v0 v1 v2 v3 v4 v5 v6 v7 i r_) : r12_Same_w0 xa xz u0 u1 u2 u3 u4 u5 u6 u7 ya yz v0 v1 v2 v3 v4 v5 v6 v7 i (fun i' => r12_Same_I0 xa xz u0 u1 u2 u3 u4 u5 u6 u7 ya yz v0 v1 v2 v3 v4 v5 v6 v7 i' r_ ∧ lx ((xa.length - i').toNat, 0, 0) ((xa.length - i).toNat, 0, 0)) (fun r__ => r__ = r_) := by
  unfold r12_Same_I0 at hI
  unfold r12_Same_w0
  try unfold r12_Same_I0
  obtain ⟨h0, h1, h2, h3, h4⟩ := hI
  refine ⟨fun h => ?_, fun h => ?_⟩
  · simp only [decide_eq_true_eq] at h
    refine ⟨⟨h0, h⟩, fun _ => ⟨⟨h0, by omega⟩, fun _ => ⟨fun hn => ?_, fun hn => ?_⟩⟩⟩
    · show false = r_
      rw [h4]
      symm
      simp only [decide_eq_false_iff_not]
      rintro ⟨rfl, rfl⟩
      simp at hn
    · rw [w64 (n := i + 1) (by omega)]
      refine ⟨⟨by omega, by omega, h2, fun j hj => ?_, h4⟩, lxo_⟩
      by_cases hji : j = i.toNat
      · subst hji; simpa using hn
      · exact h3 j (by omega)
  · simp only [decide_eq_false_iff_not] at h
    show true = r_
    rw [h4]
    symm
    simp only [decide_eq_true_eq]
    exact ⟨ext_getD h2 fun j hj => (h3 j (by omega)).1, ext_getD (by omega) fun j hj => (h3 j (by omega)).2⟩
theorem r12_Same_ok : EntryOk Dg Tryz.prog 20 e_r12_Same :=
  ent_wp Dg T_r12_State_ok (I := [411000000005, 411000000002, 411000000003]) Tryz.func20 mix (B := bodyOf Tryz.f20) (by kernel_rfl) rfl (by kernel_rfl) 400
    fun p0 xa xz u0 u1 u2 u3 u4 u5 u6 u7 ya yz v0 v1 v2 v3 v4 v5 v6 v7 hb hp => have hl0 : xa.length ≤ 9223372036854775807 := hb.1.1; have hl1 : ya.length ≤ 9223372036854775807 := hb.2.1.1; have hp0 : xa.length = xz.length := hp _ (.head _); have hp1 : ya.length = yz.length := hp _ (.tail _ (.head _)); ⟨[⟨none, [0,1,0,1,1], [.blk 0, .code [1,1,1]], [5, 2, 3], [.i .i64, .box 42 [.roc [.ints .i64 (xa), .ints .i64 (xz)], .ic .i64 (u0), .ic .i64 (u1), .ic .i64 (u2), .ic .i64 (u3), .ic .i64 (u4), .ic .i64 (u5), .ic .i64 (u6), .ic .i64 (u7)], .box 42 [.roc [.ints .i64 (ya), .ints .i64 (yz)], .ic .i64 (v0), .ic .i64 (v1), .ic .i64 (v2), .ic .i64 (v3), .ic .i64 (v4), .ic .i64 (v5), .ic .i64 (v6), .ic .i64 (v7)]]⟩], fun j => List.getD [appC (Hd.kd (⟨none, [0,1,0,1,1], [.blk 0, .code [1,1,1]], [5, 2, 3], [.i .i64, .box 42 [.roc [.ints .i64 (xa), .ints .i64 (xz)], .ic .i64 (u0), .ic .i64 (u1), .ic .i64 (u2), .ic .i64 (u3), .ic .i64 (u4), .ic .i64 (u5), .ic .i64 (u6), .ic .i64 (u7)], .box 42 [.roc [.ints .i64 (ya), .ints .i64 (yz)], .ic .i64 (v0), .ic .i64 (v1), .ic .i64 (v2), .ic .i64 (v3), .ic .i64 (v4), .ic .i64 (v5), .ic .i64 (v6), .ic .i64 (v7)]]⟩ : Hd Sg)) (fun i' => r12_Same_I0 xa xz u0 u1 u2 u3 u4 u5 u6 u7 ya yz v0 v1 v2 v3 v4 v5 v6 v7 i' (r12_Same xa xz u0 u1 u2 u3 u4 u5 u6 u7 ya yz v0 v1 v2 v3 v4 v5 v6 v7))] j (fun _ => False), fun j => List.getD [appC (Hd.kd (⟨none, [0,1,0,1,1], [.blk 0, .code [1,1,1]], [5, 2, 3], [.i .i64, .box 42 [.roc [.ints .i64 (xa), .ints .i64 (xz)], .ic .i64 (u0), .ic .i64 (u1), .ic .i64 (u2), .ic .i64 (u3), .ic .i64 (u4), .ic .i64 (u5), .ic .i64 (u6), .ic .i64 (u7)], .box 42 [.roc [.ints .i64 (ya), .ints .i64 (yz)], .ic .i64 (v0), .ic .i64 (v1), .ic .i64 (v2), .ic .i64 (v3), .ic .i64 (v4), .ic .i64 (v5), .ic .i64 (v6), .ic .i64 (v7)]]⟩ : Hd Sg)) (fun i' => ((xa.length - i').toNat, 0, 0))] j (fun _ => (0, 0, 0)), by kernel_rfl, ⟨r12_Same_w xa xz u0 u1 u2 u3 u4 u5 u6 u7 ya yz v0 v1 v2 v3 v4 v5 v6 v7 (fun i' => r12_Same_I0 xa xz u0 u1 u2 u3 u4 u5 u6 u7 ya yz v0 v1 v2 v3 v4 v5 v6 v7 i' (r12_Same xa xz u0 u1 u2 u3 u4 u5 u6 u7 ya yz v0 v1 v2 v3 v4 v5 v6 v7)) (fun r__ => r__ = (r12_Same xa xz u0 u1 u2 u3 u4 u5 u6 u7 ya yz v0 v1 v2 v3 v4 v5 v6 v7)), fun _ _ _ => by kernel_rfl, r12_Same_begin xa xz u0 u1 u2 u3 u4 u5 u6 u7 ya yz v0 v1 v2 v3 v4 v5 v6 v7 hp0 hp1 hl0 hl1 ⟩, ⟨fun i hI => ⟨r12_Same_w0 xa xz u0 u1 u2 u3 u4 u5 u6 u7 ya yz v0 v1 v2 v3 v4 v5 v6 v7 i (fun i' => r12_Same_I0 xa xz u0 u1 u2 u3 u4 u5 u6 u7 ya yz v0 v1 v2 v3 v4 v5 v6 v7 i' (r12_Same xa xz u0 u1 u2 u3 u4 u5 u6 u7 ya yz v0 v1 v2 v3 v4 v5 v6 v7) ∧ lx ((xa.length - i').toNat, 0, 0) ((xa.length - i).toNat, 0, 0)) (fun r__ => r__ = (r12_Same xa xz u0 u1 u2 u3 u4 u5 u6 u7 ya yz v0 v1 v2 v3 v4 v5 v6 v7)), fun _ _ _ => by kernel_rfl, r12_Same_step0 xa xz u0 u1 u2 u3 u4 u5 u6 u7 ya yz v0 v1 v2 v3 v4 v5 v6 v7 hp0 hp1 hl0 hl1 i hI⟩, trivial⟩⟩
def T_r12_Same : List (Nat × Entry Sg) := (20, e_r12_Same) :: T_r12_State
theorem T_r12_Same_ok : TableOk Dg Tryz.prog T_r12_Same := TableOk.cons Dg r12_Same_ok T_r12_State_ok
end Go.Proofs.YtajcpopikdpcmaaGreat
namespace Go.Proofs.YtajcpopikdpcmaaGreat
open Go.Sl
def sp_used (s : VS) (t : Int) (p : Int) (h : Int) (g : Int) (n : Int) : VS := (let r1 : VS := VS.set s (place_Info t p h g) (Prod.fst (info_Put (2 : Int) n (0 : Int))); (let r3 : VS := VS.set r1 (place_Foot t p h (IntKind.wrap IntKind.i64 (IntKind.wrap IntKind.i64 (g + n) - (1 : Int)))) (IntKind.wrap IntKind.u32 (IntKind.wrap IntKind.i64 (g + (1 : Int)))); r3))
def sp_used_out (r_ : VS) : List Value → Value := fun ss => undef
def sp_used_nw (p_0 : Addr) (r_ : VS) : List (Chunk Sg) := [.obj p_0 (.view (r_))]
def sp_used_rows (r_ : VS) : List (Mk Sg) := []
section
variable (s : VS) (t : Int) (p : Int) (h : Int) (g : Int) (n : Int) (p_0 : Addr)
theorem sp_used_calls {E_ : World} {G_ : Hp} {w_ : World} (hS : Sat E_ G_ w_ [Dg p_0 ((.view s))]) : Calls Tryz.prog 65 #[(.agg #[.pointer (some p_0), .int .i64 t, .int .i64 p, .int .i64 h]), (.int .i64 g), (.int .i64 n)] w_ (Post Dg E_ G_ (sp_used_out (sp_used s t p h g n)) (sp_used_nw p_0 (sp_used s t p h g n)) (sp_used_rows (sp_used s t p h g n))) :=
  calls_post Dg T_r12_Same_ok (I := []) Tryz.func65 mix (B := bodyOf Tryz.f65) (by kernel_rfl) [(.agg #[.pointer (some p_0), .int .i64 t, .int .i64 p, .int .i64 h]), (.int .i64 g), (.int .i64 n)] [.many [.pt 0 .obj, .no, .no, .no], .no, .no] (by kernel_rfl) (objs := [.obj p_0 (.view s)]) (ros := []) (psOk_cons (by simp [pOk, psOk, cOk]) (psOk_cons pOk_no (psOk_cons pOk_no (psOk_nil)))) (by kernel_rfl) (trivial) hS 400
    (t := Tree.fresh fun b => Tree.bind (VS.set s (place_Info t p h g) (Prod.fst (info_Put (2 : Int) n (0 : Int)))) fun a => Tree.need (bd32 (Prod.fst (info_Put (2 : Int) n (0 : Int)))) (Tree.bind (VS.set a (place_Foot t p h (IntKind.wrap IntKind.i64 (IntKind.wrap IntKind.i64 (g + n) - (1 : Int)))) (IntKind.wrap IntKind.u32 (IntKind.wrap IntKind.i64 (g + (1 : Int))))) fun a_1 => Tree.need (bd32 (IntKind.wrap IntKind.u32 (IntKind.wrap IntKind.i64 (g + (1 : Int))))) (Tree.ret (Value.tuple { toList := [] }) pn_ [Chunk.obj p_0 (Option.getD (some (Sg.view a_1)) (Option.getD (some (Sg.view a)) (Sg.view s))), kc_ b 97 [(Value.pointer (some p_0), po_ 0), (vi_ t, pn_), (vi_ p, pn_), (vi_ h, pn_)]])))
    (by kernel_rfl)
    (fun b0_0 => fun r1 e1 => ⟨by first | exact wu32_bd _ | exact VS.get_bd _ _ | exact zero_bd | (rw [info_Put_val]; exact iVal_bd _ _ _) | (subst_vars; exact VS.get_bd _ _) | omega, fun y2 => fun r3 e3 => ⟨by first | exact wu32_bd _ | exact VS.get_bd _ _ | exact zero_bd | (rw [info_Put_val]; exact iVal_bd _ _ _) | (subst_vars; exact VS.get_bd _ _) | omega, fun y4 => RetOk.at (outf := sp_used_out) (nwf := sp_used_nw p_0) (rowsf := sp_used_rows) (r := r3) (by subst e1; subst e3; first | exact Eq.symm rfl | (simp only [sp_used, cond_true, cond_false]; done) | (exfalso; simp_all; done) | decide) ⟨[], [0], (by decide), rfl, rfl, ⟨.inl rfl, trivial⟩⟩⟩⟩)
end
def sp_used_e : Entry Sg := fun
  | [(.agg ⟨[.pointer (some p_0), .int .i64 t, .int .i64 p, .int .i64 h]⟩, .many [.obj (.view s), .none, .none, .none]), (.int .i64 g, _), (.int .i64 n, _)] => some ⟨(sp_used s t p h g n), fun (r_ : VS) => ⟨[], some (.view (r_)), [], fun ss => undef, fun k_ => .no⟩⟩
  | _ => none
theorem sp_used_ok : EntryOk Dg Tryz.prog 65 sp_used_e := by
  intro args c r h hr_
  unfold sp_used_e at h
  split at h
  · injection h with h; subst h; subst hr_
    refine ⟨fun K acs _ => pOk_no, fun hpre E G w hi hS => ?_⟩
    exact entry_post Dg (by exact rfl) (sp_used_calls _ _ _ _ _ _ _  hS)
  · cases h
def T_sp_used : List (Nat × Entry Sg) := (65, sp_used_e) :: T_r12_Same
theorem T_sp_used_ok : TableOk Dg Tryz.prog T_sp_used := TableOk.cons Dg sp_used_ok T_r12_Same_ok
def sp_free (s : VS) (t : Int) (p : Int) (h : Int) (g : Int) : VS × Int := (let r1 : Ty (Ct.RK c_place_Info) := place_Info t p h g; (let r2 : VS × Int := (VS.read s r1, VS.get s r1); (let r3 : Ty (Ct.RK c_info_Get) := info_Get (Prod.snd r2); (bif Prod.fst r3 != (1 : Int) then (Prod.fst r2, (0 : Int)) else (Prod.fst r2, Prod.fst (Prod.snd r3))))))
def sp_free_out (r_ : VS × Int) : List Value → Value := fun ss => .int .i64 (r_.2)
def sp_free_nw (p_0 : Addr) (r_ : VS × Int) : List (Chunk Sg) := [.obj p_0 (.view (r_.1))]
def sp_free_rows (r_ : VS × Int) : List (Mk Sg) := []
section
variable (s : VS) (t : Int) (p : Int) (h : Int) (g : Int) (p_0 : Addr)
theorem sp_free_calls {E_ : World} {G_ : Hp} {w_ : World} (hS : Sat E_ G_ w_ [Dg p_0 ((.view s))]) : Calls Tryz.prog 69 #[(.agg #[.pointer (some p_0), .int .i64 t, .int .i64 p, .int .i64 h]), (.int .i64 g)] w_ (Post Dg E_ G_ (sp_free_out (sp_free s t p h g)) (sp_free_nw p_0 (sp_free s t p h g)) (sp_free_rows (sp_free s t p h g))) :=
  calls_post Dg T_sp_used_ok (I := []) Tryz.func69 mix (B := bodyOf Tryz.f69) (by kernel_rfl) [(.agg #[.pointer (some p_0), .int .i64 t, .int .i64 p, .int .i64 h]), (.int .i64 g)] [.many [.pt 0 .obj, .no, .no, .no], .no] (by kernel_rfl) (objs := [.obj p_0 (.view s)]) (ros := []) (psOk_cons (by simp [pOk, psOk, cOk]) (psOk_cons pOk_no (psOk_nil))) (by kernel_rfl) (trivial) hS 400
    (t := Tree.fresh fun b => Tree.two (Tree.bind (place_Info t p h g) fun a => Tree.two (Tree.bind (VS.read s a, VS.get s a) fun a => Tree.two (Tree.bind (info_Get (Prod.snd a)) fun a_1 => Tree.fresh fun b_1 => Tree.br (Prod.fst a_1 != (1 : Int)) (Tree.ret (vi_ (0 : Int)) pn_ [Chunk.obj p_0 (Option.getD (some (Sg.view (Prod.fst a))) (Sg.view s)), kc_ b 97 [(Value.pointer (some p_0), po_ 0), (vi_ t, pn_), (vi_ p, pn_), (vi_ h, pn_)], kc_ b_1 31 [(vi_ (Prod.fst a_1), pn_), (vi_ (Prod.fst (Prod.snd a_1)), pn_), (vi_ (Prod.fst (Prod.snd (Prod.snd a_1))), pn_)]]) (Tree.ret (vi_ (Prod.fst (Prod.snd a_1))) pn_ [Chunk.obj p_0 (Option.getD (some (Sg.view (Prod.fst a))) (Sg.view s)), kc_ b 97 [(Value.pointer (some p_0), po_ 0), (vi_ t, pn_), (vi_ p, pn_), (vi_ h, pn_)], kc_ b_1 31 [(vi_ (Prod.fst a_1), pn_), (vi_ (Prod.fst (Prod.snd a_1)), pn_), (vi_ (Prod.fst (Prod.snd (Prod.snd a_1))), pn_)]])) (Tree.fresh fun b_1 => Tree.bind (info_Get (Prod.snd a)) fun a_1 => Tree.br (Prod.fst a_1 != (1 : Int)) (Tree.ret (vi_ (0 : Int)) pn_ [Chunk.obj p_0 (Option.getD (some (Sg.view (Prod.fst a))) (Sg.view s)), kc_ b 97 [(Value.pointer (some p_0), po_ 0), (vi_ t, pn_), (vi_ p, pn_), (vi_ h, pn_)], kc_ b_1 31 [(vi_ (Prod.fst a_1), pn_), (vi_ (Prod.fst (Prod.snd a_1)), pn_), (vi_ (Prod.fst (Prod.snd (Prod.snd a_1))), pn_)]]) (Tree.ret (vi_ (Prod.fst (Prod.snd a_1))) pn_ [Chunk.obj p_0 (Option.getD (some (Sg.view (Prod.fst a))) (Sg.view s)), kc_ b 97 [(Value.pointer (some p_0), po_ 0), (vi_ t, pn_), (vi_ p, pn_), (vi_ h, pn_)], kc_ b_1 31 [(vi_ (Prod.fst a_1), pn_), (vi_ (Prod.fst (Prod.snd a_1)), pn_), (vi_ (Prod.fst (Prod.snd (Prod.snd a_1))), pn_)]]))) (Tree.fresh fun b_1 => Tree.bind (VS.read s a, VS.get s a) fun a => Tree.bind (info_Get (Prod.snd a)) fun a_1 => Tree.br (Prod.fst a_1 != (1 : Int)) (Tree.ret (vi_ (0 : Int)) pn_ [Chunk.obj p_0 (Option.getD (some (Sg.view (Prod.fst a))) (Sg.view s)), kc_ b 97 [(Value.pointer (some p_0), po_ 0), (vi_ t, pn_), (vi_ p, pn_), (vi_ h, pn_)], kc_ b_1 31 [(vi_ (Prod.fst a_1), pn_), (vi_ (Prod.fst (Prod.snd a_1)), pn_), (vi_ (Prod.fst (Prod.snd (Prod.snd a_1))), pn_)]]) (Tree.ret (vi_ (Prod.fst (Prod.snd a_1))) pn_ [Chunk.obj p_0 (Option.getD (some (Sg.view (Prod.fst a))) (Sg.view s)), kc_ b 97 [(Value.pointer (some p_0), po_ 0), (vi_ t, pn_), (vi_ p, pn_), (vi_ h, pn_)], kc_ b_1 31 [(vi_ (Prod.fst a_1), pn_), (vi_ (Prod.fst (Prod.snd a_1)), pn_), (vi_ (Prod.fst (Prod.snd (Prod.snd a_1))), pn_)]]))) (Tree.fresh fun b_1 => Tree.bind (place_Info t p h g) fun a => Tree.bind (VS.read s a, VS.get s a) fun a => Tree.bind (info_Get (Prod.snd a)) fun a_1 => Tree.br (Prod.fst a_1 != (1 : Int)) (Tree.ret (vi_ (0 : Int)) pn_ [Chunk.obj p_0 (Option.getD (some (Sg.view (Prod.fst a))) (Sg.view s)), kc_ b 97 [(Value.pointer (some p_0), po_ 0), (vi_ t, pn_), (vi_ p, pn_), (vi_ h, pn_)], kc_ b_1 31 [(vi_ (Prod.fst a_1), pn_), (vi_ (Prod.fst (Prod.snd a_1)), pn_), (vi_ (Prod.fst (Prod.snd (Prod.snd a_1))), pn_)]]) (Tree.ret (vi_ (Prod.fst (Prod.snd a_1))) pn_ [Chunk.obj p_0 (Option.getD (some (Sg.view (Prod.fst a))) (Sg.view s)), kc_ b 97 [(Value.pointer (some p_0), po_ 0), (vi_ t, pn_), (vi_ p, pn_), (vi_ h, pn_)], kc_ b_1 31 [(vi_ (Prod.fst a_1), pn_), (vi_ (Prod.fst (Prod.snd a_1)), pn_), (vi_ (Prod.fst (Prod.snd (Prod.snd a_1))), pn_)]])))
    (by kernel_rfl)
    (fun b0_0 => ⟨fun r1 e1 => ⟨fun r2 e2 => ⟨fun r3 e3 => fun b4_0 => ⟨fun z5 => RetOk.at (outf := sp_free_out) (nwf := sp_free_nw p_0) (rowsf := sp_free_rows) (r := (Prod.fst r2, (0 : Int))) (by subst e1; subst e2; subst e3; first | exact Eq.symm ((cT z5).trans rfl) | (simp only [sp_free, z5, cond_true, cond_false]; done) | (exfalso; simp_all; done) | decide) ⟨[], [0], (by decide), rfl, rfl, ⟨.inl rfl, trivial⟩⟩, fun z5 => RetOk.at (outf := sp_free_out) (nwf := sp_free_nw p_0) (rowsf := sp_free_rows) (r := (Prod.fst r2, Prod.fst (Prod.snd r3))) (by subst e1; subst e2; subst e3; first | exact Eq.symm ((cF z5).trans rfl) | (simp only [sp_free, z5, cond_true, cond_false]; done) | (exfalso; simp_all; done) | decide) ⟨[], [0], (by decide), rfl, rfl, ⟨.inl rfl, trivial⟩⟩⟩, fun b3_0 => fun r4 e4 => ⟨fun z5 => RetOk.at (outf := sp_free_out) (nwf := sp_free_nw p_0) (rowsf := sp_free_rows) (r := (Prod.fst r2, (0 : Int))) (by subst e1; subst e2; subst e4; first | exact Eq.symm ((cT z5).trans rfl) | (simp only [sp_free, z5, cond_true, cond_false]; done) | (exfalso; simp_all; done) | decide) ⟨[], [0], (by decide), rfl, rfl, ⟨.inl rfl, trivial⟩⟩, fun z5 => RetOk.at (outf := sp_free_out) (nwf := sp_free_nw p_0) (rowsf := sp_free_rows) (r := (Prod.fst r2, Prod.fst (Prod.snd r4))) (by subst e1; subst e2; subst e4; first | exact Eq.symm ((cF z5).trans rfl) | (simp only [sp_free, z5, cond_true, cond_false]; done) | (exfalso; simp_all; done) | decide) ⟨[], [0], (by decide), rfl, rfl, ⟨.inl rfl, trivial⟩⟩⟩⟩, fun b2_0 => fun r3 e3 => fun r4 e4 => ⟨fun z5 => RetOk.at (outf := sp_free_out) (nwf := sp_free_nw p_0) (rowsf := sp_free_rows) (r := (Prod.fst r3, (0 : Int))) (by subst e1; subst e3; subst e4; first | exact Eq.symm ((cT z5).trans rfl) | (simp only [sp_free, z5, cond_true, cond_false]; done) | (exfalso; simp_all; done) | decide) ⟨[], [0], (by decide), rfl, rfl, ⟨.inl rfl, trivial⟩⟩, fun z5 => RetOk.at (outf := sp_free_out) (nwf := sp_free_nw p_0) (rowsf := sp_free_rows) (r := (Prod.fst r3, Prod.fst (Prod.snd r4))) (by subst e1; subst e3; subst e4; first | exact Eq.symm ((cF z5).trans rfl) | (simp only [sp_free, z5, cond_true, cond_false]; done) | (exfalso; simp_all; done) | decide) ⟨[], [0], (by decide), rfl, rfl, ⟨.inl rfl, trivial⟩⟩⟩⟩, fun b1_0 => fun r2 e2 => fun r3 e3 => fun r4 e4 => ⟨fun z5 => RetOk.at (outf := sp_free_out) (nwf := sp_free_nw p_0) (rowsf := sp_free_rows) (r := (Prod.fst r3, (0 : Int))) (by subst e2; subst e3; subst e4; first | exact Eq.symm ((cT z5).trans rfl) | (simp only [sp_free, z5, cond_true, cond_false]; done) | (exfalso; simp_all; done) | decide) ⟨[], [0], (by decide), rfl, rfl, ⟨.inl rfl, trivial⟩⟩, fun z5 => RetOk.at (outf := sp_free_out) (nwf := sp_free_nw p_0) (rowsf := sp_free_rows) (r := (Prod.fst r3, Prod.fst (Prod.snd r4))) (by subst e2; subst e3; subst e4; first | exact Eq.symm ((cF z5).trans rfl) | (simp only [sp_free, z5, cond_true, cond_false]; done) | (exfalso; simp_all; done) | decide) ⟨[], [0], (by decide), rfl, rfl, ⟨.inl rfl, trivial⟩⟩⟩⟩)
end
def sp_free_e : Entry Sg := fun
  | [(.agg ⟨[.pointer (some p_0), .int .i64 t, .int .i64 p, .int .i64 h]⟩, .many [.obj (.view s), .none, .none, .none]), (.int .i64 g, _)] => some ⟨(sp_free s t p h g), fun (r_ : VS × Int) => ⟨[], some (.view (r_.1)), [], fun ss => .int .i64 (r_.2), fun k_ => .no⟩⟩
  | _ => none
theorem sp_free_ok : EntryOk Dg Tryz.prog 69 sp_free_e := by
  intro args c r h hr_
  unfold sp_free_e at h
  split at h
  · injection h with h; subst h; subst hr_
    refine ⟨fun K acs _ => pOk_no, fun hpre E G w hi hS => ?_⟩
    exact entry_post Dg (by exact rfl) (sp_free_calls _ _ _ _ _ _  hS)
  · cases h
def T_sp_free : List (Nat × Entry Sg) := (69, sp_free_e) :: T_sp_used
theorem T_sp_free_ok : TableOk Dg Tryz.prog T_sp_free := TableOk.cons Dg sp_free_ok T_sp_used_ok
def sp_count (s : VS) (t : Int) (p : Int) (h : Int) (n : Int) : VS := (let r1 : VS × Int := (VS.read s (0 : Int), VS.get s (0 : Int)); (let r2 : VS := VS.set (Prod.fst r1) (0 : Int) (IntKind.wrap IntKind.u32 (Prod.snd r1 + IntKind.wrap IntKind.u32 n)); r2))
def sp_count_out (r_ : VS) : List Value → Value := fun ss => undef
def sp_count_nw (p_0 : Addr) (r_ : VS) : List (Chunk Sg) := [.obj p_0 (.view (r_))]
def sp_count_rows (r_ : VS) : List (Mk Sg) := []
section
variable (s : VS) (t : Int) (p : Int) (h : Int) (n : Int) (p_0 : Addr)
theorem sp_count_calls {E_ : World} {G_ : Hp} {w_ : World} (hS : Sat E_ G_ w_ [Dg p_0 ((.view s))]) : Calls Tryz.prog 66 #[(.agg #[.pointer (some p_0), .int .i64 t, .int .i64 p, .int .i64 h]), (.int .i64 n)] w_ (Post Dg E_ G_ (sp_count_out (sp_count s t p h n)) (sp_count_nw p_0 (sp_count s t p h n)) (sp_count_rows (sp_count s t p h n))) :=
  calls_post Dg T_sp_free_ok (I := []) Tryz.func66 mix (B := bodyOf Tryz.f66) (by kernel_rfl) [(.agg #[.pointer (some p_0), .int .i64 t, .int .i64 p, .int .i64 h]), (.int .i64 n)] [.many [.pt 0 .obj, .no, .no, .no], .no] (by kernel_rfl) (objs := [.obj p_0 (.view s)]) (ros := []) (psOk_cons (by simp [pOk, psOk, cOk]) (psOk_cons pOk_no (psOk_nil))) (by kernel_rfl) (trivial) hS 400
    (t := Tree.fresh fun b => Tree.bind (VS.read s (0 : Int), VS.get s (0 : Int)) fun a => Tree.bind (VS.set (Prod.fst a) (0 : Int) (IntKind.wrap IntKind.u32 (Prod.snd a + IntKind.wrap IntKind.u32 n))) fun a_1 => Tree.need (bd32 (IntKind.wrap IntKind.u32 (Prod.snd a + IntKind.wrap IntKind.u32 n))) (Tree.ret (Value.tuple { toList := [] }) pn_ [Chunk.obj p_0 (Option.getD (some (Sg.view a_1)) (Option.getD (some (Sg.view (Prod.fst a))) (Sg.view s))), kc_ b 97 [(Value.pointer (some p_0), po_ 0), (vi_ t, pn_), (vi_ p, pn_), (vi_ h, pn_)]]))
    (by kernel_rfl)
    (fun b0_0 => fun r1 e1 => fun r2 e2 => ⟨by first | exact wu32_bd _ | exact VS.get_bd _ _ | exact zero_bd | (rw [info_Put_val]; exact iVal_bd _ _ _) | (subst_vars; exact VS.get_bd _ _) | omega, fun y3 => RetOk.at (outf := sp_count_out) (nwf := sp_count_nw p_0) (rowsf := sp_count_rows) (r := r2) (by subst e1; subst e2; first | exact Eq.symm rfl | (simp only [sp_count, cond_true, cond_false]; done) | (exfalso; simp_all; done) | decide) ⟨[], [0], (by decide), rfl, rfl, ⟨.inl rfl, trivial⟩⟩⟩)
end
def sp_count_e : Entry Sg := fun
  | [(.agg ⟨[.pointer (some p_0), .int .i64 t, .int .i64 p, .int .i64 h]⟩, .many [.obj (.view s), .none, .none, .none]), (.int .i64 n, _)] => some ⟨(sp_count s t p h n), fun (r_ : VS) => ⟨[], some (.view (r_)), [], fun ss => undef, fun k_ => .no⟩⟩
  | _ => none
theorem sp_count_ok : EntryOk Dg Tryz.prog 66 sp_count_e := by
  intro args c r h hr_
  unfold sp_count_e at h
  split at h
  · injection h with h; subst h; subst hr_
    refine ⟨fun K acs _ => pOk_no, fun hpre E G w hi hS => ?_⟩
    exact entry_post Dg (by exact rfl) (sp_count_calls _ _ _ _ _ _  hS)
  · cases h
def T_sp_count : List (Nat × Entry Sg) := (66, sp_count_e) :: T_sp_free
theorem T_sp_count_ok : TableOk Dg Tryz.prog T_sp_count := TableOk.cons Dg sp_count_ok T_sp_free_ok
def sp_join (s : VS) (t : Int) (p : Int) (h : Int) (g : Int) (b : Int) : VS × Int := (let r1 : Ty (Ct.RK c_bin_Drop) := bin_Drop s t p h g; (let r2 : VS := VS.set (Prod.fst r1) (place_Info t p h b) (0 : Int); (let r4 : VS := VS.set r2 (place_Foot t p h (IntKind.wrap IntKind.i64 (b - (1 : Int)))) (0 : Int); (r4, Prod.snd r1))))
def sp_join_out (r_ : VS × Int) : List Value → Value := fun ss => .int .i64 (r_.2)
def sp_join_nw (p_0 : Addr) (r_ : VS × Int) : List (Chunk Sg) := [.obj p_0 (.view (r_.1))]
def sp_join_rows (r_ : VS × Int) : List (Mk Sg) := []
section
variable (s : VS) (t : Int) (p : Int) (h : Int) (g : Int) (b : Int) (p_0 : Addr)
theorem sp_join_calls {E_ : World} {G_ : Hp} {w_ : World} (hS : Sat E_ G_ w_ [Dg p_0 ((.view s))]) : Calls Tryz.prog 70 #[(.agg #[.pointer (some p_0), .int .i64 t, .int .i64 p, .int .i64 h]), (.int .i64 g), (.int .i64 b)] w_ (Post Dg E_ G_ (sp_join_out (sp_join s t p h g b)) (sp_join_nw p_0 (sp_join s t p h g b)) (sp_join_rows (sp_join s t p h g b))) :=
  calls_post Dg T_sp_count_ok (I := []) Tryz.func70 mix (B := bodyOf Tryz.f70) (by kernel_rfl) [(.agg #[.pointer (some p_0), .int .i64 t, .int .i64 p, .int .i64 h]), (.int .i64 g), (.int .i64 b)] [.many [.pt 0 .obj, .no, .no, .no], .no, .no] (by kernel_rfl) (objs := [.obj p_0 (.view s)]) (ros := []) (psOk_cons (by simp [pOk, psOk, cOk]) (psOk_cons pOk_no (psOk_cons pOk_no (psOk_nil)))) (by kernel_rfl) (trivial) hS 400
    (t := Tree.fresh fun b_1 => Tree.bind (bin_Drop s t p h g) fun a => Tree.bind (VS.set (Prod.fst a) (place_Info t p h b) (0 : Int)) fun a_1 => Tree.need (bd32 (0 : Int)) (Tree.bind (VS.set a_1 (place_Foot t p h (IntKind.wrap IntKind.i64 (b - (1 : Int)))) (0 : Int)) fun a_2 => Tree.need (bd32 (0 : Int)) (Tree.ret (vi_ (Prod.snd a)) pn_ [Chunk.obj p_0 (Option.getD (some (Sg.view a_2)) (Option.getD (some (Sg.view a_1)) (Option.getD (some (Wr.inj wView (Prod.fst a))) (Sg.view s)))), kc_ b_1 97 [(Value.pointer (some p_0), po_ 0), (vi_ t, pn_), (vi_ p, pn_), (vi_ h, pn_)]])))
    (by kernel_rfl)
    (fun b0_0 => fun r1 e1 => fun r2 e2 => ⟨by first | exact wu32_bd _ | exact VS.get_bd _ _ | exact zero_bd | (rw [info_Put_val]; exact iVal_bd _ _ _) | (subst_vars; exact VS.get_bd _ _) | omega, fun y3 => fun r4 e4 => ⟨by first | exact wu32_bd _ | exact VS.get_bd _ _ | exact zero_bd | (rw [info_Put_val]; exact iVal_bd _ _ _) | (subst_vars; exact VS.get_bd _ _) | omega, fun y5 => RetOk.at (outf := sp_join_out) (nwf := sp_join_nw p_0) (rowsf := sp_join_rows) (r := (r4, Prod.snd r1)) (by subst e1; subst e2; subst e4; first | exact Eq.symm rfl | (simp only [sp_join, cond_true, cond_false]; done) | (exfalso; simp_all; done) | decide) ⟨[], [0], (by decide), rfl, rfl, ⟨.inl rfl, trivial⟩⟩⟩⟩)
end
def sp_join_e : Entry Sg := fun
  | [(.agg ⟨[.pointer (some p_0), .int .i64 t, .int .i64 p, .int .i64 h]⟩, .many [.obj (.view s), .none, .none, .none]), (.int .i64 g, _), (.int .i64 b, _)] => some ⟨(sp_join s t p h g b), fun (r_ : VS × Int) => ⟨[], some (.view (r_.1)), [], fun ss => .int .i64 (r_.2), fun k_ => .no⟩⟩
  | _ => none
theorem sp_join_ok : EntryOk Dg Tryz.prog 70 sp_join_e := by
  intro args c r h hr_
  unfold sp_join_e at h
  split at h
  · injection h with h; subst h; subst hr_
    refine ⟨fun K acs _ => pOk_no, fun hpre E G w hi hS => ?_⟩
    exact entry_post Dg (by exact rfl) (sp_join_calls _ _ _ _ _ _ _  hS)
  · cases h
def T_sp_join : List (Nat × Entry Sg) := (70, sp_join_e) :: T_sp_count
theorem T_sp_join_ok : TableOk Dg Tryz.prog T_sp_join := TableOk.cons Dg sp_join_ok T_sp_count_ok
def sp_ahead (s : VS) (t : Int) (p : Int) (h : Int) (g : Int) : VS × Int := (bif g == (0 : Int) then (s, (-1 : Int)) else (let r2 : VS × Int := (VS.read s (place_Foot t p h (IntKind.wrap IntKind.i64 (g - (1 : Int)))), VS.get s (place_Foot t p h (IntKind.wrap IntKind.i64 (g - (1 : Int))))); (Prod.fst r2, IntKind.wrap IntKind.i64 (IntKind.wrap IntKind.i64 (Prod.snd r2) - (1 : Int)))))
def sp_ahead_out (r_ : VS × Int) : List Value → Value := fun ss => .int .i64 (r_.2)
def sp_ahead_nw (p_0 : Addr) (r_ : VS × Int) : List (Chunk Sg) := [.obj p_0 (.view (r_.1))]
def sp_ahead_rows (r_ : VS × Int) : List (Mk Sg) := []
section
variable (s : VS) (t : Int) (p : Int) (h : Int) (g : Int) (p_0 : Addr)
theorem sp_ahead_calls {E_ : World} {G_ : Hp} {w_ : World} (hS : Sat E_ G_ w_ [Dg p_0 ((.view s))]) : Calls Tryz.prog 68 #[(.agg #[.pointer (some p_0), .int .i64 t, .int .i64 p, .int .i64 h]), (.int .i64 g)] w_ (Post Dg E_ G_ (sp_ahead_out (sp_ahead s t p h g)) (sp_ahead_nw p_0 (sp_ahead s t p h g)) (sp_ahead_rows (sp_ahead s t p h g))) :=
  calls_post Dg T_sp_join_ok (I := []) Tryz.func68 mix (B := bodyOf Tryz.f68) (by kernel_rfl) [(.agg #[.pointer (some p_0), .int .i64 t, .int .i64 p, .int .i64 h]), (.int .i64 g)] [.many [.pt 0 .obj, .no, .no, .no], .no] (by kernel_rfl) (objs := [.obj p_0 (.view s)]) (ros := []) (psOk_cons (by simp [pOk, psOk, cOk]) (psOk_cons pOk_no (psOk_nil))) (by kernel_rfl) (trivial) hS 400
    (t := Tree.fresh fun b => Tree.br (g == (0 : Int)) (Tree.ret (vi_ (-1 : Int)) pn_ [Chunk.obj p_0 (Sg.view s), kc_ b 97 [(Value.pointer (some p_0), po_ 0), (vi_ t, pn_), (vi_ p, pn_), (vi_ h, pn_)]]) (Tree.bind (VS.read s (place_Foot t p h (IntKind.wrap IntKind.i64 (g - (1 : Int)))), VS.get s (place_Foot t p h (IntKind.wrap IntKind.i64 (g - (1 : Int))))) fun a => Tree.ret (vi_ (IntKind.wrap IntKind.i64 (IntKind.wrap IntKind.i64 (Prod.snd a) - (1 : Int)))) pn_ [Chunk.obj p_0 (Option.getD (some (Sg.view (Prod.fst a))) (Sg.view s)), kc_ b 97 [(Value.pointer (some p_0), po_ 0), (vi_ t, pn_), (vi_ p, pn_), (vi_ h, pn_)]]))
    (by kernel_rfl)
    (fun b0_0 => ⟨fun z1 => RetOk.at (outf := sp_ahead_out) (nwf := sp_ahead_nw p_0) (rowsf := sp_ahead_rows) (r := (s, (-1 : Int))) (by first | exact Eq.symm ((cT z1).trans rfl) | (simp only [sp_ahead, z1, cond_true, cond_false]; done) | (exfalso; simp_all; done) | decide) ⟨[], [0], (by decide), rfl, rfl, ⟨.inl rfl, trivial⟩⟩, fun z1 => fun r2 e2 => RetOk.at (outf := sp_ahead_out) (nwf := sp_ahead_nw p_0) (rowsf := sp_ahead_rows) (r := (Prod.fst r2, IntKind.wrap IntKind.i64 (IntKind.wrap IntKind.i64 (Prod.snd r2) - (1 : Int)))) (by subst e2; first | exact Eq.symm ((cF z1).trans rfl) | (simp only [sp_ahead, z1, cond_true, cond_false]; done) | (exfalso; simp_all; done) | decide) ⟨[], [0], (by decide), rfl, rfl, ⟨.inl rfl, trivial⟩⟩⟩)
end
def sp_ahead_e : Entry Sg := fun
  | [(.agg ⟨[.pointer (some p_0), .int .i64 t, .int .i64 p, .int .i64 h]⟩, .many [.obj (.view s), .none, .none, .none]), (.int .i64 g, _)] => some ⟨(sp_ahead s t p h g), fun (r_ : VS × Int) => ⟨[], some (.view (r_.1)), [], fun ss => .int .i64 (r_.2), fun k_ => .no⟩⟩
  | _ => none
theorem sp_ahead_ok : EntryOk Dg Tryz.prog 68 sp_ahead_e := by
  intro args c r h hr_
  unfold sp_ahead_e at h
  split at h
  · injection h with h; subst h; subst hr_
    refine ⟨fun K acs _ => pOk_no, fun hpre E G w hi hS => ?_⟩
    exact entry_post Dg (by exact rfl) (sp_ahead_calls _ _ _ _ _ _  hS)
  · cases h
def T_sp_ahead : List (Nat × Entry Sg) := (68, sp_ahead_e) :: T_sp_join
theorem T_sp_ahead_ok : TableOk Dg Tryz.prog T_sp_ahead := TableOk.cons Dg sp_ahead_ok T_sp_join_ok
end Go.Proofs.YtajcpopikdpcmaaGreat
namespace Go.Sl
abbrev wI (x : Int) : Int := IntKind.wrap IntKind.i64 x
section
variable (c : Cf)
def qUsed (p n : Int) : Pg Unit := .put (c.info p) (iVal 2 n 0) <| .put (c.foot (wI (wI (p + n) - 1))) (nv (p + 1)) (.ret ())
def qJoin (p b : Int) : Pg Int := (pDrop c p).bind fun l => .put (c.info b) 0 <| .put (c.foot (wI (b - 1))) 0 (.ret l)
def qTake (n : Int) : Pg (Int × Bool) :=
  (pFind c n).bind fun r => bif r.2 then
    (pDrop c r.1).bind fun l => (qUsed c r.1 n).bind fun _ =>
      (bif decide (n < l) then pAdd c (wI (r.1 + n)) (wI (l - n)) else .ret ()).bind fun _ => (pCount (-n)).bind fun _ => .ret (r.1, true)
  else .ret (0, false)
def qAhead (p n : Int) : Pg (Int × Int) :=
  bif p == 0 then .ret (p, n) else .get (c.foot (wI (p - 1))) fun f =>
    (pFree c (f - 1)).bind fun l => bif decide (0 < l) then (qJoin c (f - 1) p).bind fun m => .ret (f - 1, wI (n + m)) else .ret (p, n)
def qNext (r : Int) (a : Int × Int) : Pg (Int × Int) :=
  bif decide (r < c.p) then (pFree c r).bind fun l => bif decide (0 < l) then (qJoin c r r).bind fun m => .ret (a.1, wI (a.2 + m)) else .ret a else .ret a
def qRelease (p n : Int) : Pg Unit :=
  (qAhead c p n).bind fun a => (qNext c (wI (p + n)) a).bind fun a => (pAdd c a.1 a.2).bind fun _ => pCount n
def qShrink (p n m : Int) : Pg Unit := (qUsed c p m).bind fun _ => qRelease c (wI (p + m)) (wI (n - m))
def qGrow (p n m : Int) : Pg Bool :=
  bif decide (c.p ≤ wI (p + n)) then .ret false else
    (pFree c (wI (p + n))).bind fun l => bif l == 0 || decide (l < wI (m - n)) then .ret false else
      (qJoin c (wI (p + n)) (wI (p + n))).bind fun _ => (qUsed c p m).bind fun _ =>
        (bif decide (wI (m - n) < l) then pAdd c (wI (p + m)) (wI (l - wI (m - n))) else .ret ()).bind fun _ => (pCount (-wI (m - n))).bind fun _ => .ret true
def pLen (p : Int) : Pg Int := .get (c.info p) fun v => .ret (iGet v).l
def qLAlloc (n : Int) : Pg (Int × Bool) := (qTake c n).bind fun r => bif r.2 then .get 1 fun v => .put 1 (nv (v + 1)) (.ret (r.1, true)) else .ret (0, false)
def qLFree (p : Int) : Pg Unit := (pLen c p).bind fun n => (qRelease c p n).bind fun _ => .get 1 fun v => .put 1 (nv (v - 1)) (.ret ())
def qLResize (p m : Int) : Pg Bool := (pLen c p).bind fun n =>
  bif decide (m < 1) || decide (c.p < m) then .ret false else bif decide (n < m) then qGrow c p n m else bif decide (m < n) then (qShrink c p n m).bind fun _ => .ret true else .ret true
theorem qTake_no (n : Int) (s : VS) (h : ((qTake c n).run s).2.2 = false) : ((qTake c n).run s).2.1 = 0 := by
  unfold qTake at h ⊢
  rw [Pg.run_bind] at h ⊢
  cases hb : ((pFind c n).run s).2.2 with
  | false => simp only [hb, cond_false, Pg.run_ret]
  | true =>
    simp only [hb, cond_true, Pg.run_bind, Pg.run_ret] at h
    cases h
end
theorem get_out1 (s : VS) {i : Int} (h : i < 0) : s.get i = 0 ∧ s.read i = s := by
  have : s.there i = false := by
    simp only [VS.there, Bool.and_eq_false_iff, decide_eq_false_iff_not]
    omega
  unfold VS.get VS.read
  rw [this]
  exact ⟨rfl, rfl⟩
end Go.Sl
namespace Go.Proofs.YtajcpopikdpcmaaGreat
open Go.Sl
theorem nvadd (x y : Int) : nv (x + nv y) = nv (x + y) := by unfold nv; omega
theorem nvsub (x y : Int) : nv (x - nv y) = nv (x + -y) := by unfold nv; omega
theorem nvwi0 (y : Int) : nv (IntKind.wrap IntKind.i64 y) = nv y := by rw [IntKind.wrap_i64]; unfold nv; omega
theorem nvaddw (x y : Int) : nv (x + IntKind.wrap IntKind.i64 y) = nv (x + y) := by rw [IntKind.wrap_i64]; unfold nv; omega
theorem dpos (v : Int) : decide (0 < bif (iGet v).k == 1 then (iGet v).l else 0) = ((iGet v).k == 1) := by
  have hi := iGet_cases v
  cases hk : (iGet v).k == 1 with
  | false => rfl
  | true =>
    simp only [beq_iff_eq] at hk
    simp only [cond_true, decide_eq_true_eq]; omega
theorem spFree_eq (s : VS) (t p h g : Int) : sp_free s t p h g = (pFree ⟨t, p, h⟩ g).run s := by
  simp only [sp_free, pFree, Pg.run_get, Pg.run_ret, place_Info_eq, infoG1, infoG2, bne]
  cases (iGet (s.get (Cf.info ⟨t, p, h⟩ g))).k == 1 <;> rfl
theorem dposr (c : Cf) (g : Int) (s : VS) : decide (0 < ((pFree c g).run s).2) = ((iGet (s.get (c.info g))).k == 1) := dpos _
theorem pFreeR (c : Cf) (g : Int) (s : VS) : (pFree c g).run s = (s.read (c.info g), bif (iGet (s.get (c.info g))).k == 1 then (iGet (s.get (c.info g))).l else 0) := rfl
theorem nvnegw (x y : Int) : nv (x + -IntKind.wrap IntKind.i64 y) = nv (x + -y) := by rw [IntKind.wrap_i64]; unfold nv; omega
theorem dz0 : decide ((0 : Int) < 0) = false := rfl
theorem growcr (c : Cf) (g w : Int) (s : VS) : (((pFree c g).run s).2 == 0 || decide (((pFree c g).run s).2 < w)) = (!((iGet (s.get (c.info g))).k == 1) || decide ((iGet (s.get (c.info g))).l < w)) := by
  rw [pFreeR]
  have hi := iGet_cases (s.get (c.info g))
  cases hk : (iGet (s.get (c.info g))).k == 1 with
  | false => rfl
  | true =>
    simp only [beq_iff_eq] at hk
    have e : ((iGet (s.get (c.info g))).l == 0) = false := by simp only [beq_eq_false_iff_ne, ne_eq]; omega
    simp only [cond_true, e, Bool.not_true, Bool.false_or]
theorem growdr {c : Cf} {g w : Int} {s : VS} (hk : ((iGet (s.get (c.info g))).k == 1) = true) : decide (w < ((pFree c g).run s).2) = decide (w < (iGet (s.get (c.info g))).l) := by
  rw [pFreeR]; simp only [hk, cond_true]
theorem dge1 (x : Int) : decide (0 ≤ x - 1) = decide (1 ≤ x) := decide_eq_decide.2 (by omega)
theorem dneg : decide ((0 : Int) ≤ -1) = false := rfl
theorem get_fb (s : VS) (i : Int) : IntKind.wrap IntKind.i64 (s.get i) = s.get i := w64g s i
theorem get_fb1 (s : VS) (i : Int) : IntKind.wrap IntKind.i64 (s.get i - 1) = s.get i - 1 := w64g1 s i
def span_Take (s : VS) (t : Int) (p : Int) (h : Int) (n : Int) : VS × Int × Bool := (qTake ⟨t, p, h⟩ n).run s
abbrev c_span_Take : Ct Sg := ⟨some wView, false, [.agg [.i .i64, .i .i64, .i .i64], .i .i64], .tup [.i .i64, .b]⟩
def e_span_Take : Entry Sg := entC c_span_Take span_Take (fun s t p h n => [p ≤ 1024])
def span_Take_w (s : VS) (t : Int) (p : Int) (h : Int) (n : Int) (R_ : VS × Int × Bool → Prop) : Prop := (∀ r2 : VS × Int × Bool, r2 = (bin_Find s t p h n) → ((p ≤ (9223372036854775807 : Int)) ∧ ((p ≤ (9223372036854775807 : Int)) → (((!Prod.snd (Prod.snd r2)) = true → (R_ ((Prod.fst r2, (0 : Int), false)))) ∧ ((!Prod.snd (Prod.snd r2)) = false → (∀ r5 : VS × Int, r5 = (bin_Drop (Prod.fst r2) t p h (Prod.fst (Prod.snd r2))) → (∀ r6 : VS, r6 = (sp_used (Prod.fst r5) t p h (Prod.fst (Prod.snd r2)) n) → (((decide (Prod.snd r5 > n)) = true → (∀ r8 : VS, r8 = (bin_Add r6 t p h (IntKind.wrap IntKind.i64 (Prod.fst (Prod.snd r2) + n)) (IntKind.wrap IntKind.i64 (Prod.snd r5 - n))) → ((p ≤ (1024 : Int)) ∧ ((p ≤ (1024 : Int)) → (∀ r10 : VS, r10 = (sp_count r8 t p h (IntKind.wrap IntKind.i64 ((0 : Int) - n))) → (R_ ((r10, Prod.fst (Prod.snd r2), true)))))))) ∧ ((decide (Prod.snd r5 > n)) = false → (∀ r8 : VS, r8 = (sp_count r6 t p h (IntKind.wrap IntKind.i64 ((0 : Int) - n))) → (R_ ((r8, Prod.fst (Prod.snd r2), true)))))))))))))
theorem span_Take_begin (s : VS) (t : Int) (p : Int) (h : Int) (n : Int) (hp0 : p ≤ 1024) : span_Take_w s t p h n  (fun r__ => r__ = (span_Take s t p h n)) := by
  unfold span_Take_w
  repeat' first
    | (refine fun r hr => ?_; subst hr)
    | refine ⟨(by first | exact wu32_bd _ | exact VS.get_bd _ _ | exact zero_bd | exact iVal_bd _ _ _ | exact nv_bd _ | (rw [info_Put_val]; exact iVal_bd _ _ _) | (rw [r09_Value_eq]; exact iVal_bd _ _ _) | assumption | omega), fun _ => ?_⟩
    | refine ⟨fun hc => ?_, fun hc => ?_⟩
    | (refine fun hr => ?_; subst hr)
    | fail
  all_goals
    simp only [link_page_eq, page_ne t p h, link_next, link_prev, place_Next_eq, place_Prev_eq, r07_Next_eq, r07_Prev_eq, link_to, w64g, w64g1, wrapu_nv, nvw, nvw2, bin_page, place_Info_eq, place_Foot_eq, r07_Info_eq, r07_Foot_eq, place_Bin_eq, r07_Bin_eq, info_Put_val, bin_Of, infoG1, infoG2, infoG3, rinfoG1, rinfoG2, rinfoG3, gt_iff_lt, bin_Find, bin_Drop, bin_Add, sp_used, spFree_eq, sp_count, nvadd, nvsub, nvwi0, nvaddw, nvnegw, Int.zero_sub, get_fb, get_fb1, dge1, dneg, ge_iff_le, bne, Bool.not_eq_true', Bool.not_eq_false', reduceCtorEq] at *
  all_goals
    skip
  all_goals
    simp only [span_Take, qUsed, pCount, qJoin, wI, nvadd, nvsub, nvaddw, nvnegw, qTake, Pg.run_get, Pg.run_put, Pg.run_ret, Pg.run_bind, Pg.run_cond, gt_iff_lt, cond_true, cond_false, *]
  all_goals
    try rfl
theorem span_Take_ok : EntryOk Dg Tryz.prog 22 e_span_Take :=
  ent_wp Dg T_sp_ahead_ok (I := [2999998]) Tryz.func22 mix (B := bodyOf Tryz.f22) (by kernel_rfl) rfl (by kernel_rfl) 400
    fun p0 s t p h n hb hp => have hp0 : p ≤ 1024 := hp _ (.head _); ⟨[], fun j => List.getD [] j (fun _ => False), fun j => List.getD [] j (fun _ => (0, 0, 0)), by kernel_rfl, ⟨span_Take_w s t p h n  (fun r__ => r__ = (span_Take s t p h n)), fun _ _ _ => by kernel_rfl, span_Take_begin s t p h n hp0 ⟩, trivial⟩
def T_span_Take : List (Nat × Entry Sg) := (22, e_span_Take) :: T_sp_ahead
theorem T_span_Take_ok : TableOk Dg Tryz.prog T_span_Take := TableOk.cons Dg span_Take_ok T_sp_ahead_ok
def span_Release (s : VS) (t : Int) (p : Int) (h : Int) (g : Int) (n : Int) : VS := ((qRelease ⟨t, p, h⟩ g n).run s).1
abbrev c_span_Release : Ct Sg := ⟨some wView, false, [.agg [.i .i64, .i .i64, .i .i64], .i .i64, .i .i64], .skip⟩
def e_span_Release : Entry Sg := entC c_span_Release span_Release (fun s t p h g n => [p ≤ 1024, 0 ≤ g])
def span_Release_w (s : VS) (t : Int) (p : Int) (h : Int) (g : Int) (n : Int) (R_ : VS → Prop) : Prop := (∀ r3 : VS × Int, r3 = (sp_ahead s t p h g) → (((decide (Prod.snd r3 ≥ (0 : Int))) = true → (∀ r5 : VS × Int, r5 = (sp_free (Prod.fst r3) t p h (Prod.snd r3)) → (((decide (Prod.snd r5 > (0 : Int))) = true → (∀ r7 : VS × Int, r7 = ((VS.set (VS.set (Prod.fst (bin_Drop (Prod.fst r5) t p h (Prod.snd r3))) (place_Info t p h g) (0 : Int)) (place_Foot t p h (IntKind.wrap IntKind.i64 (g - (1 : Int)))) (0 : Int), Prod.snd (bin_Drop (Prod.fst r5) t p h (Prod.snd r3)))) → (((decide (IntKind.wrap IntKind.i64 (g + n) < p)) = true → (∀ r9 : VS × Int, r9 = (sp_free (Prod.fst r7) t p h (IntKind.wrap IntKind.i64 (g + n))) → (((decide (Prod.snd r9 > (0 : Int))) = true → (∀ r11 : VS × Int, r11 = ((VS.set (VS.set (Prod.fst (bin_Drop (Prod.fst r9) t p h (IntKind.wrap IntKind.i64 (g + n)))) (place_Info t p h (IntKind.wrap IntKind.i64 (g + n))) (0 : Int)) (place_Foot t p h (IntKind.wrap IntKind.i64 (IntKind.wrap IntKind.i64 (g + n) - (1 : Int)))) (0 : Int), Prod.snd (bin_Drop (Prod.fst r9) t p h (IntKind.wrap IntKind.i64 (g + n))))) → (∀ r12 : VS, r12 = (bin_Add (Prod.fst r11) t p h (Prod.snd r3) (IntKind.wrap IntKind.i64 (IntKind.wrap IntKind.i64 (n + Prod.snd r7) + Prod.snd r11))) → ((p ≤ (1024 : Int)) ∧ ((p ≤ (1024 : Int)) → (∀ r14 : VS, r14 = (sp_count r12 t p h n) → (R_ (r14)))))))) ∧ ((decide (Prod.snd r9 > (0 : Int))) = false → (∀ r11 : VS, r11 = (bin_Add (Prod.fst r9) t p h (Prod.snd r3) (IntKind.wrap IntKind.i64 (n + Prod.snd r7))) → ((p ≤ (1024 : Int)) ∧ ((p ≤ (1024 : Int)) → (∀ r13 : VS, r13 = (sp_count r11 t p h n) → (R_ (r13)))))))))) ∧ ((decide (IntKind.wrap IntKind.i64 (g + n) < p)) = false → (∀ r9 : VS, r9 = (bin_Add (Prod.fst r7) t p h (Prod.snd r3) (IntKind.wrap IntKind.i64 (n + Prod.snd r7))) → ((p ≤ (1024 : Int)) ∧ ((p ≤ (1024 : Int)) → (∀ r11 : VS, r11 = (sp_count r9 t p h n) → (R_ (r11)))))))))) ∧ ((decide (Prod.snd r5 > (0 : Int))) = false → (((decide (IntKind.wrap IntKind.i64 (g + n) < p)) = true → (∀ r8 : VS × Int, r8 = (sp_free (Prod.fst r5) t p h (IntKind.wrap IntKind.i64 (g + n))) → (((decide (Prod.snd r8 > (0 : Int))) = true → (∀ r10 : VS × Int, r10 = ((VS.set (VS.set (Prod.fst (bin_Drop (Prod.fst r8) t p h (IntKind.wrap IntKind.i64 (g + n)))) (place_Info t p h (IntKind.wrap IntKind.i64 (g + n))) (0 : Int)) (place_Foot t p h (IntKind.wrap IntKind.i64 (IntKind.wrap IntKind.i64 (g + n) - (1 : Int)))) (0 : Int), Prod.snd (bin_Drop (Prod.fst r8) t p h (IntKind.wrap IntKind.i64 (g + n))))) → (∀ r11 : VS, r11 = (bin_Add (Prod.fst r10) t p h g (IntKind.wrap IntKind.i64 (n + Prod.snd r10))) → ((p ≤ (1024 : Int)) ∧ ((p ≤ (1024 : Int)) → (∀ r13 : VS, r13 = (sp_count r11 t p h n) → (R_ (r13)))))))) ∧ ((decide (Prod.snd r8 > (0 : Int))) = false → (∀ r10 : VS, r10 = (bin_Add (Prod.fst r8) t p h g n) → ((p ≤ (1024 : Int)) ∧ ((p ≤ (1024 : Int)) → (∀ r12 : VS, r12 = (sp_count r10 t p h n) → (R_ (r12)))))))))) ∧ ((decide (IntKind.wrap IntKind.i64 (g + n) < p)) = false → (∀ r8 : VS, r8 = (bin_Add (Prod.fst r5) t p h g n) → ((p ≤ (1024 : Int)) ∧ ((p ≤ (1024 : Int)) → (∀ r10 : VS, r10 = (sp_count r8 t p h n) → (R_ (r10)))))))))))) ∧ ((decide (Prod.snd r3 ≥ (0 : Int))) = false → (((decide (IntKind.wrap IntKind.i64 (g + n) < p)) = true → (∀ r6 : VS × Int, r6 = (sp_free (Prod.fst r3) t p h (IntKind.wrap IntKind.i64 (g + n))) → (((decide (Prod.snd r6 > (0 : Int))) = true → (∀ r8 : VS × Int, r8 = ((VS.set (VS.set (Prod.fst (bin_Drop (Prod.fst r6) t p h (IntKind.wrap IntKind.i64 (g + n)))) (place_Info t p h (IntKind.wrap IntKind.i64 (g + n))) (0 : Int)) (place_Foot t p h (IntKind.wrap IntKind.i64 (IntKind.wrap IntKind.i64 (g + n) - (1 : Int)))) (0 : Int), Prod.snd (bin_Drop (Prod.fst r6) t p h (IntKind.wrap IntKind.i64 (g + n))))) → (∀ r9 : VS, r9 = (bin_Add (Prod.fst r8) t p h g (IntKind.wrap IntKind.i64 (n + Prod.snd r8))) → ((p ≤ (1024 : Int)) ∧ ((p ≤ (1024 : Int)) → (∀ r11 : VS, r11 = (sp_count r9 t p h n) → (R_ (r11)))))))) ∧ ((decide (Prod.snd r6 > (0 : Int))) = false → (∀ r8 : VS, r8 = (bin_Add (Prod.fst r6) t p h g n) → ((p ≤ (1024 : Int)) ∧ ((p ≤ (1024 : Int)) → (∀ r10 : VS, r10 = (sp_count r8 t p h n) → (R_ (r10)))))))))) ∧ ((decide (IntKind.wrap IntKind.i64 (g + n) < p)) = false → (∀ r6 : VS, r6 = (bin_Add (Prod.fst r3) t p h g n) → ((p ≤ (1024 : Int)) ∧ ((p ≤ (1024 : Int)) → (∀ r8 : VS, r8 = (sp_count r6 t p h n) → (R_ (r8)))))))))))
theorem span_Release_begin (s : VS) (t : Int) (p : Int) (h : Int) (g : Int) (n : Int) (hp0 : p ≤ 1024) (hp1 : 0 ≤ g) : span_Release_w s t p h g n  (fun r__ => r__ = (span_Release s t p h g n)) := by
  unfold span_Release_w
  have hz : decide (1 ≤ s.get (Cf.foot ⟨t, p, h⟩ (IntKind.wrap IntKind.i64 (g - 1)))) = false → ∀ s' : VS, (pFree ⟨t, p, h⟩ (s.get (Cf.foot ⟨t, p, h⟩ (IntKind.wrap IntKind.i64 (g - 1))) - 1)).run s' = (s', 0) := fun hf s' => by
    have hb := VS.get_bd s (Cf.foot ⟨t, p, h⟩ (IntKind.wrap IntKind.i64 (g - 1)))
    simp only [decide_eq_false_iff_not] at hf
    rw [show s.get (Cf.foot ⟨t, p, h⟩ (IntKind.wrap IntKind.i64 (g - 1))) - 1 = -1 by omega]
    have e : Cf.info ⟨t, p, h⟩ (-1) = -1 := by
      unfold Cf.info Cf.pc Cf.page
      simp
    rw [pFreeR, e, (get_out1 s' (by decide)).1, (get_out1 s' (by decide)).2]
    rfl
  unfold sp_ahead
  cases hg0 : g == 0
  all_goals simp only [cond_true, cond_false]
  repeat' first
    | (refine fun r hr => ?_; subst hr)
    | refine ⟨(by first | exact wu32_bd _ | exact VS.get_bd _ _ | exact zero_bd | exact iVal_bd _ _ _ | exact nv_bd _ | (rw [info_Put_val]; exact iVal_bd _ _ _) | (rw [r09_Value_eq]; exact iVal_bd _ _ _) | assumption | omega), fun _ => ?_⟩
    | refine ⟨fun hc => ?_, fun hc => ?_⟩
    | (refine fun hr => ?_; subst hr)
    | fail
  all_goals
    simp only [link_page_eq, page_ne t p h, link_next, link_prev, place_Next_eq, place_Prev_eq, r07_Next_eq, r07_Prev_eq, link_to, w64g, w64g1, wrapu_nv, nvw, nvw2, bin_page, place_Info_eq, place_Foot_eq, r07_Info_eq, r07_Foot_eq, place_Bin_eq, r07_Bin_eq, info_Put_val, bin_Of, infoG1, infoG2, infoG3, rinfoG1, rinfoG2, rinfoG3, gt_iff_lt, bin_Find, bin_Drop, bin_Add, sp_used, spFree_eq, sp_count, nvadd, nvsub, nvwi0, nvaddw, nvnegw, Int.zero_sub, get_fb, get_fb1, dge1, dneg, ge_iff_le, bne, Bool.not_eq_true', Bool.not_eq_false', reduceCtorEq] at *
  all_goals
    skip
  all_goals
    simp only [span_Release, qUsed, pCount, qJoin, wI, nvadd, nvsub, nvaddw, nvnegw, qRelease, qAhead, qNext, dz0, Pg.run_get, Pg.run_put, Pg.run_ret, Pg.run_bind, Pg.run_cond, gt_iff_lt, cond_true, cond_false, *]
  all_goals
    try rfl
theorem span_Release_ok : EntryOk Dg Tryz.prog 26 e_span_Release :=
  ent_wp Dg T_span_Take_ok (I := [2999998]) Tryz.func26 mix (B := bodyOf Tryz.f26) (by kernel_rfl) rfl (by kernel_rfl) 400
    fun p0 s t p h g n hb hp => have hp0 : p ≤ 1024 := hp _ (.head _); have hp1 : 0 ≤ g := hp _ (.tail _ (.head _)); ⟨[], fun j => List.getD [] j (fun _ => False), fun j => List.getD [] j (fun _ => (0, 0, 0)), by kernel_rfl, ⟨span_Release_w s t p h g n  (fun r__ => r__ = (span_Release s t p h g n)), fun _ _ _ => by kernel_rfl, span_Release_begin s t p h g n hp0 hp1 ⟩, trivial⟩
def T_span_Release : List (Nat × Entry Sg) := (26, e_span_Release) :: T_span_Take
theorem T_span_Release_ok : TableOk Dg Tryz.prog T_span_Release := TableOk.cons Dg span_Release_ok T_span_Take_ok
def span_Shrink (s : VS) (t : Int) (p : Int) (h : Int) (g : Int) (n : Int) (m : Int) : VS := ((qShrink ⟨t, p, h⟩ g n m).run s).1
abbrev c_span_Shrink : Ct Sg := ⟨some wView, false, [.agg [.i .i64, .i .i64, .i .i64], .i .i64, .i .i64, .i .i64], .skip⟩
def e_span_Shrink : Entry Sg := entC c_span_Shrink span_Shrink (fun s t p h g n m => [p ≤ 1024, 0 ≤ g, 0 ≤ m ∧ m ≤ n ∧ n ≤ 1024 ∧ g ≤ p])
def span_Shrink_w (s : VS) (t : Int) (p : Int) (h : Int) (g : Int) (n : Int) (m : Int) (R_ : VS → Prop) : Prop := (∀ r1 : VS, r1 = (sp_used s t p h g m) → (∀ r2 : VS, r2 = (span_Release r1 t p h (IntKind.wrap IntKind.i64 (g + m)) (IntKind.wrap IntKind.i64 (n - m))) → ((p ≤ (1024 : Int)) ∧ ((p ≤ (1024 : Int)) → (((0 : Int) ≤ IntKind.wrap IntKind.i64 (g + m)) ∧ (((0 : Int) ≤ IntKind.wrap IntKind.i64 (g + m)) → (R_ (r2))))))))
theorem span_Shrink_begin (s : VS) (t : Int) (p : Int) (h : Int) (g : Int) (n : Int) (m : Int) (hp0 : p ≤ 1024) (hp1 : 0 ≤ g) (hp2 : 0 ≤ m ∧ m ≤ n ∧ n ≤ 1024 ∧ g ≤ p) : span_Shrink_w s t p h g n m  (fun r__ => r__ = (span_Shrink s t p h g n m)) := by
  unfold span_Shrink_w
  have hw : IntKind.wrap IntKind.i64 (g + m) = g + m := w64 (by omega)
  rw [hw]
  repeat' first
    | (refine fun r hr => ?_; subst hr)
    | refine ⟨(by first | exact wu32_bd _ | exact VS.get_bd _ _ | exact zero_bd | exact iVal_bd _ _ _ | exact nv_bd _ | (rw [info_Put_val]; exact iVal_bd _ _ _) | (rw [r09_Value_eq]; exact iVal_bd _ _ _) | assumption | omega), fun _ => ?_⟩
    | refine ⟨fun hc => ?_, fun hc => ?_⟩
    | (refine fun hr => ?_; subst hr)
    | fail
  all_goals
    simp only [link_page_eq, page_ne t p h, link_next, link_prev, place_Next_eq, place_Prev_eq, r07_Next_eq, r07_Prev_eq, link_to, w64g, w64g1, wrapu_nv, nvw, nvw2, bin_page, place_Info_eq, place_Foot_eq, r07_Info_eq, r07_Foot_eq, place_Bin_eq, r07_Bin_eq, info_Put_val, bin_Of, infoG1, infoG2, infoG3, rinfoG1, rinfoG2, rinfoG3, gt_iff_lt, bin_Find, bin_Drop, bin_Add, sp_used, spFree_eq, sp_count, nvadd, nvsub, nvwi0, nvaddw, nvnegw, Int.zero_sub, get_fb, get_fb1, dge1, dneg, ge_iff_le, span_Release, bne, Bool.not_eq_true', Bool.not_eq_false', reduceCtorEq] at *
  all_goals
    skip
  all_goals
    simp only [span_Shrink, qUsed, pCount, qJoin, wI, nvadd, nvsub, nvaddw, nvnegw, qShrink, span_Release, Pg.run_get, Pg.run_put, Pg.run_ret, Pg.run_bind, Pg.run_cond, gt_iff_lt, cond_true, cond_false, *]
  all_goals
    try rfl
theorem span_Shrink_ok : EntryOk Dg Tryz.prog 29 e_span_Shrink :=
  ent_wp Dg T_span_Release_ok (I := [2999998]) Tryz.func29 mix (B := bodyOf Tryz.f29) (by kernel_rfl) rfl (by kernel_rfl) 400
    fun p0 s t p h g n m hb hp => have hp0 : p ≤ 1024 := hp _ (.head _); have hp1 : 0 ≤ g := hp _ (.tail _ (.head _)); have hp2 : 0 ≤ m ∧ m ≤ n ∧ n ≤ 1024 ∧ g ≤ p := hp _ (.tail _ (.tail _ (.head _))); ⟨[], fun j => List.getD [] j (fun _ => False), fun j => List.getD [] j (fun _ => (0, 0, 0)), by kernel_rfl, ⟨span_Shrink_w s t p h g n m  (fun r__ => r__ = (span_Shrink s t p h g n m)), fun _ _ _ => by kernel_rfl, span_Shrink_begin s t p h g n m hp0 hp1 hp2 ⟩, trivial⟩
def T_span_Shrink : List (Nat × Entry Sg) := (29, e_span_Shrink) :: T_span_Release
theorem T_span_Shrink_ok : TableOk Dg Tryz.prog T_span_Shrink := TableOk.cons Dg span_Shrink_ok T_span_Release_ok
def span_Grow (s : VS) (t : Int) (p : Int) (h : Int) (g : Int) (n : Int) (m : Int) : VS × Bool := (qGrow ⟨t, p, h⟩ g n m).run s
abbrev c_span_Grow : Ct Sg := ⟨some wView, false, [.agg [.i .i64, .i .i64, .i .i64], .i .i64, .i .i64, .i .i64], .b⟩
def e_span_Grow : Entry Sg := entC c_span_Grow span_Grow (fun s t p h g n m => [p ≤ 1024, 0 ≤ g])
def span_Grow_w (s : VS) (t : Int) (p : Int) (h : Int) (g : Int) (n : Int) (m : Int) (R_ : VS × Bool → Prop) : Prop := (((decide (IntKind.wrap IntKind.i64 (g + n) ≥ p)) = true → (R_ ((s, false)))) ∧ ((decide (IntKind.wrap IntKind.i64 (g + n) ≥ p)) = false → (∀ r3 : VS × Int, r3 = (sp_free s t p h (IntKind.wrap IntKind.i64 (g + n))) → (((Prod.snd r3 == (0 : Int) || decide (Prod.snd r3 < IntKind.wrap IntKind.i64 (m - n))) = true → (R_ ((Prod.fst r3, false)))) ∧ ((Prod.snd r3 == (0 : Int) || decide (Prod.snd r3 < IntKind.wrap IntKind.i64 (m - n))) = false → (∀ r5 : VS × Int, r5 = ((VS.set (VS.set (Prod.fst (bin_Drop (Prod.fst r3) t p h (IntKind.wrap IntKind.i64 (g + n)))) (place_Info t p h (IntKind.wrap IntKind.i64 (g + n))) (0 : Int)) (place_Foot t p h (IntKind.wrap IntKind.i64 (IntKind.wrap IntKind.i64 (g + n) - (1 : Int)))) (0 : Int), Prod.snd (bin_Drop (Prod.fst r3) t p h (IntKind.wrap IntKind.i64 (g + n))))) → (∀ r6 : VS, r6 = (sp_used (Prod.fst r5) t p h g m) → (((decide (Prod.snd r3 > IntKind.wrap IntKind.i64 (m - n))) = true → (∀ r8 : VS, r8 = (bin_Add r6 t p h (IntKind.wrap IntKind.i64 (g + m)) (IntKind.wrap IntKind.i64 (Prod.snd r3 - IntKind.wrap IntKind.i64 (m - n)))) → ((p ≤ (1024 : Int)) ∧ ((p ≤ (1024 : Int)) → (∀ r10 : VS, r10 = (sp_count r8 t p h (IntKind.wrap IntKind.i64 ((0 : Int) - IntKind.wrap IntKind.i64 (m - n)))) → (R_ ((r10, true)))))))) ∧ ((decide (Prod.snd r3 > IntKind.wrap IntKind.i64 (m - n))) = false → (∀ r8 : VS, r8 = (sp_count r6 t p h (IntKind.wrap IntKind.i64 ((0 : Int) - IntKind.wrap IntKind.i64 (m - n)))) → (R_ ((r8, true)))))))))))))
theorem span_Grow_begin (s : VS) (t : Int) (p : Int) (h : Int) (g : Int) (n : Int) (m : Int) (hp0 : p ≤ 1024) (hp1 : 0 ≤ g) : span_Grow_w s t p h g n m  (fun r__ => r__ = (span_Grow s t p h g n m)) := by
  unfold span_Grow_w
  repeat' first
    | (refine fun r hr => ?_; subst hr)
    | refine ⟨(by first | exact wu32_bd _ | exact VS.get_bd _ _ | exact zero_bd | exact iVal_bd _ _ _ | exact nv_bd _ | (rw [info_Put_val]; exact iVal_bd _ _ _) | (rw [r09_Value_eq]; exact iVal_bd _ _ _) | assumption | omega), fun _ => ?_⟩
    | refine ⟨fun hc => ?_, fun hc => ?_⟩
    | (refine fun hr => ?_; subst hr)
    | fail
  all_goals
    simp only [link_page_eq, page_ne t p h, link_next, link_prev, place_Next_eq, place_Prev_eq, r07_Next_eq, r07_Prev_eq, link_to, w64g, w64g1, wrapu_nv, nvw, nvw2, bin_page, place_Info_eq, place_Foot_eq, r07_Info_eq, r07_Foot_eq, place_Bin_eq, r07_Bin_eq, info_Put_val, bin_Of, infoG1, infoG2, infoG3, rinfoG1, rinfoG2, rinfoG3, gt_iff_lt, bin_Find, bin_Drop, bin_Add, sp_used, spFree_eq, sp_count, nvadd, nvsub, nvwi0, nvaddw, nvnegw, Int.zero_sub, get_fb, get_fb1, dge1, dneg, ge_iff_le, bne, Bool.not_eq_true', Bool.not_eq_false', reduceCtorEq] at *
  all_goals
    skip
  all_goals
    simp only [span_Grow, qUsed, pCount, qJoin, wI, nvadd, nvsub, nvaddw, nvnegw, qGrow, Pg.run_get, Pg.run_put, Pg.run_ret, Pg.run_bind, Pg.run_cond, gt_iff_lt, cond_true, cond_false, *]
  all_goals
    try rfl
theorem span_Grow_ok : EntryOk Dg Tryz.prog 30 e_span_Grow :=
  ent_wp Dg T_span_Shrink_ok (I := [2999998]) Tryz.func30 mix (B := bodyOf Tryz.f30) (by kernel_rfl) rfl (by kernel_rfl) 400
    fun p0 s t p h g n m hb hp => have hp0 : p ≤ 1024 := hp _ (.head _); have hp1 : 0 ≤ g := hp _ (.tail _ (.head _)); ⟨[], fun j => List.getD [] j (fun _ => False), fun j => List.getD [] j (fun _ => (0, 0, 0)), by kernel_rfl, ⟨span_Grow_w s t p h g n m  (fun r__ => r__ = (span_Grow s t p h g n m)), fun _ _ _ => by kernel_rfl, span_Grow_begin s t p h g n m hp0 hp1 ⟩, trivial⟩
def T_span_Grow : List (Nat × Entry Sg) := (30, e_span_Grow) :: T_span_Shrink
theorem T_span_Grow_ok : TableOk Dg Tryz.prog T_span_Grow := TableOk.cons Dg span_Grow_ok T_span_Shrink_ok
end Go.Proofs.YtajcpopikdpcmaaGreat
