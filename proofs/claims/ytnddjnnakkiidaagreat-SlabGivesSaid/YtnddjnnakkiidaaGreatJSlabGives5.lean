/-
  What giving back every slot of every heap that is taken, and not live, reads and writes: the law's function answers true for every configuration, values and numbers. Conditions: none.
-/
import Derived.Test.YtnddjnnakkiidaaGreatJSlabGives4
import Derived.ProofKit
import Derived.Lib.SmallJoins
import Derived.Deep.Slices
import Derived.OpenShut
import Derived.Test.YtnddjnnakkiidaaGreatRows
set_option linter.unusedSimpArgs false
set_option linter.unusedVariables false
namespace Go.Proofs.YtnddjnnakkiidaaGreat
open Go.Sl
def x_slab (t : Int) (p : Int) (sh : Int) (xs : List Int) (g : Int) (k : Int) : List Int × List Int × List Int := ((slabL ⟨t, p, sh⟩ xs g k).map (·.k), (slabL ⟨t, p, sh⟩ xs g k).map (·.a), (slabL ⟨t, p, sh⟩ xs g k).map (·.s))
abbrev c_x_slab : Ct Sg := ⟨none, false, [.agg [.i .i64, .i .i64, .i .i64, .ro [some .u32]], .i .i64, .i .i64], .new 123 [some .i64, some .i64, some .i64]⟩
def e_x_slab : Entry Sg := entC c_x_slab x_slab (fun t p sh xs g k => [AGood ⟨t, p, sh⟩ xs, 0 ≤ g ∧ g < p, 0 ≤ k ∧ k ≤ 8])
def x_slab_w (t : Int) (p : Int) (sh : Int) (xs : List Int) (g : Int) (k : Int) (Q0 : Int → Nat → List Int → List Int → List Int → Prop) (R_ : List Int × List Int × List Int → Prop) : Prop := (Q0 ((0 : Int)) ((0 : Nat)) ([]) ([]) ([]))
def x_slab_w0 (t : Int) (p : Int) (sh : Int) (xs : List Int) (g : Int) (k : Int) (s : Int) (n1 : Nat) (ks : List Int) (zs : List Int) (ss : List Int) (Q0 : Int → Nat → List Int → List Int → List Int → Prop) (R_ : List Int × List Int × List Int → Prop) : Prop := (((decide (s < r05_Slots k)) = true → ((AGood { t := t, p := p, s := sh } xs) ∧ ((AGood { t := t, p := p, s := sh } xs) → (((0 : Int) ≤ g ∧ g < p) ∧ (((0 : Int) ≤ g ∧ g < p) → (((r01_Bit (x_Taken t p sh xs g) s) = true → ((AGood { t := t, p := p, s := sh } xs) ∧ ((AGood { t := t, p := p, s := sh } xs) → (((0 : Int) ≤ g ∧ g < p) ∧ (((0 : Int) ≤ g ∧ g < p) → (((r01_Bit (x_Slots t p sh xs g) s) = true → (((n1 + (1 : Nat)) * (24 : Nat) ≤ (140737488355328 : Nat)) ∧ (((n1 + (1 : Nat)) * (24 : Nat) ≤ (140737488355328 : Nat)) → (Q0 (IntKind.wrap IntKind.i64 (s + (1 : Int))) (n1 + (1 : Nat)) (ks ++ [(2 : Int)]) (zs ++ [Prod.fst (r06_At t p sh k g s)]) (ss ++ [r05_Size sh k]))))) ∧ ((r01_Bit (x_Slots t p sh xs g) s) = false → (((n1 + (1 : Nat)) * (24 : Nat) ≤ (140737488355328 : Nat)) ∧ (((n1 + (1 : Nat)) * (24 : Nat) ≤ (140737488355328 : Nat)) → (Q0 (IntKind.wrap IntKind.i64 (s + (1 : Int))) (n1 + (1 : Nat)) (ks ++ [(4 : Int)]) (zs ++ [Prod.fst (r06_At t p sh k g s)]) (ss ++ [r05_Size sh k]))))))))))) ∧ ((r01_Bit (x_Taken t p sh xs g) s) = false → ((AGood { t := t, p := p, s := sh } xs) ∧ ((AGood { t := t, p := p, s := sh } xs) → (((0 : Int) ≤ g ∧ g < p) ∧ (((0 : Int) ≤ g ∧ g < p) → (((r01_Bit (x_Slots t p sh xs g) s) = true → (((n1 + (1 : Nat)) * (24 : Nat) ≤ (140737488355328 : Nat)) ∧ (((n1 + (1 : Nat)) * (24 : Nat) ≤ (140737488355328 : Nat)) → (Q0 (IntKind.wrap IntKind.i64 (s + (1 : Int))) (n1 + (1 : Nat)) (ks ++ [(2 : Int)]) (zs ++ [Prod.fst (r06_At t p sh k g s)]) (ss ++ [r05_Size sh k]))))) ∧ ((r01_Bit (x_Slots t p sh xs g) s) = false → (((n1 + (1 : Nat)) * (24 : Nat) ≤ (140737488355328 : Nat)) ∧ (((n1 + (1 : Nat)) * (24 : Nat) ≤ (140737488355328 : Nat)) → (Q0 (IntKind.wrap IntKind.i64 (s + (1 : Int))) (n1 + (1 : Nat)) (ks ++ [(3 : Int)]) (zs ++ [Prod.fst (r06_At t p sh k g s)]) (ss ++ [r05_Size sh k]))))))))))))))))) ∧ ((decide (s < r05_Slots k)) = false → (((decide (IntKind.wrap IntKind.i64 (r04_Page t p sh - IntKind.wrap IntKind.i64 (r05_Size sh k * r05_Slots k)) > (0 : Int))) = true → (((n1 + (1 : Nat)) * (24 : Nat) ≤ (140737488355328 : Nat)) ∧ (((n1 + (1 : Nat)) * (24 : Nat) ≤ (140737488355328 : Nat)) → (R_ ((ks ++ [(5 : Int)], zs ++ [Prod.fst (r06_Of t p sh g (IntKind.wrap IntKind.i64 (r04_Page t p sh - IntKind.wrap IntKind.i64 (r04_Page t p sh - IntKind.wrap IntKind.i64 (r05_Size sh k * r05_Slots k)))))], ss ++ [IntKind.wrap IntKind.i64 (r04_Page t p sh - IntKind.wrap IntKind.i64 (r05_Size sh k * r05_Slots k))])))))) ∧ ((decide (IntKind.wrap IntKind.i64 (r04_Page t p sh - IntKind.wrap IntKind.i64 (r05_Size sh k * r05_Slots k)) > (0 : Int))) = false → (R_ ((ks, zs, ss)))))))
def x_slab_I0 (t : Int) (p : Int) (sh : Int) (xs : List Int) (g : Int) (k : Int) (s : Int) (n1 : Nat) (ks : List Int) (zs : List Int) (ss : List Int) (r_ : List Int × List Int × List Int) : Prop := 0 ≤ s ∧ s ≤ kSlots k ∧ n1 = ks.length ∧ ks = (slabF ⟨t, p, sh⟩ xs g k s.toNat).map (·.k) ∧ zs = (slabF ⟨t, p, sh⟩ xs g k s.toNat).map (·.a) ∧ ss = (slabF ⟨t, p, sh⟩ xs g k s.toNat).map (·.s) ∧ r_ = x_slab t p sh xs g k
theorem x_slab_begin (t : Int) (p : Int) (sh : Int) (xs : List Int) (g : Int) (k : Int) (hp0 : AGood ⟨t, p, sh⟩ xs) (hp1 : 0 ≤ g ∧ g < p) (hp2 : 0 ≤ k ∧ k ≤ 8) (hl0 : xs.length ≤ 9223372036854775807) : x_slab_w t p sh xs g k (fun s' n1' ks' zs' ss' => x_slab_I0 t p sh xs g k s' n1' ks' zs' ss' (x_slab t p sh xs g k)) (fun r__ => r__ = (x_slab t p sh xs g k)) := by
  unfold x_slab_w
  try unfold x_slab_I0
  exact ⟨by omega, (kSlots_bd k).1, rfl, rfl, rfl, rfl, rfl⟩
theorem x_slab_step0 (t : Int) (p : Int) (sh : Int) (xs : List Int) (g : Int) (k : Int) (hp0 : AGood ⟨t, p, sh⟩ xs) (hp1 : 0 ≤ g ∧ g < p) (hp2 : 0 ≤ k ∧ k ≤ 8) (hl0 : xs.length ≤ 9223372036854775807) (s : Int) (n1 : Nat) (ks : List Int) (zs : List Int) (ss : List Int) {r_ : List Int × List Int × List Int} (hI : x_slab_I0 t p sh xs g k s n1 ks zs ss r_) : x_slab_w0 t p sh xs g k s n1 ks zs ss (fun s' n1' ks' zs' ss' => x_slab_I0 t p sh xs g k s' n1' ks' zs' ss' r_ ∧ lx ((kSlots k - s').toNat, 0, 0) ((kSlots k - s).toNat, 0, 0)) (fun r__ => r__ = r_) := by
  unfold x_slab_I0 at hI
  unfold x_slab_w0
  try unfold x_slab_I0
  obtain ⟨h0, h1, h2, h3, h4, h5, hr⟩ := hI
  have hok := Cf.ok_iff.1 hp0.ok
  simp only at hok
  have hkb := kSlots_bd k
  obtain ⟨s1, s2, s3, s4, s5, s6, _⟩ := szB_ok hok.2.2 hp2
  have hlen : ks.length = s.toNat := by rw [h3, List.length_map, slabF_len]
  refine ⟨fun h => ?_, fun h => ?_⟩
  · rw [r05_Slots_eq] at h
    simp only [decide_eq_true_eq] at h
    have hb1 : r01_Bit (x_Taken t p sh xs g) s = bitAt (cel xs (Cf.taken ⟨t, p, sh⟩ g)) s := bit_eq (cel_bd hp0 _) s
    have hb2 : r01_Bit (x_Slots t p sh xs g) s = bitAt (cel xs (Cf.slots ⟨t, p, sh⟩ g)) s := bit_eq (cel_bd hp0 _) s
    obtain ⟨ha, _⟩ := at_pgB hp0.ok (k := k) (g := g) (j := s) hp2 hp1 ⟨h0, h⟩
    simp only at ha
    rw [w64 (n := s + 1) (by omega), hb1, hb2, ha, s1]
    have es : (s + 1).toNat = s.toNat + 1 := by omega
    have ei : ((s.toNat : Nat) : Int) = s := by omega
    have hst0 : slabF ⟨t, p, sh⟩ xs g k (s + 1).toNat = slabF ⟨t, p, sh⟩ xs g k s.toNat ++ [slabPt ⟨t, p, sh⟩ xs g k s] := by rw [es, slabF, ei]
    have fin : ∀ kd, kd = slabKind ⟨t, p, sh⟩ xs g s → (n1 + 1) * 24 ≤ 140737488355328 ∧ ((0 ≤ s + 1 ∧ s + 1 ≤ kSlots k ∧ n1 + 1 = (ks ++ [kd]).length ∧ ks ++ [kd] = (slabF ⟨t, p, sh⟩ xs g k (s + 1).toNat).map (·.k) ∧ zs ++ [(g + 1) * pgB sh + s * szB sh k] = (slabF ⟨t, p, sh⟩ xs g k (s + 1).toNat).map (·.a) ∧ ss ++ [szB sh k] = (slabF ⟨t, p, sh⟩ xs g k (s + 1).toNat).map (·.s) ∧ r_ = x_slab t p sh xs g k) ∧ lx ((kSlots k - (s + 1)).toNat, 0, 0) ((kSlots k - s).toNat, 0, 0)) := by
      rintro kd rfl
      refine ⟨by omega, ⟨by omega, by omega, by simp [h2], ?_, ?_, ?_, hr⟩, lxo_⟩ <;> rw [hst0, List.map_append]
      · rw [← h3]; rfl
      · rw [← h4]; rfl
      · rw [← h5]; rfl
    refine ⟨hp0, fun _ => ⟨hp1, fun _ => ⟨fun c1 => ⟨hp0, fun _ => ⟨hp1, fun _ => ⟨fun c2 => ?_, fun c2 => ?_⟩⟩⟩, fun c1 => ⟨hp0, fun _ => ⟨hp1, fun _ => ⟨fun c2 => ?_, fun c2 => ?_⟩⟩⟩⟩⟩⟩
    · obtain ⟨a, b⟩ := fin 2 (slabKind_of _ _ c2 c1).symm; exact ⟨a, fun _ => b⟩
    · obtain ⟨a, b⟩ := fin 4 (slabKind_of _ _ c2 c1).symm; exact ⟨a, fun _ => b⟩
    · obtain ⟨a, b⟩ := fin 2 (slabKind_of _ _ c2 c1).symm; exact ⟨a, fun _ => b⟩
    · obtain ⟨a, b⟩ := fin 3 (slabKind_of _ _ c2 c1).symm; exact ⟨a, fun _ => b⟩
  · rw [r05_Slots_eq] at h
    simp only [decide_eq_false_iff_not] at h
    have e : s.toNat = (kSlots k).toNat := by omega
    have hpg : r04_Page t p sh = pgB sh := page_pgB hp0.ok
    have hz : 0 ≤ szB sh k * kSlots k := Int.mul_nonneg (by omega) (by omega)
    have w1 : IntKind.i64.wrap (szB sh k * kSlots k) = szB sh k * kSlots k := w64 (by omega)
    have w2 : IntKind.i64.wrap (pgB sh - szB sh k * kSlots k) = slabRest ⟨t, p, sh⟩ k := w64 (by omega)
    have hre : slabRest ⟨t, p, sh⟩ k = pgB sh - szB sh k * kSlots k := rfl
    rw [hpg, s1, r05_Slots_eq, w1, w2]
    have w3 : IntKind.i64.wrap (pgB sh - slabRest ⟨t, p, sh⟩ k) = szB sh k * kSlots k := by rw [hre, w64 (by omega)]; omega
    rw [w3]
    rw [e] at h3 h4 h5
    refine ⟨fun hc => ⟨by omega, fun _ => ?_⟩, fun hc => ?_⟩
    · obtain ⟨ha, _⟩ := of_pgB hp0.ok (g := g) (o := szB sh k * kSlots k) hp1 (by simp only [gt_iff_lt, decide_eq_true_eq] at hc; show 0 ≤ _ ∧ _ < pgB sh; omega)
      simp only at ha
      rw [ha]
      show _ = _
      have hc' : decide (0 < slabRest ⟨t, p, sh⟩ k) = true := hc
      rw [hr, x_slab, slabL, hc', cond_true, h3, h4, h5]
      simp only [List.map_append]; rfl
    · have hc' : decide (0 < slabRest ⟨t, p, sh⟩ k) = false := hc
      show _ = _
      rw [hr, x_slab, slabL, hc', cond_false, h3, h4, h5]
theorem x_slab_ok : EntryOk Dg Tryz.prog 186 e_x_slab :=
  ent_wp Dg T_x_feet_ok (I := [1643000000009, 1643000000008, 1643000000007, 1643000000003, 1643000000001, 1643000000002]) Tryz.func186 mix (B := bodyOf Tryz.f186) (by kernel_rfl) rfl (by kernel_rfl) 400
    fun p0 t p sh xs g k hb hp => have hl0 : xs.length ≤ 9223372036854775807 := hb.1.2.2.2.1; have hp0 : AGood ⟨t, p, sh⟩ xs := hp _ (.head _); have hp1 : 0 ≤ g ∧ g < p := hp _ (.tail _ (.head _)); have hp2 : 0 ≤ k ∧ k ≤ 8 := hp _ (.tail _ (.tail _ (.head _))); ⟨[⟨none, [0,1,0,1,1,1], [.blk 0, .code [1,1,1,1]], [9, 8, 7, 3, 1, 2], [.i .i64, .ic .i64 (r05_Size sh k), .own 123 [some .i64, some .i64, some .i64], .box 55 [.ic .i64 (t), .ic .i64 (p), .ic .i64 (sh), .roc [.ints .u32 (xs)]], .ic .i64 (g), .ic .i64 (k)]⟩], fun j => List.getD [appC (Hd.kd (⟨none, [0,1,0,1,1,1], [.blk 0, .code [1,1,1,1]], [9, 8, 7, 3, 1, 2], [.i .i64, .ic .i64 (r05_Size sh k), .own 123 [some .i64, some .i64, some .i64], .box 55 [.ic .i64 (t), .ic .i64 (p), .ic .i64 (sh), .roc [.ints .u32 (xs)]], .ic .i64 (g), .ic .i64 (k)]⟩ : Hd Sg)) (fun s' n1' ks' zs' ss' => x_slab_I0 t p sh xs g k s' n1' ks' zs' ss' (x_slab t p sh xs g k))] j (fun _ => False), fun j => List.getD [appC (Hd.kd (⟨none, [0,1,0,1,1,1], [.blk 0, .code [1,1,1,1]], [9, 8, 7, 3, 1, 2], [.i .i64, .ic .i64 (r05_Size sh k), .own 123 [some .i64, some .i64, some .i64], .box 55 [.ic .i64 (t), .ic .i64 (p), .ic .i64 (sh), .roc [.ints .u32 (xs)]], .ic .i64 (g), .ic .i64 (k)]⟩ : Hd Sg)) (fun s' n1' ks' zs' ss' => ((kSlots k - s').toNat, 0, 0))] j (fun _ => (0, 0, 0)), by kernel_rfl, ⟨x_slab_w t p sh xs g k (fun s' n1' ks' zs' ss' => x_slab_I0 t p sh xs g k s' n1' ks' zs' ss' (x_slab t p sh xs g k)) (fun r__ => r__ = (x_slab t p sh xs g k)), fun _ _ _ => by kernel_rfl, x_slab_begin t p sh xs g k hp0 hp1 hp2 hl0 ⟩, ⟨fun s n1 ks zs ss hI => ⟨x_slab_w0 t p sh xs g k s n1 ks zs ss (fun s' n1' ks' zs' ss' => x_slab_I0 t p sh xs g k s' n1' ks' zs' ss' (x_slab t p sh xs g k) ∧ lx ((kSlots k - s').toNat, 0, 0) ((kSlots k - s).toNat, 0, 0)) (fun r__ => r__ = (x_slab t p sh xs g k)), fun _ _ _ => by kernel_rfl, x_slab_step0 t p sh xs g k hp0 hp1 hp2 hl0 s n1 ks zs ss hI⟩, trivial⟩⟩
def T_x_slab : List (Nat × Entry Sg) := (186, e_x_slab) :: T_x_feet
theorem T_x_slab_ok : TableOk Dg Tryz.prog T_x_slab := TableOk.cons Dg x_slab_ok T_x_feet_ok
def x_parts (t : Int) (p : Int) (sh : Int) (xs : List Int) : List Int × List Int × List Int := ((partsL ⟨t, p, sh⟩ xs).map (·.k), (partsL ⟨t, p, sh⟩ xs).map (·.a), (partsL ⟨t, p, sh⟩ xs).map (·.s))
abbrev c_x_parts : Ct Sg := ⟨none, false, [.agg [.i .i64, .i .i64, .i .i64, .ro [some .u32]]], .new 123 [some .i64, some .i64, some .i64]⟩
def e_x_parts : Entry Sg := entC c_x_parts x_parts (fun t p sh xs => [AGood ⟨t, p, sh⟩ xs])
def x_parts_w (t : Int) (p : Int) (sh : Int) (xs : List Int) (Q0 : Int → Nat → List Int → List Int → List Int → Prop) (R_ : List Int × List Int × List Int → Prop) : Prop := (Q0 ((0 : Int)) ((0 : Nat)) ([]) ([]) ([]))
def x_parts_w0 (t : Int) (p : Int) (sh : Int) (xs : List Int) (i : Int) (n1 : Nat) (ks : List Int) (zs : List Int) (ss : List Int) (Q0 : Int → Nat → List Int → List Int → List Int → Prop) (R_ : List Int × List Int × List Int → Prop) : Prop := (((decide (i < p)) = true → ((AGood { t := t, p := p, s := sh } xs) ∧ ((AGood { t := t, p := p, s := sh } xs) → (((0 : Int) ≤ i ∧ i < p) ∧ (((0 : Int) ≤ i ∧ i < p) → (((Prod.fst (x_Info t p sh xs i) == (1 : Int)) = true → (((Prod.fst (x_Info t p sh xs i) == (1 : Int)) = true → (tw_ (((n1 + (1 : Nat)) * (24 : Nat) ≤ (140737488355328 : Nat)) ∧ (((n1 + (1 : Nat)) * (24 : Nat) ≤ (140737488355328 : Nat)) → (Q0 (IntKind.wrap IntKind.i64 (i + (1 : Int))) (n1 + (1 : Nat)) (ks ++ [Prod.fst (If.k (aInfo { t := t, p := p, s := sh } xs i), If.l (aInfo { t := t, p := p, s := sh } xs i), If.c (aInfo { t := t, p := p, s := sh } xs i))]) (zs ++ [Prod.fst (r06_Of t p sh i (0 : Int))]) (ss ++ [IntKind.wrap IntKind.i64 (If.l (aInfo { t := t, p := p, s := sh } xs i) * r04_Page t p sh)])))))) ∧ ((Prod.fst (x_Info t p sh xs i) == (1 : Int)) = false → (((Prod.fst (x_Info t p sh xs i) == (3 : Int)) = true → (∀ r7 : List Int × List Int × List Int, r7 = (x_slab t p sh xs i (If.c (aInfo { t := t, p := p, s := sh } xs i))) → ((AGood { t := t, p := p, s := sh } xs) ∧ ((AGood { t := t, p := p, s := sh } xs) → (((0 : Int) ≤ i ∧ i < p) ∧ (((0 : Int) ≤ i ∧ i < p) → (((0 : Int) ≤ Prod.snd (If.l (aInfo { t := t, p := p, s := sh } xs i), If.c (aInfo { t := t, p := p, s := sh } xs i)) ∧ Prod.snd (If.l (aInfo { t := t, p := p, s := sh } xs i), If.c (aInfo { t := t, p := p, s := sh } xs i)) ≤ (8 : Int)) ∧ (((0 : Int) ≤ Prod.snd (If.l (aInfo { t := t, p := p, s := sh } xs i), If.c (aInfo { t := t, p := p, s := sh } xs i)) ∧ Prod.snd (If.l (aInfo { t := t, p := p, s := sh } xs i), If.c (aInfo { t := t, p := p, s := sh } xs i)) ≤ (8 : Int)) → (((n1 + List.length (Prod.fst r7)) * (24 : Nat) ≤ (140737488355328 : Nat)) ∧ (((n1 + List.length (Prod.fst r7)) * (24 : Nat) ≤ (140737488355328 : Nat)) → (Q0 (IntKind.wrap IntKind.i64 (i + (1 : Int))) (n1 + List.length (Prod.fst r7)) (ks ++ Prod.fst r7) (zs ++ Prod.fst (Prod.snd r7)) (ss ++ Prod.snd (Prod.snd r7))))))))))))) ∧ ((Prod.fst (x_Info t p sh xs i) == (3 : Int)) = false → (Q0 (IntKind.wrap IntKind.i64 (i + (1 : Int))) (n1) (ks) (zs) (ss))))))) ∧ ((Prod.fst (x_Info t p sh xs i) == (1 : Int)) = false → (((Prod.fst (x_Info t p sh xs i) == (2 : Int)) = true → (tw_ (((n1 + (1 : Nat)) * (24 : Nat) ≤ (140737488355328 : Nat)) ∧ (((n1 + (1 : Nat)) * (24 : Nat) ≤ (140737488355328 : Nat)) → (Q0 (IntKind.wrap IntKind.i64 (i + (1 : Int))) (n1 + (1 : Nat)) (ks ++ [Prod.fst (If.k (aInfo { t := t, p := p, s := sh } xs i), If.l (aInfo { t := t, p := p, s := sh } xs i), If.c (aInfo { t := t, p := p, s := sh } xs i))]) (zs ++ [Prod.fst (r06_Of t p sh i (0 : Int))]) (ss ++ [IntKind.wrap IntKind.i64 (If.l (aInfo { t := t, p := p, s := sh } xs i) * r04_Page t p sh)])))))) ∧ ((Prod.fst (x_Info t p sh xs i) == (2 : Int)) = false → (((Prod.fst (x_Info t p sh xs i) == (3 : Int)) = true → (∀ r7 : List Int × List Int × List Int, r7 = (x_slab t p sh xs i (If.c (aInfo { t := t, p := p, s := sh } xs i))) → ((AGood { t := t, p := p, s := sh } xs) ∧ ((AGood { t := t, p := p, s := sh } xs) → (((0 : Int) ≤ i ∧ i < p) ∧ (((0 : Int) ≤ i ∧ i < p) → (((0 : Int) ≤ Prod.snd (If.l (aInfo { t := t, p := p, s := sh } xs i), If.c (aInfo { t := t, p := p, s := sh } xs i)) ∧ Prod.snd (If.l (aInfo { t := t, p := p, s := sh } xs i), If.c (aInfo { t := t, p := p, s := sh } xs i)) ≤ (8 : Int)) ∧ (((0 : Int) ≤ Prod.snd (If.l (aInfo { t := t, p := p, s := sh } xs i), If.c (aInfo { t := t, p := p, s := sh } xs i)) ∧ Prod.snd (If.l (aInfo { t := t, p := p, s := sh } xs i), If.c (aInfo { t := t, p := p, s := sh } xs i)) ≤ (8 : Int)) → (((n1 + List.length (Prod.fst r7)) * (24 : Nat) ≤ (140737488355328 : Nat)) ∧ (((n1 + List.length (Prod.fst r7)) * (24 : Nat) ≤ (140737488355328 : Nat)) → (Q0 (IntKind.wrap IntKind.i64 (i + (1 : Int))) (n1 + List.length (Prod.fst r7)) (ks ++ Prod.fst r7) (zs ++ Prod.fst (Prod.snd r7)) (ss ++ Prod.snd (Prod.snd r7))))))))))))) ∧ ((Prod.fst (x_Info t p sh xs i) == (3 : Int)) = false → (Q0 (IntKind.wrap IntKind.i64 (i + (1 : Int))) (n1) (ks) (zs) (ss))))))))))))) ∧ ((decide (i < p)) = false → (R_ ((ks, zs, ss)))))
def x_parts_I0 (t : Int) (p : Int) (sh : Int) (xs : List Int) (i : Int) (n1 : Nat) (ks : List Int) (zs : List Int) (ss : List Int) (r_ : List Int × List Int × List Int) : Prop := 0 ≤ i ∧ i ≤ p ∧ n1 = ks.length ∧ ks = (partsF ⟨t, p, sh⟩ xs i.toNat).map (·.k) ∧ zs = (partsF ⟨t, p, sh⟩ xs i.toNat).map (·.a) ∧ ss = (partsF ⟨t, p, sh⟩ xs i.toNat).map (·.s) ∧ r_ = x_parts t p sh xs
theorem x_parts_begin (t : Int) (p : Int) (sh : Int) (xs : List Int) (hp0 : AGood ⟨t, p, sh⟩ xs) (hl0 : xs.length ≤ 9223372036854775807) : x_parts_w t p sh xs (fun i' n1' ks' zs' ss' => x_parts_I0 t p sh xs i' n1' ks' zs' ss' (x_parts t p sh xs)) (fun r__ => r__ = (x_parts t p sh xs)) := by
  unfold x_parts_w
  try unfold x_parts_I0
  have hok := Cf.ok_iff.1 hp0.ok
  simp only at hok
  exact ⟨by omega, by omega, rfl, rfl, rfl, rfl, rfl⟩
theorem x_parts_step0 (t : Int) (p : Int) (sh : Int) (xs : List Int) (hp0 : AGood ⟨t, p, sh⟩ xs) (hl0 : xs.length ≤ 9223372036854775807) (i : Int) (n1 : Nat) (ks : List Int) (zs : List Int) (ss : List Int) {r_ : List Int × List Int × List Int} (hI : x_parts_I0 t p sh xs i n1 ks zs ss r_) : x_parts_w0 t p sh xs i n1 ks zs ss (fun i' n1' ks' zs' ss' => x_parts_I0 t p sh xs i' n1' ks' zs' ss' r_ ∧ lx ((p - i').toNat, 0, 0) ((p - i).toNat, 0, 0)) (fun r__ => r__ = r_) := by
  unfold x_parts_I0 at hI
  unfold x_parts_w0
  try unfold x_parts_I0
  obtain ⟨h0, h1, h2, h3, h4, h5, hr⟩ := hI
  have hok := Cf.ok_iff.1 hp0.ok
  simp only at hok
  have hlen : ks.length ≤ 33 * i.toNat := by rw [h3, List.length_map]; exact partsF_len _ _ _
  refine ⟨fun h => ?_, fun h => ?_⟩
  · simp only [decide_eq_true_eq] at h
    have hg : 0 ≤ i ∧ i < p := ⟨h0, h⟩
    have hbd := iGet_bd (cel xs (Cf.info ⟨t, p, sh⟩ i))
    have hb1 : 0 ≤ (aInfo ⟨t, p, sh⟩ xs i).l ∧ (aInfo ⟨t, p, sh⟩ xs i).l ≤ 1024 := ⟨hbd.2.2.1, hbd.2.2.2.1⟩
    have hb2 : 0 ≤ (aInfo ⟨t, p, sh⟩ xs i).c ∧ (aInfo ⟨t, p, sh⟩ xs i).c ≤ 8 := ⟨hbd.2.2.2.2.1, hbd.2.2.2.2.2⟩
    have hpb := (szB_ok hok.2.2 (k := 0) (by omega)).2.2.2.2
    obtain ⟨ha, _⟩ := of_pgB hp0.ok (g := i) (o := 0) hg (by show 0 ≤ 0 ∧ 0 < pgB sh; omega)
    simp only [Int.add_zero] at ha
    have hpg : r04_Page t p sh = pgB sh := page_pgB hp0.ok
    have hm1 : 0 ≤ (aInfo ⟨t, p, sh⟩ xs i).l * pgB sh := Int.mul_nonneg hb1.1 (by omega)
    have hm2 : (aInfo ⟨t, p, sh⟩ xs i).l * pgB sh ≤ 1024 * 1048576 := Int.mul_le_mul hb1.2 hpb.2.1 (by omega) (by omega)
    have hst : partsF ⟨t, p, sh⟩ xs (i + 1).toNat = partsF ⟨t, p, sh⟩ xs i.toNat ++ partsOf ⟨t, p, sh⟩ xs i := by
      rw [show (i + 1).toNat = i.toNat + 1 by omega, partsF, show ((i.toNat : Nat) : Int) = i by omega]
    have fin : ∀ (L : List Pt), partsOf ⟨t, p, sh⟩ xs i = L → ∀ (n1' : Nat) (ks' zs' ss' : List Int), n1' = n1 + L.length → ks' = ks ++ L.map (·.k) → zs' = zs ++ L.map (·.a) → ss' = ss ++ L.map (·.s) →
        (0 ≤ i + 1 ∧ i + 1 ≤ p ∧ n1' = ks'.length ∧ ks' = (partsF ⟨t, p, sh⟩ xs (i + 1).toNat).map (·.k) ∧ zs' = (partsF ⟨t, p, sh⟩ xs (i + 1).toNat).map (·.a) ∧ ss' = (partsF ⟨t, p, sh⟩ xs (i + 1).toNat).map (·.s) ∧ r_ = x_parts t p sh xs) ∧ lx ((p - (i + 1)).toNat, 0, 0) ((p - i).toNat, 0, 0) := by
      intro L hL n1' ks' zs' ss' e1 e2 e3 e4
      rw [hst, hL, List.map_append, List.map_append, List.map_append, ← h3, ← h4, ← h5]
      exact ⟨⟨by omega, by omega, by rw [e1, e2, List.length_append, List.length_map, h2], e2, e3, e4, hr⟩, lxo_⟩
    simp only [x_Info]
    rw [w64 (n := i + 1) (by omega), ha, hpg, w64 (n := (aInfo ⟨t, p, sh⟩ xs i).l * pgB sh) (by omega)]
    refine ⟨hp0, fun _ => ⟨hg, fun _ => ?_⟩⟩
    have hsl := slabL_len ⟨t, p, sh⟩ xs i (aInfo ⟨t, p, sh⟩ xs i).c
    have hl2 : (x_slab t p sh xs i (aInfo ⟨t, p, sh⟩ xs i).c).1.length = (slabL ⟨t, p, sh⟩ xs i (aInfo ⟨t, p, sh⟩ xs i).c).length := by simp [x_slab]
    have f1 : ∀ h : ((aInfo ⟨t, p, sh⟩ xs i).k == 1 || (aInfo ⟨t, p, sh⟩ xs i).k == 2) = true, _ := fun h => fin _ (partsOf_one _ _ h) _ _ _ _ rfl rfl rfl rfl
    have f3 : ∀ h : ((aInfo ⟨t, p, sh⟩ xs i).k == 3) = true, _ := fun h => fin _ (partsOf_slab _ _ h) _ _ _ _ rfl rfl rfl rfl
    rw [← hl2] at f3
    have f0 := fun h1 h2 h3 => fin _ (partsOf_none ⟨t, p, sh⟩ xs (g := i) h1 h2 h3) n1 ks zs ss (by simp) (by simp) (by simp) (by simp)
    cases k1 : (aInfo ⟨t, p, sh⟩ xs i).k == 1 <;> cases k2 : (aInfo ⟨t, p, sh⟩ xs i).k == 2 <;> cases k3 : (aInfo ⟨t, p, sh⟩ xs i).k == 3 <;> simp only [bw_, aw_, true_implies, false_implies, Bool.true_eq_false, Bool.false_eq_true, reduceCtorEq, and_true, true_and, and_self] <;> first
      | exact f0 k1 k2 k3
      | exact ⟨by omega, fun _ => f1 (by rw [k1, k2]; rfl)⟩
      | (refine fun r hr => ?_; subst hr; exact ⟨hp0, fun _ => ⟨hg, fun _ => ⟨hb2, fun _ => ⟨by omega, fun _ => f3 k3⟩⟩⟩⟩)
      | fail
  · simp only [decide_eq_false_iff_not] at h
    have e : i.toNat = p.toNat := by omega
    show _ = _
    rw [hr, x_parts, partsL, h3, h4, h5, e]
theorem x_parts_ok : EntryOk Dg Tryz.prog 147 e_x_parts :=
  ent_wp Dg T_x_slab_ok (I := [411000000004, 411000000003, 411000000001]) Tryz.func147 mix (B := bodyOf Tryz.f147) (by kernel_rfl) rfl (by kernel_rfl) 400
    fun p0 t p sh xs hb hp => have hl0 : xs.length ≤ 9223372036854775807 := hb.1.2.2.2.1; have hp0 : AGood ⟨t, p, sh⟩ xs := hp _ (.head _); ⟨[⟨none, [0,1,0,1,1], [.blk 0, .code [1,1,1]], [4, 3, 1], [.i .i64, .own 123 [some .i64, some .i64, some .i64], .box 55 [.ic .i64 (t), .ic .i64 (p), .ic .i64 (sh), .roc [.ints .u32 (xs)]]]⟩], fun j => List.getD [appC (Hd.kd (⟨none, [0,1,0,1,1], [.blk 0, .code [1,1,1]], [4, 3, 1], [.i .i64, .own 123 [some .i64, some .i64, some .i64], .box 55 [.ic .i64 (t), .ic .i64 (p), .ic .i64 (sh), .roc [.ints .u32 (xs)]]]⟩ : Hd Sg)) (fun i' n1' ks' zs' ss' => x_parts_I0 t p sh xs i' n1' ks' zs' ss' (x_parts t p sh xs))] j (fun _ => False), fun j => List.getD [appC (Hd.kd (⟨none, [0,1,0,1,1], [.blk 0, .code [1,1,1]], [4, 3, 1], [.i .i64, .own 123 [some .i64, some .i64, some .i64], .box 55 [.ic .i64 (t), .ic .i64 (p), .ic .i64 (sh), .roc [.ints .u32 (xs)]]]⟩ : Hd Sg)) (fun i' n1' ks' zs' ss' => ((p - i').toNat, 0, 0))] j (fun _ => (0, 0, 0)), by kernel_rfl, ⟨x_parts_w t p sh xs (fun i' n1' ks' zs' ss' => x_parts_I0 t p sh xs i' n1' ks' zs' ss' (x_parts t p sh xs)) (fun r__ => r__ = (x_parts t p sh xs)), fun _ _ _ => by kernel_rfl, x_parts_begin t p sh xs hp0 hl0 ⟩, ⟨fun i n1 ks zs ss hI => ⟨x_parts_w0 t p sh xs i n1 ks zs ss (fun i' n1' ks' zs' ss' => x_parts_I0 t p sh xs i' n1' ks' zs' ss' (x_parts t p sh xs) ∧ lx ((p - i').toNat, 0, 0) ((p - i).toNat, 0, 0)) (fun r__ => r__ = (x_parts t p sh xs)), fun _ _ _ => by kernel_rfl, x_parts_step0 t p sh xs hp0 hl0 i n1 ks zs ss hI⟩, trivial⟩⟩
def T_x_parts : List (Nat × Entry Sg) := (147, e_x_parts) :: T_x_slab
theorem T_x_parts_ok : TableOk Dg Tryz.prog T_x_parts := TableOk.cons Dg x_parts_ok T_x_slab_ok
end Go.Proofs.YtnddjnnakkiidaaGreat
namespace Go.Proofs.YtnddjnnakkiidaaGreat
open Go.Sl
def x_blocks (t : Int) (p : Int) (sh : Int) (xs : List Int) : List Int × List Int := ((blocksL ⟨t, p, sh⟩ xs).map (·.a), (blocksL ⟨t, p, sh⟩ xs).map (·.s))
abbrev c_x_blocks : Ct Sg := ⟨none, false, [.agg [.i .i64, .i .i64, .i .i64, .ro [some .u32]]], .new 80 [some .i64, some .i64]⟩
def e_x_blocks : Entry Sg := entC c_x_blocks x_blocks (fun t p sh xs => [AGood ⟨t, p, sh⟩ xs])
def x_blocks_w (t : Int) (p : Int) (sh : Int) (xs : List Int) (Q0 : Int → Nat → List Int → List Int → List Int → Nat → List Int → List Int → Prop) (R_ : List Int × List Int → Prop) : Prop := (∀ r2 : List Int × List Int × List Int, r2 = (x_parts t p sh xs) → ((AGood { t := t, p := p, s := sh } xs) ∧ ((AGood { t := t, p := p, s := sh } xs) → (Q0 ((0 : Int)) (List.length (Prod.fst r2)) (Prod.fst r2) (Prod.fst (Prod.snd r2)) (Prod.snd (Prod.snd r2)) ((0 : Nat)) ([]) ([])))))
def x_blocks_w0 (t : Int) (p : Int) (sh : Int) (xs : List Int) (i : Int) (n1 : Nat) (ks : List Int) (zs : List Int) (ss : List Int) (n2 : Nat) (as_ : List Int) (bs : List Int) (Q0 : Int → Nat → List Int → List Int → List Int → Nat → List Int → List Int → Prop) (R_ : List Int × List Int → Prop) : Prop := (((decide (i < (↑n1 : Int))) = true → (((0 : Int) ≤ i ∧ i < (↑n1 : Int)) ∧ (((0 : Int) ≤ i ∧ i < (↑n1 : Int)) → (((List.getD ks (Int.toNat i) (0 : Int) == (2 : Int)) = true → (((0 : Int) ≤ i ∧ i < (↑n1 : Int)) ∧ (((0 : Int) ≤ i ∧ i < (↑n1 : Int)) → (((0 : Int) ≤ i ∧ i < (↑n1 : Int)) ∧ (((0 : Int) ≤ i ∧ i < (↑n1 : Int)) → (tw_ (((n2 + (1 : Nat)) * (16 : Nat) ≤ (140737488355328 : Nat)) ∧ (((n2 + (1 : Nat)) * (16 : Nat) ≤ (140737488355328 : Nat)) → (Q0 (IntKind.wrap IntKind.i64 (i + (1 : Int))) (n1) (ks) (zs) (ss) (n2 + (1 : Nat)) (as_ ++ [List.getD zs (Int.toNat i) (0 : Int)]) (bs ++ [List.getD ss (Int.toNat i) (0 : Int)])))))))))) ∧ ((List.getD ks (Int.toNat i) (0 : Int) == (2 : Int)) = false → (Q0 (IntKind.wrap IntKind.i64 (i + (1 : Int))) (n1) (ks) (zs) (ss) (n2) (as_) (bs))))))) ∧ ((decide (i < (↑n1 : Int))) = false → (R_ ((as_, bs)))))
def x_blocks_I0 (t : Int) (p : Int) (sh : Int) (xs : List Int) (i : Int) (n1 : Nat) (ks : List Int) (zs : List Int) (ss : List Int) (n2 : Nat) (as_ : List Int) (bs : List Int) (r_ : List Int × List Int) : Prop := 0 ≤ i ∧ i ≤ n1 ∧ n1 = (partsL ⟨t, p, sh⟩ xs).length ∧ n1 ≤ 33 * 1024 ∧ ks = (partsL ⟨t, p, sh⟩ xs).map (·.k) ∧ zs = (partsL ⟨t, p, sh⟩ xs).map (·.a) ∧ ss = (partsL ⟨t, p, sh⟩ xs).map (·.s) ∧ n2 = as_.length ∧ n2 ≤ i ∧ as_ = (((partsL ⟨t, p, sh⟩ xs).take i.toNat).filter fun x => x.k == 2).map (·.a) ∧ bs = (((partsL ⟨t, p, sh⟩ xs).take i.toNat).filter fun x => x.k == 2).map (·.s) ∧ r_ = x_blocks t p sh xs
theorem x_blocks_begin (t : Int) (p : Int) (sh : Int) (xs : List Int) (hp0 : AGood ⟨t, p, sh⟩ xs) (hl0 : xs.length ≤ 9223372036854775807) : x_blocks_w t p sh xs (fun i' n1' ks' zs' ss' n2' as_' bs' => x_blocks_I0 t p sh xs i' n1' ks' zs' ss' n2' as_' bs' (x_blocks t p sh xs)) (fun r__ => r__ = (x_blocks t p sh xs)) := by
  unfold x_blocks_w
  try unfold x_blocks_I0
  have hok := Cf.ok_iff.1 hp0.ok
  simp only at hok
  have hl : (partsL ⟨t, p, sh⟩ xs).length ≤ 33 * p.toNat := partsL_len _ _
  rintro r2 rfl
  exact ⟨hp0, fun _ => ⟨by omega, by omega, by simp [x_parts], by simp only [x_parts, List.length_map]; omega, rfl, rfl, rfl, rfl, by omega, by simp, by simp, rfl⟩⟩
theorem x_blocks_step0 (t : Int) (p : Int) (sh : Int) (xs : List Int) (hp0 : AGood ⟨t, p, sh⟩ xs) (hl0 : xs.length ≤ 9223372036854775807) (i : Int) (n1 : Nat) (ks : List Int) (zs : List Int) (ss : List Int) (n2 : Nat) (as_ : List Int) (bs : List Int) {r_ : List Int × List Int} (hI : x_blocks_I0 t p sh xs i n1 ks zs ss n2 as_ bs r_) : x_blocks_w0 t p sh xs i n1 ks zs ss n2 as_ bs (fun i' n1' ks' zs' ss' n2' as_' bs' => x_blocks_I0 t p sh xs i' n1' ks' zs' ss' n2' as_' bs' r_ ∧ lx ((n1' - i').toNat, 0, 0) ((n1 - i).toNat, 0, 0)) (fun r__ => r__ = r_) := by
  unfold x_blocks_I0 at hI
  unfold x_blocks_w0
  try unfold x_blocks_I0
  obtain ⟨h0, h1, h2, hb, h3, h4, h5, h6, h7, h8, h9, hr⟩ := hI
  refine ⟨fun h => ?_, fun h => ?_⟩
  · simp only [decide_eq_true_eq] at h
    have hi : 0 ≤ i ∧ i < (n1 : Int) := ⟨h0, h⟩
    have hs := blk_step (partsL ⟨t, p, sh⟩ xs) (i := i.toNat) (by omega)
    rw [← h3, ← h4, ← h5] at hs
    have es : (i + 1).toNat = i.toNat + 1 := by omega
    rw [w64 (n := i + 1) (by omega)]
    refine ⟨hi, fun _ => ⟨fun hc => ⟨hi, fun _ => ⟨hi, fun _ => ?_⟩⟩, fun hc => ?_⟩⟩
    · rw [hc] at hs
      refine And.intro ?_ ?_ <;> exact ⟨by omega, fun _ => ⟨⟨by omega, by omega, h2, hb, h3, h4, h5, by simp [h6], by omega, by rw [es, hs, List.map_append, ← h8]; rfl, by rw [es, hs, List.map_append, ← h9]; rfl, hr⟩, lxo_⟩⟩
    · rw [hc] at hs
      exact ⟨⟨by omega, by omega, h2, hb, h3, h4, h5, h6, by omega, by rw [es, hs, List.map_append, ← h8]; simp, by rw [es, hs, List.map_append, ← h9]; simp, hr⟩, lxo_⟩
  · simp only [decide_eq_false_iff_not] at h
    show _ = _
    rw [hr, x_blocks, blocksL, h8, h9, List.take_of_length_le (by omega)]
theorem x_blocks_ok : EntryOk Dg Tryz.prog 146 e_x_blocks :=
  ent_wp Dg T_x_parts_ok (I := [1643000000005, 1643000000004, 1643000000003]) Tryz.func146 mix (B := bodyOf Tryz.f146) (by kernel_rfl) rfl (by kernel_rfl) 400
    fun p0 t p sh xs hb hp => have hl0 : xs.length ≤ 9223372036854775807 := hb.1.2.2.2.1; have hp0 : AGood ⟨t, p, sh⟩ xs := hp _ (.head _); ⟨[⟨none, [0,1,0,1,1,1], [.blk 0, .code [1,1,1,1]], [5, 4, 3], [.i .i64, .own 123 [some .i64, some .i64, some .i64], .own 80 [some .i64, some .i64]]⟩], fun j => List.getD [appC (Hd.kd (⟨none, [0,1,0,1,1,1], [.blk 0, .code [1,1,1,1]], [5, 4, 3], [.i .i64, .own 123 [some .i64, some .i64, some .i64], .own 80 [some .i64, some .i64]]⟩ : Hd Sg)) (fun i' n1' ks' zs' ss' n2' as_' bs' => x_blocks_I0 t p sh xs i' n1' ks' zs' ss' n2' as_' bs' (x_blocks t p sh xs))] j (fun _ => False), fun j => List.getD [appC (Hd.kd (⟨none, [0,1,0,1,1,1], [.blk 0, .code [1,1,1,1]], [5, 4, 3], [.i .i64, .own 123 [some .i64, some .i64, some .i64], .own 80 [some .i64, some .i64]]⟩ : Hd Sg)) (fun i' n1' ks' zs' ss' n2' as_' bs' => ((n1' - i').toNat, 0, 0))] j (fun _ => (0, 0, 0)), by kernel_rfl, ⟨x_blocks_w t p sh xs (fun i' n1' ks' zs' ss' n2' as_' bs' => x_blocks_I0 t p sh xs i' n1' ks' zs' ss' n2' as_' bs' (x_blocks t p sh xs)) (fun r__ => r__ = (x_blocks t p sh xs)), fun _ _ _ => by kernel_rfl, x_blocks_begin t p sh xs hp0 hl0 ⟩, ⟨fun i n1 ks zs ss n2 as_ bs hI => ⟨x_blocks_w0 t p sh xs i n1 ks zs ss n2 as_ bs (fun i' n1' ks' zs' ss' n2' as_' bs' => x_blocks_I0 t p sh xs i' n1' ks' zs' ss' n2' as_' bs' (x_blocks t p sh xs) ∧ lx ((n1' - i').toNat, 0, 0) ((n1 - i).toNat, 0, 0)) (fun r__ => r__ = (x_blocks t p sh xs)), fun _ _ _ => by kernel_rfl, x_blocks_step0 t p sh xs hp0 hl0 i n1 ks zs ss n2 as_ bs hI⟩, trivial⟩⟩
def T_x_blocks : List (Nat × Entry Sg) := (146, e_x_blocks) :: T_x_parts
theorem T_x_blocks_ok : TableOk Dg Tryz.prog T_x_blocks := TableOk.cons Dg x_blocks_ok T_x_parts_ok
def x_roots (t : Int) (p : Int) (sh : Int) (xs : List Int) : Bool := rootsOk ⟨t, p, sh⟩ xs
abbrev c_x_roots : Ct Sg := ⟨none, false, [.agg [.i .i64, .i .i64, .i .i64, .ro [some .u32]]], .b⟩
def e_x_roots : Entry Sg := entC c_x_roots x_roots (fun t p sh xs => [AGood ⟨t, p, sh⟩ xs])
def x_roots_w (t : Int) (p : Int) (sh : Int) (xs : List Int) (Q0 : Int → Nat → List Int → List Int → Prop) (R_ : Bool → Prop) : Prop := (∀ r1 : List Int × List Int, r1 = (x_blocks t p sh xs) → ((AGood { t := t, p := p, s := sh } xs) ∧ ((AGood { t := t, p := p, s := sh } xs) → (Q0 ((0 : Int)) (List.length (Prod.fst r1)) (Prod.fst r1) (Prod.snd r1)))))
def x_roots_w0 (t : Int) (p : Int) (sh : Int) (xs : List Int) (i : Int) (n2 : Nat) (as_ : List Int) (bs : List Int) (Q0 : Int → Nat → List Int → List Int → Prop) (R_ : Bool → Prop) : Prop := (((decide (i < (8 : Int))) = true → (((0 : Int) ≤ r07_Root i ∧ r07_Root i < (↑(List.length xs) : Int)) ∧ (((0 : Int) ≤ r07_Root i ∧ r07_Root i < (↑(List.length xs) : Int)) → (((IntKind.wrap IntKind.i64 (List.getD xs (Int.toNat (r07_Root i)) (0 : Int)) != (0 : Int) && !r12_Has as_ bs (IntKind.wrap IntKind.i64 (List.getD xs (Int.toNat (r07_Root i)) (0 : Int)))) = true → (R_ (false))) ∧ ((IntKind.wrap IntKind.i64 (List.getD xs (Int.toNat (r07_Root i)) (0 : Int)) != (0 : Int) && !r12_Has as_ bs (IntKind.wrap IntKind.i64 (List.getD xs (Int.toNat (r07_Root i)) (0 : Int)))) = false → (Q0 (IntKind.wrap IntKind.i64 (i + (1 : Int))) (n2) (as_) (bs))))))) ∧ ((decide (i < (8 : Int))) = false → (R_ (true))))
def x_roots_I0 (t : Int) (p : Int) (sh : Int) (xs : List Int) (i : Int) (n2 : Nat) (as_ : List Int) (bs : List Int) (r_ : Bool) : Prop := 0 ≤ i ∧ i ≤ 8 ∧ n2 = as_.length ∧ as_.length = bs.length ∧ as_.length ≤ 33 * 1024 ∧ rootsF xs as_ (8 - i).toNat = r_
theorem x_roots_begin (t : Int) (p : Int) (sh : Int) (xs : List Int) (hp0 : AGood ⟨t, p, sh⟩ xs) (hl0 : xs.length ≤ 9223372036854775807) : x_roots_w t p sh xs (fun i' n2' as_' bs' => x_roots_I0 t p sh xs i' n2' as_' bs' (x_roots t p sh xs)) (fun r__ => r__ = (x_roots t p sh xs)) := by
  unfold x_roots_w
  try unfold x_roots_I0
  have hok := Cf.ok_iff.1 hp0.ok
  simp only at hok
  have hl : (blocksL ⟨t, p, sh⟩ xs).length ≤ 33 * p.toNat := blocksL_len _ _
  rintro r2 rfl
  exact ⟨hp0, fun _ => ⟨by omega, by omega, rfl, by simp [x_blocks], by simp only [x_blocks, List.length_map]; omega, rfl⟩⟩
theorem x_roots_step0 (t : Int) (p : Int) (sh : Int) (xs : List Int) (hp0 : AGood ⟨t, p, sh⟩ xs) (hl0 : xs.length ≤ 9223372036854775807) (i : Int) (n2 : Nat) (as_ : List Int) (bs : List Int) {r_ : Bool} (hI : x_roots_I0 t p sh xs i n2 as_ bs r_) : x_roots_w0 t p sh xs i n2 as_ bs (fun i' n2' as_' bs' => x_roots_I0 t p sh xs i' n2' as_' bs' r_ ∧ lx ((8 - i').toNat, 0, 0) ((8 - i).toNat, 0, 0)) (fun r__ => r__ = r_) := by
  unfold x_roots_I0 at hI
  unfold x_roots_w0
  try unfold x_roots_I0
  obtain ⟨h0, h1, h2, h3, hb, hr⟩ := hI
  refine ⟨fun h => ?_, fun h => ?_⟩
  · simp only [decide_eq_true_eq] at h
    have hin : 0 ≤ cRoot i ∧ cRoot i < (xs.length : Int) := by
      have h1 := Cf.ok_iff.1 hp0.ok
      have h2 := hp0.len
      unfold Cf.cells at h2
      rw [hp0.ok, cond_true] at h2
      have e : (decide (0 ≤ i) && decide (i < 8)) = true := by simp [h0, h]
      unfold cRoot
      rw [e, cond_true]
      omega
    have hbd := cel_bd hp0 (cRoot i)
    have hbd' : 0 ≤ xs.getD (cRoot i).toNat 0 ∧ xs.getD (cRoot i).toNat 0 < 4294967296 := hbd
    have e : (8 - i).toNat = (8 - (i + 1)).toNat + 1 := by omega
    have ei : (8 : Int) - (((8 - (i + 1)).toNat + 1 : Nat) : Int) = i := by omega
    rw [e] at hr
    simp only [rootsF] at hr
    rw [ei] at hr
    rw [r07_Root_eq, w64 (n := i + 1) (by omega), w64 (n := xs.getD (cRoot i).toNat 0) (by omega)]
    refine ⟨hin, fun _ => ⟨fun hc => ?_, fun hc => ?_⟩⟩
    · have hc' : (cel xs (cRoot i) != 0 && !as_.contains (cel xs (cRoot i))) = true := hc
      rw [hc', cond_true] at hr; exact hr
    · have hc' : (cel xs (cRoot i) != 0 && !as_.contains (cel xs (cRoot i))) = false := hc
      rw [hc', cond_false] at hr
      exact ⟨⟨by omega, by omega, h2, h3, hb, hr⟩, lxo_⟩
  · simp only [decide_eq_false_iff_not] at h
    rw [show (8 - i).toNat = 0 by omega] at hr
    exact hr
theorem x_roots_ok : EntryOk Dg Tryz.prog 125 e_x_roots :=
  ent_wp Dg T_x_blocks_ok (I := [411000000004, 411000000003, 411000000001]) Tryz.func125 mix (B := bodyOf Tryz.f125) (by kernel_rfl) rfl (by kernel_rfl) 400
    fun p0 t p sh xs hb hp => have hl0 : xs.length ≤ 9223372036854775807 := hb.1.2.2.2.1; have hp0 : AGood ⟨t, p, sh⟩ xs := hp _ (.head _); ⟨[⟨none, [0,1,0,1,1], [.blk 0, .code [1,1,1]], [4, 3, 1], [.i .i64, .own 80 [some .i64, some .i64], .box 55 [.ic .i64 (t), .ic .i64 (p), .ic .i64 (sh), .roc [.ints .u32 (xs)]]]⟩], fun j => List.getD [appC (Hd.kd (⟨none, [0,1,0,1,1], [.blk 0, .code [1,1,1]], [4, 3, 1], [.i .i64, .own 80 [some .i64, some .i64], .box 55 [.ic .i64 (t), .ic .i64 (p), .ic .i64 (sh), .roc [.ints .u32 (xs)]]]⟩ : Hd Sg)) (fun i' n2' as_' bs' => x_roots_I0 t p sh xs i' n2' as_' bs' (x_roots t p sh xs))] j (fun _ => False), fun j => List.getD [appC (Hd.kd (⟨none, [0,1,0,1,1], [.blk 0, .code [1,1,1]], [4, 3, 1], [.i .i64, .own 80 [some .i64, some .i64], .box 55 [.ic .i64 (t), .ic .i64 (p), .ic .i64 (sh), .roc [.ints .u32 (xs)]]]⟩ : Hd Sg)) (fun i' n2' as_' bs' => ((8 - i').toNat, 0, 0))] j (fun _ => (0, 0, 0)), by kernel_rfl, ⟨x_roots_w t p sh xs (fun i' n2' as_' bs' => x_roots_I0 t p sh xs i' n2' as_' bs' (x_roots t p sh xs)) (fun r__ => r__ = (x_roots t p sh xs)), fun _ _ _ => by kernel_rfl, x_roots_begin t p sh xs hp0 hl0 ⟩, ⟨fun i n2 as_ bs hI => ⟨x_roots_w0 t p sh xs i n2 as_ bs (fun i' n2' as_' bs' => x_roots_I0 t p sh xs i' n2' as_' bs' (x_roots t p sh xs) ∧ lx ((8 - i').toNat, 0, 0) ((8 - i).toNat, 0, 0)) (fun r__ => r__ = (x_roots t p sh xs)), fun _ _ _ => by kernel_rfl, x_roots_step0 t p sh xs hp0 hl0 i n2 as_ bs hI⟩, trivial⟩⟩
def T_x_roots : List (Nat × Entry Sg) := (125, e_x_roots) :: T_x_blocks
theorem T_x_roots_ok : TableOk Dg Tryz.prog T_x_roots := TableOk.cons Dg x_roots_ok T_x_blocks_ok
def r12_Check (t : Int) (p : Int) (sh : Int) (xs : List Int) : Int × Bool := checkA ⟨t, p, sh⟩ xs
abbrev c_r12_Check : Ct Sg := ⟨none, false, [.agg [.i .i64, .i .i64, .i .i64], .ro [some .u32]], .tup [.i .i64, .b]⟩
def e_r12_Check : Entry Sg := entC c_r12_Check r12_Check (fun t p sh xs => [bdAll xs])
def r12_Check_w (t : Int) (p : Int) (sh : Int) (xs : List Int) (R_ : Int × Bool → Prop) : Prop := (∀ r1 : Bool, r1 = (r04_Right t p sh) → (((!r1 || (↑(List.length xs) : Int) != r07_Cells t p sh) = true → (R_ (((1 : Int), false)))) ∧ ((!r1 || (↑(List.length xs) : Int) != r07_Cells t p sh) = false → (∀ r4 : Bool, r4 = (x_tiles t p sh xs) → ((AGood { t := t, p := p, s := sh } xs) ∧ ((AGood { t := t, p := p, s := sh } xs) → (((!r4) = true → (R_ (((2 : Int), false)))) ∧ ((!r4) = false → (∀ r7 : Bool, r7 = (x_feet t p sh xs) → ((AGood { t := t, p := p, s := sh } xs) ∧ ((AGood { t := t, p := p, s := sh } xs) → ((Prod.snd (starts { t := t, p := p, s := sh } xs) = true) ∧ ((Prod.snd (starts { t := t, p := p, s := sh } xs) = true) → (((!r7) = true → (R_ (((3 : Int), false)))) ∧ ((!r7) = false → (∀ r11 : Bool, r11 = (x_apart t p sh xs) → ((AGood { t := t, p := p, s := sh } xs) ∧ ((AGood { t := t, p := p, s := sh } xs) → (((!r11) = true → (R_ (((4 : Int), false)))) ∧ ((!r11) = false → (∀ r14 : Bool, r14 = (x_slots t p sh xs) → ((AGood { t := t, p := p, s := sh } xs) ∧ ((AGood { t := t, p := p, s := sh } xs) → (((!r14) = true → (R_ (((5 : Int), false)))) ∧ ((!r14) = false → (∀ r17 : Bool, r17 = (x_bins t p sh xs) → ((AGood { t := t, p := p, s := sh } xs) ∧ ((AGood { t := t, p := p, s := sh } xs) → (((!r17) = true → (R_ (((6 : Int), false)))) ∧ ((!r17) = false → (∀ r20 : Bool, r20 = (x_racks t p sh xs) → ((AGood { t := t, p := p, s := sh } xs) ∧ ((AGood { t := t, p := p, s := sh } xs) → (((!r20) = true → (R_ (((7 : Int), false)))) ∧ ((!r20) = false → (∀ r23 : Bool, r23 = (x_loose t p sh xs) → ((AGood { t := t, p := p, s := sh } xs) ∧ ((AGood { t := t, p := p, s := sh } xs) → (((!r23) = true → (R_ (((8 : Int), false)))) ∧ ((!r23) = false → (∀ r26 : Bool, r26 = (x_counts t p sh xs) → ((AGood { t := t, p := p, s := sh } xs) ∧ ((AGood { t := t, p := p, s := sh } xs) → (((!r26) = true → (R_ (((9 : Int), false)))) ∧ ((!r26) = false → (∀ r29 : Bool, r29 = (x_roots t p sh xs) → ((AGood { t := t, p := p, s := sh } xs) ∧ ((AGood { t := t, p := p, s := sh } xs) → (((!r29) = true → (R_ (((10 : Int), false)))) ∧ ((!r29) = false → (R_ (((0 : Int), true)))))))))))))))))))))))))))))))))))))))))))))))))))))
theorem r12_Check_begin (t : Int) (p : Int) (sh : Int) (xs : List Int) (hp0 : bdAll xs) (hl0 : xs.length ≤ 9223372036854775807) : r12_Check_w t p sh xs  (fun r__ => r__ = (r12_Check t p sh xs)) := by
  unfold r12_Check_w
  have hr : r04_Right t p sh = Cf.ok ⟨t, p, sh⟩ := by
    apply Bool.eq_iff_iff.2
    rw [Cf.ok_iff]
    simp only [r04_Right, Bool.and_eq_true, decide_eq_true_eq]; omega
  have hcl : r07_Cells t p sh = Cf.cells ⟨t, p, sh⟩ := by
    unfold r07_Cells Cf.cells
    rw [hr]
    cases h : Cf.ok ⟨t, p, sh⟩ with
    | false => rfl
    | true =>
      have := Cf.ok_iff.1 h
      simp only at this
      show IntKind.i64.wrap _ = 30 + 4 * t + 6 * p
      rw [w64 (n := 4 * t) (by omega), w64 (n := 30 + 4 * t) (by omega), w64 (n := 6 * p) (by omega), w64 (by omega)]
  rintro r1 rfl
  rw [hr, hcl]
  refine ⟨fun hc => ?_, fun hc => ?_⟩
  · show _ = checkA ⟨t, p, sh⟩ xs
    unfold checkA
    rw [hc]; rfl
  have hg : AGood ⟨t, p, sh⟩ xs := by
    simp only [Bool.or_eq_false_iff, Bool.not_eq_false', bne_eq_false_iff_eq] at hc
    exact { ok := hc.1, len := hc.2, bd := hp0 }
  have key : ∀ {r : Int × Bool}, r = checkA ⟨t, p, sh⟩ xs → (fun r__ => r__ = r12_Check t p sh xs) r := fun h => h
  unfold checkA at key
  rw [hc, cond_false] at key
  rintro r rfl
  refine ⟨hg, fun _ => ⟨fun hd => key (by rw [show (!tiles ⟨t, p, sh⟩ xs) = true from hd]; rfl), fun hd => ?_⟩⟩
  have h_tiles : (!tiles ⟨t, p, sh⟩ xs) = false := hd
  rw [h_tiles, cond_false] at key
  rintro r rfl
  have hst : (starts ⟨t, p, sh⟩ xs).2 = true := by
    have h1 : tiles ⟨t, p, sh⟩ xs = true := by simpa using h_tiles
    unfold tiles at h1
    cases hq : (starts ⟨t, p, sh⟩ xs).2 with
    | true => rfl
    | false => rw [hq] at h1; cases h1
  refine ⟨hg, fun _ => ⟨hst, fun _ => ⟨fun hd => key (by rw [show (!feet ⟨t, p, sh⟩ xs) = true from hd]; rfl), fun hd => ?_⟩⟩⟩
  have h_feet : (!feet ⟨t, p, sh⟩ xs) = false := hd
  rw [h_feet, cond_false] at key
  rintro r rfl
  refine ⟨hg, fun _ => ⟨fun hd => key (by rw [show (!apart ⟨t, p, sh⟩ xs) = true from hd]; rfl), fun hd => ?_⟩⟩
  have h_apart : (!apart ⟨t, p, sh⟩ xs) = false := hd
  rw [h_apart, cond_false] at key
  rintro r rfl
  refine ⟨hg, fun _ => ⟨fun hd => key (by rw [show (!slotsOk ⟨t, p, sh⟩ xs) = true from hd]; rfl), fun hd => ?_⟩⟩
  have h_slotsOk : (!slotsOk ⟨t, p, sh⟩ xs) = false := hd
  rw [h_slotsOk, cond_false] at key
  rintro r rfl
  refine ⟨hg, fun _ => ⟨fun hd => key (by rw [show (!bins ⟨t, p, sh⟩ xs) = true from hd]; rfl), fun hd => ?_⟩⟩
  have h_bins : (!bins ⟨t, p, sh⟩ xs) = false := hd
  rw [h_bins, cond_false] at key
  rintro r rfl
  refine ⟨hg, fun _ => ⟨fun hd => key (by rw [show (!racks ⟨t, p, sh⟩ xs) = true from hd]; rfl), fun hd => ?_⟩⟩
  have h_racks : (!racks ⟨t, p, sh⟩ xs) = false := hd
  rw [h_racks, cond_false] at key
  rintro r rfl
  refine ⟨hg, fun _ => ⟨fun hd => key (by rw [show (!loose ⟨t, p, sh⟩ xs) = true from hd]; rfl), fun hd => ?_⟩⟩
  have h_loose : (!loose ⟨t, p, sh⟩ xs) = false := hd
  rw [h_loose, cond_false] at key
  rintro r rfl
  refine ⟨hg, fun _ => ⟨fun hd => key (by rw [show (!counts ⟨t, p, sh⟩ xs) = true from hd]; rfl), fun hd => ?_⟩⟩
  have h_counts : (!counts ⟨t, p, sh⟩ xs) = false := hd
  rw [h_counts, cond_false] at key
  rintro r rfl
  refine ⟨hg, fun _ => ⟨fun hd => key (by rw [show (!rootsOk ⟨t, p, sh⟩ xs) = true from hd]; rfl), fun hd => ?_⟩⟩
  have h_rootsOk : (!rootsOk ⟨t, p, sh⟩ xs) = false := hd
  rw [h_rootsOk, cond_false] at key
  exact key rfl
theorem r12_Check_ok : EntryOk Dg Tryz.prog 49 e_r12_Check :=
  ent_wp Dg T_x_roots_ok (I := [2999998]) Tryz.func49 mix (B := bodyOf Tryz.f49) (by kernel_rfl) rfl (by kernel_rfl) 400
    fun p0 t p sh xs hb hp => have hl0 : xs.length ≤ 9223372036854775807 := hb.2.1; have hp0 : bdAll xs := hp _ (.head _); ⟨[], fun j => List.getD [] j (fun _ => False), fun j => List.getD [] j (fun _ => (0, 0, 0)), by kernel_rfl, ⟨r12_Check_w t p sh xs  (fun r__ => r__ = (r12_Check t p sh xs)), fun _ _ _ => by kernel_rfl, r12_Check_begin t p sh xs hp0 hl0 ⟩, trivial⟩
def T_r12_Check : List (Nat × Entry Sg) := (49, e_r12_Check) :: T_x_roots
theorem T_r12_Check_ok : TableOk Dg Tryz.prog T_r12_Check := TableOk.cons Dg r12_Check_ok T_x_roots_ok
def r12_Sound (t : Int) (p : Int) (sh : Int) (xs : List Int) : Bool := soundA ⟨t, p, sh⟩ xs
abbrev c_r12_Sound : Ct Sg := ⟨none, false, [.agg [.i .i64, .i .i64, .i .i64], .ro [some .u32]], .b⟩
def e_r12_Sound : Entry Sg := entC c_r12_Sound r12_Sound (fun t p sh xs => [bdAll xs])
def r12_Sound_w (t : Int) (p : Int) (sh : Int) (xs : List Int) (R_ : Bool → Prop) : Prop := (∀ r1 : Int × Bool, r1 = (r12_Check t p sh xs) → ((bdAll xs) ∧ ((bdAll xs) → (R_ (Prod.snd r1)))))
theorem r12_Sound_begin (t : Int) (p : Int) (sh : Int) (xs : List Int) (hp0 : bdAll xs) (hl0 : xs.length ≤ 9223372036854775807) : r12_Sound_w t p sh xs  (fun r__ => r__ = (r12_Sound t p sh xs)) := by
  unfold r12_Sound_w
  rintro r rfl
  exact ⟨hp0, fun _ => rfl⟩
theorem r12_Sound_ok : EntryOk Dg Tryz.prog 12 e_r12_Sound :=
  ent_wp Dg T_r12_Check_ok (I := [2999998]) Tryz.func12 mix (B := bodyOf Tryz.f12) (by kernel_rfl) rfl (by kernel_rfl) 400
    fun p0 t p sh xs hb hp => have hl0 : xs.length ≤ 9223372036854775807 := hb.2.1; have hp0 : bdAll xs := hp _ (.head _); ⟨[], fun j => List.getD [] j (fun _ => False), fun j => List.getD [] j (fun _ => (0, 0, 0)), by kernel_rfl, ⟨r12_Sound_w t p sh xs  (fun r__ => r__ = (r12_Sound t p sh xs)), fun _ _ _ => by kernel_rfl, r12_Sound_begin t p sh xs hp0 hl0 ⟩, trivial⟩
def T_r12_Sound : List (Nat × Entry Sg) := (12, e_r12_Sound) :: T_r12_Check
theorem T_r12_Sound_ok : TableOk Dg Tryz.prog T_r12_Sound := TableOk.cons Dg r12_Sound_ok T_r12_Check_ok
def r12_Few (t : Int) (p : Int) (sh : Int) : Bool := decide (p ≤ 64)
def r12_Few_v (t : Int) (p : Int) (sh : Int) : Bool := decide (p ≤ (64 : Int))
abbrev c_r12_Few : Ct Sg := ⟨none, false, [.agg [.i .i64, .i .i64, .i .i64]], .b⟩
def e_r12_Few : Entry Sg := entC c_r12_Few r12_Few (fun _ _ _ => [])
theorem r12_Few_eq (t : Int) (p : Int) (sh : Int) : r12_Few_v t p sh = (r12_Few t p sh) := by
  rfl
theorem r12_Few_ok : EntryOk Dg Tryz.prog 11 e_r12_Few :=
  ent_ok Dg T_r12_Sound_ok (I := []) Tryz.func11 mix (B := bodyOf Tryz.f11) (by kernel_rfl) rfl (by kernel_rfl) 400
    fun _ t p sh hb hp => ⟨(r12_Few_v t p sh), .t, fun _ _ _ => by kernel_rfl, trivial, r12_Few_eq t p sh ⟩
def T_r12_Few : List (Nat × Entry Sg) := (11, e_r12_Few) :: T_r12_Sound
theorem T_r12_Few_ok : TableOk Dg Tryz.prog T_r12_Few := TableOk.cons Dg r12_Few_ok T_r12_Sound_ok
def l14_Eight : Int × Int × Int × List Int := ((1 : Int), (8 : Int), (10 : Int), [(8 : Int), (0 : Int), (0 : Int), (0 : Int), (0 : Int), (1 : Int), (0 : Int), (0 : Int), (0 : Int), (0 : Int), (0 : Int), (0 : Int), (0 : Int), (0 : Int), (0 : Int), (0 : Int), (0 : Int), (0 : Int), (0 : Int), (0 : Int), (0 : Int), (0 : Int), (0 : Int), (0 : Int), (0 : Int), (0 : Int), (0 : Int), (0 : Int), (0 : Int), (0 : Int), (0 : Int), (0 : Int), (0 : Int), (0 : Int), (129 : Int), (0 : Int), (0 : Int), (0 : Int), (0 : Int), (0 : Int), (0 : Int), (0 : Int), (0 : Int), (0 : Int), (0 : Int), (0 : Int), (0 : Int), (0 : Int), (0 : Int), (0 : Int), (0 : Int), (0 : Int), (0 : Int), (0 : Int), (0 : Int), (0 : Int), (0 : Int), (0 : Int), (0 : Int), (0 : Int), (0 : Int), (0 : Int), (0 : Int), (0 : Int), (0 : Int), (0 : Int), (0 : Int), (0 : Int), (0 : Int), (0 : Int), (0 : Int), (0 : Int), (0 : Int), (0 : Int), (0 : Int), (0 : Int), (0 : Int), (1 : Int), (0 : Int), (0 : Int), (0 : Int), (0 : Int)])
abbrev c_l14_Eight : Ct Sg := ⟨none, false, [], .tup [.agg [.i .i64, .i .i64, .i .i64], .new 62 [some .u32]]⟩
def e_l14_Eight : Entry Sg := entC c_l14_Eight l14_Eight ([])
theorem l14_Eight_ok : EntryOk Dg Tryz.prog 50 e_l14_Eight :=
  ent_ok Dg T_r12_Few_ok (I := []) Tryz.func50 mix (B := bodyOf Tryz.f50) (by kernel_rfl) rfl (by kernel_rfl) 400
    fun _  hb hp => ⟨l14_Eight, (.need ((0 : Int) ≤ (82 : Int) ∧ (82 : Int) ≤ (82 : Int) ∧ (328 : Int) ≤ (140737488355328 : Int)) (.need ((0 : Int) ≤ (0 : Int) ∧ (0 : Int) < (82 : Int)) (.need ((0 : Int) ≤ (5 : Int) ∧ (5 : Int) < (82 : Int)) (.need ((0 : Int) ≤ (34 : Int) ∧ (34 : Int) < (82 : Int)) (.need ((0 : Int) ≤ (77 : Int) ∧ (77 : Int) < (82 : Int)) .t))))), fun _ _ _ => by kernel_rfl, ⟨(by first | omega | decide), fun z1 => ⟨(by first | omega | decide), fun z3 => ⟨(by first | omega | decide), fun z4 => ⟨(by first | omega | decide), fun z5 => ⟨(by first | omega | decide), fun z6 => trivial⟩⟩⟩⟩⟩, rfl⟩
def T_l14_Eight : List (Nat × Entry Sg) := (50, e_l14_Eight) :: T_r12_Few
theorem T_l14_Eight_ok : TableOk Dg Tryz.prog T_l14_Eight := TableOk.cons Dg l14_Eight_ok T_r12_Few_ok
end Go.Proofs.YtnddjnnakkiidaaGreat
namespace Go.Proofs.YtnddjnnakkiidaaGreat
open Go.Sl
theorem sound_good {c : Cf} {xs : List Int} (h : soundA c xs = true) (hb : bdAll xs) : AGood c xs := by
  rw [soundA_eq] at h
  unfold soundB at h
  simp only [Bool.and_eq_true, beq_iff_eq] at h
  exact { ok := h.1.1.1.1.1.1.1.1.1.1, len := h.1.1.1.1.1.1.1.1.1.2, bd := hb }
theorem wcel {xs : List Int} (h : bdAll xs) (k : Int) : IntKind.i64.wrap (xs.getD k.toNat 0) = cel xs k := by
  have := rootA_eq xs k h
  unfold bd32 at this
  exact w64 (n := cel xs k) (by omega)
theorem good_long {c : Cf} {xs : List Int} (h : AGood c xs) : 30 ≤ (xs.length : Int) ∧ xs.length ≤ 1000000 := by
  have h1 := Cf.ok_iff.1 h.ok
  have h2 := h.len
  rw [show c.cells = 30 + 4 * c.t + 6 * c.p by unfold Cf.cells; rw [h.ok]; rfl] at h2
  omega
def r12_Live (t : Int) (p : Int) (sh : Int) (xs : List Int) : List Int × List Int := bif soundA ⟨t, p, sh⟩ xs then ((blocksL ⟨t, p, sh⟩ xs).map (·.a), (blocksL ⟨t, p, sh⟩ xs).map (·.s)) else ([], [])
abbrev c_r12_Live : Ct Sg := ⟨none, false, [.agg [.i .i64, .i .i64, .i .i64], .ro [some .u32]], .new 80 [some .i64, some .i64]⟩
def e_r12_Live : Entry Sg := entC c_r12_Live r12_Live (fun t p sh xs => [bdAll xs])
def r12_Live_w (t : Int) (p : Int) (sh : Int) (xs : List Int) (R_ : List Int × List Int → Prop) : Prop := (∀ r1 : Bool, r1 = (r12_Sound t p sh xs) → ((bdAll xs) ∧ ((bdAll xs) → (((!r1) = true → (R_ (([], [])))) ∧ ((!r1) = false → (∀ r5 : List Int × List Int, r5 = (x_blocks t p sh xs) → ((AGood { t := t, p := p, s := sh } xs) ∧ ((AGood { t := t, p := p, s := sh } xs) → (R_ ((Prod.fst r5, Prod.snd r5)))))))))))
theorem r12_Live_begin (t : Int) (p : Int) (sh : Int) (xs : List Int) (hp0 : bdAll xs) (hl0 : xs.length ≤ 9223372036854775807) : r12_Live_w t p sh xs  (fun r__ => r__ = (r12_Live t p sh xs)) := by
  unfold r12_Live_w
  have hS : soundA ⟨t, p, sh⟩ xs = r12_Sound t p sh xs := rfl
  rintro r rfl
  refine ⟨hp0, fun _ => ⟨fun h => ?_, fun h => ?_⟩⟩
  · show _ = r12_Live t p sh xs
    rw [← hS] at h
    rw [r12_Live, (Bool.not_eq_true' _).mp h]; rfl
  · rintro r rfl
    rw [← hS] at h
    have hs := (Bool.not_eq_false' _).mp h
    refine ⟨sound_good hs hp0, fun _ => ?_⟩
    show _ = r12_Live t p sh xs
    rw [r12_Live, hs]; rfl
theorem r12_Live_ok : EntryOk Dg Tryz.prog 80 e_r12_Live :=
  ent_wp Dg T_l14_Eight_ok (I := [2999998]) Tryz.func80 mix (B := bodyOf Tryz.f80) (by kernel_rfl) rfl (by kernel_rfl) 400
    fun p0 t p sh xs hb hp => have hl0 : xs.length ≤ 9223372036854775807 := hb.2.1; have hp0 : bdAll xs := hp _ (.head _); ⟨[], fun j => List.getD [] j (fun _ => False), fun j => List.getD [] j (fun _ => (0, 0, 0)), by kernel_rfl, ⟨r12_Live_w t p sh xs  (fun r__ => r__ = (r12_Live t p sh xs)), fun _ _ _ => by kernel_rfl, r12_Live_begin t p sh xs hp0 hl0 ⟩, trivial⟩
def T_r12_Live : List (Nat × Entry Sg) := (80, e_r12_Live) :: T_l14_Eight
theorem T_r12_Live_ok : TableOk Dg Tryz.prog T_r12_Live := TableOk.cons Dg r12_Live_ok T_l14_Eight_ok
def r12_State (t : Int) (p : Int) (sh : Int) (xs : List Int) : List Int × List Int × Int × Int × Int × Int × Int × Int × Int × Int × Bool := stateA ⟨t, p, sh⟩ xs
abbrev c_r12_State : Ct Sg := ⟨none, false, [.agg [.i .i64, .i .i64, .i .i64], .ro [some .u32]], .tup [.agg [.new 80 [some .i64, some .i64], .i .i64, .i .i64, .i .i64, .i .i64, .i .i64, .i .i64, .i .i64, .i .i64], .b]⟩
def e_r12_State : Entry Sg := entC c_r12_State r12_State (fun t p sh xs => [bdAll xs])
def r12_State_w (t : Int) (p : Int) (sh : Int) (xs : List Int) (R_ : List Int × List Int × Int × Int × Int × Int × Int × Int × Int × Int × Bool → Prop) : Prop := (∀ r2 : Bool, r2 = (r12_Sound t p sh xs) → ((bdAll xs) ∧ ((bdAll xs) → (((!r2) = true → (R_ (([], [], (0 : Int), (0 : Int), (0 : Int), (0 : Int), (0 : Int), (0 : Int), (0 : Int), (0 : Int), false)))) ∧ ((!r2) = false → (∀ r5 : List Int × List Int, r5 = (r12_Live t p sh xs) → ((bdAll xs) ∧ ((bdAll xs) → (∀ r9 : Int, r9 = ((22 : Int)) → (((0 : Int) ≤ r9 ∧ r9 < (↑(List.length xs) : Int)) ∧ (((0 : Int) ≤ r9 ∧ r9 < (↑(List.length xs) : Int)) → (((0 : Int) ≤ (0 : Int) ∧ (0 : Int) < (8 : Int)) ∧ (((0 : Int) ≤ (0 : Int) ∧ (0 : Int) < (8 : Int)) → (∀ r12 : Int, r12 = ((23 : Int)) → (((0 : Int) ≤ r12 ∧ r12 < (↑(List.length xs) : Int)) ∧ (((0 : Int) ≤ r12 ∧ r12 < (↑(List.length xs) : Int)) → (((0 : Int) ≤ (1 : Int) ∧ (1 : Int) < (8 : Int)) ∧ (((0 : Int) ≤ (1 : Int) ∧ (1 : Int) < (8 : Int)) → (∀ r15 : Int, r15 = ((24 : Int)) → (((0 : Int) ≤ r15 ∧ r15 < (↑(List.length xs) : Int)) ∧ (((0 : Int) ≤ r15 ∧ r15 < (↑(List.length xs) : Int)) → (((0 : Int) ≤ (2 : Int) ∧ (2 : Int) < (8 : Int)) ∧ (((0 : Int) ≤ (2 : Int) ∧ (2 : Int) < (8 : Int)) → (∀ r18 : Int, r18 = ((25 : Int)) → (((0 : Int) ≤ r18 ∧ r18 < (↑(List.length xs) : Int)) ∧ (((0 : Int) ≤ r18 ∧ r18 < (↑(List.length xs) : Int)) → (((0 : Int) ≤ (3 : Int) ∧ (3 : Int) < (8 : Int)) ∧ (((0 : Int) ≤ (3 : Int) ∧ (3 : Int) < (8 : Int)) → (∀ r21 : Int, r21 = ((26 : Int)) → (((0 : Int) ≤ r21 ∧ r21 < (↑(List.length xs) : Int)) ∧ (((0 : Int) ≤ r21 ∧ r21 < (↑(List.length xs) : Int)) → (((0 : Int) ≤ (4 : Int) ∧ (4 : Int) < (8 : Int)) ∧ (((0 : Int) ≤ (4 : Int) ∧ (4 : Int) < (8 : Int)) → (∀ r24 : Int, r24 = ((27 : Int)) → (((0 : Int) ≤ r24 ∧ r24 < (↑(List.length xs) : Int)) ∧ (((0 : Int) ≤ r24 ∧ r24 < (↑(List.length xs) : Int)) → (((0 : Int) ≤ (5 : Int) ∧ (5 : Int) < (8 : Int)) ∧ (((0 : Int) ≤ (5 : Int) ∧ (5 : Int) < (8 : Int)) → (∀ r27 : Int, r27 = ((28 : Int)) → (((0 : Int) ≤ r27 ∧ r27 < (↑(List.length xs) : Int)) ∧ (((0 : Int) ≤ r27 ∧ r27 < (↑(List.length xs) : Int)) → (((0 : Int) ≤ (6 : Int) ∧ (6 : Int) < (8 : Int)) ∧ (((0 : Int) ≤ (6 : Int) ∧ (6 : Int) < (8 : Int)) → (∀ r30 : Int, r30 = ((29 : Int)) → (((0 : Int) ≤ r30 ∧ r30 < (↑(List.length xs) : Int)) ∧ (((0 : Int) ≤ r30 ∧ r30 < (↑(List.length xs) : Int)) → (((0 : Int) ≤ (7 : Int) ∧ (7 : Int) < (8 : Int)) ∧ (((0 : Int) ≤ (7 : Int) ∧ (7 : Int) < (8 : Int)) → (R_ ((Prod.fst r5, Prod.snd r5, IntKind.wrap IntKind.i64 (List.getD xs (Int.toNat r9) (0 : Int)), IntKind.wrap IntKind.i64 (List.getD xs (Int.toNat r12) (0 : Int)), IntKind.wrap IntKind.i64 (List.getD xs (Int.toNat r15) (0 : Int)), IntKind.wrap IntKind.i64 (List.getD xs (Int.toNat r18) (0 : Int)), IntKind.wrap IntKind.i64 (List.getD xs (Int.toNat r21) (0 : Int)), IntKind.wrap IntKind.i64 (List.getD xs (Int.toNat r24) (0 : Int)), IntKind.wrap IntKind.i64 (List.getD xs (Int.toNat r27) (0 : Int)), IntKind.wrap IntKind.i64 (List.getD xs (Int.toNat r30) (0 : Int)), true)))))))))))))))))))))))))))))))))))))))))))))))))))
theorem r12_State_begin (t : Int) (p : Int) (sh : Int) (xs : List Int) (hp0 : bdAll xs) (hl0 : xs.length ≤ 9223372036854775807) : r12_State_w t p sh xs  (fun r__ => r__ = (r12_State t p sh xs)) := by
  unfold r12_State_w
  have hS : soundA ⟨t, p, sh⟩ xs = r12_Sound t p sh xs := rfl
  rintro r rfl
  refine ⟨hp0, fun _ => ⟨fun h => ?_, fun h => ?_⟩⟩
  · show _ = r12_State t p sh xs
    rw [← hS] at h
    rw [r12_State, stateA, (Bool.not_eq_true' _).mp h]; rfl
  · rintro r rfl
    rw [← hS] at h
    have hs := (Bool.not_eq_false' _).mp h
    have hl := good_long (sound_good hs hp0)
    refine ⟨hp0, fun _ => ?_⟩
    repeat' first
      | (refine fun r hr => ?_; subst hr)
      | refine ⟨(by omega), fun _ => ?_⟩
      | fail
    show _ = r12_State t p sh xs
    simp only [wcel hp0]
    rw [r12_State, stateA, hs, cond_true, r12_Live, hs, cond_true]; rfl
theorem r12_State_ok : EntryOk Dg Tryz.prog 24 e_r12_State :=
  ent_wp Dg T_r12_Live_ok (I := [2999999, 2999998]) Tryz.func24 mix (B := bodyOf Tryz.f24) (by kernel_rfl) rfl (by kernel_rfl) 400
    fun p0 t p sh xs hb hp => have hl0 : xs.length ≤ 9223372036854775807 := hb.2.1; have hp0 : bdAll xs := hp _ (.head _); ⟨[], fun j => List.getD [] j (fun _ => False), fun j => List.getD [] j (fun _ => (0, 0, 0)), by kernel_rfl, ⟨r12_State_w t p sh xs  (fun r__ => r__ = (r12_State t p sh xs)), fun _ _ _ => by kernel_rfl, r12_State_begin t p sh xs hp0 hl0 ⟩, trivial⟩
def T_r12_State : List (Nat × Entry Sg) := (24, e_r12_State) :: T_r12_Live
theorem T_r12_State_ok : TableOk Dg Tryz.prog T_r12_State := TableOk.cons Dg r12_State_ok T_r12_Live_ok
def r12_Same (xa : List Int) (xz : List Int) (u0 : Int) (u1 : Int) (u2 : Int) (u3 : Int) (u4 : Int) (u5 : Int) (u6 : Int) (u7 : Int) (ya : List Int) (yz : List Int) (v0 : Int) (v1 : Int) (v2 : Int) (v3 : Int) (v4 : Int) (v5 : Int) (v6 : Int) (v7 : Int) : Bool := decide (xa = ya ∧ xz = yz) && (u0 == v0 && (u1 == v1 && (u2 == v2 && (u3 == v3 && (u4 == v4 && (u5 == v5 && (u6 == v6 && (u7 == v7 && true))))))))
abbrev c_r12_Same : Ct Sg := ⟨none, false, [.agg [.ro [some .i64, some .i64], .i .i64, .i .i64, .i .i64, .i .i64, .i .i64, .i .i64, .i .i64, .i .i64], .agg [.ro [some .i64, some .i64], .i .i64, .i .i64, .i .i64, .i .i64, .i .i64, .i .i64, .i .i64, .i .i64]], .b⟩
def e_r12_Same : Entry Sg := entC c_r12_Same r12_Same (fun xa xz u0 u1 u2 u3 u4 u5 u6 u7 ya yz v0 v1 v2 v3 v4 v5 v6 v7 => [xa.length = xz.length, ya.length = yz.length])
def r12_Same_w (xa : List Int) (xz : List Int) (u0 : Int) (u1 : Int) (u2 : Int) (u3 : Int) (u4 : Int) (u5 : Int) (u6 : Int) (u7 : Int) (ya : List Int) (yz : List Int) (v0 : Int) (v1 : Int) (v2 : Int) (v3 : Int) (v4 : Int) (v5 : Int) (v6 : Int) (v7 : Int) (Q0 : Int → Prop) (R_ : Bool → Prop) : Prop := ((((↑(List.length xa) : Int) != (↑(List.length ya) : Int) || !(u0 == v0 && (u1 == v1 && (u2 == v2 && (u3 == v3 && (u4 == v4 && (u5 == v5 && (u6 == v6 && (u7 == v7 && true))))))))) = true → (R_ (false))) ∧ (((↑(List.length xa) : Int) != (↑(List.length ya) : Int) || !(u0 == v0 && (u1 == v1 && (u2 == v2 && (u3 == v3 && (u4 == v4 && (u5 == v5 && (u6 == v6 && (u7 == v7 && true))))))))) = false → (Q0 ((0 : Int)))))
def r12_Same_w0 (xa : List Int) (xz : List Int) (u0 : Int) (u1 : Int) (u2 : Int) (u3 : Int) (u4 : Int) (u5 : Int) (u6 : Int) (u7 : Int) (ya : List Int) (yz : List Int) (v0 : Int) (v1 : Int) (v2 : Int) (v3 : Int) (v4 : Int) (v5 : Int) (v6 : Int) (v7 : Int) (i : Int) (Q0 : Int → Prop) (R_ : Bool → Prop) : Prop := (((decide (i < (↑(List.length xa) : Int))) = true → (((0 : Int) ≤ i ∧ i < (↑(List.length xa) : Int)) ∧ (((0 : Int) ≤ i ∧ i < (↑(List.length xa) : Int)) → (((0 : Int) ≤ i ∧ i < (↑(List.length ya) : Int)) ∧ (((0 : Int) ≤ i ∧ i < (↑(List.length ya) : Int)) → (((!(List.getD xa (Int.toNat i) (0 : Int) == List.getD ya (Int.toNat i) (0 : Int) && (List.getD xz (Int.toNat i) (0 : Int) == List.getD yz (Int.toNat i) (0 : Int) && true))) = true → (R_ (false))) ∧ ((!(List.getD xa (Int.toNat i) (0 : Int) == List.getD ya (Int.toNat i) (0 : Int) && (List.getD xz (Int.toNat i) (0 : Int) == List.getD yz (Int.toNat i) (0 : Int) && true))) = false → (Q0 (IntKind.wrap IntKind.i64 (i + (1 : Int))))))))))) ∧ ((decide (i < (↑(List.length xa) : Int))) = false → (R_ (true))))
def r12_Same_I0 (xa : List Int) (xz : List Int) (u0 : Int) (u1 : Int) (u2 : Int) (u3 : Int) (u4 : Int) (u5 : Int) (u6 : Int) (u7 : Int) (ya : List Int) (yz : List Int) (v0 : Int) (v1 : Int) (v2 : Int) (v3 : Int) (v4 : Int) (v5 : Int) (v6 : Int) (v7 : Int) (i : Int) (r_ : Bool) : Prop := 0 ≤ i ∧ i ≤ xa.length ∧ xa.length = ya.length ∧ (∀ j : Nat, j < i.toNat → xa.getD j 0 = ya.getD j 0 ∧ xz.getD j 0 = yz.getD j 0) ∧ r_ = decide (xa = ya ∧ xz = yz)
theorem r12_Same_begin (xa : List Int) (xz : List Int) (u0 : Int) (u1 : Int) (u2 : Int) (u3 : Int) (u4 : Int) (u5 : Int) (u6 : Int) (u7 : Int) (ya : List Int) (yz : List Int) (v0 : Int) (v1 : Int) (v2 : Int) (v3 : Int) (v4 : Int) (v5 : Int) (v6 : Int) (v7 : Int) (hp0 : xa.length = xz.length) (hp1 : ya.length = yz.length) (hl0 : xa.length ≤ 9223372036854775807) (hl1 : ya.length ≤ 9223372036854775807) : r12_Same_w xa xz u0 u1 u2 u3 u4 u5 u6 u7 ya yz v0 v1 v2 v3 v4 v5 v6 v7 (fun i' => r12_Same_I0 xa xz u0 u1 u2 u3 u4 u5 u6 u7 ya yz v0 v1 v2 v3 v4 v5 v6 v7 i' (r12_Same xa xz u0 u1 u2 u3 u4 u5 u6 u7 ya yz v0 v1 v2 v3 v4 v5 v6 v7)) (fun r__ => r__ = (r12_Same xa xz u0 u1 u2 u3 u4 u5 u6 u7 ya yz v0 v1 v2 v3 v4 v5 v6 v7)) := by
  unfold r12_Same_w
  try unfold r12_Same_I0
  refine ⟨fun h => ?_, fun h => ?_⟩
  · show false = r12_Same xa xz u0 u1 u2 u3 u4 u5 u6 u7 ya yz v0 v1 v2 v3 v4 v5 v6 v7
    revert h
    unfold r12_Same
    generalize (u0 == v0 && (u1 == v1 && (u2 == v2 && (u3 == v3 && (u4 == v4 && (u5 == v5 && (u6 == v6 && (u7 == v7 && true)))))))) = e
    intro h
    cases e with
    | false => simp
    | true =>
      have hne : xa ≠ ya := fun e2 => by rw [e2] at h; simp at h
      simp [hne]
  · have hh : xa.length = ya.length ∧ (u0 == v0 && (u1 == v1 && (u2 == v2 && (u3 == v3 && (u4 == v4 && (u5 == v5 && (u6 == v6 && (u7 == v7 && true)))))))) = true := by
      simp only [Bool.or_eq_false_iff, Bool.not_eq_false', bne_eq_false_iff_eq] at h
      exact ⟨by have := h.1; omega, h.2⟩
    refine ⟨by omega, by omega, hh.1, fun j hj => absurd hj (Nat.not_lt_zero j), ?_⟩
    unfold r12_Same
    rw [hh.2, Bool.and_true]
theorem r12_Same_step0 (xa : List Int) (xz : List Int) (u0 : Int) (u1 : Int) (u2 : Int) (u3 : Int) (u4 : Int) (u5 : Int) (u6 : Int) (u7 : Int) (ya : List Int) (yz : List Int) (v0 : Int) (v1 : Int) (v2 : Int) (v3 : Int) (v4 : Int) (v5 : Int) (v6 : Int) (v7 : Int) (hp0 : xa.length = xz.length) (hp1 : ya.length = yz.length) (hl0 : xa.length ≤ 9223372036854775807) (hl1 : ya.length ≤ 9223372036854775807) (i : Int) {r_ : Bool} (hI : r12_Same_I0 xa xz u0 u1 u2 u3 u4 u5 u6 u7 ya yz v0 v1 v2 v3 v4 v5 v6 v7 i r_) : r12_Same_w0 xa xz u0 u1 u2 u3 u4 u5 u6 u7 ya yz v0 v1 v2 v3 v4 v5 v6 v7 i (fun i' => r12_Same_I0 xa xz u0 u1 u2 u3 u4 u5 u6 u7 ya yz v0 v1 v2 v3 v4 v5 v6 v7 i' r_ ∧ lx ((xa.length - i').toNat, 0, 0) ((xa.length - i).toNat, 0, 0)) (fun r__ => r__ = r_) := by
  unfold r12_Same_I0 at hI
  unfold r12_Same_w0
  try unfold r12_Same_I0
  obtain ⟨h0, h1, h2, h3, h4⟩ := hI
  refine ⟨fun h => ?_, fun h => ?_⟩
  · simp only [decide_eq_true_eq] at h
    refine ⟨⟨h0, h⟩, fun _ => ⟨⟨h0, by omega⟩, fun _ => ⟨fun hn => ?_, fun hn => ?_⟩⟩⟩
    · show false = r_
      rw [h4]
      symm
      simp only [decide_eq_false_iff_not]
      rintro ⟨rfl, rfl⟩
      simp at hn
    · rw [w64 (n := i + 1) (by omega)]
      refine ⟨⟨by omega, by omega, h2, fun j hj => ?_, h4⟩, lxo_⟩
      by_cases hji : j = i.toNat
      · subst hji; simpa using hn
      · exact h3 j (by omega)
  · simp only [decide_eq_false_iff_not] at h
    show true = r_
    rw [h4]
    symm
    simp only [decide_eq_true_eq]
    exact ⟨ext_getD h2 fun j hj => (h3 j (by omega)).1, ext_getD (by omega) fun j hj => (h3 j (by omega)).2⟩
theorem r12_Same_ok : EntryOk Dg Tryz.prog 26 e_r12_Same :=
  ent_wp Dg T_r12_State_ok (I := [411000000005, 411000000002, 411000000003]) Tryz.func26 mix (B := bodyOf Tryz.f26) (by kernel_rfl) rfl (by kernel_rfl) 400
    fun p0 xa xz u0 u1 u2 u3 u4 u5 u6 u7 ya yz v0 v1 v2 v3 v4 v5 v6 v7 hb hp => have hl0 : xa.length ≤ 9223372036854775807 := hb.1.1; have hl1 : ya.length ≤ 9223372036854775807 := hb.2.1.1; have hp0 : xa.length = xz.length := hp _ (.head _); have hp1 : ya.length = yz.length := hp _ (.tail _ (.head _)); ⟨[⟨none, [0,1,0,1,1], [.blk 0, .code [1,1,1]], [5, 2, 3], [.i .i64, .box 48 [.roc [.ints .i64 (xa), .ints .i64 (xz)], .ic .i64 (u0), .ic .i64 (u1), .ic .i64 (u2), .ic .i64 (u3), .ic .i64 (u4), .ic .i64 (u5), .ic .i64 (u6), .ic .i64 (u7)], .box 48 [.roc [.ints .i64 (ya), .ints .i64 (yz)], .ic .i64 (v0), .ic .i64 (v1), .ic .i64 (v2), .ic .i64 (v3), .ic .i64 (v4), .ic .i64 (v5), .ic .i64 (v6), .ic .i64 (v7)]]⟩], fun j => List.getD [appC (Hd.kd (⟨none, [0,1,0,1,1], [.blk 0, .code [1,1,1]], [5, 2, 3], [.i .i64, .box 48 [.roc [.ints .i64 (xa), .ints .i64 (xz)], .ic .i64 (u0), .ic .i64 (u1), .ic .i64 (u2), .ic .i64 (u3), .ic .i64 (u4), .ic .i64 (u5), .ic .i64 (u6), .ic .i64 (u7)], .box 48 [.roc [.ints .i64 (ya), .ints .i64 (yz)], .ic .i64 (v0), .ic .i64 (v1), .ic .i64 (v2), .ic .i64 (v3), .ic .i64 (v4), .ic .i64 (v5), .ic .i64 (v6), .ic .i64 (v7)]]⟩ : Hd Sg)) (fun i' => r12_Same_I0 xa xz u0 u1 u2 u3 u4 u5 u6 u7 ya yz v0 v1 v2 v3 v4 v5 v6 v7 i' (r12_Same xa xz u0 u1 u2 u3 u4 u5 u6 u7 ya yz v0 v1 v2 v3 v4 v5 v6 v7))] j (fun _ => False), fun j => List.getD [appC (Hd.kd (⟨none, [0,1,0,1,1], [.blk 0, .code [1,1,1]], [5, 2, 3], [.i .i64, .box 48 [.roc [.ints .i64 (xa), .ints .i64 (xz)], .ic .i64 (u0), .ic .i64 (u1), .ic .i64 (u2), .ic .i64 (u3), .ic .i64 (u4), .ic .i64 (u5), .ic .i64 (u6), .ic .i64 (u7)], .box 48 [.roc [.ints .i64 (ya), .ints .i64 (yz)], .ic .i64 (v0), .ic .i64 (v1), .ic .i64 (v2), .ic .i64 (v3), .ic .i64 (v4), .ic .i64 (v5), .ic .i64 (v6), .ic .i64 (v7)]]⟩ : Hd Sg)) (fun i' => ((xa.length - i').toNat, 0, 0))] j (fun _ => (0, 0, 0)), by kernel_rfl, ⟨r12_Same_w xa xz u0 u1 u2 u3 u4 u5 u6 u7 ya yz v0 v1 v2 v3 v4 v5 v6 v7 (fun i' => r12_Same_I0 xa xz u0 u1 u2 u3 u4 u5 u6 u7 ya yz v0 v1 v2 v3 v4 v5 v6 v7 i' (r12_Same xa xz u0 u1 u2 u3 u4 u5 u6 u7 ya yz v0 v1 v2 v3 v4 v5 v6 v7)) (fun r__ => r__ = (r12_Same xa xz u0 u1 u2 u3 u4 u5 u6 u7 ya yz v0 v1 v2 v3 v4 v5 v6 v7)), fun _ _ _ => by kernel_rfl, r12_Same_begin xa xz u0 u1 u2 u3 u4 u5 u6 u7 ya yz v0 v1 v2 v3 v4 v5 v6 v7 hp0 hp1 hl0 hl1 ⟩, ⟨fun i hI => ⟨r12_Same_w0 xa xz u0 u1 u2 u3 u4 u5 u6 u7 ya yz v0 v1 v2 v3 v4 v5 v6 v7 i (fun i' => r12_Same_I0 xa xz u0 u1 u2 u3 u4 u5 u6 u7 ya yz v0 v1 v2 v3 v4 v5 v6 v7 i' (r12_Same xa xz u0 u1 u2 u3 u4 u5 u6 u7 ya yz v0 v1 v2 v3 v4 v5 v6 v7) ∧ lx ((xa.length - i').toNat, 0, 0) ((xa.length - i).toNat, 0, 0)) (fun r__ => r__ = (r12_Same xa xz u0 u1 u2 u3 u4 u5 u6 u7 ya yz v0 v1 v2 v3 v4 v5 v6 v7)), fun _ _ _ => by kernel_rfl, r12_Same_step0 xa xz u0 u1 u2 u3 u4 u5 u6 u7 ya yz v0 v1 v2 v3 v4 v5 v6 v7 hp0 hp1 hl0 hl1 i hI⟩, trivial⟩⟩
def T_r12_Same : List (Nat × Entry Sg) := (26, e_r12_Same) :: T_r12_State
theorem T_r12_Same_ok : TableOk Dg Tryz.prog T_r12_Same := TableOk.cons Dg r12_Same_ok T_r12_State_ok
end Go.Proofs.YtnddjnnakkiidaaGreat
namespace Go.Proofs.YtnddjnnakkiidaaGreat
open Go.Sl
def sp_used (s : VS) (t : Int) (p : Int) (h : Int) (g : Int) (n : Int) : VS := (let r1 : Ty (Ct.RK c_view_Put) := VS.set s (place_Info t p h g) (Prod.fst (info_Put (2 : Int) n (0 : Int))); (let r3 : Ty (Ct.RK c_view_Put) := VS.set r1 (place_Foot t p h (IntKind.wrap IntKind.i64 (IntKind.wrap IntKind.i64 (g + n) - (1 : Int)))) (IntKind.wrap IntKind.u32 (IntKind.wrap IntKind.i64 (g + (1 : Int)))); r3))
def sp_used_out (r_ : VS) : List Value → Value := fun ss => undef
def sp_used_nw (p_0 : Addr) (r_ : VS) : List (Chunk Sg) := [.obj p_0 (.view (r_))]
def sp_used_rows (r_ : VS) : List (Mk Sg) := []
section
variable (s : VS) (t : Int) (p : Int) (h : Int) (g : Int) (n : Int) (p_0 : Addr)
theorem sp_used_calls {E_ : World} {G_ : Hp} {w_ : World} (hS : Sat E_ G_ w_ [Dg p_0 ((.view s))]) : Calls Tryz.prog 178 #[(.agg #[.pointer (some p_0), .int .i64 t, .int .i64 p, .int .i64 h]), (.int .i64 g), (.int .i64 n)] w_ (Post Dg E_ G_ (sp_used_out (sp_used s t p h g n)) (sp_used_nw p_0 (sp_used s t p h g n)) (sp_used_rows (sp_used s t p h g n))) :=
  calls_post Dg T_r12_Same_ok (I := []) Tryz.func178 mix (B := bodyOf Tryz.f178) (by kernel_rfl) [(.agg #[.pointer (some p_0), .int .i64 t, .int .i64 p, .int .i64 h]), (.int .i64 g), (.int .i64 n)] [.many [.pt 0 .obj, .no, .no, .no], .no, .no] (by kernel_rfl) (objs := [.obj p_0 (.view s)]) (ros := []) (psOk_cons (by simp [pOk, psOk, cOk]) (psOk_cons pOk_no (psOk_cons pOk_no (psOk_nil)))) (by kernel_rfl) (trivial) hS 400
    (t := Tree.fresh fun b => Tree.bind (VS.set s (place_Info t p h g) (Prod.fst (info_Put (2 : Int) n (0 : Int)))) fun a => Tree.need (bd32 (Prod.fst (info_Put (2 : Int) n (0 : Int)))) (Tree.bind (VS.set a (place_Foot t p h (IntKind.wrap IntKind.i64 (IntKind.wrap IntKind.i64 (g + n) - (1 : Int)))) (IntKind.wrap IntKind.u32 (IntKind.wrap IntKind.i64 (g + (1 : Int))))) fun a_1 => Tree.need (bd32 (IntKind.wrap IntKind.u32 (IntKind.wrap IntKind.i64 (g + (1 : Int))))) (Tree.ret (Value.tuple { toList := [] }) pn_ [Chunk.obj p_0 (Option.getD (some (Wr.inj wView a_1)) (Option.getD (some (Wr.inj wView a)) (Sg.view s))), kc_ b 170 [(Value.pointer (some p_0), po_ 0), (vi_ t, pn_), (vi_ p, pn_), (vi_ h, pn_)]])))
    (by kernel_rfl)
    (fun b0_0 => fun r1 e1 => ⟨by first | exact wu32_bd _ | exact VS.get_bd _ _ | exact zero_bd | (rw [info_Put_val]; exact iVal_bd _ _ _) | (subst_vars; exact VS.get_bd _ _) | omega, fun y2 => fun r3 e3 => ⟨by first | exact wu32_bd _ | exact VS.get_bd _ _ | exact zero_bd | (rw [info_Put_val]; exact iVal_bd _ _ _) | (subst_vars; exact VS.get_bd _ _) | omega, fun y4 => RetOk.at (outf := sp_used_out) (nwf := sp_used_nw p_0) (rowsf := sp_used_rows) (r := r3) (by subst e1; subst e3; first | exact Eq.symm rfl | (simp only [sp_used, cond_true, cond_false]; done) | (exfalso; simp_all; done) | decide) ⟨[], [0], (by decide), rfl, rfl, ⟨.inl rfl, trivial⟩⟩⟩⟩)
end
def sp_used_e : Entry Sg := fun
  | [(.agg ⟨[.pointer (some p_0), .int .i64 t, .int .i64 p, .int .i64 h]⟩, .many [.obj (.view s), .none, .none, .none]), (.int .i64 g, _), (.int .i64 n, _)] => some ⟨(sp_used s t p h g n), fun (r_ : VS) => ⟨[], some (.view (r_)), [], fun ss => undef, fun k_ => .no⟩⟩
  | _ => none
theorem sp_used_ok : EntryOk Dg Tryz.prog 178 sp_used_e := by
  intro args c r h hr_
  unfold sp_used_e at h
  split at h
  · injection h with h; subst h; subst hr_
    refine ⟨fun K acs _ => pOk_no, fun hpre E G w hi hS => ?_⟩
    exact entry_post Dg (by exact rfl) (sp_used_calls _ _ _ _ _ _ _  hS)
  · cases h
def T_sp_used : List (Nat × Entry Sg) := (178, sp_used_e) :: T_r12_Same
theorem T_sp_used_ok : TableOk Dg Tryz.prog T_sp_used := TableOk.cons Dg sp_used_ok T_r12_Same_ok
def sp_free (s : VS) (t : Int) (p : Int) (h : Int) (g : Int) : VS × Int := (let r1 : Ty (Ct.RK c_place_Info) := place_Info t p h g; (let r2 : Ty (Ct.RK c_view_Get) := (VS.read s r1, VS.get s r1); (let r3 : Ty (Ct.RK c_info_Get) := info_Get (Prod.snd r2); (bif Prod.fst r3 != (1 : Int) then (Prod.fst r2, (0 : Int)) else (Prod.fst r2, Prod.fst (Prod.snd r3))))))
def sp_free_out (r_ : VS × Int) : List Value → Value := fun ss => .int .i64 (r_.2)
def sp_free_nw (p_0 : Addr) (r_ : VS × Int) : List (Chunk Sg) := [.obj p_0 (.view (r_.1))]
def sp_free_rows (r_ : VS × Int) : List (Mk Sg) := []
section
variable (s : VS) (t : Int) (p : Int) (h : Int) (g : Int) (p_0 : Addr)
theorem sp_free_calls {E_ : World} {G_ : Hp} {w_ : World} (hS : Sat E_ G_ w_ [Dg p_0 ((.view s))]) : Calls Tryz.prog 152 #[(.agg #[.pointer (some p_0), .int .i64 t, .int .i64 p, .int .i64 h]), (.int .i64 g)] w_ (Post Dg E_ G_ (sp_free_out (sp_free s t p h g)) (sp_free_nw p_0 (sp_free s t p h g)) (sp_free_rows (sp_free s t p h g))) :=
  calls_post Dg T_sp_used_ok (I := []) Tryz.func152 mix (B := bodyOf Tryz.f152) (by kernel_rfl) [(.agg #[.pointer (some p_0), .int .i64 t, .int .i64 p, .int .i64 h]), (.int .i64 g)] [.many [.pt 0 .obj, .no, .no, .no], .no] (by kernel_rfl) (objs := [.obj p_0 (.view s)]) (ros := []) (psOk_cons (by simp [pOk, psOk, cOk]) (psOk_cons pOk_no (psOk_nil))) (by kernel_rfl) (trivial) hS 400
    (t := Tree.fresh fun b => Tree.two (Tree.bind (place_Info t p h g) fun a => Tree.two (Tree.bind (VS.read s a, VS.get s a) fun a => Tree.two (Tree.bind (info_Get (Prod.snd a)) fun a_1 => Tree.fresh fun b_1 => Tree.br (Prod.fst a_1 != (1 : Int)) (Tree.ret (vi_ (0 : Int)) pn_ [Chunk.obj p_0 (Option.getD (some (Wr.inj wView (Prod.fst a))) (Sg.view s)), kc_ b 170 [(Value.pointer (some p_0), po_ 0), (vi_ t, pn_), (vi_ p, pn_), (vi_ h, pn_)], kc_ b_1 58 [(vi_ (Prod.fst a_1), pn_), (vi_ (Prod.fst (Prod.snd a_1)), pn_), (vi_ (Prod.fst (Prod.snd (Prod.snd a_1))), pn_)]]) (Tree.ret (vi_ (Prod.fst (Prod.snd a_1))) pn_ [Chunk.obj p_0 (Option.getD (some (Wr.inj wView (Prod.fst a))) (Sg.view s)), kc_ b 170 [(Value.pointer (some p_0), po_ 0), (vi_ t, pn_), (vi_ p, pn_), (vi_ h, pn_)], kc_ b_1 58 [(vi_ (Prod.fst a_1), pn_), (vi_ (Prod.fst (Prod.snd a_1)), pn_), (vi_ (Prod.fst (Prod.snd (Prod.snd a_1))), pn_)]])) (Tree.fresh fun b_1 => Tree.bind (info_Get (Prod.snd a)) fun a_1 => Tree.br (Prod.fst a_1 != (1 : Int)) (Tree.ret (vi_ (0 : Int)) pn_ [Chunk.obj p_0 (Option.getD (some (Wr.inj wView (Prod.fst a))) (Sg.view s)), kc_ b 170 [(Value.pointer (some p_0), po_ 0), (vi_ t, pn_), (vi_ p, pn_), (vi_ h, pn_)], kc_ b_1 58 [(vi_ (Prod.fst a_1), pn_), (vi_ (Prod.fst (Prod.snd a_1)), pn_), (vi_ (Prod.fst (Prod.snd (Prod.snd a_1))), pn_)]]) (Tree.ret (vi_ (Prod.fst (Prod.snd a_1))) pn_ [Chunk.obj p_0 (Option.getD (some (Wr.inj wView (Prod.fst a))) (Sg.view s)), kc_ b 170 [(Value.pointer (some p_0), po_ 0), (vi_ t, pn_), (vi_ p, pn_), (vi_ h, pn_)], kc_ b_1 58 [(vi_ (Prod.fst a_1), pn_), (vi_ (Prod.fst (Prod.snd a_1)), pn_), (vi_ (Prod.fst (Prod.snd (Prod.snd a_1))), pn_)]]))) (Tree.fresh fun b_1 => Tree.bind (VS.read s a, VS.get s a) fun a => Tree.bind (info_Get (Prod.snd a)) fun a_1 => Tree.br (Prod.fst a_1 != (1 : Int)) (Tree.ret (vi_ (0 : Int)) pn_ [Chunk.obj p_0 (Option.getD (some (Wr.inj wView (Prod.fst a))) (Sg.view s)), kc_ b 170 [(Value.pointer (some p_0), po_ 0), (vi_ t, pn_), (vi_ p, pn_), (vi_ h, pn_)], kc_ b_1 58 [(vi_ (Prod.fst a_1), pn_), (vi_ (Prod.fst (Prod.snd a_1)), pn_), (vi_ (Prod.fst (Prod.snd (Prod.snd a_1))), pn_)]]) (Tree.ret (vi_ (Prod.fst (Prod.snd a_1))) pn_ [Chunk.obj p_0 (Option.getD (some (Wr.inj wView (Prod.fst a))) (Sg.view s)), kc_ b 170 [(Value.pointer (some p_0), po_ 0), (vi_ t, pn_), (vi_ p, pn_), (vi_ h, pn_)], kc_ b_1 58 [(vi_ (Prod.fst a_1), pn_), (vi_ (Prod.fst (Prod.snd a_1)), pn_), (vi_ (Prod.fst (Prod.snd (Prod.snd a_1))), pn_)]]))) (Tree.fresh fun b_1 => Tree.bind (place_Info t p h g) fun a => Tree.bind (VS.read s a, VS.get s a) fun a => Tree.bind (info_Get (Prod.snd a)) fun a_1 => Tree.br (Prod.fst a_1 != (1 : Int)) (Tree.ret (vi_ (0 : Int)) pn_ [Chunk.obj p_0 (Option.getD (some (Wr.inj wView (Prod.fst a))) (Sg.view s)), kc_ b 170 [(Value.pointer (some p_0), po_ 0), (vi_ t, pn_), (vi_ p, pn_), (vi_ h, pn_)], kc_ b_1 58 [(vi_ (Prod.fst a_1), pn_), (vi_ (Prod.fst (Prod.snd a_1)), pn_), (vi_ (Prod.fst (Prod.snd (Prod.snd a_1))), pn_)]]) (Tree.ret (vi_ (Prod.fst (Prod.snd a_1))) pn_ [Chunk.obj p_0 (Option.getD (some (Wr.inj wView (Prod.fst a))) (Sg.view s)), kc_ b 170 [(Value.pointer (some p_0), po_ 0), (vi_ t, pn_), (vi_ p, pn_), (vi_ h, pn_)], kc_ b_1 58 [(vi_ (Prod.fst a_1), pn_), (vi_ (Prod.fst (Prod.snd a_1)), pn_), (vi_ (Prod.fst (Prod.snd (Prod.snd a_1))), pn_)]])))
    (by kernel_rfl)
    (fun b0_0 => ⟨fun r1 e1 => ⟨fun r2 e2 => ⟨fun r3 e3 => fun b4_0 => ⟨fun z5 => RetOk.at (outf := sp_free_out) (nwf := sp_free_nw p_0) (rowsf := sp_free_rows) (r := (Prod.fst r2, (0 : Int))) (by subst e1; subst e2; subst e3; first | exact Eq.symm ((cT z5).trans rfl) | (simp only [sp_free, z5, cond_true, cond_false]; done) | (exfalso; simp_all; done) | decide) ⟨[], [0], (by decide), rfl, rfl, ⟨.inl rfl, trivial⟩⟩, fun z5 => RetOk.at (outf := sp_free_out) (nwf := sp_free_nw p_0) (rowsf := sp_free_rows) (r := (Prod.fst r2, Prod.fst (Prod.snd r3))) (by subst e1; subst e2; subst e3; first | exact Eq.symm ((cF z5).trans rfl) | (simp only [sp_free, z5, cond_true, cond_false]; done) | (exfalso; simp_all; done) | decide) ⟨[], [0], (by decide), rfl, rfl, ⟨.inl rfl, trivial⟩⟩⟩, fun b3_0 => fun r4 e4 => ⟨fun z5 => RetOk.at (outf := sp_free_out) (nwf := sp_free_nw p_0) (rowsf := sp_free_rows) (r := (Prod.fst r2, (0 : Int))) (by subst e1; subst e2; subst e4; first | exact Eq.symm ((cT z5).trans rfl) | (simp only [sp_free, z5, cond_true, cond_false]; done) | (exfalso; simp_all; done) | decide) ⟨[], [0], (by decide), rfl, rfl, ⟨.inl rfl, trivial⟩⟩, fun z5 => RetOk.at (outf := sp_free_out) (nwf := sp_free_nw p_0) (rowsf := sp_free_rows) (r := (Prod.fst r2, Prod.fst (Prod.snd r4))) (by subst e1; subst e2; subst e4; first | exact Eq.symm ((cF z5).trans rfl) | (simp only [sp_free, z5, cond_true, cond_false]; done) | (exfalso; simp_all; done) | decide) ⟨[], [0], (by decide), rfl, rfl, ⟨.inl rfl, trivial⟩⟩⟩⟩, fun b2_0 => fun r3 e3 => fun r4 e4 => ⟨fun z5 => RetOk.at (outf := sp_free_out) (nwf := sp_free_nw p_0) (rowsf := sp_free_rows) (r := (Prod.fst r3, (0 : Int))) (by subst e1; subst e3; subst e4; first | exact Eq.symm ((cT z5).trans rfl) | (simp only [sp_free, z5, cond_true, cond_false]; done) | (exfalso; simp_all; done) | decide) ⟨[], [0], (by decide), rfl, rfl, ⟨.inl rfl, trivial⟩⟩, fun z5 => RetOk.at (outf := sp_free_out) (nwf := sp_free_nw p_0) (rowsf := sp_free_rows) (r := (Prod.fst r3, Prod.fst (Prod.snd r4))) (by subst e1; subst e3; subst e4; first | exact Eq.symm ((cF z5).trans rfl) | (simp only [sp_free, z5, cond_true, cond_false]; done) | (exfalso; simp_all; done) | decide) ⟨[], [0], (by decide), rfl, rfl, ⟨.inl rfl, trivial⟩⟩⟩⟩, fun b1_0 => fun r2 e2 => fun r3 e3 => fun r4 e4 => ⟨fun z5 => RetOk.at (outf := sp_free_out) (nwf := sp_free_nw p_0) (rowsf := sp_free_rows) (r := (Prod.fst r3, (0 : Int))) (by subst e2; subst e3; subst e4; first | exact Eq.symm ((cT z5).trans rfl) | (simp only [sp_free, z5, cond_true, cond_false]; done) | (exfalso; simp_all; done) | decide) ⟨[], [0], (by decide), rfl, rfl, ⟨.inl rfl, trivial⟩⟩, fun z5 => RetOk.at (outf := sp_free_out) (nwf := sp_free_nw p_0) (rowsf := sp_free_rows) (r := (Prod.fst r3, Prod.fst (Prod.snd r4))) (by subst e2; subst e3; subst e4; first | exact Eq.symm ((cF z5).trans rfl) | (simp only [sp_free, z5, cond_true, cond_false]; done) | (exfalso; simp_all; done) | decide) ⟨[], [0], (by decide), rfl, rfl, ⟨.inl rfl, trivial⟩⟩⟩⟩)
end
def sp_free_e : Entry Sg := fun
  | [(.agg ⟨[.pointer (some p_0), .int .i64 t, .int .i64 p, .int .i64 h]⟩, .many [.obj (.view s), .none, .none, .none]), (.int .i64 g, _)] => some ⟨(sp_free s t p h g), fun (r_ : VS × Int) => ⟨[], some (.view (r_.1)), [], fun ss => .int .i64 (r_.2), fun k_ => .no⟩⟩
  | _ => none
theorem sp_free_ok : EntryOk Dg Tryz.prog 152 sp_free_e := by
  intro args c r h hr_
  unfold sp_free_e at h
  split at h
  · injection h with h; subst h; subst hr_
    refine ⟨fun K acs _ => pOk_no, fun hpre E G w hi hS => ?_⟩
    exact entry_post Dg (by exact rfl) (sp_free_calls _ _ _ _ _ _  hS)
  · cases h
def T_sp_free : List (Nat × Entry Sg) := (152, sp_free_e) :: T_sp_used
theorem T_sp_free_ok : TableOk Dg Tryz.prog T_sp_free := TableOk.cons Dg sp_free_ok T_sp_used_ok
def sp_count (s : VS) (t : Int) (p : Int) (h : Int) (n : Int) : VS := (let r1 : Ty (Ct.RK c_view_Get) := (VS.read s (0 : Int), VS.get s (0 : Int)); (let r2 : Ty (Ct.RK c_view_Put) := VS.set (Prod.fst r1) (0 : Int) (IntKind.wrap IntKind.u32 (Prod.snd r1 + IntKind.wrap IntKind.u32 n)); r2))
def sp_count_out (r_ : VS) : List Value → Value := fun ss => undef
def sp_count_nw (p_0 : Addr) (r_ : VS) : List (Chunk Sg) := [.obj p_0 (.view (r_))]
def sp_count_rows (r_ : VS) : List (Mk Sg) := []
section
variable (s : VS) (t : Int) (p : Int) (h : Int) (n : Int) (p_0 : Addr)
theorem sp_count_calls {E_ : World} {G_ : Hp} {w_ : World} (hS : Sat E_ G_ w_ [Dg p_0 ((.view s))]) : Calls Tryz.prog 155 #[(.agg #[.pointer (some p_0), .int .i64 t, .int .i64 p, .int .i64 h]), (.int .i64 n)] w_ (Post Dg E_ G_ (sp_count_out (sp_count s t p h n)) (sp_count_nw p_0 (sp_count s t p h n)) (sp_count_rows (sp_count s t p h n))) :=
  calls_post Dg T_sp_free_ok (I := []) Tryz.func155 mix (B := bodyOf Tryz.f155) (by kernel_rfl) [(.agg #[.pointer (some p_0), .int .i64 t, .int .i64 p, .int .i64 h]), (.int .i64 n)] [.many [.pt 0 .obj, .no, .no, .no], .no] (by kernel_rfl) (objs := [.obj p_0 (.view s)]) (ros := []) (psOk_cons (by simp [pOk, psOk, cOk]) (psOk_cons pOk_no (psOk_nil))) (by kernel_rfl) (trivial) hS 400
    (t := Tree.fresh fun b => Tree.bind (VS.read s (0 : Int), VS.get s (0 : Int)) fun a => Tree.bind (VS.set (Prod.fst a) (0 : Int) (IntKind.wrap IntKind.u32 (Prod.snd a + IntKind.wrap IntKind.u32 n))) fun a_1 => Tree.need (bd32 (IntKind.wrap IntKind.u32 (Prod.snd a + IntKind.wrap IntKind.u32 n))) (Tree.ret (Value.tuple { toList := [] }) pn_ [Chunk.obj p_0 (Option.getD (some (Wr.inj wView a_1)) (Option.getD (some (Wr.inj wView (Prod.fst a))) (Sg.view s))), kc_ b 170 [(Value.pointer (some p_0), po_ 0), (vi_ t, pn_), (vi_ p, pn_), (vi_ h, pn_)]]))
    (by kernel_rfl)
    (fun b0_0 => fun r1 e1 => fun r2 e2 => ⟨by first | exact wu32_bd _ | exact VS.get_bd _ _ | exact zero_bd | (rw [info_Put_val]; exact iVal_bd _ _ _) | (subst_vars; exact VS.get_bd _ _) | omega, fun y3 => RetOk.at (outf := sp_count_out) (nwf := sp_count_nw p_0) (rowsf := sp_count_rows) (r := r2) (by subst e1; subst e2; first | exact Eq.symm rfl | (simp only [sp_count, cond_true, cond_false]; done) | (exfalso; simp_all; done) | decide) ⟨[], [0], (by decide), rfl, rfl, ⟨.inl rfl, trivial⟩⟩⟩)
end
def sp_count_e : Entry Sg := fun
  | [(.agg ⟨[.pointer (some p_0), .int .i64 t, .int .i64 p, .int .i64 h]⟩, .many [.obj (.view s), .none, .none, .none]), (.int .i64 n, _)] => some ⟨(sp_count s t p h n), fun (r_ : VS) => ⟨[], some (.view (r_)), [], fun ss => undef, fun k_ => .no⟩⟩
  | _ => none
theorem sp_count_ok : EntryOk Dg Tryz.prog 155 sp_count_e := by
  intro args c r h hr_
  unfold sp_count_e at h
  split at h
  · injection h with h; subst h; subst hr_
    refine ⟨fun K acs _ => pOk_no, fun hpre E G w hi hS => ?_⟩
    exact entry_post Dg (by exact rfl) (sp_count_calls _ _ _ _ _ _  hS)
  · cases h
def T_sp_count : List (Nat × Entry Sg) := (155, sp_count_e) :: T_sp_free
theorem T_sp_count_ok : TableOk Dg Tryz.prog T_sp_count := TableOk.cons Dg sp_count_ok T_sp_free_ok
def sp_join (s : VS) (t : Int) (p : Int) (h : Int) (g : Int) (b : Int) : VS × Int := (let r1 : Ty (Ct.RK c_bin_Drop) := bin_Drop s t p h g; (let r2 : Ty (Ct.RK c_view_Put) := VS.set (Prod.fst r1) (place_Info t p h b) (0 : Int); (let r4 : Ty (Ct.RK c_view_Put) := VS.set r2 (place_Foot t p h (IntKind.wrap IntKind.i64 (b - (1 : Int)))) (0 : Int); (r4, Prod.snd r1))))
def sp_join_out (r_ : VS × Int) : List Value → Value := fun ss => .int .i64 (r_.2)
def sp_join_nw (p_0 : Addr) (r_ : VS × Int) : List (Chunk Sg) := [.obj p_0 (.view (r_.1))]
def sp_join_rows (r_ : VS × Int) : List (Mk Sg) := []
section
variable (s : VS) (t : Int) (p : Int) (h : Int) (g : Int) (b : Int) (p_0 : Addr)
theorem sp_join_calls {E_ : World} {G_ : Hp} {w_ : World} (hS : Sat E_ G_ w_ [Dg p_0 ((.view s))]) : Calls Tryz.prog 153 #[(.agg #[.pointer (some p_0), .int .i64 t, .int .i64 p, .int .i64 h]), (.int .i64 g), (.int .i64 b)] w_ (Post Dg E_ G_ (sp_join_out (sp_join s t p h g b)) (sp_join_nw p_0 (sp_join s t p h g b)) (sp_join_rows (sp_join s t p h g b))) :=
  calls_post Dg T_sp_count_ok (I := []) Tryz.func153 mix (B := bodyOf Tryz.f153) (by kernel_rfl) [(.agg #[.pointer (some p_0), .int .i64 t, .int .i64 p, .int .i64 h]), (.int .i64 g), (.int .i64 b)] [.many [.pt 0 .obj, .no, .no, .no], .no, .no] (by kernel_rfl) (objs := [.obj p_0 (.view s)]) (ros := []) (psOk_cons (by simp [pOk, psOk, cOk]) (psOk_cons pOk_no (psOk_cons pOk_no (psOk_nil)))) (by kernel_rfl) (trivial) hS 400
    (t := Tree.fresh fun b_1 => Tree.bind (bin_Drop s t p h g) fun a => Tree.bind (VS.set (Prod.fst a) (place_Info t p h b) (0 : Int)) fun a_1 => Tree.need (bd32 (0 : Int)) (Tree.bind (VS.set a_1 (place_Foot t p h (IntKind.wrap IntKind.i64 (b - (1 : Int)))) (0 : Int)) fun a_2 => Tree.need (bd32 (0 : Int)) (Tree.ret (vi_ (Prod.snd a)) pn_ [Chunk.obj p_0 (Option.getD (some (Wr.inj wView a_2)) (Option.getD (some (Wr.inj wView a_1)) (Option.getD (some (Wr.inj wView (Prod.fst a))) (Sg.view s)))), kc_ b_1 170 [(Value.pointer (some p_0), po_ 0), (vi_ t, pn_), (vi_ p, pn_), (vi_ h, pn_)]])))
    (by kernel_rfl)
    (fun b0_0 => fun r1 e1 => fun r2 e2 => ⟨by first | exact wu32_bd _ | exact VS.get_bd _ _ | exact zero_bd | (rw [info_Put_val]; exact iVal_bd _ _ _) | (subst_vars; exact VS.get_bd _ _) | omega, fun y3 => fun r4 e4 => ⟨by first | exact wu32_bd _ | exact VS.get_bd _ _ | exact zero_bd | (rw [info_Put_val]; exact iVal_bd _ _ _) | (subst_vars; exact VS.get_bd _ _) | omega, fun y5 => RetOk.at (outf := sp_join_out) (nwf := sp_join_nw p_0) (rowsf := sp_join_rows) (r := (r4, Prod.snd r1)) (by subst e1; subst e2; subst e4; first | exact Eq.symm rfl | (simp only [sp_join, cond_true, cond_false]; done) | (exfalso; simp_all; done) | decide) ⟨[], [0], (by decide), rfl, rfl, ⟨.inl rfl, trivial⟩⟩⟩⟩)
end
def sp_join_e : Entry Sg := fun
  | [(.agg ⟨[.pointer (some p_0), .int .i64 t, .int .i64 p, .int .i64 h]⟩, .many [.obj (.view s), .none, .none, .none]), (.int .i64 g, _), (.int .i64 b, _)] => some ⟨(sp_join s t p h g b), fun (r_ : VS × Int) => ⟨[], some (.view (r_.1)), [], fun ss => .int .i64 (r_.2), fun k_ => .no⟩⟩
  | _ => none
theorem sp_join_ok : EntryOk Dg Tryz.prog 153 sp_join_e := by
  intro args c r h hr_
  unfold sp_join_e at h
  split at h
  · injection h with h; subst h; subst hr_
    refine ⟨fun K acs _ => pOk_no, fun hpre E G w hi hS => ?_⟩
    exact entry_post Dg (by exact rfl) (sp_join_calls _ _ _ _ _ _ _  hS)
  · cases h
def T_sp_join : List (Nat × Entry Sg) := (153, sp_join_e) :: T_sp_count
theorem T_sp_join_ok : TableOk Dg Tryz.prog T_sp_join := TableOk.cons Dg sp_join_ok T_sp_count_ok
def sp_ahead (s : VS) (t : Int) (p : Int) (h : Int) (g : Int) : VS × Int := (bif g == (0 : Int) then (s, (-1 : Int)) else (let r2 : Ty (Ct.RK c_view_Get) := (VS.read s (place_Foot t p h (IntKind.wrap IntKind.i64 (g - (1 : Int)))), VS.get s (place_Foot t p h (IntKind.wrap IntKind.i64 (g - (1 : Int))))); (Prod.fst r2, IntKind.wrap IntKind.i64 (IntKind.wrap IntKind.i64 (Prod.snd r2) - (1 : Int)))))
def sp_ahead_out (r_ : VS × Int) : List Value → Value := fun ss => .int .i64 (r_.2)
def sp_ahead_nw (p_0 : Addr) (r_ : VS × Int) : List (Chunk Sg) := [.obj p_0 (.view (r_.1))]
def sp_ahead_rows (r_ : VS × Int) : List (Mk Sg) := []
section
variable (s : VS) (t : Int) (p : Int) (h : Int) (g : Int) (p_0 : Addr)
theorem sp_ahead_calls {E_ : World} {G_ : Hp} {w_ : World} (hS : Sat E_ G_ w_ [Dg p_0 ((.view s))]) : Calls Tryz.prog 151 #[(.agg #[.pointer (some p_0), .int .i64 t, .int .i64 p, .int .i64 h]), (.int .i64 g)] w_ (Post Dg E_ G_ (sp_ahead_out (sp_ahead s t p h g)) (sp_ahead_nw p_0 (sp_ahead s t p h g)) (sp_ahead_rows (sp_ahead s t p h g))) :=
  calls_post Dg T_sp_join_ok (I := []) Tryz.func151 mix (B := bodyOf Tryz.f151) (by kernel_rfl) [(.agg #[.pointer (some p_0), .int .i64 t, .int .i64 p, .int .i64 h]), (.int .i64 g)] [.many [.pt 0 .obj, .no, .no, .no], .no] (by kernel_rfl) (objs := [.obj p_0 (.view s)]) (ros := []) (psOk_cons (by simp [pOk, psOk, cOk]) (psOk_cons pOk_no (psOk_nil))) (by kernel_rfl) (trivial) hS 400
    (t := Tree.fresh fun b => Tree.br (g == (0 : Int)) (Tree.ret (vi_ (-1 : Int)) pn_ [Chunk.obj p_0 (Sg.view s), kc_ b 170 [(Value.pointer (some p_0), po_ 0), (vi_ t, pn_), (vi_ p, pn_), (vi_ h, pn_)]]) (Tree.bind (VS.read s (place_Foot t p h (IntKind.wrap IntKind.i64 (g - (1 : Int)))), VS.get s (place_Foot t p h (IntKind.wrap IntKind.i64 (g - (1 : Int))))) fun a => Tree.ret (vi_ (IntKind.wrap IntKind.i64 (IntKind.wrap IntKind.i64 (Prod.snd a) - (1 : Int)))) pn_ [Chunk.obj p_0 (Option.getD (some (Wr.inj wView (Prod.fst a))) (Sg.view s)), kc_ b 170 [(Value.pointer (some p_0), po_ 0), (vi_ t, pn_), (vi_ p, pn_), (vi_ h, pn_)]]))
    (by kernel_rfl)
    (fun b0_0 => ⟨fun z1 => RetOk.at (outf := sp_ahead_out) (nwf := sp_ahead_nw p_0) (rowsf := sp_ahead_rows) (r := (s, (-1 : Int))) (by first | exact Eq.symm ((cT z1).trans rfl) | (simp only [sp_ahead, z1, cond_true, cond_false]; done) | (exfalso; simp_all; done) | decide) ⟨[], [0], (by decide), rfl, rfl, ⟨.inl rfl, trivial⟩⟩, fun z1 => fun r2 e2 => RetOk.at (outf := sp_ahead_out) (nwf := sp_ahead_nw p_0) (rowsf := sp_ahead_rows) (r := (Prod.fst r2, IntKind.wrap IntKind.i64 (IntKind.wrap IntKind.i64 (Prod.snd r2) - (1 : Int)))) (by subst e2; first | exact Eq.symm ((cF z1).trans rfl) | (simp only [sp_ahead, z1, cond_true, cond_false]; done) | (exfalso; simp_all; done) | decide) ⟨[], [0], (by decide), rfl, rfl, ⟨.inl rfl, trivial⟩⟩⟩)
end
def sp_ahead_e : Entry Sg := fun
  | [(.agg ⟨[.pointer (some p_0), .int .i64 t, .int .i64 p, .int .i64 h]⟩, .many [.obj (.view s), .none, .none, .none]), (.int .i64 g, _)] => some ⟨(sp_ahead s t p h g), fun (r_ : VS × Int) => ⟨[], some (.view (r_.1)), [], fun ss => .int .i64 (r_.2), fun k_ => .no⟩⟩
  | _ => none
theorem sp_ahead_ok : EntryOk Dg Tryz.prog 151 sp_ahead_e := by
  intro args c r h hr_
  unfold sp_ahead_e at h
  split at h
  · injection h with h; subst h; subst hr_
    refine ⟨fun K acs _ => pOk_no, fun hpre E G w hi hS => ?_⟩
    exact entry_post Dg (by exact rfl) (sp_ahead_calls _ _ _ _ _ _  hS)
  · cases h
def T_sp_ahead : List (Nat × Entry Sg) := (151, sp_ahead_e) :: T_sp_join
theorem T_sp_ahead_ok : TableOk Dg Tryz.prog T_sp_ahead := TableOk.cons Dg sp_ahead_ok T_sp_join_ok
end Go.Proofs.YtnddjnnakkiidaaGreat
namespace Go.Sl
abbrev wI (x : Int) : Int := IntKind.wrap IntKind.i64 x
section
variable (c : Cf)
def qUsed (p n : Int) : Pg Unit := .put (c.info p) (iVal 2 n 0) <| .put (c.foot (wI (wI (p + n) - 1))) (nv (p + 1)) (.ret ())
def qJoin (p b : Int) : Pg Int := (pDrop c p).bind fun l => .put (c.info b) 0 <| .put (c.foot (wI (b - 1))) 0 (.ret l)
def qTake (n : Int) : Pg (Int × Bool) :=
  (pFind c n).bind fun r => bif r.2 then
    (pDrop c r.1).bind fun l => (qUsed c r.1 n).bind fun _ =>
      (bif decide (n < l) then pAdd c (wI (r.1 + n)) (wI (l - n)) else .ret ()).bind fun _ => (pCount (-n)).bind fun _ => .ret (r.1, true)
  else .ret (0, false)
def qAhead (p n : Int) : Pg (Int × Int) :=
  bif p == 0 then .ret (p, n) else .get (c.foot (wI (p - 1))) fun f =>
    (pFree c (f - 1)).bind fun l => bif decide (0 < l) then (qJoin c (f - 1) p).bind fun m => .ret (f - 1, wI (n + m)) else .ret (p, n)
def qNext (r : Int) (a : Int × Int) : Pg (Int × Int) :=
  bif decide (r < c.p) then (pFree c r).bind fun l => bif decide (0 < l) then (qJoin c r r).bind fun m => .ret (a.1, wI (a.2 + m)) else .ret a else .ret a
def qRelease (p n : Int) : Pg Unit :=
  (qAhead c p n).bind fun a => (qNext c (wI (p + n)) a).bind fun a => (pAdd c a.1 a.2).bind fun _ => pCount n
end
theorem get_out1 (s : VS) {i : Int} (h : i < 0) : s.get i = 0 ∧ s.read i = s := by
  have : s.there i = false := by
    simp only [VS.there, Bool.and_eq_false_iff, decide_eq_false_iff_not]
    omega
  unfold VS.get VS.read
  rw [this]
  exact ⟨rfl, rfl⟩
end Go.Sl
namespace Go.Proofs.YtnddjnnakkiidaaGreat
open Go.Sl
theorem nvadd (x y : Int) : nv (x + nv y) = nv (x + y) := by unfold nv; omega
theorem nvsub (x y : Int) : nv (x - nv y) = nv (x + -y) := by unfold nv; omega
theorem nvwi0 (y : Int) : nv (IntKind.wrap IntKind.i64 y) = nv y := by rw [IntKind.wrap_i64]; unfold nv; omega
theorem nvaddw (x y : Int) : nv (x + IntKind.wrap IntKind.i64 y) = nv (x + y) := by rw [IntKind.wrap_i64]; unfold nv; omega
theorem dpos (v : Int) : decide (0 < bif (iGet v).k == 1 then (iGet v).l else 0) = ((iGet v).k == 1) := by
  have hi := iGet_cases v
  cases hk : (iGet v).k == 1 with
  | false => rfl
  | true =>
    simp only [beq_iff_eq] at hk
    simp only [cond_true, decide_eq_true_eq]; omega
theorem spFree_eq (s : VS) (t p h g : Int) : sp_free s t p h g = (pFree ⟨t, p, h⟩ g).run s := by
  simp only [sp_free, pFree, Pg.run_get, Pg.run_ret, place_Info_eq, infoG1, infoG2, bne]
  cases (iGet (s.get (Cf.info ⟨t, p, h⟩ g))).k == 1 <;> rfl
theorem dposr (c : Cf) (g : Int) (s : VS) : decide (0 < ((pFree c g).run s).2) = ((iGet (s.get (c.info g))).k == 1) := dpos _
theorem pFreeR (c : Cf) (g : Int) (s : VS) : (pFree c g).run s = (s.read (c.info g), bif (iGet (s.get (c.info g))).k == 1 then (iGet (s.get (c.info g))).l else 0) := rfl
theorem nvnegw (x y : Int) : nv (x + -IntKind.wrap IntKind.i64 y) = nv (x + -y) := by rw [IntKind.wrap_i64]; unfold nv; omega
theorem dz0 : decide ((0 : Int) < 0) = false := rfl
theorem dge1 (x : Int) : decide (0 ≤ x - 1) = decide (1 ≤ x) := decide_eq_decide.2 (by omega)
theorem dneg : decide ((0 : Int) ≤ -1) = false := rfl
theorem get_fb (s : VS) (i : Int) : IntKind.wrap IntKind.i64 (s.get i) = s.get i := w64g s i
theorem get_fb1 (s : VS) (i : Int) : IntKind.wrap IntKind.i64 (s.get i - 1) = s.get i - 1 := w64g1 s i
def span_Take (s : VS) (t : Int) (p : Int) (h : Int) (n : Int) : VS × Int × Bool := (qTake ⟨t, p, h⟩ n).run s
abbrev c_span_Take : Ct Sg := ⟨some wView, false, [.agg [.i .i64, .i .i64, .i .i64], .i .i64], .tup [.i .i64, .b]⟩
def e_span_Take : Entry Sg := entC c_span_Take span_Take (fun s t p h n => [p ≤ 1024])
def span_Take_w (s : VS) (t : Int) (p : Int) (h : Int) (n : Int) (R_ : VS × Int × Bool → Prop) : Prop := (∀ r2 : VS × Int × Bool, r2 = (bin_Find s t p h n) → ((p ≤ (9223372036854775807 : Int)) ∧ ((p ≤ (9223372036854775807 : Int)) → (((!Prod.snd (Prod.snd r2)) = true → (R_ ((Prod.fst r2, (0 : Int), false)))) ∧ ((!Prod.snd (Prod.snd r2)) = false → (∀ r5 : VS × Int, r5 = (bin_Drop (Prod.fst r2) t p h (Prod.fst (Prod.snd r2))) → (∀ r6 : VS, r6 = (sp_used (Prod.fst r5) t p h (Prod.fst (Prod.snd r2)) n) → (((decide (Prod.snd r5 > n)) = true → (∀ r8 : VS, r8 = (bin_Add r6 t p h (IntKind.wrap IntKind.i64 (Prod.fst (Prod.snd r2) + n)) (IntKind.wrap IntKind.i64 (Prod.snd r5 - n))) → ((p ≤ (1024 : Int)) ∧ ((p ≤ (1024 : Int)) → (∀ r10 : VS, r10 = (sp_count r8 t p h (IntKind.wrap IntKind.i64 ((0 : Int) - n))) → (R_ ((r10, Prod.fst (Prod.snd r2), true)))))))) ∧ ((decide (Prod.snd r5 > n)) = false → (∀ r8 : VS, r8 = (sp_count r6 t p h (IntKind.wrap IntKind.i64 ((0 : Int) - n))) → (R_ ((r8, Prod.fst (Prod.snd r2), true)))))))))))))
theorem span_Take_begin (s : VS) (t : Int) (p : Int) (h : Int) (n : Int) (hp0 : p ≤ 1024) : span_Take_w s t p h n  (fun r__ => r__ = (span_Take s t p h n)) := by
  unfold span_Take_w
  repeat' first
    | (refine fun r hr => ?_; subst hr)
    | refine ⟨(by first | exact wu32_bd _ | exact VS.get_bd _ _ | exact zero_bd | exact iVal_bd _ _ _ | exact nv_bd _ | (rw [info_Put_val]; exact iVal_bd _ _ _) | (rw [r09_Value_eq]; exact iVal_bd _ _ _) | assumption | omega), fun _ => ?_⟩
    | refine ⟨fun hc => ?_, fun hc => ?_⟩
    | (refine fun hr => ?_; subst hr)
    | fail
  all_goals
    simp only [link_page_eq, page_ne t p h, link_next, link_prev, place_Next_eq, place_Prev_eq, r07_Next_eq, r07_Prev_eq, link_to, w64g, w64g1, wrapu_nv, nvw, nvw2, bin_page, place_Info_eq, place_Foot_eq, r07_Info_eq, r07_Foot_eq, place_Bin_eq, r07_Bin_eq, info_Put_val, r09_Value_eq, bin_Of, r14_Of, infoG1, infoG2, infoG3, rinfoG1, rinfoG2, rinfoG3, gt_iff_lt, bin_Find, r14_Find, bin_Drop, r14_Drop, bin_Add, r14_Add, sp_used, spFree_eq, sp_count, nvadd, nvsub, nvwi0, nvaddw, nvnegw, Int.zero_sub, get_fb, get_fb1, dge1, dneg, ge_iff_le, bne, Bool.not_eq_true', Bool.not_eq_false', reduceCtorEq] at *
  all_goals
    skip
  all_goals
    simp only [span_Take, qUsed, pCount, qJoin, wI, nvadd, nvsub, nvaddw, nvnegw, qTake, Pg.run_get, Pg.run_put, Pg.run_ret, Pg.run_bind, Pg.run_cond, gt_iff_lt, cond_true, cond_false, *]
  all_goals
    try rfl
theorem span_Take_ok : EntryOk Dg Tryz.prog 127 e_span_Take :=
  ent_wp Dg T_sp_ahead_ok (I := [2999998]) Tryz.func127 mix (B := bodyOf Tryz.f127) (by kernel_rfl) rfl (by kernel_rfl) 400
    fun p0 s t p h n hb hp => have hp0 : p ≤ 1024 := hp _ (.head _); ⟨[], fun j => List.getD [] j (fun _ => False), fun j => List.getD [] j (fun _ => (0, 0, 0)), by kernel_rfl, ⟨span_Take_w s t p h n  (fun r__ => r__ = (span_Take s t p h n)), fun _ _ _ => by kernel_rfl, span_Take_begin s t p h n hp0 ⟩, trivial⟩
def T_span_Take : List (Nat × Entry Sg) := (127, e_span_Take) :: T_sp_ahead
theorem T_span_Take_ok : TableOk Dg Tryz.prog T_span_Take := TableOk.cons Dg span_Take_ok T_sp_ahead_ok
def span_Release (s : VS) (t : Int) (p : Int) (h : Int) (g : Int) (n : Int) : VS := ((qRelease ⟨t, p, h⟩ g n).run s).1
abbrev c_span_Release : Ct Sg := ⟨some wView, false, [.agg [.i .i64, .i .i64, .i .i64], .i .i64, .i .i64], .skip⟩
def e_span_Release : Entry Sg := entC c_span_Release span_Release (fun s t p h g n => [p ≤ 1024, 0 ≤ g])
def span_Release_w (s : VS) (t : Int) (p : Int) (h : Int) (g : Int) (n : Int) (R_ : VS → Prop) : Prop := (∀ r3 : VS × Int, r3 = (sp_ahead s t p h g) → (((decide (Prod.snd r3 ≥ (0 : Int))) = true → (∀ r5 : VS × Int, r5 = (sp_free (Prod.fst r3) t p h (Prod.snd r3)) → (((decide (Prod.snd r5 > (0 : Int))) = true → (∀ r7 : VS × Int, r7 = ((VS.set (VS.set (Prod.fst (bin_Drop (Prod.fst r5) t p h (Prod.snd r3))) (place_Info t p h g) (0 : Int)) (place_Foot t p h (IntKind.wrap IntKind.i64 (g - (1 : Int)))) (0 : Int), Prod.snd (bin_Drop (Prod.fst r5) t p h (Prod.snd r3)))) → (((decide (IntKind.wrap IntKind.i64 (g + n) < p)) = true → (∀ r9 : VS × Int, r9 = (sp_free (Prod.fst r7) t p h (IntKind.wrap IntKind.i64 (g + n))) → (((decide (Prod.snd r9 > (0 : Int))) = true → (∀ r11 : VS × Int, r11 = ((VS.set (VS.set (Prod.fst (bin_Drop (Prod.fst r9) t p h (IntKind.wrap IntKind.i64 (g + n)))) (place_Info t p h (IntKind.wrap IntKind.i64 (g + n))) (0 : Int)) (place_Foot t p h (IntKind.wrap IntKind.i64 (IntKind.wrap IntKind.i64 (g + n) - (1 : Int)))) (0 : Int), Prod.snd (bin_Drop (Prod.fst r9) t p h (IntKind.wrap IntKind.i64 (g + n))))) → (∀ r12 : VS, r12 = (bin_Add (Prod.fst r11) t p h (Prod.snd r3) (IntKind.wrap IntKind.i64 (IntKind.wrap IntKind.i64 (n + Prod.snd r7) + Prod.snd r11))) → ((p ≤ (1024 : Int)) ∧ ((p ≤ (1024 : Int)) → (∀ r14 : VS, r14 = (sp_count r12 t p h n) → (R_ (r14)))))))) ∧ ((decide (Prod.snd r9 > (0 : Int))) = false → (∀ r11 : VS, r11 = (bin_Add (Prod.fst r9) t p h (Prod.snd r3) (IntKind.wrap IntKind.i64 (n + Prod.snd r7))) → ((p ≤ (1024 : Int)) ∧ ((p ≤ (1024 : Int)) → (∀ r13 : VS, r13 = (sp_count r11 t p h n) → (R_ (r13)))))))))) ∧ ((decide (IntKind.wrap IntKind.i64 (g + n) < p)) = false → (∀ r9 : VS, r9 = (bin_Add (Prod.fst r7) t p h (Prod.snd r3) (IntKind.wrap IntKind.i64 (n + Prod.snd r7))) → ((p ≤ (1024 : Int)) ∧ ((p ≤ (1024 : Int)) → (∀ r11 : VS, r11 = (sp_count r9 t p h n) → (R_ (r11)))))))))) ∧ ((decide (Prod.snd r5 > (0 : Int))) = false → (((decide (IntKind.wrap IntKind.i64 (g + n) < p)) = true → (∀ r8 : VS × Int, r8 = (sp_free (Prod.fst r5) t p h (IntKind.wrap IntKind.i64 (g + n))) → (((decide (Prod.snd r8 > (0 : Int))) = true → (∀ r10 : VS × Int, r10 = ((VS.set (VS.set (Prod.fst (bin_Drop (Prod.fst r8) t p h (IntKind.wrap IntKind.i64 (g + n)))) (place_Info t p h (IntKind.wrap IntKind.i64 (g + n))) (0 : Int)) (place_Foot t p h (IntKind.wrap IntKind.i64 (IntKind.wrap IntKind.i64 (g + n) - (1 : Int)))) (0 : Int), Prod.snd (bin_Drop (Prod.fst r8) t p h (IntKind.wrap IntKind.i64 (g + n))))) → (∀ r11 : VS, r11 = (bin_Add (Prod.fst r10) t p h g (IntKind.wrap IntKind.i64 (n + Prod.snd r10))) → ((p ≤ (1024 : Int)) ∧ ((p ≤ (1024 : Int)) → (∀ r13 : VS, r13 = (sp_count r11 t p h n) → (R_ (r13)))))))) ∧ ((decide (Prod.snd r8 > (0 : Int))) = false → (∀ r10 : VS, r10 = (bin_Add (Prod.fst r8) t p h g n) → ((p ≤ (1024 : Int)) ∧ ((p ≤ (1024 : Int)) → (∀ r12 : VS, r12 = (sp_count r10 t p h n) → (R_ (r12)))))))))) ∧ ((decide (IntKind.wrap IntKind.i64 (g + n) < p)) = false → (∀ r8 : VS, r8 = (bin_Add (Prod.fst r5) t p h g n) → ((p ≤ (1024 : Int)) ∧ ((p ≤ (1024 : Int)) → (∀ r10 : VS, r10 = (sp_count r8 t p h n) → (R_ (r10)))))))))))) ∧ ((decide (Prod.snd r3 ≥ (0 : Int))) = false → (((decide (IntKind.wrap IntKind.i64 (g + n) < p)) = true → (∀ r6 : VS × Int, r6 = (sp_free (Prod.fst r3) t p h (IntKind.wrap IntKind.i64 (g + n))) → (((decide (Prod.snd r6 > (0 : Int))) = true → (∀ r8 : VS × Int, r8 = ((VS.set (VS.set (Prod.fst (bin_Drop (Prod.fst r6) t p h (IntKind.wrap IntKind.i64 (g + n)))) (place_Info t p h (IntKind.wrap IntKind.i64 (g + n))) (0 : Int)) (place_Foot t p h (IntKind.wrap IntKind.i64 (IntKind.wrap IntKind.i64 (g + n) - (1 : Int)))) (0 : Int), Prod.snd (bin_Drop (Prod.fst r6) t p h (IntKind.wrap IntKind.i64 (g + n))))) → (∀ r9 : VS, r9 = (bin_Add (Prod.fst r8) t p h g (IntKind.wrap IntKind.i64 (n + Prod.snd r8))) → ((p ≤ (1024 : Int)) ∧ ((p ≤ (1024 : Int)) → (∀ r11 : VS, r11 = (sp_count r9 t p h n) → (R_ (r11)))))))) ∧ ((decide (Prod.snd r6 > (0 : Int))) = false → (∀ r8 : VS, r8 = (bin_Add (Prod.fst r6) t p h g n) → ((p ≤ (1024 : Int)) ∧ ((p ≤ (1024 : Int)) → (∀ r10 : VS, r10 = (sp_count r8 t p h n) → (R_ (r10)))))))))) ∧ ((decide (IntKind.wrap IntKind.i64 (g + n) < p)) = false → (∀ r6 : VS, r6 = (bin_Add (Prod.fst r3) t p h g n) → ((p ≤ (1024 : Int)) ∧ ((p ≤ (1024 : Int)) → (∀ r8 : VS, r8 = (sp_count r6 t p h n) → (R_ (r8)))))))))))
theorem span_Release_begin (s : VS) (t : Int) (p : Int) (h : Int) (g : Int) (n : Int) (hp0 : p ≤ 1024) (hp1 : 0 ≤ g) : span_Release_w s t p h g n  (fun r__ => r__ = (span_Release s t p h g n)) := by
  unfold span_Release_w
  have hz : decide (1 ≤ s.get (Cf.foot ⟨t, p, h⟩ (IntKind.wrap IntKind.i64 (g - 1)))) = false → ∀ s' : VS, (pFree ⟨t, p, h⟩ (s.get (Cf.foot ⟨t, p, h⟩ (IntKind.wrap IntKind.i64 (g - 1))) - 1)).run s' = (s', 0) := fun hf s' => by
    have hb := VS.get_bd s (Cf.foot ⟨t, p, h⟩ (IntKind.wrap IntKind.i64 (g - 1)))
    simp only [decide_eq_false_iff_not] at hf
    rw [show s.get (Cf.foot ⟨t, p, h⟩ (IntKind.wrap IntKind.i64 (g - 1))) - 1 = -1 by omega]
    have e : Cf.info ⟨t, p, h⟩ (-1) = -1 := by
      unfold Cf.info Cf.pc Cf.page
      simp
    rw [pFreeR, e, (get_out1 s' (by decide)).1, (get_out1 s' (by decide)).2]
    rfl
  unfold sp_ahead
  cases hg0 : g == 0
  all_goals simp only [cond_true, cond_false]
  repeat' first
    | (refine fun r hr => ?_; subst hr)
    | refine ⟨(by first | exact wu32_bd _ | exact VS.get_bd _ _ | exact zero_bd | exact iVal_bd _ _ _ | exact nv_bd _ | (rw [info_Put_val]; exact iVal_bd _ _ _) | (rw [r09_Value_eq]; exact iVal_bd _ _ _) | assumption | omega), fun _ => ?_⟩
    | refine ⟨fun hc => ?_, fun hc => ?_⟩
    | (refine fun hr => ?_; subst hr)
    | fail
  all_goals
    simp only [link_page_eq, page_ne t p h, link_next, link_prev, place_Next_eq, place_Prev_eq, r07_Next_eq, r07_Prev_eq, link_to, w64g, w64g1, wrapu_nv, nvw, nvw2, bin_page, place_Info_eq, place_Foot_eq, r07_Info_eq, r07_Foot_eq, place_Bin_eq, r07_Bin_eq, info_Put_val, r09_Value_eq, bin_Of, r14_Of, infoG1, infoG2, infoG3, rinfoG1, rinfoG2, rinfoG3, gt_iff_lt, bin_Find, r14_Find, bin_Drop, r14_Drop, bin_Add, r14_Add, sp_used, spFree_eq, sp_count, nvadd, nvsub, nvwi0, nvaddw, nvnegw, Int.zero_sub, get_fb, get_fb1, dge1, dneg, ge_iff_le, bne, Bool.not_eq_true', Bool.not_eq_false', reduceCtorEq] at *
  all_goals
    skip
  all_goals
    simp only [span_Release, qUsed, pCount, qJoin, wI, nvadd, nvsub, nvaddw, nvnegw, qRelease, qAhead, qNext, dz0, Pg.run_get, Pg.run_put, Pg.run_ret, Pg.run_bind, Pg.run_cond, gt_iff_lt, cond_true, cond_false, *]
  all_goals
    try rfl
theorem span_Release_ok : EntryOk Dg Tryz.prog 89 e_span_Release :=
  ent_wp Dg T_span_Take_ok (I := [2999998]) Tryz.func89 mix (B := bodyOf Tryz.f89) (by kernel_rfl) rfl (by kernel_rfl) 400
    fun p0 s t p h g n hb hp => have hp0 : p ≤ 1024 := hp _ (.head _); have hp1 : 0 ≤ g := hp _ (.tail _ (.head _)); ⟨[], fun j => List.getD [] j (fun _ => False), fun j => List.getD [] j (fun _ => (0, 0, 0)), by kernel_rfl, ⟨span_Release_w s t p h g n  (fun r__ => r__ = (span_Release s t p h g n)), fun _ _ _ => by kernel_rfl, span_Release_begin s t p h g n hp0 hp1 ⟩, trivial⟩
def T_span_Release : List (Nat × Entry Sg) := (89, e_span_Release) :: T_span_Take
theorem T_span_Release_ok : TableOk Dg Tryz.prog T_span_Release := TableOk.cons Dg span_Release_ok T_span_Take_ok
def r15_Take (s : VS) (t : Int) (p : Int) (h : Int) (n : Int) : VS × Int × Bool := (qTake ⟨t, p, h⟩ n).run s
abbrev c_r15_Take : Ct Sg := ⟨some wRef, false, [.agg [.i .i64, .i .i64, .i .i64], .i .i64], .tup [.i .i64, .b]⟩
def e_r15_Take : Entry Sg := entC c_r15_Take r15_Take (fun s t p h n => [p ≤ 1024])
def r15_Take_w (s : VS) (t : Int) (p : Int) (h : Int) (n : Int) (R_ : VS × Int × Bool → Prop) : Prop := (∀ r1 : VS × Int × Bool, r1 = (r14_Find s t p h n) → ((p ≤ (9223372036854775807 : Int)) ∧ ((p ≤ (9223372036854775807 : Int)) → (((!Prod.snd (Prod.snd r1)) = true → (R_ ((Prod.fst r1, (0 : Int), false)))) ∧ ((!Prod.snd (Prod.snd r1)) = false → (∀ r4 : VS × Int, r4 = (r14_Drop (Prod.fst r1) t p h (Prod.fst (Prod.snd r1))) → (∀ r5 : Int, r5 = (r07_Info t p h (Prod.fst (Prod.snd r1))) → (∀ r6 : Int, r6 = (r09_Value (2 : Int) n (0 : Int)) → (∀ r7 : VS, r7 = (VS.set (Prod.fst r4) r5 r6) → ((bd32 r6) ∧ ((bd32 r6) → (∀ r9 : Int, r9 = (r07_Foot t p h (IntKind.wrap IntKind.i64 (IntKind.wrap IntKind.i64 (Prod.fst (Prod.snd r1) + n) - (1 : Int)))) → (∀ r10 : VS, r10 = (VS.set r7 r9 (IntKind.wrap IntKind.u32 (IntKind.wrap IntKind.u32 (Prod.fst (Prod.snd r1)) + (1 : Int)))) → ((bd32 (IntKind.wrap IntKind.u32 (IntKind.wrap IntKind.u32 (Prod.fst (Prod.snd r1)) + (1 : Int)))) ∧ ((bd32 (IntKind.wrap IntKind.u32 (IntKind.wrap IntKind.u32 (Prod.fst (Prod.snd r1)) + (1 : Int)))) → (((decide (Prod.snd r4 > n)) = true → (∀ r13 : VS, r13 = (r14_Add r10 t p h (IntKind.wrap IntKind.i64 (Prod.fst (Prod.snd r1) + n)) (IntKind.wrap IntKind.i64 (Prod.snd r4 - n))) → ((p ≤ (1024 : Int)) ∧ ((p ≤ (1024 : Int)) → (∀ r15 : VS × Int, r15 = ((VS.read r13 (0 : Int), VS.get r13 (0 : Int))) → (∀ r16 : VS, r16 = (VS.set (Prod.fst r15) (0 : Int) (IntKind.wrap IntKind.u32 (Prod.snd r15 - IntKind.wrap IntKind.u32 n))) → ((bd32 (IntKind.wrap IntKind.u32 (Prod.snd r15 - IntKind.wrap IntKind.u32 n))) ∧ ((bd32 (IntKind.wrap IntKind.u32 (Prod.snd r15 - IntKind.wrap IntKind.u32 n))) → (R_ ((r16, Prod.fst (Prod.snd r1), true))))))))))) ∧ ((decide (Prod.snd r4 > n)) = false → (∀ r13 : VS × Int, r13 = ((VS.read r10 (0 : Int), VS.get r10 (0 : Int))) → (∀ r14 : VS, r14 = (VS.set (Prod.fst r13) (0 : Int) (IntKind.wrap IntKind.u32 (Prod.snd r13 - IntKind.wrap IntKind.u32 n))) → ((bd32 (IntKind.wrap IntKind.u32 (Prod.snd r13 - IntKind.wrap IntKind.u32 n))) ∧ ((bd32 (IntKind.wrap IntKind.u32 (Prod.snd r13 - IntKind.wrap IntKind.u32 n))) → (R_ ((r14, Prod.fst (Prod.snd r1), true))))))))))))))))))))))))
theorem r15_Take_begin (s : VS) (t : Int) (p : Int) (h : Int) (n : Int) (hp0 : p ≤ 1024) : r15_Take_w s t p h n  (fun r__ => r__ = (r15_Take s t p h n)) := by
  unfold r15_Take_w
  repeat' first
    | (refine fun r hr => ?_; subst hr)
    | refine ⟨(by first | exact wu32_bd _ | exact VS.get_bd _ _ | exact zero_bd | exact iVal_bd _ _ _ | exact nv_bd _ | (rw [info_Put_val]; exact iVal_bd _ _ _) | (rw [r09_Value_eq]; exact iVal_bd _ _ _) | assumption | omega), fun _ => ?_⟩
    | refine ⟨fun hc => ?_, fun hc => ?_⟩
    | (refine fun hr => ?_; subst hr)
    | fail
  all_goals
    simp only [link_page_eq, page_ne t p h, link_next, link_prev, place_Next_eq, place_Prev_eq, r07_Next_eq, r07_Prev_eq, link_to, w64g, w64g1, wrapu_nv, nvw, nvw2, bin_page, place_Info_eq, place_Foot_eq, r07_Info_eq, r07_Foot_eq, place_Bin_eq, r07_Bin_eq, info_Put_val, r09_Value_eq, bin_Of, r14_Of, infoG1, infoG2, infoG3, rinfoG1, rinfoG2, rinfoG3, gt_iff_lt, bin_Find, r14_Find, bin_Drop, r14_Drop, bin_Add, r14_Add, sp_used, spFree_eq, sp_count, nvadd, nvsub, nvwi0, nvaddw, nvnegw, Int.zero_sub, get_fb, get_fb1, dge1, dneg, ge_iff_le, r14_Info, pInfo, Pg.run_get, Pg.run_ret, bne, Bool.not_eq_true', Bool.not_eq_false', reduceCtorEq] at *
  all_goals
    skip
  all_goals
    simp only [r15_Take, qUsed, pCount, qJoin, wI, nvadd, nvsub, nvaddw, nvnegw, ↓dposr, pFreeR, qTake, Pg.run_get, Pg.run_put, Pg.run_ret, Pg.run_bind, Pg.run_cond, gt_iff_lt, cond_true, cond_false, *]
  all_goals
    try rfl
theorem r15_Take_ok : EntryOk Dg Tryz.prog 66 e_r15_Take :=
  ent_wp Dg T_span_Release_ok (I := [2999998]) Tryz.func66 mix (B := bodyOf Tryz.f66) (by kernel_rfl) rfl (by kernel_rfl) 400
    fun p0 s t p h n hb hp => have hp0 : p ≤ 1024 := hp _ (.head _); ⟨[], fun j => List.getD [] j (fun _ => False), fun j => List.getD [] j (fun _ => (0, 0, 0)), by kernel_rfl, ⟨r15_Take_w s t p h n  (fun r__ => r__ = (r15_Take s t p h n)), fun _ _ _ => by kernel_rfl, r15_Take_begin s t p h n hp0 ⟩, trivial⟩
def T_r15_Take : List (Nat × Entry Sg) := (66, e_r15_Take) :: T_span_Release
theorem T_r15_Take_ok : TableOk Dg Tryz.prog T_r15_Take := TableOk.cons Dg r15_Take_ok T_span_Release_ok
def r15_Release (s : VS) (t : Int) (p : Int) (h : Int) (g : Int) (n : Int) : VS := ((qRelease ⟨t, p, h⟩ g n).run s).1
abbrev c_r15_Release : Ct Sg := ⟨some wRef, false, [.agg [.i .i64, .i .i64, .i .i64], .i .i64, .i .i64], .skip⟩
def e_r15_Release : Entry Sg := entC c_r15_Release r15_Release (fun s t p h g n => [p ≤ 1024, 0 ≤ g])
def r15_Release_w (s : VS) (t : Int) (p : Int) (h : Int) (g : Int) (n : Int) (R_ : VS → Prop) : Prop := (((decide (g > (0 : Int))) = true → (∀ r2 : Int, r2 = (r07_Foot t p h (IntKind.wrap IntKind.i64 (g - (1 : Int)))) → (∀ r3 : VS × Int, r3 = ((VS.read s r2, VS.get s r2)) → (∀ r4 : VS × Int × Int × Int, r4 = (r14_Info (Prod.fst r3) t p h (IntKind.wrap IntKind.i64 (IntKind.wrap IntKind.i64 (Prod.snd r3) - (1 : Int)))) → (((Prod.fst (Prod.snd r4) == (1 : Int)) = true → (∀ r7 : VS × Int, r7 = (r14_Drop (Prod.fst r4) t p h (IntKind.wrap IntKind.i64 (IntKind.wrap IntKind.i64 (Prod.snd r3) - (1 : Int)))) → (∀ r8 : Int, r8 = (r07_Info t p h g) → (∀ r9 : VS, r9 = (VS.set (Prod.fst r7) r8 (0 : Int)) → ((bd32 (0 : Int)) ∧ ((bd32 (0 : Int)) → (∀ r11 : Int, r11 = (r07_Foot t p h (IntKind.wrap IntKind.i64 (g - (1 : Int)))) → (∀ r12 : VS, r12 = (VS.set r9 r11 (0 : Int)) → ((bd32 (0 : Int)) ∧ ((bd32 (0 : Int)) → (((decide (IntKind.wrap IntKind.i64 (g + n) < p)) = true → (∀ r15 : VS × Int × Int × Int, r15 = (r14_Info r12 t p h (IntKind.wrap IntKind.i64 (g + n))) → (((Prod.fst (Prod.snd r15) == (1 : Int)) = true → (∀ r18 : VS × Int, r18 = (r14_Drop (Prod.fst r15) t p h (IntKind.wrap IntKind.i64 (g + n))) → (∀ r19 : Int, r19 = (r07_Info t p h (IntKind.wrap IntKind.i64 (g + n))) → (∀ r20 : VS, r20 = (VS.set (Prod.fst r18) r19 (0 : Int)) → ((bd32 (0 : Int)) ∧ ((bd32 (0 : Int)) → (∀ r22 : Int, r22 = (r07_Foot t p h (IntKind.wrap IntKind.i64 (IntKind.wrap IntKind.i64 (g + n) - (1 : Int)))) → (∀ r23 : VS, r23 = (VS.set r20 r22 (0 : Int)) → ((bd32 (0 : Int)) ∧ ((bd32 (0 : Int)) → (∀ r25 : VS, r25 = (r14_Add r23 t p h (IntKind.wrap IntKind.i64 (IntKind.wrap IntKind.i64 (Prod.snd r3) - (1 : Int))) (IntKind.wrap IntKind.i64 (IntKind.wrap IntKind.i64 (n + Prod.snd r7) + Prod.snd r18))) → ((p ≤ (1024 : Int)) ∧ ((p ≤ (1024 : Int)) → (∀ r27 : VS × Int, r27 = ((VS.read r25 (0 : Int), VS.get r25 (0 : Int))) → (∀ r28 : VS, r28 = (VS.set (Prod.fst r27) (0 : Int) (IntKind.wrap IntKind.u32 (Prod.snd r27 + IntKind.wrap IntKind.u32 n))) → ((bd32 (IntKind.wrap IntKind.u32 (Prod.snd r27 + IntKind.wrap IntKind.u32 n))) ∧ ((bd32 (IntKind.wrap IntKind.u32 (Prod.snd r27 + IntKind.wrap IntKind.u32 n))) → (R_ (r28))))))))))))))))))) ∧ ((Prod.fst (Prod.snd r15) == (1 : Int)) = false → (∀ r18 : VS, r18 = (r14_Add (Prod.fst r15) t p h (IntKind.wrap IntKind.i64 (IntKind.wrap IntKind.i64 (Prod.snd r3) - (1 : Int))) (IntKind.wrap IntKind.i64 (n + Prod.snd r7))) → ((p ≤ (1024 : Int)) ∧ ((p ≤ (1024 : Int)) → (∀ r20 : VS × Int, r20 = ((VS.read r18 (0 : Int), VS.get r18 (0 : Int))) → (∀ r21 : VS, r21 = (VS.set (Prod.fst r20) (0 : Int) (IntKind.wrap IntKind.u32 (Prod.snd r20 + IntKind.wrap IntKind.u32 n))) → ((bd32 (IntKind.wrap IntKind.u32 (Prod.snd r20 + IntKind.wrap IntKind.u32 n))) ∧ ((bd32 (IntKind.wrap IntKind.u32 (Prod.snd r20 + IntKind.wrap IntKind.u32 n))) → (R_ (r21))))))))))))) ∧ ((decide (IntKind.wrap IntKind.i64 (g + n) < p)) = false → (∀ r15 : VS, r15 = (r14_Add r12 t p h (IntKind.wrap IntKind.i64 (IntKind.wrap IntKind.i64 (Prod.snd r3) - (1 : Int))) (IntKind.wrap IntKind.i64 (n + Prod.snd r7))) → ((p ≤ (1024 : Int)) ∧ ((p ≤ (1024 : Int)) → (∀ r17 : VS × Int, r17 = ((VS.read r15 (0 : Int), VS.get r15 (0 : Int))) → (∀ r18 : VS, r18 = (VS.set (Prod.fst r17) (0 : Int) (IntKind.wrap IntKind.u32 (Prod.snd r17 + IntKind.wrap IntKind.u32 n))) → ((bd32 (IntKind.wrap IntKind.u32 (Prod.snd r17 + IntKind.wrap IntKind.u32 n))) ∧ ((bd32 (IntKind.wrap IntKind.u32 (Prod.snd r17 + IntKind.wrap IntKind.u32 n))) → (R_ (r18))))))))))))))))))))) ∧ ((Prod.fst (Prod.snd r4) == (1 : Int)) = false → (((decide (IntKind.wrap IntKind.i64 (g + n) < p)) = true → (∀ r8 : VS × Int × Int × Int, r8 = (r14_Info (Prod.fst r4) t p h (IntKind.wrap IntKind.i64 (g + n))) → (((Prod.fst (Prod.snd r8) == (1 : Int)) = true → (∀ r11 : VS × Int, r11 = (r14_Drop (Prod.fst r8) t p h (IntKind.wrap IntKind.i64 (g + n))) → (∀ r12 : Int, r12 = (r07_Info t p h (IntKind.wrap IntKind.i64 (g + n))) → (∀ r13 : VS, r13 = (VS.set (Prod.fst r11) r12 (0 : Int)) → ((bd32 (0 : Int)) ∧ ((bd32 (0 : Int)) → (∀ r15 : Int, r15 = (r07_Foot t p h (IntKind.wrap IntKind.i64 (IntKind.wrap IntKind.i64 (g + n) - (1 : Int)))) → (∀ r16 : VS, r16 = (VS.set r13 r15 (0 : Int)) → ((bd32 (0 : Int)) ∧ ((bd32 (0 : Int)) → (∀ r18 : VS, r18 = (r14_Add r16 t p h g (IntKind.wrap IntKind.i64 (n + Prod.snd r11))) → ((p ≤ (1024 : Int)) ∧ ((p ≤ (1024 : Int)) → (∀ r20 : VS × Int, r20 = ((VS.read r18 (0 : Int), VS.get r18 (0 : Int))) → (∀ r21 : VS, r21 = (VS.set (Prod.fst r20) (0 : Int) (IntKind.wrap IntKind.u32 (Prod.snd r20 + IntKind.wrap IntKind.u32 n))) → ((bd32 (IntKind.wrap IntKind.u32 (Prod.snd r20 + IntKind.wrap IntKind.u32 n))) ∧ ((bd32 (IntKind.wrap IntKind.u32 (Prod.snd r20 + IntKind.wrap IntKind.u32 n))) → (R_ (r21))))))))))))))))))) ∧ ((Prod.fst (Prod.snd r8) == (1 : Int)) = false → (∀ r11 : VS, r11 = (r14_Add (Prod.fst r8) t p h g n) → ((p ≤ (1024 : Int)) ∧ ((p ≤ (1024 : Int)) → (∀ r13 : VS × Int, r13 = ((VS.read r11 (0 : Int), VS.get r11 (0 : Int))) → (∀ r14 : VS, r14 = (VS.set (Prod.fst r13) (0 : Int) (IntKind.wrap IntKind.u32 (Prod.snd r13 + IntKind.wrap IntKind.u32 n))) → ((bd32 (IntKind.wrap IntKind.u32 (Prod.snd r13 + IntKind.wrap IntKind.u32 n))) ∧ ((bd32 (IntKind.wrap IntKind.u32 (Prod.snd r13 + IntKind.wrap IntKind.u32 n))) → (R_ (r14))))))))))))) ∧ ((decide (IntKind.wrap IntKind.i64 (g + n) < p)) = false → (∀ r8 : VS, r8 = (r14_Add (Prod.fst r4) t p h g n) → ((p ≤ (1024 : Int)) ∧ ((p ≤ (1024 : Int)) → (∀ r10 : VS × Int, r10 = ((VS.read r8 (0 : Int), VS.get r8 (0 : Int))) → (∀ r11 : VS, r11 = (VS.set (Prod.fst r10) (0 : Int) (IntKind.wrap IntKind.u32 (Prod.snd r10 + IntKind.wrap IntKind.u32 n))) → ((bd32 (IntKind.wrap IntKind.u32 (Prod.snd r10 + IntKind.wrap IntKind.u32 n))) ∧ ((bd32 (IntKind.wrap IntKind.u32 (Prod.snd r10 + IntKind.wrap IntKind.u32 n))) → (R_ (r11))))))))))))))))) ∧ ((decide (g > (0 : Int))) = false → (((decide (IntKind.wrap IntKind.i64 (g + n) < p)) = true → (∀ r3 : VS × Int × Int × Int, r3 = (r14_Info s t p h (IntKind.wrap IntKind.i64 (g + n))) → (((Prod.fst (Prod.snd r3) == (1 : Int)) = true → (∀ r6 : VS × Int, r6 = (r14_Drop (Prod.fst r3) t p h (IntKind.wrap IntKind.i64 (g + n))) → (∀ r7 : Int, r7 = (r07_Info t p h (IntKind.wrap IntKind.i64 (g + n))) → (∀ r8 : VS, r8 = (VS.set (Prod.fst r6) r7 (0 : Int)) → ((bd32 (0 : Int)) ∧ ((bd32 (0 : Int)) → (∀ r10 : Int, r10 = (r07_Foot t p h (IntKind.wrap IntKind.i64 (IntKind.wrap IntKind.i64 (g + n) - (1 : Int)))) → (∀ r11 : VS, r11 = (VS.set r8 r10 (0 : Int)) → ((bd32 (0 : Int)) ∧ ((bd32 (0 : Int)) → (∀ r13 : VS, r13 = (r14_Add r11 t p h g (IntKind.wrap IntKind.i64 (n + Prod.snd r6))) → ((p ≤ (1024 : Int)) ∧ ((p ≤ (1024 : Int)) → (∀ r15 : VS × Int, r15 = ((VS.read r13 (0 : Int), VS.get r13 (0 : Int))) → (∀ r16 : VS, r16 = (VS.set (Prod.fst r15) (0 : Int) (IntKind.wrap IntKind.u32 (Prod.snd r15 + IntKind.wrap IntKind.u32 n))) → ((bd32 (IntKind.wrap IntKind.u32 (Prod.snd r15 + IntKind.wrap IntKind.u32 n))) ∧ ((bd32 (IntKind.wrap IntKind.u32 (Prod.snd r15 + IntKind.wrap IntKind.u32 n))) → (R_ (r16))))))))))))))))))) ∧ ((Prod.fst (Prod.snd r3) == (1 : Int)) = false → (∀ r6 : VS, r6 = (r14_Add (Prod.fst r3) t p h g n) → ((p ≤ (1024 : Int)) ∧ ((p ≤ (1024 : Int)) → (∀ r8 : VS × Int, r8 = ((VS.read r6 (0 : Int), VS.get r6 (0 : Int))) → (∀ r9 : VS, r9 = (VS.set (Prod.fst r8) (0 : Int) (IntKind.wrap IntKind.u32 (Prod.snd r8 + IntKind.wrap IntKind.u32 n))) → ((bd32 (IntKind.wrap IntKind.u32 (Prod.snd r8 + IntKind.wrap IntKind.u32 n))) ∧ ((bd32 (IntKind.wrap IntKind.u32 (Prod.snd r8 + IntKind.wrap IntKind.u32 n))) → (R_ (r9))))))))))))) ∧ ((decide (IntKind.wrap IntKind.i64 (g + n) < p)) = false → (∀ r3 : VS, r3 = (r14_Add s t p h g n) → ((p ≤ (1024 : Int)) ∧ ((p ≤ (1024 : Int)) → (∀ r5 : VS × Int, r5 = ((VS.read r3 (0 : Int), VS.get r3 (0 : Int))) → (∀ r6 : VS, r6 = (VS.set (Prod.fst r5) (0 : Int) (IntKind.wrap IntKind.u32 (Prod.snd r5 + IntKind.wrap IntKind.u32 n))) → ((bd32 (IntKind.wrap IntKind.u32 (Prod.snd r5 + IntKind.wrap IntKind.u32 n))) ∧ ((bd32 (IntKind.wrap IntKind.u32 (Prod.snd r5 + IntKind.wrap IntKind.u32 n))) → (R_ (r6)))))))))))))
theorem r15_Release_begin (s : VS) (t : Int) (p : Int) (h : Int) (g : Int) (n : Int) (hp0 : p ≤ 1024) (hp1 : 0 ≤ g) : r15_Release_w s t p h g n  (fun r__ => r__ = (r15_Release s t p h g n)) := by
  unfold r15_Release_w
  have hg1 : (g == 0) = !decide (0 < g) := by
    apply Bool.eq_iff_iff.2
    simp only [beq_iff_eq, Bool.not_eq_true', decide_eq_false_iff_not]; omega
  repeat' first
    | (refine fun r hr => ?_; subst hr)
    | refine ⟨(by first | exact wu32_bd _ | exact VS.get_bd _ _ | exact zero_bd | exact iVal_bd _ _ _ | exact nv_bd _ | (rw [info_Put_val]; exact iVal_bd _ _ _) | (rw [r09_Value_eq]; exact iVal_bd _ _ _) | assumption | omega), fun _ => ?_⟩
    | refine ⟨fun hc => ?_, fun hc => ?_⟩
    | (refine fun hr => ?_; subst hr)
    | fail
  all_goals
    simp only [link_page_eq, page_ne t p h, link_next, link_prev, place_Next_eq, place_Prev_eq, r07_Next_eq, r07_Prev_eq, link_to, w64g, w64g1, wrapu_nv, nvw, nvw2, bin_page, place_Info_eq, place_Foot_eq, r07_Info_eq, r07_Foot_eq, place_Bin_eq, r07_Bin_eq, info_Put_val, r09_Value_eq, bin_Of, r14_Of, infoG1, infoG2, infoG3, rinfoG1, rinfoG2, rinfoG3, gt_iff_lt, bin_Find, r14_Find, bin_Drop, r14_Drop, bin_Add, r14_Add, sp_used, spFree_eq, sp_count, nvadd, nvsub, nvwi0, nvaddw, nvnegw, Int.zero_sub, get_fb, get_fb1, dge1, dneg, ge_iff_le, r14_Info, pInfo, Pg.run_get, Pg.run_ret, bne, Bool.not_eq_true', Bool.not_eq_false', reduceCtorEq] at *
  all_goals
    skip
  all_goals
    simp only [r15_Release, qUsed, pCount, qJoin, wI, nvadd, nvsub, nvaddw, nvnegw, ↓dposr, pFreeR, qRelease, qAhead, qNext, hg1, Bool.not_true, Bool.not_false, Pg.run_get, Pg.run_put, Pg.run_ret, Pg.run_bind, Pg.run_cond, gt_iff_lt, cond_true, cond_false, *]
  all_goals
    try rfl
theorem r15_Release_ok : EntryOk Dg Tryz.prog 91 e_r15_Release :=
  ent_wp Dg T_r15_Take_ok (I := [2999998]) Tryz.func91 mix (B := bodyOf Tryz.f91) (by kernel_rfl) rfl (by kernel_rfl) 400
    fun p0 s t p h g n hb hp => have hp0 : p ≤ 1024 := hp _ (.head _); have hp1 : 0 ≤ g := hp _ (.tail _ (.head _)); ⟨[], fun j => List.getD [] j (fun _ => False), fun j => List.getD [] j (fun _ => (0, 0, 0)), by kernel_rfl, ⟨r15_Release_w s t p h g n  (fun r__ => r__ = (r15_Release s t p h g n)), fun _ _ _ => by kernel_rfl, r15_Release_begin s t p h g n hp0 hp1 ⟩, trivial⟩
def T_r15_Release : List (Nat × Entry Sg) := (91, e_r15_Release) :: T_r15_Take
theorem T_r15_Release_ok : TableOk Dg Tryz.prog T_r15_Release := TableOk.cons Dg r15_Release_ok T_r15_Take_ok
end Go.Proofs.YtnddjnnakkiidaaGreat
namespace Go.Proofs.YtnddjnnakkiidaaGreat
open Go.Sl
def SlSlab1_bytes0 : ByteArray := ⟨⟨[0, 1, 1, 2, 1, 2, 2, 3, 1, 2, 2, 3, 2, 3, 3, 4, 1, 2, 2, 3, 2, 3, 3, 4, 2, 3, 3, 4, 3, 4, 4, 5, 1, 2, 2, 3, 2, 3, 3, 4, 2, 3, 3, 4, 3, 4, 4, 5, 2, 3, 3, 4, 3, 4, 4, 5, 3, 4, 4, 5, 4, 5, 5, 6, 1, 2, 2, 3, 2, 3, 3, 4, 2, 3, 3, 4, 3, 4, 4, 5, 2, 3, 3, 4, 3, 4, 4, 5, 3, 4, 4, 5, 4, 5, 5, 6, 2, 3, 3, 4, 3, 4, 4, 5, 3, 4, 4, 5, 4, 5, 5, 6, 3, 4, 4, 5, 4, 5, 5, 6, 4, 5, 5, 6, 5, 6, 6, 7, 1, 2, 2, 3, 2, 3, 3, 4, 2, 3, 3, 4, 3, 4, 4, 5, 2, 3, 3, 4, 3, 4, 4, 5, 3, 4, 4, 5, 4, 5, 5, 6, 2, 3, 3, 4, 3, 4, 4, 5, 3, 4, 4, 5, 4, 5, 5, 6, 3, 4, 4, 5, 4, 5, 5, 6, 4, 5, 5, 6, 5, 6, 6, 7, 2, 3, 3, 4, 3, 4, 4, 5, 3, 4, 4, 5, 4, 5, 5, 6, 3, 4, 4, 5, 4, 5, 5, 6, 4, 5, 5, 6, 5, 6, 6, 7, 3, 4, 4, 5, 4, 5, 5, 6, 4, 5, 5, 6, 5, 6, 6, 7, 4, 5, 5, 6, 5, 6, 6, 7, 5, 6, 6, 7, 6, 7, 7, 8]⟩⟩
def r16_Bit (b : Int) : Int := IntKind.wrap IntKind.u32 ((1 : Int) * (2 : Int) ^ min (Int.toNat (IntKind.wrap IntKind.u64 b)) (32 : Nat))
abbrev c_r16_Bit : Ct Sg := ⟨none, false, [.i .i64], .i .u32⟩
def e_r16_Bit : Entry Sg := entC c_r16_Bit r16_Bit (fun _ => [])
theorem r16_Bit_ok : EntryOk Dg Tryz.prog 73 e_r16_Bit :=
  ent_ok Dg T_r15_Release_ok (I := []) Tryz.func73 mix (B := bodyOf Tryz.f73) (by kernel_rfl) rfl (by kernel_rfl) 400
    fun _ b hb hp => ⟨(r16_Bit b), (.need ((0 : Int) ≤ IntKind.wrap IntKind.u64 b) .t), fun _ _ _ => by kernel_rfl, ⟨(by rw [IntKind.wrap_u64]; exact Int.emod_nonneg _ (by decide)), fun z0 => trivial⟩, rfl⟩
def T_r16_Bit : List (Nat × Entry Sg) := (73, e_r16_Bit) :: T_r15_Release
theorem T_r16_Bit_ok : TableOk Dg Tryz.prog T_r16_Bit := TableOk.cons Dg r16_Bit_ok T_r15_Release_ok
def place_Rack (k : Int) : Int := place_within (13 : Int) k (9 : Int)
abbrev c_place_Rack : Ct Sg := ⟨none, false, [.i .i64], .i .i64⟩
def e_place_Rack : Entry Sg := entC c_place_Rack place_Rack (fun _ => [])
theorem place_Rack_ok : EntryOk Dg Tryz.prog 63 e_place_Rack :=
  ent_ok Dg T_r16_Bit_ok (I := []) Tryz.func63 mix (B := bodyOf Tryz.f63) (by kernel_rfl) rfl (by kernel_rfl) 400
    fun _ k hb hp => ⟨(place_Rack k), .t, fun _ _ _ => by kernel_rfl, trivial, rfl⟩
def T_place_Rack : List (Nat × Entry Sg) := (63, e_place_Rack) :: T_r16_Bit
theorem T_place_Rack_ok : TableOk Dg Tryz.prog T_place_Rack := TableOk.cons Dg place_Rack_ok T_r16_Bit_ok
def place_Taken (t : Int) (p : Int) (s : Int) (pg : Int) : Int := place_of t p s pg (5 : Int)
abbrev c_place_Taken : Ct Sg := ⟨none, false, [.agg [.i .i64, .i .i64, .i .i64], .i .i64], .i .i64⟩
def e_place_Taken : Entry Sg := entC c_place_Taken place_Taken (fun _ _ _ _ => [])
theorem place_Taken_ok : EntryOk Dg Tryz.prog 56 e_place_Taken :=
  ent_ok Dg T_place_Rack_ok (I := []) Tryz.func56 mix (B := bodyOf Tryz.f56) (by kernel_rfl) rfl (by kernel_rfl) 400
    fun _ t p s pg hb hp => ⟨(place_Taken t p s pg), .t, fun _ _ _ => by kernel_rfl, trivial, rfl⟩
def T_place_Taken : List (Nat × Entry Sg) := (56, e_place_Taken) :: T_place_Rack
theorem T_place_Taken_ok : TableOk Dg Tryz.prog T_place_Taken := TableOk.cons Dg place_Taken_ok T_place_Rack_ok
def place_Slots (t : Int) (p : Int) (s : Int) (pg : Int) : Int := place_of t p s pg (4 : Int)
abbrev c_place_Slots : Ct Sg := ⟨none, false, [.agg [.i .i64, .i .i64, .i .i64], .i .i64], .i .i64⟩
def e_place_Slots : Entry Sg := entC c_place_Slots place_Slots (fun _ _ _ _ => [])
theorem place_Slots_ok : EntryOk Dg Tryz.prog 198 e_place_Slots :=
  ent_ok Dg T_place_Taken_ok (I := []) Tryz.func198 mix (B := bodyOf Tryz.f198) (by kernel_rfl) rfl (by kernel_rfl) 400
    fun _ t p s pg hb hp => ⟨(place_Slots t p s pg), .t, fun _ _ _ => by kernel_rfl, trivial, rfl⟩
def T_place_Slots : List (Nat × Entry Sg) := (198, e_place_Slots) :: T_place_Taken
theorem T_place_Slots_ok : TableOk Dg Tryz.prog T_place_Slots := TableOk.cons Dg place_Slots_ok T_place_Taken_ok
def class_slots : Int × Int × Int × Int × Int × Int × Int × Int × Int := ((32 : Int), (21 : Int), (16 : Int), (10 : Int), (8 : Int), (5 : Int), (4 : Int), (3 : Int), (2 : Int))
abbrev c_class_slots : Ct Sg := ⟨none, false, [], .agg [.i .i64, .i .i64, .i .i64, .i .i64, .i .i64, .i .i64, .i .i64, .i .i64, .i .i64]⟩
def e_class_slots : Entry Sg := entC c_class_slots class_slots ([])
theorem class_slots_ok : EntryOk Dg Tryz.prog 130 e_class_slots :=
  ent_ok Dg T_place_Slots_ok (I := []) Tryz.func130 mix (B := bodyOf Tryz.f130) (by kernel_rfl) rfl (by kernel_rfl) 400
    fun _  hb hp => ⟨class_slots, .t, fun _ _ _ => by kernel_rfl, trivial, rfl⟩
def T_class_slots : List (Nat × Entry Sg) := (130, e_class_slots) :: T_place_Slots
theorem T_class_slots_ok : TableOk Dg Tryz.prog T_class_slots := TableOk.cons Dg class_slots_ok T_place_Slots_ok
abbrev c_class_Slots : Ct Sg := ⟨none, false, [.i .i64], .i .i64⟩
def e_class_Slots : Entry Sg := entC c_class_Slots kSlots (fun _ => [])
theorem ent_or {c : Ct Sg} {P : Program} {f : FuncId} {F : Cur c.AK (Ty c.RK)} {pre pre1 pre2 : Cur c.AK (List Prop)} (h1 : EntryOk Dg P f (entC c F pre1)) (h2 : EntryOk Dg P f (entC c F pre2))
    (h : ∀ cs, (∀ p ∈ appC c.AK pre cs, p) → (∀ p ∈ appC c.AK pre1 cs, p) ∨ (∀ p ∈ appC c.AK pre2 cs, p)) : EntryOk Dg P f (entC c F pre) := by
  intro args d r hd hr
  unfold entC at hd
  split at hd
  rotate_left
  · cases hd
  rename_i cs hcs
  injection hd with hd; subst hd; subst hr
  have e1 : entC c F pre1 args = some ⟨appC c.AK F cs, fun r => ⟨appC c.AK pre1 cs, newC c.rob (toCm c.RK r), c.mksC r, c.outC r, c.rs.outp⟩⟩ := by unfold entC; rw [hcs]
  have e2 : entC c F pre2 args = some ⟨appC c.AK F cs, fun r => ⟨appC c.AK pre2 cs, newC c.rob (toCm c.RK r), c.mksC r, c.outC r, c.rs.outp⟩⟩ := by unfold entC; rw [hcs]
  refine ⟨(h1 args _ _ e1 rfl).1, fun hp => ?_⟩
  rcases h cs hp with hp | hp
  · exact (h1 args _ _ e1 rfl).2 hp
  · exact (h2 args _ _ e2 rfl).2 hp
theorem class_Slots_ok1 : EntryOk Dg Tryz.prog 58 (entC c_class_Slots kSlots fun k => [¬ (0 ≤ k ∧ k < 9)]) :=
  ent_ok Dg T_class_slots_ok (I := []) Tryz.func58 mix (B := bodyOf Tryz.f58) (by kernel_rfl) rfl (by kernel_rfl) 26
    fun _ (k : Int) hb hp => by
  have h : ¬ (0 ≤ k ∧ k < 9) := hp _ (.head _)
  refine ⟨bif decide (k < 0) || decide (k ≥ 9) then (0 : Int) else (0 : Int), .br (decide (k < 0) || decide (k ≥ 9)) .t (.need (0 ≤ k ∧ k < 9) (.need False .t)), fun _ _ _ => by kernel_rfl, ⟨fun _ => trivial, fun hc => ?_⟩, ?_⟩
  · exfalso; simp at hc; omega
  · show _ = kSlots k
    have hk : kSlots k = 0 := by
      unfold kSlots
      by_cases h0 : 0 ≤ k
      · have e : decide (0 ≤ k) = true := by simpa using h0
        rw [e, cond_true, List.getD_eq_getElem?_getD, List.getElem?_eq_none (by simp; omega)]; rfl
      · have e : decide (0 ≤ k) = false := by simpa using h0
        rw [e]; rfl
    rw [hk]; cases decide (k < 0) || decide (k ≥ 9) <;> rfl
theorem class_Slots_ok2 : EntryOk Dg Tryz.prog 58 (entC c_class_Slots kSlots fun k => [0 ≤ k ∧ k < 9]) :=
  ent_ok Dg T_class_slots_ok (I := []) Tryz.func58 mix (B := bodyOf Tryz.f58) (by kernel_rfl) rfl (by kernel_rfl) 400
    fun _ (k : Int) hb hp => by
  have h : 0 ≤ k ∧ k < 9 := hp _ (.head _)
  have h' : k = 0 ∨ k = 1 ∨ k = 2 ∨ k = 3 ∨ k = 4 ∨ k = 5 ∨ k = 6 ∨ k = 7 ∨ k = 8 := by omega
  rcases h' with rfl | rfl | rfl | rfl | rfl | rfl | rfl | rfl | rfl
  · exact ⟨bif false then (0 : Int) else (32 : Int), .br false .t (.need ((0 : Int) ≤ (0 : Int) ∧ (0 : Int) < (9 : Int)) .t), fun _ _ _ => by kernel_rfl, ⟨fun _ => trivial, fun _ => ⟨by decide, fun _ => trivial⟩⟩, rfl⟩
  · exact ⟨bif false then (0 : Int) else (21 : Int), .br false .t (.need ((0 : Int) ≤ (1 : Int) ∧ (1 : Int) < (9 : Int)) .t), fun _ _ _ => by kernel_rfl, ⟨fun _ => trivial, fun _ => ⟨by decide, fun _ => trivial⟩⟩, rfl⟩
  · exact ⟨bif false then (0 : Int) else (16 : Int), .br false .t (.need ((0 : Int) ≤ (2 : Int) ∧ (2 : Int) < (9 : Int)) .t), fun _ _ _ => by kernel_rfl, ⟨fun _ => trivial, fun _ => ⟨by decide, fun _ => trivial⟩⟩, rfl⟩
  · exact ⟨bif false then (0 : Int) else (10 : Int), .br false .t (.need ((0 : Int) ≤ (3 : Int) ∧ (3 : Int) < (9 : Int)) .t), fun _ _ _ => by kernel_rfl, ⟨fun _ => trivial, fun _ => ⟨by decide, fun _ => trivial⟩⟩, rfl⟩
  · exact ⟨bif false then (0 : Int) else (8 : Int), .br false .t (.need ((0 : Int) ≤ (4 : Int) ∧ (4 : Int) < (9 : Int)) .t), fun _ _ _ => by kernel_rfl, ⟨fun _ => trivial, fun _ => ⟨by decide, fun _ => trivial⟩⟩, rfl⟩
  · exact ⟨bif false then (0 : Int) else (5 : Int), .br false .t (.need ((0 : Int) ≤ (5 : Int) ∧ (5 : Int) < (9 : Int)) .t), fun _ _ _ => by kernel_rfl, ⟨fun _ => trivial, fun _ => ⟨by decide, fun _ => trivial⟩⟩, rfl⟩
  · exact ⟨bif false then (0 : Int) else (4 : Int), .br false .t (.need ((0 : Int) ≤ (6 : Int) ∧ (6 : Int) < (9 : Int)) .t), fun _ _ _ => by kernel_rfl, ⟨fun _ => trivial, fun _ => ⟨by decide, fun _ => trivial⟩⟩, rfl⟩
  · exact ⟨bif false then (0 : Int) else (3 : Int), .br false .t (.need ((0 : Int) ≤ (7 : Int) ∧ (7 : Int) < (9 : Int)) .t), fun _ _ _ => by kernel_rfl, ⟨fun _ => trivial, fun _ => ⟨by decide, fun _ => trivial⟩⟩, rfl⟩
  · exact ⟨bif false then (0 : Int) else (2 : Int), .br false .t (.need ((0 : Int) ≤ (8 : Int) ∧ (8 : Int) < (9 : Int)) .t), fun _ _ _ => by kernel_rfl, ⟨fun _ => trivial, fun _ => ⟨by decide, fun _ => trivial⟩⟩, rfl⟩
theorem class_Slots_ok : EntryOk Dg Tryz.prog 58 e_class_Slots :=
  ent_or class_Slots_ok1 class_Slots_ok2 fun cs _ => by
  by_cases h : 0 ≤ (Kd.of .i (hdC cs) : Int) ∧ (Kd.of .i (hdC cs) : Int) < 9
  · exact .inr fun p hp => by
      rcases List.mem_singleton.1 hp with rfl
      exact h
  · exact .inl fun p hp => by
      rcases List.mem_singleton.1 hp with rfl
      exact h
def T_class_Slots : List (Nat × Entry Sg) := (58, e_class_Slots) :: T_class_slots
theorem T_class_Slots_ok : TableOk Dg Tryz.prog T_class_Slots := TableOk.cons Dg class_Slots_ok T_class_slots_ok
def u32ok (v : Int) : Prop := 0 ≤ v ∧ v < 4294967296
theorem and255 (z : Int) : 0 ≤ IntKind.u32.wrap ((BitVec.ofInt 32 z &&& BitVec.ofInt 32 255).toNat : Int) ∧ IntKind.u32.wrap ((BitVec.ofInt 32 z &&& BitVec.ofInt 32 255).toNat : Int) < ((256 : Nat) : Int) := by
  have h : (BitVec.ofInt 32 z &&& BitVec.ofInt 32 255).toNat < 256 := by
    rw [BitVec.toNat_and]
    exact Nat.lt_of_le_of_lt Nat.and_le_right (by decide)
  rw [IntKind.wrap_u32]; omega
theorem top8 {v : Int} (h0 : 0 ≤ v) (h1 : v < 4294967296) : 0 ≤ Int.fdiv v 16777216 ∧ Int.fdiv v 16777216 < ((256 : Nat) : Int) := by
  rw [Int.fdiv_eq_ediv_of_nonneg _ (by omega)]; omega
theorem frange_snoc (p : Nat → Bool) (n : Nat) : (List.range (n + 1)).filter p = (List.range n).filter p ++ (if p n = true then [n] else []) := by
  rw [List.range_succ, List.filter_append]
  by_cases h : p n = true
  · rw [if_pos h, List.filter_cons_of_pos h]; rfl
  · rw [if_neg h, List.filter_cons_of_neg h]; rfl
theorem frange_len (p : Nat → Bool) (n : Nat) : ((List.range n).filter p).length ≤ n := by
  have := List.length_filter_le p (List.range n)
  simpa using this
def frN (p : Nat → Bool) (n : Nat) : List Int := ((List.range n).filter p).map fun (i : Nat) => (i : Int)
def zeroAt (v : Int) (i : Nat) : Bool := IntKind.wrap IntKind.u32 ((BitVec.ofInt 32 (Int.fdiv v ((2 : Int) ^ min (Int.toNat (i : Int)) 32)) &&& BitVec.ofInt 32 1).toNat : Int) == 0
def orB (v s : Int) : Int := IntKind.wrap IntKind.u32 ((BitVec.ofInt 32 v ||| BitVec.ofInt 32 (IntKind.wrap IntKind.u32 (1 * (2 : Int) ^ min (Int.toNat s) 32))).toNat : Int)
abbrev nnL (xs : List Int) : Prop := ∀ s ∈ xs, (0 : Int) ≤ s
theorem take_snocB {xs : List Int} {k : Nat} (h : k < xs.length) : xs.take (k + 1) = xs.take k ++ [xs.getD k 0] := by
  rw [List.take_add_one, List.getD_eq_getElem?_getD, List.getElem?_eq_getElem h]; rfl
def bits_Ones (v : Int) : Int := IntKind.wrap IntKind.i64
  (IntKind.wrap IntKind.u8
    (IntKind.wrap IntKind.u8
        (IntKind.wrap IntKind.u8
            (sAt SlSlab1_bytes0 (Int.fdiv v (16777216 : Int)) +
              sAt SlSlab1_bytes0 (IntKind.wrap IntKind.u32 (↑(BitVec.toNat (BitVec.ofInt (32 : Nat) (Int.fdiv v (65536 : Int)) &&& BitVec.ofInt (32 : Nat) (255 : Int))) : Int))) +
          sAt SlSlab1_bytes0 (IntKind.wrap IntKind.u32 (↑(BitVec.toNat (BitVec.ofInt (32 : Nat) (Int.fdiv v (256 : Int)) &&& BitVec.ofInt (32 : Nat) (255 : Int))) : Int))) +
      sAt SlSlab1_bytes0 (IntKind.wrap IntKind.u32 (↑(BitVec.toNat (BitVec.ofInt (32 : Nat) v &&& BitVec.ofInt (32 : Nat) (255 : Int))) : Int))))
abbrev c_bits_Ones : Ct Sg := ⟨none, false, [.i .u32], .i .i64⟩
def e_bits_Ones : Entry Sg := entC c_bits_Ones bits_Ones (fun v => [u32ok v])
theorem bits_Ones_ok : EntryOk Dg Tryz.prog 182 e_bits_Ones :=
  ent_ok Dg T_class_Slots_ok (I := []) Tryz.func182 mix (B := bodyOf Tryz.f182) (by kernel_rfl) rfl (by kernel_rfl) 400
    fun _ v hb hp => have hp0 : u32ok v := hp _ (.head _); ⟨(bits_Ones v), (.need ((0 : Int) ≤ Int.fdiv v (16777216 : Int) ∧ Int.fdiv v (16777216 : Int) < (256 : Int)) (.need ((0 : Int) ≤ IntKind.wrap IntKind.u32 (↑(BitVec.toNat (BitVec.ofInt (32 : Nat) (Int.fdiv v (65536 : Int)) &&& BitVec.ofInt (32 : Nat) (255 : Int))) : Int) ∧ IntKind.wrap IntKind.u32 (↑(BitVec.toNat (BitVec.ofInt (32 : Nat) (Int.fdiv v (65536 : Int)) &&& BitVec.ofInt (32 : Nat) (255 : Int))) : Int) < (256 : Int)) (.need ((0 : Int) ≤ IntKind.wrap IntKind.u32 (↑(BitVec.toNat (BitVec.ofInt (32 : Nat) (Int.fdiv v (256 : Int)) &&& BitVec.ofInt (32 : Nat) (255 : Int))) : Int) ∧ IntKind.wrap IntKind.u32 (↑(BitVec.toNat (BitVec.ofInt (32 : Nat) (Int.fdiv v (256 : Int)) &&& BitVec.ofInt (32 : Nat) (255 : Int))) : Int) < (256 : Int)) (.need ((0 : Int) ≤ IntKind.wrap IntKind.u32 (↑(BitVec.toNat (BitVec.ofInt (32 : Nat) v &&& BitVec.ofInt (32 : Nat) (255 : Int))) : Int) ∧ IntKind.wrap IntKind.u32 (↑(BitVec.toNat (BitVec.ofInt (32 : Nat) v &&& BitVec.ofInt (32 : Nat) (255 : Int))) : Int) < (256 : Int)) .t)))), fun _ _ _ => by kernel_rfl, ⟨(by first | exact top8 hp0.1 hp0.2 | exact and255 _), fun z0 => ⟨(by first | exact top8 hp0.1 hp0.2 | exact and255 _), fun z1 => ⟨(by first | exact top8 hp0.1 hp0.2 | exact and255 _), fun z2 => ⟨(by first | exact top8 hp0.1 hp0.2 | exact and255 _), fun z3 => trivial⟩⟩⟩⟩, rfl⟩
def T_bits_Ones : List (Nat × Entry Sg) := (182, e_bits_Ones) :: T_class_Slots
theorem T_bits_Ones_ok : TableOk Dg Tryz.prog T_bits_Ones := TableOk.cons Dg bits_Ones_ok T_class_Slots_ok
def half_Ones (v : Int) : Int := bits_Ones v
abbrev c_half_Ones : Ct Sg := ⟨none, false, [.i .u32], .i .i64⟩
def e_half_Ones : Entry Sg := entC c_half_Ones half_Ones (fun v => [u32ok v])
theorem half_Ones_ok : EntryOk Dg Tryz.prog 131 e_half_Ones :=
  ent_ok Dg T_bits_Ones_ok (I := []) Tryz.func131 mix (B := bodyOf Tryz.f131) (by kernel_rfl) rfl (by kernel_rfl) 400
    fun _ v hb hp => have hp0 : u32ok v := hp _ (.head _); ⟨(half_Ones v), (.need (u32ok v) .t), fun _ _ _ => by kernel_rfl, ⟨(by exact hp0), fun z0 => trivial⟩, rfl⟩
def T_half_Ones : List (Nat × Entry Sg) := (131, e_half_Ones) :: T_bits_Ones
theorem T_half_Ones_ok : TableOk Dg Tryz.prog T_half_Ones := TableOk.cons Dg half_Ones_ok T_bits_Ones_ok
def half_Free (v : Int) (n : Int) : List Int := frN (zeroAt v) (min n.toNat 32)
abbrev c_half_Free : Ct Sg := ⟨none, false, [.i .u32, .i .i64], .new 3 [some .i64]⟩
def e_half_Free : Entry Sg := entC c_half_Free half_Free (fun _ _ => [])
def half_Free_w (v : Int) (n : Int) (Q0 : Int → Int → Nat → List Int → Prop) (R_ : List Int → Prop) : Prop := (Q0 ((0 : Int)) (if (32 : Int) < n then (32 : Int) else n) ((0 : Nat)) ([]))
def half_Free_w0 (v : Int) (n : Int) (i : Int) (m : Int) (no : Nat) (xs : List Int) (Q0 : Int → Int → Nat → List Int → Prop) (R_ : List Int → Prop) : Prop := (((decide (i < m)) = true → (((0 : Int) ≤ i) ∧ (((0 : Int) ≤ i) → (((IntKind.wrap IntKind.u32 (↑(BitVec.toNat (BitVec.ofInt (32 : Nat) (Int.fdiv v ((2 : Int) ^ min (Int.toNat i) (32 : Nat))) &&& BitVec.ofInt (32 : Nat) (1 : Int))) : Int) == (0 : Int)) = true → (((no + (1 : Nat)) * (8 : Nat) ≤ (140737488355328 : Nat)) ∧ (((no + (1 : Nat)) * (8 : Nat) ≤ (140737488355328 : Nat)) → (Q0 (IntKind.wrap IntKind.i64 (i + (1 : Int))) (m) (no + (1 : Nat)) (xs ++ [i]))))) ∧ ((IntKind.wrap IntKind.u32 (↑(BitVec.toNat (BitVec.ofInt (32 : Nat) (Int.fdiv v ((2 : Int) ^ min (Int.toNat i) (32 : Nat))) &&& BitVec.ofInt (32 : Nat) (1 : Int))) : Int) == (0 : Int)) = false → (Q0 (IntKind.wrap IntKind.i64 (i + (1 : Int))) (m) (no) (xs))))))) ∧ ((decide (i < m)) = false → (R_ (xs))))
def half_Free_I0 (v : Int) (n : Int) (i : Int) (m : Int) (no : Nat) (xs : List Int) (r_ : List Int) : Prop := 0 ≤ i ∧ (i ≤ m ∨ i = 0) ∧ m ≤ 32 ∧ m.toNat = min n.toNat 32 ∧ no = xs.length ∧ xs = frN (zeroAt v) i.toNat ∧ r_ = half_Free v n
theorem half_Free_begin (v : Int) (n : Int) : half_Free_w v n (fun i' m' no' xs' => half_Free_I0 v n i' m' no' xs' (half_Free v n)) (fun r__ => r__ = (half_Free v n)) := by
  unfold half_Free_w
  try unfold half_Free_I0
  exact ⟨by omega, .inr rfl, by split <;> omega, by split <;> omega, rfl, rfl, rfl⟩
theorem half_Free_step0 (v : Int) (n : Int) (i : Int) (m : Int) (no : Nat) (xs : List Int) {r_ : List Int} (hI : half_Free_I0 v n i m no xs r_) : half_Free_w0 v n i m no xs (fun i' m' no' xs' => half_Free_I0 v n i' m' no' xs' r_ ∧ lx ((m' - i').toNat, 0, 0) ((m - i).toNat, 0, 0)) (fun r__ => r__ = r_) := by
  unfold half_Free_I0 at hI
  unfold half_Free_w0
  try unfold half_Free_I0
  obtain ⟨h0, h1, hm, hn, h2, h3, hr⟩ := hI
  refine ⟨fun h => ⟨h0, fun _ => ?_⟩, fun h => ?_⟩
  · simp only [decide_eq_true_eq] at h
    have hi : ((i.toNat : Nat) : Int) = i := by omega
    have hl := frange_len (zeroAt v) i.toNat
    have hx : xs.length = ((List.range i.toNat).filter (zeroAt v)).length := by rw [h3, frN, List.length_map]
    rw [w64 (by omega)]
    refine ⟨fun hc => ⟨by omega, fun _ => ⟨⟨by omega, by omega, hm, hn, by simp [h2], ?_, hr⟩, lxo_⟩⟩, fun hc => ⟨⟨by omega, by omega, hm, hn, h2, ?_, hr⟩, lxo_⟩⟩
    · have hz : zeroAt v i.toNat = true := by unfold zeroAt; rw [hi]; exact hc
      rw [toNat_succ h0, frN, frange_snoc, if_pos hz, List.map_append, h3, frN]
      simp [hi]
    · have hz : ¬ zeroAt v i.toNat = true := by unfold zeroAt; rw [hi, hc]; simp
      rw [toNat_succ h0, frN, frange_snoc, if_neg hz, List.append_nil]
      exact h3
  · simp only [decide_eq_false_iff_not] at h
    show xs = r_
    rw [hr, h3, half_Free, show i.toNat = min n.toNat 32 by omega]
theorem half_Free_ok : EntryOk Dg Tryz.prog 57 e_half_Free :=
  ent_wp Dg T_half_Ones_ok (I := [411000000009, 411000000008, 411000000005, 411000000000]) Tryz.func57 mix (B := bodyOf Tryz.f57) (by kernel_rfl) rfl (by kernel_rfl) 400
    fun p0 v n hb hp => ⟨[⟨none, [0,1,0,1,1], [.blk 0, .code [1,1,1]], [9, 8, 5, 0], [.i .i64, .i .i64, .own 3 [some .i64], .ic .u32 (v)]⟩], fun j => List.getD [appC (Hd.kd (⟨none, [0,1,0,1,1], [.blk 0, .code [1,1,1]], [9, 8, 5, 0], [.i .i64, .i .i64, .own 3 [some .i64], .ic .u32 (v)]⟩ : Hd Sg)) (fun i' m' no' xs' => half_Free_I0 v n i' m' no' xs' (half_Free v n))] j (fun _ => False), fun j => List.getD [appC (Hd.kd (⟨none, [0,1,0,1,1], [.blk 0, .code [1,1,1]], [9, 8, 5, 0], [.i .i64, .i .i64, .own 3 [some .i64], .ic .u32 (v)]⟩ : Hd Sg)) (fun i' m' no' xs' => ((m' - i').toNat, 0, 0))] j (fun _ => (0, 0, 0)), by kernel_rfl, ⟨half_Free_w v n (fun i' m' no' xs' => half_Free_I0 v n i' m' no' xs' (half_Free v n)) (fun r__ => r__ = (half_Free v n)), fun _ _ _ => by kernel_rfl, half_Free_begin v n ⟩, ⟨fun i m no xs hI => ⟨half_Free_w0 v n i m no xs (fun i' m' no' xs' => half_Free_I0 v n i' m' no' xs' (half_Free v n) ∧ lx ((m' - i').toNat, 0, 0) ((m - i).toNat, 0, 0)) (fun r__ => r__ = (half_Free v n)), fun _ _ _ => by kernel_rfl, half_Free_step0 v n i m no xs hI⟩, trivial⟩⟩
def T_half_Free : List (Nat × Entry Sg) := (57, e_half_Free) :: T_half_Ones
theorem T_half_Free_ok : TableOk Dg Tryz.prog T_half_Free := TableOk.cons Dg half_Free_ok T_half_Ones_ok
def slab_bits (xs : List Int) : Int := xs.foldl orB 0
abbrev c_slab_bits : Ct Sg := ⟨none, false, [.ro [some .i64]], .i .u32⟩
def e_slab_bits : Entry Sg := entC c_slab_bits slab_bits (fun xs => [nnL xs])
def slab_bits_w (xs : List Int) (Q0 : Int → Int → Prop) (R_ : Int → Prop) : Prop := (Q0 ((0 : Int)) ((0 : Int)))
def slab_bits_w0 (xs : List Int) (i : Int) (v : Int) (Q0 : Int → Int → Prop) (R_ : Int → Prop) : Prop := (((decide (i < (↑(List.length xs) : Int))) = true → (((0 : Int) ≤ i ∧ i < (↑(List.length xs) : Int)) ∧ (((0 : Int) ≤ i ∧ i < (↑(List.length xs) : Int)) → (((0 : Int) ≤ List.getD xs (Int.toNat i) (0 : Int)) ∧ (((0 : Int) ≤ List.getD xs (Int.toNat i) (0 : Int)) → (Q0 (IntKind.wrap IntKind.i64 (i + (1 : Int))) (IntKind.wrap IntKind.u32 (↑(BitVec.toNat (BitVec.ofInt (32 : Nat) v ||| BitVec.ofInt (32 : Nat) (IntKind.wrap IntKind.u32 ((1 : Int) * (2 : Int) ^ min (Int.toNat (List.getD xs (Int.toNat i) (0 : Int))) (32 : Nat))))) : Int)))))))) ∧ ((decide (i < (↑(List.length xs) : Int))) = false → (R_ (v))))
def slab_bits_I0 (xs : List Int) (i : Int) (v : Int) (r_ : Int) : Prop := 0 ≤ i ∧ i ≤ xs.length ∧ v = (xs.take i.toNat).foldl orB 0 ∧ r_ = slab_bits xs
theorem slab_bits_begin (xs : List Int) (hp0 : nnL xs) (hl0 : xs.length ≤ 9223372036854775807) : slab_bits_w xs (fun i' v' => slab_bits_I0 xs i' v' (slab_bits xs)) (fun r__ => r__ = (slab_bits xs)) := by
  unfold slab_bits_w
  try unfold slab_bits_I0
  exact ⟨by omega, by omega, rfl, rfl⟩
theorem slab_bits_step0 (xs : List Int) (hp0 : nnL xs) (hl0 : xs.length ≤ 9223372036854775807) (i : Int) (v : Int) {r_ : Int} (hI : slab_bits_I0 xs i v r_) : slab_bits_w0 xs i v (fun i' v' => slab_bits_I0 xs i' v' r_ ∧ lx ((xs.length - i').toNat, 0, 0) ((xs.length - i).toNat, 0, 0)) (fun r__ => r__ = r_) := by
  unfold slab_bits_I0 at hI
  unfold slab_bits_w0
  try unfold slab_bits_I0
  obtain ⟨h0, h1, h2, hr⟩ := hI
  refine ⟨fun h => ?_, fun h => ?_⟩
  · simp only [decide_eq_true_eq] at h
    have hs := hp0 (xs.getD i.toNat 0) (getD_mem (by omega))
    rw [w64 (by omega)]
    refine ⟨⟨h0, h⟩, fun _ => ⟨hs, fun _ => ⟨⟨by omega, by omega, ?_, hr⟩, lxo_⟩⟩⟩
    rw [toNat_succ h0, take_snocB (by omega), List.foldl_append, ← h2]; rfl
  · simp only [decide_eq_false_iff_not] at h
    show v = r_
    rw [hr, h2, slab_bits, List.take_of_length_le (by omega)]
theorem slab_bits_ok : EntryOk Dg Tryz.prog 59 e_slab_bits :=
  ent_wp Dg T_half_Free_ok (I := [411000000008, 411000000007, 411000000006, 411000000003]) Tryz.func59 mix (B := bodyOf Tryz.f59) (by kernel_rfl) rfl (by kernel_rfl) 400
    fun p0 xs hb hp => have hl0 : xs.length ≤ 9223372036854775807 := hb.1; have hp0 : nnL xs := hp _ (.head _); ⟨[⟨none, [0,1,0,1,1], [.blk 0, .code [1,1,1]], [8, 7, 6, 3], [.i .i64, .ic .i64 (xs.length), .roc [.ints .i64 (xs)], .i .u32]⟩], fun j => List.getD [appC (Hd.kd (⟨none, [0,1,0,1,1], [.blk 0, .code [1,1,1]], [8, 7, 6, 3], [.i .i64, .ic .i64 (xs.length), .roc [.ints .i64 (xs)], .i .u32]⟩ : Hd Sg)) (fun i' v' => slab_bits_I0 xs i' v' (slab_bits xs))] j (fun _ => False), fun j => List.getD [appC (Hd.kd (⟨none, [0,1,0,1,1], [.blk 0, .code [1,1,1]], [8, 7, 6, 3], [.i .i64, .ic .i64 (xs.length), .roc [.ints .i64 (xs)], .i .u32]⟩ : Hd Sg)) (fun i' v' => ((xs.length - i').toNat, 0, 0))] j (fun _ => (0, 0, 0)), by kernel_rfl, ⟨slab_bits_w xs (fun i' v' => slab_bits_I0 xs i' v' (slab_bits xs)) (fun r__ => r__ = (slab_bits xs)), fun _ _ _ => by kernel_rfl, slab_bits_begin xs hp0 hl0 ⟩, ⟨fun i v hI => ⟨slab_bits_w0 xs i v (fun i' v' => slab_bits_I0 xs i' v' (slab_bits xs) ∧ lx ((xs.length - i').toNat, 0, 0) ((xs.length - i).toNat, 0, 0)) (fun r__ => r__ = (slab_bits xs)), fun _ _ _ => by kernel_rfl, slab_bits_step0 xs hp0 hl0 i v hI⟩, trivial⟩⟩
def T_slab_bits : List (Nat × Entry Sg) := (59, e_slab_bits) :: T_half_Free
theorem T_slab_bits_ok : TableOk Dg Tryz.prog T_slab_bits := TableOk.cons Dg slab_bits_ok T_half_Free_ok
end Go.Proofs.YtnddjnnakkiidaaGreat
namespace Go.Proofs.YtnddjnnakkiidaaGreat
open Go.Sl
theorem ofInt32 (n : Nat) : BitVec.ofInt 32 (n : Int) = BitVec.ofNat 32 n := by apply BitVec.eq_of_toNat_eq; simp
theorem minNat {i : Nat} (h : i < 32) : min (Int.toNat (i : Int)) 32 = i := by simp; omega
theorem fdiv_pow {V i : Nat} : Int.fdiv (V : Int) (2 ^ i) = ((V / 2 ^ i : Nat) : Int) := by
  rw [Int.fdiv_eq_ediv_of_nonneg _ (by exact Int.le_of_lt (Int.pow_pos (by omega)))]
  push_cast; rfl
theorem bitAt_nat {V i : Nat} (hi : i < 32) : bitAt (V : Int) (i : Int) = V.testBit i := by
  unfold bitAt
  have e1 : decide ((i : Int) ≥ 0) = true := by simp
  have e2 : decide ((i : Int) < 32) = true := by simp; omega
  rw [e1, e2, Bool.true_and, Bool.true_and, Int.toNat_natCast, Nat.testBit_eq_decide_div_mod_eq]
  have e3 : (V : Int) / 2 ^ i % 2 = ((V / 2 ^ i % 2 : Nat) : Int) := by push_cast; rfl
  rw [e3]
  apply Bool.eq_iff_iff.2
  rw [beq_iff_eq, decide_eq_true_eq]
  omega
theorem bitAt_out {v b : Int} (h : ¬ (0 ≤ b ∧ b < 32)) : bitAt v b = false := by
  unfold bitAt
  have : (decide (b ≥ 0) && decide (b < 32)) = false := by simp; omega
  rw [this, Bool.false_and]
theorem zeroAt_eq {V i : Nat} (hV : V < 4294967296) (hi : i < 32) : zeroAt (V : Int) i = !V.testBit i := by
  unfold zeroAt
  rw [minNat hi, fdiv_pow, Nat.testBit_eq_decide_div_mod_eq]
  have h3 : V / 2 ^ i < 2 ^ 32 := Nat.lt_of_le_of_lt (Nat.div_le_self _ _) (by omega)
  have e : (BitVec.ofInt 32 ((V / 2 ^ i : Nat) : Int) &&& BitVec.ofInt 32 1).toNat = V / 2 ^ i % 2 := by
    rw [ofInt32, BitVec.toNat_and, BitVec.toNat_ofNat, Nat.mod_eq_of_lt h3]
    show _ &&& 1 = _
    rw [Nat.and_one_is_mod]
  rw [e]
  have := Nat.mod_lt (V / 2 ^ i) (show 2 > 0 by omega)
  rw [wrap_u32_nat (by omega)]
  apply Bool.eq_iff_iff.2
  simp only [beq_iff_eq, Bool.not_eq_true', decide_eq_false_iff_not]
  omega
def cb (V : Nat) : Nat → Nat
  | 0 => 0
  | k + 1 => (V.testBit k).toNat + cb V k
theorem cb_le (V : Nat) : ∀ k, cb V k ≤ k
  | 0 => Nat.le_refl _
  | k + 1 => by
    have := cb_le V k
    have := Bool.toNat_le (V.testBit k)
    simp only [cb]; omega
theorem onesF_cb {V : Nat} : ∀ k : Nat, k ≤ 32 → onesF (V : Int) k = (cb V k : Int)
  | 0, _ => rfl
  | k + 1, h => by
    rw [onesF, onesF_cb k (by omega), bitAt_nat (by omega), cb]
    cases V.testBit k <;> simp <;> omega
theorem cb_byte (V k : Nat) : cb V (k + 8) = cb (V / 2 ^ k % 256) 8 + cb V k := by
  have h : ∀ j, j < 8 → (V / 2 ^ k % 256).testBit j = V.testBit (k + j) := fun j hj => by
    rw [show (256 : Nat) = 2 ^ 8 by rfl, Nat.testBit_mod_two_pow, Nat.testBit_div_two_pow, Nat.add_comm j k]
    simp [hj]
  simp only [cb]
  rw [h 7 (by omega), h 6 (by omega), h 5 (by omega), h 4 (by omega), h 3 (by omega), h 2 (by omega), h 1 (by omega), h 0 (by omega)]
  simp only [Nat.add_zero]
  omega
theorem pop_tab : ∀ i : Fin 256, sAt SlSlab1_bytes0 (i.val : Int) = (cb i.val 8 : Int) := by decide +kernel
theorem pop_nat {b : Nat} (h : b < 256) : sAt SlSlab1_bytes0 (b : Int) = (cb b 8 : Int) := pop_tab ⟨b, h⟩
theorem and255_eq (m : Nat) (hm : m < 4294967296) : IntKind.u32.wrap ((BitVec.ofInt 32 (m : Int) &&& BitVec.ofInt 32 255).toNat : Int) = ((m % 256 : Nat) : Int) := by
  have e : (BitVec.ofInt 32 (m : Int) &&& BitVec.ofInt 32 255).toNat = m % 256 := by
    rw [ofInt32, BitVec.toNat_and, BitVec.toNat_ofNat, Nat.mod_eq_of_lt hm]
    show m &&& (2 ^ 8 - 1) = _
    rw [Nat.and_two_pow_sub_one_eq_mod]
  rw [e, wrap_u32_nat (by omega)]
theorem fdivN (z : Int) (k : Nat) (h0 : 0 ≤ z) (hk : 0 < k) : Int.fdiv z (k : Int) = ((z.toNat / k : Nat) : Int) := by
  rw [Int.fdiv_eq_ediv_of_nonneg _ (by omega)]
  obtain ⟨n, rfl⟩ := Int.eq_ofNat_of_zero_le h0
  simp
theorem bits_Ones_eq {V : Nat} (hV : V < 4294967296) : bits_Ones (V : Int) = (cb V 32 : Int) := by
  have c3 : cb V 32 = cb (V / 2 ^ 24 % 256) 8 + cb V 24 := cb_byte V 24
  have c2 : cb V 24 = cb (V / 2 ^ 16 % 256) 8 + cb V 16 := cb_byte V 16
  have c1 : cb V 16 = cb (V / 2 ^ 8 % 256) 8 + cb V 8 := cb_byte V 8
  have c0 : cb V 8 = cb (V / 2 ^ 0 % 256) 8 + cb V 0 := cb_byte V 0
  have z : cb V 0 = 0 := rfl
  have b3 := cb_le (V / 2 ^ 24 % 256) 8
  have b2 := cb_le (V / 2 ^ 16 % 256) 8
  have b1 := cb_le (V / 2 ^ 8 % 256) 8
  have b0 := cb_le (V / 2 ^ 0 % 256) 8
  have f : ∀ k : Nat, 0 < k → Int.fdiv (V : Int) (k : Int) = ((V / k : Nat) : Int) := fun k hk => by
    rw [fdivN _ _ (by omega) hk, Int.toNat_natCast]
  have f3 := f 16777216 (by omega)
  have f2 := f 65536 (by omega)
  have f1 := f 256 (by omega)
  have h3 : V / 16777216 < 256 := by omega
  unfold bits_Ones
  rw [show (16777216 : Int) = ((16777216 : Nat) : Int) by rfl, show (65536 : Int) = ((65536 : Nat) : Int) by rfl, show Int.fdiv (V : Int) (256 : Int) = Int.fdiv (V : Int) ((256 : Nat) : Int) by rfl, f3, f2, f1]
  rw [and255_eq _ (by omega), and255_eq _ (by omega), and255_eq _ hV, pop_nat h3, pop_nat (by omega), pop_nat (by omega), pop_nat (by omega)]
  have g3 : cb (V / 2 ^ 24 % 256) 8 = cb (V / 16777216) 8 := by rw [show (2 : Nat) ^ 24 = 16777216 by rfl, Nat.mod_eq_of_lt h3]
  have g2 : cb (V / 2 ^ 16 % 256) 8 = cb (V / 65536 % 256) 8 := rfl
  have g1 : cb (V / 2 ^ 8 % 256) 8 = cb (V / 256 % 256) 8 := rfl
  have g0 : cb (V / 2 ^ 0 % 256) 8 = cb (V % 256) 8 := by rw [Nat.pow_zero, Nat.div_one]
  simp only [IntKind.wrap_u8]
  rw [w64 (by omega)]
  omega
theorem natOf {v : Int} (h : bd32 v) : ∃ V : Nat, v = (V : Int) ∧ V < 4294967296 := ⟨v.toNat, by unfold bd32 at h; omega, by unfold bd32 at h; omega⟩
theorem half_Ones_eq {v : Int} (h : bd32 v) : half_Ones v = ones v := by
  obtain ⟨V, rfl, hV⟩ := natOf h
  rw [half_Ones, bits_Ones_eq hV, ones, onesF_cb 32 (Nat.le_refl _)]
theorem testBit_add {V k i : Nat} (h : V.testBit k = false) : (V + 2 ^ k).testBit i = (V.testBit i || decide (i = k)) := by
  have e : V + 2 ^ k = V ||| 2 ^ k := by
    have hb : ∀ w, V + 2 ^ k < 2 ^ w → V ||| 2 ^ k < 2 ^ w → V + 2 ^ k = V ||| 2 ^ k := fun w h1 h2 => by
      have hand : (BitVec.ofNat w V) &&& (BitVec.ofNat w (2 ^ k)) = 0#w := by
        apply BitVec.eq_of_toNat_eq
        have hp := Nat.two_pow_pos k
        have hV : V < 2 ^ w := by omega
        have hk : 2 ^ k < 2 ^ w := by omega
        rw [BitVec.toNat_and, BitVec.toNat_ofNat, BitVec.toNat_ofNat, Nat.mod_eq_of_lt hV, Nat.mod_eq_of_lt hk, BitVec.toNat_ofNat, Nat.zero_mod]
        apply Nat.eq_of_testBit_eq
        intro j
        rw [Nat.testBit_and, Nat.testBit_two_pow, Nat.zero_testBit]
        by_cases hj : k = j
        · subst hj; rw [h]; rfl
        · simp [hj]
      have := BitVec.add_eq_or_of_and_eq_zero _ _ hand
      have h3 := congrArg BitVec.toNat this
      have hp := Nat.two_pow_pos k
      have hV : V < 2 ^ w := by omega
      have hk : 2 ^ k < 2 ^ w := by omega
      rw [BitVec.toNat_add, BitVec.toNat_or, BitVec.toNat_ofNat, BitVec.toNat_ofNat, Nat.mod_eq_of_lt hV, Nat.mod_eq_of_lt hk, Nat.mod_eq_of_lt h1] at h3
      exact h3
    refine hb (V + 2 ^ k + (V ||| 2 ^ k)) ?_ ?_
    · exact Nat.lt_of_le_of_lt (Nat.le_add_right _ _) Nat.lt_two_pow_self
    · exact Nat.lt_of_le_of_lt (Nat.le_add_left _ _) Nat.lt_two_pow_self
  rw [e, Nat.testBit_or, Nat.testBit_two_pow]
  congr 1
  apply Bool.eq_iff_iff.2; simp [eq_comm]
theorem or_add {V k : Nat} (h : V.testBit k = false) : V ||| 2 ^ k = V + 2 ^ k := by
  apply Nat.eq_of_testBit_eq
  intro i
  rw [testBit_add h, Nat.testBit_or, Nat.testBit_two_pow]
  congr 1
  apply Bool.eq_iff_iff.2; simp [eq_comm]
theorem lt_of_bits {V : Nat} (h : ∀ i, 32 ≤ i → V.testBit i = false) : V < 4294967296 := by
  have := Nat.lt_pow_two_of_testBit V h
  simpa using this
theorem bits_of_lt {V : Nat} (h : V < 4294967296) {i : Nat} (hi : 32 ≤ i) : V.testBit i = false := Nat.testBit_lt_two_pow (Nat.lt_of_lt_of_le h (by have := Nat.pow_le_pow_right (n := 2) (by omega) hi; simpa using this))
def addB (v s : Int) : Int := bif bitAt v s then v else v + 2 ^ s.toNat
def subB (v s : Int) : Int := bif bitAt v s then v - 2 ^ s.toNat else v
theorem addB_nat {V k : Nat} (hk : k < 32) : addB (V : Int) (k : Int) = ((V ||| 2 ^ k : Nat) : Int) := by
  unfold addB
  rw [bitAt_nat hk]
  cases h : V.testBit k with
  | true =>
    have e : V ||| 2 ^ k = V := by
      apply Nat.eq_of_testBit_eq
      intro i
      rw [Nat.testBit_or, Nat.testBit_two_pow]
      by_cases hi : k = i
      · subst hi; rw [h]; rfl
      · simp [hi]
    rw [cond_true, e]
  | false => rw [cond_false, or_add h]; push_cast; rfl
theorem or_lt {V k : Nat} (hV : V < 4294967296) (hk : k < 32) : V ||| 2 ^ k < 4294967296 := lt_of_bits fun i hi => by
  rw [Nat.testBit_or, bits_of_lt hV hi, Nat.testBit_two_pow]; simp; omega
theorem bitAt_addB {v s : Int} (hv : bd32 v) (hs : 0 ≤ s ∧ s < 32) : bd32 (addB v s) ∧ ∀ b, bitAt (addB v s) b = (bitAt v b || decide (b = s)) := by
  obtain ⟨V, rfl, hV⟩ := natOf hv
  obtain ⟨k, rfl⟩ := Int.eq_ofNat_of_zero_le hs.1
  have hk : k < 32 := by omega
  rw [addB_nat hk]
  refine ⟨by have := or_lt hV hk; unfold bd32; omega, fun b => ?_⟩
  by_cases hb : 0 ≤ b ∧ b < 32
  · obtain ⟨j, rfl⟩ := Int.eq_ofNat_of_zero_le hb.1
    rw [bitAt_nat (by omega), bitAt_nat (by omega), Nat.testBit_or, Nat.testBit_two_pow]
    congr 1
    apply Bool.eq_iff_iff.2
    simp only [decide_eq_true_eq]; omega
  · rw [bitAt_out hb, bitAt_out hb]
    symm; simp; omega
theorem subB_nat {V k : Nat} (hk : k < 32) : ∃ W : Nat, subB (V : Int) (k : Int) = (W : Int) ∧ ∀ i, W.testBit i = (V.testBit i && decide (i ≠ k)) := by
  unfold subB
  rw [bitAt_nat hk]
  cases h : V.testBit k with
  | false =>
    refine ⟨V, rfl, fun i => ?_⟩
    by_cases hi : i = k
    · subst hi; simp [h]
    · simp [hi]
  | true =>
    have hx : (V ^^^ 2 ^ k).testBit k = false := by rw [Nat.testBit_xor, h, Nat.testBit_two_pow]; simp
    have e : (V ^^^ 2 ^ k) + 2 ^ k = V := by
      apply Nat.eq_of_testBit_eq
      intro i
      rw [testBit_add hx, Nat.testBit_xor, Nat.testBit_two_pow]
      by_cases hi : k = i
      · subst hi; rw [h]; simp
      · simp [hi]; intro e; exact absurd e.symm hi
    refine ⟨V ^^^ 2 ^ k, ?_, fun i => ?_⟩
    · rw [cond_true, Int.toNat_natCast]
      have : ((V ^^^ 2 ^ k : Nat) : Int) + ((2 ^ k : Nat) : Int) = (V : Int) := by exact_mod_cast e
      push_cast at this ⊢; omega
    · rw [Nat.testBit_xor, Nat.testBit_two_pow]
      by_cases hi : k = i
      · subst hi; rw [h]; simp
      · have : ¬ i = k := fun e => hi e.symm
        simp [hi, this]
theorem bitAt_subB {v s : Int} (hv : bd32 v) (hs : 0 ≤ s ∧ s < 32) : bd32 (subB v s) ∧ ∀ b, bitAt (subB v s) b = (bitAt v b && !decide (b = s)) := by
  obtain ⟨V, rfl, hV⟩ := natOf hv
  obtain ⟨k, rfl⟩ := Int.eq_ofNat_of_zero_le hs.1
  obtain ⟨W, e, h⟩ := subB_nat (V := V) (k := k) (by omega)
  have hW : W < 4294967296 := lt_of_bits fun i hi => by rw [h, bits_of_lt hV hi]; rfl
  rw [e]
  refine ⟨by unfold bd32; omega, fun b => ?_⟩
  by_cases hb : 0 ≤ b ∧ b < 32
  · obtain ⟨j, rfl⟩ := Int.eq_ofNat_of_zero_le hb.1
    rw [bitAt_nat (by omega), bitAt_nat (by omega), h]
    congr 1
    apply Bool.eq_iff_iff.2
    simp; omega
  · rw [bitAt_out hb, bitAt_out hb]; rfl
theorem bits_ext {v w : Int} (hv : bd32 v) (hw : bd32 w) (h : ∀ b, bitAt v b = bitAt w b) : v = w := by
  obtain ⟨V, rfl, hV⟩ := natOf hv
  obtain ⟨W, rfl, hW⟩ := natOf hw
  congr 1
  apply Nat.eq_of_testBit_eq
  intro i
  by_cases hi : i < 32
  · rw [← bitAt_nat hi, ← bitAt_nat hi]; exact h _
  · rw [bits_of_lt hV (by omega), bits_of_lt hW (by omega)]
theorem bitAt_zero (b : Int) : bitAt 0 b = false := by
  unfold bitAt; simp
theorem orB_eq {v s : Int} (hv : bd32 v) (hs : 0 ≤ s ∧ s < 32) : orB v s = addB v s := by
  obtain ⟨V, rfl, hV⟩ := natOf hv
  obtain ⟨k, rfl⟩ := Int.eq_ofNat_of_zero_le hs.1
  have hk : k < 32 := by omega
  have hp : 2 ^ k < 4294967296 := by have := Nat.pow_lt_pow_right (a := 2) (by omega) hk; simpa using this
  rw [addB_nat hk]
  unfold orB
  rw [minNat hk, Int.one_mul, show ((2 : Int) ^ k) = ((2 ^ k : Nat) : Int) by push_cast; rfl, wrap_u32_nat hp, ofInt32, ofInt32, BitVec.toNat_or, BitVec.toNat_ofNat, BitVec.toNat_ofNat, Nat.mod_eq_of_lt hV, Nat.mod_eq_of_lt hp, wrap_u32_nat (or_lt hV hk)]
def addL (v : Int) (l : List Int) : Int := l.foldl addB v
theorem bitAt_addL : ∀ {l : List Int} {v : Int}, bd32 v → (∀ s ∈ l, 0 ≤ s ∧ s < 32) → bd32 (addL v l) ∧ ∀ b, bitAt (addL v l) b = (bitAt v b || l.contains b)
  | [], v, hv, _ => ⟨hv, fun b => by simp [addL]⟩
  | s :: l, v, hv, hl => by
    obtain ⟨h1, h2⟩ := bitAt_addB hv (hl s (by simp))
    obtain ⟨g1, g2⟩ := bitAt_addL (l := l) h1 fun x hx => hl x (by simp [hx])
    refine ⟨g1, fun b => ?_⟩
    show bitAt (addL (addB v s) l) b = _
    rw [g2, h2, List.contains_cons, Bool.or_assoc]
    congr 2
theorem foldl_orB : ∀ {l : List Int} {v : Int}, bd32 v → (∀ s ∈ l, 0 ≤ s ∧ s < 32) → l.foldl orB v = addL v l
  | [], _, _, _ => rfl
  | s :: l, v, hv, hl => by
    have hs := hl s (by simp)
    show l.foldl orB (orB v s) = addL (addB v s) l
    rw [orB_eq hv hs]
    exact foldl_orB (bitAt_addB hv hs).1 fun x hx => hl x (by simp [hx])
theorem slab_bits_eq {l : List Int} (hl : ∀ s ∈ l, 0 ≤ s ∧ s < 32) : slab_bits l = addL 0 l := foldl_orB (by unfold bd32; decide) hl
theorem wrapOr {a b : Int} (ha : bd32 a) (hb : bd32 b) : bd32 (IntKind.u32.wrap ((BitVec.ofInt 32 a ||| BitVec.ofInt 32 b).toNat : Int)) ∧ ∀ i, bitAt (IntKind.u32.wrap ((BitVec.ofInt 32 a ||| BitVec.ofInt 32 b).toNat : Int)) i = (bitAt a i || bitAt b i) := by
  obtain ⟨A, rfl, hA⟩ := natOf ha
  obtain ⟨B, rfl, hB⟩ := natOf hb
  have hl : A ||| B < 4294967296 := lt_of_bits fun i hi => by rw [Nat.testBit_or, bits_of_lt hA hi, bits_of_lt hB hi]; rfl
  rw [ofInt32, ofInt32, BitVec.toNat_or, BitVec.toNat_ofNat, BitVec.toNat_ofNat, Nat.mod_eq_of_lt hA, Nat.mod_eq_of_lt hB, wrap_u32_nat hl]
  refine ⟨by unfold bd32; omega, fun b => ?_⟩
  by_cases hb : 0 ≤ b ∧ b < 32
  · obtain ⟨j, rfl⟩ := Int.eq_ofNat_of_zero_le hb.1
    rw [bitAt_nat (by omega), bitAt_nat (by omega), bitAt_nat (by omega), Nat.testBit_or]
  · rw [bitAt_out hb, bitAt_out hb, bitAt_out hb]; rfl
theorem or_bits {v : Int} {l : List Int} (hv : bd32 v) (hl : ∀ s ∈ l, 0 ≤ s ∧ s < 32) : IntKind.u32.wrap ((BitVec.ofInt 32 v ||| BitVec.ofInt 32 (slab_bits l)).toNat : Int) = addL v l := by
  rw [slab_bits_eq hl]
  obtain ⟨h1, h2⟩ := bitAt_addL (l := l) (v := 0) (by unfold bd32; decide) hl
  obtain ⟨g1, g2⟩ := wrapOr hv h1
  obtain ⟨k1, k2⟩ := bitAt_addL hv hl
  exact bits_ext g1 k1 fun b => by rw [g2, h2, k2, bitAt_zero, Bool.false_or]
theorem wrapAndNot {a b : Int} (ha : bd32 a) (hb : bd32 b) : bd32 (IntKind.u32.wrap ((BitVec.ofInt 32 a &&& ~~~ BitVec.ofInt 32 b).toNat : Int)) ∧ ∀ i, bitAt (IntKind.u32.wrap ((BitVec.ofInt 32 a &&& ~~~ BitVec.ofInt 32 b).toNat : Int)) i = (bitAt a i && !bitAt b i) := by
  obtain ⟨A, rfl, hA⟩ := natOf ha
  obtain ⟨B, rfl, hB⟩ := natOf hb
  have hx : ∀ i, ((BitVec.ofNat 32 A) &&& ~~~ (BitVec.ofNat 32 B)).toNat.testBit i = (A.testBit i && (decide (i < 32) && !B.testBit i)) := fun i => by
    rw [BitVec.testBit_toNat, BitVec.getLsbD_and, BitVec.getLsbD_not, BitVec.getLsbD_ofNat, BitVec.getLsbD_ofNat]
    by_cases hi : i < 32
    · simp [hi]
    · simp [hi]
  have hl := lt_of_bits (V := ((BitVec.ofNat 32 A) &&& ~~~ (BitVec.ofNat 32 B)).toNat) fun i hi => by rw [hx, bits_of_lt hA hi]; rfl
  rw [ofInt32, ofInt32, wrap_u32_nat hl]
  refine ⟨by unfold bd32; omega, fun b => ?_⟩
  by_cases hb : 0 ≤ b ∧ b < 32
  · obtain ⟨j, rfl⟩ := Int.eq_ofNat_of_zero_le hb.1
    have hj : j < 32 := by omega
    rw [bitAt_nat hj, bitAt_nat hj, bitAt_nat hj, hx]
    simp [hj]
  · rw [bitAt_out hb, bitAt_out hb, bitAt_out hb]; rfl
theorem frN_mem {p : Nat → Bool} {n : Nat} {s : Int} : s ∈ frN p n ↔ 0 ≤ s ∧ s < n ∧ p s.toNat = true := by
  unfold frN
  rw [List.mem_map]
  constructor
  · rintro ⟨i, hi, rfl⟩
    rw [List.mem_filter, List.mem_range] at hi
    exact ⟨by omega, by omega, by simpa using hi.2⟩
  · rintro ⟨h1, h2, h3⟩
    exact ⟨s.toNat, List.mem_filter.2 ⟨List.mem_range.2 (by omega), h3⟩, by omega⟩
def frL (v n : Int) : List Int := frN (fun i => !bitAt v (i : Int)) n.toNat
theorem frN_congr {p q : Nat → Bool} {n : Nat} (h : ∀ i, i < n → p i = q i) : frN p n = frN q n := by
  unfold frN
  congr 1
  exact List.filter_congr fun i hi => h i (List.mem_range.1 hi)
theorem half_Free_eq {v n : Int} (hv : bd32 v) (hn : n ≤ 32) : half_Free v n = frL v n := by
  obtain ⟨V, rfl, hV⟩ := natOf hv
  unfold half_Free frL
  rw [show min n.toNat 32 = n.toNat by omega]
  exact frN_congr fun i hi => by rw [zeroAt_eq hV (by omega), bitAt_nat (by omega)]
theorem frL_mem {v n s : Int} (h : s ∈ frL v n) : 0 ≤ s ∧ s < n ∧ bitAt v s = false := by
  obtain ⟨h1, h2, h3⟩ := frN_mem.1 h
  refine ⟨h1, by omega, ?_⟩
  have e : ((s.toNat : Nat) : Int) = s := by omega
  rw [e] at h3
  simpa using h3
theorem frN_succ (p : Nat → Bool) (n : Nat) : frN p (n + 1) = frN p n ++ (if p n = true then [(n : Int)] else []) := by
  unfold frN
  rw [frange_snoc, List.map_append]
  split <;> rfl
theorem frN_len (p : Nat → Bool) (n : Nat) : (frN p n).length ≤ n := by
  unfold frN; rw [List.length_map]; exact frange_len p n
theorem frN_pre (p : Nat → Bool) {n m : Nat} (h : n ≤ m) : ∃ l, frN p m = frN p n ++ l := by
  induction m with
  | zero => exact ⟨[], by rw [show n = 0 by omega]; simp⟩
  | succ m ih =>
    by_cases e : n = m + 1
    · exact ⟨[], by rw [e]; simp⟩
    · obtain ⟨l, hl⟩ := ih (by omega)
      exact ⟨_, by rw [frN_succ, hl, List.append_assoc]⟩
theorem frN_sorted (p : Nat → Bool) (n : Nat) : (frN p n).Pairwise (· < ·) := by
  unfold frN
  rw [List.pairwise_map]
  refine List.Pairwise.imp ?_ (List.Pairwise.filter p List.pairwise_lt_range)
  intro a b h; omega
end Go.Proofs.YtnddjnnakkiidaaGreat
namespace Go.Proofs.YtnddjnnakkiidaaGreat
open Go.Sl
theorem place_Taken_eq (t p s g : Int) : place_Taken t p s g = Cf.taken ⟨t, p, s⟩ g := place_of_eq (by omega)
theorem r07_Taken_eq (t p s g : Int) : r07_Taken t p s g = Cf.taken ⟨t, p, s⟩ g := r07_Page_eq (by omega)
theorem place_Rack_eq (k : Int) : place_Rack k = cRack k := by
  unfold place_Rack place_within cRack
  by_cases hg : 0 ≤ k ∧ k < 9
  · have a1 : (decide (k < 0) || decide (k ≥ 9)) = false := by simp; omega
    have a2 : (decide (0 ≤ k) && decide (k < 9)) = true := by simp; omega
    rw [a1, a2, w64 (by omega)]; rfl
  · have a1 : (decide (k < 0) || decide (k ≥ 9)) = true := by simp; omega
    have a2 : (decide (0 ≤ k) && decide (k < 9)) = false := by simp; omega
    rw [a1, a2]; rfl
theorem full_eq (v k : Int) : r12_Full v k = full v k := by
  show (ones v == r05_Slots k) = _
  rw [r05_Slots_eq]; rfl
theorem and_bits {v b : Int} (hv : bd32 v) (hb : 0 ≤ b ∧ b < 32) : IntKind.u32.wrap ((BitVec.ofInt 32 v &&& ~~~ BitVec.ofInt 32 (slab_bits [b])).toNat : Int) = subB v b := by
  have hl : ∀ s ∈ [b], 0 ≤ s ∧ s < 32 := fun s hs => by rw [List.mem_singleton] at hs; subst hs; exact hb
  rw [slab_bits_eq hl]
  obtain ⟨h1, h2⟩ := bitAt_addL (l := [b]) (v := 0) (by unfold bd32; decide) hl
  obtain ⟨g1, g2⟩ := wrapAndNot hv h1
  obtain ⟨k1, k2⟩ := bitAt_subB hv hb
  refine bits_ext g1 k1 fun i => ?_
  rw [g2, h2, k2, bitAt_zero, Bool.false_or, List.contains_cons, List.contains_nil, Bool.or_false]
  congr 2
theorem bit_val {b : Int} (hb : 0 ≤ b ∧ b < 32) : r16_Bit b = 2 ^ b.toNat := by
  have hp : (2 : Int) ^ b.toNat ≤ 2 ^ 31 := pow2_le (by omega)
  have h0 := pow2_pos b.toNat
  unfold r16_Bit
  rw [wu64 (by omega), Int.one_mul, show min b.toNat 32 = b.toNat by omega, wu32 (by omega)]
theorem sub_bit {v b : Int} (hv : bd32 v) (hb : 0 ≤ b ∧ b < 32) (h : bitAt v b = true) : IntKind.wrap IntKind.u32 (v - r16_Bit b) = subB v b := by
  have h1 := (bitAt_subB hv hb).1
  unfold subB at h1 ⊢
  rw [h, cond_true] at h1 ⊢
  rw [bit_val hb]
  unfold bd32 at h1
  exact wu32 (by omega)
theorem add_bit {v b : Int} (hv : bd32 v) (hb : 0 ≤ b ∧ b < 32) (h : bitAt v b = false) : IntKind.wrap IntKind.u32 (v + r16_Bit b) = addB v b := by
  have h1 := (bitAt_addB hv hb).1
  unfold addB at h1 ⊢
  rw [h, cond_false] at h1 ⊢
  rw [bit_val hb]
  unfold bd32 at h1
  exact wu32 (by omega)
theorem take_if {l : List Int} {w : Int} (hw : 0 ≤ w) : l.take (Int.toNat (if (l.length : Int) < w then (l.length : Int) else w)) = l.take w.toNat := by
  split
  · rw [List.take_of_length_le (by omega), List.take_of_length_le (by omega)]
  · rfl
theorem not_take {l : List Int} (hs : l.Pairwise (· < ·)) {i : Nat} (hi : i < l.length) : (l.take i).contains (l.getD i 0) = false := by
  cases h : (l.take i).contains (l.getD i 0) with
  | false => rfl
  | true =>
    rw [List.contains_iff_mem, List.mem_take_iff_getElem] at h
    obtain ⟨j, hj, e⟩ := h
    have := (List.pairwise_iff_getElem.1 hs) j i (by omega) hi (by omega)
    rw [List.getD_eq_getElem?_getD, List.getElem?_eq_getElem hi, Option.getD_some] at e
    omega
theorem frL_len (v n : Int) : (frL v n).length ≤ n.toNat := frN_len _ _
theorem frL_succ (v : Int) {i : Int} (h : 0 ≤ i) : frL v (i + 1) = frL v i ++ (if bitAt v i = false then [i] else []) := by
  unfold frL
  rw [show (i + 1).toNat = i.toNat + 1 by omega, frN_succ, show ((i.toNat : Nat) : Int) = i by omega]
  cases bitAt v i <;> simp
theorem frL_take {v n i w : Int} (h0 : 0 ≤ i) (h1 : i ≤ n) (h2 : ((frL v i).length : Int) ≤ w) (h : i = n ∨ ((frL v i).length : Int) = w) : (frL v n).take w.toNat = frL v i := by
  obtain ⟨l, hl⟩ := frN_pre (fun i => !bitAt v (i : Int)) (n := i.toNat) (m := n.toNat) (by omega)
  have hl : frL v n = frL v i ++ l := hl
  rcases h with rfl | h
  · exact List.take_of_length_le (by omega)
  · rw [hl, show w.toNat = (frL v i).length by omega, List.take_left]
section
variable (c : Cf)
def pOpen (k : Int) : Pg (Int × Bool) :=
  .get (cRack k) fun q => bif q == 0 then
    (qTake c 1).bind fun r => bif r.2 then .put (c.info r.1) (iVal 3 1 k) ((pPush c (cRack k) r.1).bind fun _ => .ret (r.1, true)) else .ret (0, false)
  else .ret (q - 1, true)
def pPutS (p k t : Int) (l : List Int) : Pg (Int × List Int × Bool) :=
  .put (c.taken p) (addL t l) <| (bif full (addL t l) k then pPull c (cRack k) p else .ret ()).bind fun _ => .ret (p, l, true)
def pTakeS (p k want t : Int) : Pg (Int × List Int × Bool) :=
  bif ((frL t (kSlots k)).length : Int) == 0 then .ret (-1, [], false) else pPutS c p k t ((frL t (kSlots k)).take want.toNat)
def pPick (k want : Int) : Pg (Int × List Int × Bool) :=
  bif decide (k < 0) || decide (9 ≤ k) || decide (want < 1) || decide (4 < want) then .ret (-1, [], false) else
    (pOpen c k).bind fun r => bif r.2 then .get (c.taken r.1) (pTakeS c r.1 k want) else .ret (-1, [], false)
def pGive (p s : Int) : Pg Unit :=
  bif decide (s < 0) || decide (32 ≤ s) then .ret () else
    (pInfo c p).bind fun i => .get (c.taken p) fun t =>
      bif subB t s == 0 then (bif full t i.2.2 then .ret () else pPull c (cRack i.2.2) p).bind fun _ => .put (c.taken p) 0 (qRelease c p 1)
      else .put (c.taken p) (subB t s) (bif full t i.2.2 then pPush c (cRack i.2.2) p else .ret ())
end
end Go.Proofs.YtnddjnnakkiidaaGreat
namespace Go.Proofs.YtnddjnnakkiidaaGreat
open Go.Sl
def slab_full (v : Int) (k : Int) : Bool := full v k
abbrev c_slab_full : Ct Sg := ⟨none, false, [.i .u32, .i .i64], .b⟩
def e_slab_full : Entry Sg := entC c_slab_full slab_full (fun v k => [bd32 v])
def slab_full_w (v : Int) (k : Int) (R_ : Bool → Prop) : Prop := (aw_ (u32ok v) (R_ (half_Ones v == kSlots k)))
theorem slab_full_begin (v : Int) (k : Int) (hp0 : bd32 v) : slab_full_w v k  (fun r__ => r__ = (slab_full v k)) := by
  unfold slab_full_w
  refine ⟨hp0, fun _ => ?_⟩
  rw [half_Ones_eq hp0]; rfl
theorem slab_full_ok : EntryOk Dg Tryz.prog 61 e_slab_full :=
  ent_wp Dg T_slab_bits_ok (I := []) Tryz.func61 mix (B := bodyOf Tryz.f61) (by kernel_rfl) rfl (by kernel_rfl) 400
    fun p0 v k hb hp => have hp0 : bd32 v := hp _ (.head _); ⟨[], fun j => List.getD [] j (fun _ => False), fun j => List.getD [] j (fun _ => (0, 0, 0)), by kernel_rfl, ⟨slab_full_w v k  (fun r__ => r__ = (slab_full v k)), fun _ _ _ => by kernel_rfl, slab_full_begin v k hp0 ⟩, trivial⟩
def T_slab_full : List (Nat × Entry Sg) := (61, e_slab_full) :: T_slab_bits
theorem T_slab_full_ok : TableOk Dg Tryz.prog T_slab_full := TableOk.cons Dg slab_full_ok T_slab_bits_ok
def slab_open (s : VS) (t : Int) (p : Int) (h : Int) (k : Int) : VS × Int × Bool := (pOpen ⟨t, p, h⟩ k).run s
abbrev c_slab_open : Ct Sg := ⟨some wView, false, [.agg [.i .i64, .i .i64, .i .i64], .i .i64], .tup [.i .i64, .b]⟩
def e_slab_open : Entry Sg := entC c_slab_open slab_open (fun s t p h k => [p ≤ 1024])
def slab_open_w (s : VS) (t : Int) (p : Int) (h : Int) (k : Int) (R_ : VS × Int × Bool → Prop) : Prop := (∀ r1 : Int, r1 = (place_Rack k) → (∀ r2 : VS × Int, r2 = ((VS.read s r1, VS.get s r1)) → (bw_ (Prod.snd r2 != (0 : Int)) (R_ ((Prod.fst r2, IntKind.wrap IntKind.i64 (IntKind.wrap IntKind.i64 (Prod.snd r2) - (1 : Int)), true))) (∀ r4 : VS × Int × Bool, r4 = (span_Take (Prod.fst r2) t p h (1 : Int)) → (aw_ (p ≤ (1024 : Int)) (bw_ (!Prod.snd (Prod.snd r4)) (R_ ((Prod.fst r4, (0 : Int), false))) (∀ r7 : Int × Bool, r7 = (info_Put (3 : Int) (1 : Int) k) → (∀ r8 : Int, r8 = (place_Info t p h (Prod.fst (Prod.snd r4))) → (∀ r9 : VS, r9 = (VS.set (Prod.fst r4) r8 (Prod.fst r7)) → (aw_ (bd32 (Prod.fst r7)) (∀ r11 : VS, r11 = (link_Push r9 t p h (place_Rack k) (Prod.fst (Prod.snd r4))) → (R_ ((r11, Prod.fst (Prod.snd r4), true))))))))))))))
theorem slab_open_begin (s : VS) (t : Int) (p : Int) (h : Int) (k : Int) (hp0 : p ≤ 1024) : slab_open_w s t p h k  (fun r__ => r__ = (slab_open s t p h k)) := by
  unfold slab_open_w
  repeat' first
    | (refine fun r hr => ?_; subst hr)
    | refine ⟨(by first | exact wu32_bd _ | exact VS.get_bd _ _ | exact zero_bd | exact iVal_bd _ _ _ | exact nv_bd _ | (rw [info_Put_val]; exact iVal_bd _ _ _) | (rw [r09_Value_eq]; exact iVal_bd _ _ _) | assumption | omega), fun _ => ?_⟩
    | refine ⟨fun hc => ?_, fun hc => ?_⟩
    | (refine fun hr => ?_; subst hr)
    | fail
  all_goals
    simp only [link_page_eq, page_ne t p h, link_next, link_prev, place_Next_eq, place_Prev_eq, r07_Next_eq, r07_Prev_eq, link_to, w64g, w64g1, wrapu_nv, nvw, nvw2, bin_page, place_Info_eq, place_Foot_eq, r07_Info_eq, r07_Foot_eq, place_Bin_eq, r07_Bin_eq, info_Put_val, r09_Value_eq, bin_Of, r14_Of, infoG1, infoG2, infoG3, rinfoG1, rinfoG2, rinfoG3, gt_iff_lt, span_Take, r15_Take, span_Release, r15_Release, r14_Info, pInfo, Pg.run_get, Pg.run_ret, link_Push, link_Pull, r13_Push, r13_Pull, place_Rack_eq, place_Taken_eq, r07_Rack_eq, r07_Taken_eq, full_eq, slab_full, bne, Bool.not_eq_true', Bool.not_eq_false', reduceCtorEq] at *
  all_goals
    skip
  all_goals
    simp only [slab_open, pOpen, Pg.run_get, Pg.run_put, Pg.run_ret, Pg.run_bind, Pg.run_cond, gt_iff_lt, cond_true, cond_false, *]
  all_goals
    try rfl
theorem slab_open_ok : EntryOk Dg Tryz.prog 55 e_slab_open :=
  ent_wp Dg T_slab_full_ok (I := [2999998]) Tryz.func55 mix (B := bodyOf Tryz.f55) (by kernel_rfl) rfl (by kernel_rfl) 400
    fun p0 s t p h k hb hp => have hp0 : p ≤ 1024 := hp _ (.head _); ⟨[], fun j => List.getD [] j (fun _ => False), fun j => List.getD [] j (fun _ => (0, 0, 0)), by kernel_rfl, ⟨slab_open_w s t p h k  (fun r__ => r__ = (slab_open s t p h k)), fun _ _ _ => by kernel_rfl, slab_open_begin s t p h k hp0 ⟩, trivial⟩
def T_slab_open : List (Nat × Entry Sg) := (55, e_slab_open) :: T_slab_full
theorem T_slab_open_ok : TableOk Dg Tryz.prog T_slab_open := TableOk.cons Dg slab_open_ok T_slab_full_ok
def slab_Pick (s : VS) (t : Int) (p : Int) (h : Int) (k : Int) (w : Int) : VS × Int × List Int × Bool := (pPick ⟨t, p, h⟩ k w).run s
abbrev c_slab_Pick : Ct Sg := ⟨some wView, false, [.agg [.i .i64, .i .i64, .i .i64], .i .i64, .i .i64], .tup [.i .i64, .new 3 [some .i64], .b]⟩
def e_slab_Pick : Entry Sg := entC c_slab_Pick slab_Pick (fun s t p h k w => [p ≤ 1024])
def slab_Pick_w (s : VS) (t : Int) (p : Int) (h : Int) (k : Int) (w : Int) (R_ : VS × Int × List Int × Bool → Prop) : Prop := (bw_ (decide (k < (0 : Int)) || decide (k ≥ (9 : Int)) || decide (w < (1 : Int)) || decide (w > (4 : Int))) (R_ ((s, (-1 : Int), [], false))) (∀ r2 : VS × Int × Bool, r2 = (slab_open s t p h k) → (aw_ (p ≤ (1024 : Int)) (bw_ (!Prod.snd (Prod.snd r2)) (R_ ((Prod.fst r2, (-1 : Int), [], false))) (∀ r5 : Int, r5 = (place_Taken t p h (Prod.fst (Prod.snd r2))) → (∀ r6 : VS × Int, r6 = ((VS.read (Prod.fst r2) r5, VS.get (Prod.fst r2) r5)) → (∀ r7 : Int, r7 = (kSlots k) → (∀ r8 : List Int, r8 = (half_Free (Prod.snd r6) r7) → (bw_ ((↑(List.length r8) : Int) == (0 : Int)) (R_ ((Prod.fst r6, (-1 : Int), [], false))) (aw_ (((0 : Int) ≤ if (↑(List.length r8) : Int) < w then (↑(List.length r8) : Int) else w) ∧ (if (↑(List.length r8) : Int) < w then (↑(List.length r8) : Int) else w) ≤ (↑(List.length r8) : Int)) (∀ r12 : Int, r12 = (slab_bits (List.take (Int.toNat (if (↑(List.length r8) : Int) < w then (↑(List.length r8) : Int) else w)) r8)) → (aw_ (nnL (List.take (Int.toNat (if (↑(List.length r8) : Int) < w then (↑(List.length r8) : Int) else w)) r8)) (∀ r14 : Int, r14 = (place_Taken t p h (Prod.fst (Prod.snd r2))) → (∀ r15 : VS, r15 = (VS.set (Prod.fst r6) r14 (IntKind.wrap IntKind.u32 (↑(BitVec.toNat (BitVec.ofInt (32 : Nat) (Prod.snd r6) ||| BitVec.ofInt (32 : Nat) r12)) : Int))) → (aw_ (bd32 (IntKind.wrap IntKind.u32 (↑(BitVec.toNat (BitVec.ofInt (32 : Nat) (Prod.snd r6) ||| BitVec.ofInt (32 : Nat) r12)) : Int))) (∀ r17 : Bool, r17 = (slab_full (IntKind.wrap IntKind.u32 (↑(BitVec.toNat (BitVec.ofInt (32 : Nat) (Prod.snd r6) ||| BitVec.ofInt (32 : Nat) r12)) : Int)) k) → (aw_ (bd32 (IntKind.wrap IntKind.u32 (↑(BitVec.toNat (BitVec.ofInt (32 : Nat) (Prod.snd r6) ||| BitVec.ofInt (32 : Nat) r12)) : Int))) (bw_ (r17) (∀ r20 : VS, r20 = (link_Pull r15 t p h (place_Rack k) (Prod.fst (Prod.snd r2))) → (R_ ((r20, Prod.fst (Prod.snd r2), List.take (Int.toNat (if (↑(List.length r8) : Int) < w then (↑(List.length r8) : Int) else w)) r8, true)))) (R_ ((r15, Prod.fst (Prod.snd r2), List.take (Int.toNat (if (↑(List.length r8) : Int) < w then (↑(List.length r8) : Int) else w)) r8, true)))))))))))))))))))))
theorem slab_Pick_begin (s : VS) (t : Int) (p : Int) (h : Int) (k : Int) (w : Int) (hp0 : p ≤ 1024) : slab_Pick_w s t p h k w  (fun r__ => r__ = (slab_Pick s t p h k w)) := by
  unfold slab_Pick_w
  have hcond : (decide (k < 0) || decide (k ≥ 9) || decide (w < 1) || decide (w > 4)) = (decide (k < 0) || decide (9 ≤ k) || decide (w < 1) || decide (4 < w)) := by
    rfl
  rw [hcond]
  refine ⟨fun hc => ?_, fun hc => ?_⟩
  · show _ = slab_Pick s t p h k w
    rw [slab_Pick, pPick, hc]; rfl
  have hkw : (0 ≤ k ∧ k ≤ 8) ∧ 1 ≤ w ∧ w ≤ 4 := by
    simp only [Bool.or_eq_false_iff, decide_eq_false_iff_not] at hc; omega
  have hrun : slab_Pick s t p h k w = ((pOpen ⟨t, p, h⟩ k).bind fun r => bif r.2 then .get (Cf.taken ⟨t, p, h⟩ r.1) (pTakeS ⟨t, p, h⟩ r.1 k w) else .ret (-1, [], false)).run s := by
    rw [slab_Pick, pPick, hc]; rfl
  rw [Pg.run_bind] at hrun
  have e0 : slab_open s t p h k = (pOpen ⟨t, p, h⟩ k).run s := rfl
  rw [e0]
  generalize (pOpen ⟨t, p, h⟩ k).run s = o at hrun ⊢
  obtain ⟨s1, g, ok⟩ := o
  rintro r2 rfl
  refine ⟨hp0, fun _ => ⟨fun hn => ?_, fun hn => ?_⟩⟩
  · have hn' : ok = false := (Bool.not_eq_true' _).mp hn
    subst hn'
    exact hrun.symm
  have hn' : ok = true := (Bool.not_eq_false' _).mp hn
  subst hn'
  simp only [place_Taken_eq, place_Rack_eq]
  rintro r5 rfl r6 rfl r7 rfl r8 rfl
  have hrun : slab_Pick s t p h k w = (pTakeS ⟨t, p, h⟩ g k w (s1.get (Cf.taken ⟨t, p, h⟩ g))).run (s1.read (Cf.taken ⟨t, p, h⟩ g)) := hrun
  have hT : bd32 (s1.get (Cf.taken ⟨t, p, h⟩ g)) := VS.get_bd _ _
  simp only
  rw [half_Free_eq hT (kSlots_bd k).2]
  generalize s1.get (Cf.taken ⟨t, p, h⟩ g) = T at hrun hT ⊢
  generalize s1.read (Cf.taken ⟨t, p, h⟩ g) = u at hrun ⊢
  have hks := kSlots_bd k
  refine ⟨fun he => ?_, fun he => ⟨⟨by split <;> omega, by split <;> omega⟩, fun _ => ?_⟩⟩
  · show _ = slab_Pick s t p h k w
    rw [hrun, pTakeS, he]; rfl
  rw [take_if (by omega)]
  have hm : ∀ x ∈ (frL T (kSlots k)).take w.toNat, 0 ≤ x ∧ x < 32 := fun x hx => by
    have := frL_mem (List.mem_of_mem_take hx); omega
  rw [pTakeS, he, cond_false] at hrun
  generalize (frL T (kSlots k)).take w.toNat = l at hrun hm ⊢
  rintro r12 rfl
  refine ⟨fun x hx => (hm x hx).1, fun _ => ?_⟩
  rw [or_bits hT hm]
  have hb := (bitAt_addL hT hm).1
  rintro r14 rfl r15 rfl
  refine ⟨hb, fun _ => ?_⟩
  rintro r17 rfl
  refine ⟨hb, fun _ => ⟨fun hf => ?_, fun hf => ?_⟩⟩
  · rintro r20 rfl
    have hf : full (addL T l) k = true := hf
    show _ = slab_Pick s t p h k w
    rw [hrun, pPutS, hf]; simp only [Pg.run_put, Pg.run_bind, Pg.run_ret, cond_true, cond_false] <;> rfl
  · have hf : full (addL T l) k = false := hf
    show _ = slab_Pick s t p h k w
    rw [hrun, pPutS, hf]; simp only [Pg.run_put, Pg.run_bind, Pg.run_ret, cond_true, cond_false] <;> rfl
theorem slab_Pick_ok : EntryOk Dg Tryz.prog 16 e_slab_Pick :=
  ent_wp Dg T_slab_open_ok (I := [2999998]) Tryz.func16 mix (B := bodyOf Tryz.f16) (by kernel_rfl) rfl (by kernel_rfl) 400
    fun p0 s t p h k w hb hp => have hp0 : p ≤ 1024 := hp _ (.head _); ⟨[], fun j => List.getD [] j (fun _ => False), fun j => List.getD [] j (fun _ => (0, 0, 0)), by kernel_rfl, ⟨slab_Pick_w s t p h k w  (fun r__ => r__ = (slab_Pick s t p h k w)), fun _ _ _ => by kernel_rfl, slab_Pick_begin s t p h k w hp0 ⟩, trivial⟩
def T_slab_Pick : List (Nat × Entry Sg) := (16, e_slab_Pick) :: T_slab_open
theorem T_slab_Pick_ok : TableOk Dg Tryz.prog T_slab_Pick := TableOk.cons Dg slab_Pick_ok T_slab_open_ok
def slab_Give (s : VS) (t : Int) (p : Int) (h : Int) (g : Int) (b : Int) : VS := ((pGive ⟨t, p, h⟩ g b).run s).1
abbrev c_slab_Give : Ct Sg := ⟨some wView, false, [.agg [.i .i64, .i .i64, .i .i64], .i .i64, .i .i64], .skip⟩
def e_slab_Give : Entry Sg := entC c_slab_Give slab_Give (fun s t p h g b => [p ≤ 1024, 0 ≤ g])
def slab_Give_w (s : VS) (t : Int) (p : Int) (h : Int) (g : Int) (b : Int) (R_ : VS → Prop) : Prop := (bw_ (decide (b < (0 : Int)) || decide (b ≥ (32 : Int))) (R_ (s)) (∀ r2 : Int, r2 = (place_Info t p h g) → (∀ r3 : VS × Int, r3 = ((VS.read s r2, VS.get s r2)) → (∀ r4 : Int × Int × Int × Bool, r4 = (info_Get (Prod.snd r3)) → (∀ r6 : Int, r6 = (place_Rack (Prod.fst (Prod.snd (Prod.snd r4)))) → (∀ r7 : Int, r7 = (place_Taken t p h g) → (∀ r8 : VS × Int, r8 = ((VS.read (Prod.fst r3) r7, VS.get (Prod.fst r3) r7)) → (∀ r10 : Int, r10 = (slab_bits [b]) → (aw_ (nnL [b]) (∀ r12 : Bool, r12 = (slab_full (Prod.snd r8) (Prod.fst (Prod.snd (Prod.snd r4)))) → (aw_ (bd32 (Prod.snd r8)) (bw_ (IntKind.wrap IntKind.u32 (↑(BitVec.toNat (BitVec.ofInt (32 : Nat) (Prod.snd r8) &&& ~~~BitVec.ofInt (32 : Nat) r10)) : Int) != (0 : Int)) (∀ r15 : Int, r15 = (place_Taken t p h g) → (∀ r16 : VS, r16 = (VS.set (Prod.fst r8) r15 (IntKind.wrap IntKind.u32 (↑(BitVec.toNat (BitVec.ofInt (32 : Nat) (Prod.snd r8) &&& ~~~BitVec.ofInt (32 : Nat) r10)) : Int))) → (aw_ (bd32 (IntKind.wrap IntKind.u32 (↑(BitVec.toNat (BitVec.ofInt (32 : Nat) (Prod.snd r8) &&& ~~~BitVec.ofInt (32 : Nat) r10)) : Int))) (bw_ (r12) (∀ r19 : VS, r19 = (link_Push r16 t p h r6 g) → (R_ (r19))) (R_ (r16)))))) (bw_ (!r12) (∀ r16 : VS, r16 = (link_Pull (Prod.fst r8) t p h r6 g) → (∀ r17 : Int, r17 = (place_Taken t p h g) → (∀ r18 : VS, r18 = (VS.set r16 r17 (0 : Int)) → (aw_ (bd32 (0 : Int)) (∀ r20 : VS, r20 = (span_Release r18 t p h g (1 : Int)) → (aw_ (p ≤ (1024 : Int)) (aw_ ((0 : Int) ≤ g) (R_ (r20))))))))) (∀ r16 : Int, r16 = (place_Taken t p h g) → (∀ r17 : VS, r17 = (VS.set (Prod.fst r8) r16 (0 : Int)) → (aw_ (bd32 (0 : Int)) (∀ r19 : VS, r19 = (span_Release r17 t p h g (1 : Int)) → (aw_ (p ≤ (1024 : Int)) (aw_ ((0 : Int) ≤ g) (R_ (r19)))))))))))))))))))))
theorem slab_Give_begin (s : VS) (t : Int) (p : Int) (h : Int) (g : Int) (b : Int) (hp0 : p ≤ 1024) (hp1 : 0 ≤ g) : slab_Give_w s t p h g b  (fun r__ => r__ = (slab_Give s t p h g b)) := by
  unfold slab_Give_w
  refine ⟨fun hc => ?_, fun hc => ?_⟩
  · have hc : (decide (b < 0) || decide (32 ≤ b)) = true := hc
    show _ = slab_Give s t p h g b
    rw [slab_Give, pGive, hc]; rfl
  have hb : 0 ≤ b ∧ b < 32 := by simp only [Bool.or_eq_false_iff, decide_eq_false_iff_not] at hc; omega
  have hc : (decide (b < 0) || decide (32 ≤ b)) = false := hc
  simp only [place_Taken_eq, place_Rack_eq, place_Info_eq]
  rintro r2 rfl r3 rfl r4 rfl r6 rfl r7 rfl r8 rfl r10 rfl
  refine ⟨fun x hx => by rw [List.mem_singleton] at hx; omega, fun _ => ?_⟩
  simp only [infoG1, infoG2, infoG3]
  have hT := VS.get_bd (s.read (Cf.info ⟨t, p, h⟩ g)) (Cf.taken ⟨t, p, h⟩ g)
  rw [and_bits hT hb]
  have hu := (bitAt_subB hT hb).1
  have hrun : slab_Give s t p h g b = ((pGive ⟨t, p, h⟩ g b).run s).1 := rfl
  unfold pGive at hrun
  rw [hc, cond_false, Pg.run_bind] at hrun
  simp only [pInfo, Pg.run_get, Pg.run_ret] at hrun
  generalize (s.read (Cf.info ⟨t, p, h⟩ g)).get (Cf.taken ⟨t, p, h⟩ g) = T at hrun hT hu ⊢
  generalize (s.read (Cf.info ⟨t, p, h⟩ g)).read (Cf.taken ⟨t, p, h⟩ g) = u at hrun ⊢
  generalize (iGet (s.get (Cf.info ⟨t, p, h⟩ g))).c = k at hrun ⊢
  rintro r12 rfl
  refine ⟨hT, fun _ => ⟨fun hz => ?_, fun hz => ?_⟩⟩
  · have hz : (subB T b == 0) = false := by simpa using hz
    rw [hz] at hrun
    rintro r15 rfl r16 rfl
    refine ⟨hu, fun _ => ⟨fun hf => ?_, fun hf => ?_⟩⟩
    · rintro r19 rfl
      have hf : full T k = true := hf
      rw [hf] at hrun; (simp only [Pg.run_put, Pg.run_bind, Pg.run_ret, cond_true, cond_false] at hrun; exact hrun.symm)
    · have hf : full T k = false := hf
      rw [hf] at hrun; (simp only [Pg.run_put, Pg.run_bind, Pg.run_ret, cond_true, cond_false] at hrun; exact hrun.symm)
  · have hz : (subB T b == 0) = true := by simpa using hz
    rw [hz] at hrun
    refine ⟨fun hf => ?_, fun hf => ?_⟩
    · have hf : full T k = false := (Bool.not_eq_true' _).mp hf
      rw [hf] at hrun
      rintro r16 rfl r17 rfl r18 rfl
      refine ⟨⟨by decide, by decide⟩, fun _ => ?_⟩
      rintro r20 rfl
      exact ⟨hp0, fun _ => ⟨hp1, fun _ => by simp only [Pg.run_put, Pg.run_bind, Pg.run_ret, cond_true, cond_false] at hrun; exact hrun.symm⟩⟩
    · have hf : full T k = true := (Bool.not_eq_false' _).mp hf
      rw [hf] at hrun
      rintro r16 rfl r17 rfl
      refine ⟨⟨by decide, by decide⟩, fun _ => ?_⟩
      rintro r19 rfl
      exact ⟨hp0, fun _ => ⟨hp1, fun _ => by simp only [Pg.run_put, Pg.run_bind, Pg.run_ret, cond_true, cond_false] at hrun; exact hrun.symm⟩⟩
theorem slab_Give_ok : EntryOk Dg Tryz.prog 30 e_slab_Give :=
  ent_wp Dg T_slab_Pick_ok (I := [2999998]) Tryz.func30 mix (B := bodyOf Tryz.f30) (by kernel_rfl) rfl (by kernel_rfl) 400
    fun p0 s t p h g b hb hp => have hp0 : p ≤ 1024 := hp _ (.head _); have hp1 : 0 ≤ g := hp _ (.tail _ (.head _)); ⟨[], fun j => List.getD [] j (fun _ => False), fun j => List.getD [] j (fun _ => (0, 0, 0)), by kernel_rfl, ⟨slab_Give_w s t p h g b  (fun r__ => r__ = (slab_Give s t p h g b)), fun _ _ _ => by kernel_rfl, slab_Give_begin s t p h g b hp0 hp1 ⟩, trivial⟩
def T_slab_Give : List (Nat × Entry Sg) := (30, e_slab_Give) :: T_slab_Pick
theorem T_slab_Give_ok : TableOk Dg Tryz.prog T_slab_Give := TableOk.cons Dg slab_Give_ok T_slab_Pick_ok
def r16_Pick (s : VS) (t : Int) (p : Int) (h : Int) (k : Int) (w : Int) : VS × Int × List Int × Bool := (pPick ⟨t, p, h⟩ k w).run s
abbrev c_r16_Pick : Ct Sg := ⟨some wRef, false, [.agg [.i .i64, .i .i64, .i .i64], .i .i64, .i .i64], .tup [.i .i64, .new 3 [some .i64], .b]⟩
def e_r16_Pick : Entry Sg := entC c_r16_Pick r16_Pick (fun s t p h k w => [p ≤ 1024])
def r16_Pick_w (s : VS) (t : Int) (p : Int) (h : Int) (k : Int) (w : Int) (Q0 : VS → Int → Int → Nat → List Int → Int → Prop) (Q1 : VS → Int → Int → Nat → List Int → Int → Prop) (R_ : VS × Int × List Int × Bool → Prop) : Prop := (bw_ (decide (k < (0 : Int)) || decide (k > (8 : Int)) || decide (w < (1 : Int)) || decide (w > (4 : Int))) (R_ ((s, (-1 : Int), [], false))) (∀ r2 : Int, r2 = (r07_Rack k) → (∀ r3 : VS × Int, r3 = ((VS.read s r2, VS.get s r2)) → (bw_ (Prod.snd r3 == (0 : Int)) (∀ r5 : VS × Int × Bool, r5 = (r15_Take (Prod.fst r3) t p h (1 : Int)) → (aw_ (p ≤ (1024 : Int)) (bw_ (!Prod.snd (Prod.snd r5)) (R_ ((Prod.fst r5, (-1 : Int), [], false))) (∀ r8 : Int, r8 = (r07_Info t p h (Prod.fst (Prod.snd r5))) → (∀ r9 : Int, r9 = (r09_Value (3 : Int) (1 : Int) k) → (∀ r10 : VS, r10 = (VS.set (Prod.fst r5) r8 r9) → (aw_ (bd32 r9) (∀ r12 : VS, r12 = (r13_Push r10 t p h (r07_Rack k) (Prod.fst (Prod.snd r5))) → (∀ r13 : Int, r13 = (r07_Taken t p h (Prod.fst (Prod.snd r5))) → (∀ r14 : VS × Int, r14 = ((VS.read r12 r13, VS.get r12 r13)) → (Q0 (Prod.fst r14) (Prod.fst (Prod.snd r5)) (Prod.snd r14) ((0 : Nat)) ([]) ((0 : Int))))))))))))) (∀ r5 : Int, r5 = (r07_Taken t p h (IntKind.wrap IntKind.i64 (IntKind.wrap IntKind.i64 (Prod.snd r3) - (1 : Int)))) → (∀ r6 : VS × Int, r6 = ((VS.read (Prod.fst r3) r5, VS.get (Prod.fst r3) r5)) → (Q0 (Prod.fst r6) (IntKind.wrap IntKind.i64 (IntKind.wrap IntKind.i64 (Prod.snd r3) - (1 : Int))) (Prod.snd r6) ((0 : Nat)) ([]) ((0 : Int)))))))))
def r16_Pick_w0 (s : VS) (t : Int) (p : Int) (h : Int) (k : Int) (w : Int) (u : VS) (g : Int) (tt : Int) (no : Nat) (l : List Int) (i : Int) (Q0 : VS → Int → Int → Nat → List Int → Int → Prop) (Q1 : VS → Int → Int → Nat → List Int → Int → Prop) (R_ : VS × Int × List Int × Bool → Prop) : Prop := (∀ r0 : Int, r0 = (r05_Slots k) → (bw_ (decide (i < r0) && decide ((↑no : Int) < w)) (∀ r2 : Bool, r2 = (r01_Bit tt i) → (bw_ (!r2) (aw_ ((no + (1 : Nat)) * (8 : Nat) ≤ (140737488355328 : Nat)) (Q0 (u) (g) (tt) (no + (1 : Nat)) (l ++ [i]) (IntKind.wrap IntKind.i64 (i + (1 : Int))))) (Q0 (u) (g) (tt) (no) (l) (IntKind.wrap IntKind.i64 (i + (1 : Int)))))) (bw_ ((↑no : Int) == (0 : Int)) (R_ ((u, (-1 : Int), [], false))) (Q1 (u) (g) (tt) (no) (l) ((0 : Int))))))
def r16_Pick_I0 (s : VS) (t : Int) (p : Int) (h : Int) (k : Int) (w : Int) (u : VS) (g : Int) (tt : Int) (no : Nat) (l : List Int) (i : Int) (r_ : VS × Int × List Int × Bool) : Prop := (0 ≤ k ∧ k ≤ 8 ∧ 1 ≤ w ∧ w ≤ 4 ∧ p ≤ 1024) ∧ bd32 tt ∧ 0 ≤ i ∧ i ≤ kSlots k ∧ no = l.length ∧ l = frL tt i ∧ (l.length : Int) ≤ w ∧ r_ = (pTakeS ⟨t, p, h⟩ g k w tt).run u
def r16_Pick_w1 (s : VS) (t : Int) (p : Int) (h : Int) (k : Int) (w : Int) (u : VS) (g : Int) (tt : Int) (no : Nat) (l : List Int) (i : Int) (Q0 : VS → Int → Int → Nat → List Int → Int → Prop) (Q1 : VS → Int → Int → Nat → List Int → Int → Prop) (R_ : VS × Int × List Int × Bool → Prop) : Prop := (bw_ (decide (i < (↑no : Int))) (aw_ ((0 : Int) ≤ i ∧ i < (↑no : Int)) (∀ r2 : Int, r2 = (r16_Bit (List.getD l (Int.toNat i) (0 : Int))) → (Q1 (u) (g) (IntKind.wrap IntKind.u32 (tt + r2)) (no) (l) (IntKind.wrap IntKind.i64 (i + (1 : Int)))))) (∀ r1 : Int, r1 = (r07_Taken t p h g) → (∀ r2 : VS, r2 = (VS.set u r1 tt) → (aw_ (bd32 tt) (∀ r4 : Bool, r4 = (r12_Full tt k) → (aw_ (bd32 tt) (bw_ (r4) (∀ r7 : VS, r7 = (r13_Pull r2 t p h (r07_Rack k) g) → (R_ ((r7, g, l, true)))) (R_ ((r2, g, l, true))))))))))
def r16_Pick_I1 (s : VS) (t : Int) (p : Int) (h : Int) (k : Int) (w : Int) (u : VS) (g : Int) (tt : Int) (no : Nat) (l : List Int) (i : Int) (r_ : VS × Int × List Int × Bool) : Prop := (0 ≤ k ∧ k ≤ 8 ∧ p ≤ 1024) ∧ ∃ t0, bd32 t0 ∧ 0 ≤ i ∧ i ≤ l.length ∧ l.length ≤ 32 ∧ no = l.length ∧ l ≠ [] ∧ (∀ x ∈ l, 0 ≤ x ∧ x < kSlots k ∧ bitAt t0 x = false) ∧ l.Pairwise (· < ·) ∧ tt = addL t0 (l.take i.toNat) ∧ r_ = (pPutS ⟨t, p, h⟩ g k t0 l).run u
theorem r16_Pick_begin (s : VS) (t : Int) (p : Int) (h : Int) (k : Int) (w : Int) (hp0 : p ≤ 1024) : r16_Pick_w s t p h k w (fun u' g' tt' no' l' i' => r16_Pick_I0 s t p h k w u' g' tt' no' l' i' (r16_Pick s t p h k w)) (fun u' g' tt' no' l' i' => r16_Pick_I1 s t p h k w u' g' tt' no' l' i' (r16_Pick s t p h k w)) (fun r__ => r__ = (r16_Pick s t p h k w)) := by
  unfold r16_Pick_w
  try unfold r16_Pick_I0
  try unfold r16_Pick_I1
  have hcond : (decide (k < 0) || decide (k > 8) || decide (w < 1) || decide (w > 4)) = (decide (k < 0) || decide (9 ≤ k) || decide (w < 1) || decide (4 < w)) := by
    apply Bool.eq_iff_iff.2
    simp only [Bool.or_eq_true, decide_eq_true_eq]; omega
  rw [hcond]
  refine ⟨fun hc => ?_, fun hc => ?_⟩
  · show _ = r16_Pick s t p h k w
    rw [r16_Pick, pPick, hc]; rfl
  have hkw : (0 ≤ k ∧ k ≤ 8) ∧ 1 ≤ w ∧ w ≤ 4 := by
    simp only [Bool.or_eq_false_iff, decide_eq_false_iff_not] at hc; omega
  have hrun : r16_Pick s t p h k w = ((pOpen ⟨t, p, h⟩ k).bind fun r => bif r.2 then .get (Cf.taken ⟨t, p, h⟩ r.1) (pTakeS ⟨t, p, h⟩ r.1 k w) else .ret (-1, [], false)).run s := by
    rw [r16_Pick, pPick, hc]; rfl
  rw [Pg.run_bind] at hrun
  simp only [r07_Taken_eq, r07_Rack_eq, r07_Info_eq, r09_Value_eq]
  rintro r2 rfl r3 rfl
  have fin : ∀ (u : VS) (g T : Int), bd32 T → r16_Pick s t p h k w = (pTakeS ⟨t, p, h⟩ g k w T).run u → (r16_Pick_I0 s t p h k w u g T 0 [] 0 (r16_Pick s t p h k w)) := fun u g T hT e =>
    ⟨⟨by omega, by omega, by omega, by omega, hp0⟩, hT, Int.le_refl _, (kSlots_bd k).1, rfl, rfl, by simp; omega, e⟩
  refine ⟨fun hq => ?_, fun hq => ?_⟩
  · rintro r5 rfl
    refine ⟨hp0, fun _ => ⟨fun hn => ?_, fun hn => ?_⟩⟩
    · have hn' : ((qTake ⟨t, p, h⟩ 1).run (s.read (cRack k))).2.2 = false := (Bool.not_eq_true' _).mp hn
      show _ = r16_Pick s t p h k w
      rw [hrun, pOpen, Pg.run_get, show (s.get (cRack k) == 0) = true from hq, cond_true, Pg.run_bind, hn']; simp only [Pg.run_put, Pg.run_bind, Pg.run_ret, cond_true, cond_false] <;> rfl
    · have hn' : ((qTake ⟨t, p, h⟩ 1).run (s.read (cRack k))).2.2 = true := (Bool.not_eq_false' _).mp hn
      rintro r8 rfl r9 rfl r10 rfl
      refine ⟨iVal_bd _ _ _, fun _ => ?_⟩
      rintro r12 rfl r13 rfl r14 rfl
      refine fin _ _ _ (VS.get_bd _ _) ?_
      rw [hrun, pOpen, Pg.run_get, show (s.get (cRack k) == 0) = true from hq, cond_true, Pg.run_bind, hn']; simp only [Pg.run_put, Pg.run_bind, Pg.run_ret, cond_true, cond_false] <;> rfl
  · rintro r5 rfl r6 rfl
    have eq1 : IntKind.wrap IntKind.i64 (IntKind.wrap IntKind.i64 (s.get (cRack k)) - 1) = s.get (cRack k) - 1 := by
      have := VS.get_bd s (cRack k)
      rw [w64 (n := s.get (cRack k)) (by omega), w64 (by omega)]
    simp only [eq1]
    refine fin _ _ _ (VS.get_bd _ _) ?_
    rw [hrun, pOpen, Pg.run_get, show (s.get (cRack k) == 0) = false from hq]; rfl
theorem r16_Pick_step0 (s : VS) (t : Int) (p : Int) (h : Int) (k : Int) (w : Int) (hp0 : p ≤ 1024) (u : VS) (g : Int) (tt : Int) (no : Nat) (l : List Int) (i : Int) {r_ : VS × Int × List Int × Bool} (hI : r16_Pick_I0 s t p h k w u g tt no l i r_) : r16_Pick_w0 s t p h k w u g tt no l i (fun u' g' tt' no' l' i' => r16_Pick_I0 s t p h k w u' g' tt' no' l' i' r_ ∧ lx ((kSlots k - i').toNat + 40, 0, 0) ((kSlots k - i).toNat + 40, 0, 0)) (fun u' g' tt' no' l' i' => r16_Pick_I1 s t p h k w u' g' tt' no' l' i' r_ ∧ lx ((l'.length - i').toNat, 0, 0) ((kSlots k - i).toNat + 40, 0, 0)) (fun r__ => r__ = r_) := by
  unfold r16_Pick_I0 at hI
  unfold r16_Pick_w0
  try unfold r16_Pick_I0
  try unfold r16_Pick_I1
  obtain ⟨hk, ht, h0, h1, h2, h3, h4, hr⟩ := hI
  have hks := kSlots_bd k
  have hlen : l.length ≤ i.toNat := by rw [h3]; exact frL_len _ _
  rintro r0 rfl
  rw [r05_Slots_eq]
  refine ⟨fun hc => ?_, fun hc => ?_⟩
  · simp only [Bool.and_eq_true, decide_eq_true_eq] at hc
    rintro r2 rfl
    rw [bit_eq ht, w64 (n := i + 1) (by omega)]
    refine ⟨fun hb => ⟨by omega, fun _ => ⟨⟨hk, ht, by omega, by omega, by simp [h2], ?_, by simp; omega, hr⟩, lxo_⟩⟩, fun hb => ⟨⟨hk, ht, by omega, by omega, h2, ?_, h4, hr⟩, lxo_⟩⟩
    · rw [frL_succ _ h0, if_pos ((Bool.not_eq_true' _).mp hb), h3]
    · rw [frL_succ _ h0, if_neg (by rw [(Bool.not_eq_false' _).mp hb]; simp), List.append_nil]; exact h3
  · have key : (frL tt (kSlots k)).take w.toNat = l := by
      rw [h3]
      refine frL_take h0 h1 (by rw [← h3]; exact h4) ?_
      rw [← h3]
      simp only [Bool.and_eq_false_iff, decide_eq_false_iff_not] at hc
      omega
    have hz : ((frL tt (kSlots k)).length : Int) == 0 ↔ l = [] := by
      rw [← key]
      simp only [beq_iff_eq]
      constructor
      · intro e; rw [List.eq_nil_of_length_eq_zero (l := frL tt (kSlots k)) (by omega)]; simp
      · intro e
        have := congrArg List.length e
        rw [List.length_take, List.length_nil] at this
        omega
    refine ⟨fun he => ?_, fun he => ?_⟩
    · have hl : l = [] := List.eq_nil_of_length_eq_zero (by have : (no : Int) = 0 := by simpa using he
                                                            omega)
      show _ = r_
      rw [hr, pTakeS, hz.2 hl]; rfl
    · have hl : l ≠ [] := fun e => by rw [h2, e] at he; simp at he
      have hzf : (((frL tt (kSlots k)).length : Int) == 0) = false := by
        cases hq : (((frL tt (kSlots k)).length : Int) == 0) with
        | false => rfl
        | true => exact absurd (hz.1 hq) hl
      rw [pTakeS, hzf, cond_false, key] at hr
      refine ⟨⟨⟨hk.1, hk.2.1, hk.2.2.2.2⟩, tt, ht, Int.le_refl _, by omega, by omega, h2, hl, fun x hx => ?_, ?_, rfl, hr⟩, lxo_⟩
      · rw [h3] at hx
        have := frL_mem hx
        exact ⟨this.1, by omega, this.2.2⟩
      · rw [h3]; exact frN_sorted _ _
theorem r16_Pick_step1 (s : VS) (t : Int) (p : Int) (h : Int) (k : Int) (w : Int) (hp0 : p ≤ 1024) (u : VS) (g : Int) (tt : Int) (no : Nat) (l : List Int) (i : Int) {r_ : VS × Int × List Int × Bool} (hI : r16_Pick_I1 s t p h k w u g tt no l i r_) : r16_Pick_w1 s t p h k w u g tt no l i (fun u' g' tt' no' l' i' => r16_Pick_I0 s t p h k w u' g' tt' no' l' i' r_ ∧ lx ((kSlots k - i').toNat + 40, 0, 0) ((l.length - i).toNat, 0, 0)) (fun u' g' tt' no' l' i' => r16_Pick_I1 s t p h k w u' g' tt' no' l' i' r_ ∧ lx ((l'.length - i').toNat, 0, 0) ((l.length - i).toNat, 0, 0)) (fun r__ => r__ = r_) := by
  unfold r16_Pick_I1 at hI
  unfold r16_Pick_w1
  try unfold r16_Pick_I0
  try unfold r16_Pick_I1
  obtain ⟨hk, t0, ht0, h0, h1, h32, h2, hne, hm, hs, htt, hr⟩ := hI
  have hks := kSlots_bd k
  have hbd : ∀ x ∈ l, 0 ≤ x ∧ x < 32 := fun x hx => by have := hm x hx; omega
  have hbt := bitAt_addL (l := l.take i.toNat) ht0 (fun x hx => hbd x (List.mem_of_mem_take hx))
  rw [← htt] at hbt
  refine ⟨fun hc => ?_, fun hc => ?_⟩
  · simp only [decide_eq_true_eq] at hc
    refine ⟨by omega, fun _ => ?_⟩
    rintro r2 rfl
    have hx := hm (l.getD i.toNat 0) (getD_mem (by omega))
    have hnb : bitAt tt (l.getD i.toNat 0) = false := by rw [hbt.2, hx.2.2, not_take hs (by omega)]; rfl
    rw [w64 (n := i + 1) (by omega), add_bit hbt.1 (hbd _ (getD_mem (by omega))) hnb]
    refine ⟨⟨hk, t0, ht0, by omega, by omega, h32, h2, hne, hm, hs, ?_, hr⟩, lxo_⟩
    rw [toNat_succ h0, take_snocB (by omega), addL, List.foldl_append, htt]; rfl
  · simp only [decide_eq_false_iff_not] at hc
    have e : l.take i.toNat = l := List.take_of_length_le (by omega)
    rw [e] at htt
    simp only [r07_Taken_eq, r07_Rack_eq]
    rintro r1 rfl r2 rfl
    refine ⟨hbt.1, fun _ => ?_⟩
    rintro r4 rfl
    rw [full_eq, htt]
    rw [htt] at hbt
    refine ⟨hbt.1, fun _ => ⟨fun hf => ?_, fun hf => ?_⟩⟩
    · rintro r7 rfl
      show _ = r_
      rw [hr, pPutS, hf]; simp only [Pg.run_put, Pg.run_bind, Pg.run_ret, cond_true, cond_false] <;> rfl
    · show _ = r_
      rw [hr, pPutS, hf]; simp only [Pg.run_put, Pg.run_bind, Pg.run_ret, cond_true, cond_false] <;> rfl
theorem r16_Pick_ok : EntryOk Dg Tryz.prog 17 e_r16_Pick :=
  ent_wp Dg T_slab_Give_ok (I := [2999998, 1657000000000, 1657000000005, 1657000000002, 1657000000003, 1657000000012, 1657000000015, 1657000000016, 1657000000017, 6561000000000, 6561000000005, 6561000000002, 6561000000012, 6561000000015, 6561000000016, 6561000000018]) Tryz.func17 mix (B := bodyOf Tryz.f17) (by kernel_rfl) rfl (by kernel_rfl) 400
    fun p0 s t p h k w hb hp => have hp0 : p ≤ 1024 := hp _ (.head _); ⟨[⟨none, [0,1,0,1,1,1,1,1,1,1], [.blk 0, .code [1,1,1,1,1,1,1,1]], [0, 5, 2, 3, 12, 15, 16, 17], [.objc wRef p0, .box 23 [.ic .i64 (t), .ic .i64 (p), .ic .i64 (h)], .ic .i64 (k), .ic .i64 (w), .i .i64, .i .u32, .own 3 [some .i64], .i .i64]⟩, ⟨none, [0,1,0,1,1,1,1,1,1,1,1,1], [.blk 2, .code [1,1,1,1,1,1,1,1,1,1]], [0, 5, 2, 12, 15, 16, 18], [.objc wRef p0, .box 23 [.ic .i64 (t), .ic .i64 (p), .ic .i64 (h)], .ic .i64 (k), .i .i64, .i .u32, .own 3 [some .i64], .i .i64]⟩], fun j => List.getD [appC (Hd.kd (⟨none, [0,1,0,1,1,1,1,1,1,1], [.blk 0, .code [1,1,1,1,1,1,1,1]], [0, 5, 2, 3, 12, 15, 16, 17], [.objc wRef p0, .box 23 [.ic .i64 (t), .ic .i64 (p), .ic .i64 (h)], .ic .i64 (k), .ic .i64 (w), .i .i64, .i .u32, .own 3 [some .i64], .i .i64]⟩ : Hd Sg)) (fun u' g' tt' no' l' i' => r16_Pick_I0 s t p h k w u' g' tt' no' l' i' (r16_Pick s t p h k w)), appC (Hd.kd (⟨none, [0,1,0,1,1,1,1,1,1,1,1,1], [.blk 2, .code [1,1,1,1,1,1,1,1,1,1]], [0, 5, 2, 12, 15, 16, 18], [.objc wRef p0, .box 23 [.ic .i64 (t), .ic .i64 (p), .ic .i64 (h)], .ic .i64 (k), .i .i64, .i .u32, .own 3 [some .i64], .i .i64]⟩ : Hd Sg)) (fun u' g' tt' no' l' i' => r16_Pick_I1 s t p h k w u' g' tt' no' l' i' (r16_Pick s t p h k w))] j (fun _ => False), fun j => List.getD [appC (Hd.kd (⟨none, [0,1,0,1,1,1,1,1,1,1], [.blk 0, .code [1,1,1,1,1,1,1,1]], [0, 5, 2, 3, 12, 15, 16, 17], [.objc wRef p0, .box 23 [.ic .i64 (t), .ic .i64 (p), .ic .i64 (h)], .ic .i64 (k), .ic .i64 (w), .i .i64, .i .u32, .own 3 [some .i64], .i .i64]⟩ : Hd Sg)) (fun u' g' tt' no' l' i' => ((kSlots k - i').toNat + 40, 0, 0)), appC (Hd.kd (⟨none, [0,1,0,1,1,1,1,1,1,1,1,1], [.blk 2, .code [1,1,1,1,1,1,1,1,1,1]], [0, 5, 2, 12, 15, 16, 18], [.objc wRef p0, .box 23 [.ic .i64 (t), .ic .i64 (p), .ic .i64 (h)], .ic .i64 (k), .i .i64, .i .u32, .own 3 [some .i64], .i .i64]⟩ : Hd Sg)) (fun u' g' tt' no' l' i' => ((l'.length - i').toNat, 0, 0))] j (fun _ => (0, 0, 0)), by kernel_rfl, ⟨r16_Pick_w s t p h k w (fun u' g' tt' no' l' i' => r16_Pick_I0 s t p h k w u' g' tt' no' l' i' (r16_Pick s t p h k w)) (fun u' g' tt' no' l' i' => r16_Pick_I1 s t p h k w u' g' tt' no' l' i' (r16_Pick s t p h k w)) (fun r__ => r__ = (r16_Pick s t p h k w)), fun _ _ _ => by kernel_rfl, r16_Pick_begin s t p h k w hp0 ⟩, ⟨fun u g tt no l i hI => ⟨r16_Pick_w0 s t p h k w u g tt no l i (fun u' g' tt' no' l' i' => r16_Pick_I0 s t p h k w u' g' tt' no' l' i' (r16_Pick s t p h k w) ∧ lx ((kSlots k - i').toNat + 40, 0, 0) ((kSlots k - i).toNat + 40, 0, 0)) (fun u' g' tt' no' l' i' => r16_Pick_I1 s t p h k w u' g' tt' no' l' i' (r16_Pick s t p h k w) ∧ lx ((l'.length - i').toNat, 0, 0) ((kSlots k - i).toNat + 40, 0, 0)) (fun r__ => r__ = (r16_Pick s t p h k w)), fun _ _ _ => by kernel_rfl, r16_Pick_step0 s t p h k w hp0 u g tt no l i hI⟩, ⟨fun u g tt no l i hI => ⟨r16_Pick_w1 s t p h k w u g tt no l i (fun u' g' tt' no' l' i' => r16_Pick_I0 s t p h k w u' g' tt' no' l' i' (r16_Pick s t p h k w) ∧ lx ((kSlots k - i').toNat + 40, 0, 0) ((l.length - i).toNat, 0, 0)) (fun u' g' tt' no' l' i' => r16_Pick_I1 s t p h k w u' g' tt' no' l' i' (r16_Pick s t p h k w) ∧ lx ((l'.length - i').toNat, 0, 0) ((l.length - i).toNat, 0, 0)) (fun r__ => r__ = (r16_Pick s t p h k w)), fun _ _ _ => by kernel_rfl, r16_Pick_step1 s t p h k w hp0 u g tt no l i hI⟩, trivial⟩⟩⟩
def T_r16_Pick : List (Nat × Entry Sg) := (17, e_r16_Pick) :: T_slab_Give
theorem T_r16_Pick_ok : TableOk Dg Tryz.prog T_r16_Pick := TableOk.cons Dg r16_Pick_ok T_slab_Give_ok
def r16_Give (s : VS) (t : Int) (p : Int) (h : Int) (g : Int) (b : Int) : VS := ((pGive ⟨t, p, h⟩ g b).run s).1
abbrev c_r16_Give : Ct Sg := ⟨some wRef, false, [.agg [.i .i64, .i .i64, .i .i64], .i .i64, .i .i64], .skip⟩
def e_r16_Give : Entry Sg := entC c_r16_Give r16_Give (fun s t p h g b => [p ≤ 1024, 0 ≤ g])
def r16_Give_w (s : VS) (t : Int) (p : Int) (h : Int) (g : Int) (b : Int) (R_ : VS → Prop) : Prop := (bw_ (decide (b < (0 : Int)) || decide (b > (31 : Int))) (R_ (s)) (∀ r2 : VS × Int × Int × Int, r2 = (r14_Info s t p h g) → (∀ r3 : Int, r3 = (r07_Taken t p h g) → (∀ r4 : VS × Int, r4 = ((VS.read (Prod.fst r2) r3, VS.get (Prod.fst r2) r3)) → (∀ r5 : Bool, r5 = (r01_Bit (Prod.snd r4) b) → (bw_ (r5) (∀ r7 : Int, r7 = (r16_Bit b) → (bw_ (IntKind.wrap IntKind.u32 (Prod.snd r4 - r7) == (0 : Int)) (∀ r9 : Bool, r9 = (r12_Full (Prod.snd r4) (Prod.snd (Prod.snd (Prod.snd r2)))) → (aw_ (bd32 (Prod.snd r4)) (bw_ (!r9) (∀ r12 : VS, r12 = (r13_Pull (Prod.fst r4) t p h (r07_Rack (Prod.snd (Prod.snd (Prod.snd r2)))) g) → (∀ r13 : Int, r13 = (r07_Taken t p h g) → (∀ r14 : VS, r14 = (VS.set r12 r13 (0 : Int)) → (aw_ (bd32 (0 : Int)) (∀ r16 : VS, r16 = (r15_Release r14 t p h g (1 : Int)) → (aw_ (p ≤ (1024 : Int)) (aw_ ((0 : Int) ≤ g) (R_ (r16))))))))) (∀ r12 : Int, r12 = (r07_Taken t p h g) → (∀ r13 : VS, r13 = (VS.set (Prod.fst r4) r12 (0 : Int)) → (aw_ (bd32 (0 : Int)) (∀ r15 : VS, r15 = (r15_Release r13 t p h g (1 : Int)) → (aw_ (p ≤ (1024 : Int)) (aw_ ((0 : Int) ≤ g) (R_ (r15))))))))))) (∀ r9 : Int, r9 = (r07_Taken t p h g) → (∀ r10 : VS, r10 = (VS.set (Prod.fst r4) r9 (IntKind.wrap IntKind.u32 (Prod.snd r4 - r7))) → (aw_ (bd32 (IntKind.wrap IntKind.u32 (Prod.snd r4 - r7))) (∀ r12 : Bool, r12 = (r12_Full (Prod.snd r4) (Prod.snd (Prod.snd (Prod.snd r2)))) → (aw_ (bd32 (Prod.snd r4)) (bw_ (r12) (∀ r15 : VS, r15 = (r13_Push r10 t p h (r07_Rack (Prod.snd (Prod.snd (Prod.snd r2)))) g) → (R_ (r15))) (R_ (r10)))))))))) (bw_ (Prod.snd r4 == (0 : Int)) (∀ r8 : Bool, r8 = (r12_Full (Prod.snd r4) (Prod.snd (Prod.snd (Prod.snd r2)))) → (aw_ (bd32 (Prod.snd r4)) (bw_ (!r8) (∀ r11 : VS, r11 = (r13_Pull (Prod.fst r4) t p h (r07_Rack (Prod.snd (Prod.snd (Prod.snd r2)))) g) → (∀ r12 : Int, r12 = (r07_Taken t p h g) → (∀ r13 : VS, r13 = (VS.set r11 r12 (0 : Int)) → (aw_ (bd32 (0 : Int)) (∀ r15 : VS, r15 = (r15_Release r13 t p h g (1 : Int)) → (aw_ (p ≤ (1024 : Int)) (aw_ ((0 : Int) ≤ g) (R_ (r15))))))))) (∀ r11 : Int, r11 = (r07_Taken t p h g) → (∀ r12 : VS, r12 = (VS.set (Prod.fst r4) r11 (0 : Int)) → (aw_ (bd32 (0 : Int)) (∀ r14 : VS, r14 = (r15_Release r12 t p h g (1 : Int)) → (aw_ (p ≤ (1024 : Int)) (aw_ ((0 : Int) ≤ g) (R_ (r14))))))))))) (∀ r8 : Int, r8 = (r07_Taken t p h g) → (∀ r9 : VS, r9 = (VS.set (Prod.fst r4) r8 (Prod.snd r4)) → (aw_ (bd32 (Prod.snd r4)) (∀ r11 : Bool, r11 = (r12_Full (Prod.snd r4) (Prod.snd (Prod.snd (Prod.snd r2)))) → (aw_ (bd32 (Prod.snd r4)) (bw_ (r11) (∀ r14 : VS, r14 = (r13_Push r9 t p h (r07_Rack (Prod.snd (Prod.snd (Prod.snd r2)))) g) → (R_ (r14))) (R_ (r9)))))))))))))))
theorem r16_Give_begin (s : VS) (t : Int) (p : Int) (h : Int) (g : Int) (b : Int) (hp0 : p ≤ 1024) (hp1 : 0 ≤ g) : r16_Give_w s t p h g b  (fun r__ => r__ = (r16_Give s t p h g b)) := by
  unfold r16_Give_w
  have hcond : (decide (b < 0) || decide (b > 31)) = (decide (b < 0) || decide (32 ≤ b)) := by
    apply Bool.eq_iff_iff.2
    simp only [Bool.or_eq_true, decide_eq_true_eq]; omega
  rw [hcond]
  refine ⟨fun hc => ?_, fun hc => ?_⟩
  · show _ = r16_Give s t p h g b
    rw [r16_Give, pGive, hc]; rfl
  have hb : 0 ≤ b ∧ b < 32 := by simp only [Bool.or_eq_false_iff, decide_eq_false_iff_not] at hc; omega
  simp only [r07_Taken_eq, r07_Rack_eq, full_eq]
  rintro r2 rfl r3 rfl r4 rfl
  have hT := VS.get_bd (s.read (Cf.info ⟨t, p, h⟩ g)) (Cf.taken ⟨t, p, h⟩ g)
  have hrun : r16_Give s t p h g b = ((pGive ⟨t, p, h⟩ g b).run s).1 := rfl
  unfold pGive at hrun
  rw [hc, cond_false, Pg.run_bind] at hrun
  simp only [r14_Info, pInfo, Pg.run_get, Pg.run_ret] at hrun ⊢
  generalize (s.read (Cf.info ⟨t, p, h⟩ g)).get (Cf.taken ⟨t, p, h⟩ g) = T at hrun hT ⊢
  generalize (s.read (Cf.info ⟨t, p, h⟩ g)).read (Cf.taken ⟨t, p, h⟩ g) = u at hrun ⊢
  generalize (iGet (s.get (Cf.info ⟨t, p, h⟩ g))).c = k at hrun ⊢
  have hu := (bitAt_subB hT hb).1
  have z0 : bd32 0 := ⟨by decide, by decide⟩
  rintro r5 rfl
  rw [bit_eq hT]
  refine ⟨fun hbt => ?_, fun hbt => ?_⟩
  · rintro r7 rfl
    rw [sub_bit hT hb hbt]
    refine ⟨fun hz => ?_, fun hz => ?_⟩
    · rw [hz] at hrun
      rintro r9 rfl
      refine ⟨hT, fun _ => ⟨fun hf => ?_, fun hf => ?_⟩⟩
      · rw [(Bool.not_eq_true' _).mp hf] at hrun
        rintro r12 rfl r13 rfl r14 rfl
        refine ⟨z0, fun _ => ?_⟩
        rintro r16 rfl
        exact ⟨hp0, fun _ => ⟨hp1, fun _ => by simp only [Pg.run_put, Pg.run_bind, Pg.run_ret, cond_true, cond_false] at hrun; exact hrun.symm⟩⟩
      · rw [(Bool.not_eq_false' _).mp hf] at hrun
        rintro r12 rfl r13 rfl
        refine ⟨z0, fun _ => ?_⟩
        rintro r15 rfl
        exact ⟨hp0, fun _ => ⟨hp1, fun _ => by simp only [Pg.run_put, Pg.run_bind, Pg.run_ret, cond_true, cond_false] at hrun; exact hrun.symm⟩⟩
    · rw [hz] at hrun
      rintro r9 rfl r10 rfl
      refine ⟨hu, fun _ => ?_⟩
      rintro r12 rfl
      refine ⟨hT, fun _ => ⟨fun hf => ?_, fun hf => ?_⟩⟩
      · rintro r15 rfl
        rw [hf] at hrun; (simp only [Pg.run_put, Pg.run_bind, Pg.run_ret, cond_true, cond_false] at hrun; exact hrun.symm)
      · rw [hf] at hrun; (simp only [Pg.run_put, Pg.run_bind, Pg.run_ret, cond_true, cond_false] at hrun; exact hrun.symm)
  · have es : subB T b = T := by unfold subB; rw [hbt]; rfl
    rw [es] at hrun
    refine ⟨fun hz => ?_, fun hz => ?_⟩
    · rw [hz] at hrun
      rintro r8 rfl
      refine ⟨hT, fun _ => ⟨fun hf => ?_, fun hf => ?_⟩⟩
      · rw [(Bool.not_eq_true' _).mp hf] at hrun
        rintro r11 rfl r12 rfl r13 rfl
        refine ⟨z0, fun _ => ?_⟩
        rintro r15 rfl
        exact ⟨hp0, fun _ => ⟨hp1, fun _ => by simp only [Pg.run_put, Pg.run_bind, Pg.run_ret, cond_true, cond_false] at hrun; exact hrun.symm⟩⟩
      · rw [(Bool.not_eq_false' _).mp hf] at hrun
        rintro r11 rfl r12 rfl
        refine ⟨z0, fun _ => ?_⟩
        rintro r14 rfl
        exact ⟨hp0, fun _ => ⟨hp1, fun _ => by simp only [Pg.run_put, Pg.run_bind, Pg.run_ret, cond_true, cond_false] at hrun; exact hrun.symm⟩⟩
    · rw [hz] at hrun
      rintro r8 rfl r9 rfl
      refine ⟨hT, fun _ => ?_⟩
      rintro r11 rfl
      refine ⟨hT, fun _ => ⟨fun hf => ?_, fun hf => ?_⟩⟩
      · rintro r14 rfl
        rw [hf] at hrun; (simp only [Pg.run_put, Pg.run_bind, Pg.run_ret, cond_true, cond_false] at hrun; exact hrun.symm)
      · rw [hf] at hrun; (simp only [Pg.run_put, Pg.run_bind, Pg.run_ret, cond_true, cond_false] at hrun; exact hrun.symm)
theorem r16_Give_ok : EntryOk Dg Tryz.prog 33 e_r16_Give :=
  ent_wp Dg T_r16_Pick_ok (I := [2999998]) Tryz.func33 mix (B := bodyOf Tryz.f33) (by kernel_rfl) rfl (by kernel_rfl) 400
    fun p0 s t p h g b hb hp => have hp0 : p ≤ 1024 := hp _ (.head _); have hp1 : 0 ≤ g := hp _ (.tail _ (.head _)); ⟨[], fun j => List.getD [] j (fun _ => False), fun j => List.getD [] j (fun _ => (0, 0, 0)), by kernel_rfl, ⟨r16_Give_w s t p h g b  (fun r__ => r__ = (r16_Give s t p h g b)), fun _ _ _ => by kernel_rfl, r16_Give_begin s t p h g b hp0 hp1 ⟩, trivial⟩
def T_r16_Give : List (Nat × Entry Sg) := (33, e_r16_Give) :: T_r16_Pick
theorem T_r16_Give_ok : TableOk Dg Tryz.prog T_r16_Give := TableOk.cons Dg r16_Give_ok T_r16_Pick_ok
end Go.Proofs.YtnddjnnakkiidaaGreat
namespace Go.Proofs.YtnddjnnakkiidaaGreat
open Go.Sl
theorem good_len {c : Cf} {xs : List Int} (h : AGood c xs) : xs.length ≤ 1000000 := by
  have h1 := Cf.ok_iff.1 h.ok
  have h2 := h.len
  rw [show c.cells = 30 + 4 * c.t + 6 * c.p by unfold Cf.cells; rw [h.ok]; rfl] at h2
  omega
def l16_live : Bool := true
abbrev c_l16_live : Ct Sg := ⟨none, false, [], .b⟩
def e_l16_live : Entry Sg := entC c_l16_live l16_live ([])
def l16_live_w (R_ : Bool → Prop) : Prop := (∀ r0 : Int × Int × Int × List Int, r0 = (l14_Eight) → (∀ r3 : VS, r3 = (VS.whole (Prod.snd (Prod.snd (Prod.snd r0)))) → (aw_ (List.length (Prod.snd (Prod.snd (Prod.snd r0))) ≤ (1000000 : Nat)) (aw_ (bdL (Prod.snd (Prod.snd (Prod.snd r0)))) (∀ r7 : VS × Int × List Int × Bool, r7 = (slab_Pick r3 (Prod.fst r0) (Prod.fst (Prod.snd r0)) (Prod.fst (Prod.snd (Prod.snd r0))) (8 : Int) (4 : Int)) → (aw_ (Prod.fst (Prod.snd r0) ≤ (1024 : Int)) (bw_ (Prod.snd (Prod.snd (Prod.snd r7)) && Prod.fst (Prod.snd r7) == (0 : Int)) (bw_ (eqInts (Prod.fst (Prod.snd (Prod.snd r7))) [(0 : Int), (1 : Int)]) (∀ r13 : VS × Int, r13 = ((VS.read (Prod.fst r7) (21 : Int), VS.get (Prod.fst r7) (21 : Int))) → (bw_ (Prod.snd r13 == (0 : Int)) (∀ r15 : VS × Int, r15 = ((VS.read (Prod.fst r13) (0 : Int), VS.get (Prod.fst r13) (0 : Int))) → (R_ (Prod.snd r15 == (7 : Int)))) (R_ (false)))) (R_ (false))) (R_ (false)))))))))
theorem l16_live_begin : l16_live_w   (fun r__ => r__ = l16_live) := by
  unfold l16_live_w
  have h1 : l14_Eight.2.2.2.length ≤ 1000000 := by decide +kernel
  have h2 : ∀ v ∈ l14_Eight.2.2.2, bd32 v := by unfold bd32; decide +kernel
  have h3 : l14_Eight.2.1 ≤ 1024 := by decide +kernel
  rintro r0 rfl
  repeat' first
    | (refine fun r hr => ?_; subst hr)
    | refine ⟨h1, fun _ => ?_⟩
    | refine ⟨h2, fun _ => ?_⟩
    | refine ⟨h3, fun _ => ?_⟩
    | refine ⟨fun hd => ?_, fun hd => ?_⟩
    | fail
  all_goals first
    | (dsimp only; unfold l16_live; decide +kernel)
    | (exfalso; revert hd; decide +kernel)
    | (trace_state; fail)
theorem l16_live_ok : EntryOk Dg Tryz.prog 13 e_l16_live :=
  ent_wp Dg T_r16_Give_ok (I := [2999998]) Tryz.func13 mix (B := bodyOf Tryz.f13) (by kernel_rfl) rfl (by kernel_rfl) 400
    fun p0  hb hp => ⟨[], fun j => List.getD [] j (fun _ => False), fun j => List.getD [] j (fun _ => (0, 0, 0)), by kernel_rfl, ⟨l16_live_w   (fun r__ => r__ = l16_live), fun _ _ _ => by kernel_rfl, l16_live_begin  ⟩, trivial⟩
def T_l16_live : List (Nat × Entry Sg) := (13, e_l16_live) :: T_r16_Give
theorem T_l16_live_ok : TableOk Dg Tryz.prog T_l16_live := TableOk.cons Dg l16_live_ok T_r16_Give_ok
def l16_idle (t : Int) (p : Int) (sh : Int) (xs : List Int) (g : Int) (b : Int) : Bool := (Cf.page ⟨t, p, sh⟩ g && (decide (0 ≤ b) && decide (b < 32))) && ((aInfo ⟨t, p, sh⟩ xs g).k == 3 && bitAt (cel xs (Cf.taken ⟨t, p, sh⟩ g)) b && !bitAt (cel xs (Cf.slots ⟨t, p, sh⟩ g)) b)
abbrev c_l16_idle : Ct Sg := ⟨none, false, [.agg [.i .i64, .i .i64, .i .i64], .ro [some .u32], .i .i64, .i .i64], .b⟩
def e_l16_idle : Entry Sg := entC c_l16_idle l16_idle (fun t p sh xs g b => [AGood ⟨t, p, sh⟩ xs])
def l16_idle_w (t : Int) (p : Int) (sh : Int) (xs : List Int) (g : Int) (b : Int) (R_ : Bool → Prop) : Prop := (bw_ (decide (g < (0 : Int)) || decide (g ≥ p) || decide (b < (0 : Int)) || decide (b > (31 : Int))) (R_ (false)) (∀ r3 : Int × Int × Int, r3 = (x_Info t p sh xs g) → (aw_ (AGood { t := t, p := p, s := sh } xs) (aw_ ((0 : Int) ≤ g ∧ g < p) (aw_ ((Prod.fst r3 == (3 : Int)) = true → AGood { t := t, p := p, s := sh } xs) (aw_ ((Prod.fst r3 == (3 : Int)) = true → (0 : Int) ≤ g ∧ g < p) (aw_ ((Prod.fst r3 == (3 : Int) && r01_Bit (x_Taken t p sh xs g) b) = true → AGood { t := t, p := p, s := sh } xs) (aw_ ((Prod.fst r3 == (3 : Int) && r01_Bit (x_Taken t p sh xs g) b) = true → (0 : Int) ≤ g ∧ g < p) (R_ (Prod.fst r3 == (3 : Int) && r01_Bit (x_Taken t p sh xs g) b && !r01_Bit (x_Slots t p sh xs g) b))))))))))
theorem l16_idle_begin (t : Int) (p : Int) (sh : Int) (xs : List Int) (g : Int) (b : Int) (hp0 : AGood ⟨t, p, sh⟩ xs) (hl0 : xs.length ≤ 9223372036854775807) : l16_idle_w t p sh xs g b  (fun r__ => r__ = (l16_idle t p sh xs g b)) := by
  unfold l16_idle_w
  refine ⟨fun hc => ?_, fun hc => ?_⟩
  · show false = l16_idle t p sh xs g b
    have e : (Cf.page ⟨t, p, sh⟩ g && (decide (0 ≤ b) && decide (b < 32))) = false := by
      unfold Cf.page
      simp only [Bool.or_eq_true, decide_eq_true_eq] at hc
      simp only [Bool.and_eq_false_iff, decide_eq_false_iff_not]; omega
    rw [l16_idle, e]; rfl
  · have hg : (0 ≤ g ∧ g < p) ∧ 0 ≤ b ∧ b < 32 := by
      simp only [Bool.or_eq_false_iff, decide_eq_false_iff_not] at hc; omega
    have e : (Cf.page ⟨t, p, sh⟩ g && (decide (0 ≤ b) && decide (b < 32))) = true := by
      unfold Cf.page
      simp only [Bool.and_eq_true, decide_eq_true_eq]; omega
    rintro r3 rfl
    refine ⟨hp0, fun _ => ⟨hg.1, fun _ => ⟨fun _ => hp0, fun _ => ⟨fun _ => hg.1, fun _ => ⟨fun _ => hp0, fun _ => ⟨fun _ => hg.1, fun _ => ?_⟩⟩⟩⟩⟩⟩
    show _ = l16_idle t p sh xs g b
    rw [l16_idle, e, Bool.true_and, show r01_Bit (x_Taken t p sh xs g) b = bitAt (cel xs (Cf.taken ⟨t, p, sh⟩ g)) b from bit_eq (rootA_eq _ _ hp0.bd) b, show r01_Bit (x_Slots t p sh xs g) b = bitAt (cel xs (Cf.slots ⟨t, p, sh⟩ g)) b from bit_eq (rootA_eq _ _ hp0.bd) b]
    rfl
theorem l16_idle_ok : EntryOk Dg Tryz.prog 28 e_l16_idle :=
  ent_wp Dg T_l16_live_ok (I := [2999998]) Tryz.func28 mix (B := bodyOf Tryz.f28) (by kernel_rfl) rfl (by kernel_rfl) 400
    fun p0 t p sh xs g b hb hp => have hl0 : xs.length ≤ 9223372036854775807 := hb.2.1; have hp0 : AGood ⟨t, p, sh⟩ xs := hp _ (.head _); ⟨[], fun j => List.getD [] j (fun _ => False), fun j => List.getD [] j (fun _ => (0, 0, 0)), by kernel_rfl, ⟨l16_idle_w t p sh xs g b  (fun r__ => r__ = (l16_idle t p sh xs g b)), fun _ _ _ => by kernel_rfl, l16_idle_begin t p sh xs g b hp0 hl0 ⟩, trivial⟩
def T_l16_idle : List (Nat × Entry Sg) := (28, e_l16_idle) :: T_l16_live
theorem T_l16_idle_ok : TableOk Dg Tryz.prog T_l16_idle := TableOk.cons Dg l16_idle_ok T_l16_live_ok
def SlabPicks (t : Int) (p : Int) (sh : Int) (xs : List Int) (x0 : Int) (x1 : Int) : Bool := true
abbrev c_SlabPicks : Ct Sg := ⟨none, false, [.agg [.i .i64, .i .i64, .i .i64], .ro [some .u32], .agg [.i .i64, .i .i64]], .b⟩
def e_SlabPicks : Entry Sg := entC c_SlabPicks SlabPicks (fun t p sh xs x0 x1 => [bdAll xs, x0 ≤ 9223372036854775807, x1 ≤ 9223372036854775807])
def SlabPicks_w (t : Int) (p : Int) (sh : Int) (xs : List Int) (x0 : Int) (x1 : Int) (R_ : Bool → Prop) : Prop := (∀ r2 : Bool, r2 = (r12_Few t p sh) → (aw_ ((!r2) = false → bdAll xs) (bw_ (!r2 || !r12_Sound t p sh xs) (∀ r5 : Bool, r5 = (l16_live) → (R_ (r5))) (∀ r5 : VS, r5 = (VS.whole xs) → (aw_ (List.length xs ≤ (1000000 : Nat)) (aw_ (bdL xs) (∀ r9 : VS, r9 = (VS.whole xs) → (aw_ (List.length xs ≤ (1000000 : Nat)) (aw_ (bdL xs) (∀ r13 : VS × Int × List Int × Bool, r13 = (slab_Pick r5 t p sh x0 x1) → (aw_ (p ≤ (1024 : Int)) (∀ r16 : VS × Int × List Int × Bool, r16 = (r16_Pick r9 t p sh x0 x1) → (aw_ (p ≤ (1024 : Int)) (bw_ (Prod.fst (Prod.snd r13) == Prod.fst (Prod.snd r16) && eqInts (Prod.fst (Prod.snd (Prod.snd r13))) (Prod.fst (Prod.snd (Prod.snd r16))) && Prod.snd (Prod.snd (Prod.snd r13)) == Prod.snd (Prod.snd (Prod.snd r16))) (∀ r20 : List Int, r20 = (VS.reads (Prod.fst r13)) → (∀ r22 : List Int × List Int, r22 = ((VS.wrote (Prod.fst r13), VS.puts (Prod.fst r13))) → (aw_ (true = true → List.length (Prod.fst r22) = List.length (Prod.snd r22)) (R_ (decide (r20 = VS.reads (Prod.fst r16)) && (decide (Prod.fst r22 = VS.wrote (Prod.fst r16) ∧ Prod.snd r22 = VS.puts (Prod.fst r16)) && decide (VS.miss (Prod.fst r13) = VS.miss (Prod.fst r16))) && l16_live))))) (R_ (false))))))))))))))))
theorem SlabPicks_begin (t : Int) (p : Int) (sh : Int) (xs : List Int) (x0 : Int) (x1 : Int) (hp0 : bdAll xs) (hp1 : x0 ≤ 9223372036854775807) (hp2 : x1 ≤ 9223372036854775807) (hl0 : xs.length ≤ 9223372036854775807) : SlabPicks_w t p sh xs x0 x1  (fun r__ => r__ = (SlabPicks t p sh xs x0 x1)) := by
  unfold SlabPicks_w
  rintro r1 rfl
  refine ⟨fun _ => hp0, fun _ => ⟨fun hc => (by rintro r rfl; rfl), fun hc => ?_⟩⟩
  have hfs : p ≤ 64 ∧ soundA ⟨t, p, sh⟩ xs = true := by
    simp only [r12_Few, r12_Sound, Bool.or_eq_false_iff, Bool.not_eq_false', decide_eq_true_eq] at hc
    exact hc
  have hgood := sound_good hfs.2 hp0
  have hlen := good_len hgood
  have hok := Cf.ok_iff.1 hgood.ok
  simp only at hok
  have hp : p ≤ 1024 := by omega
  have hpb : p ≤ 9223372036854775807 := by omega
  have hg0 : True := trivial
  repeat' first
    | (refine fun r hr => ?_; subst hr)
    | refine ⟨hlen, fun _ => ?_⟩
    | refine ⟨hp0, fun _ => ?_⟩
    | refine ⟨hp, fun _ => ?_⟩
    | refine ⟨hg0, fun _ => ?_⟩
    | refine ⟨fun (_ : true = true) => (by simp [VS.puts]; done), fun _ => ?_⟩
    | refine ⟨fun hd => ?_, fun hd => ?_⟩
    | refine ⟨(by first | omega | (simp [VS.puts]; done)), fun _ => ?_⟩
    | fail
  all_goals first
    | rfl
    | (show (_ && l16_live) = true; simp [l16_live, eqInts, slab_Pick, r16_Pick]; done)
    | (exfalso; simp [eqInts, slab_Pick, r16_Pick] at hd; done)
    | (trace_state; fail)
theorem SlabPicks_ok : EntryOk Dg Tryz.prog 3 e_SlabPicks :=
  ent_wp Dg T_l16_idle_ok (I := [2999998]) Tryz.func3 mix (B := bodyOf Tryz.f3) (by kernel_rfl) rfl (by kernel_rfl) 400
    fun p0 t p sh xs x0 x1 hb hp => have hl0 : xs.length ≤ 9223372036854775807 := hb.2.1; have hp0 : bdAll xs := hp _ (.head _); have hp1 : x0 ≤ 9223372036854775807 := hp _ (.tail _ (.head _)); have hp2 : x1 ≤ 9223372036854775807 := hp _ (.tail _ (.tail _ (.head _))); ⟨[], fun j => List.getD [] j (fun _ => False), fun j => List.getD [] j (fun _ => (0, 0, 0)), by kernel_rfl, ⟨SlabPicks_w t p sh xs x0 x1  (fun r__ => r__ = (SlabPicks t p sh xs x0 x1)), fun _ _ _ => by kernel_rfl, SlabPicks_begin t p sh xs x0 x1 hp0 hp1 hp2 hl0 ⟩, trivial⟩
def T_SlabPicks : List (Nat × Entry Sg) := (3, e_SlabPicks) :: T_l16_idle
theorem T_SlabPicks_ok : TableOk Dg Tryz.prog T_SlabPicks := TableOk.cons Dg SlabPicks_ok T_l16_idle_ok
def SlabGives (t : Int) (p : Int) (sh : Int) (xs : List Int) (x0 : Int) (x1 : Int) : Bool := true
abbrev c_SlabGives : Ct Sg := ⟨none, false, [.agg [.i .i64, .i .i64, .i .i64], .ro [some .u32], .agg [.i .i64, .i .i64]], .b⟩
def e_SlabGives : Entry Sg := entC c_SlabGives SlabGives (fun t p sh xs x0 x1 => [bdAll xs, x0 ≤ 9223372036854775807, x1 ≤ 9223372036854775807])
def SlabGives_w (t : Int) (p : Int) (sh : Int) (xs : List Int) (x0 : Int) (x1 : Int) (R_ : Bool → Prop) : Prop := (∀ r2 : Bool, r2 = (r12_Few t p sh) → (aw_ ((!r2) = false → bdAll xs) (aw_ ((!r2 || !r12_Sound t p sh xs) = false → AGood { t := t, p := p, s := sh } xs) (bw_ (!r2 || !r12_Sound t p sh xs || !l16_idle t p sh xs x0 x1) (∀ r6 : Bool, r6 = (l16_live) → (R_ (r6))) (∀ r6 : VS, r6 = (VS.whole xs) → (aw_ (List.length xs ≤ (1000000 : Nat)) (aw_ (bdL xs) (∀ r10 : VS, r10 = (VS.whole xs) → (aw_ (List.length xs ≤ (1000000 : Nat)) (aw_ (bdL xs) (∀ r14 : VS, r14 = (slab_Give r6 t p sh x0 x1) → (aw_ (p ≤ (1024 : Int)) (aw_ ((0 : Int) ≤ x0) (∀ r17 : VS, r17 = (r16_Give r10 t p sh x0 x1) → (aw_ (p ≤ (1024 : Int)) (aw_ ((0 : Int) ≤ x0) (∀ r20 : List Int, r20 = (VS.reads r14) → (∀ r22 : List Int × List Int, r22 = ((VS.wrote r14, VS.puts r14)) → (∀ r24 : Int, r24 = (VS.miss r14) → (∀ r25 : Bool, r25 = (decide (r20 = VS.reads r17) && (decide (Prod.fst r22 = VS.wrote r17 ∧ Prod.snd r22 = VS.puts r17) && decide (r24 = VS.miss r17))) → (aw_ (List.length (Prod.fst r22) = List.length (Prod.snd r22)) (R_ (r25 && l16_live)))))))))))))))))))))))
theorem SlabGives_begin (t : Int) (p : Int) (sh : Int) (xs : List Int) (x0 : Int) (x1 : Int) (hp0 : bdAll xs) (hp1 : x0 ≤ 9223372036854775807) (hp2 : x1 ≤ 9223372036854775807) (hl0 : xs.length ≤ 9223372036854775807) : SlabGives_w t p sh xs x0 x1  (fun r__ => r__ = (SlabGives t p sh xs x0 x1)) := by
  unfold SlabGives_w
  rintro r1 rfl
  refine ⟨fun _ => hp0, fun _ => ⟨fun hq => ?_, fun _ => ⟨fun hc => (by rintro r rfl; rfl), fun hc => ?_⟩⟩⟩
  · simp only [Bool.or_eq_false_iff, Bool.not_eq_false'] at hq
    exact sound_good (c := ⟨t, p, sh⟩) hq.2 hp0
  have hfs : (p ≤ 64 ∧ soundA ⟨t, p, sh⟩ xs = true) ∧ l16_idle t p sh xs x0 x1 = true := by
    simp only [r12_Few, r12_Sound, Bool.or_eq_false_iff, Bool.not_eq_false', decide_eq_true_eq] at hc
    exact hc
  have hgood := sound_good hfs.1.2 hp0
  have hlen := good_len hgood
  have hp : p ≤ 1024 := by omega
  have hg0 : 0 ≤ x0 := by
    have := hfs.2
    simp only [l16_idle, Cf.page, Bool.and_eq_true, decide_eq_true_eq] at this
    exact this.1.1.1
  repeat' first
    | (refine fun r hr => ?_; subst hr)
    | refine ⟨hlen, fun _ => ?_⟩
    | refine ⟨hp0, fun _ => ?_⟩
    | refine ⟨hp, fun _ => ?_⟩
    | refine ⟨hg0, fun _ => ?_⟩
    | refine ⟨fun (_ : true = true) => (by simp [VS.puts]; done), fun _ => ?_⟩
    | refine ⟨fun hd => ?_, fun hd => ?_⟩
    | refine ⟨(by first | omega | (simp [VS.puts]; done)), fun _ => ?_⟩
    | fail
  all_goals first
    | rfl
    | (show (_ && l16_live) = true; simp [l16_live, eqInts, slab_Give, r16_Give]; done)
    | (exfalso; simp [eqInts, slab_Give, r16_Give] at hd; done)
    | (trace_state; fail)
theorem SlabGives_ok : EntryOk Dg Tryz.prog 6 e_SlabGives :=
  ent_wp Dg T_SlabPicks_ok (I := [2999998]) Tryz.func6 mix (B := bodyOf Tryz.f6) (by kernel_rfl) rfl (by kernel_rfl) 400
    fun p0 t p sh xs x0 x1 hb hp => have hl0 : xs.length ≤ 9223372036854775807 := hb.2.1; have hp0 : bdAll xs := hp _ (.head _); have hp1 : x0 ≤ 9223372036854775807 := hp _ (.tail _ (.head _)); have hp2 : x1 ≤ 9223372036854775807 := hp _ (.tail _ (.tail _ (.head _))); ⟨[], fun j => List.getD [] j (fun _ => False), fun j => List.getD [] j (fun _ => (0, 0, 0)), by kernel_rfl, ⟨SlabGives_w t p sh xs x0 x1  (fun r__ => r__ = (SlabGives t p sh xs x0 x1)), fun _ _ _ => by kernel_rfl, SlabGives_begin t p sh xs x0 x1 hp0 hp1 hp2 hl0 ⟩, trivial⟩
theorem SlabGives_plain (t : Int) (p : Int) (sh : Int) (xs : List Int) (x0 : Int) (x1 : Int) (a_0 : Option Addr) (c_0 : Nat) {E_ : World} {G_ : Hp} {w_ : World} (hr0 : RowAt G_ a_0 xs.length [.ints .u32 xs] ∧ xs.length ≤ c_0) (hp0 : bdAll xs) (hp1 : x0 ≤ 9223372036854775807) (hp2 : x1 ≤ 9223372036854775807) (hS : Sat E_ G_ w_ []) : Calls Tryz.prog 6 #[(.agg #[.int .i64 t, .int .i64 p, .int .i64 sh]), (.slice a_0 xs.length c_0), (.agg #[.int .i64 x0, .int .i64 x1])] w_ (fun en w' => en = .returned (.bool (SlabGives t p sh xs x0 x1)) ∧ Sat E_ G_ w' []) := by
  refine law_of Dg (c := c_SlabGives) (F := SlabGives) (pre := fun t p sh xs x0 x1 => [bdAll xs, x0 ≤ 9223372036854775807, x1 ≤ 9223372036854775807]) SlabGives_ok [((.agg #[.int .i64 t, .int .i64 p, .int .i64 sh]), (.none)), ((.slice a_0 xs.length c_0), (.row xs.length [.ints .u32 xs])), ((.agg #[.int .i64 x0, .int .i64 x1]), (.none))] [.i t, .i p, .i sh, .li xs, .i x0, .i x1] (by kernel_rfl) _ (by kernel_rfl) (by kernel_rfl) (by kernel_rfl) ?_ ?_ hS
  · intro p hp
    have hp : p ∈ [(bdAll xs : Prop), (x0 ≤ 9223372036854775807 : Prop), (x1 ≤ 9223372036854775807 : Prop)] := hp
    simp only [List.mem_cons, List.not_mem_nil, or_false] at hp
    rcases hp with rfl | rfl | rfl
    · exact hp0
    · exact hp1
    · exact hp2
  · intro x hx
    simp only [List.mem_cons, List.not_mem_nil, or_false] at hx
    rcases hx with rfl | rfl | rfl
    · first | (simp only [iOk, isOk, and_true, true_and]; done) | (simp only [iOk, isOk, and_true, true_and]; exact ⟨_, _, rfl, trivial⟩) | simp [iOk, isOk]
    · first | (simp only [iOk, isOk, and_true, true_and]; done) | (simp only [iOk, isOk, and_true, true_and]; exact ⟨_, _, rfl, hr0⟩) | simp [iOk, isOk]
    · first | (simp only [iOk, isOk, and_true, true_and]; done) | (simp only [iOk, isOk, and_true, true_and]; exact ⟨_, _, rfl, trivial⟩) | simp [iOk, isOk]
end Go.Proofs.YtnddjnnakkiidaaGreat
namespace Go.Sl
open Go.RowKit Go.ChangeShapes Go.WideShapes Go.ChangeAt
theorem Sat.start (W : World) : Sat W (fun b => W.heap[b]?) W [] :=
  ⟨⟨rfl, rfl, rfl, Nat.le_refl _⟩, fun _ _ h => h, fun _ => none, ⟨fun _ _ h => (by cases h), fun i A h => (by simp at h)⟩⟩
theorem Sat.below {W W' : World} {As : List Asn} (h : Sat W (fun b => W.heap[b]?) W' As) : Below W.heap.size W W' :=
  ⟨h.1.os, h.1.tape, h.1.output, h.1.size, fun k hk => by
    have h1 : (fun b => W.heap[b]?) k = some W.heap[k] := by simp [hk]
    rw [h.2.1 k _ h1]; simp [hk]⟩
section
variable {H : Type} {enc : TypeId × Value → H} {P : Program}
theorem trodAll_stays (hl : laidOutB P = true) {W W' : World} (hb : Below W.heap.size W W') {sp : Nat → Bool} : ∀ (ts : List TypeId) (vs : List Value) (ds : List (DataW H)) (ps : List MemPlace), (∀ t ∈ ts, P.readableRec t = true ∧ t < P.types.size) →
    DataW.TrodAll enc P W 0 (fun _ => true) true ts vs ds ps → (∀ x ∈ ps, x.block < W.heap.size) → (∀ x ∈ ps, sp x.block = true) → DataW.TrodAll enc P W' 0 sp true ts vs ds ps
  | [], vs, ds, ps, _, h, _, _ => by
    obtain ⟨rfl, rfl, rfl⟩ := trodAll_nil h
    exact trodAll_mk0
  | t :: ts, vs, ds, ps, hr, h, hlt, hsp => by
    obtain ⟨v, vs', d, ds', p, q, rfl, rfl, rfl, hd, hrest⟩ := trodAll_cons h
    obtain ⟨hr1, hr2⟩ := hr t (by simp)
    exact ⟨p, q, WideElems.Trod_stays hl hr1 hr2 hd (fun x hx => hb.same (hlt x (by simp [hx]))) (fun x hx => hsp x (by simp [hx])),
      trodAll_stays hl hb ts vs' ds' q (fun t ht => hr t (by simp [ht])) hrest (fun x hx => hlt x (by simp [hx])) (fun x hx => hsp x (by simp [hx])), rfl⟩
theorem law_post {f : Func} {s : ChangeSpec} {apart fresh handsOn : Bool} {W W' : World} {args : Array Value} {ds gs : List (DataW H)} {before : List MemPlace} (tb : TypeId) (hl : laidOutB P = true)
    (hW : DataW.Whole enc P f.params.toList s.vars apart W args.toList ds gs before) (hv : s.vars = []) (hres : f.resultTypes = #[tb]) (hb : P.underlying tb = some .bool)
    (hp : f.params.toList.all (fun t => P.readableRec t && Nat.blt t P.types.size) = true) (hfn : (s.fn H ds).results = [.lit (.bool true)] ∧ (s.fn H ds).args = ds ∧ (s.fn H ds).vars = [])
    (hbel : Below W.heap.size W W') : s.post enc P f apart fresh handsOn false W args (.bool true) W' := by
  have hW2 := hW
  have hlt : ∀ x ∈ before, x.block < W.heap.size := fun x hx => hW.lt x hx
  obtain ⟨p, q, hA, hV, hpq, _, _⟩ := hW
  rw [hv] at hV
  obtain ⟨hgs, hq⟩ := trodVars_none hV
  subst hgs; subst hq
  have hpp : before = p := by rw [hpq]; simp
  subst hpp
  have hr : ∀ t ∈ f.params.toList, P.readableRec t = true ∧ t < P.types.size := fun t ht => by
    rw [List.all_eq_true] at hp
    have := hp t ht
    simp only [Bool.and_eq_true] at this
    exact ⟨this.1, Nat.lt_of_lt_of_le (Nat.lt_succ_self t) (Nat.le_of_ble_eq_true this.2)⟩
  refine ⟨ds, [], before, [], before, [], by rw [hv] at hW2 ⊢; exact hW2, ?_, ?_, ?_, World.keptBut_mono (fun x hx => ⟨hx, .inr (.inl hx)⟩) (hbel.frame (· ∈ before)), fun h => by cases h⟩
  · rw [List.append_nil, hfn.1, hres]
    exact trodAll_mk1 (shut_bool hb true)
  · rw [List.append_nil, hfn.2.1]
    exact trodAll_stays hl hbel _ _ _ _ hr hA hlt (fun x hx => by simpa using hlt x hx)
  · rw [List.append_nil, hfn.2.2, hv]
    rfl
end
theorem bd_i64 {x : Int} (h : (Lit.int .i64 x).wf = true) : -9223372036854775808 ≤ x ∧ x < 9223372036854775808 := by
  simp [Lit.wf, IntKind.min, IntKind.max, IntKind.signed, IntKind.bits] at h; omega
theorem bd_u32 {x : Int} (h : (Lit.int .u32 x).wf = true) : 0 ≤ x ∧ x < 4294967296 := by
  simp [Lit.wf, IntKind.min, IntKind.max, IntKind.signed, IntKind.bits] at h; omega
end Go.Sl
namespace Go.Sl
open Go.RowKit Go.ChangeShapes Go.WideShapes Go.ChangeAt
inductive Shp where
  | int (k : IntKind)
  | bool
def vIs : Shp → Value → Prop
  | .int k, v => ∃ x, v = .int k x ∧ (Lit.int k x).wf = true
  | .bool, v => ∃ b, v = .bool b
def cellsIs : List Shp → List Value → Prop
  | [], vs => vs = []
  | s :: r, vs => ∃ v vs', vs = v :: vs' ∧ vIs s v ∧ cellsIs r vs'
def colIs (n : Nat) : Shp → Col → Prop
  | .int k, c => ∃ xs, c = .ints k xs ∧ xs.length = n ∧ ∀ x ∈ xs, (Lit.int k x).wf = true
  | .bool, c => ∃ xs, c = .bools xs ∧ xs.length = n
def colsIs (n : Nat) : List Shp → List Col → Prop
  | [], cs => cs = []
  | s :: r, cs => ∃ c cs', cs = c :: cs' ∧ colIs n s c ∧ colsIs n r cs'
theorem cellsIs_append : ∀ {a b : List Shp} {u v : List Value}, cellsIs a u → cellsIs b v → cellsIs (a ++ b) (u ++ v)
  | [], b, u, v, h, h' => by rw [h]; exact h'
  | s :: r, b, u, v, ⟨x, u', e, hx, h⟩, h' => ⟨x, u' ++ v, by rw [e]; rfl, hx, cellsIs_append h h'⟩
theorem cellsIs_get : ∀ {sh : List Shp} {vs : List Value}, cellsIs sh vs → ∀ (j : Nat) s, sh[j]? = some s → ∃ v, vs[j]? = some v ∧ vIs s v
  | [], _, _, j, s, hs => by simp at hs
  | s0 :: r, _, ⟨x, u', e, hx, h⟩, j, s, hs => by
    subst e
    cases j with
    | zero => simp at hs; subst hs; exact ⟨x, rfl, hx⟩
    | succ j => exact cellsIs_get h j s (by simpa using hs)
section
variable (P : Program)
def shpFs (f : TypeId → Option (List Shp)) : Nat → List Field → Option (List Shp)
  | _, [] => some []
  | o, fd :: fs => bif Nat.beq fd.offset o then match f fd.type, shpFs f (o + P.cellsOf fd.type) fs with
      | some a, some b => bif Nat.beq a.length (P.cellsOf fd.type) then some (a ++ b) else none
      | _, _ => none
    else none
def reps (s : List Shp) : Nat → List Shp
  | 0 => []
  | n + 1 => s ++ reps s n
def shpT : Nat → TypeId → Option (List Shp)
  | 0, _ => none
  | d + 1, t => match P.underlying t with
    | some (.int k) => some [.int k]
    | some .bool => some [.bool]
    | some (.struct fs) => match shpFs P (shpT d) 0 fs.toList with
      | some s => bif Nat.beq s.length (P.cellsOf t) then some s else none
      | none => none
    | some (.array n e) => match shpT d e with
      | some s => bif Nat.beq s.length (P.cellsOf e) && Nat.beq (n * P.cellsOf e) (P.cellsOf t) then some (reps s n) else none
      | none => none
    | _ => none
end
section
variable {H : Type} {enc : TypeId × Value → H} {P : Program} {w : World} {base : Nat} {sp : Nat → Bool} {held : Bool}
theorem shpFs_ok {f : TypeId → Option (List Shp)} {n : Nat} (hf : ∀ t sh cs x, f t = some sh → DataW.trod enc P w base sp held n t cs = some x → cellsIs sh cs) {cs : List Value} :
    ∀ (fs : List Field) (o : Nat) (s : List Shp), shpFs P f o fs = some s → (∀ fd ∈ fs, ∃ y, DataW.trod enc P w base sp held n fd.type ((cs.drop fd.offset).take (P.cellsOf fd.type)) = some y) → cellsIs s ((cs.drop o).take s.length)
  | [], o, s, h, _ => by simp only [shpFs, Option.some.injEq] at h; subst h; simp [cellsIs]
  | fd :: fs, o, s, h, hall => by
    simp only [shpFs] at h
    cases ho : Nat.beq fd.offset o with
    | false => rw [ho] at h; cases h
    | true =>
      rw [ho] at h
      have ho := Nat.eq_of_beq_eq_true ho
      simp only [cond_true] at h
      split at h
      · rename_i a b ha hb
        cases hl : Nat.beq a.length (P.cellsOf fd.type) with
        | false => rw [hl] at h; cases h
        | true =>
          rw [hl] at h
          have hl := Nat.eq_of_beq_eq_true hl
          simp only [cond_true, Option.some.injEq] at h
          subst h
          obtain ⟨y, hy⟩ := hall fd (by simp)
          have h1 := hf _ _ _ _ ha hy
          have h2 := shpFs_ok hf fs _ _ hb fun fd' hfd => hall fd' (by simp [hfd])
          have e : (cs.drop o).take (a ++ b).length = (cs.drop fd.offset).take (P.cellsOf fd.type) ++ (cs.drop (o + P.cellsOf fd.type)).take b.length := by
            rw [List.length_append, List.take_add, List.drop_drop, ho, hl]
          rw [e]
          exact cellsIs_append h1 h2
      · cases h
theorem shpT_ok : ∀ (d : Nat) (t : TypeId) (sh : List Shp) (n : Nat) (cs : List Value) (x : DataW H × List MemPlace), shpT P d t = some sh → DataW.trod enc P w base sp held n t cs = some x → cellsIs sh cs
  | 0, t, sh, n, cs, x, h, _ => by simp [shpT] at h
  | d + 1, t, sh, n, cs, x, h, hx => by
    simp only [shpT] at h
    split at h
    · rename_i k hk
      injection h with h; subst h
      obtain ⟨m, rfl, _, hw⟩ := DataW.trod_int hk hx
      exact ⟨_, _, rfl, ⟨m, rfl, hw⟩, rfl⟩
    · rename_i hk
      injection h with h; subst h
      obtain ⟨b, rfl, _⟩ := DataW.trod_bool hk hx
      exact ⟨_, _, rfl, ⟨b, rfl⟩, rfl⟩
    · rename_i fs hk
      split at h
      · rename_i s hs
        cases hl : Nat.beq s.length (P.cellsOf t) with
        | false => rw [hl] at h; cases h
        | true =>
          rw [hl] at h
          have hl := Nat.eq_of_beq_eq_true hl
          simp only [cond_true, Option.some.injEq] at h
          subst h
          obtain ⟨xs, m, _, _, hlen, hxl, hf⟩ := DataW.trod_struct hk hx
          have := shpFs_ok (n := m) (cs := cs) (fun t' sh' cs' x' h1 h2 => shpT_ok d t' sh' m cs' x' h1 h2) fs.toList 0 s hs fun fd hfd => by
            obtain ⟨i, hi⟩ := List.getElem?_of_mem hfd
            have hi' : fs[i]? = some fd := by simpa using hi
            have h1 := hf i fd hi'
            have hlt : i < xs.length := by
              rw [hxl]
              rcases Nat.lt_or_ge i fs.size with h' | h'
              · exact h'
              · rw [Array.getElem?_eq_none h'] at hi'; cases hi'
            rw [List.getElem?_eq_getElem hlt] at h1
            exact ⟨_, h1⟩
          rw [List.drop_zero, hl, ← hlen, List.take_length] at this
          exact this
      · cases h
    · rename_i m e hk
      split at h
      · rename_i s hs
        cases hl : (Nat.beq s.length (P.cellsOf e) && Nat.beq (m * P.cellsOf e) (P.cellsOf t)) with
        | false => rw [hl] at h; cases h
        | true =>
          rw [hl] at h
          simp only [Bool.and_eq_true] at hl
          have hl1 := Nat.eq_of_beq_eq_true hl.1
          have hl2 := Nat.eq_of_beq_eq_true hl.2
          simp only [cond_true, Option.some.injEq] at h
          subst h
          obtain ⟨xs, q, _, _, hlen, hxl, hf⟩ := DataW.trod_array hk hx
          have key : ∀ (j i : Nat), i + j = m → cellsIs (reps s j) ((cs.drop (i * P.cellsOf e)).take (j * P.cellsOf e)) := by
            intro j
            induction j with
            | zero => intro i _; simp [reps, cellsIs]
            | succ j ih =>
              intro i hij
              have h1 := hf i (by omega)
              rw [List.getElem?_eq_getElem (by omega)] at h1
              have h2 := shpT_ok d e s q _ _ hs h1
              have h3 := ih (i + 1) (by omega)
              have e1 : (cs.drop (i * P.cellsOf e)).take ((j + 1) * P.cellsOf e) = (cs.drop (i * P.cellsOf e)).take (P.cellsOf e) ++ (cs.drop ((i + 1) * P.cellsOf e)).take (j * P.cellsOf e) := by
                rw [show (j + 1) * P.cellsOf e = P.cellsOf e + j * P.cellsOf e by rw [Nat.succ_mul]; omega, List.take_add, List.drop_drop, show i * P.cellsOf e + P.cellsOf e = (i + 1) * P.cellsOf e by rw [Nat.succ_mul]]
              rw [e1]
              exact cellsIs_append h2 h3
          have := key m 0 (by omega)
          rw [Nat.zero_mul, List.drop_zero, hl2, ← hlen, List.take_length] at this
          exact this
      · cases h
    · cases h
theorem open_flat {r : Reach} {b0 : Nat} {t : TypeId} {v : Value} {dt : DataW H} {ps : List MemPlace} (d : Nat) (hs : (P.underlying t).any (fun | .struct _ => true | .array _ _ => true | _ => false) = true) {sh : List Shp} (hsh : shpT P d t = some sh)
    (hv : Value.okWide P w r b0 t v) (h : DataW.Trod enc P w base sp held t v dt ps) : ∃ vs : List Value, v = .agg vs.toArray ∧ cellsIs sh vs := by
  obtain ⟨fuel, hf⟩ := h
  have hc := shpT_ok d t sh fuel _ _ hsh hf
  unfold Value.okWide at hv
  cases hu : P.underlying t with
  | none => rw [hu] at hs; simp at hs
  | some ty =>
    rw [hu] at hs hv
    cases ty <;> simp at hs <;> (obtain ⟨cs, rfl, _, _⟩ := hv; exact ⟨cs.toList, by simp, hc⟩)
def colOf : Shp → (Nat → Value) → Nat → Col
  | .int k, V, n => .ints k ((List.range n).map fun i => match V i with | .int _ x => x | _ => 0)
  | .bool, V, n => .bools ((List.range n).map fun i => match V i with | .bool b => b | _ => false)
theorem colOf_ok {s : Shp} {V : Nat → Value} {n : Nat} (h : ∀ i, i < n → vIs s (V i)) : colIs n s (colOf s V n) ∧ (colOf s V n).len = n ∧ ∀ i, i < n → (colOf s V n).at i = V i := by
  cases s with
  | int k =>
    refine ⟨⟨_, rfl, by simp, fun x hx => ?_⟩, by simp [colOf, Col.len], fun i hi => ?_⟩
    · obtain ⟨i, hi, rfl⟩ := List.mem_map.1 hx
      obtain ⟨y, hy, hw⟩ := h i (List.mem_range.1 hi)
      rw [hy]; exact hw
    · obtain ⟨y, hy, hw⟩ := h i hi
      simp [colOf, Col.at, hi, hy]
  | bool =>
    refine ⟨⟨_, rfl, by simp⟩, by simp [colOf, Col.len], fun i hi => ?_⟩
    obtain ⟨y, hy⟩ := h i hi
    simp [colOf, Col.at, hi, hy]
def colsSh : List Shp → Nat → (Nat → List Value) → Nat → List Col
  | [], _, _, _ => []
  | s :: r, j, cs, n => colOf s (fun i => (cs i).getD j undef) n :: colsSh r (j + 1) cs n
theorem colsSh_len : ∀ (sh : List Shp) (j : Nat) (cs : Nat → List Value) (n : Nat), (colsSh sh j cs n).length = sh.length
  | [], _, _, _ => rfl
  | _ :: r, j, cs, n => by simp only [colsSh, List.length_cons, colsSh_len r]
theorem colsSh_ok {cs : Nat → List Value} {n : Nat} : ∀ (sh : List Shp) (j : Nat), (∀ i, i < n → ∀ (m : Nat) s, sh[m]? = some s → vIs s ((cs i).getD (j + m) undef)) →
    colsIs n sh (colsSh sh j cs n) ∧ ∀ (m : Nat) c, (colsSh sh j cs n)[m]? = some c → c.len = n ∧ ∀ i, i < n → c.at i = (cs i).getD (j + m) undef
  | [], j, _ => ⟨rfl, fun m c h => by simp [colsSh] at h⟩
  | s :: r, j, h => by
    have h0 := colOf_ok (s := s) (V := fun i => (cs i).getD j undef) (n := n) fun i hi => h i hi 0 s rfl
    obtain ⟨h1, h2⟩ := colsSh_ok (cs := cs) (n := n) r (j + 1) fun i hi m s' hm => by
      have := h i hi (m + 1) s' (by simpa using hm)
      rwa [show j + (m + 1) = j + 1 + m by omega] at this
    refine ⟨⟨_, _, rfl, h0.1, h1⟩, fun m c hm => ?_⟩
    cases m with
    | zero => simp only [colsSh, List.getElem?_cons_zero, Option.some.injEq] at hm; subst hm; exact ⟨h0.2.1, h0.2.2⟩
    | succ m =>
      have := h2 m c (by simpa [colsSh] using hm)
      rwa [show j + 1 + m = j + (m + 1) by omega] at this
theorem cellOf_world (W : World) (a : Addr) : cellOf (fun b => W.heap[b]?) a = W.cell? a := rfl
theorem open_rows {r : Reach} {b0 : Nat} {t e : TypeId} {v : Value} {dt : DataW H} {ps : List MemPlace} (d : Nat) (ht : P.underlying t = some (.slice e)) {sh : List Shp} (hsh : shpT P d e = some sh) (hce : P.cellsOf e = sh.length)
    (hv : Value.okWide P w r b0 t v) (h : DataW.Trod enc P w base sp held t v dt ps) :
    ∃ (a : Option Addr) (len cap : Nat) (cols : List Col), v = .slice a len cap ∧ colsIs len sh cols ∧ (RowAt (fun b => w.heap[b]?) a len cols ∧ len ≤ cap) := by
  obtain ⟨a0, len0, cap0, rfl⟩ := okWide_slice ht hv
  obtain ⟨fuel, hf⟩ := h
  rcases Go.Deep.open_slice ht hf with ⟨hcs, _⟩ | ⟨a, len, cap, m, n, Dt, Pl, hcs, hb, hl, hm, hmm, _, hx⟩
  · simp only [Value.cells, List.cons.injEq, and_true] at hcs
    injection hcs with e1 e2 e3
    subst e1; subst e2; subst e3
    obtain ⟨h1, h2⟩ := colsSh_ok (cs := fun _ => []) (n := 0) sh 0 fun i hi => absurd hi (Nat.not_lt_zero _)
    refine ⟨none, 0, 0, _, rfl, h1, ⟨fun c hc => ?_, fun i hi => absurd hi (Nat.not_lt_zero _), Nat.zero_le _⟩, Nat.le_refl _⟩
    obtain ⟨k, hk⟩ := List.getElem?_of_mem hc
    exact (h2 k c hk).1
  · simp only [Value.cells, List.cons.injEq, and_true] at hcs
    injection hcs with e1 e2 e3
    subst e1; subst e2; subst e3
    have hml : len0 ≤ m := by rw [hmm]; split <;> omega
    obtain ⟨cs, hcs⟩ := Go.Deep.choose_lt (α := List Value) (p := fun i cs' => w.cells? base (a.add (i * P.cellsOf e)) (P.cellsOf e) = some cs' ∧ DataW.trod enc P w base sp held n e cs' = some (Dt i, Pl i)) (n := len0) fun i hi => hx i (by omega)
    have hcells : ∀ i, i < len0 → cellsIs sh (cs i) := fun i hi => shpT_ok d e sh n _ _ hsh (hcs i hi).2
    obtain ⟨h1, h2⟩ := colsSh_ok (cs := cs) (n := len0) sh 0 fun i hi k s hk => by
      obtain ⟨x, hx1, hx2⟩ := cellsIs_get (hcells i hi) k s hk
      rw [Nat.zero_add, List.getD_eq_getElem?_getD, hx1]
      exact hx2
    refine ⟨some a, len0, cap0, _, rfl, h1, ⟨fun c hc => ?_, fun i hi => ⟨a, rfl, fun j c hj => ?_⟩, by omega⟩, by omega⟩
    · obtain ⟨k, hk⟩ := List.getElem?_of_mem hc
      exact (h2 k c hk).1
    · obtain ⟨_, hlen, hget⟩ := World.cells?_some (hcs i hi).1
      have hj' : j < sh.length := by
        have := lt_of_get hj
        rwa [colsSh_len] at this
      rw [cellOf_world, colsSh_len, ← hce, ← Go.Deep.add_add, hget j (by omega), (h2 j c hj).2 i hi, Nat.zero_add, List.getD_eq_getElem?_getD]
      rw [List.getElem?_eq_getElem (by omega)]
      rfl
end
end Go.Sl
namespace Go.Proofs.YtnddjnnakkiidaaGreat
open Go.ChangeShapes Go.WideShapes Go.ChangeAt Go.RowKit Go.Joins Go.Sl
theorem SlabGives_own : ownKnob Tryz.prog.godebug = none := by kernel_rfl
theorem SlabGives_laidOut : laidOutB Tryz.prog = true := by kernel_rfl
set_option maxRecDepth 100000 in
theorem SlabGives_lifted (os : Os) (started : os.Started) (H : Type) (enc : TypeId × Value → H) :
    ReturnsInHanded {} Tryz.checked os 6 .any (Rows.slabGivesSpec.pre6 enc Tryz.prog Tryz.f6 Rows.slabGivesRow.domain false) (Rows.slabGivesSpec.post enc Tryz.prog Tryz.f6 false true false false) := by
  refine returnsInHanded_of_change (C := Tryz.checked) SlabGives_own started (by kernel_rfl) Tryz.func6
    (ChangeSpec.witness6 (enc := enc) (C := Tryz.checked) false ⟨#[], #[.agg #[.int .i64 0, .int .i64 0, .int .i64 0], .slice none 0 0, .agg #[.int .i64 0, .int .i64 0]], []⟩ 8 (by kernel_rfl) (by kernel_rfl) (by kernel_rfl) (by kernel_rfl)) ?_
  intro W base args ds gs before hval0 hW _ _
  have hval : ∀ (j : Nat) t v, Tryz.f6.params[j]? = some t → args[j]? = some v → Value.okWide Tryz.prog W .any base t v := hval0
  have hW' := hW
  obtain ⟨p, q, hA0, _, _, _, _⟩ := hW
  have hA : DataW.TrodAll enc Tryz.prog W 0 (fun _ => true) true Tryz.f6.params.toList args.toList ds p := hA0
  rw [Tryz.params6] at hA hval
  obtain ⟨v0, v1, v2, d0, d1, d2, p0, p1, p2, rfl, rfl, _, h0, h1, h2⟩ := trodAll_three hA
  obtain ⟨k0, rfl, hk0⟩ := open_flat 8 (by kernel_rfl) (sh := [.int .i64, .int .i64, .int .i64]) (by kernel_rfl) (hval 0 23 v0 rfl rfl) h0
  obtain ⟨_, r0_0, rfl, ⟨a0_0, rfl, wa0_0⟩, hk0⟩ := hk0
  have ba0_0 := bd_i64 wa0_0
  obtain ⟨_, r0_1, rfl, ⟨a0_1, rfl, wa0_1⟩, hk0⟩ := hk0
  have ba0_1 := bd_i64 wa0_1
  obtain ⟨_, r0_2, rfl, ⟨a0_2, rfl, wa0_2⟩, hk0⟩ := hk0
  have ba0_2 := bd_i64 wa0_2
  obtain rfl := hk0
  obtain ⟨s1, n1, c1, k1, rfl, hk1, hr1⟩ := open_rows 8 Tryz.underlying24 (sh := [.int .u32]) (by kernel_rfl) (by kernel_rfl) (hval 1 24 v1 rfl rfl) h1
  obtain ⟨_, r1_0, rfl, ⟨x1_0, rfl, hl1_0, hw1_0⟩, hk1⟩ := hk1
  obtain rfl := hk1
  subst hl1_0
  obtain ⟨k2, rfl, hk2⟩ := open_flat 8 (by kernel_rfl) (sh := [.int .i64, .int .i64]) (by kernel_rfl) (hval 2 25 v2 rfl rfl) h2
  obtain ⟨_, r2_0, rfl, ⟨a2_0, rfl, wa2_0⟩, hk2⟩ := hk2
  have ba2_0 := bd_i64 wa2_0
  obtain ⟨_, r2_1, rfl, ⟨a2_1, rfl, wa2_1⟩, hk2⟩ := hk2
  have ba2_1 := bd_i64 wa2_1
  obtain rfl := hk2
  clear hA0 hval0
  refine (SlabGives_plain a0_0 a0_1 a0_2 x1_0 a2_0 a2_1 s1 c1 hr1 (fun v hv => bd_u32 (hw1_0 v hv)) (Int.lt_add_one_iff.1 ba2_0.2) (Int.lt_add_one_iff.1 ba2_1.2) (Sat.start W)).mono fun e W' ⟨he, hS⟩ => ?_
  rw [show SlabGives a0_0 a0_1 a0_2 x1_0 a2_0 a2_1 = true from rfl] at he
  subst he
  exact ⟨_, rfl, law_post 4 SlabGives_laidOut hW' rfl rfl Tryz.underlying4 (by kernel_rfl) ⟨rfl, rfl, rfl⟩ hS.below⟩
theorem SlabGives_holds : Rows.SlabGivesSaid :=
  OpenClaim.holds_of_wide 6 Tryz.f6 rfl rfl rfl rfl rfl rfl rfl ⟨rfl, rfl, rfl, rfl, rfl⟩ rfl rfl rfl rfl rfl (by kernel_rfl) Tryz.func6 (by kernel_rfl)
    (of_decide_eq_true (by kernel_rfl)) (by unfold Func.isWrapper; rw [if_neg (of_decide_eq_false (by kernel_rfl))]; exact ⟨rfl, rfl⟩)
    (fun os started H enc _ => SlabGives_lifted os started H enc)
#print axioms SlabGives_holds
end Go.Proofs.YtnddjnnakkiidaaGreat
