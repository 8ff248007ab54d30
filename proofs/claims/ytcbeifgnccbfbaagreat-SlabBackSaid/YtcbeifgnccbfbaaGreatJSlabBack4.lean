/-
  DERIVED. Part 4 of the texts of this claim: What functions of the program compute, read off their bodies by the machine of SlB, and that it is so. Printed by a program of this claim's own.
-/
import Derived.Test.YtcbeifgnccbfbaaGreatJSlabBack3
set_option linter.unusedSimpArgs false
set_option linter.unusedVariables false
namespace Go.Proofs.YtcbeifgnccbfbaaGreat
open Go.Sl
theorem startsF_in {c : Cf} {xs : List Int} : ∀ (f : Nat) (a : Int) (out : List Int), 0 ≤ a → (∀ x ∈ out, 0 ≤ x ∧ x < c.p) → ∀ x ∈ (startsF c xs f a out).1, 0 ≤ x ∧ x < c.p
  | 0, _, out, _, h, x, hx => h x hx
  | f + 1, a, out, ha, h, x, hx => by
    simp only [startsF] at hx
    cases hd : decide (a < c.p) with
    | false => rw [hd] at hx; exact h x hx
    | true =>
      rw [hd, cond_true] at hx
      cases hc : (!infoOk (cel xs (c.info a)) || (aInfo c xs a).k == 0) with
      | true => rw [hc] at hx; cases hx
      | false =>
        rw [hc, cond_false] at hx
        have hl := (iGet_bd (cel xs (c.info a))).2.2.1
        have hl' : 0 ≤ (aInfo c xs a).l := hl
        refine startsF_in f _ _ (by omega) (fun y hy => ?_) x hx
        rcases List.mem_append.1 hy with hy | hy
        · exact h y hy
        · rw [List.mem_singleton.1 hy]; exact ⟨ha, by simpa using hd⟩
theorem starts_in {c : Cf} {xs : List Int} : ∀ x ∈ (starts c xs).1, 0 ≤ x ∧ x < c.p := startsF_in _ _ _ (Int.le_refl 0) fun x hx => by cases hx
theorem startsF_ne {c : Cf} {xs : List Int} : ∀ (f : Nat) (a : Int) (out : List Int), out ≠ [] → (startsF c xs f a out).2 = true → (startsF c xs f a out).1 ≠ []
  | 0, _, out, h, _ => h
  | f + 1, a, out, h, ht => by
    simp only [startsF] at ht ⊢
    cases hd : decide (a < c.p) with
    | false => exact h
    | true =>
      rw [hd, cond_true] at ht
      rw [cond_true]
      cases hc : (!infoOk (cel xs (c.info a)) || (aInfo c xs a).k == 0) with
      | true => rw [hc] at ht; cases ht
      | false =>
        rw [hc, cond_false] at ht
        exact startsF_ne f _ _ (by simp) ht
theorem starts_ne {c : Cf} {xs : List Int} (hp : 1 ≤ c.p) (h : (starts c xs).2 = true) : 1 ≤ (starts c xs).1.length := by
  have hd : decide ((0 : Int) < c.p) = true := by simp; omega
  have : (starts c xs).1 ≠ [] := by
    unfold starts at h ⊢
    simp only [startsF, hd, cond_true] at h ⊢
    cases hc : (!infoOk (cel xs (c.info 0)) || (aInfo c xs 0).k == 0) with
    | true => rw [hc] at h; cases h
    | false =>
      rw [hc, cond_false] at h
      exact startsF_ne _ _ _ (by simp) h
  rcases hl : (starts c xs).1 with _ | ⟨x, r⟩
  · exact absurd hl this
  · simp
theorem startsF_len {c : Cf} {xs : List Int} : ∀ (f : Nat) (a : Int) (out : List Int), (startsF c xs f a out).1.length ≤ out.length + f
  | 0, _, out => Nat.le_refl _
  | f + 1, a, out => by
    simp only [startsF]
    cases decide (a < c.p) with
    | false => simp only [cond_false]; omega
    | true =>
      simp only [cond_true]
      cases (!infoOk (cel xs (c.info a)) || (aInfo c xs a).k == 0) with
      | true => simp only [cond_true, List.length_nil]; omega
      | false =>
        simp only [cond_false]
        have := startsF_len (c := c) (xs := xs) f (a + (aInfo c xs a).l) (out ++ [a])
        simp only [List.length_append, List.length_singleton] at this
        omega
theorem starts_len {c : Cf} {xs : List Int} : (starts c xs).1.length ≤ c.p.toNat + 1 := by
  have := startsF_len (c := c) (xs := xs) (c.p.toNat + 1) 0 []
  unfold starts
  simpa using this
theorem getD_memA {l : List Int} {j : Nat} (h : j < l.length) : l.getD j 0 ∈ l := by
  rw [List.getD_eq_getElem?_getD, List.getElem?_eq_getElem h]; exact List.getElem_mem h
def x_tiles (t : Int) (p : Int) (sh : Int) (xs : List Int) : Bool := tiles ⟨t, p, sh⟩ xs
abbrev c_x_tiles : Ct Sg := ⟨none, false, [.agg [.i .i64, .i .i64, .i .i64, .ro [some .u32]]], .b⟩
def e_x_tiles : Entry Sg := entC c_x_tiles x_tiles (fun t p sh xs => [AGood ⟨t, p, sh⟩ xs])
def x_tiles_w (t : Int) (p : Int) (sh : Int) (xs : List Int) (Q0 : Int → Int → Nat → List Int → Prop) (R_ : Bool → Prop) : Prop := (∀ r1 : List Int × Bool, r1 = (x_starts t p sh xs) → (aw_ (AGood { t := t, p := p, s := sh } xs) (bw_ (!r1.2) (R_ (false)) (Q0 (0) (0) (List.length r1.1) r1.1))))
def x_tiles_w0 (t : Int) (p : Int) (sh : Int) (xs : List Int) (i : Int) (n : Int) (n1 : Nat) (ls : List Int) (Q0 : Int → Int → Nat → List Int → Prop) (R_ : Bool → Prop) : Prop := (bw_ (decide (i < p)) (aw_ (decide (n < (↑n1 : Int)) = true → 0 ≤ n ∧ n < (↑n1 : Int)) (bw_ (decide (n < (↑n1 : Int)) && List.getD ls (Int.toNat n) 0 == i) (Q0 (IntKind.wrap IntKind.i64 (i + 1)) (IntKind.wrap IntKind.i64 (n + 1)) (n1) (ls)) (aw_ (0 ≤ r07_Info t p sh i ∧ r07_Info t p sh i < (↑(List.length xs) : Int)) (bw_ (List.getD xs (Int.toNat (r07_Info t p sh i)) (0 : Int) != 0) (R_ (false)) (Q0 (IntKind.wrap IntKind.i64 (i + 1)) (n) (n1) (ls)))))) (R_ (true)))
def x_tiles_I0 (t : Int) (p : Int) (sh : Int) (xs : List Int) (i : Int) (n : Int) (n1 : Nat) (ls : List Int) (r_ : Bool) : Prop := 0 ≤ i ∧ i ≤ p ∧ 0 ≤ n ∧ n ≤ i ∧ n1 = ls.length ∧ tilesF ⟨t, p, sh⟩ xs ls (p - i).toNat n.toNat = r_
abbrev x_tiles_h0 (p0 : Addr) (t : Int) (p : Int) (sh : Int) (xs : List Int) : Hd Sg := ⟨none, [0,1,0,1,1,1,1], [.blk 0, .code [1,1,1,1,1]], [6, 5, 3, 1], [.i .i64, .i .i64, .own 3 [some .i64], .box 47 [.ic .i64 (t), .ic .i64 (p), .ic .i64 (sh), .roc [.ints .u32 (xs)]]]⟩
theorem x_tiles_begin (t : Int) (p : Int) (sh : Int) (xs : List Int) (hp0 : AGood ⟨t, p, sh⟩ xs) (hl0 : xs.length ≤ 9223372036854775807) : x_tiles_w t p sh xs (fun i' n' n1' ls' => x_tiles_I0 t p sh xs i' n' n1' ls' (x_tiles t p sh xs)) (fun r__ => r__ = (x_tiles t p sh xs)) := by
  unfold x_tiles_w
  try unfold x_tiles_I0
  have hok := Cf.ok_iff.1 hp0.ok
  simp only at hok
  rintro r1 rfl
  refine ⟨hp0, fun _ => ⟨fun hc => ?_, fun hc => ?_⟩⟩
  · have e : (starts ⟨t, p, sh⟩ xs).2 = false := by simpa [x_starts] using hc
    show false = tiles ⟨t, p, sh⟩ xs
    unfold tiles
    rw [e]; rfl
  · have e : (starts ⟨t, p, sh⟩ xs).2 = true := by simpa [x_starts] using hc
    refine ⟨by omega, by omega, by omega, by omega, rfl, ?_⟩
    show _ = tiles ⟨t, p, sh⟩ xs
    unfold tiles
    rw [e, cond_true, show (p - 0).toNat = p.toNat by omega]
    rfl
theorem x_tiles_step0 (t : Int) (p : Int) (sh : Int) (xs : List Int) (hp0 : AGood ⟨t, p, sh⟩ xs) (hl0 : xs.length ≤ 9223372036854775807) (i : Int) (n : Int) (n1 : Nat) (ls : List Int) {r_ : Bool} (hI : x_tiles_I0 t p sh xs i n n1 ls r_) : x_tiles_w0 t p sh xs i n n1 ls (fun i' n' n1' ls' => x_tiles_I0 t p sh xs i' n' n1' ls' r_ ∧ lx ((p - i').toNat, 0, 0) ((p - i).toNat, 0, 0)) (fun r__ => r__ = r_) := by
  unfold x_tiles_I0 at hI
  unfold x_tiles_w0
  try unfold x_tiles_I0
  obtain ⟨h0, h1, h2, h3, h4, hr⟩ := hI
  have hok := Cf.ok_iff.1 hp0.ok
  simp only at hok
  refine ⟨fun h => ?_, fun h => ?_⟩
  · simp only [decide_eq_true_eq] at h
    have hin := pc_in hp0 (g := i) (k := 0) ⟨h0, h⟩ (by omega)
    have e : (p - i).toNat = (p - (i + 1)).toNat + 1 := by omega
    have ei : (p : Int) - (((p - (i + 1)).toNat + 1 : Nat) : Int) = i := by omega
    have hb : decide (n < (n1 : Int)) = decide (n.toNat < ls.length) := by rw [h4]; apply decide_eq_decide.2; omega
    rw [e] at hr
    simp only [tilesF] at hr
    rw [ei] at hr
    rw [w64 (n := i + 1) (by omega), w64 (n := n + 1) (by omega), r07_Info_eq, hb]
    refine ⟨fun hh => (by simp only [decide_eq_true_eq] at hh; omega), fun _ => ⟨fun hc => ?_, fun hc => ?_⟩⟩
    · rw [hc, cond_true] at hr
      refine ⟨⟨by omega, by omega, by omega, by omega, h4, ?_⟩, lxo_⟩
      rw [show (n + 1).toNat = n.toNat + 1 by omega]; exact hr
    · rw [hc, cond_false] at hr
      refine ⟨hin, fun _ => ⟨fun hz => ?_, fun hz => ?_⟩⟩
      · have hz' : (cel xs (Cf.info ⟨t, p, sh⟩ i) != 0) = true := hz
        rw [hz', cond_true] at hr; exact hr
      · have hz' : (cel xs (Cf.info ⟨t, p, sh⟩ i) != 0) = false := hz
        rw [hz', cond_false] at hr
        exact ⟨⟨by omega, by omega, h2, by omega, h4, hr⟩, lxo_⟩
  · simp only [decide_eq_false_iff_not] at h
    rw [show (p - i).toNat = 0 by omega] at hr
    exact hr
theorem x_tiles_ok : EOk 81 e_x_tiles :=
  ent_wp Dg T_x_starts_ok (I := [6571000000006, 6571000000005, 6571000000003, 6571000000001]) Tryz.func81 mix (B := bodyOf Tryz.f81) (by kernel_rfl) rfl (by kernel_rfl) 400
    fun p0 t p sh xs hb hp => have hl0 : xs.length ≤ 9223372036854775807 := hb.1.2.2.2.1; have hp0 : AGood ⟨t, p, sh⟩ xs := hp _ (.head _); ⟨[x_tiles_h0 p0 t p sh xs], fun j => List.getD [appC (Hd.kd (x_tiles_h0 p0 t p sh xs)) (fun i' n' n1' ls' => x_tiles_I0 t p sh xs i' n' n1' ls' (x_tiles t p sh xs))] j (fun _ => False), fun j => List.getD [appC (Hd.kd (x_tiles_h0 p0 t p sh xs)) (fun i' n' n1' ls' => ((p - i').toNat, 0, 0))] j (fun _ => (0, 0, 0)), by kernel_rfl, ⟨x_tiles_w t p sh xs (fun i' n' n1' ls' => x_tiles_I0 t p sh xs i' n' n1' ls' (x_tiles t p sh xs)) (fun r__ => r__ = (x_tiles t p sh xs)), fun _ _ _ => by kernel_rfl, x_tiles_begin t p sh xs hp0 hl0 ⟩, ⟨fun i n n1 ls hI => ⟨x_tiles_w0 t p sh xs i n n1 ls (fun i' n' n1' ls' => x_tiles_I0 t p sh xs i' n' n1' ls' (x_tiles t p sh xs) ∧ lx ((p - i').toNat, 0, 0) ((p - i).toNat, 0, 0)) (fun r__ => r__ = (x_tiles t p sh xs)), fun _ _ _ => by kernel_rfl, x_tiles_step0 t p sh xs hp0 hl0 i n n1 ls hI⟩, trivial⟩⟩
def T_x_tiles : Tb := (81, e_x_tiles) :: T_x_starts
theorem T_x_tiles_ok : TOk T_x_tiles := tc_ x_tiles_ok T_x_starts_ok
def x_apart (t : Int) (p : Int) (sh : Int) (xs : List Int) : Bool := apart ⟨t, p, sh⟩ xs
abbrev c_x_apart : Ct Sg := ⟨none, false, [.agg [.i .i64, .i .i64, .i .i64, .ro [some .u32]]], .b⟩
def e_x_apart : Entry Sg := entC c_x_apart x_apart (fun t p sh xs => [AGood ⟨t, p, sh⟩ xs])
def x_apart_w (t : Int) (p : Int) (sh : Int) (xs : List Int) (Q0 : Int → Nat → List Int → Prop) (R_ : Bool → Prop) : Prop := (∀ r1 : List Int × Bool, r1 = (x_starts t p sh xs) → (aw_ (AGood { t := t, p := p, s := sh } xs) (Q0 (1) (List.length r1.1) r1.1)))
def x_apart_w0 (t : Int) (p : Int) (sh : Int) (xs : List Int) (n : Int) (n1 : Nat) (ls : List Int) (Q0 : Int → Nat → List Int → Prop) (R_ : Bool → Prop) : Prop := (bw_ (decide (n < (↑n1 : Int))) (aw_ (0 ≤ n ∧ n < (↑n1 : Int)) (aw_ (AGood { t := t, p := p, s := sh } xs) (aw_ (0 ≤ List.getD ls (Int.toNat n) 0 ∧ List.getD ls (Int.toNat n) 0 < p) (aw_ ((Prod.fst (x_Info t p sh xs (List.getD ls (Int.toNat n) 0)) == 1) = true → 0 ≤ IntKind.wrap IntKind.i64 (n - 1) ∧ IntKind.wrap IntKind.i64 (n - 1) < (↑n1 : Int)) (aw_ ((Prod.fst (x_Info t p sh xs (List.getD ls (Int.toNat n) 0)) == 1) = true → AGood { t := t, p := p, s := sh } xs) (aw_ ((Prod.fst (x_Info t p sh xs (List.getD ls (Int.toNat n) 0)) == 1) = true → 0 ≤ List.getD ls (Int.toNat (IntKind.wrap IntKind.i64 (n - 1))) 0 ∧ List.getD ls (Int.toNat (IntKind.wrap IntKind.i64 (n - 1))) 0 < p) (bw_ (Prod.fst (x_Info t p sh xs (List.getD ls (Int.toNat n) 0)) == 1 && Prod.fst (x_Info t p sh xs (List.getD ls (Int.toNat (IntKind.wrap IntKind.i64 (n - 1))) 0)) == 1) (R_ (false)) (Q0 (IntKind.wrap IntKind.i64 (n + 1)) (n1) (ls))))))))) (R_ (true)))
def x_apart_I0 (t : Int) (p : Int) (sh : Int) (xs : List Int) (n : Int) (n1 : Nat) (ls : List Int) (r_ : Bool) : Prop := 1 ≤ n ∧ (n ≤ ls.length ∨ n = 1) ∧ n1 = ls.length ∧ ls = (starts ⟨t, p, sh⟩ xs).1 ∧ apartF ⟨t, p, sh⟩ xs ls (ls.length - n).toNat = r_
abbrev x_apart_h0 (p0 : Addr) (t : Int) (p : Int) (sh : Int) (xs : List Int) : Hd Sg := ⟨none, [0,1,0,1,1], [.blk 0, .code [1,1,1]], [5, 3, 1], [.i .i64, .own 3 [some .i64], .box 47 [.ic .i64 (t), .ic .i64 (p), .ic .i64 (sh), .roc [.ints .u32 (xs)]]]⟩
theorem x_apart_begin (t : Int) (p : Int) (sh : Int) (xs : List Int) (hp0 : AGood ⟨t, p, sh⟩ xs) (hl0 : xs.length ≤ 9223372036854775807) : x_apart_w t p sh xs (fun n' n1' ls' => x_apart_I0 t p sh xs n' n1' ls' (x_apart t p sh xs)) (fun r__ => r__ = (x_apart t p sh xs)) := by
  unfold x_apart_w
  try unfold x_apart_I0
  rintro r1 rfl
  refine ⟨hp0, fun _ => ⟨by omega, .inr rfl, rfl, rfl, ?_⟩⟩
  show apartF ⟨t, p, sh⟩ xs (starts ⟨t, p, sh⟩ xs).1 (((starts ⟨t, p, sh⟩ xs).1.length : Int) - 1).toNat = apart ⟨t, p, sh⟩ xs
  unfold apart
  congr 1
  omega
theorem x_apart_step0 (t : Int) (p : Int) (sh : Int) (xs : List Int) (hp0 : AGood ⟨t, p, sh⟩ xs) (hl0 : xs.length ≤ 9223372036854775807) (n : Int) (n1 : Nat) (ls : List Int) {r_ : Bool} (hI : x_apart_I0 t p sh xs n n1 ls r_) : x_apart_w0 t p sh xs n n1 ls (fun n' n1' ls' => x_apart_I0 t p sh xs n' n1' ls' r_ ∧ lx ((ls'.length - n').toNat, 0, 0) ((ls.length - n).toNat, 0, 0)) (fun r__ => r__ = r_) := by
  unfold x_apart_I0 at hI
  unfold x_apart_w0
  try unfold x_apart_I0
  obtain ⟨h0, h1, h4, h5, hr⟩ := hI
  have hok := Cf.ok_iff.1 hp0.ok
  simp only at hok
  refine ⟨fun h => ?_, fun h => ?_⟩
  · simp only [decide_eq_true_eq] at h
    have hn : n < (ls.length : Int) := by omega
    have hm := starts_in (c := ⟨t, p, sh⟩) (xs := xs) (ls.getD n.toNat 0) (by rw [← h5]; exact getD_memA (by omega))
    have hm' := starts_in (c := ⟨t, p, sh⟩) (xs := xs) (ls.getD (n - 1).toNat 0) (by rw [← h5]; exact getD_memA (by omega))
    have hbig : n < 9223372036854775807 := by
      have hl := starts_len (c := ⟨t, p, sh⟩) (xs := xs)
      rw [← h5] at hl
      simp only at hl
      omega
    obtain ⟨m, hm2⟩ : ∃ m : Nat, (ls.length - n).toNat = m + 1 := ⟨(ls.length - n).toNat - 1, by omega⟩
    rw [hm2] at hr
    simp only [apartF] at hr
    rw [show ls.length - (m + 1) = n.toNat by omega, show n.toNat - 1 = (n - 1).toNat by omega] at hr
    rw [w64 (n := n - 1) (by omega), w64 (n := n + 1) (by omega)]
    refine ⟨⟨by omega, h⟩, fun _ => ⟨hp0, fun _ => ⟨hm, fun _ => ⟨fun _ => by omega, fun _ => ⟨fun _ => hp0, fun _ => ⟨fun _ => hm', fun _ => ⟨fun hc => ?_, fun hc => ?_⟩⟩⟩⟩⟩⟩⟩
    · simp only [x_Info] at hc; rw [hc, cond_true] at hr; exact hr.symm ▸ rfl
    · simp only [x_Info] at hc; rw [hc, cond_false] at hr
      refine ⟨⟨by omega, by omega, h4, h5, ?_⟩, lxo_⟩
      rw [show (ls.length - (n + 1)).toNat = m by omega]; exact hr
  · simp only [decide_eq_false_iff_not] at h
    rw [show (ls.length - n).toNat = 0 by omega] at hr
    exact hr
theorem x_apart_ok : EOk 83 e_x_apart :=
  ent_wp Dg T_x_tiles_ok (I := [411000000005, 411000000003, 411000000001]) Tryz.func83 mix (B := bodyOf Tryz.f83) (by kernel_rfl) rfl (by kernel_rfl) 400
    fun p0 t p sh xs hb hp => have hl0 : xs.length ≤ 9223372036854775807 := hb.1.2.2.2.1; have hp0 : AGood ⟨t, p, sh⟩ xs := hp _ (.head _); ⟨[x_apart_h0 p0 t p sh xs], fun j => List.getD [appC (Hd.kd (x_apart_h0 p0 t p sh xs)) (fun n' n1' ls' => x_apart_I0 t p sh xs n' n1' ls' (x_apart t p sh xs))] j (fun _ => False), fun j => List.getD [appC (Hd.kd (x_apart_h0 p0 t p sh xs)) (fun n' n1' ls' => ((ls'.length - n').toNat, 0, 0))] j (fun _ => (0, 0, 0)), by kernel_rfl, ⟨x_apart_w t p sh xs (fun n' n1' ls' => x_apart_I0 t p sh xs n' n1' ls' (x_apart t p sh xs)) (fun r__ => r__ = (x_apart t p sh xs)), fun _ _ _ => by kernel_rfl, x_apart_begin t p sh xs hp0 hl0 ⟩, ⟨fun n n1 ls hI => ⟨x_apart_w0 t p sh xs n n1 ls (fun n' n1' ls' => x_apart_I0 t p sh xs n' n1' ls' (x_apart t p sh xs) ∧ lx ((ls'.length - n').toNat, 0, 0) ((ls.length - n).toNat, 0, 0)) (fun r__ => r__ = (x_apart t p sh xs)), fun _ _ _ => by kernel_rfl, x_apart_step0 t p sh xs hp0 hl0 n n1 ls hI⟩, trivial⟩⟩
def T_x_apart : Tb := (83, e_x_apart) :: T_x_tiles
theorem T_x_apart_ok : TOk T_x_apart := tc_ x_apart_ok T_x_tiles_ok
def r12_in (ls : List Int) (g : Int) : Int := inA ls g
abbrev c_r12_in : Ct Sg := ⟨none, false, [.ro [some .i64], .i .i64], .i .i64⟩
def e_r12_in : Entry Sg := entC c_r12_in r12_in (fun _ _ => [])
def r12_in_w (ls : List Int) (g : Int) (Q0 : Int → Int → Prop) (R_ : Int → Prop) : Prop := (Q0 (0) (0))
def r12_in_w0 (ls : List Int) (g : Int) (i : Int) (m : Int) (Q0 : Int → Int → Prop) (R_ : Int → Prop) : Prop := (bw_ (decide (i < (↑(List.length ls) : Int))) (aw_ (0 ≤ i ∧ i < (↑(List.length ls) : Int)) (bw_ (List.getD ls (Int.toNat i) 0 == g) (Q0 (IntKind.wrap IntKind.i64 (i + 1)) (IntKind.wrap IntKind.i64 (m + 1))) (Q0 (IntKind.wrap IntKind.i64 (i + 1)) (m)))) (R_ (m)))
def r12_in_I0 (ls : List Int) (g : Int) (i : Int) (m : Int) (r_ : Int) : Prop := 0 ≤ i ∧ i ≤ ls.length ∧ m = inA (ls.take i.toNat) g ∧ ls.length ≤ 9223372036854775807 ∧ r_ = inA ls g
abbrev r12_in_h0 (p0 : Addr) (ls : List Int) (g : Int) : Hd Sg := ⟨none, [0,1,0,1,1], [.blk 0, .code [1,1,1]], [6, 5, 0, 1], [.i .i64, .i .i64, .roc [.ints .i64 (ls)], .ic .i64 (g)]⟩
theorem r12_in_begin (ls : List Int) (g : Int) (hl0 : ls.length ≤ 9223372036854775807) : r12_in_w ls g (fun i' m' => r12_in_I0 ls g i' m' (r12_in ls g)) (fun r__ => r__ = (r12_in ls g)) := by
  unfold r12_in_w
  try unfold r12_in_I0
  exact ⟨by omega, by omega, by simp [inA], hl0, rfl⟩
theorem r12_in_step0 (ls : List Int) (g : Int) (hl0 : ls.length ≤ 9223372036854775807) (i : Int) (m : Int) {r_ : Int} (hI : r12_in_I0 ls g i m r_) : r12_in_w0 ls g i m (fun i' m' => r12_in_I0 ls g i' m' r_ ∧ lx ((ls.length - i').toNat, 0, 0) ((ls.length - i).toNat, 0, 0)) (fun r__ => r__ = r_) := by
  unfold r12_in_I0 at hI
  unfold r12_in_w0
  try unfold r12_in_I0
  obtain ⟨h0, h1, h2, h3, hr⟩ := hI
  refine ⟨fun h => ?_, fun h => ?_⟩
  · simp only [decide_eq_true_eq] at h
    have ht : ls.take (i + 1).toNat = ls.take i.toNat ++ [ls.getD i.toNat 0] := by
      rw [show (i + 1).toNat = i.toNat + 1 by omega, List.take_add_one, List.getD_eq_getElem?_getD, List.getElem?_eq_getElem (by omega)]; rfl
    have hle : 0 ≤ m ∧ m ≤ i := by
      rw [h2]; unfold inA
      have := List.length_filter_le (· == g) (ls.take i.toNat)
      rw [List.length_take] at this
      omega
    rw [w64 (n := i + 1) (by omega), w64 (n := m + 1) (by omega)]
    refine ⟨⟨h0, h⟩, fun _ => ⟨fun hc => ?_, fun hc => ?_⟩⟩
    · refine ⟨⟨by omega, by omega, ?_, h3, hr⟩, lxo_⟩
      rw [ht, h2]
      generalize ls.getD i.toNat 0 = q at hc
      unfold inA
      rw [List.filter_append, List.length_append]
      simp only [beq_iff_eq, beq_eq_false_iff_ne] at hc
      simp [List.filter_cons, hc]
    · refine ⟨⟨by omega, by omega, ?_, h3, hr⟩, lxo_⟩
      rw [ht, h2]
      generalize ls.getD i.toNat 0 = q at hc
      unfold inA
      rw [List.filter_append, List.length_append]
      simp only [beq_iff_eq, beq_eq_false_iff_ne] at hc
      simp [List.filter_cons, hc]
  · simp only [decide_eq_false_iff_not] at h
    show m = r_
    rw [hr, h2, List.take_of_length_le (by omega)]
theorem r12_in_ok : EOk 130 e_r12_in :=
  ent_wp Dg T_x_apart_ok (I := [411000000006, 411000000005, 411000000000, 411000000001]) Tryz.func130 mix (B := bodyOf Tryz.f130) (by kernel_rfl) rfl (by kernel_rfl) 400
    fun p0 ls g hb hp => have hl0 : ls.length ≤ 9223372036854775807 := hb.1; ⟨[r12_in_h0 p0 ls g], fun j => List.getD [appC (Hd.kd (r12_in_h0 p0 ls g)) (fun i' m' => r12_in_I0 ls g i' m' (r12_in ls g))] j (fun _ => False), fun j => List.getD [appC (Hd.kd (r12_in_h0 p0 ls g)) (fun i' m' => ((ls.length - i').toNat, 0, 0))] j (fun _ => (0, 0, 0)), by kernel_rfl, ⟨r12_in_w ls g (fun i' m' => r12_in_I0 ls g i' m' (r12_in ls g)) (fun r__ => r__ = (r12_in ls g)), fun _ _ _ => by kernel_rfl, r12_in_begin ls g hl0 ⟩, ⟨fun i m hI => ⟨r12_in_w0 ls g i m (fun i' m' => r12_in_I0 ls g i' m' (r12_in ls g) ∧ lx ((ls.length - i').toNat, 0, 0) ((ls.length - i).toNat, 0, 0)) (fun r__ => r__ = (r12_in ls g)), fun _ _ _ => by kernel_rfl, r12_in_step0 ls g hl0 i m hI⟩, trivial⟩⟩
def T_r12_in : Tb := (130, e_r12_in) :: T_x_apart
theorem T_r12_in_ok : TOk T_r12_in := tc_ r12_in_ok T_x_apart_ok
end Go.Proofs.YtcbeifgnccbfbaaGreat
namespace Go.Proofs.YtcbeifgnccbfbaaGreat
open Go.Sl
theorem r05_Slots_eq (k : Int) : r05_Slots k = kSlots k := by
  by_cases h : 0 ≤ k ∧ k ≤ 8
  · rcases (by omega : k = 0 ∨ k = 1 ∨ k = 2 ∨ k = 3 ∨ k = 4 ∨ k = 5 ∨ k = 6 ∨ k = 7 ∨ k = 8) with rfl | rfl | rfl | rfl | rfl | rfl | rfl | rfl | rfl <;> rfl
  · have e : ∀ j : Int, 0 ≤ j → j ≤ 8 → (k == j) = false := fun j h0 h1 => by simp; omega
    have e1 : r05_Slots k = 0 := by
      unfold r05_Slots
      simp only [e 0 (by omega) (by omega), e 1 (by omega) (by omega), e 2 (by omega) (by omega), e 3 (by omega) (by omega), e 4 (by omega) (by omega), e 5 (by omega) (by omega), e 6 (by omega) (by omega), e 7 (by omega) (by omega), e 8 (by omega) (by omega), cond_false]
    rw [e1]
    unfold kSlots
    by_cases h0 : 0 ≤ k
    · have : decide (0 ≤ k) = true := by simpa using h0
      rw [this, cond_true, List.getD_eq_getElem?_getD, List.getElem?_eq_none (by simp; omega)]; rfl
    · have : decide (0 ≤ k) = false := by simpa using h0
      rw [this]; rfl
theorem bit_eq {v : Int} (hv : bd32 v) (i : Int) : r01_Bit v i = bitAt v i := by
  unfold r01_Bit bitAt
  by_cases h : 0 ≤ i ∧ i < 32
  · have e1 : decide (i ≥ 0) = true := by simp; omega
    have e2 : decide (i < 32) = true := by simp; omega
    rw [e1, e2]
    have ew : IntKind.wrap IntKind.u64 i = i := by rw [IntKind.wrap_u64]; omega
    have em : min i.toNat 32 = i.toNat := by omega
    have hp : (0 : Int) ≤ 2 ^ i.toNat := Int.le_of_lt (Int.pow_pos (by omega))
    rw [ew, em, Int.fdiv_eq_ediv_of_nonneg _ hp, Int.tmod_eq_emod_of_nonneg (Int.ediv_nonneg hv.1 hp)]
  · have : (decide (i ≥ 0) && decide (i < 32)) = false := by simp; omega
    rw [this, Bool.false_and, Bool.false_and]
def r01_Ones (v : Int) : Int := ones v
abbrev c_r01_Ones : Ct Sg := ⟨none, false, [.i .u32], .i .i64⟩
def e_r01_Ones : Entry Sg := entC c_r01_Ones r01_Ones (fun v => [bd32 v])
def r01_Ones_w (v : Int) (Q0 : Int → Int → Prop) (R_ : Int → Prop) : Prop := (Q0 (0) (0))
def r01_Ones_w0 (v : Int) (i : Int) (m : Int) (Q0 : Int → Int → Prop) (R_ : Int → Prop) : Prop := (bw_ (decide (i < 32)) (bw_ (r01_Bit v i) (Q0 (IntKind.wrap IntKind.i64 (i + 1)) (IntKind.wrap IntKind.i64 (m + 1))) (Q0 (IntKind.wrap IntKind.i64 (i + 1)) (m))) (R_ (m)))
def r01_Ones_I0 (v : Int) (i : Int) (m : Int) (r_ : Int) : Prop := 0 ≤ i ∧ i ≤ 32 ∧ 0 ≤ m ∧ m ≤ i ∧ m = onesF v i.toNat ∧ r_ = ones v
abbrev r01_Ones_h0 (p0 : Addr) (v : Int) : Hd Sg := ⟨none, [0,1,0,1,1], [.blk 0, .code [1,1,1]], [4, 3, 0], [.i .i64, .i .i64, .ic .u32 (v)]⟩
theorem r01_Ones_begin (v : Int) (hp0 : bd32 v) : r01_Ones_w v (fun i' m' => r01_Ones_I0 v i' m' (r01_Ones v)) (fun r__ => r__ = (r01_Ones v)) := by
  unfold r01_Ones_w
  try unfold r01_Ones_I0
  exact ⟨by omega, by omega, by omega, by omega, rfl, rfl⟩
theorem r01_Ones_step0 (v : Int) (hp0 : bd32 v) (i : Int) (m : Int) {r_ : Int} (hI : r01_Ones_I0 v i m r_) : r01_Ones_w0 v i m (fun i' m' => r01_Ones_I0 v i' m' r_ ∧ lx ((32 - i').toNat, 0, 0) ((32 - i).toNat, 0, 0)) (fun r__ => r__ = r_) := by
  unfold r01_Ones_I0 at hI
  unfold r01_Ones_w0
  try unfold r01_Ones_I0
  obtain ⟨h0, h1, h2, h3, h4, hr⟩ := hI
  refine ⟨fun h => ?_, fun h => ?_⟩
  · simp only [decide_eq_true_eq] at h
    have e : (i + 1).toNat = i.toNat + 1 := by omega
    have ei : ((i.toNat : Nat) : Int) = i := by omega
    rw [w64 (n := i + 1) (by omega), w64 (n := m + 1) (by omega), bit_eq hp0]
    refine ⟨fun hb => ?_, fun hb => ?_⟩
    · exact ⟨⟨by omega, by omega, by omega, by omega, by rw [e, onesF, ei, hb, ← h4]; rfl, hr⟩, lxo_⟩
    · exact ⟨⟨by omega, by omega, by omega, by omega, by rw [e, onesF, ei, hb, ← h4]; simp, hr⟩, lxo_⟩
  · simp only [decide_eq_false_iff_not] at h
    have e : i.toNat = 32 := by omega
    rw [e] at h4
    rw [hr]; exact h4
theorem r01_Ones_ok : EOk 21 e_r01_Ones :=
  ent_wp Dg T_r12_in_ok (I := [411000000004, 411000000003, 411000000000]) Tryz.func21 mix (B := bodyOf Tryz.f21) (by kernel_rfl) rfl (by kernel_rfl) 400
    fun p0 v hb hp => have hp0 : bd32 v := hp _ (.head _); ⟨[r01_Ones_h0 p0 v], fun j => List.getD [appC (Hd.kd (r01_Ones_h0 p0 v)) (fun i' m' => r01_Ones_I0 v i' m' (r01_Ones v))] j (fun _ => False), fun j => List.getD [appC (Hd.kd (r01_Ones_h0 p0 v)) (fun i' m' => ((32 - i').toNat, 0, 0))] j (fun _ => (0, 0, 0)), by kernel_rfl, ⟨r01_Ones_w v (fun i' m' => r01_Ones_I0 v i' m' (r01_Ones v)) (fun r__ => r__ = (r01_Ones v)), fun _ _ _ => by kernel_rfl, r01_Ones_begin v hp0 ⟩, ⟨fun i m hI => ⟨r01_Ones_w0 v i m (fun i' m' => r01_Ones_I0 v i' m' (r01_Ones v) ∧ lx ((32 - i').toNat, 0, 0) ((32 - i).toNat, 0, 0)) (fun r__ => r__ = (r01_Ones v)), fun _ _ _ => by kernel_rfl, r01_Ones_step0 v hp0 i m hI⟩, trivial⟩⟩
def T_r01_Ones : Tb := (21, e_r01_Ones) :: T_r12_in
theorem T_r01_Ones_ok : TOk T_r01_Ones := tc_ r01_Ones_ok T_r12_in_ok
def r12_Full (v : Int) (k : Int) : Bool := r01_Ones v == r05_Slots k
abbrev c_r12_Full : Ct Sg := ⟨none, false, [.i .u32, .i .i64], .b⟩
def e_r12_Full : Entry Sg := entC c_r12_Full r12_Full (fun v k => [bd32 v])
theorem r12_Full_ok : EOk 133 e_r12_Full :=
  ent_ok Dg T_r01_Ones_ok (I := []) Tryz.func133 mix (B := bodyOf Tryz.f133) (by kernel_rfl) rfl (by kernel_rfl) 400
    fun _ v k hb hp => have hp0 : bd32 v := hp _ (.head _); ⟨(r12_Full v k), (.need (bd32 v) .t), fun _ _ _ => by kernel_rfl, ⟨(by exact hp0), fun z0 => trivial⟩, rfl⟩
def T_r12_Full : Tb := (133, e_r12_Full) :: T_r01_Ones
theorem T_r12_Full_ok : TOk T_r12_Full := tc_ r12_Full_ok T_r01_Ones_ok
def x_List (t : Int) (p : Int) (sh : Int) (xs : List Int) (hd : Int) : List Int × Bool := listA ⟨t, p, sh⟩ xs hd
abbrev c_x_List : Ct Sg := ⟨none, false, [.agg [.i .i64, .i .i64, .i .i64, .ro [some .u32]], .i .i64], .tup [.new 3 [some .i64], .b]⟩
def e_x_List : Entry Sg := entC c_x_List x_List (fun t p sh xs hd => [AGood ⟨t, p, sh⟩ xs, 0 ≤ hd ∧ hd < xs.length])
def x_List_w (t : Int) (p : Int) (sh : Int) (xs : List Int) (hd : Int) (Q0 : Int → Int → Nat → List Int → Prop) (R_ : List Int × Bool → Prop) : Prop := (aw_ (0 ≤ hd ∧ hd < (↑(List.length xs) : Int)) (Q0 (0) (List.getD xs (Int.toNat hd) 0) (0) ([])))
def x_List_w0 (t : Int) (p : Int) (sh : Int) (xs : List Int) (hd : Int) (ah : Int) (q : Int) (n1 : Nat) (out : List Int) (Q0 : Int → Int → Nat → List Int → Prop) (R_ : List Int × Bool → Prop) : Prop := (bw_ (q != 0) (bw_ (decide (IntKind.wrap IntKind.i64 q > p) || decide ((↑n1 : Int) ≥ p)) (R_ ((out, false))) (aw_ (0 ≤ r07_Prev t p sh (IntKind.wrap IntKind.i64 (IntKind.wrap IntKind.i64 q - 1)) ∧ r07_Prev t p sh (IntKind.wrap IntKind.i64 (IntKind.wrap IntKind.i64 q - 1)) < (↑(List.length xs) : Int)) (bw_ (List.getD xs (Int.toNat (r07_Prev t p sh (IntKind.wrap IntKind.i64 (IntKind.wrap IntKind.i64 q - 1)))) 0 != ah) (R_ ((out, false))) (aw_ ((n1 + 1) * 8 ≤ 140737488355328) (aw_ (0 ≤ r07_Next t p sh (IntKind.wrap IntKind.i64 (IntKind.wrap IntKind.i64 q - 1)) ∧ r07_Next t p sh (IntKind.wrap IntKind.i64 (IntKind.wrap IntKind.i64 q - 1)) < (↑(List.length xs) : Int)) (Q0 (q) (List.getD xs (Int.toNat (r07_Next t p sh (IntKind.wrap IntKind.i64 (IntKind.wrap IntKind.i64 q - 1)))) 0) (n1 + 1) (out ++ [IntKind.wrap IntKind.i64 (IntKind.wrap IntKind.i64 q - 1)]))))))) (R_ ((out, true))))
def x_List_I0 (t : Int) (p : Int) (sh : Int) (xs : List Int) (hd : Int) (ah : Int) (q : Int) (n1 : Nat) (out : List Int) (r_ : List Int × Bool) : Prop := bd32 q ∧ n1 = out.length ∧ (out.length : Int) ≤ p ∧ ∃ f : Nat, p + 1 - out.length < f ∧ listF ⟨t, p, sh⟩ xs f q ah out = r_
abbrev x_List_h0 (p0 : Addr) (t : Int) (p : Int) (sh : Int) (xs : List Int) (hd : Int) : Hd Sg := ⟨none, [0,0,1,1,1,1], [.blk 0, .code [1,1,1,1,1]], [8, 7, 6, 2], [.i .u32, .i .u32, .own 3 [some .i64], .box 47 [.ic .i64 (t), .ic .i64 (p), .ic .i64 (sh), .roc [.ints .u32 (xs)]]]⟩
theorem x_List_begin (t : Int) (p : Int) (sh : Int) (xs : List Int) (hd : Int) (hp0 : AGood ⟨t, p, sh⟩ xs) (hp1 : 0 ≤ hd ∧ hd < xs.length) (hl0 : xs.length ≤ 9223372036854775807) : x_List_w t p sh xs hd (fun ah' q' n1' out' => x_List_I0 t p sh xs hd ah' q' n1' out' (x_List t p sh xs hd)) (fun r__ => r__ = (x_List t p sh xs hd)) := by
  unfold x_List_w
  try unfold x_List_I0
  have hok := Cf.ok_iff.1 hp0.ok
  simp only at hok
  exact ⟨hp1, fun _ => ⟨cel_bd hp0 hd, rfl, by simp; omega, p.toNat + 2, by simp; omega, rfl⟩⟩
theorem x_List_step0 (t : Int) (p : Int) (sh : Int) (xs : List Int) (hd : Int) (hp0 : AGood ⟨t, p, sh⟩ xs) (hp1 : 0 ≤ hd ∧ hd < xs.length) (hl0 : xs.length ≤ 9223372036854775807) (ah : Int) (q : Int) (n1 : Nat) (out : List Int) {r_ : List Int × Bool} (hI : x_List_I0 t p sh xs hd ah q n1 out r_) : x_List_w0 t p sh xs hd ah q n1 out (fun ah' q' n1' out' => x_List_I0 t p sh xs hd ah' q' n1' out' r_ ∧ lx ((p + 1 - out'.length).toNat, 0, 0) ((p + 1 - out.length).toNat, 0, 0)) (fun r__ => r__ = r_) := by
  unfold x_List_I0 at hI
  unfold x_List_w0
  try unfold x_List_I0
  obtain ⟨hq, h1, h2, f, hf, hr⟩ := hI
  have hok := Cf.ok_iff.1 hp0.ok
  simp only at hok
  have hq' : 0 ≤ q ∧ q < 4294967296 := hq
  obtain ⟨f', rfl⟩ : ∃ f', f = f' + 1 := ⟨f - 1, by omega⟩
  simp only [listF] at hr
  refine ⟨fun h => ?_, fun h => ?_⟩
  · have hne : q ≠ 0 := by simpa using h
    have e0 : (q == 0) = false := by simpa using hne
    rw [e0, cond_false] at hr
    have hb : (decide (q > p) || decide ((n1 : Int) ≥ p)) = (decide (q > p) || decide ((out.length : Int) ≥ p)) := by rw [h1]
    rw [w64 (n := q) (by omega), w64 (n := q - 1) (by omega), hb, r07_Prev_eq, r07_Next_eq]
    refine ⟨fun hc => ?_, fun hc => ?_⟩
    · rw [hc, cond_true] at hr; exact hr
    · rw [hc, cond_false] at hr
      simp only [Bool.or_eq_false_iff, decide_eq_false_iff_not] at hc
      have hg : 0 ≤ q - 1 ∧ q - 1 < p := by omega
      have hin := pc_in hp0 (g := q - 1) (k := 3) hg (by omega)
      have hin2 := pc_in hp0 (g := q - 1) (k := 2) hg (by omega)
      refine ⟨hin, fun _ => ⟨fun hz => ?_, fun hz => ?_⟩⟩
      · have hz' : (cel xs (Cf.prev ⟨t, p, sh⟩ (q - 1)) != ah) = true := hz
        rw [hz', cond_true] at hr; exact hr
      · have hz' : (cel xs (Cf.prev ⟨t, p, sh⟩ (q - 1)) != ah) = false := hz
        rw [hz', cond_false] at hr
        exact ⟨by omega, fun _ => ⟨hin2, fun _ => ⟨⟨cel_bd hp0 _, by simp [h1], by simp; omega, f', by simp; omega, hr⟩, Or.inl (by simp; omega)⟩⟩⟩
  · have e0 : (q == 0) = true := by simpa using h
    rw [e0, cond_true] at hr
    exact hr
theorem x_List_ok : EOk 127 e_x_List :=
  ent_wp Dg T_r12_Full_ok (I := [1451000000008, 1451000000007, 1451000000006, 1451000000002]) Tryz.func127 mix (B := bodyOf Tryz.f127) (by kernel_rfl) rfl (by kernel_rfl) 400
    fun p0 t p sh xs hd hb hp => have hl0 : xs.length ≤ 9223372036854775807 := hb.1.2.2.2.1; have hp0 : AGood ⟨t, p, sh⟩ xs := hp _ (.head _); have hp1 : 0 ≤ hd ∧ hd < xs.length := hp _ (.tail _ (.head _)); ⟨[x_List_h0 p0 t p sh xs hd], fun j => List.getD [appC (Hd.kd (x_List_h0 p0 t p sh xs hd)) (fun ah' q' n1' out' => x_List_I0 t p sh xs hd ah' q' n1' out' (x_List t p sh xs hd))] j (fun _ => False), fun j => List.getD [appC (Hd.kd (x_List_h0 p0 t p sh xs hd)) (fun ah' q' n1' out' => ((p + 1 - out'.length).toNat, 0, 0))] j (fun _ => (0, 0, 0)), by kernel_rfl, ⟨x_List_w t p sh xs hd (fun ah' q' n1' out' => x_List_I0 t p sh xs hd ah' q' n1' out' (x_List t p sh xs hd)) (fun r__ => r__ = (x_List t p sh xs hd)), fun _ _ _ => by kernel_rfl, x_List_begin t p sh xs hd hp0 hp1 hl0 ⟩, ⟨fun ah q n1 out hI => ⟨x_List_w0 t p sh xs hd ah q n1 out (fun ah' q' n1' out' => x_List_I0 t p sh xs hd ah' q' n1' out' (x_List t p sh xs hd) ∧ lx ((p + 1 - out'.length).toNat, 0, 0) ((p + 1 - out.length).toNat, 0, 0)) (fun r__ => r__ = (x_List t p sh xs hd)), fun _ _ _ => by kernel_rfl, x_List_step0 t p sh xs hd hp0 hp1 hl0 ah q n1 out hI⟩, trivial⟩⟩
def T_x_List : Tb := (127, e_x_List) :: T_r12_Full
theorem T_x_List_ok : TOk T_x_List := tc_ x_List_ok T_r12_Full_ok
def x_binned (t : Int) (p : Int) (sh : Int) (xs : List Int) (g : Int) (k : Int) : Bool := binned ⟨t, p, sh⟩ xs g k
abbrev c_x_binned : Ct Sg := ⟨none, false, [.agg [.i .i64, .i .i64, .i .i64, .ro [some .u32]], .i .i64, .i .i64], .b⟩
def e_x_binned : Entry Sg := entC c_x_binned x_binned (fun t p sh xs g k => [AGood ⟨t, p, sh⟩ xs, 0 ≤ g ∧ g < p])
def x_binned_w (t : Int) (p : Int) (sh : Int) (xs : List Int) (g : Int) (k : Int) (R_ : Bool → Prop) : Prop := (aw_ (AGood { t := t, p := p, s := sh } xs) (aw_ (0 ≤ g ∧ g < p) (aw_ ((Prod.fst (x_Info t p sh xs g) == 1) = true → Prod.fst (If.l (aInfo { t := t, p := p, s := sh } xs g), If.c (aInfo { t := t, p := p, s := sh } xs g)) ≤ 9223372036854775807) (R_ (Prod.fst (If.k (aInfo { t := t, p := p, s := sh } xs g), If.l (aInfo { t := t, p := p, s := sh } xs g), If.c (aInfo { t := t, p := p, s := sh } xs g)) == 1 && r01_Log (If.l (aInfo { t := t, p := p, s := sh } xs g)) == k)))))
theorem x_binned_begin (t : Int) (p : Int) (sh : Int) (xs : List Int) (g : Int) (k : Int) (hp0 : AGood ⟨t, p, sh⟩ xs) (hp1 : 0 ≤ g ∧ g < p) (hl0 : xs.length ≤ 9223372036854775807) : x_binned_w t p sh xs g k  (fun r__ => r__ = (x_binned t p sh xs g k)) := by
  unfold x_binned_w
  have hl : (aInfo ⟨t, p, sh⟩ xs g).l ≤ 9223372036854775807 := by
    have := (iGet_bd (cel xs (Cf.info ⟨t, p, sh⟩ g))).2.2.2.1
    have h2 : (aInfo ⟨t, p, sh⟩ xs g).l ≤ 1024 := this
    omega
  exact ⟨hp0, fun _ => ⟨hp1, fun _ => ⟨fun _ => hl, fun _ => rfl⟩⟩⟩
theorem x_binned_ok : EOk 129 e_x_binned :=
  ent_w0 Dg T_x_List_ok (I := []) Tryz.func129 mix (B := bodyOf Tryz.f129) (by kernel_rfl) rfl (by kernel_rfl) 400
    fun _ t p sh xs g k hb hp => ⟨x_binned_w t p sh xs g k (fun r__ => r__ = (x_binned t p sh xs g k)), fun _ _ _ => by kernel_rfl, x_binned_begin t p sh xs g k (hp _ (.head _)) (hp _ (.tail _ (.head _))) (hb.1.2.2.2.1)⟩
def T_x_binned : Tb := (129, e_x_binned) :: T_x_List
theorem T_x_binned_ok : TOk T_x_binned := tc_ x_binned_ok T_x_List_ok
def x_racked (t : Int) (p : Int) (sh : Int) (xs : List Int) (g : Int) (k : Int) : Bool := racked ⟨t, p, sh⟩ xs g k
abbrev c_x_racked : Ct Sg := ⟨none, false, [.agg [.i .i64, .i .i64, .i .i64, .ro [some .u32]], .i .i64, .i .i64], .b⟩
def e_x_racked : Entry Sg := entC c_x_racked x_racked (fun t p sh xs g k => [AGood ⟨t, p, sh⟩ xs, 0 ≤ g ∧ g < p])
def x_racked_w (t : Int) (p : Int) (sh : Int) (xs : List Int) (g : Int) (k : Int) (R_ : Bool → Prop) : Prop := (aw_ (AGood { t := t, p := p, s := sh } xs) (aw_ (0 ≤ g ∧ g < p) (aw_ ((Prod.fst (x_Info t p sh xs g) == 3 && Prod.snd (If.l (aInfo { t := t, p := p, s := sh } xs g), If.c (aInfo { t := t, p := p, s := sh } xs g)) == k) = true → AGood { t := t, p := p, s := sh } xs) (aw_ ((Prod.fst (x_Info t p sh xs g) == 3 && Prod.snd (If.l (aInfo { t := t, p := p, s := sh } xs g), If.c (aInfo { t := t, p := p, s := sh } xs g)) == k) = true → 0 ≤ g ∧ g < p) (aw_ ((Prod.fst (x_Info t p sh xs g) == 3 && Prod.snd (If.l (aInfo { t := t, p := p, s := sh } xs g), If.c (aInfo { t := t, p := p, s := sh } xs g)) == k) = true → bd32 (x_Taken t p sh xs g)) (R_ (Prod.fst (If.k (aInfo { t := t, p := p, s := sh } xs g), If.l (aInfo { t := t, p := p, s := sh } xs g), If.c (aInfo { t := t, p := p, s := sh } xs g)) == 3 && If.c (aInfo { t := t, p := p, s := sh } xs g) == k && !r12_Full (x_Taken t p sh xs g) k)))))))
theorem x_racked_begin (t : Int) (p : Int) (sh : Int) (xs : List Int) (g : Int) (k : Int) (hp0 : AGood ⟨t, p, sh⟩ xs) (hp1 : 0 ≤ g ∧ g < p) (hl0 : xs.length ≤ 9223372036854775807) : x_racked_w t p sh xs g k  (fun r__ => r__ = (x_racked t p sh xs g k)) := by
  unfold x_racked_w
  have hbd := cel_bd hp0 (Cf.taken ⟨t, p, sh⟩ g)
  refine ⟨hp0, fun _ => ⟨hp1, fun _ => ⟨fun _ => hp0, fun _ => ⟨fun _ => hp1, fun _ => ⟨fun _ => hbd, fun _ => ?_⟩⟩⟩⟩⟩
  show (_ && _ && !r12_Full (cel xs (Cf.taken ⟨t, p, sh⟩ g)) k) = racked ⟨t, p, sh⟩ xs g k
  unfold racked full r12_Full
  rw [r05_Slots_eq]
  rfl
theorem x_racked_ok : EOk 132 e_x_racked :=
  ent_w0 Dg T_x_binned_ok (I := []) Tryz.func132 mix (B := bodyOf Tryz.f132) (by kernel_rfl) rfl (by kernel_rfl) 400
    fun _ t p sh xs g k hb hp => ⟨x_racked_w t p sh xs g k (fun r__ => r__ = (x_racked t p sh xs g k)), fun _ _ _ => by kernel_rfl, x_racked_begin t p sh xs g k (hp _ (.head _)) (hp _ (.tail _ (.head _))) (hb.1.2.2.2.1)⟩
def T_x_racked : Tb := (132, e_x_racked) :: T_x_binned
theorem T_x_racked_ok : TOk T_x_racked := tc_ x_racked_ok T_x_binned_ok
end Go.Proofs.YtcbeifgnccbfbaaGreat
namespace Go.Proofs.YtcbeifgnccbfbaaGreat
open Go.Sl
theorem onesF_bd (v : Int) : ∀ k : Nat, 0 ≤ onesF v k ∧ onesF v k ≤ k
  | 0 => ⟨Int.le_refl _, Int.le_refl _⟩
  | k + 1 => by
    have := onesF_bd v k
    simp only [onesF]
    cases bitAt v k with
    | true => simp only [cond_true]; omega
    | false => simp only [cond_false]; omega
theorem countsF_bd (c : Cf) (xs : List Int) : ∀ k : Nat, 0 ≤ (countsF c xs k).1 ∧ (countsF c xs k).1 ≤ 1024 * k ∧ 0 ≤ (countsF c xs k).2 ∧ (countsF c xs k).2 ≤ 33 * k
  | 0 => by simp [countsF]
  | k + 1 => by
    have h := countsF_bd c xs k
    have h2 : 0 ≤ ones (cel xs (c.slots k)) ∧ ones (cel xs (c.slots k)) ≤ 32 := onesF_bd _ 32
    have h3 : 0 ≤ (aInfo c xs k).l ∧ (aInfo c xs k).l ≤ 1024 := ⟨(iGet_bd (cel xs (c.info k))).2.2.1, (iGet_bd (cel xs (c.info k))).2.2.2.1⟩
    simp only [countsF]
    cases (aInfo c xs k).k == 1 <;> cases (aInfo c xs k).k == 2 <;> simp only [cond_true, cond_false] <;> omega
def x_loose (t : Int) (p : Int) (sh : Int) (xs : List Int) : Bool := loose ⟨t, p, sh⟩ xs
abbrev c_x_loose : Ct Sg := ⟨none, false, [.agg [.i .i64, .i .i64, .i .i64, .ro [some .u32]]], .b⟩
def e_x_loose : Entry Sg := entC c_x_loose x_loose (fun t p sh xs => [AGood ⟨t, p, sh⟩ xs])
def x_loose_w (t : Int) (p : Int) (sh : Int) (xs : List Int) (Q0 : Int → Prop) (R_ : Bool → Prop) : Prop := (Q0 (0))
def x_loose_w0 (t : Int) (p : Int) (sh : Int) (xs : List Int) (i : Int) (Q0 : Int → Prop) (R_ : Bool → Prop) : Prop := (bw_ (decide (i < p)) (aw_ (AGood { t := t, p := p, s := sh } xs) (aw_ (0 ≤ i ∧ i < p) (aw_ ((Prod.fst (x_Info t p sh xs i) == 3) = true → AGood { t := t, p := p, s := sh } xs) (aw_ ((Prod.fst (x_Info t p sh xs i) == 3) = true → 0 ≤ i ∧ i < p) (aw_ ((Prod.fst (x_Info t p sh xs i) == 3) = true → bd32 (x_Taken t p sh xs i)) (bw_ (Prod.fst (x_Info t p sh xs i) == 1 || Prod.fst (x_Info t p sh xs i) == 3 && !r12_Full (x_Taken t p sh xs i) (If.c (aInfo { t := t, p := p, s := sh } xs i))) (Q0 (IntKind.wrap IntKind.i64 (i + 1))) (aw_ (0 ≤ r07_Next t p sh i ∧ r07_Next t p sh i < (↑(List.length xs) : Int)) (aw_ ((List.getD xs (Int.toNat (r07_Next t p sh i)) (0 : Int) != 0) = false → 0 ≤ r07_Prev t p sh i ∧ r07_Prev t p sh i < (↑(List.length xs) : Int)) (bw_ (List.getD xs (Int.toNat (r07_Next t p sh i)) (0 : Int) != 0 || List.getD xs (Int.toNat (r07_Prev t p sh i)) (0 : Int) != 0) (R_ (false)) (Q0 (IntKind.wrap IntKind.i64 (i + 1)))))))))))) (R_ (true)))
def x_loose_I0 (t : Int) (p : Int) (sh : Int) (xs : List Int) (i : Int) (r_ : Bool) : Prop := 0 ≤ i ∧ i ≤ p ∧ looseF ⟨t, p, sh⟩ xs (p - i).toNat = r_
abbrev x_loose_h0 (p0 : Addr) (t : Int) (p : Int) (sh : Int) (xs : List Int) : Hd Sg := ⟨none, [0,1,0,1], [.blk 0, .code [1,1]], [3, 1], [.i .i64, .box 47 [.ic .i64 (t), .ic .i64 (p), .ic .i64 (sh), .roc [.ints .u32 (xs)]]]⟩
theorem x_loose_begin (t : Int) (p : Int) (sh : Int) (xs : List Int) (hp0 : AGood ⟨t, p, sh⟩ xs) (hl0 : xs.length ≤ 9223372036854775807) : x_loose_w t p sh xs (fun i' => x_loose_I0 t p sh xs i' (x_loose t p sh xs)) (fun r__ => r__ = (x_loose t p sh xs)) := by
  unfold x_loose_w
  try unfold x_loose_I0
  have hok := Cf.ok_iff.1 hp0.ok
  simp only at hok
  refine ⟨by omega, by omega, ?_⟩
  show _ = loose ⟨t, p, sh⟩ xs
  unfold loose
  rw [show (p - 0).toNat = p.toNat by omega]
theorem x_loose_step0 (t : Int) (p : Int) (sh : Int) (xs : List Int) (hp0 : AGood ⟨t, p, sh⟩ xs) (hl0 : xs.length ≤ 9223372036854775807) (i : Int) {r_ : Bool} (hI : x_loose_I0 t p sh xs i r_) : x_loose_w0 t p sh xs i (fun i' => x_loose_I0 t p sh xs i' r_ ∧ lx ((p - i').toNat, 0, 0) ((p - i).toNat, 0, 0)) (fun r__ => r__ = r_) := by
  unfold x_loose_I0 at hI
  unfold x_loose_w0
  try unfold x_loose_I0
  obtain ⟨h0, h1, hr⟩ := hI
  have hok := Cf.ok_iff.1 hp0.ok
  simp only at hok
  refine ⟨fun h => ?_, fun h => ?_⟩
  · simp only [decide_eq_true_eq] at h
    have hg : 0 ≤ i ∧ i < p := ⟨h0, h⟩
    have hbt : bd32 (x_Taken t p sh xs i) := cel_bd hp0 _
    have hin2 := pc_in hp0 (g := i) (k := 2) hg (by omega)
    have hin3 := pc_in hp0 (g := i) (k := 3) hg (by omega)
    have e : (p - i).toNat = (p - (i + 1)).toNat + 1 := by omega
    have ei : (p : Int) - (((p - (i + 1)).toNat + 1 : Nat) : Int) = i := by omega
    rw [e] at hr
    simp only [looseF] at hr
    rw [ei] at hr
    have hf : ∀ k, r12_Full (x_Taken t p sh xs i) k = full (cel xs (Cf.taken ⟨t, p, sh⟩ i)) k := fun k => by
      unfold r12_Full full
      rw [r05_Slots_eq]; rfl
    rw [w64 (n := i + 1) (by omega), r07_Next_eq, r07_Prev_eq, hf]
    refine ⟨hp0, fun _ => ⟨hg, fun _ => ⟨fun _ => hp0, fun _ => ⟨fun _ => hg, fun _ => ⟨fun _ => hbt, fun _ => ⟨fun hc => ?_, fun hc => ?_⟩⟩⟩⟩⟩⟩
    · have hc' : ((aInfo ⟨t, p, sh⟩ xs i).k == 1 || ((aInfo ⟨t, p, sh⟩ xs i).k == 3 && !full (cel xs (Cf.taken ⟨t, p, sh⟩ i)) (aInfo ⟨t, p, sh⟩ xs i).c)) = true := hc
      rw [hc', cond_true] at hr
      exact ⟨⟨by omega, by omega, hr⟩, lxo_⟩
    · have hc' : ((aInfo ⟨t, p, sh⟩ xs i).k == 1 || ((aInfo ⟨t, p, sh⟩ xs i).k == 3 && !full (cel xs (Cf.taken ⟨t, p, sh⟩ i)) (aInfo ⟨t, p, sh⟩ xs i).c)) = false := hc
      rw [hc', cond_false] at hr
      refine ⟨hin2, fun _ => ⟨fun _ => hin3, fun _ => ⟨fun hz => ?_, fun hz => ?_⟩⟩⟩
      · have hz' : (cel xs (Cf.next ⟨t, p, sh⟩ i) != 0 || cel xs (Cf.prev ⟨t, p, sh⟩ i) != 0) = true := hz
        rw [hz', cond_true] at hr; exact hr
      · have hz' : (cel xs (Cf.next ⟨t, p, sh⟩ i) != 0 || cel xs (Cf.prev ⟨t, p, sh⟩ i) != 0) = false := hz
        rw [hz', cond_false] at hr
        exact ⟨⟨by omega, by omega, hr⟩, lxo_⟩
  · simp only [decide_eq_false_iff_not] at h
    rw [show (p - i).toNat = 0 by omega] at hr
    exact hr
theorem x_loose_ok : EOk 87 e_x_loose :=
  ent_wp Dg T_x_racked_ok (I := [103000000003, 103000000001]) Tryz.func87 mix (B := bodyOf Tryz.f87) (by kernel_rfl) rfl (by kernel_rfl) 400
    fun p0 t p sh xs hb hp => have hl0 : xs.length ≤ 9223372036854775807 := hb.1.2.2.2.1; have hp0 : AGood ⟨t, p, sh⟩ xs := hp _ (.head _); ⟨[x_loose_h0 p0 t p sh xs], fun j => List.getD [appC (Hd.kd (x_loose_h0 p0 t p sh xs)) (fun i' => x_loose_I0 t p sh xs i' (x_loose t p sh xs))] j (fun _ => False), fun j => List.getD [appC (Hd.kd (x_loose_h0 p0 t p sh xs)) (fun i' => ((p - i').toNat, 0, 0))] j (fun _ => (0, 0, 0)), by kernel_rfl, ⟨x_loose_w t p sh xs (fun i' => x_loose_I0 t p sh xs i' (x_loose t p sh xs)) (fun r__ => r__ = (x_loose t p sh xs)), fun _ _ _ => by kernel_rfl, x_loose_begin t p sh xs hp0 hl0 ⟩, ⟨fun i hI => ⟨x_loose_w0 t p sh xs i (fun i' => x_loose_I0 t p sh xs i' (x_loose t p sh xs) ∧ lx ((p - i').toNat, 0, 0) ((p - i).toNat, 0, 0)) (fun r__ => r__ = (x_loose t p sh xs)), fun _ _ _ => by kernel_rfl, x_loose_step0 t p sh xs hp0 hl0 i hI⟩, trivial⟩⟩
def T_x_loose : Tb := (87, e_x_loose) :: T_x_racked
theorem T_x_loose_ok : TOk T_x_loose := tc_ x_loose_ok T_x_racked_ok
def x_counts (t : Int) (p : Int) (sh : Int) (xs : List Int) : Bool := counts ⟨t, p, sh⟩ xs
abbrev c_x_counts : Ct Sg := ⟨none, false, [.agg [.i .i64, .i .i64, .i .i64, .ro [some .u32]]], .b⟩
def e_x_counts : Entry Sg := entC c_x_counts x_counts (fun t p sh xs => [AGood ⟨t, p, sh⟩ xs])
def x_counts_w (t : Int) (p : Int) (sh : Int) (xs : List Int) (Q0 : Int → Int → Int → Prop) (R_ : Bool → Prop) : Prop := (Q0 (0) (0) (0))
def x_counts_w0 (t : Int) (p : Int) (sh : Int) (xs : List Int) (i : Int) (lv : Int) (fr : Int) (Q0 : Int → Int → Int → Prop) (R_ : Bool → Prop) : Prop := (bw_ (decide (i < p)) (aw_ (AGood { t := t, p := p, s := sh } xs) (aw_ (0 ≤ i ∧ i < p) (bw_ (Prod.fst (x_Info t p sh xs i) == 1) (bw_ (Prod.fst (x_Info t p sh xs i) == 2) (aw_ (AGood { t := t, p := p, s := sh } xs) (aw_ (0 ≤ i ∧ i < p) (aw_ (bd32 (x_Slots t p sh xs i)) (Q0 (IntKind.wrap IntKind.i64 (i + 1)) (IntKind.wrap IntKind.i64 (IntKind.wrap IntKind.i64 (lv + 1) + r01_Ones (x_Slots t p sh xs i))) (IntKind.wrap IntKind.i64 (fr + If.l (aInfo { t := t, p := p, s := sh } xs i))))))) (aw_ (AGood { t := t, p := p, s := sh } xs) (aw_ (0 ≤ i ∧ i < p) (aw_ (bd32 (x_Slots t p sh xs i)) (Q0 (IntKind.wrap IntKind.i64 (i + 1)) (IntKind.wrap IntKind.i64 (lv + r01_Ones (x_Slots t p sh xs i))) (IntKind.wrap IntKind.i64 (fr + If.l (aInfo { t := t, p := p, s := sh } xs i)))))))) (bw_ (Prod.fst (x_Info t p sh xs i) == 2) (aw_ (AGood { t := t, p := p, s := sh } xs) (aw_ (0 ≤ i ∧ i < p) (aw_ (bd32 (x_Slots t p sh xs i)) (Q0 (IntKind.wrap IntKind.i64 (i + 1)) (IntKind.wrap IntKind.i64 (IntKind.wrap IntKind.i64 (lv + 1) + r01_Ones (x_Slots t p sh xs i))) (fr))))) (aw_ (AGood { t := t, p := p, s := sh } xs) (aw_ (0 ≤ i ∧ i < p) (aw_ (bd32 (x_Slots t p sh xs i)) (Q0 (IntKind.wrap IntKind.i64 (i + 1)) (IntKind.wrap IntKind.i64 (lv + r01_Ones (x_Slots t p sh xs i))) (fr))))))))) (aw_ ((0 : Int) ≤ 0 ∧ 0 < (↑(List.length xs) : Int)) (aw_ ((List.getD xs 0 0 == IntKind.wrap IntKind.u32 fr) = true → (0 : Int) ≤ 1 ∧ 1 < (↑(List.length xs) : Int)) (R_ (List.getD xs 0 0 == IntKind.wrap IntKind.u32 fr && List.getD xs 1 0 == IntKind.wrap IntKind.u32 lv)))))
def x_counts_I0 (t : Int) (p : Int) (sh : Int) (xs : List Int) (i : Int) (lv : Int) (fr : Int) (r_ : Bool) : Prop := 0 ≤ i ∧ i ≤ p ∧ fr = (countsF ⟨t, p, sh⟩ xs i.toNat).1 ∧ lv = (countsF ⟨t, p, sh⟩ xs i.toNat).2 ∧ r_ = counts ⟨t, p, sh⟩ xs
abbrev x_counts_h0 (p0 : Addr) (t : Int) (p : Int) (sh : Int) (xs : List Int) : Hd Sg := ⟨none, [0,1,0,1,1], [.blk 0, .code [1,1,1]], [5, 4, 3, 1], [.i .i64, .i .i64, .i .i64, .box 47 [.ic .i64 (t), .ic .i64 (p), .ic .i64 (sh), .roc [.ints .u32 (xs)]]]⟩
theorem x_counts_begin (t : Int) (p : Int) (sh : Int) (xs : List Int) (hp0 : AGood ⟨t, p, sh⟩ xs) (hl0 : xs.length ≤ 9223372036854775807) : x_counts_w t p sh xs (fun i' lv' fr' => x_counts_I0 t p sh xs i' lv' fr' (x_counts t p sh xs)) (fun r__ => r__ = (x_counts t p sh xs)) := by
  unfold x_counts_w
  try unfold x_counts_I0
  have hok := Cf.ok_iff.1 hp0.ok
  simp only at hok
  exact ⟨by omega, by omega, rfl, rfl, rfl⟩
theorem x_counts_step0 (t : Int) (p : Int) (sh : Int) (xs : List Int) (hp0 : AGood ⟨t, p, sh⟩ xs) (hl0 : xs.length ≤ 9223372036854775807) (i : Int) (lv : Int) (fr : Int) {r_ : Bool} (hI : x_counts_I0 t p sh xs i lv fr r_) : x_counts_w0 t p sh xs i lv fr (fun i' lv' fr' => x_counts_I0 t p sh xs i' lv' fr' r_ ∧ lx ((p - i').toNat, 0, 0) ((p - i).toNat, 0, 0)) (fun r__ => r__ = r_) := by
  unfold x_counts_I0 at hI
  unfold x_counts_w0
  try unfold x_counts_I0
  obtain ⟨h0, h1, hf, hl, hr⟩ := hI
  have hok := Cf.ok_iff.1 hp0.ok
  simp only at hok
  have hb := countsF_bd ⟨t, p, sh⟩ xs i.toNat
  refine ⟨fun h => ?_, fun h => ?_⟩
  · simp only [decide_eq_true_eq] at h
    have hg : 0 ≤ i ∧ i < p := ⟨h0, h⟩
    have e : (i + 1).toNat = i.toNat + 1 := by omega
    have ei : ((i.toNat : Nat) : Int) = i := by omega
    have hbs : bd32 (x_Slots t p sh xs i) := cel_bd hp0 _
    have hl0 : 0 ≤ (aInfo ⟨t, p, sh⟩ xs i).l := (iGet_bd (cel xs (Cf.info ⟨t, p, sh⟩ i))).2.2.1
    have hl1 : (aInfo ⟨t, p, sh⟩ xs i).l ≤ 1024 := (iGet_bd (cel xs (Cf.info ⟨t, p, sh⟩ i))).2.2.2.1
    have ho : 0 ≤ ones (cel xs (Cf.slots ⟨t, p, sh⟩ i)) ∧ ones (cel xs (Cf.slots ⟨t, p, sh⟩ i)) ≤ 32 := onesF_bd _ 32
    have hones : r01_Ones (x_Slots t p sh xs i) = ones (cel xs (Cf.slots ⟨t, p, sh⟩ i)) := rfl
    have key : countsF ⟨t, p, sh⟩ xs (i + 1).toNat = (fr + (bif (aInfo ⟨t, p, sh⟩ xs i).k == 1 then (aInfo ⟨t, p, sh⟩ xs i).l else 0), lv + (bif (aInfo ⟨t, p, sh⟩ xs i).k == 2 then 1 else 0) + ones (cel xs (Cf.slots ⟨t, p, sh⟩ i))) := by
      rw [e, countsF, ei, ← hf, ← hl]
    have F1 : IntKind.i64.wrap (fr + (aInfo ⟨t, p, sh⟩ xs i).l) = fr + (aInfo ⟨t, p, sh⟩ xs i).l := w64 (by omega)
    have F2 : IntKind.i64.wrap (lv + 1) = lv + 1 := w64 (by omega)
    have F3 : IntKind.i64.wrap (lv + 1 + ones (cel xs (Cf.slots ⟨t, p, sh⟩ i))) = lv + 1 + ones (cel xs (Cf.slots ⟨t, p, sh⟩ i)) := w64 (by omega)
    have F4 : IntKind.i64.wrap (lv + ones (cel xs (Cf.slots ⟨t, p, sh⟩ i))) = lv + ones (cel xs (Cf.slots ⟨t, p, sh⟩ i)) := w64 (by omega)
    rw [hones, w64 (n := i + 1) (by omega), F2, F3, F4]
    have fin : ∀ (b1 b2 : Bool), ((aInfo ⟨t, p, sh⟩ xs i).k == 1) = b1 → ((aInfo ⟨t, p, sh⟩ xs i).k == 2) = b2 → ∀ x y : Int, x = fr + (bif b1 then (aInfo ⟨t, p, sh⟩ xs i).l else 0) → y = lv + (bif b2 then 1 else 0) + ones (cel xs (Cf.slots ⟨t, p, sh⟩ i)) →
        (0 ≤ i + 1 ∧ i + 1 ≤ p ∧ x = (countsF ⟨t, p, sh⟩ xs (i + 1).toNat).1 ∧ y = (countsF ⟨t, p, sh⟩ xs (i + 1).toNat).2 ∧ r_ = counts ⟨t, p, sh⟩ xs) ∧ lx ((p - (i + 1)).toNat, 0, 0) ((p - i).toNat, 0, 0) := by
      intro b1 b2 e1 e2 x y hx hy
      rw [key, e1, e2]
      exact ⟨⟨by omega, by omega, hx, hy, hr⟩, lxo_⟩
    refine ⟨hp0, fun _ => ⟨hg, fun _ => ⟨fun c1 => ⟨fun c2 => ?_, fun c2 => ?_⟩, fun c1 => ⟨fun c2 => ?_, fun c2 => ?_⟩⟩⟩⟩
    · exact ⟨hp0, fun _ => ⟨hg, fun _ => ⟨hbs, fun _ => fin true true c1 c2 _ _ F1 rfl⟩⟩⟩
    · exact ⟨hp0, fun _ => ⟨hg, fun _ => ⟨hbs, fun _ => fin true false c1 c2 _ _ F1 (by simp)⟩⟩⟩
    · exact ⟨hp0, fun _ => ⟨hg, fun _ => ⟨hbs, fun _ => fin false true c1 c2 _ _ (by simp) rfl⟩⟩⟩
    · exact ⟨hp0, fun _ => ⟨hg, fun _ => ⟨hbs, fun _ => fin false false c1 c2 _ _ (by simp) (by simp)⟩⟩⟩
  · simp only [decide_eq_false_iff_not] at h
    have hlen := hp0.len
    unfold Cf.cells at hlen
    rw [hp0.ok, cond_true] at hlen
    simp only at hlen
    have e : i.toNat = p.toNat := by omega
    refine ⟨⟨by omega, by omega⟩, fun _ => ⟨fun _ => ⟨by omega, by omega⟩, fun _ => ?_⟩⟩
    show _ = r_
    rw [hr, wrapu_nv, wrapu_nv, hf, hl, e]
    rfl
theorem x_counts_ok : EOk 88 e_x_counts :=
  ent_wp Dg T_x_loose_ok (I := [411000000005, 411000000004, 411000000003, 411000000001]) Tryz.func88 mix (B := bodyOf Tryz.f88) (by kernel_rfl) rfl (by kernel_rfl) 400
    fun p0 t p sh xs hb hp => have hl0 : xs.length ≤ 9223372036854775807 := hb.1.2.2.2.1; have hp0 : AGood ⟨t, p, sh⟩ xs := hp _ (.head _); ⟨[x_counts_h0 p0 t p sh xs], fun j => List.getD [appC (Hd.kd (x_counts_h0 p0 t p sh xs)) (fun i' lv' fr' => x_counts_I0 t p sh xs i' lv' fr' (x_counts t p sh xs))] j (fun _ => False), fun j => List.getD [appC (Hd.kd (x_counts_h0 p0 t p sh xs)) (fun i' lv' fr' => ((p - i').toNat, 0, 0))] j (fun _ => (0, 0, 0)), by kernel_rfl, ⟨x_counts_w t p sh xs (fun i' lv' fr' => x_counts_I0 t p sh xs i' lv' fr' (x_counts t p sh xs)) (fun r__ => r__ = (x_counts t p sh xs)), fun _ _ _ => by kernel_rfl, x_counts_begin t p sh xs hp0 hl0 ⟩, ⟨fun i lv fr hI => ⟨x_counts_w0 t p sh xs i lv fr (fun i' lv' fr' => x_counts_I0 t p sh xs i' lv' fr' (x_counts t p sh xs) ∧ lx ((p - i').toNat, 0, 0) ((p - i).toNat, 0, 0)) (fun r__ => r__ = (x_counts t p sh xs)), fun _ _ _ => by kernel_rfl, x_counts_step0 t p sh xs hp0 hl0 i lv fr hI⟩, trivial⟩⟩
def T_x_counts : Tb := (88, e_x_counts) :: T_x_loose
theorem T_x_counts_ok : TOk T_x_counts := tc_ x_counts_ok T_x_loose_ok
end Go.Proofs.YtcbeifgnccbfbaaGreat
namespace Go.Proofs.YtcbeifgnccbfbaaGreat
open Go.Sl
theorem lxp_ {x y : Nat × Nat × Nat} (h : lx x y := by unfold lx; dsimp only; omega) : lx x y := h
theorem r07_Rack_eq (k : Int) : r07_Rack k = cRack k := by
  unfold r07_Rack cRack
  by_cases hg : 0 ≤ k ∧ k < 9
  · have a1 : (decide (k < 0) || decide (k > 8)) = false := by simp; omega
    have a2 : (decide (0 ≤ k) && decide (k < 9)) = true := by simp; omega
    rw [a2]
    first | (rw [a1]; simp only [cond_false, cond_true]; rw [w64 (by omega)]) | (simp only [cond_true]; rw [w64 (by omega)])
  · have a1 : (decide (k < 0) || decide (k > 8)) = true := by simp; omega
    have a2 : (decide (0 ≤ k) && decide (k < 9)) = false := by simp; omega
    rw [a2]
    first | (rw [a1]; rfl) | rfl
def x_bins (t : Int) (p : Int) (sh : Int) (xs : List Int) : Bool := bins ⟨t, p, sh⟩ xs
abbrev c_x_bins : Ct Sg := ⟨none, false, [.agg [.i .i64, .i .i64, .i .i64, .ro [some .u32]]], .b⟩
def e_x_bins : Entry Sg := entC c_x_bins x_bins (fun t p sh xs => [AGood ⟨t, p, sh⟩ xs])
def x_bins_w (t : Int) (p : Int) (sh : Int) (xs : List Int) (Q0 : Int → Prop) (Q1 : Int → Nat → List Int → Int → Prop) (R_ : Bool → Prop) : Prop := (Q0 (0))
def x_bins_w0 (t : Int) (p : Int) (sh : Int) (xs : List Int) (k : Int) (Q0 : Int → Prop) (Q1 : Int → Nat → List Int → Int → Prop) (R_ : Bool → Prop) : Prop := (bw_ (decide (k < 11)) (∀ r1 : Int, r1 = (r07_Bin k) → (∀ r2 : List Int × Bool, r2 = (x_List t p sh xs r1) → (aw_ (AGood { t := t, p := p, s := sh } xs) (aw_ (0 ≤ r1 ∧ r1 < (↑(List.length xs) : Int)) (bw_ (!r2.2) (R_ (false)) (Q1 (0) (List.length r2.1) r2.1 (k))))))) (R_ (true)))
def x_bins_I0 (t : Int) (p : Int) (sh : Int) (xs : List Int) (k : Int) (r_ : Bool) : Prop := 0 ≤ k ∧ k ≤ 11 ∧ binsF ⟨t, p, sh⟩ xs (11 - k).toNat = r_
def x_bins_w1 (t : Int) (p : Int) (sh : Int) (xs : List Int) (i : Int) (n1 : Nat) (ls : List Int) (k : Int) (Q0 : Int → Prop) (Q1 : Int → Nat → List Int → Int → Prop) (R_ : Bool → Prop) : Prop := (bw_ (decide (i < p)) (aw_ (AGood { t := t, p := p, s := sh } xs) (aw_ (0 ≤ i ∧ i < p) (bw_ (x_binned t p sh xs i k) (bw_ (r12_in ls i != 1) (R_ (false)) (Q1 (IntKind.wrap IntKind.i64 (i + 1)) (n1) (ls) (k))) (bw_ (r12_in ls i != 0) (R_ (false)) (Q1 (IntKind.wrap IntKind.i64 (i + 1)) (n1) (ls) (k)))))) (Q0 (IntKind.wrap IntKind.i64 (k + 1))))
def x_bins_I1 (t : Int) (p : Int) (sh : Int) (xs : List Int) (i : Int) (n1 : Nat) (ls : List Int) (k : Int) (r_ : Bool) : Prop := 0 ≤ k ∧ k < 11 ∧ 0 ≤ i ∧ i ≤ p ∧ n1 = ls.length ∧ (bif onceF ⟨t, p, sh⟩ ls (fun g => binned ⟨t, p, sh⟩ xs g k) (p - i).toNat then binsF ⟨t, p, sh⟩ xs (10 - k).toNat else false) = r_
abbrev x_bins_h0 (p0 : Addr) (t : Int) (p : Int) (sh : Int) (xs : List Int) : Hd Sg := ⟨none, [0,1,0,1], [.blk 0, .code [1,1]], [3, 1], [.i .i64, .box 47 [.ic .i64 (t), .ic .i64 (p), .ic .i64 (sh), .roc [.ints .u32 (xs)]]]⟩
abbrev x_bins_h1 (p0 : Addr) (t : Int) (p : Int) (sh : Int) (xs : List Int) : Hd Sg := ⟨none, [0,1,1,1,0,0,1,0,0,1,0,1], [.blk 2, .blk 1, .code [1,1,0,0,1,0,1], .again [0,1,0,1], .blk 0, .code [1,1]], [6, 4, 3, 1], [.i .i64, .own 3 [some .i64], .i .i64, .box 47 [.ic .i64 (t), .ic .i64 (p), .ic .i64 (sh), .roc [.ints .u32 (xs)]]]⟩
theorem x_bins_begin (t : Int) (p : Int) (sh : Int) (xs : List Int) (hp0 : AGood ⟨t, p, sh⟩ xs) (hl0 : xs.length ≤ 9223372036854775807) : x_bins_w t p sh xs (fun k' => x_bins_I0 t p sh xs k' (x_bins t p sh xs)) (fun i' n1' ls' k' => x_bins_I1 t p sh xs i' n1' ls' k' (x_bins t p sh xs)) (fun r__ => r__ = (x_bins t p sh xs)) := by
  unfold x_bins_w
  try unfold x_bins_I0
  try unfold x_bins_I1
  exact ⟨by omega, by omega, rfl⟩
theorem x_bins_step0 (t : Int) (p : Int) (sh : Int) (xs : List Int) (hp0 : AGood ⟨t, p, sh⟩ xs) (hl0 : xs.length ≤ 9223372036854775807) (k : Int) {r_ : Bool} (hI : x_bins_I0 t p sh xs k r_) : x_bins_w0 t p sh xs k (fun k' => x_bins_I0 t p sh xs k' r_ ∧ lx ((11 - k').toNat, p.toNat + 1, 0) ((11 - k).toNat, p.toNat + 1, 0)) (fun i' n1' ls' k' => x_bins_I1 t p sh xs i' n1' ls' k' r_ ∧ lx ((11 - k').toNat, (p - i').toNat, 0) ((11 - k).toNat, p.toNat + 1, 0)) (fun r__ => r__ = r_) := by
  unfold x_bins_I0 at hI
  unfold x_bins_w0
  try unfold x_bins_I0
  try unfold x_bins_I1
  obtain ⟨h0, h1, hr⟩ := hI
  have hok := Cf.ok_iff.1 hp0.ok
  simp only at hok
  refine ⟨fun h => ?_, fun h => ?_⟩
  · simp only [decide_eq_true_eq] at h
    have e : (11 - k).toNat = (10 - k).toNat + 1 := by omega
    have ek : (11 : Int) - (((10 - k).toNat + 1 : Nat) : Int) = k := by omega
    rw [e] at hr
    simp only [binsF] at hr
    rw [ek] at hr
    have hb := bin_in hp0 (k := k) ⟨h0, h⟩
    rintro r1 rfl r2 rfl
    rw [r07_Bin_eq]
    refine ⟨hp0, fun _ => ⟨hb, fun _ => ⟨fun hc => ?_, fun hc => ?_⟩⟩⟩
    · have hc' : (listA ⟨t, p, sh⟩ xs (cBin k)).2 = false := by simpa [x_List] using hc
      rw [hc', cond_false] at hr; exact hr
    · have hc' : (listA ⟨t, p, sh⟩ xs (cBin k)).2 = true := by simpa [x_List] using hc
      rw [hc', cond_true] at hr
      refine ⟨⟨h0, h, by omega, by omega, rfl, ?_⟩, lxp_⟩
      rw [show (p - 0).toNat = p.toNat by omega]; exact hr
  · simp only [decide_eq_false_iff_not] at h
    rw [show (11 - k).toNat = 0 by omega] at hr
    exact hr
theorem x_bins_step1 (t : Int) (p : Int) (sh : Int) (xs : List Int) (hp0 : AGood ⟨t, p, sh⟩ xs) (hl0 : xs.length ≤ 9223372036854775807) (i : Int) (n1 : Nat) (ls : List Int) (k : Int) {r_ : Bool} (hI : x_bins_I1 t p sh xs i n1 ls k r_) : x_bins_w1 t p sh xs i n1 ls k (fun k' => x_bins_I0 t p sh xs k' r_ ∧ lx ((11 - k').toNat, p.toNat + 1, 0) ((11 - k).toNat, (p - i).toNat, 0)) (fun i' n1' ls' k' => x_bins_I1 t p sh xs i' n1' ls' k' r_ ∧ lx ((11 - k').toNat, (p - i').toNat, 0) ((11 - k).toNat, (p - i).toNat, 0)) (fun r__ => r__ = r_) := by
  unfold x_bins_I1 at hI
  unfold x_bins_w1
  try unfold x_bins_I0
  try unfold x_bins_I1
  obtain ⟨h0, h1, h2, h3, h4, hr⟩ := hI
  have hok := Cf.ok_iff.1 hp0.ok
  simp only at hok
  refine ⟨fun h => ?_, fun h => ?_⟩
  · simp only [decide_eq_true_eq] at h
    have hg : 0 ≤ i ∧ i < p := ⟨h2, h⟩
    have e : (p - i).toNat = (p - (i + 1)).toNat + 1 := by omega
    have ei : (p : Int) - (((p - (i + 1)).toNat + 1 : Nat) : Int) = i := by omega
    rw [e] at hr
    simp only [onceF] at hr
    rw [ei] at hr
    rw [w64 (n := i + 1) (by omega)]
    refine ⟨hp0, fun _ => ⟨hg, fun _ => ⟨fun hc => ?_, fun hc => ?_⟩⟩⟩
    · have hc' : binned ⟨t, p, sh⟩ xs i k = true := hc
      rw [hc', cond_true] at hr
      refine ⟨fun hn => ?_, fun hn => ?_⟩
      · have hn' : (inA ls i != 1) = true := hn
        rw [hn', cond_true, cond_false] at hr; exact hr
      · have hn' : (inA ls i != 1) = false := hn
        rw [hn', cond_false] at hr
        exact ⟨⟨h0, h1, by omega, by omega, h4, hr⟩, lxp_⟩
    · have hc' : binned ⟨t, p, sh⟩ xs i k = false := hc
      rw [hc', cond_false] at hr
      refine ⟨fun hn => ?_, fun hn => ?_⟩
      · have hn' : (inA ls i != 0) = true := hn
        rw [hn', cond_true, cond_false] at hr; exact hr
      · have hn' : (inA ls i != 0) = false := hn
        rw [hn', cond_false] at hr
        exact ⟨⟨h0, h1, by omega, by omega, h4, hr⟩, lxp_⟩
  · simp only [decide_eq_false_iff_not] at h
    rw [show (p - i).toNat = 0 by omega] at hr
    simp only [onceF, cond_true] at hr
    rw [w64 (n := k + 1) (by omega)]
    refine ⟨⟨by omega, by omega, ?_⟩, lxp_⟩
    rw [show (11 - (k + 1)).toNat = (10 - k).toNat by omega]; exact hr
theorem x_bins_ok : EOk 85 e_x_bins :=
  ent_wp Dg T_x_counts_ok (I := [103000000003, 103000000001, 8549000000006, 8549000000004, 8549000000003, 8549000000001]) Tryz.func85 mix (B := bodyOf Tryz.f85) (by kernel_rfl) rfl (by kernel_rfl) 400
    fun p0 t p sh xs hb hp => have hl0 : xs.length ≤ 9223372036854775807 := hb.1.2.2.2.1; have hp0 : AGood ⟨t, p, sh⟩ xs := hp _ (.head _); ⟨[x_bins_h0 p0 t p sh xs, x_bins_h1 p0 t p sh xs], fun j => List.getD [appC (Hd.kd (x_bins_h0 p0 t p sh xs)) (fun k' => x_bins_I0 t p sh xs k' (x_bins t p sh xs)), appC (Hd.kd (x_bins_h1 p0 t p sh xs)) (fun i' n1' ls' k' => x_bins_I1 t p sh xs i' n1' ls' k' (x_bins t p sh xs))] j (fun _ => False), fun j => List.getD [appC (Hd.kd (x_bins_h0 p0 t p sh xs)) (fun k' => ((11 - k').toNat, p.toNat + 1, 0)), appC (Hd.kd (x_bins_h1 p0 t p sh xs)) (fun i' n1' ls' k' => ((11 - k').toNat, (p - i').toNat, 0))] j (fun _ => (0, 0, 0)), by kernel_rfl, ⟨x_bins_w t p sh xs (fun k' => x_bins_I0 t p sh xs k' (x_bins t p sh xs)) (fun i' n1' ls' k' => x_bins_I1 t p sh xs i' n1' ls' k' (x_bins t p sh xs)) (fun r__ => r__ = (x_bins t p sh xs)), fun _ _ _ => by kernel_rfl, x_bins_begin t p sh xs hp0 hl0 ⟩, ⟨fun k hI => ⟨x_bins_w0 t p sh xs k (fun k' => x_bins_I0 t p sh xs k' (x_bins t p sh xs) ∧ lx ((11 - k').toNat, p.toNat + 1, 0) ((11 - k).toNat, p.toNat + 1, 0)) (fun i' n1' ls' k' => x_bins_I1 t p sh xs i' n1' ls' k' (x_bins t p sh xs) ∧ lx ((11 - k').toNat, (p - i').toNat, 0) ((11 - k).toNat, p.toNat + 1, 0)) (fun r__ => r__ = (x_bins t p sh xs)), fun _ _ _ => by kernel_rfl, x_bins_step0 t p sh xs hp0 hl0 k hI⟩, ⟨fun i n1 ls k hI => ⟨x_bins_w1 t p sh xs i n1 ls k (fun k' => x_bins_I0 t p sh xs k' (x_bins t p sh xs) ∧ lx ((11 - k').toNat, p.toNat + 1, 0) ((11 - k).toNat, (p - i).toNat, 0)) (fun i' n1' ls' k' => x_bins_I1 t p sh xs i' n1' ls' k' (x_bins t p sh xs) ∧ lx ((11 - k').toNat, (p - i').toNat, 0) ((11 - k).toNat, (p - i).toNat, 0)) (fun r__ => r__ = (x_bins t p sh xs)), fun _ _ _ => by kernel_rfl, x_bins_step1 t p sh xs hp0 hl0 i n1 ls k hI⟩, trivial⟩⟩⟩
def T_x_bins : Tb := (85, e_x_bins) :: T_x_counts
theorem T_x_bins_ok : TOk T_x_bins := tc_ x_bins_ok T_x_counts_ok
def x_racks (t : Int) (p : Int) (sh : Int) (xs : List Int) : Bool := racks ⟨t, p, sh⟩ xs
abbrev c_x_racks : Ct Sg := ⟨none, false, [.agg [.i .i64, .i .i64, .i .i64, .ro [some .u32]]], .b⟩
def e_x_racks : Entry Sg := entC c_x_racks x_racks (fun t p sh xs => [AGood ⟨t, p, sh⟩ xs])
def x_racks_w (t : Int) (p : Int) (sh : Int) (xs : List Int) (Q0 : Int → Prop) (Q1 : Int → Nat → List Int → Int → Prop) (R_ : Bool → Prop) : Prop := (Q0 (0))
def x_racks_w0 (t : Int) (p : Int) (sh : Int) (xs : List Int) (k : Int) (Q0 : Int → Prop) (Q1 : Int → Nat → List Int → Int → Prop) (R_ : Bool → Prop) : Prop := (bw_ (decide (k < 9)) (∀ r1 : Int, r1 = (r07_Rack k) → (∀ r2 : List Int × Bool, r2 = (x_List t p sh xs r1) → (aw_ (AGood { t := t, p := p, s := sh } xs) (aw_ (0 ≤ r1 ∧ r1 < (↑(List.length xs) : Int)) (bw_ (!r2.2) (R_ (false)) (Q1 (0) (List.length r2.1) r2.1 (k))))))) (R_ (true)))
def x_racks_I0 (t : Int) (p : Int) (sh : Int) (xs : List Int) (k : Int) (r_ : Bool) : Prop := 0 ≤ k ∧ k ≤ 9 ∧ racksF ⟨t, p, sh⟩ xs (9 - k).toNat = r_
def x_racks_w1 (t : Int) (p : Int) (sh : Int) (xs : List Int) (i : Int) (n1 : Nat) (ls : List Int) (k : Int) (Q0 : Int → Prop) (Q1 : Int → Nat → List Int → Int → Prop) (R_ : Bool → Prop) : Prop := (bw_ (decide (i < p)) (aw_ (AGood { t := t, p := p, s := sh } xs) (aw_ (0 ≤ i ∧ i < p) (bw_ (x_racked t p sh xs i k) (bw_ (r12_in ls i != 1) (R_ (false)) (Q1 (IntKind.wrap IntKind.i64 (i + 1)) (n1) (ls) (k))) (bw_ (r12_in ls i != 0) (R_ (false)) (Q1 (IntKind.wrap IntKind.i64 (i + 1)) (n1) (ls) (k)))))) (Q0 (IntKind.wrap IntKind.i64 (k + 1))))
def x_racks_I1 (t : Int) (p : Int) (sh : Int) (xs : List Int) (i : Int) (n1 : Nat) (ls : List Int) (k : Int) (r_ : Bool) : Prop := 0 ≤ k ∧ k < 9 ∧ 0 ≤ i ∧ i ≤ p ∧ n1 = ls.length ∧ (bif onceF ⟨t, p, sh⟩ ls (fun g => racked ⟨t, p, sh⟩ xs g k) (p - i).toNat then racksF ⟨t, p, sh⟩ xs (8 - k).toNat else false) = r_
abbrev x_racks_h0 (p0 : Addr) (t : Int) (p : Int) (sh : Int) (xs : List Int) : Hd Sg := ⟨none, [0,1,0,1], [.blk 0, .code [1,1]], [3, 1], [.i .i64, .box 47 [.ic .i64 (t), .ic .i64 (p), .ic .i64 (sh), .roc [.ints .u32 (xs)]]]⟩
abbrev x_racks_h1 (p0 : Addr) (t : Int) (p : Int) (sh : Int) (xs : List Int) : Hd Sg := ⟨none, [0,1,1,1,0,0,1,0,0,1,0,1], [.blk 2, .blk 1, .code [1,1,0,0,1,0,1], .again [0,1,0,1], .blk 0, .code [1,1]], [6, 4, 3, 1], [.i .i64, .own 3 [some .i64], .i .i64, .box 47 [.ic .i64 (t), .ic .i64 (p), .ic .i64 (sh), .roc [.ints .u32 (xs)]]]⟩
theorem x_racks_begin (t : Int) (p : Int) (sh : Int) (xs : List Int) (hp0 : AGood ⟨t, p, sh⟩ xs) (hl0 : xs.length ≤ 9223372036854775807) : x_racks_w t p sh xs (fun k' => x_racks_I0 t p sh xs k' (x_racks t p sh xs)) (fun i' n1' ls' k' => x_racks_I1 t p sh xs i' n1' ls' k' (x_racks t p sh xs)) (fun r__ => r__ = (x_racks t p sh xs)) := by
  unfold x_racks_w
  try unfold x_racks_I0
  try unfold x_racks_I1
  exact ⟨by omega, by omega, rfl⟩
theorem x_racks_step0 (t : Int) (p : Int) (sh : Int) (xs : List Int) (hp0 : AGood ⟨t, p, sh⟩ xs) (hl0 : xs.length ≤ 9223372036854775807) (k : Int) {r_ : Bool} (hI : x_racks_I0 t p sh xs k r_) : x_racks_w0 t p sh xs k (fun k' => x_racks_I0 t p sh xs k' r_ ∧ lx ((9 - k').toNat, p.toNat + 1, 0) ((9 - k).toNat, p.toNat + 1, 0)) (fun i' n1' ls' k' => x_racks_I1 t p sh xs i' n1' ls' k' r_ ∧ lx ((9 - k').toNat, (p - i').toNat, 0) ((9 - k).toNat, p.toNat + 1, 0)) (fun r__ => r__ = r_) := by
  unfold x_racks_I0 at hI
  unfold x_racks_w0
  try unfold x_racks_I0
  try unfold x_racks_I1
  obtain ⟨h0, h1, hr⟩ := hI
  have hok := Cf.ok_iff.1 hp0.ok
  simp only at hok
  refine ⟨fun h => ?_, fun h => ?_⟩
  · simp only [decide_eq_true_eq] at h
    have e : (9 - k).toNat = (8 - k).toNat + 1 := by omega
    have ek : (9 : Int) - (((8 - k).toNat + 1 : Nat) : Int) = k := by omega
    rw [e] at hr
    simp only [racksF] at hr
    rw [ek] at hr
    have hb := rack_in hp0 (k := k) ⟨h0, h⟩
    rintro r1 rfl r2 rfl
    rw [r07_Rack_eq]
    refine ⟨hp0, fun _ => ⟨hb, fun _ => ⟨fun hc => ?_, fun hc => ?_⟩⟩⟩
    · have hc' : (listA ⟨t, p, sh⟩ xs (cRack k)).2 = false := by simpa [x_List] using hc
      rw [hc', cond_false] at hr; exact hr
    · have hc' : (listA ⟨t, p, sh⟩ xs (cRack k)).2 = true := by simpa [x_List] using hc
      rw [hc', cond_true] at hr
      refine ⟨⟨h0, h, by omega, by omega, rfl, ?_⟩, lxp_⟩
      rw [show (p - 0).toNat = p.toNat by omega]; exact hr
  · simp only [decide_eq_false_iff_not] at h
    rw [show (9 - k).toNat = 0 by omega] at hr
    exact hr
theorem x_racks_step1 (t : Int) (p : Int) (sh : Int) (xs : List Int) (hp0 : AGood ⟨t, p, sh⟩ xs) (hl0 : xs.length ≤ 9223372036854775807) (i : Int) (n1 : Nat) (ls : List Int) (k : Int) {r_ : Bool} (hI : x_racks_I1 t p sh xs i n1 ls k r_) : x_racks_w1 t p sh xs i n1 ls k (fun k' => x_racks_I0 t p sh xs k' r_ ∧ lx ((9 - k').toNat, p.toNat + 1, 0) ((9 - k).toNat, (p - i).toNat, 0)) (fun i' n1' ls' k' => x_racks_I1 t p sh xs i' n1' ls' k' r_ ∧ lx ((9 - k').toNat, (p - i').toNat, 0) ((9 - k).toNat, (p - i).toNat, 0)) (fun r__ => r__ = r_) := by
  unfold x_racks_I1 at hI
  unfold x_racks_w1
  try unfold x_racks_I0
  try unfold x_racks_I1
  obtain ⟨h0, h1, h2, h3, h4, hr⟩ := hI
  have hok := Cf.ok_iff.1 hp0.ok
  simp only at hok
  refine ⟨fun h => ?_, fun h => ?_⟩
  · simp only [decide_eq_true_eq] at h
    have hg : 0 ≤ i ∧ i < p := ⟨h2, h⟩
    have e : (p - i).toNat = (p - (i + 1)).toNat + 1 := by omega
    have ei : (p : Int) - (((p - (i + 1)).toNat + 1 : Nat) : Int) = i := by omega
    rw [e] at hr
    simp only [onceF] at hr
    rw [ei] at hr
    rw [w64 (n := i + 1) (by omega)]
    refine ⟨hp0, fun _ => ⟨hg, fun _ => ⟨fun hc => ?_, fun hc => ?_⟩⟩⟩
    · have hc' : racked ⟨t, p, sh⟩ xs i k = true := hc
      rw [hc', cond_true] at hr
      refine ⟨fun hn => ?_, fun hn => ?_⟩
      · have hn' : (inA ls i != 1) = true := hn
        rw [hn', cond_true, cond_false] at hr; exact hr
      · have hn' : (inA ls i != 1) = false := hn
        rw [hn', cond_false] at hr
        exact ⟨⟨h0, h1, by omega, by omega, h4, hr⟩, lxp_⟩
    · have hc' : racked ⟨t, p, sh⟩ xs i k = false := hc
      rw [hc', cond_false] at hr
      refine ⟨fun hn => ?_, fun hn => ?_⟩
      · have hn' : (inA ls i != 0) = true := hn
        rw [hn', cond_true, cond_false] at hr; exact hr
      · have hn' : (inA ls i != 0) = false := hn
        rw [hn', cond_false] at hr
        exact ⟨⟨h0, h1, by omega, by omega, h4, hr⟩, lxp_⟩
  · simp only [decide_eq_false_iff_not] at h
    rw [show (p - i).toNat = 0 by omega] at hr
    simp only [onceF, cond_true] at hr
    rw [w64 (n := k + 1) (by omega)]
    refine ⟨⟨by omega, by omega, ?_⟩, lxp_⟩
    rw [show (9 - (k + 1)).toNat = (8 - k).toNat by omega]; exact hr
theorem x_racks_ok : EOk 86 e_x_racks :=
  ent_wp Dg T_x_bins_ok (I := [103000000003, 103000000001, 8549000000006, 8549000000004, 8549000000003, 8549000000001]) Tryz.func86 mix (B := bodyOf Tryz.f86) (by kernel_rfl) rfl (by kernel_rfl) 400
    fun p0 t p sh xs hb hp => have hl0 : xs.length ≤ 9223372036854775807 := hb.1.2.2.2.1; have hp0 : AGood ⟨t, p, sh⟩ xs := hp _ (.head _); ⟨[x_racks_h0 p0 t p sh xs, x_racks_h1 p0 t p sh xs], fun j => List.getD [appC (Hd.kd (x_racks_h0 p0 t p sh xs)) (fun k' => x_racks_I0 t p sh xs k' (x_racks t p sh xs)), appC (Hd.kd (x_racks_h1 p0 t p sh xs)) (fun i' n1' ls' k' => x_racks_I1 t p sh xs i' n1' ls' k' (x_racks t p sh xs))] j (fun _ => False), fun j => List.getD [appC (Hd.kd (x_racks_h0 p0 t p sh xs)) (fun k' => ((9 - k').toNat, p.toNat + 1, 0)), appC (Hd.kd (x_racks_h1 p0 t p sh xs)) (fun i' n1' ls' k' => ((9 - k').toNat, (p - i').toNat, 0))] j (fun _ => (0, 0, 0)), by kernel_rfl, ⟨x_racks_w t p sh xs (fun k' => x_racks_I0 t p sh xs k' (x_racks t p sh xs)) (fun i' n1' ls' k' => x_racks_I1 t p sh xs i' n1' ls' k' (x_racks t p sh xs)) (fun r__ => r__ = (x_racks t p sh xs)), fun _ _ _ => by kernel_rfl, x_racks_begin t p sh xs hp0 hl0 ⟩, ⟨fun k hI => ⟨x_racks_w0 t p sh xs k (fun k' => x_racks_I0 t p sh xs k' (x_racks t p sh xs) ∧ lx ((9 - k').toNat, p.toNat + 1, 0) ((9 - k).toNat, p.toNat + 1, 0)) (fun i' n1' ls' k' => x_racks_I1 t p sh xs i' n1' ls' k' (x_racks t p sh xs) ∧ lx ((9 - k').toNat, (p - i').toNat, 0) ((9 - k).toNat, p.toNat + 1, 0)) (fun r__ => r__ = (x_racks t p sh xs)), fun _ _ _ => by kernel_rfl, x_racks_step0 t p sh xs hp0 hl0 k hI⟩, ⟨fun i n1 ls k hI => ⟨x_racks_w1 t p sh xs i n1 ls k (fun k' => x_racks_I0 t p sh xs k' (x_racks t p sh xs) ∧ lx ((9 - k').toNat, p.toNat + 1, 0) ((9 - k).toNat, (p - i).toNat, 0)) (fun i' n1' ls' k' => x_racks_I1 t p sh xs i' n1' ls' k' (x_racks t p sh xs) ∧ lx ((9 - k').toNat, (p - i').toNat, 0) ((9 - k).toNat, (p - i).toNat, 0)) (fun r__ => r__ = (x_racks t p sh xs)), fun _ _ _ => by kernel_rfl, x_racks_step1 t p sh xs hp0 hl0 i n1 ls k hI⟩, trivial⟩⟩⟩
def T_x_racks : Tb := (86, e_x_racks) :: T_x_bins
theorem T_x_racks_ok : TOk T_x_racks := tc_ x_racks_ok T_x_bins_ok
end Go.Proofs.YtcbeifgnccbfbaaGreat
namespace Go.Proofs.YtcbeifgnccbfbaaGreat
open Go.Sl
def x_slots (t : Int) (p : Int) (sh : Int) (xs : List Int) : Bool := slotsOk ⟨t, p, sh⟩ xs
abbrev c_x_slots : Ct Sg := ⟨none, false, [.agg [.i .i64, .i .i64, .i .i64, .ro [some .u32]]], .b⟩
def e_x_slots : Entry Sg := entC c_x_slots x_slots (fun t p sh xs => [AGood ⟨t, p, sh⟩ xs])
def x_slots_w (t : Int) (p : Int) (sh : Int) (xs : List Int) (Q0 : Int → Prop) (Q1 : Int → Int → Int → Int → Int → Prop) (R_ : Bool → Prop) : Prop := (Q0 (0))
def x_slots_w0 (t : Int) (p : Int) (sh : Int) (xs : List Int) (g : Int) (Q0 : Int → Prop) (Q1 : Int → Int → Int → Int → Int → Prop) (R_ : Bool → Prop) : Prop := (bw_ (decide (g < p)) (aw_ (AGood { t := t, p := p, s := sh } xs) (aw_ (0 ≤ g ∧ g < p) (Q1 (0) (Prod.fst (If.k (aInfo { t := t, p := p, s := sh } xs g), If.l (aInfo { t := t, p := p, s := sh } xs g), If.c (aInfo { t := t, p := p, s := sh } xs g))) (If.l (aInfo { t := t, p := p, s := sh } xs g)) (If.c (aInfo { t := t, p := p, s := sh } xs g)) (g)))) (R_ (true)))
def x_slots_I0 (t : Int) (p : Int) (sh : Int) (xs : List Int) (g : Int) (r_ : Bool) : Prop := 0 ≤ g ∧ g ≤ p ∧ slotsF ⟨t, p, sh⟩ xs (p - g).toNat = r_
def x_slots_w1 (t : Int) (p : Int) (sh : Int) (xs : List Int) (j : Int) (ik : Int) (il : Int) (ic : Int) (g : Int) (Q0 : Int → Prop) (Q1 : Int → Int → Int → Int → Int → Prop) (R_ : Bool → Prop) : Prop := (bw_ (decide (j < 32)) (aw_ (AGood { t := t, p := p, s := sh } xs) (aw_ (0 ≤ g ∧ g < p) (aw_ (AGood { t := t, p := p, s := sh } xs) (aw_ (0 ≤ g ∧ g < p) (bw_ (r01_Bit (x_Slots t p sh xs g) j && !r01_Bit (x_Taken t p sh xs g) j || r01_Bit (x_Taken t p sh xs g) j && (ik != 3 || decide (j ≥ r05_Slots ic))) (R_ (false)) (Q1 (IntKind.wrap IntKind.i64 (j + 1)) (ik) (il) (ic) (g))))))) (aw_ ((ik == 3) = true → AGood { t := t, p := p, s := sh } xs) (aw_ ((ik == 3) = true → 0 ≤ g ∧ g < p) (bw_ (ik == 3 && x_Taken t p sh xs g == 0) (R_ (false)) (Q0 (IntKind.wrap IntKind.i64 (g + 1)))))))
def x_slots_I1 (t : Int) (p : Int) (sh : Int) (xs : List Int) (j : Int) (ik : Int) (il : Int) (ic : Int) (g : Int) (r_ : Bool) : Prop := 0 ≤ g ∧ g < p ∧ 0 ≤ j ∧ j ≤ 32 ∧ ik = (aInfo ⟨t, p, sh⟩ xs g).k ∧ ic = (aInfo ⟨t, p, sh⟩ xs g).c ∧ (bif slotsB ⟨t, p, sh⟩ xs g (aInfo ⟨t, p, sh⟩ xs g) (32 - j).toNat then (bif (aInfo ⟨t, p, sh⟩ xs g).k == 3 && cel xs (Cf.taken ⟨t, p, sh⟩ g) == 0 then false else slotsF ⟨t, p, sh⟩ xs (p - (g + 1)).toNat) else false) = r_
abbrev x_slots_h0 (p0 : Addr) (t : Int) (p : Int) (sh : Int) (xs : List Int) : Hd Sg := ⟨none, [0,1,0,1], [.blk 0, .code [1,1]], [3, 1], [.i .i64, .box 47 [.ic .i64 (t), .ic .i64 (p), .ic .i64 (sh), .roc [.ints .u32 (xs)]]]⟩
abbrev x_slots_h1 (p0 : Addr) (t : Int) (p : Int) (sh : Int) (xs : List Int) : Hd Sg := ⟨none, [0,1,0,1,0,0,1,0,0,1,0,1], [.blk 2, .code [1,1,0,0,1,0,0,1,0,1], .blk 1, .code [1,1,0,0,1,0,1], .again [0,1,0,1], .blk 0, .code [1,1]], [5, 4, 3, 1], [.i .i64, .box 50 [.i .i64, .i .i64, .i .i64], .i .i64, .box 47 [.ic .i64 (t), .ic .i64 (p), .ic .i64 (sh), .roc [.ints .u32 (xs)]]]⟩
theorem x_slots_begin (t : Int) (p : Int) (sh : Int) (xs : List Int) (hp0 : AGood ⟨t, p, sh⟩ xs) (hl0 : xs.length ≤ 9223372036854775807) : x_slots_w t p sh xs (fun g' => x_slots_I0 t p sh xs g' (x_slots t p sh xs)) (fun j' ik' il' ic' g' => x_slots_I1 t p sh xs j' ik' il' ic' g' (x_slots t p sh xs)) (fun r__ => r__ = (x_slots t p sh xs)) := by
  unfold x_slots_w
  try unfold x_slots_I0
  try unfold x_slots_I1
  have hok := Cf.ok_iff.1 hp0.ok
  simp only at hok
  refine ⟨by omega, by omega, ?_⟩
  show _ = slotsOk ⟨t, p, sh⟩ xs
  unfold slotsOk
  rw [show (p - 0).toNat = p.toNat by omega]
theorem x_slots_step0 (t : Int) (p : Int) (sh : Int) (xs : List Int) (hp0 : AGood ⟨t, p, sh⟩ xs) (hl0 : xs.length ≤ 9223372036854775807) (g : Int) {r_ : Bool} (hI : x_slots_I0 t p sh xs g r_) : x_slots_w0 t p sh xs g (fun g' => x_slots_I0 t p sh xs g' r_ ∧ lx ((p - g').toNat, 33, 0) ((p - g).toNat, 33, 0)) (fun j' ik' il' ic' g' => x_slots_I1 t p sh xs j' ik' il' ic' g' r_ ∧ lx ((p - g').toNat, (32 - j').toNat, 0) ((p - g).toNat, 33, 0)) (fun r__ => r__ = r_) := by
  unfold x_slots_I0 at hI
  unfold x_slots_w0
  try unfold x_slots_I0
  try unfold x_slots_I1
  obtain ⟨h0, h1, hr⟩ := hI
  refine ⟨fun h => ?_, fun h => ?_⟩
  · simp only [decide_eq_true_eq] at h
    have e : (p - g).toNat = (p - (g + 1)).toNat + 1 := by omega
    have ei : (p : Int) - (((p - (g + 1)).toNat + 1 : Nat) : Int) = g := by omega
    rw [e] at hr
    simp only [slotsF] at hr
    rw [ei] at hr
    exact ⟨hp0, fun _ => ⟨⟨h0, h⟩, fun _ => ⟨⟨h0, h, by omega, by omega, rfl, rfl, hr⟩, lxp_⟩⟩⟩
  · simp only [decide_eq_false_iff_not] at h
    rw [show (p - g).toNat = 0 by omega] at hr
    exact hr
theorem x_slots_step1 (t : Int) (p : Int) (sh : Int) (xs : List Int) (hp0 : AGood ⟨t, p, sh⟩ xs) (hl0 : xs.length ≤ 9223372036854775807) (j : Int) (ik : Int) (il : Int) (ic : Int) (g : Int) {r_ : Bool} (hI : x_slots_I1 t p sh xs j ik il ic g r_) : x_slots_w1 t p sh xs j ik il ic g (fun g' => x_slots_I0 t p sh xs g' r_ ∧ lx ((p - g').toNat, 33, 0) ((p - g).toNat, (32 - j).toNat, 0)) (fun j' ik' il' ic' g' => x_slots_I1 t p sh xs j' ik' il' ic' g' r_ ∧ lx ((p - g').toNat, (32 - j').toNat, 0) ((p - g).toNat, (32 - j).toNat, 0)) (fun r__ => r__ = r_) := by
  unfold x_slots_I1 at hI
  unfold x_slots_w1
  try unfold x_slots_I0
  try unfold x_slots_I1
  obtain ⟨h0, h1, h2, h3, rfl, rfl, hr⟩ := hI
  have hok := Cf.ok_iff.1 hp0.ok
  simp only at hok
  have hbs := cel_bd hp0 (Cf.slots ⟨t, p, sh⟩ g)
  have hbt := cel_bd hp0 (Cf.taken ⟨t, p, sh⟩ g)
  have hg : 0 ≤ g ∧ g < p := ⟨h0, h1⟩
  refine ⟨fun h => ?_, fun h => ?_⟩
  · simp only [decide_eq_true_eq] at h
    have e : (32 - j).toNat = (32 - (j + 1)).toNat + 1 := by omega
    have ej : (32 : Int) - (((32 - (j + 1)).toNat + 1 : Nat) : Int) = j := by omega
    rw [e] at hr
    simp only [slotsB] at hr
    rw [ej] at hr
    have hb1 : r01_Bit (x_Slots t p sh xs g) j = bitAt (cel xs (Cf.slots ⟨t, p, sh⟩ g)) j := bit_eq hbs j
    have hb2 : r01_Bit (x_Taken t p sh xs g) j = bitAt (cel xs (Cf.taken ⟨t, p, sh⟩ g)) j := bit_eq hbt j
    rw [w64 (n := j + 1) (by omega), hb1, hb2, r05_Slots_eq]
    refine ⟨hp0, fun _ => ⟨hg, fun _ => ⟨hp0, fun _ => ⟨hg, fun _ => ⟨fun hc => ?_, fun hc => ?_⟩⟩⟩⟩⟩
    · rw [hc, cond_true, cond_false] at hr; exact hr
    · rw [hc, cond_false] at hr
      exact ⟨⟨h0, h1, by omega, by omega, rfl, rfl, hr⟩, lxp_⟩
  · simp only [decide_eq_false_iff_not] at h
    rw [show (32 - j).toNat = 0 by omega] at hr
    simp only [slotsB, cond_true] at hr
    rw [w64 (n := g + 1) (by omega)]
    refine ⟨fun _ => hp0, fun _ => ⟨fun _ => hg, fun _ => ⟨fun hc => ?_, fun hc => ?_⟩⟩⟩
    · have hc' : ((aInfo ⟨t, p, sh⟩ xs g).k == 3 && cel xs (Cf.taken ⟨t, p, sh⟩ g) == 0) = true := hc
      rw [hc', cond_true] at hr; exact hr
    · have hc' : ((aInfo ⟨t, p, sh⟩ xs g).k == 3 && cel xs (Cf.taken ⟨t, p, sh⟩ g) == 0) = false := hc
      rw [hc', cond_false] at hr
      exact ⟨⟨by omega, by omega, hr⟩, lxp_⟩
theorem x_slots_ok : EOk 84 e_x_slots :=
  ent_wp Dg T_x_racks_ok (I := [103000000003, 103000000001, 5703000000005, 5703000000004, 5703000000003, 5703000000001]) Tryz.func84 mix (B := bodyOf Tryz.f84) (by kernel_rfl) rfl (by kernel_rfl) 400
    fun p0 t p sh xs hb hp => have hl0 : xs.length ≤ 9223372036854775807 := hb.1.2.2.2.1; have hp0 : AGood ⟨t, p, sh⟩ xs := hp _ (.head _); ⟨[x_slots_h0 p0 t p sh xs, x_slots_h1 p0 t p sh xs], fun j => List.getD [appC (Hd.kd (x_slots_h0 p0 t p sh xs)) (fun g' => x_slots_I0 t p sh xs g' (x_slots t p sh xs)), appC (Hd.kd (x_slots_h1 p0 t p sh xs)) (fun j' ik' il' ic' g' => x_slots_I1 t p sh xs j' ik' il' ic' g' (x_slots t p sh xs))] j (fun _ => False), fun j => List.getD [appC (Hd.kd (x_slots_h0 p0 t p sh xs)) (fun g' => ((p - g').toNat, 33, 0)), appC (Hd.kd (x_slots_h1 p0 t p sh xs)) (fun j' ik' il' ic' g' => ((p - g').toNat, (32 - j').toNat, 0))] j (fun _ => (0, 0, 0)), by kernel_rfl, ⟨x_slots_w t p sh xs (fun g' => x_slots_I0 t p sh xs g' (x_slots t p sh xs)) (fun j' ik' il' ic' g' => x_slots_I1 t p sh xs j' ik' il' ic' g' (x_slots t p sh xs)) (fun r__ => r__ = (x_slots t p sh xs)), fun _ _ _ => by kernel_rfl, x_slots_begin t p sh xs hp0 hl0 ⟩, ⟨fun g hI => ⟨x_slots_w0 t p sh xs g (fun g' => x_slots_I0 t p sh xs g' (x_slots t p sh xs) ∧ lx ((p - g').toNat, 33, 0) ((p - g).toNat, 33, 0)) (fun j' ik' il' ic' g' => x_slots_I1 t p sh xs j' ik' il' ic' g' (x_slots t p sh xs) ∧ lx ((p - g').toNat, (32 - j').toNat, 0) ((p - g).toNat, 33, 0)) (fun r__ => r__ = (x_slots t p sh xs)), fun _ _ _ => by kernel_rfl, x_slots_step0 t p sh xs hp0 hl0 g hI⟩, ⟨fun j ik il ic g hI => ⟨x_slots_w1 t p sh xs j ik il ic g (fun g' => x_slots_I0 t p sh xs g' (x_slots t p sh xs) ∧ lx ((p - g').toNat, 33, 0) ((p - g).toNat, (32 - j).toNat, 0)) (fun j' ik' il' ic' g' => x_slots_I1 t p sh xs j' ik' il' ic' g' (x_slots t p sh xs) ∧ lx ((p - g').toNat, (32 - j').toNat, 0) ((p - g).toNat, (32 - j).toNat, 0)) (fun r__ => r__ = (x_slots t p sh xs)), fun _ _ _ => by kernel_rfl, x_slots_step1 t p sh xs hp0 hl0 j ik il ic g hI⟩, trivial⟩⟩⟩
def T_x_slots : Tb := (84, e_x_slots) :: T_x_racks
theorem T_x_slots_ok : TOk T_x_slots := tc_ x_slots_ok T_x_racks_ok
end Go.Proofs.YtcbeifgnccbfbaaGreat
namespace Go.Proofs.YtcbeifgnccbfbaaGreat
open Go.Sl
def r12_Has (ls : List Int) (zs : List Int) (g : Int) : Bool := ls.contains g
abbrev c_r12_Has : Ct Sg := ⟨none, false, [.ro [some .i64, some .i64], .i .i64], .b⟩
def e_r12_Has : Entry Sg := entC c_r12_Has r12_Has (fun _ _ _ => [])
def r12_Has_w (ls : List Int) (zs : List Int) (g : Int) (Q0 : Int → Prop) (R_ : Bool → Prop) : Prop := (Q0 (0))
def r12_Has_w0 (ls : List Int) (zs : List Int) (g : Int) (i : Int) (Q0 : Int → Prop) (R_ : Bool → Prop) : Prop := (bw_ (decide (i < (↑(List.length ls) : Int))) (aw_ (0 ≤ i ∧ i < (↑(List.length ls) : Int)) (bw_ (List.getD ls (Int.toNat i) 0 == g) (R_ (true)) (Q0 (IntKind.wrap IntKind.i64 (i + 1))))) (R_ (false)))
def r12_Has_I0 (ls : List Int) (zs : List Int) (g : Int) (i : Int) (r_ : Bool) : Prop := 0 ≤ i ∧ i ≤ ls.length ∧ (ls.take i.toNat).contains g = false ∧ ls.length ≤ 9223372036854775807 ∧ r_ = ls.contains g
abbrev r12_Has_h0 (p0 : Addr) (ls : List Int) (zs : List Int) (g : Int) : Hd Sg := ⟨none, [0,1,0,1], [.blk 0, .code [1,1]], [5, 0, 1], [.i .i64, .roc [.ints .i64 (ls), .ints .i64 (zs)], .ic .i64 (g)]⟩
theorem r12_Has_begin (ls : List Int) (zs : List Int) (g : Int) (hl0 : ls.length ≤ 9223372036854775807) : r12_Has_w ls zs g (fun i' => r12_Has_I0 ls zs g i' (r12_Has ls zs g)) (fun r__ => r__ = (r12_Has ls zs g)) := by
  unfold r12_Has_w
  try unfold r12_Has_I0
  exact ⟨by omega, by omega, by simp, hl0, rfl⟩
theorem r12_Has_step0 (ls : List Int) (zs : List Int) (g : Int) (hl0 : ls.length ≤ 9223372036854775807) (i : Int) {r_ : Bool} (hI : r12_Has_I0 ls zs g i r_) : r12_Has_w0 ls zs g i (fun i' => r12_Has_I0 ls zs g i' r_ ∧ lx ((ls.length - i').toNat, 0, 0) ((ls.length - i).toNat, 0, 0)) (fun r__ => r__ = r_) := by
  unfold r12_Has_I0 at hI
  unfold r12_Has_w0
  try unfold r12_Has_I0
  obtain ⟨h0, h1, h2, h3, hr⟩ := hI
  refine ⟨fun h => ?_, fun h => ?_⟩
  · simp only [decide_eq_true_eq] at h
    have hlt : i.toNat < ls.length := by omega
    have ht : ls.take (i + 1).toNat = ls.take i.toNat ++ [ls.getD i.toNat 0] := by
      rw [show (i + 1).toNat = i.toNat + 1 by omega, List.take_add_one, List.getD_eq_getElem?_getD, List.getElem?_eq_getElem hlt]; rfl
    rw [w64 (n := i + 1) (by omega)]
    refine ⟨⟨h0, h⟩, fun _ => ⟨fun hc => ?_, fun hc => ?_⟩⟩
    · have hm := getD_memA hlt
      simp only [beq_iff_eq] at hc
      rw [hc] at hm
      show true = r_
      rw [hr]
      simpa using hm
    · refine ⟨⟨by omega, by omega, ?_, h3, hr⟩, lxo_⟩
      rw [ht]
      generalize ls.getD i.toNat 0 = q at hc
      simp only [beq_eq_false_iff_ne] at hc
      simp only [List.contains_eq_mem, List.mem_append, decide_eq_false_iff_not] at h2 ⊢
      intro hh
      rcases hh with hh | hh
      · exact h2 hh
      · exact hc (List.mem_singleton.1 hh).symm
  · simp only [decide_eq_false_iff_not] at h
    rw [List.take_of_length_le (by omega)] at h2
    show false = r_
    rw [hr, h2]
theorem r12_Has_ok : EOk 27 e_r12_Has :=
  ent_wp Dg T_x_slots_ok (I := [103000000005, 103000000000, 103000000001]) Tryz.func27 mix (B := bodyOf Tryz.f27) (by kernel_rfl) rfl (by kernel_rfl) 400
    fun p0 ls zs g hb hp => have hl0 : ls.length ≤ 9223372036854775807 := hb.1; ⟨[r12_Has_h0 p0 ls zs g], fun j => List.getD [appC (Hd.kd (r12_Has_h0 p0 ls zs g)) (fun i' => r12_Has_I0 ls zs g i' (r12_Has ls zs g))] j (fun _ => False), fun j => List.getD [appC (Hd.kd (r12_Has_h0 p0 ls zs g)) (fun i' => ((ls.length - i').toNat, 0, 0))] j (fun _ => (0, 0, 0)), by kernel_rfl, ⟨r12_Has_w ls zs g (fun i' => r12_Has_I0 ls zs g i' (r12_Has ls zs g)) (fun r__ => r__ = (r12_Has ls zs g)), fun _ _ _ => by kernel_rfl, r12_Has_begin ls zs g hl0 ⟩, ⟨fun i hI => ⟨r12_Has_w0 ls zs g i (fun i' => r12_Has_I0 ls zs g i' (r12_Has ls zs g) ∧ lx ((ls.length - i').toNat, 0, 0) ((ls.length - i).toNat, 0, 0)) (fun r__ => r__ = (r12_Has ls zs g)), fun _ _ _ => by kernel_rfl, r12_Has_step0 ls zs g hl0 i hI⟩, trivial⟩⟩
def T_r12_Has : Tb := (27, e_r12_Has) :: T_x_slots
theorem T_r12_Has_ok : TOk T_r12_Has := tc_ r12_Has_ok T_x_slots_ok
def r04_Page (t : Int) (p : Int) (sh : Int) : Int := bif r04_Right t p sh then 2 ^ sh.toNat else 0
abbrev c_r04_Page : Ct Sg := ⟨none, false, [.agg [.i .i64, .i .i64, .i .i64]], .i .i64⟩
def e_r04_Page : Entry Sg := entC c_r04_Page r04_Page (fun _ _ _ => [])
def r04_Page_w (t : Int) (p : Int) (sh : Int) (Q0 : Int → Int → Prop) (R_ : Int → Prop) : Prop := (bw_ (!r04_Right t p sh) (R_ (0)) (Q0 (0) (1)))
def r04_Page_w0 (t : Int) (p : Int) (sh : Int) (i : Int) (m : Int) (Q0 : Int → Int → Prop) (R_ : Int → Prop) : Prop := (bw_ (decide (i < sh)) (Q0 (IntKind.wrap IntKind.i64 (i + 1)) (IntKind.wrap IntKind.i64 (m * 2))) (R_ (m)))
def r04_Page_I0 (t : Int) (p : Int) (sh : Int) (i : Int) (m : Int) (r_ : Int) : Prop := 0 ≤ i ∧ i ≤ sh ∧ sh ≤ 20 ∧ m = 2 ^ i.toNat ∧ r_ = 2 ^ sh.toNat
abbrev r04_Page_h0 (p0 : Addr) (t : Int) (p : Int) (sh : Int) : Hd Sg := ⟨none, [0,1,0,1,1,1], [.blk 0, .code [1,1,1,1]], [4, 3, 1], [.i .i64, .i .i64, .box 23 [.ic .i64 (t), .ic .i64 (p), .ic .i64 (sh)]]⟩
theorem r04_Page_begin (t : Int) (p : Int) (sh : Int) : r04_Page_w t p sh (fun i' m' => r04_Page_I0 t p sh i' m' (r04_Page t p sh)) (fun r__ => r__ = (r04_Page t p sh)) := by
  unfold r04_Page_w
  try unfold r04_Page_I0
  refine ⟨fun hc => ?_, fun hc => ?_⟩
  · have e : r04_Right t p sh = false := by simpa using hc
    show (0 : Int) = r04_Page t p sh
    unfold r04_Page
    rw [e]; rfl
  · have e : r04_Right t p sh = true := by simpa using hc
    have e' := e
    simp only [r04_Right, Bool.and_eq_true, decide_eq_true_eq] at e'
    refine ⟨by omega, by omega, by omega, rfl, ?_⟩
    unfold r04_Page
    rw [e]; rfl
theorem r04_Page_step0 (t : Int) (p : Int) (sh : Int) (i : Int) (m : Int) {r_ : Int} (hI : r04_Page_I0 t p sh i m r_) : r04_Page_w0 t p sh i m (fun i' m' => r04_Page_I0 t p sh i' m' r_ ∧ lx ((sh - i').toNat, 0, 0) ((sh - i).toNat, 0, 0)) (fun r__ => r__ = r_) := by
  unfold r04_Page_I0 at hI
  unfold r04_Page_w0
  try unfold r04_Page_I0
  obtain ⟨h0, h1, h2, h3, hr⟩ := hI
  refine ⟨fun h => ?_, fun h => ?_⟩
  · simp only [decide_eq_true_eq] at h
    have e : (2 : Int) ^ (i + 1).toNat = 2 ^ i.toNat * 2 := by rw [show (i + 1).toNat = i.toNat + 1 by omega, Int.pow_succ]
    have hb : (2 : Int) ^ i.toNat ≤ 1048576 := by
      have h4 : (2 : Nat) ^ i.toNat ≤ 2 ^ 20 := Nat.pow_le_pow_right (by omega) (by omega)
      have h5 : ((2 ^ i.toNat : Nat) : Int) ≤ ((2 ^ 20 : Nat) : Int) := by exact_mod_cast h4
      simpa using h5
    have hb0 : (0 : Int) < 2 ^ i.toNat := Int.pow_pos (by omega)
    rw [w64 (n := i + 1) (by omega), w64 (by omega)]
    exact ⟨⟨by omega, by omega, h2, by rw [e, h3], hr⟩, lxo_⟩
  · simp only [decide_eq_false_iff_not] at h
    have e : i = sh := by omega
    subst e
    rw [hr]; exact h3
theorem r04_Page_ok : EOk 71 e_r04_Page :=
  ent_wp Dg T_r12_Has_ok (I := [1643000000004, 1643000000003, 1643000000001]) Tryz.func71 mix (B := bodyOf Tryz.f71) (by kernel_rfl) rfl (by kernel_rfl) 400
    fun p0 t p sh hb hp => ⟨[r04_Page_h0 p0 t p sh], fun j => List.getD [appC (Hd.kd (r04_Page_h0 p0 t p sh)) (fun i' m' => r04_Page_I0 t p sh i' m' (r04_Page t p sh))] j (fun _ => False), fun j => List.getD [appC (Hd.kd (r04_Page_h0 p0 t p sh)) (fun i' m' => ((sh - i').toNat, 0, 0))] j (fun _ => (0, 0, 0)), by kernel_rfl, ⟨r04_Page_w t p sh (fun i' m' => r04_Page_I0 t p sh i' m' (r04_Page t p sh)) (fun r__ => r__ = (r04_Page t p sh)), fun _ _ _ => by kernel_rfl, r04_Page_begin t p sh ⟩, ⟨fun i m hI => ⟨r04_Page_w0 t p sh i m (fun i' m' => r04_Page_I0 t p sh i' m' (r04_Page t p sh) ∧ lx ((sh - i').toNat, 0, 0) ((sh - i).toNat, 0, 0)) (fun r__ => r__ = (r04_Page t p sh)), fun _ _ _ => by kernel_rfl, r04_Page_step0 t p sh i m hI⟩, trivial⟩⟩
def T_r04_Page : Tb := (71, e_r04_Page) :: T_r12_Has
theorem T_r04_Page_ok : TOk T_r04_Page := tc_ r04_Page_ok T_r12_Has_ok
def r05_Size (sh : Int) (k : Int) : Int := (bif r05_Slots k == 0 || r04_Page 1 4 sh == 0 then 0 else IntKind.wrap IntKind.i64 (IntKind.wrap IntKind.i64 (Int.tdiv (r04_Page 1 4 sh) (r05_Slots k)) - Int.tmod (IntKind.wrap IntKind.i64 (Int.tdiv (r04_Page 1 4 sh) (r05_Slots k))) 16))
abbrev c_r05_Size : Ct Sg := ⟨none, false, [.i .i64, .i .i64], .i .i64⟩
def e_r05_Size : Entry Sg := entC c_r05_Size r05_Size (fun _ _ => [])
theorem r05_Size_ok : EOk 30 e_r05_Size :=
  ent_ok Dg T_r04_Page_ok (I := []) Tryz.func30 mix (B := bodyOf Tryz.f30) (by kernel_rfl) rfl (by kernel_rfl) 400
    fun _ sh k hb hp => ⟨(r05_Size sh k), (.br (r05_Slots k == 0 || r04_Page 1 4 sh == 0) .t (.need (r05_Slots k ≠ 0) .t)), fun _ _ _ => by kernel_rfl, ⟨fun z0 => trivial, fun z0 => ⟨(by first | omega | (simp_all; done)), fun z1 => trivial⟩⟩, rfl⟩
def T_r05_Size : Tb := (30, e_r05_Size) :: T_r04_Page
theorem T_r05_Size_ok : TOk T_r05_Size := tc_ r05_Size_ok T_r04_Page_ok
def r06_Of (t : Int) (p : Int) (sh : Int) (g : Int) (o : Int) : Int × Bool := (bif !r04_Right t p sh || decide (g < 0) || decide (g ≥ p) || decide (o < 0) || decide (o ≥ r04_Page t p sh) then (0, false) else (IntKind.wrap IntKind.i64 (IntKind.wrap IntKind.i64 (IntKind.wrap IntKind.i64 (g + 1) * r04_Page t p sh) + o), true))
abbrev c_r06_Of : Ct Sg := ⟨none, false, [.agg [.i .i64, .i .i64, .i .i64], .i .i64, .i .i64], .tup [.i .i64, .b]⟩
def e_r06_Of : Entry Sg := entC c_r06_Of r06_Of (fun _ _ _ _ _ => [])
theorem r06_Of_ok : EOk 145 e_r06_Of :=
  ent_ok Dg T_r05_Size_ok (I := []) Tryz.func145 mix (B := bodyOf Tryz.f145) (by kernel_rfl) rfl (by kernel_rfl) 400
    fun _ t p sh g o hb hp => ⟨(r06_Of t p sh g o), .t, fun _ _ _ => by kernel_rfl, trivial, rfl⟩
def T_r06_Of : Tb := (145, e_r06_Of) :: T_r05_Size
theorem T_r06_Of_ok : TOk T_r06_Of := tc_ r06_Of_ok T_r05_Size_ok
def r06_At (t : Int) (p : Int) (sh : Int) (k : Int) (g : Int) (j : Int) : Int × Bool := (bif decide (j < 0) || decide (j ≥ r05_Slots k) then (0, false) else (Prod.fst (r06_Of t p sh g (IntKind.wrap IntKind.i64 (j * r05_Size sh k))), Prod.snd (r06_Of t p sh g (IntKind.wrap IntKind.i64 (j * r05_Size sh k)))))
abbrev c_r06_At : Ct Sg := ⟨none, false, [.agg [.i .i64, .i .i64, .i .i64], .i .i64, .i .i64, .i .i64], .tup [.i .i64, .b]⟩
def e_r06_At : Entry Sg := entC c_r06_At r06_At (fun _ _ _ _ _ _ => [])
theorem r06_At_ok : EOk 164 e_r06_At :=
  ent_ok Dg T_r06_Of_ok (I := []) Tryz.func164 mix (B := bodyOf Tryz.f164) (by kernel_rfl) rfl (by kernel_rfl) 400
    fun _ t p sh k g j hb hp => ⟨(r06_At t p sh k g j), .t, fun _ _ _ => by kernel_rfl, trivial, rfl⟩
def T_r06_At : Tb := (164, e_r06_At) :: T_r06_Of
theorem T_r06_At_ok : TOk T_r06_At := tc_ r06_At_ok T_r06_Of_ok
end Go.Proofs.YtcbeifgnccbfbaaGreat
namespace Go.Proofs.YtcbeifgnccbfbaaGreat
open Go.Sl
def x_feet (t : Int) (p : Int) (sh : Int) (xs : List Int) : Bool := feet ⟨t, p, sh⟩ xs
abbrev c_x_feet : Ct Sg := ⟨none, false, [.agg [.i .i64, .i .i64, .i .i64, .ro [some .u32]]], .b⟩
def e_x_feet : Entry Sg := entC c_x_feet x_feet (fun t p sh xs => [AGood ⟨t, p, sh⟩ xs, (starts ⟨t, p, sh⟩ xs).2 = true])
def x_feet_w (t : Int) (p : Int) (sh : Int) (xs : List Int) (Q0 : Int → Int → Nat → List Int → Prop) (R_ : Bool → Prop) : Prop := (∀ r1 : List Int × Bool, r1 = (x_starts t p sh xs) → (aw_ (AGood { t := t, p := p, s := sh } xs) (Q0 (0) (0) (List.length r1.1) r1.1)))
def x_feet_w0 (t : Int) (p : Int) (sh : Int) (xs : List Int) (i : Int) (n : Int) (n1 : Nat) (ls : List Int) (Q0 : Int → Int → Nat → List Int → Prop) (R_ : Bool → Prop) : Prop := (bw_ (decide (i < p)) (aw_ (decide (IntKind.wrap IntKind.i64 (n + 1) < (↑n1 : Int)) = true → 0 ≤ IntKind.wrap IntKind.i64 (n + 1) ∧ IntKind.wrap IntKind.i64 (n + 1) < (↑n1 : Int)) (bw_ (decide (IntKind.wrap IntKind.i64 (n + 1) < (↑n1 : Int)) && List.getD ls (Int.toNat (IntKind.wrap IntKind.i64 (n + 1))) 0 == i) (aw_ (0 ≤ IntKind.wrap IntKind.i64 (n + 1) ∧ IntKind.wrap IntKind.i64 (n + 1) < (↑n1 : Int)) (aw_ (0 ≤ IntKind.wrap IntKind.i64 (n + 1) ∧ IntKind.wrap IntKind.i64 (n + 1) < (↑n1 : Int)) (aw_ (AGood { t := t, p := p, s := sh } xs) (aw_ (0 ≤ List.getD ls (Int.toNat (IntKind.wrap IntKind.i64 (n + 1))) 0 ∧ List.getD ls (Int.toNat (IntKind.wrap IntKind.i64 (n + 1))) 0 < p) (bw_ (i == IntKind.wrap IntKind.i64 (IntKind.wrap IntKind.i64 (List.getD ls (Int.toNat (IntKind.wrap IntKind.i64 (n + 1))) 0 + Prod.fst (If.l (aInfo { t := t, p := p, s := sh } xs (List.getD ls (Int.toNat (IntKind.wrap IntKind.i64 (n + 1))) 0)), If.c (aInfo { t := t, p := p, s := sh } xs (List.getD ls (Int.toNat (IntKind.wrap IntKind.i64 (n + 1))) 0)))) - 1)) (aw_ (0 ≤ IntKind.wrap IntKind.i64 (n + 1) ∧ IntKind.wrap IntKind.i64 (n + 1) < (↑n1 : Int)) (aw_ (0 ≤ r07_Foot t p sh i ∧ r07_Foot t p sh i < (↑(List.length xs) : Int)) (bw_ (List.getD xs (Int.toNat (r07_Foot t p sh i)) 0 != IntKind.wrap IntKind.u32 (IntKind.wrap IntKind.i64 (List.getD ls (Int.toNat (IntKind.wrap IntKind.i64 (n + 1))) (0 : Int) + 1))) (R_ (false)) (Q0 (IntKind.wrap IntKind.i64 (i + 1)) (IntKind.wrap IntKind.i64 (n + 1)) (n1) (ls))))) (aw_ (0 ≤ r07_Foot t p sh i ∧ r07_Foot t p sh i < (↑(List.length xs) : Int)) (bw_ (List.getD xs (Int.toNat (r07_Foot t p sh i)) (0 : Int) != 0) (R_ (false)) (Q0 (IntKind.wrap IntKind.i64 (i + 1)) (IntKind.wrap IntKind.i64 (n + 1)) (n1) (ls))))))))) (aw_ (0 ≤ n ∧ n < (↑n1 : Int)) (aw_ (0 ≤ n ∧ n < (↑n1 : Int)) (aw_ (AGood { t := t, p := p, s := sh } xs) (aw_ (0 ≤ List.getD ls (Int.toNat n) 0 ∧ List.getD ls (Int.toNat n) 0 < p) (bw_ (i == IntKind.wrap IntKind.i64 (IntKind.wrap IntKind.i64 (List.getD ls (Int.toNat n) 0 + Prod.fst (If.l (aInfo { t := t, p := p, s := sh } xs (List.getD ls (Int.toNat n) 0)), If.c (aInfo { t := t, p := p, s := sh } xs (List.getD ls (Int.toNat n) 0)))) - 1)) (aw_ (0 ≤ n ∧ n < (↑n1 : Int)) (aw_ (0 ≤ r07_Foot t p sh i ∧ r07_Foot t p sh i < (↑(List.length xs) : Int)) (bw_ (List.getD xs (Int.toNat (r07_Foot t p sh i)) 0 != IntKind.wrap IntKind.u32 (IntKind.wrap IntKind.i64 (List.getD ls (Int.toNat n) (0 : Int) + 1))) (R_ (false)) (Q0 (IntKind.wrap IntKind.i64 (i + 1)) (n) (n1) (ls))))) (aw_ (0 ≤ r07_Foot t p sh i ∧ r07_Foot t p sh i < (↑(List.length xs) : Int)) (bw_ (List.getD xs (Int.toNat (r07_Foot t p sh i)) (0 : Int) != 0) (R_ (false)) (Q0 (IntKind.wrap IntKind.i64 (i + 1)) (n) (n1) (ls))))))))))) (R_ (true)))
def x_feet_I0 (t : Int) (p : Int) (sh : Int) (xs : List Int) (i : Int) (n : Int) (n1 : Nat) (ls : List Int) (r_ : Bool) : Prop := 0 ≤ i ∧ i ≤ p ∧ 0 ≤ n ∧ n < ls.length ∧ n1 = ls.length ∧ ls = (starts ⟨t, p, sh⟩ xs).1 ∧ feetF ⟨t, p, sh⟩ xs ls (p - i).toNat n.toNat = r_
abbrev x_feet_h0 (p0 : Addr) (t : Int) (p : Int) (sh : Int) (xs : List Int) : Hd Sg := ⟨none, [0,1,0,1,1,1], [.blk 0, .code [1,1,1,1]], [6, 5, 3, 1], [.i .i64, .i .i64, .own 3 [some .i64], .box 47 [.ic .i64 (t), .ic .i64 (p), .ic .i64 (sh), .roc [.ints .u32 (xs)]]]⟩
theorem x_feet_begin (t : Int) (p : Int) (sh : Int) (xs : List Int) (hp0 : AGood ⟨t, p, sh⟩ xs) (hp1 : (starts ⟨t, p, sh⟩ xs).2 = true) (hl0 : xs.length ≤ 9223372036854775807) : x_feet_w t p sh xs (fun i' n' n1' ls' => x_feet_I0 t p sh xs i' n' n1' ls' (x_feet t p sh xs)) (fun r__ => r__ = (x_feet t p sh xs)) := by
  unfold x_feet_w
  try unfold x_feet_I0
  have hok := Cf.ok_iff.1 hp0.ok
  simp only at hok
  have hne := starts_ne (c := ⟨t, p, sh⟩) (xs := xs) (by show 1 ≤ p; omega) hp1
  rintro r1 rfl
  refine ⟨hp0, fun _ => ⟨by omega, by omega, by omega, ?_, rfl, rfl, ?_⟩⟩
  · show (0 : Int) < ((starts ⟨t, p, sh⟩ xs).1.length : Int)
    omega
  · show feetF ⟨t, p, sh⟩ xs (starts ⟨t, p, sh⟩ xs).1 (p - 0).toNat (Int.toNat 0) = feet ⟨t, p, sh⟩ xs
    unfold feet
    rw [show (p - 0).toNat = p.toNat by omega]
    rfl
theorem x_feet_step0 (t : Int) (p : Int) (sh : Int) (xs : List Int) (hp0 : AGood ⟨t, p, sh⟩ xs) (hp1 : (starts ⟨t, p, sh⟩ xs).2 = true) (hl0 : xs.length ≤ 9223372036854775807) (i : Int) (n : Int) (n1 : Nat) (ls : List Int) {r_ : Bool} (hI : x_feet_I0 t p sh xs i n n1 ls r_) : x_feet_w0 t p sh xs i n n1 ls (fun i' n' n1' ls' => x_feet_I0 t p sh xs i' n' n1' ls' r_ ∧ lx ((p - i').toNat, 0, 0) ((p - i).toNat, 0, 0)) (fun r__ => r__ = r_) := by
  unfold x_feet_I0 at hI
  unfold x_feet_w0
  try unfold x_feet_I0
  obtain ⟨h0, h1, h2, h3, h4, h5, hr⟩ := hI
  have hok := Cf.ok_iff.1 hp0.ok
  simp only at hok
  have hlen : (ls.length : Int) ≤ p + 1 := by
    have := starts_len (c := ⟨t, p, sh⟩) (xs := xs)
    rw [← h5] at this
    simp only at this
    omega
  refine ⟨fun h => ?_, fun h => ?_⟩
  · simp only [decide_eq_true_eq] at h
    have hft := pc_in hp0 (g := i) (k := 1) ⟨h0, h⟩ (by omega)
    have e : (p - i).toNat = (p - (i + 1)).toNat + 1 := by omega
    have ei : (p : Int) - (((p - (i + 1)).toNat + 1 : Nat) : Int) = i := by omega
    rw [e] at hr
    simp only [feetF] at hr
    rw [ei] at hr
    have hmem : ∀ q : Nat, q < ls.length → 0 ≤ ls.getD q 0 ∧ ls.getD q 0 < p := fun q hq => starts_in (c := ⟨t, p, sh⟩) (xs := xs) _ (by rw [← h5]; exact getD_memA hq)
    have hw : ∀ x : Int, 0 ≤ x → x < p → IntKind.i64.wrap (IntKind.i64.wrap (x + (aInfo ⟨t, p, sh⟩ xs x).l) - 1) = x + (aInfo ⟨t, p, sh⟩ xs x).l - 1 := fun x a b => by
      have h7 := iGet_bd (cel xs (Cf.info ⟨t, p, sh⟩ x))
      have h8 : 0 ≤ (aInfo ⟨t, p, sh⟩ xs x).l ∧ (aInfo ⟨t, p, sh⟩ xs x).l ≤ 1024 := ⟨h7.2.2.1, h7.2.2.2.1⟩
      rw [w64 (n := x + (aInfo ⟨t, p, sh⟩ xs x).l) (by omega), w64 (by omega)]
    have hv : ∀ x : Int, 0 ≤ x → x < p → IntKind.u32.wrap (IntKind.i64.wrap (x + 1)) = nv (x + 1) := fun x a b => by rw [w64 (n := x + 1) (by omega), wrapu_nv]
    have hn1 : decide (n + 1 < (n1 : Int)) = decide (n.toNat + 1 < ls.length) := by rw [h4]; apply decide_eq_decide.2; omega
    have en : (n + 1).toNat = n.toNat + 1 := by omega
    rw [w64 (n := n + 1) (by omega), w64 (n := i + 1) (by omega), r07_Foot_eq, hn1, en]
    refine ⟨fun hh => (by simp only [decide_eq_true_eq] at hh; omega), fun _ => ⟨fun hc => ?_, fun hc => ?_⟩⟩
    · rw [hc, cond_true] at hr
      have hlt : n.toNat + 1 < ls.length := by simp only [Bool.and_eq_true, decide_eq_true_eq] at hc; exact hc.1
      have hq : 0 ≤ n + 1 ∧ n + 1 < (n1 : Int) := by omega
      have hm := hmem (n.toNat + 1) hlt
      refine ⟨hq, fun _ => ⟨hq, fun _ => ⟨hp0, fun _ => ⟨hm, fun _ => ⟨fun hcc => ⟨hq, fun _ => ⟨hft, fun _ => ⟨fun hz => ?_, fun hz => ?_⟩⟩⟩, fun hcc => ⟨hft, fun _ => ⟨fun hz => ?_, fun hz => ?_⟩⟩⟩⟩⟩⟩⟩
      · have hcc' : (i == ls.getD (n.toNat + 1) 0 + (aInfo ⟨t, p, sh⟩ xs (ls.getD (n.toNat + 1) 0)).l - 1) = true := by rw [← hw _ hm.1 hm.2]; exact hcc
        have hz' : (cel xs (Cf.foot ⟨t, p, sh⟩ i) != nv (ls.getD (n.toNat + 1) 0 + 1)) = true := by rw [← hv _ hm.1 hm.2]; exact hz
        rw [hcc', cond_true, hz', cond_true] at hr; exact hr
      · have hcc' : (i == ls.getD (n.toNat + 1) 0 + (aInfo ⟨t, p, sh⟩ xs (ls.getD (n.toNat + 1) 0)).l - 1) = true := by rw [← hw _ hm.1 hm.2]; exact hcc
        have hz' : (cel xs (Cf.foot ⟨t, p, sh⟩ i) != nv (ls.getD (n.toNat + 1) 0 + 1)) = false := by rw [← hv _ hm.1 hm.2]; exact hz
        rw [hcc', cond_true, hz', cond_false] at hr
        exact ⟨⟨by omega, by omega, by omega, by omega, h4, h5, by rw [en]; exact hr⟩, lxo_⟩
      · have hcc' : (i == ls.getD (n.toNat + 1) 0 + (aInfo ⟨t, p, sh⟩ xs (ls.getD (n.toNat + 1) 0)).l - 1) = false := by rw [← hw _ hm.1 hm.2]; exact hcc
        have hz' : (cel xs (Cf.foot ⟨t, p, sh⟩ i) != 0) = true := hz
        rw [hcc', cond_false, hz', cond_true] at hr; exact hr
      · have hcc' : (i == ls.getD (n.toNat + 1) 0 + (aInfo ⟨t, p, sh⟩ xs (ls.getD (n.toNat + 1) 0)).l - 1) = false := by rw [← hw _ hm.1 hm.2]; exact hcc
        have hz' : (cel xs (Cf.foot ⟨t, p, sh⟩ i) != 0) = false := hz
        rw [hcc', cond_false, hz', cond_false] at hr
        exact ⟨⟨by omega, by omega, by omega, by omega, h4, h5, by rw [en]; exact hr⟩, lxo_⟩
    · rw [hc, cond_false] at hr
      have hlt : n.toNat < ls.length := by omega
      have hq : 0 ≤ n ∧ n < (n1 : Int) := by omega
      have hm := hmem (n.toNat) hlt
      refine ⟨hq, fun _ => ⟨hq, fun _ => ⟨hp0, fun _ => ⟨hm, fun _ => ⟨fun hcc => ⟨hq, fun _ => ⟨hft, fun _ => ⟨fun hz => ?_, fun hz => ?_⟩⟩⟩, fun hcc => ⟨hft, fun _ => ⟨fun hz => ?_, fun hz => ?_⟩⟩⟩⟩⟩⟩⟩
      · have hcc' : (i == ls.getD (n.toNat) 0 + (aInfo ⟨t, p, sh⟩ xs (ls.getD (n.toNat) 0)).l - 1) = true := by rw [← hw _ hm.1 hm.2]; exact hcc
        have hz' : (cel xs (Cf.foot ⟨t, p, sh⟩ i) != nv (ls.getD (n.toNat) 0 + 1)) = true := by rw [← hv _ hm.1 hm.2]; exact hz
        rw [hcc', cond_true, hz', cond_true] at hr; exact hr
      · have hcc' : (i == ls.getD (n.toNat) 0 + (aInfo ⟨t, p, sh⟩ xs (ls.getD (n.toNat) 0)).l - 1) = true := by rw [← hw _ hm.1 hm.2]; exact hcc
        have hz' : (cel xs (Cf.foot ⟨t, p, sh⟩ i) != nv (ls.getD (n.toNat) 0 + 1)) = false := by rw [← hv _ hm.1 hm.2]; exact hz
        rw [hcc', cond_true, hz', cond_false] at hr
        exact ⟨⟨by omega, by omega, by omega, by omega, h4, h5, hr⟩, lxo_⟩
      · have hcc' : (i == ls.getD (n.toNat) 0 + (aInfo ⟨t, p, sh⟩ xs (ls.getD (n.toNat) 0)).l - 1) = false := by rw [← hw _ hm.1 hm.2]; exact hcc
        have hz' : (cel xs (Cf.foot ⟨t, p, sh⟩ i) != 0) = true := hz
        rw [hcc', cond_false, hz', cond_true] at hr; exact hr
      · have hcc' : (i == ls.getD (n.toNat) 0 + (aInfo ⟨t, p, sh⟩ xs (ls.getD (n.toNat) 0)).l - 1) = false := by rw [← hw _ hm.1 hm.2]; exact hcc
        have hz' : (cel xs (Cf.foot ⟨t, p, sh⟩ i) != 0) = false := hz
        rw [hcc', cond_false, hz', cond_false] at hr
        exact ⟨⟨by omega, by omega, by omega, by omega, h4, h5, hr⟩, lxo_⟩
  · simp only [decide_eq_false_iff_not] at h
    rw [show (p - i).toNat = 0 by omega] at hr
    exact hr
theorem x_feet_ok : EOk 82 e_x_feet :=
  ent_wp Dg T_r06_At_ok (I := [1643000000006, 1643000000005, 1643000000003, 1643000000001]) Tryz.func82 mix (B := bodyOf Tryz.f82) (by kernel_rfl) rfl (by kernel_rfl) 400
    fun p0 t p sh xs hb hp => have hl0 : xs.length ≤ 9223372036854775807 := hb.1.2.2.2.1; have hp0 : AGood ⟨t, p, sh⟩ xs := hp _ (.head _); have hp1 : (starts ⟨t, p, sh⟩ xs).2 = true := hp _ (.tail _ (.head _)); ⟨[x_feet_h0 p0 t p sh xs], fun j => List.getD [appC (Hd.kd (x_feet_h0 p0 t p sh xs)) (fun i' n' n1' ls' => x_feet_I0 t p sh xs i' n' n1' ls' (x_feet t p sh xs))] j (fun _ => False), fun j => List.getD [appC (Hd.kd (x_feet_h0 p0 t p sh xs)) (fun i' n' n1' ls' => ((p - i').toNat, 0, 0))] j (fun _ => (0, 0, 0)), by kernel_rfl, ⟨x_feet_w t p sh xs (fun i' n' n1' ls' => x_feet_I0 t p sh xs i' n' n1' ls' (x_feet t p sh xs)) (fun r__ => r__ = (x_feet t p sh xs)), fun _ _ _ => by kernel_rfl, x_feet_begin t p sh xs hp0 hp1 hl0 ⟩, ⟨fun i n n1 ls hI => ⟨x_feet_w0 t p sh xs i n n1 ls (fun i' n' n1' ls' => x_feet_I0 t p sh xs i' n' n1' ls' (x_feet t p sh xs) ∧ lx ((p - i').toNat, 0, 0) ((p - i).toNat, 0, 0)) (fun r__ => r__ = (x_feet t p sh xs)), fun _ _ _ => by kernel_rfl, x_feet_step0 t p sh xs hp0 hp1 hl0 i n n1 ls hI⟩, trivial⟩⟩
def T_x_feet : Tb := (82, e_x_feet) :: T_r06_At
theorem T_x_feet_ok : TOk T_x_feet := tc_ x_feet_ok T_r06_At_ok
end Go.Proofs.YtcbeifgnccbfbaaGreat
namespace Go.Sl
open Go.Proofs.YtcbeifgnccbfbaaGreat
structure Pt where
  k : Int
  a : Int
  s : Int
deriving DecidableEq
def pgB (sh : Int) : Int := 2 ^ sh.toNat
def szB (sh k : Int) : Int := pgB sh / kSlots k - pgB sh / kSlots k % 16
theorem kSlots_bd (k : Int) : 0 ≤ kSlots k ∧ kSlots k ≤ 32 := by
  by_cases h : 0 ≤ k ∧ k ≤ 8
  · rcases (by omega : k = 0 ∨ k = 1 ∨ k = 2 ∨ k = 3 ∨ k = 4 ∨ k = 5 ∨ k = 6 ∨ k = 7 ∨ k = 8) with rfl | rfl | rfl | rfl | rfl | rfl | rfl | rfl | rfl <;> decide
  · unfold kSlots
    by_cases h0 : 0 ≤ k
    · have : decide (0 ≤ k) = true := by simpa using h0
      rw [this, cond_true, List.getD_eq_getElem?_getD, List.getElem?_eq_none (by simp; omega)]; decide
    · have : decide (0 ≤ k) = false := by simpa using h0
      rw [this]; simp
theorem szB_all : ∀ a : Fin 11, ∀ k : Fin 9, r05_Size ((a.val + 10 : Nat) : Int) (k.val : Int) = szB ((a.val + 10 : Nat) : Int) (k.val : Int) ∧ 16 ≤ szB ((a.val + 10 : Nat) : Int) (k.val : Int) ∧ szB ((a.val + 10 : Nat) : Int) (k.val : Int) * kSlots (k.val : Int) ≤ pgB ((a.val + 10 : Nat) : Int) ∧ 1 ≤ kSlots (k.val : Int) ∧ 1024 ≤ pgB ((a.val + 10 : Nat) : Int) ∧ pgB ((a.val + 10 : Nat) : Int) ≤ 1048576 ∧ szB ((a.val + 10 : Nat) : Int) (k.val : Int) % 16 = 0 := by decide +kernel
theorem szB_ok {sh k : Int} (h : 10 ≤ sh ∧ sh ≤ 20) (hk : 0 ≤ k ∧ k ≤ 8) : r05_Size sh k = szB sh k ∧ 16 ≤ szB sh k ∧ szB sh k * kSlots k ≤ pgB sh ∧ 1 ≤ kSlots k ∧ 1024 ≤ pgB sh ∧ pgB sh ≤ 1048576 ∧ szB sh k % 16 = 0 := by
  have := szB_all ⟨(sh - 10).toNat, by omega⟩ ⟨k.toNat, by omega⟩
  have e1 : (((sh - 10).toNat + 10 : Nat) : Int) = sh := by omega
  have e2 : ((k.toNat : Nat) : Int) = k := by omega
  simp only [e1, e2] at this
  exact this
theorem Cf.right {c : Cf} (h : c.ok = true) : r04_Right c.t c.p c.s = true := by
  have := Cf.ok_iff.1 h
  simp only [r04_Right, Bool.and_eq_true, decide_eq_true_eq]; omega
theorem page_pgB {c : Cf} (h : c.ok = true) : r04_Page c.t c.p c.s = pgB c.s := by
  unfold r04_Page pgB; rw [Cf.right h]; rfl
theorem of_pgB {c : Cf} (h : c.ok = true) {g o : Int} (hg : 0 ≤ g ∧ g < c.p) (ho : 0 ≤ o ∧ o < pgB c.s) : (r06_Of c.t c.p c.s g o).1 = (g + 1) * pgB c.s + o ∧ (r06_Of c.t c.p c.s g o).2 = true := by
  have h1 := Cf.ok_iff.1 h
  have h2 := (szB_ok h1.2.2 (k := 0) (by omega)).2.2.2.2
  have e : (!r04_Right c.t c.p c.s || decide (g < (0 : Int)) || decide (g ≥ c.p) || decide (o < (0 : Int)) || decide (o ≥ r04_Page c.t c.p c.s)) = false := by
    rw [Cf.right h, page_pgB h]
    simp only [Bool.not_true, Bool.false_or, Bool.or_eq_false_iff, decide_eq_false_iff_not]
    omega
  unfold r06_Of
  rw [e, page_pgB h]
  have h3 : (g + 1) * pgB c.s ≤ 1024 * 1048576 := Int.mul_le_mul (by omega) (by omega) (by omega) (by omega)
  have h4 : 0 ≤ (g + 1) * pgB c.s := Int.mul_nonneg (by omega) (by omega)
  rw [cond_false, w64 (n := g + 1) (by omega), w64 (n := (g + 1) * pgB c.s) (by omega), w64 (by omega)]
  exact ⟨rfl, rfl⟩
theorem at_pgB {c : Cf} (h : c.ok = true) {k g j : Int} (hk : 0 ≤ k ∧ k ≤ 8) (hg : 0 ≤ g ∧ g < c.p) (hj : 0 ≤ j ∧ j < kSlots k) : (r06_At c.t c.p c.s k g j).1 = (g + 1) * pgB c.s + j * szB c.s k ∧ (r06_At c.t c.p c.s k g j).2 = true := by
  have h1 := Cf.ok_iff.1 h
  obtain ⟨e, e2, e3, e4, e5, e6, _⟩ := szB_ok h1.2.2 hk
  have e0 : (decide (j < (0 : Int)) || decide (j ≥ r05_Slots k)) = false := by
    rw [r05_Slots_eq]
    simp only [Bool.or_eq_false_iff, decide_eq_false_iff_not]; omega
  have f1 : 0 ≤ j * szB c.s k := Int.mul_nonneg hj.1 (by omega)
  have f2 : (j + 1) * szB c.s k ≤ kSlots k * szB c.s k := Int.mul_le_mul_of_nonneg_right (by omega) (by omega)
  have f3 : (j + 1) * szB c.s k = j * szB c.s k + szB c.s k := by rw [Int.add_mul, Int.one_mul]
  have f4 : kSlots k * szB c.s k = szB c.s k * kSlots k := Int.mul_comm _ _
  unfold r06_At
  rw [e0, e, cond_false, w64 (n := j * szB c.s k) (by omega)]
  obtain ⟨g1, g2⟩ := of_pgB h hg (o := j * szB c.s k) (by omega)
  exact ⟨g1, g2⟩
section
variable (c : Cf) (xs : List Int)
def slabKind (g j : Int) : Int := bif bitAt (cel xs (c.slots g)) j then 2 else bif bitAt (cel xs (c.taken g)) j then 4 else 3
def slabPt (g k j : Int) : Pt := ⟨slabKind c xs g j, (g + 1) * pgB c.s + j * szB c.s k, szB c.s k⟩
def slabF (g k : Int) : Nat → List Pt
  | 0 => []
  | n + 1 => slabF g k n ++ [slabPt c xs g k n]
theorem slabF_len (g k : Int) : ∀ n, (slabF c xs g k n).length = n
  | 0 => rfl
  | n + 1 => by rw [slabF, List.length_append, slabF_len g k n]; rfl
def slabRest (k : Int) : Int := pgB c.s - szB c.s k * kSlots k
def slabL (g k : Int) : List Pt := bif decide (0 < slabRest c k) then slabF c xs g k (kSlots k).toNat ++ [⟨5, (g + 1) * pgB c.s + szB c.s k * kSlots k, slabRest c k⟩] else slabF c xs g k (kSlots k).toNat
def partsOf (g : Int) : List Pt :=
  let i := aInfo c xs g
  bif i.k == 1 || i.k == 2 then [⟨i.k, (g + 1) * pgB c.s, i.l * pgB c.s⟩] else bif i.k == 3 then slabL c xs g i.c else []
theorem slabKind_of {g j : Int} {b1 b2 : Bool} (h1 : bitAt (cel xs (c.slots g)) j = b1) (h2 : bitAt (cel xs (c.taken g)) j = b2) : slabKind c xs g j = bif b1 then 2 else bif b2 then 4 else 3 := by unfold slabKind; rw [h1, h2]
def partsF : Nat → List Pt
  | 0 => []
  | n + 1 => partsF n ++ partsOf c xs n
theorem slabL_len (g k : Int) : (slabL c xs g k).length ≤ 33 := by
  have := (kSlots_bd k).2
  unfold slabL
  cases decide (0 < slabRest c k) with
  | true => simp only [cond_true, List.length_append, slabF_len, List.length_singleton]; omega
  | false => simp only [cond_false, slabF_len]; omega
theorem partsOf_len (g : Int) : (partsOf c xs g).length ≤ 33 := by
  unfold partsOf
  simp only
  cases (aInfo c xs g).k == 1 || (aInfo c xs g).k == 2 with
  | true => simp
  | false =>
    simp only [cond_false]
    cases (aInfo c xs g).k == 3 with
    | true => exact slabL_len c xs g _
    | false => simp
theorem partsF_len : ∀ n : Nat, (partsF c xs n).length ≤ 33 * n
  | 0 => Nat.le_refl _
  | n + 1 => by
    have h1 := partsF_len n
    have h2 := partsOf_len c xs n
    rw [partsF, List.length_append]; omega
theorem partsOf_one {g : Int} (h : ((aInfo c xs g).k == 1 || (aInfo c xs g).k == 2) = true) : partsOf c xs g = [⟨(aInfo c xs g).k, (g + 1) * pgB c.s, (aInfo c xs g).l * pgB c.s⟩] := by simp only [partsOf, h, cond_true]
theorem partsOf_slab {g : Int} (h : ((aInfo c xs g).k == 3) = true) : partsOf c xs g = slabL c xs g (aInfo c xs g).c := by
  have e : ((aInfo c xs g).k == 1 || (aInfo c xs g).k == 2) = false := by
    simp only [beq_iff_eq] at h; rw [h]; rfl
  simp only [partsOf, e, h, cond_true, cond_false]
theorem partsOf_none {g : Int} (h1 : ((aInfo c xs g).k == 1) = false) (h2 : ((aInfo c xs g).k == 2) = false) (h3 : ((aInfo c xs g).k == 3) = false) : partsOf c xs g = [] := by simp only [partsOf, h1, h2, h3, Bool.or_self, cond_false]
def partsL : List Pt := partsF c xs c.p.toNat
def blocksL : List Pt := (partsL c xs).filter fun x => x.k == 2
def rootsF (l : List Int) : Nat → Bool
  | 0 => true
  | k + 1 =>
    let a := cel xs (cRoot (8 - (k + 1 : Nat)))
    bif a != 0 && !l.contains a then false else rootsF l k
def rootsOk : Bool := rootsF xs ((blocksL c xs).map (·.a)) 8
def checkA : Int × Bool :=
  bif !c.ok || ((xs.length : Int) != c.cells) then (1, false) else
  bif !tiles c xs then (2, false) else
  bif !feet c xs then (3, false) else
  bif !apart c xs then (4, false) else
  bif !slotsOk c xs then (5, false) else
  bif !bins c xs then (6, false) else
  bif !racks c xs then (7, false) else
  bif !loose c xs then (8, false) else
  bif !counts c xs then (9, false) else
  bif !rootsOk c xs then (10, false) else (0, true)
def soundA : Bool := (checkA c xs).2
theorem blk_step (P : List Pt) {i : Nat} (h : i < P.length) : (P.take (i + 1)).filter (fun x => x.k == 2) = (P.take i).filter (fun x => x.k == 2) ++ bif (P.map (·.k)).getD i 0 == 2 then [⟨(P.map (·.k)).getD i 0, (P.map (·.a)).getD i 0, (P.map (·.s)).getD i 0⟩] else [] := by
  have e : ∀ f : Pt → Int, (P.map f).getD i 0 = f P[i] := fun f => by
    rw [List.getD_eq_getElem?_getD, List.getElem?_map, List.getElem?_eq_getElem h]; rfl
  rw [List.take_add_one, List.filter_append, e, e, e, List.getElem?_eq_getElem h]
  congr 1
theorem partsL_len : (partsL c xs).length ≤ 33 * c.p.toNat := partsF_len c xs _
theorem blocksL_len : (blocksL c xs).length ≤ 33 * c.p.toNat := Nat.le_trans (List.length_filter_le _ _) (partsL_len c xs)
def bdAll (xs : List Int) : Prop := ∀ v ∈ xs, bd32 v
theorem rootA_eq (k : Int) (h : bdAll xs) : bd32 (cel xs k) := by
  unfold cel
  rw [List.getD_eq_getElem?_getD]
  cases e : xs[k.toNat]? with
  | none => exact ⟨by decide, by decide⟩
  | some v => exact h v (List.mem_of_getElem? e)
def rootA (k : Int) : Int := cel xs (cRoot k)
def stateA : List Int × List Int × Int × Int × Int × Int × Int × Int × Int × Int × Bool :=
  bif soundA c xs then ((blocksL c xs).map (·.a), (blocksL c xs).map (·.s), rootA xs 0, rootA xs 1, rootA xs 2, rootA xs 3, rootA xs 4, rootA xs 5, rootA xs 6, rootA xs 7, true) else ([], [], 0, 0, 0, 0, 0, 0, 0, 0, false)
def soundB : Bool := c.ok && (xs.length == c.cells) && tiles c xs && feet c xs && apart c xs && slotsOk c xs && bins c xs && racks c xs && loose c xs && counts c xs && rootsOk c xs
theorem soundA_eq : soundA c xs = soundB c xs := by
  unfold soundA checkA soundB bne
  cases c.ok <;> cases (xs.length : Int) == c.cells <;> cases tiles c xs <;> cases feet c xs <;> cases apart c xs <;> cases slotsOk c xs <;> cases bins c xs <;> cases racks c xs <;> cases loose c xs <;> cases counts c xs <;> cases rootsOk c xs <;> rfl
end
end Go.Sl
namespace Go.Proofs.YtcbeifgnccbfbaaGreat
open Go.Sl
def x_slab (t : Int) (p : Int) (sh : Int) (xs : List Int) (g : Int) (k : Int) : List Int × List Int × List Int := ((slabL ⟨t, p, sh⟩ xs g k).map (·.k), (slabL ⟨t, p, sh⟩ xs g k).map (·.a), (slabL ⟨t, p, sh⟩ xs g k).map (·.s))
abbrev c_x_slab : Ct Sg := ⟨none, false, [.agg [.i .i64, .i .i64, .i .i64, .ro [some .u32]], .i .i64, .i .i64], .new 105 [some .i64, some .i64, some .i64]⟩
def e_x_slab : Entry Sg := entC c_x_slab x_slab (fun t p sh xs g k => [AGood ⟨t, p, sh⟩ xs, 0 ≤ g ∧ g < p, 0 ≤ k ∧ k ≤ 8])
def x_slab_w (t : Int) (p : Int) (sh : Int) (xs : List Int) (g : Int) (k : Int) (Q0 : Int → Nat → List Int → List Int → List Int → Prop) (R_ : List Int × List Int × List Int → Prop) : Prop := (Q0 (0) (0) ([]) ([]) ([]))
def x_slab_w0 (t : Int) (p : Int) (sh : Int) (xs : List Int) (g : Int) (k : Int) (s : Int) (n1 : Nat) (ks : List Int) (zs : List Int) (ss : List Int) (Q0 : Int → Nat → List Int → List Int → List Int → Prop) (R_ : List Int × List Int × List Int → Prop) : Prop := (bw_ (decide (s < r05_Slots k)) (aw_ (AGood { t := t, p := p, s := sh } xs) (aw_ (0 ≤ g ∧ g < p) (bw_ (r01_Bit (x_Taken t p sh xs g) s) (aw_ (AGood { t := t, p := p, s := sh } xs) (aw_ (0 ≤ g ∧ g < p) (bw_ (r01_Bit (x_Slots t p sh xs g) s) (aw_ ((n1 + 1) * 24 ≤ 140737488355328) (Q0 (IntKind.wrap IntKind.i64 (s + 1)) (n1 + 1) (ks ++ [2]) (zs ++ [Prod.fst (r06_At t p sh k g s)]) (ss ++ [r05_Size sh k]))) (aw_ ((n1 + 1) * 24 ≤ 140737488355328) (Q0 (IntKind.wrap IntKind.i64 (s + 1)) (n1 + 1) (ks ++ [4]) (zs ++ [Prod.fst (r06_At t p sh k g s)]) (ss ++ [r05_Size sh k])))))) (aw_ (AGood { t := t, p := p, s := sh } xs) (aw_ (0 ≤ g ∧ g < p) (bw_ (r01_Bit (x_Slots t p sh xs g) s) (aw_ ((n1 + 1) * 24 ≤ 140737488355328) (Q0 (IntKind.wrap IntKind.i64 (s + 1)) (n1 + 1) (ks ++ [2]) (zs ++ [Prod.fst (r06_At t p sh k g s)]) (ss ++ [r05_Size sh k]))) (aw_ ((n1 + 1) * 24 ≤ 140737488355328) (Q0 (IntKind.wrap IntKind.i64 (s + 1)) (n1 + 1) (ks ++ [3]) (zs ++ [Prod.fst (r06_At t p sh k g s)]) (ss ++ [r05_Size sh k]))))))))) (bw_ (decide (IntKind.wrap IntKind.i64 (r04_Page t p sh - IntKind.wrap IntKind.i64 (r05_Size sh k * r05_Slots k)) > 0)) (aw_ ((n1 + 1) * 24 ≤ 140737488355328) (R_ ((ks ++ [5], zs ++ [Prod.fst (r06_Of t p sh g (IntKind.wrap IntKind.i64 (r04_Page t p sh - IntKind.wrap IntKind.i64 (r04_Page t p sh - IntKind.wrap IntKind.i64 (r05_Size sh k * r05_Slots k)))))], ss ++ [IntKind.wrap IntKind.i64 (r04_Page t p sh - IntKind.wrap IntKind.i64 (r05_Size sh k * r05_Slots k))])))) (R_ ((ks, zs, ss)))))
def x_slab_I0 (t : Int) (p : Int) (sh : Int) (xs : List Int) (g : Int) (k : Int) (s : Int) (n1 : Nat) (ks : List Int) (zs : List Int) (ss : List Int) (r_ : List Int × List Int × List Int) : Prop := 0 ≤ s ∧ s ≤ kSlots k ∧ n1 = ks.length ∧ ks = (slabF ⟨t, p, sh⟩ xs g k s.toNat).map (·.k) ∧ zs = (slabF ⟨t, p, sh⟩ xs g k s.toNat).map (·.a) ∧ ss = (slabF ⟨t, p, sh⟩ xs g k s.toNat).map (·.s) ∧ r_ = x_slab t p sh xs g k
abbrev x_slab_h0 (p0 : Addr) (t : Int) (p : Int) (sh : Int) (xs : List Int) (g : Int) (k : Int) : Hd Sg := ⟨none, [0,1,0,1,1,1], [.blk 0, .code [1,1,1,1]], [9, 8, 7, 3, 1, 2], [.i .i64, .ic .i64 (r05_Size sh k), .own 105 [some .i64, some .i64, some .i64], .box 47 [.ic .i64 (t), .ic .i64 (p), .ic .i64 (sh), .roc [.ints .u32 (xs)]], .ic .i64 (g), .ic .i64 (k)]⟩
theorem x_slab_begin (t : Int) (p : Int) (sh : Int) (xs : List Int) (g : Int) (k : Int) (hp0 : AGood ⟨t, p, sh⟩ xs) (hp1 : 0 ≤ g ∧ g < p) (hp2 : 0 ≤ k ∧ k ≤ 8) (hl0 : xs.length ≤ 9223372036854775807) : x_slab_w t p sh xs g k (fun s' n1' ks' zs' ss' => x_slab_I0 t p sh xs g k s' n1' ks' zs' ss' (x_slab t p sh xs g k)) (fun r__ => r__ = (x_slab t p sh xs g k)) := by
  unfold x_slab_w
  try unfold x_slab_I0
  exact ⟨by omega, (kSlots_bd k).1, rfl, rfl, rfl, rfl, rfl⟩
theorem x_slab_step0 (t : Int) (p : Int) (sh : Int) (xs : List Int) (g : Int) (k : Int) (hp0 : AGood ⟨t, p, sh⟩ xs) (hp1 : 0 ≤ g ∧ g < p) (hp2 : 0 ≤ k ∧ k ≤ 8) (hl0 : xs.length ≤ 9223372036854775807) (s : Int) (n1 : Nat) (ks : List Int) (zs : List Int) (ss : List Int) {r_ : List Int × List Int × List Int} (hI : x_slab_I0 t p sh xs g k s n1 ks zs ss r_) : x_slab_w0 t p sh xs g k s n1 ks zs ss (fun s' n1' ks' zs' ss' => x_slab_I0 t p sh xs g k s' n1' ks' zs' ss' r_ ∧ lx ((kSlots k - s').toNat, 0, 0) ((kSlots k - s).toNat, 0, 0)) (fun r__ => r__ = r_) := by
  unfold x_slab_I0 at hI
  unfold x_slab_w0
  try unfold x_slab_I0
  obtain ⟨h0, h1, h2, h3, h4, h5, hr⟩ := hI
  have hok := Cf.ok_iff.1 hp0.ok
  simp only at hok
  have hkb := kSlots_bd k
  obtain ⟨s1, s2, s3, s4, s5, s6, _⟩ := szB_ok hok.2.2 hp2
  have hlen : ks.length = s.toNat := by rw [h3, List.length_map, slabF_len]
  refine ⟨fun h => ?_, fun h => ?_⟩
  · rw [r05_Slots_eq] at h
    simp only [decide_eq_true_eq] at h
    have hb1 : r01_Bit (x_Taken t p sh xs g) s = bitAt (cel xs (Cf.taken ⟨t, p, sh⟩ g)) s := bit_eq (cel_bd hp0 _) s
    have hb2 : r01_Bit (x_Slots t p sh xs g) s = bitAt (cel xs (Cf.slots ⟨t, p, sh⟩ g)) s := bit_eq (cel_bd hp0 _) s
    obtain ⟨ha, _⟩ := at_pgB hp0.ok (k := k) (g := g) (j := s) hp2 hp1 ⟨h0, h⟩
    simp only at ha
    rw [w64 (n := s + 1) (by omega), hb1, hb2, ha, s1]
    have es : (s + 1).toNat = s.toNat + 1 := by omega
    have ei : ((s.toNat : Nat) : Int) = s := by omega
    have hst0 : slabF ⟨t, p, sh⟩ xs g k (s + 1).toNat = slabF ⟨t, p, sh⟩ xs g k s.toNat ++ [slabPt ⟨t, p, sh⟩ xs g k s] := by rw [es, slabF, ei]
    have fin : ∀ kd, kd = slabKind ⟨t, p, sh⟩ xs g s → (n1 + 1) * 24 ≤ 140737488355328 ∧ ((0 ≤ s + 1 ∧ s + 1 ≤ kSlots k ∧ n1 + 1 = (ks ++ [kd]).length ∧ ks ++ [kd] = (slabF ⟨t, p, sh⟩ xs g k (s + 1).toNat).map (·.k) ∧ zs ++ [(g + 1) * pgB sh + s * szB sh k] = (slabF ⟨t, p, sh⟩ xs g k (s + 1).toNat).map (·.a) ∧ ss ++ [szB sh k] = (slabF ⟨t, p, sh⟩ xs g k (s + 1).toNat).map (·.s) ∧ r_ = x_slab t p sh xs g k) ∧ lx ((kSlots k - (s + 1)).toNat, 0, 0) ((kSlots k - s).toNat, 0, 0)) := by
      rintro kd rfl
      refine ⟨by omega, ⟨by omega, by omega, by simp [h2], ?_, ?_, ?_, hr⟩, lxo_⟩ <;> rw [hst0, List.map_append]
      · rw [← h3]; rfl
      · rw [← h4]; rfl
      · rw [← h5]; rfl
    refine ⟨hp0, fun _ => ⟨hp1, fun _ => ⟨fun c1 => ⟨hp0, fun _ => ⟨hp1, fun _ => ⟨fun c2 => ?_, fun c2 => ?_⟩⟩⟩, fun c1 => ⟨hp0, fun _ => ⟨hp1, fun _ => ⟨fun c2 => ?_, fun c2 => ?_⟩⟩⟩⟩⟩⟩
    · obtain ⟨a, b⟩ := fin 2 (slabKind_of _ _ c2 c1).symm; exact ⟨a, fun _ => b⟩
    · obtain ⟨a, b⟩ := fin 4 (slabKind_of _ _ c2 c1).symm; exact ⟨a, fun _ => b⟩
    · obtain ⟨a, b⟩ := fin 2 (slabKind_of _ _ c2 c1).symm; exact ⟨a, fun _ => b⟩
    · obtain ⟨a, b⟩ := fin 3 (slabKind_of _ _ c2 c1).symm; exact ⟨a, fun _ => b⟩
  · rw [r05_Slots_eq] at h
    simp only [decide_eq_false_iff_not] at h
    have e : s.toNat = (kSlots k).toNat := by omega
    have hpg : r04_Page t p sh = pgB sh := page_pgB hp0.ok
    have hz : 0 ≤ szB sh k * kSlots k := Int.mul_nonneg (by omega) (by omega)
    have w1 : IntKind.i64.wrap (szB sh k * kSlots k) = szB sh k * kSlots k := w64 (by omega)
    have w2 : IntKind.i64.wrap (pgB sh - szB sh k * kSlots k) = slabRest ⟨t, p, sh⟩ k := w64 (by omega)
    have hre : slabRest ⟨t, p, sh⟩ k = pgB sh - szB sh k * kSlots k := rfl
    rw [hpg, s1, r05_Slots_eq, w1, w2]
    have w3 : IntKind.i64.wrap (pgB sh - slabRest ⟨t, p, sh⟩ k) = szB sh k * kSlots k := by rw [hre, w64 (by omega)]; omega
    rw [w3]
    rw [e] at h3 h4 h5
    refine ⟨fun hc => ⟨by omega, fun _ => ?_⟩, fun hc => ?_⟩
    · obtain ⟨ha, _⟩ := of_pgB hp0.ok (g := g) (o := szB sh k * kSlots k) hp1 (by simp only [gt_iff_lt, decide_eq_true_eq] at hc; show 0 ≤ _ ∧ _ < pgB sh; omega)
      simp only at ha
      rw [ha]
      show _ = _
      have hc' : decide (0 < slabRest ⟨t, p, sh⟩ k) = true := hc
      rw [hr, x_slab, slabL, hc', cond_true, h3, h4, h5]
      simp only [List.map_append]; rfl
    · have hc' : decide (0 < slabRest ⟨t, p, sh⟩ k) = false := hc
      show _ = _
      rw [hr, x_slab, slabL, hc', cond_false, h3, h4, h5]
theorem x_slab_ok : EOk 146 e_x_slab :=
  ent_wp Dg T_x_feet_ok (I := [1643000000009, 1643000000008, 1643000000007, 1643000000003, 1643000000001, 1643000000002]) Tryz.func146 mix (B := bodyOf Tryz.f146) (by kernel_rfl) rfl (by kernel_rfl) 400
    fun p0 t p sh xs g k hb hp => have hl0 : xs.length ≤ 9223372036854775807 := hb.1.2.2.2.1; have hp0 : AGood ⟨t, p, sh⟩ xs := hp _ (.head _); have hp1 : 0 ≤ g ∧ g < p := hp _ (.tail _ (.head _)); have hp2 : 0 ≤ k ∧ k ≤ 8 := hp _ (.tail _ (.tail _ (.head _))); ⟨[x_slab_h0 p0 t p sh xs g k], fun j => List.getD [appC (Hd.kd (x_slab_h0 p0 t p sh xs g k)) (fun s' n1' ks' zs' ss' => x_slab_I0 t p sh xs g k s' n1' ks' zs' ss' (x_slab t p sh xs g k))] j (fun _ => False), fun j => List.getD [appC (Hd.kd (x_slab_h0 p0 t p sh xs g k)) (fun s' n1' ks' zs' ss' => ((kSlots k - s').toNat, 0, 0))] j (fun _ => (0, 0, 0)), by kernel_rfl, ⟨x_slab_w t p sh xs g k (fun s' n1' ks' zs' ss' => x_slab_I0 t p sh xs g k s' n1' ks' zs' ss' (x_slab t p sh xs g k)) (fun r__ => r__ = (x_slab t p sh xs g k)), fun _ _ _ => by kernel_rfl, x_slab_begin t p sh xs g k hp0 hp1 hp2 hl0 ⟩, ⟨fun s n1 ks zs ss hI => ⟨x_slab_w0 t p sh xs g k s n1 ks zs ss (fun s' n1' ks' zs' ss' => x_slab_I0 t p sh xs g k s' n1' ks' zs' ss' (x_slab t p sh xs g k) ∧ lx ((kSlots k - s').toNat, 0, 0) ((kSlots k - s).toNat, 0, 0)) (fun r__ => r__ = (x_slab t p sh xs g k)), fun _ _ _ => by kernel_rfl, x_slab_step0 t p sh xs g k hp0 hp1 hp2 hl0 s n1 ks zs ss hI⟩, trivial⟩⟩
def T_x_slab : Tb := (146, e_x_slab) :: T_x_feet
theorem T_x_slab_ok : TOk T_x_slab := tc_ x_slab_ok T_x_feet_ok
def x_parts (t : Int) (p : Int) (sh : Int) (xs : List Int) : List Int × List Int × List Int := ((partsL ⟨t, p, sh⟩ xs).map (·.k), (partsL ⟨t, p, sh⟩ xs).map (·.a), (partsL ⟨t, p, sh⟩ xs).map (·.s))
abbrev c_x_parts : Ct Sg := ⟨none, false, [.agg [.i .i64, .i .i64, .i .i64, .ro [some .u32]]], .new 105 [some .i64, some .i64, some .i64]⟩
def e_x_parts : Entry Sg := entC c_x_parts x_parts (fun t p sh xs => [AGood ⟨t, p, sh⟩ xs])
def x_parts_w (t : Int) (p : Int) (sh : Int) (xs : List Int) (Q0 : Int → Nat → List Int → List Int → List Int → Prop) (R_ : List Int × List Int × List Int → Prop) : Prop := (Q0 (0) (0) ([]) ([]) ([]))
def x_parts_w0 (t : Int) (p : Int) (sh : Int) (xs : List Int) (i : Int) (n1 : Nat) (ks : List Int) (zs : List Int) (ss : List Int) (Q0 : Int → Nat → List Int → List Int → List Int → Prop) (R_ : List Int × List Int × List Int → Prop) : Prop := (bw_ (decide (i < p)) (aw_ (AGood { t := t, p := p, s := sh } xs) (aw_ (0 ≤ i ∧ i < p) (bw_ (Prod.fst (x_Info t p sh xs i) == 1) (bw_ (Prod.fst (x_Info t p sh xs i) == 1) (tw_ (aw_ ((n1 + 1) * 24 ≤ 140737488355328) (Q0 (IntKind.wrap IntKind.i64 (i + 1)) (n1 + 1) (ks ++ [Prod.fst (If.k (aInfo { t := t, p := p, s := sh } xs i), If.l (aInfo { t := t, p := p, s := sh } xs i), If.c (aInfo { t := t, p := p, s := sh } xs i))]) (zs ++ [Prod.fst (r06_Of t p sh i 0)]) (ss ++ [IntKind.wrap IntKind.i64 (If.l (aInfo { t := t, p := p, s := sh } xs i) * r04_Page t p sh)])))) (bw_ (Prod.fst (x_Info t p sh xs i) == 3) (∀ r7 : List Int × List Int × List Int, r7 = (x_slab t p sh xs i (If.c (aInfo { t := t, p := p, s := sh } xs i))) → (aw_ (AGood { t := t, p := p, s := sh } xs) (aw_ (0 ≤ i ∧ i < p) (aw_ (0 ≤ Prod.snd (If.l (aInfo { t := t, p := p, s := sh } xs i), If.c (aInfo { t := t, p := p, s := sh } xs i)) ∧ Prod.snd (If.l (aInfo { t := t, p := p, s := sh } xs i), If.c (aInfo { t := t, p := p, s := sh } xs i)) ≤ 8) (aw_ ((n1 + List.length r7.1) * 24 ≤ 140737488355328) (Q0 (IntKind.wrap IntKind.i64 (i + 1)) (n1 + List.length r7.1) (ks ++ r7.1) (zs ++ r7.2.1) (ss ++ r7.2.2))))))) (Q0 (IntKind.wrap IntKind.i64 (i + 1)) (n1) (ks) (zs) (ss)))) (bw_ (Prod.fst (x_Info t p sh xs i) == 2) (tw_ (aw_ ((n1 + 1) * 24 ≤ 140737488355328) (Q0 (IntKind.wrap IntKind.i64 (i + 1)) (n1 + 1) (ks ++ [Prod.fst (If.k (aInfo { t := t, p := p, s := sh } xs i), If.l (aInfo { t := t, p := p, s := sh } xs i), If.c (aInfo { t := t, p := p, s := sh } xs i))]) (zs ++ [Prod.fst (r06_Of t p sh i 0)]) (ss ++ [IntKind.wrap IntKind.i64 (If.l (aInfo { t := t, p := p, s := sh } xs i) * r04_Page t p sh)])))) (bw_ (Prod.fst (x_Info t p sh xs i) == 3) (∀ r7 : List Int × List Int × List Int, r7 = (x_slab t p sh xs i (If.c (aInfo { t := t, p := p, s := sh } xs i))) → (aw_ (AGood { t := t, p := p, s := sh } xs) (aw_ (0 ≤ i ∧ i < p) (aw_ (0 ≤ Prod.snd (If.l (aInfo { t := t, p := p, s := sh } xs i), If.c (aInfo { t := t, p := p, s := sh } xs i)) ∧ Prod.snd (If.l (aInfo { t := t, p := p, s := sh } xs i), If.c (aInfo { t := t, p := p, s := sh } xs i)) ≤ 8) (aw_ ((n1 + List.length r7.1) * 24 ≤ 140737488355328) (Q0 (IntKind.wrap IntKind.i64 (i + 1)) (n1 + List.length r7.1) (ks ++ r7.1) (zs ++ r7.2.1) (ss ++ r7.2.2))))))) (Q0 (IntKind.wrap IntKind.i64 (i + 1)) (n1) (ks) (zs) (ss))))))) (R_ ((ks, zs, ss))))
def x_parts_I0 (t : Int) (p : Int) (sh : Int) (xs : List Int) (i : Int) (n1 : Nat) (ks : List Int) (zs : List Int) (ss : List Int) (r_ : List Int × List Int × List Int) : Prop := 0 ≤ i ∧ i ≤ p ∧ n1 = ks.length ∧ ks = (partsF ⟨t, p, sh⟩ xs i.toNat).map (·.k) ∧ zs = (partsF ⟨t, p, sh⟩ xs i.toNat).map (·.a) ∧ ss = (partsF ⟨t, p, sh⟩ xs i.toNat).map (·.s) ∧ r_ = x_parts t p sh xs
abbrev x_parts_h0 (p0 : Addr) (t : Int) (p : Int) (sh : Int) (xs : List Int) : Hd Sg := ⟨none, [0,1,0,1,1], [.blk 0, .code [1,1,1]], [4, 3, 1], [.i .i64, .own 105 [some .i64, some .i64, some .i64], .box 47 [.ic .i64 (t), .ic .i64 (p), .ic .i64 (sh), .roc [.ints .u32 (xs)]]]⟩
theorem x_parts_begin (t : Int) (p : Int) (sh : Int) (xs : List Int) (hp0 : AGood ⟨t, p, sh⟩ xs) (hl0 : xs.length ≤ 9223372036854775807) : x_parts_w t p sh xs (fun i' n1' ks' zs' ss' => x_parts_I0 t p sh xs i' n1' ks' zs' ss' (x_parts t p sh xs)) (fun r__ => r__ = (x_parts t p sh xs)) := by
  unfold x_parts_w
  try unfold x_parts_I0
  have hok := Cf.ok_iff.1 hp0.ok
  simp only at hok
  exact ⟨by omega, by omega, rfl, rfl, rfl, rfl, rfl⟩
theorem x_parts_step0 (t : Int) (p : Int) (sh : Int) (xs : List Int) (hp0 : AGood ⟨t, p, sh⟩ xs) (hl0 : xs.length ≤ 9223372036854775807) (i : Int) (n1 : Nat) (ks : List Int) (zs : List Int) (ss : List Int) {r_ : List Int × List Int × List Int} (hI : x_parts_I0 t p sh xs i n1 ks zs ss r_) : x_parts_w0 t p sh xs i n1 ks zs ss (fun i' n1' ks' zs' ss' => x_parts_I0 t p sh xs i' n1' ks' zs' ss' r_ ∧ lx ((p - i').toNat, 0, 0) ((p - i).toNat, 0, 0)) (fun r__ => r__ = r_) := by
  unfold x_parts_I0 at hI
  unfold x_parts_w0
  try unfold x_parts_I0
  obtain ⟨h0, h1, h2, h3, h4, h5, hr⟩ := hI
  have hok := Cf.ok_iff.1 hp0.ok
  simp only at hok
  have hlen : ks.length ≤ 33 * i.toNat := by rw [h3, List.length_map]; exact partsF_len _ _ _
  refine ⟨fun h => ?_, fun h => ?_⟩
  · simp only [decide_eq_true_eq] at h
    have hg : 0 ≤ i ∧ i < p := ⟨h0, h⟩
    have hbd := iGet_bd (cel xs (Cf.info ⟨t, p, sh⟩ i))
    have hb1 : 0 ≤ (aInfo ⟨t, p, sh⟩ xs i).l ∧ (aInfo ⟨t, p, sh⟩ xs i).l ≤ 1024 := ⟨hbd.2.2.1, hbd.2.2.2.1⟩
    have hb2 : 0 ≤ (aInfo ⟨t, p, sh⟩ xs i).c ∧ (aInfo ⟨t, p, sh⟩ xs i).c ≤ 8 := ⟨hbd.2.2.2.2.1, hbd.2.2.2.2.2⟩
    have hpb := (szB_ok hok.2.2 (k := 0) (by omega)).2.2.2.2
    obtain ⟨ha, _⟩ := of_pgB hp0.ok (g := i) (o := 0) hg (by show 0 ≤ 0 ∧ 0 < pgB sh; omega)
    simp only [Int.add_zero] at ha
    have hpg : r04_Page t p sh = pgB sh := page_pgB hp0.ok
    have hm1 : 0 ≤ (aInfo ⟨t, p, sh⟩ xs i).l * pgB sh := Int.mul_nonneg hb1.1 (by omega)
    have hm2 : (aInfo ⟨t, p, sh⟩ xs i).l * pgB sh ≤ 1024 * 1048576 := Int.mul_le_mul hb1.2 hpb.2.1 (by omega) (by omega)
    have hst : partsF ⟨t, p, sh⟩ xs (i + 1).toNat = partsF ⟨t, p, sh⟩ xs i.toNat ++ partsOf ⟨t, p, sh⟩ xs i := by
      rw [show (i + 1).toNat = i.toNat + 1 by omega, partsF, show ((i.toNat : Nat) : Int) = i by omega]
    have fin : ∀ (L : List Pt), partsOf ⟨t, p, sh⟩ xs i = L → ∀ (n1' : Nat) (ks' zs' ss' : List Int), n1' = n1 + L.length → ks' = ks ++ L.map (·.k) → zs' = zs ++ L.map (·.a) → ss' = ss ++ L.map (·.s) →
        (0 ≤ i + 1 ∧ i + 1 ≤ p ∧ n1' = ks'.length ∧ ks' = (partsF ⟨t, p, sh⟩ xs (i + 1).toNat).map (·.k) ∧ zs' = (partsF ⟨t, p, sh⟩ xs (i + 1).toNat).map (·.a) ∧ ss' = (partsF ⟨t, p, sh⟩ xs (i + 1).toNat).map (·.s) ∧ r_ = x_parts t p sh xs) ∧ lx ((p - (i + 1)).toNat, 0, 0) ((p - i).toNat, 0, 0) := by
      intro L hL n1' ks' zs' ss' e1 e2 e3 e4
      rw [hst, hL, List.map_append, List.map_append, List.map_append, ← h3, ← h4, ← h5]
      exact ⟨⟨by omega, by omega, by rw [e1, e2, List.length_append, List.length_map, h2], e2, e3, e4, hr⟩, lxo_⟩
    simp only [x_Info]
    rw [w64 (n := i + 1) (by omega), ha, hpg, w64 (n := (aInfo ⟨t, p, sh⟩ xs i).l * pgB sh) (by omega)]
    refine ⟨hp0, fun _ => ⟨hg, fun _ => ?_⟩⟩
    have hsl := slabL_len ⟨t, p, sh⟩ xs i (aInfo ⟨t, p, sh⟩ xs i).c
    have hl2 : (x_slab t p sh xs i (aInfo ⟨t, p, sh⟩ xs i).c).1.length = (slabL ⟨t, p, sh⟩ xs i (aInfo ⟨t, p, sh⟩ xs i).c).length := by simp [x_slab]
    have f1 : ∀ h : ((aInfo ⟨t, p, sh⟩ xs i).k == 1 || (aInfo ⟨t, p, sh⟩ xs i).k == 2) = true, _ := fun h => fin _ (partsOf_one _ _ h) _ _ _ _ rfl rfl rfl rfl
    have f3 : ∀ h : ((aInfo ⟨t, p, sh⟩ xs i).k == 3) = true, _ := fun h => fin _ (partsOf_slab _ _ h) _ _ _ _ rfl rfl rfl rfl
    rw [← hl2] at f3
    have f0 := fun h1 h2 h3 => fin _ (partsOf_none ⟨t, p, sh⟩ xs (g := i) h1 h2 h3) n1 ks zs ss (by simp) (by simp) (by simp) (by simp)
    cases k1 : (aInfo ⟨t, p, sh⟩ xs i).k == 1 <;> cases k2 : (aInfo ⟨t, p, sh⟩ xs i).k == 2 <;> cases k3 : (aInfo ⟨t, p, sh⟩ xs i).k == 3 <;> simp only [bw_, aw_, true_implies, false_implies, Bool.true_eq_false, Bool.false_eq_true, reduceCtorEq, and_true, true_and, and_self] <;> first
      | exact f0 k1 k2 k3
      | exact ⟨by omega, fun _ => f1 (by rw [k1, k2]; rfl)⟩
      | (refine fun r hr => ?_; subst hr; exact ⟨hp0, fun _ => ⟨hg, fun _ => ⟨hb2, fun _ => ⟨by omega, fun _ => f3 k3⟩⟩⟩⟩)
      | fail
  · simp only [decide_eq_false_iff_not] at h
    have e : i.toNat = p.toNat := by omega
    show _ = _
    rw [hr, x_parts, partsL, h3, h4, h5, e]
theorem x_parts_ok : EOk 102 e_x_parts :=
  ent_wp Dg T_x_slab_ok (I := [411000000004, 411000000003, 411000000001]) Tryz.func102 mix (B := bodyOf Tryz.f102) (by kernel_rfl) rfl (by kernel_rfl) 400
    fun p0 t p sh xs hb hp => have hl0 : xs.length ≤ 9223372036854775807 := hb.1.2.2.2.1; have hp0 : AGood ⟨t, p, sh⟩ xs := hp _ (.head _); ⟨[x_parts_h0 p0 t p sh xs], fun j => List.getD [appC (Hd.kd (x_parts_h0 p0 t p sh xs)) (fun i' n1' ks' zs' ss' => x_parts_I0 t p sh xs i' n1' ks' zs' ss' (x_parts t p sh xs))] j (fun _ => False), fun j => List.getD [appC (Hd.kd (x_parts_h0 p0 t p sh xs)) (fun i' n1' ks' zs' ss' => ((p - i').toNat, 0, 0))] j (fun _ => (0, 0, 0)), by kernel_rfl, ⟨x_parts_w t p sh xs (fun i' n1' ks' zs' ss' => x_parts_I0 t p sh xs i' n1' ks' zs' ss' (x_parts t p sh xs)) (fun r__ => r__ = (x_parts t p sh xs)), fun _ _ _ => by kernel_rfl, x_parts_begin t p sh xs hp0 hl0 ⟩, ⟨fun i n1 ks zs ss hI => ⟨x_parts_w0 t p sh xs i n1 ks zs ss (fun i' n1' ks' zs' ss' => x_parts_I0 t p sh xs i' n1' ks' zs' ss' (x_parts t p sh xs) ∧ lx ((p - i').toNat, 0, 0) ((p - i).toNat, 0, 0)) (fun r__ => r__ = (x_parts t p sh xs)), fun _ _ _ => by kernel_rfl, x_parts_step0 t p sh xs hp0 hl0 i n1 ks zs ss hI⟩, trivial⟩⟩
def T_x_parts : Tb := (102, e_x_parts) :: T_x_slab
theorem T_x_parts_ok : TOk T_x_parts := tc_ x_parts_ok T_x_slab_ok
end Go.Proofs.YtcbeifgnccbfbaaGreat
namespace Go.Proofs.YtcbeifgnccbfbaaGreat
open Go.Sl
def x_blocks (t : Int) (p : Int) (sh : Int) (xs : List Int) : List Int × List Int := ((blocksL ⟨t, p, sh⟩ xs).map (·.a), (blocksL ⟨t, p, sh⟩ xs).map (·.s))
abbrev c_x_blocks : Ct Sg := ⟨none, false, [.agg [.i .i64, .i .i64, .i .i64, .ro [some .u32]]], .new 71 [some .i64, some .i64]⟩
def e_x_blocks : Entry Sg := entC c_x_blocks x_blocks (fun t p sh xs => [AGood ⟨t, p, sh⟩ xs])
def x_blocks_w (t : Int) (p : Int) (sh : Int) (xs : List Int) (Q0 : Int → Nat → List Int → List Int → List Int → Nat → List Int → List Int → Prop) (R_ : List Int × List Int → Prop) : Prop := (∀ r2 : List Int × List Int × List Int, r2 = (x_parts t p sh xs) → (aw_ (AGood { t := t, p := p, s := sh } xs) (Q0 (0) (List.length r2.1) r2.1 r2.2.1 r2.2.2 (0) ([]) ([]))))
def x_blocks_w0 (t : Int) (p : Int) (sh : Int) (xs : List Int) (i : Int) (n1 : Nat) (ks : List Int) (zs : List Int) (ss : List Int) (n2 : Nat) (as_ : List Int) (bs : List Int) (Q0 : Int → Nat → List Int → List Int → List Int → Nat → List Int → List Int → Prop) (R_ : List Int × List Int → Prop) : Prop := (bw_ (decide (i < (↑n1 : Int))) (aw_ (0 ≤ i ∧ i < (↑n1 : Int)) (bw_ (List.getD ks (Int.toNat i) (0 : Int) == 2) (aw_ (0 ≤ i ∧ i < (↑n1 : Int)) (aw_ (0 ≤ i ∧ i < (↑n1 : Int)) (tw_ (aw_ ((n2 + 1) * 16 ≤ 140737488355328) (Q0 (IntKind.wrap IntKind.i64 (i + 1)) (n1) (ks) (zs) (ss) (n2 + 1) (as_ ++ [List.getD zs (Int.toNat i) 0]) (bs ++ [List.getD ss (Int.toNat i) 0])))))) (Q0 (IntKind.wrap IntKind.i64 (i + 1)) (n1) (ks) (zs) (ss) (n2) (as_) (bs)))) (R_ ((as_, bs))))
def x_blocks_I0 (t : Int) (p : Int) (sh : Int) (xs : List Int) (i : Int) (n1 : Nat) (ks : List Int) (zs : List Int) (ss : List Int) (n2 : Nat) (as_ : List Int) (bs : List Int) (r_ : List Int × List Int) : Prop := 0 ≤ i ∧ i ≤ n1 ∧ n1 = (partsL ⟨t, p, sh⟩ xs).length ∧ n1 ≤ 33 * 1024 ∧ ks = (partsL ⟨t, p, sh⟩ xs).map (·.k) ∧ zs = (partsL ⟨t, p, sh⟩ xs).map (·.a) ∧ ss = (partsL ⟨t, p, sh⟩ xs).map (·.s) ∧ n2 = as_.length ∧ n2 ≤ i ∧ as_ = (((partsL ⟨t, p, sh⟩ xs).take i.toNat).filter fun x => x.k == 2).map (·.a) ∧ bs = (((partsL ⟨t, p, sh⟩ xs).take i.toNat).filter fun x => x.k == 2).map (·.s) ∧ r_ = x_blocks t p sh xs
abbrev x_blocks_h0 (p0 : Addr) (t : Int) (p : Int) (sh : Int) (xs : List Int) : Hd Sg := ⟨none, [0,1,0,1,1,1], [.blk 0, .code [1,1,1,1]], [5, 4, 3], [.i .i64, .own 105 [some .i64, some .i64, some .i64], .own 71 [some .i64, some .i64]]⟩
theorem x_blocks_begin (t : Int) (p : Int) (sh : Int) (xs : List Int) (hp0 : AGood ⟨t, p, sh⟩ xs) (hl0 : xs.length ≤ 9223372036854775807) : x_blocks_w t p sh xs (fun i' n1' ks' zs' ss' n2' as_' bs' => x_blocks_I0 t p sh xs i' n1' ks' zs' ss' n2' as_' bs' (x_blocks t p sh xs)) (fun r__ => r__ = (x_blocks t p sh xs)) := by
  unfold x_blocks_w
  try unfold x_blocks_I0
  have hok := Cf.ok_iff.1 hp0.ok
  simp only at hok
  have hl : (partsL ⟨t, p, sh⟩ xs).length ≤ 33 * p.toNat := partsL_len _ _
  rintro r2 rfl
  exact ⟨hp0, fun _ => ⟨by omega, by omega, by simp [x_parts], by simp only [x_parts, List.length_map]; omega, rfl, rfl, rfl, rfl, by omega, by simp, by simp, rfl⟩⟩
theorem x_blocks_step0 (t : Int) (p : Int) (sh : Int) (xs : List Int) (hp0 : AGood ⟨t, p, sh⟩ xs) (hl0 : xs.length ≤ 9223372036854775807) (i : Int) (n1 : Nat) (ks : List Int) (zs : List Int) (ss : List Int) (n2 : Nat) (as_ : List Int) (bs : List Int) {r_ : List Int × List Int} (hI : x_blocks_I0 t p sh xs i n1 ks zs ss n2 as_ bs r_) : x_blocks_w0 t p sh xs i n1 ks zs ss n2 as_ bs (fun i' n1' ks' zs' ss' n2' as_' bs' => x_blocks_I0 t p sh xs i' n1' ks' zs' ss' n2' as_' bs' r_ ∧ lx ((n1' - i').toNat, 0, 0) ((n1 - i).toNat, 0, 0)) (fun r__ => r__ = r_) := by
  unfold x_blocks_I0 at hI
  unfold x_blocks_w0
  try unfold x_blocks_I0
  obtain ⟨h0, h1, h2, hb, h3, h4, h5, h6, h7, h8, h9, hr⟩ := hI
  refine ⟨fun h => ?_, fun h => ?_⟩
  · simp only [decide_eq_true_eq] at h
    have hi : 0 ≤ i ∧ i < (n1 : Int) := ⟨h0, h⟩
    have hs := blk_step (partsL ⟨t, p, sh⟩ xs) (i := i.toNat) (by omega)
    rw [← h3, ← h4, ← h5] at hs
    have es : (i + 1).toNat = i.toNat + 1 := by omega
    rw [w64 (n := i + 1) (by omega)]
    refine ⟨hi, fun _ => ⟨fun hc => ⟨hi, fun _ => ⟨hi, fun _ => ?_⟩⟩, fun hc => ?_⟩⟩
    · rw [hc] at hs
      refine And.intro ?_ ?_ <;> exact ⟨by omega, fun _ => ⟨⟨by omega, by omega, h2, hb, h3, h4, h5, by simp [h6], by omega, by rw [es, hs, List.map_append, ← h8]; rfl, by rw [es, hs, List.map_append, ← h9]; rfl, hr⟩, lxo_⟩⟩
    · rw [hc] at hs
      exact ⟨⟨by omega, by omega, h2, hb, h3, h4, h5, h6, by omega, by rw [es, hs, List.map_append, ← h8]; simp, by rw [es, hs, List.map_append, ← h9]; simp, hr⟩, lxo_⟩
  · simp only [decide_eq_false_iff_not] at h
    show _ = _
    rw [hr, x_blocks, blocksL, h8, h9, List.take_of_length_le (by omega)]
theorem x_blocks_ok : EOk 101 e_x_blocks :=
  ent_wp Dg T_x_parts_ok (I := [1643000000005, 1643000000004, 1643000000003]) Tryz.func101 mix (B := bodyOf Tryz.f101) (by kernel_rfl) rfl (by kernel_rfl) 400
    fun p0 t p sh xs hb hp => have hl0 : xs.length ≤ 9223372036854775807 := hb.1.2.2.2.1; have hp0 : AGood ⟨t, p, sh⟩ xs := hp _ (.head _); ⟨[x_blocks_h0 p0 t p sh xs], fun j => List.getD [appC (Hd.kd (x_blocks_h0 p0 t p sh xs)) (fun i' n1' ks' zs' ss' n2' as_' bs' => x_blocks_I0 t p sh xs i' n1' ks' zs' ss' n2' as_' bs' (x_blocks t p sh xs))] j (fun _ => False), fun j => List.getD [appC (Hd.kd (x_blocks_h0 p0 t p sh xs)) (fun i' n1' ks' zs' ss' n2' as_' bs' => ((n1' - i').toNat, 0, 0))] j (fun _ => (0, 0, 0)), by kernel_rfl, ⟨x_blocks_w t p sh xs (fun i' n1' ks' zs' ss' n2' as_' bs' => x_blocks_I0 t p sh xs i' n1' ks' zs' ss' n2' as_' bs' (x_blocks t p sh xs)) (fun r__ => r__ = (x_blocks t p sh xs)), fun _ _ _ => by kernel_rfl, x_blocks_begin t p sh xs hp0 hl0 ⟩, ⟨fun i n1 ks zs ss n2 as_ bs hI => ⟨x_blocks_w0 t p sh xs i n1 ks zs ss n2 as_ bs (fun i' n1' ks' zs' ss' n2' as_' bs' => x_blocks_I0 t p sh xs i' n1' ks' zs' ss' n2' as_' bs' (x_blocks t p sh xs) ∧ lx ((n1' - i').toNat, 0, 0) ((n1 - i).toNat, 0, 0)) (fun r__ => r__ = (x_blocks t p sh xs)), fun _ _ _ => by kernel_rfl, x_blocks_step0 t p sh xs hp0 hl0 i n1 ks zs ss n2 as_ bs hI⟩, trivial⟩⟩
def T_x_blocks : Tb := (101, e_x_blocks) :: T_x_parts
theorem T_x_blocks_ok : TOk T_x_blocks := tc_ x_blocks_ok T_x_parts_ok
def x_roots (t : Int) (p : Int) (sh : Int) (xs : List Int) : Bool := rootsOk ⟨t, p, sh⟩ xs
abbrev c_x_roots : Ct Sg := ⟨none, false, [.agg [.i .i64, .i .i64, .i .i64, .ro [some .u32]]], .b⟩
def e_x_roots : Entry Sg := entC c_x_roots x_roots (fun t p sh xs => [AGood ⟨t, p, sh⟩ xs])
def x_roots_w (t : Int) (p : Int) (sh : Int) (xs : List Int) (Q0 : Int → Nat → List Int → List Int → Prop) (R_ : Bool → Prop) : Prop := (∀ r1 : List Int × List Int, r1 = (x_blocks t p sh xs) → (aw_ (AGood { t := t, p := p, s := sh } xs) (Q0 (0) (List.length r1.1) r1.1 r1.2)))
def x_roots_w0 (t : Int) (p : Int) (sh : Int) (xs : List Int) (i : Int) (n2 : Nat) (as_ : List Int) (bs : List Int) (Q0 : Int → Nat → List Int → List Int → Prop) (R_ : Bool → Prop) : Prop := (bw_ (decide (i < 8)) (aw_ (0 ≤ r07_Root i ∧ r07_Root i < (↑(List.length xs) : Int)) (bw_ (IntKind.wrap IntKind.i64 (List.getD xs (Int.toNat (r07_Root i)) 0) != 0 && !r12_Has as_ bs (IntKind.wrap IntKind.i64 (List.getD xs (Int.toNat (r07_Root i)) 0))) (R_ (false)) (Q0 (IntKind.wrap IntKind.i64 (i + 1)) (n2) (as_) (bs)))) (R_ (true)))
def x_roots_I0 (t : Int) (p : Int) (sh : Int) (xs : List Int) (i : Int) (n2 : Nat) (as_ : List Int) (bs : List Int) (r_ : Bool) : Prop := 0 ≤ i ∧ i ≤ 8 ∧ n2 = as_.length ∧ as_.length = bs.length ∧ as_.length ≤ 33 * 1024 ∧ rootsF xs as_ (8 - i).toNat = r_
abbrev x_roots_h0 (p0 : Addr) (t : Int) (p : Int) (sh : Int) (xs : List Int) : Hd Sg := ⟨none, [0,1,0,1,1], [.blk 0, .code [1,1,1]], [4, 3, 1], [.i .i64, .own 71 [some .i64, some .i64], .box 47 [.ic .i64 (t), .ic .i64 (p), .ic .i64 (sh), .roc [.ints .u32 (xs)]]]⟩
theorem x_roots_begin (t : Int) (p : Int) (sh : Int) (xs : List Int) (hp0 : AGood ⟨t, p, sh⟩ xs) (hl0 : xs.length ≤ 9223372036854775807) : x_roots_w t p sh xs (fun i' n2' as_' bs' => x_roots_I0 t p sh xs i' n2' as_' bs' (x_roots t p sh xs)) (fun r__ => r__ = (x_roots t p sh xs)) := by
  unfold x_roots_w
  try unfold x_roots_I0
  have hok := Cf.ok_iff.1 hp0.ok
  simp only at hok
  have hl : (blocksL ⟨t, p, sh⟩ xs).length ≤ 33 * p.toNat := blocksL_len _ _
  rintro r2 rfl
  exact ⟨hp0, fun _ => ⟨by omega, by omega, rfl, by simp [x_blocks], by simp only [x_blocks, List.length_map]; omega, rfl⟩⟩
theorem x_roots_step0 (t : Int) (p : Int) (sh : Int) (xs : List Int) (hp0 : AGood ⟨t, p, sh⟩ xs) (hl0 : xs.length ≤ 9223372036854775807) (i : Int) (n2 : Nat) (as_ : List Int) (bs : List Int) {r_ : Bool} (hI : x_roots_I0 t p sh xs i n2 as_ bs r_) : x_roots_w0 t p sh xs i n2 as_ bs (fun i' n2' as_' bs' => x_roots_I0 t p sh xs i' n2' as_' bs' r_ ∧ lx ((8 - i').toNat, 0, 0) ((8 - i).toNat, 0, 0)) (fun r__ => r__ = r_) := by
  unfold x_roots_I0 at hI
  unfold x_roots_w0
  try unfold x_roots_I0
  obtain ⟨h0, h1, h2, h3, hb, hr⟩ := hI
  refine ⟨fun h => ?_, fun h => ?_⟩
  · simp only [decide_eq_true_eq] at h
    have hin : 0 ≤ cRoot i ∧ cRoot i < (xs.length : Int) := by
      have h1 := Cf.ok_iff.1 hp0.ok
      have h2 := hp0.len
      unfold Cf.cells at h2
      rw [hp0.ok, cond_true] at h2
      have e : (decide (0 ≤ i) && decide (i < 8)) = true := by simp [h0, h]
      unfold cRoot
      rw [e, cond_true]
      omega
    have hbd := cel_bd hp0 (cRoot i)
    have hbd' : 0 ≤ xs.getD (cRoot i).toNat 0 ∧ xs.getD (cRoot i).toNat 0 < 4294967296 := hbd
    have e : (8 - i).toNat = (8 - (i + 1)).toNat + 1 := by omega
    have ei : (8 : Int) - (((8 - (i + 1)).toNat + 1 : Nat) : Int) = i := by omega
    rw [e] at hr
    simp only [rootsF] at hr
    rw [ei] at hr
    rw [r07_Root_eq, w64 (n := i + 1) (by omega), w64 (n := xs.getD (cRoot i).toNat 0) (by omega)]
    refine ⟨hin, fun _ => ⟨fun hc => ?_, fun hc => ?_⟩⟩
    · have hc' : (cel xs (cRoot i) != 0 && !as_.contains (cel xs (cRoot i))) = true := hc
      rw [hc', cond_true] at hr; exact hr
    · have hc' : (cel xs (cRoot i) != 0 && !as_.contains (cel xs (cRoot i))) = false := hc
      rw [hc', cond_false] at hr
      exact ⟨⟨by omega, by omega, h2, h3, hb, hr⟩, lxo_⟩
  · simp only [decide_eq_false_iff_not] at h
    rw [show (8 - i).toNat = 0 by omega] at hr
    exact hr
theorem x_roots_ok : EOk 89 e_x_roots :=
  ent_wp Dg T_x_blocks_ok (I := [411000000004, 411000000003, 411000000001]) Tryz.func89 mix (B := bodyOf Tryz.f89) (by kernel_rfl) rfl (by kernel_rfl) 400
    fun p0 t p sh xs hb hp => have hl0 : xs.length ≤ 9223372036854775807 := hb.1.2.2.2.1; have hp0 : AGood ⟨t, p, sh⟩ xs := hp _ (.head _); ⟨[x_roots_h0 p0 t p sh xs], fun j => List.getD [appC (Hd.kd (x_roots_h0 p0 t p sh xs)) (fun i' n2' as_' bs' => x_roots_I0 t p sh xs i' n2' as_' bs' (x_roots t p sh xs))] j (fun _ => False), fun j => List.getD [appC (Hd.kd (x_roots_h0 p0 t p sh xs)) (fun i' n2' as_' bs' => ((8 - i').toNat, 0, 0))] j (fun _ => (0, 0, 0)), by kernel_rfl, ⟨x_roots_w t p sh xs (fun i' n2' as_' bs' => x_roots_I0 t p sh xs i' n2' as_' bs' (x_roots t p sh xs)) (fun r__ => r__ = (x_roots t p sh xs)), fun _ _ _ => by kernel_rfl, x_roots_begin t p sh xs hp0 hl0 ⟩, ⟨fun i n2 as_ bs hI => ⟨x_roots_w0 t p sh xs i n2 as_ bs (fun i' n2' as_' bs' => x_roots_I0 t p sh xs i' n2' as_' bs' (x_roots t p sh xs) ∧ lx ((8 - i').toNat, 0, 0) ((8 - i).toNat, 0, 0)) (fun r__ => r__ = (x_roots t p sh xs)), fun _ _ _ => by kernel_rfl, x_roots_step0 t p sh xs hp0 hl0 i n2 as_ bs hI⟩, trivial⟩⟩
def T_x_roots : Tb := (89, e_x_roots) :: T_x_blocks
theorem T_x_roots_ok : TOk T_x_roots := tc_ x_roots_ok T_x_blocks_ok
def r12_Check (t : Int) (p : Int) (sh : Int) (xs : List Int) : Int × Bool := checkA ⟨t, p, sh⟩ xs
abbrev c_r12_Check : Ct Sg := ⟨none, false, [.agg [.i .i64, .i .i64, .i .i64], .ro [some .u32]], .tup [.i .i64, .b]⟩
def e_r12_Check : Entry Sg := entC c_r12_Check r12_Check (fun t p sh xs => [bdAll xs])
def r12_Check_w (t : Int) (p : Int) (sh : Int) (xs : List Int) (R_ : Int × Bool → Prop) : Prop := (∀ r1 : Bool, r1 = (r04_Right t p sh) → (bw_ (!r1 || (↑(List.length xs) : Int) != r07_Cells t p sh) (R_ ((1, false))) (∀ r4 : Bool, r4 = (x_tiles t p sh xs) → (aw_ (AGood { t := t, p := p, s := sh } xs) (bw_ (!r4) (R_ ((2, false))) (∀ r7 : Bool, r7 = (x_feet t p sh xs) → (aw_ (AGood { t := t, p := p, s := sh } xs) (aw_ (Prod.snd (starts { t := t, p := p, s := sh } xs) = true) (bw_ (!r7) (R_ ((3, false))) (∀ r11 : Bool, r11 = (x_apart t p sh xs) → (aw_ (AGood { t := t, p := p, s := sh } xs) (bw_ (!r11) (R_ ((4, false))) (∀ r14 : Bool, r14 = (x_slots t p sh xs) → (aw_ (AGood { t := t, p := p, s := sh } xs) (bw_ (!r14) (R_ ((5, false))) (∀ r17 : Bool, r17 = (x_bins t p sh xs) → (aw_ (AGood { t := t, p := p, s := sh } xs) (bw_ (!r17) (R_ ((6, false))) (∀ r20 : Bool, r20 = (x_racks t p sh xs) → (aw_ (AGood { t := t, p := p, s := sh } xs) (bw_ (!r20) (R_ ((7, false))) (∀ r23 : Bool, r23 = (x_loose t p sh xs) → (aw_ (AGood { t := t, p := p, s := sh } xs) (bw_ (!r23) (R_ ((8, false))) (∀ r26 : Bool, r26 = (x_counts t p sh xs) → (aw_ (AGood { t := t, p := p, s := sh } xs) (bw_ (!r26) (R_ ((9, false))) (∀ r29 : Bool, r29 = (x_roots t p sh xs) → (aw_ (AGood { t := t, p := p, s := sh } xs) (bw_ (!r29) (R_ ((10, false))) (R_ ((0, true)))))))))))))))))))))))))))))))))
theorem r12_Check_begin (t : Int) (p : Int) (sh : Int) (xs : List Int) (hp0 : bdAll xs) (hl0 : xs.length ≤ 9223372036854775807) : r12_Check_w t p sh xs  (fun r__ => r__ = (r12_Check t p sh xs)) := by
  unfold r12_Check_w
  have hr : r04_Right t p sh = Cf.ok ⟨t, p, sh⟩ := by
    apply Bool.eq_iff_iff.2
    rw [Cf.ok_iff]
    simp only [r04_Right, Bool.and_eq_true, decide_eq_true_eq]; omega
  have hcl : r07_Cells t p sh = Cf.cells ⟨t, p, sh⟩ := by
    unfold r07_Cells Cf.cells
    rw [hr]
    cases h : Cf.ok ⟨t, p, sh⟩ with
    | false => rfl
    | true =>
      have := Cf.ok_iff.1 h
      simp only at this
      show IntKind.i64.wrap _ = 30 + 4 * t + 6 * p
      rw [w64 (n := 4 * t) (by omega), w64 (n := 30 + 4 * t) (by omega), w64 (n := 6 * p) (by omega), w64 (by omega)]
  rintro r1 rfl
  rw [hr, hcl]
  refine ⟨fun hc => ?_, fun hc => ?_⟩
  · show _ = checkA ⟨t, p, sh⟩ xs
    unfold checkA
    rw [hc]; rfl
  have hg : AGood ⟨t, p, sh⟩ xs := by
    simp only [Bool.or_eq_false_iff, Bool.not_eq_false', bne_eq_false_iff_eq] at hc
    exact { ok := hc.1, len := hc.2, bd := hp0 }
  have key : ∀ {r : Int × Bool}, r = checkA ⟨t, p, sh⟩ xs → (fun r__ => r__ = r12_Check t p sh xs) r := fun h => h
  unfold checkA at key
  rw [hc, cond_false] at key
  rintro r rfl
  refine ⟨hg, fun _ => ⟨fun hd => key (by rw [show (!tiles ⟨t, p, sh⟩ xs) = true from hd]; rfl), fun hd => ?_⟩⟩
  have h_tiles : (!tiles ⟨t, p, sh⟩ xs) = false := hd
  rw [h_tiles, cond_false] at key
  rintro r rfl
  have hst : (starts ⟨t, p, sh⟩ xs).2 = true := by
    have h1 : tiles ⟨t, p, sh⟩ xs = true := by simpa using h_tiles
    unfold tiles at h1
    cases hq : (starts ⟨t, p, sh⟩ xs).2 with
    | true => rfl
    | false => rw [hq] at h1; cases h1
  refine ⟨hg, fun _ => ⟨hst, fun _ => ⟨fun hd => key (by rw [show (!feet ⟨t, p, sh⟩ xs) = true from hd]; rfl), fun hd => ?_⟩⟩⟩
  have h_feet : (!feet ⟨t, p, sh⟩ xs) = false := hd
  rw [h_feet, cond_false] at key
  rintro r rfl
  refine ⟨hg, fun _ => ⟨fun hd => key (by rw [show (!apart ⟨t, p, sh⟩ xs) = true from hd]; rfl), fun hd => ?_⟩⟩
  have h_apart : (!apart ⟨t, p, sh⟩ xs) = false := hd
  rw [h_apart, cond_false] at key
  rintro r rfl
  refine ⟨hg, fun _ => ⟨fun hd => key (by rw [show (!slotsOk ⟨t, p, sh⟩ xs) = true from hd]; rfl), fun hd => ?_⟩⟩
  have h_slotsOk : (!slotsOk ⟨t, p, sh⟩ xs) = false := hd
  rw [h_slotsOk, cond_false] at key
  rintro r rfl
  refine ⟨hg, fun _ => ⟨fun hd => key (by rw [show (!bins ⟨t, p, sh⟩ xs) = true from hd]; rfl), fun hd => ?_⟩⟩
  have h_bins : (!bins ⟨t, p, sh⟩ xs) = false := hd
  rw [h_bins, cond_false] at key
  rintro r rfl
  refine ⟨hg, fun _ => ⟨fun hd => key (by rw [show (!racks ⟨t, p, sh⟩ xs) = true from hd]; rfl), fun hd => ?_⟩⟩
  have h_racks : (!racks ⟨t, p, sh⟩ xs) = false := hd
  rw [h_racks, cond_false] at key
  rintro r rfl
  refine ⟨hg, fun _ => ⟨fun hd => key (by rw [show (!loose ⟨t, p, sh⟩ xs) = true from hd]; rfl), fun hd => ?_⟩⟩
  have h_loose : (!loose ⟨t, p, sh⟩ xs) = false := hd
  rw [h_loose, cond_false] at key
  rintro r rfl
  refine ⟨hg, fun _ => ⟨fun hd => key (by rw [show (!counts ⟨t, p, sh⟩ xs) = true from hd]; rfl), fun hd => ?_⟩⟩
  have h_counts : (!counts ⟨t, p, sh⟩ xs) = false := hd
  rw [h_counts, cond_false] at key
  rintro r rfl
  refine ⟨hg, fun _ => ⟨fun hd => key (by rw [show (!rootsOk ⟨t, p, sh⟩ xs) = true from hd]; rfl), fun hd => ?_⟩⟩
  have h_rootsOk : (!rootsOk ⟨t, p, sh⟩ xs) = false := hd
  rw [h_rootsOk, cond_false] at key
  exact key rfl
theorem r12_Check_ok : EOk 34 e_r12_Check :=
  ent_w0 Dg T_x_roots_ok (I := [2999998]) Tryz.func34 mix (B := bodyOf Tryz.f34) (by kernel_rfl) rfl (by kernel_rfl) 400
    fun _ t p sh xs hb hp => ⟨r12_Check_w t p sh xs (fun r__ => r__ = (r12_Check t p sh xs)), fun _ _ _ => by kernel_rfl, r12_Check_begin t p sh xs (hp _ (.head _)) (hb.2.1)⟩
def T_r12_Check : Tb := (34, e_r12_Check) :: T_x_roots
theorem T_r12_Check_ok : TOk T_r12_Check := tc_ r12_Check_ok T_x_roots_ok
def r12_Sound (t : Int) (p : Int) (sh : Int) (xs : List Int) : Bool := soundA ⟨t, p, sh⟩ xs
abbrev c_r12_Sound : Ct Sg := ⟨none, false, [.agg [.i .i64, .i .i64, .i .i64], .ro [some .u32]], .b⟩
def e_r12_Sound : Entry Sg := entC c_r12_Sound r12_Sound (fun t p sh xs => [bdAll xs])
def r12_Sound_w (t : Int) (p : Int) (sh : Int) (xs : List Int) (R_ : Bool → Prop) : Prop := (∀ r1 : Int × Bool, r1 = (r12_Check t p sh xs) → (aw_ (bdAll xs) (R_ r1.2)))
theorem r12_Sound_begin (t : Int) (p : Int) (sh : Int) (xs : List Int) (hp0 : bdAll xs) (hl0 : xs.length ≤ 9223372036854775807) : r12_Sound_w t p sh xs  (fun r__ => r__ = (r12_Sound t p sh xs)) := by
  unfold r12_Sound_w
  rintro r rfl
  exact ⟨hp0, fun _ => rfl⟩
theorem r12_Sound_ok : EOk 8 e_r12_Sound :=
  ent_w0 Dg T_r12_Check_ok (I := [2999998]) Tryz.func8 mix (B := bodyOf Tryz.f8) (by kernel_rfl) rfl (by kernel_rfl) 400
    fun _ t p sh xs hb hp => ⟨r12_Sound_w t p sh xs (fun r__ => r__ = (r12_Sound t p sh xs)), fun _ _ _ => by kernel_rfl, r12_Sound_begin t p sh xs (hp _ (.head _)) (hb.2.1)⟩
def T_r12_Sound : Tb := (8, e_r12_Sound) :: T_r12_Check
theorem T_r12_Sound_ok : TOk T_r12_Sound := tc_ r12_Sound_ok T_r12_Check_ok
def r12_Few (t : Int) (p : Int) (sh : Int) : Bool := decide (p ≤ 64)
def r12_Few_v (t : Int) (p : Int) (sh : Int) : Bool := decide (p ≤ 64)
abbrev c_r12_Few : Ct Sg := ⟨none, false, [.agg [.i .i64, .i .i64, .i .i64]], .b⟩
def e_r12_Few : Entry Sg := entC c_r12_Few r12_Few (fun _ _ _ => [])
theorem r12_Few_eq (t : Int) (p : Int) (sh : Int) : r12_Few_v t p sh = (r12_Few t p sh) := by
  rfl
theorem r12_Few_ok : EOk 7 e_r12_Few :=
  ent_ok Dg T_r12_Sound_ok (I := []) Tryz.func7 mix (B := bodyOf Tryz.f7) (by kernel_rfl) rfl (by kernel_rfl) 400
    fun _ t p sh hb hp => ⟨(r12_Few_v t p sh), .t, fun _ _ _ => by kernel_rfl, trivial, r12_Few_eq t p sh ⟩
def T_r12_Few : Tb := (7, e_r12_Few) :: T_r12_Sound
theorem T_r12_Few_ok : TOk T_r12_Few := tc_ r12_Few_ok T_r12_Sound_ok
def l14_Eight : Int × Int × Int × List Int := (1, 8, 10, [8, 0, 0, 0, 0, 1, 0, 0, 0, 0, 0, 0, 0, 0, 0, 0, 0, 0, 0, 0, 0, 0, 0, 0, 0, 0, 0, 0, 0, 0, 0, 0, 0, 0, 129, 0, 0, 0, 0, 0, 0, 0, 0, 0, 0, 0, 0, 0, 0, 0, 0, 0, 0, 0, 0, 0, 0, 0, 0, 0, 0, 0, 0, 0, 0, 0, 0, 0, 0, 0, 0, 0, 0, 0, 0, 0, 0, 1, 0, 0, 0, 0])
abbrev c_l14_Eight : Ct Sg := ⟨none, false, [], .tup [.agg [.i .i64, .i .i64, .i .i64], .new 55 [some .u32]]⟩
def e_l14_Eight : Entry Sg := entC c_l14_Eight l14_Eight ([])
theorem l14_Eight_ok : EOk 35 e_l14_Eight :=
  ent_ok Dg T_r12_Few_ok (I := []) Tryz.func35 mix (B := bodyOf Tryz.f35) (by kernel_rfl) rfl (by kernel_rfl) 400
    fun _  hb hp => ⟨l14_Eight, (.need ((0 : Int) ≤ 82 ∧ (82 : Int) ≤ 82 ∧ (328 : Int) ≤ 140737488355328) (.need ((0 : Int) ≤ 0 ∧ (0 : Int) < 82) (.need ((0 : Int) ≤ 5 ∧ (5 : Int) < 82) (.need ((0 : Int) ≤ 34 ∧ (34 : Int) < 82) (.need ((0 : Int) ≤ 77 ∧ (77 : Int) < 82) .t))))), fun _ _ _ => by kernel_rfl, ⟨(by first | omega | decide), fun z1 => ⟨(by first | omega | decide), fun z3 => ⟨(by first | omega | decide), fun z4 => ⟨(by first | omega | decide), fun z5 => ⟨(by first | omega | decide), fun z6 => trivial⟩⟩⟩⟩⟩, rfl⟩
def T_l14_Eight : Tb := (35, e_l14_Eight) :: T_r12_Few
theorem T_l14_Eight_ok : TOk T_l14_Eight := tc_ l14_Eight_ok T_r12_Few_ok
end Go.Proofs.YtcbeifgnccbfbaaGreat
namespace Go.Proofs.YtcbeifgnccbfbaaGreat
open Go.Sl
theorem sound_good {c : Cf} {xs : List Int} (h : soundA c xs = true) (hb : bdAll xs) : AGood c xs := by
  rw [soundA_eq] at h
  unfold soundB at h
  simp only [Bool.and_eq_true, beq_iff_eq] at h
  exact { ok := h.1.1.1.1.1.1.1.1.1.1, len := h.1.1.1.1.1.1.1.1.1.2, bd := hb }
theorem wcel {xs : List Int} (h : bdAll xs) (k : Int) : IntKind.i64.wrap (xs.getD k.toNat 0) = cel xs k := by
  have := rootA_eq xs k h
  unfold bd32 at this
  exact w64 (n := cel xs k) (by omega)
theorem good_long {c : Cf} {xs : List Int} (h : AGood c xs) : 30 ≤ (xs.length : Int) ∧ xs.length ≤ 1000000 := by
  have h1 := Cf.ok_iff.1 h.ok
  have h2 := h.len
  rw [show c.cells = 30 + 4 * c.t + 6 * c.p by unfold Cf.cells; rw [h.ok]; rfl] at h2
  omega
def r12_Live (t : Int) (p : Int) (sh : Int) (xs : List Int) : List Int × List Int := bif soundA ⟨t, p, sh⟩ xs then ((blocksL ⟨t, p, sh⟩ xs).map (·.a), (blocksL ⟨t, p, sh⟩ xs).map (·.s)) else ([], [])
abbrev c_r12_Live : Ct Sg := ⟨none, false, [.agg [.i .i64, .i .i64, .i .i64], .ro [some .u32]], .new 71 [some .i64, some .i64]⟩
def e_r12_Live : Entry Sg := entC c_r12_Live r12_Live (fun t p sh xs => [bdAll xs])
def r12_Live_w (t : Int) (p : Int) (sh : Int) (xs : List Int) (R_ : List Int × List Int → Prop) : Prop := (∀ r1 : Bool, r1 = (r12_Sound t p sh xs) → (aw_ (bdAll xs) (bw_ (!r1) (R_ (([], []))) (∀ r5 : List Int × List Int, r5 = (x_blocks t p sh xs) → (aw_ (AGood { t := t, p := p, s := sh } xs) (R_ ((r5.1, r5.2))))))))
theorem r12_Live_begin (t : Int) (p : Int) (sh : Int) (xs : List Int) (hp0 : bdAll xs) (hl0 : xs.length ≤ 9223372036854775807) : r12_Live_w t p sh xs  (fun r__ => r__ = (r12_Live t p sh xs)) := by
  unfold r12_Live_w
  have hS : soundA ⟨t, p, sh⟩ xs = r12_Sound t p sh xs := rfl
  rintro r rfl
  refine ⟨hp0, fun _ => ⟨fun h => ?_, fun h => ?_⟩⟩
  · show _ = r12_Live t p sh xs
    rw [← hS] at h
    rw [r12_Live, (Bool.not_eq_true' _).mp h]; rfl
  · rintro r rfl
    rw [← hS] at h
    have hs := (Bool.not_eq_false' _).mp h
    refine ⟨sound_good hs hp0, fun _ => ?_⟩
    show _ = r12_Live t p sh xs
    rw [r12_Live, hs]; rfl
theorem r12_Live_ok : EOk 50 e_r12_Live :=
  ent_w0 Dg T_l14_Eight_ok (I := [2999998]) Tryz.func50 mix (B := bodyOf Tryz.f50) (by kernel_rfl) rfl (by kernel_rfl) 400
    fun _ t p sh xs hb hp => ⟨r12_Live_w t p sh xs (fun r__ => r__ = (r12_Live t p sh xs)), fun _ _ _ => by kernel_rfl, r12_Live_begin t p sh xs (hp _ (.head _)) (hb.2.1)⟩
def T_r12_Live : Tb := (50, e_r12_Live) :: T_l14_Eight
theorem T_r12_Live_ok : TOk T_r12_Live := tc_ r12_Live_ok T_l14_Eight_ok
def r12_State (t : Int) (p : Int) (sh : Int) (xs : List Int) : List Int × List Int × Int × Int × Int × Int × Int × Int × Int × Int × Bool := stateA ⟨t, p, sh⟩ xs
abbrev c_r12_State : Ct Sg := ⟨none, false, [.agg [.i .i64, .i .i64, .i .i64], .ro [some .u32]], .tup [.agg [.new 71 [some .i64, some .i64], .i .i64, .i .i64, .i .i64, .i .i64, .i .i64, .i .i64, .i .i64, .i .i64], .b]⟩
def e_r12_State : Entry Sg := entC c_r12_State r12_State (fun t p sh xs => [bdAll xs])
def r12_State_w (t : Int) (p : Int) (sh : Int) (xs : List Int) (R_ : List Int × List Int × Int × Int × Int × Int × Int × Int × Int × Int × Bool → Prop) : Prop := (∀ r2 : Bool, r2 = (r12_Sound t p sh xs) → (aw_ (bdAll xs) (bw_ (!r2) (R_ (([], [], 0, 0, 0, 0, 0, 0, 0, 0, false))) (∀ r5 : List Int × List Int, r5 = (r12_Live t p sh xs) → (aw_ (bdAll xs) (∀ r9 : Int, r9 = (22) → (aw_ (0 ≤ r9 ∧ r9 < (↑(List.length xs) : Int)) (aw_ ((0 : Int) ≤ 0 ∧ (0 : Int) < 8) (∀ r12 : Int, r12 = (23) → (aw_ (0 ≤ r12 ∧ r12 < (↑(List.length xs) : Int)) (aw_ ((0 : Int) ≤ 1 ∧ (1 : Int) < 8) (∀ r15 : Int, r15 = (24) → (aw_ (0 ≤ r15 ∧ r15 < (↑(List.length xs) : Int)) (aw_ ((0 : Int) ≤ 2 ∧ (2 : Int) < 8) (∀ r18 : Int, r18 = (25) → (aw_ (0 ≤ r18 ∧ r18 < (↑(List.length xs) : Int)) (aw_ ((0 : Int) ≤ 3 ∧ (3 : Int) < 8) (∀ r21 : Int, r21 = (26) → (aw_ (0 ≤ r21 ∧ r21 < (↑(List.length xs) : Int)) (aw_ ((0 : Int) ≤ 4 ∧ (4 : Int) < 8) (∀ r24 : Int, r24 = (27) → (aw_ (0 ≤ r24 ∧ r24 < (↑(List.length xs) : Int)) (aw_ ((0 : Int) ≤ 5 ∧ (5 : Int) < 8) (∀ r27 : Int, r27 = (28) → (aw_ (0 ≤ r27 ∧ r27 < (↑(List.length xs) : Int)) (aw_ ((0 : Int) ≤ 6 ∧ (6 : Int) < 8) (∀ r30 : Int, r30 = (29) → (aw_ (0 ≤ r30 ∧ r30 < (↑(List.length xs) : Int)) (aw_ ((0 : Int) ≤ 7 ∧ (7 : Int) < 8) (R_ ((r5.1, r5.2, IntKind.wrap IntKind.i64 (List.getD xs (Int.toNat r9) 0), IntKind.wrap IntKind.i64 (List.getD xs (Int.toNat r12) 0), IntKind.wrap IntKind.i64 (List.getD xs (Int.toNat r15) 0), IntKind.wrap IntKind.i64 (List.getD xs (Int.toNat r18) 0), IntKind.wrap IntKind.i64 (List.getD xs (Int.toNat r21) 0), IntKind.wrap IntKind.i64 (List.getD xs (Int.toNat r24) 0), IntKind.wrap IntKind.i64 (List.getD xs (Int.toNat r27) 0), IntKind.wrap IntKind.i64 (List.getD xs (Int.toNat r30) 0), true))))))))))))))))))))))))))))))))
theorem r12_State_begin (t : Int) (p : Int) (sh : Int) (xs : List Int) (hp0 : bdAll xs) (hl0 : xs.length ≤ 9223372036854775807) : r12_State_w t p sh xs  (fun r__ => r__ = (r12_State t p sh xs)) := by
  unfold r12_State_w
  have hS : soundA ⟨t, p, sh⟩ xs = r12_Sound t p sh xs := rfl
  rintro r rfl
  refine ⟨hp0, fun _ => ⟨fun h => ?_, fun h => ?_⟩⟩
  · show _ = r12_State t p sh xs
    rw [← hS] at h
    rw [r12_State, stateA, (Bool.not_eq_true' _).mp h]; rfl
  · rintro r rfl
    rw [← hS] at h
    have hs := (Bool.not_eq_false' _).mp h
    have hl := good_long (sound_good hs hp0)
    refine ⟨hp0, fun _ => ?_⟩
    repeat' first
      | (refine fun r hr => ?_; subst hr)
      | refine ⟨(by omega), fun _ => ?_⟩
      | fail
    show _ = r12_State t p sh xs
    simp only [wcel hp0]
    rw [r12_State, stateA, hs, cond_true, r12_Live, hs, cond_true]; rfl
theorem r12_State_ok : EOk 14 e_r12_State :=
  ent_w0 Dg T_r12_Live_ok (I := [2999999, 2999998]) Tryz.func14 mix (B := bodyOf Tryz.f14) (by kernel_rfl) rfl (by kernel_rfl) 400
    fun _ t p sh xs hb hp => ⟨r12_State_w t p sh xs (fun r__ => r__ = (r12_State t p sh xs)), fun _ _ _ => by kernel_rfl, r12_State_begin t p sh xs (hp _ (.head _)) (hb.2.1)⟩
def T_r12_State : Tb := (14, e_r12_State) :: T_r12_Live
theorem T_r12_State_ok : TOk T_r12_State := tc_ r12_State_ok T_r12_Live_ok
def r12_Same (xa : List Int) (xz : List Int) (u0 : Int) (u1 : Int) (u2 : Int) (u3 : Int) (u4 : Int) (u5 : Int) (u6 : Int) (u7 : Int) (ya : List Int) (yz : List Int) (v0 : Int) (v1 : Int) (v2 : Int) (v3 : Int) (v4 : Int) (v5 : Int) (v6 : Int) (v7 : Int) : Bool := decide (xa = ya ∧ xz = yz) && (u0 == v0 && (u1 == v1 && (u2 == v2 && (u3 == v3 && (u4 == v4 && (u5 == v5 && (u6 == v6 && (u7 == v7 && true))))))))
abbrev c_r12_Same : Ct Sg := ⟨none, false, [.agg [.ro [some .i64, some .i64], .i .i64, .i .i64, .i .i64, .i .i64, .i .i64, .i .i64, .i .i64, .i .i64], .agg [.ro [some .i64, some .i64], .i .i64, .i .i64, .i .i64, .i .i64, .i .i64, .i .i64, .i .i64, .i .i64]], .b⟩
def e_r12_Same : Entry Sg := entC c_r12_Same r12_Same (fun xa xz u0 u1 u2 u3 u4 u5 u6 u7 ya yz v0 v1 v2 v3 v4 v5 v6 v7 => [xa.length = xz.length, ya.length = yz.length])
def r12_Same_w (xa : List Int) (xz : List Int) (u0 : Int) (u1 : Int) (u2 : Int) (u3 : Int) (u4 : Int) (u5 : Int) (u6 : Int) (u7 : Int) (ya : List Int) (yz : List Int) (v0 : Int) (v1 : Int) (v2 : Int) (v3 : Int) (v4 : Int) (v5 : Int) (v6 : Int) (v7 : Int) (Q0 : Int → Prop) (R_ : Bool → Prop) : Prop := (bw_ ((↑(List.length xa) : Int) != (↑(List.length ya) : Int) || !(u0 == v0 && (u1 == v1 && (u2 == v2 && (u3 == v3 && (u4 == v4 && (u5 == v5 && (u6 == v6 && (u7 == v7 && true))))))))) (R_ (false)) (Q0 (0)))
def r12_Same_w0 (xa : List Int) (xz : List Int) (u0 : Int) (u1 : Int) (u2 : Int) (u3 : Int) (u4 : Int) (u5 : Int) (u6 : Int) (u7 : Int) (ya : List Int) (yz : List Int) (v0 : Int) (v1 : Int) (v2 : Int) (v3 : Int) (v4 : Int) (v5 : Int) (v6 : Int) (v7 : Int) (i : Int) (Q0 : Int → Prop) (R_ : Bool → Prop) : Prop := (bw_ (decide (i < (↑(List.length xa) : Int))) (aw_ (0 ≤ i ∧ i < (↑(List.length xa) : Int)) (aw_ (0 ≤ i ∧ i < (↑(List.length ya) : Int)) (bw_ (!(List.getD xa (Int.toNat i) 0 == List.getD ya (Int.toNat i) 0 && (List.getD xz (Int.toNat i) 0 == List.getD yz (Int.toNat i) 0 && true))) (R_ (false)) (Q0 (IntKind.wrap IntKind.i64 (i + 1)))))) (R_ (true)))
def r12_Same_I0 (xa : List Int) (xz : List Int) (u0 : Int) (u1 : Int) (u2 : Int) (u3 : Int) (u4 : Int) (u5 : Int) (u6 : Int) (u7 : Int) (ya : List Int) (yz : List Int) (v0 : Int) (v1 : Int) (v2 : Int) (v3 : Int) (v4 : Int) (v5 : Int) (v6 : Int) (v7 : Int) (i : Int) (r_ : Bool) : Prop := 0 ≤ i ∧ i ≤ xa.length ∧ xa.length = ya.length ∧ (∀ j : Nat, j < i.toNat → xa.getD j 0 = ya.getD j 0 ∧ xz.getD j 0 = yz.getD j 0) ∧ r_ = decide (xa = ya ∧ xz = yz)
abbrev r12_Same_h0 (p0 : Addr) (xa : List Int) (xz : List Int) (u0 : Int) (u1 : Int) (u2 : Int) (u3 : Int) (u4 : Int) (u5 : Int) (u6 : Int) (u7 : Int) (ya : List Int) (yz : List Int) (v0 : Int) (v1 : Int) (v2 : Int) (v3 : Int) (v4 : Int) (v5 : Int) (v6 : Int) (v7 : Int) : Hd Sg := ⟨none, [0,1,0,1,1], [.blk 0, .code [1,1,1]], [5, 2, 3], [.i .i64, .box 40 [.roc [.ints .i64 (xa), .ints .i64 (xz)], .ic .i64 (u0), .ic .i64 (u1), .ic .i64 (u2), .ic .i64 (u3), .ic .i64 (u4), .ic .i64 (u5), .ic .i64 (u6), .ic .i64 (u7)], .box 40 [.roc [.ints .i64 (ya), .ints .i64 (yz)], .ic .i64 (v0), .ic .i64 (v1), .ic .i64 (v2), .ic .i64 (v3), .ic .i64 (v4), .ic .i64 (v5), .ic .i64 (v6), .ic .i64 (v7)]]⟩
theorem r12_Same_begin (xa : List Int) (xz : List Int) (u0 : Int) (u1 : Int) (u2 : Int) (u3 : Int) (u4 : Int) (u5 : Int) (u6 : Int) (u7 : Int) (ya : List Int) (yz : List Int) (v0 : Int) (v1 : Int) (v2 : Int) (v3 : Int) (v4 : Int) (v5 : Int) (v6 : Int) (v7 : Int) (hp0 : xa.length = xz.length) (hp1 : ya.length = yz.length) (hl0 : xa.length ≤ 9223372036854775807) (hl1 : ya.length ≤ 9223372036854775807) : r12_Same_w xa xz u0 u1 u2 u3 u4 u5 u6 u7 ya yz v0 v1 v2 v3 v4 v5 v6 v7 (fun i' => r12_Same_I0 xa xz u0 u1 u2 u3 u4 u5 u6 u7 ya yz v0 v1 v2 v3 v4 v5 v6 v7 i' (r12_Same xa xz u0 u1 u2 u3 u4 u5 u6 u7 ya yz v0 v1 v2 v3 v4 v5 v6 v7)) (fun r__ => r__ = (r12_Same xa xz u0 u1 u2 u3 u4 u5 u6 u7 ya yz v0 v1 v2 v3 v4 v5 v6 v7)) := by
  unfold r12_Same_w
  try unfold r12_Same_I0
  refine ⟨fun h => ?_, fun h => ?_⟩
  · show false = r12_Same xa xz u0 u1 u2 u3 u4 u5 u6 u7 ya yz v0 v1 v2 v3 v4 v5 v6 v7
    revert h
    unfold r12_Same
    generalize (u0 == v0 && (u1 == v1 && (u2 == v2 && (u3 == v3 && (u4 == v4 && (u5 == v5 && (u6 == v6 && (u7 == v7 && true)))))))) = e
    intro h
    cases e with
    | false => simp
    | true =>
      have hne : xa ≠ ya := fun e2 => by rw [e2] at h; simp at h
      simp [hne]
  · have hh : xa.length = ya.length ∧ (u0 == v0 && (u1 == v1 && (u2 == v2 && (u3 == v3 && (u4 == v4 && (u5 == v5 && (u6 == v6 && (u7 == v7 && true)))))))) = true := by
      simp only [Bool.or_eq_false_iff, Bool.not_eq_false', bne_eq_false_iff_eq] at h
      exact ⟨by have := h.1; omega, h.2⟩
    refine ⟨by omega, by omega, hh.1, fun j hj => absurd hj (Nat.not_lt_zero j), ?_⟩
    unfold r12_Same
    rw [hh.2, Bool.and_true]
theorem r12_Same_step0 (xa : List Int) (xz : List Int) (u0 : Int) (u1 : Int) (u2 : Int) (u3 : Int) (u4 : Int) (u5 : Int) (u6 : Int) (u7 : Int) (ya : List Int) (yz : List Int) (v0 : Int) (v1 : Int) (v2 : Int) (v3 : Int) (v4 : Int) (v5 : Int) (v6 : Int) (v7 : Int) (hp0 : xa.length = xz.length) (hp1 : ya.length = yz.length) (hl0 : xa.length ≤ 9223372036854775807) (hl1 : ya.length ≤ 9223372036854775807) (i : Int) {r_ : Bool} (hI : r12_Same_I0 xa xz u0 u1 u2 u3 u4 u5 u6 u7 ya yz v0 v1 v2 v3 v4 v5 v6 v7 i r_) : r12_Same_w0 xa xz u0 u1 u2 u3 u4 u5 u6 u7 ya yz v0 v1 v2 v3 v4 v5 v6 v7 i (fun i' => r12_Same_I0 xa xz u0 u1 u2 u3 u4 u5 u6 u7 ya yz v0 v1 v2 v3 v4 v5 v6 v7 i' r_ ∧ lx ((xa.length - i').toNat, 0, 0) ((xa.length - i).toNat, 0, 0)) (fun r__ => r__ = r_) := by
  unfold r12_Same_I0 at hI
  unfold r12_Same_w0
  try unfold r12_Same_I0
  obtain ⟨h0, h1, h2, h3, h4⟩ := hI
  refine ⟨fun h => ?_, fun h => ?_⟩
  · simp only [decide_eq_true_eq] at h
    refine ⟨⟨h0, h⟩, fun _ => ⟨⟨h0, by omega⟩, fun _ => ⟨fun hn => ?_, fun hn => ?_⟩⟩⟩
    · show false = r_
      rw [h4]
      symm
      simp only [decide_eq_false_iff_not]
      rintro ⟨rfl, rfl⟩
      simp at hn
    · rw [w64 (n := i + 1) (by omega)]
      refine ⟨⟨by omega, by omega, h2, fun j hj => ?_, h4⟩, lxo_⟩
      by_cases hji : j = i.toNat
      · subst hji; simpa using hn
      · exact h3 j (by omega)
  · simp only [decide_eq_false_iff_not] at h
    show true = r_
    rw [h4]
    symm
    simp only [decide_eq_true_eq]
    exact ⟨ext_getD h2 fun j hj => (h3 j (by omega)).1, ext_getD (by omega) fun j hj => (h3 j (by omega)).2⟩
theorem r12_Same_ok : EOk 16 e_r12_Same :=
  ent_wp Dg T_r12_State_ok (I := [411000000005, 411000000002, 411000000003]) Tryz.func16 mix (B := bodyOf Tryz.f16) (by kernel_rfl) rfl (by kernel_rfl) 400
    fun p0 xa xz u0 u1 u2 u3 u4 u5 u6 u7 ya yz v0 v1 v2 v3 v4 v5 v6 v7 hb hp => have hl0 : xa.length ≤ 9223372036854775807 := hb.1.1; have hl1 : ya.length ≤ 9223372036854775807 := hb.2.1.1; have hp0 : xa.length = xz.length := hp _ (.head _); have hp1 : ya.length = yz.length := hp _ (.tail _ (.head _)); ⟨[r12_Same_h0 p0 xa xz u0 u1 u2 u3 u4 u5 u6 u7 ya yz v0 v1 v2 v3 v4 v5 v6 v7], fun j => List.getD [appC (Hd.kd (r12_Same_h0 p0 xa xz u0 u1 u2 u3 u4 u5 u6 u7 ya yz v0 v1 v2 v3 v4 v5 v6 v7)) (fun i' => r12_Same_I0 xa xz u0 u1 u2 u3 u4 u5 u6 u7 ya yz v0 v1 v2 v3 v4 v5 v6 v7 i' (r12_Same xa xz u0 u1 u2 u3 u4 u5 u6 u7 ya yz v0 v1 v2 v3 v4 v5 v6 v7))] j (fun _ => False), fun j => List.getD [appC (Hd.kd (r12_Same_h0 p0 xa xz u0 u1 u2 u3 u4 u5 u6 u7 ya yz v0 v1 v2 v3 v4 v5 v6 v7)) (fun i' => ((xa.length - i').toNat, 0, 0))] j (fun _ => (0, 0, 0)), by kernel_rfl, ⟨r12_Same_w xa xz u0 u1 u2 u3 u4 u5 u6 u7 ya yz v0 v1 v2 v3 v4 v5 v6 v7 (fun i' => r12_Same_I0 xa xz u0 u1 u2 u3 u4 u5 u6 u7 ya yz v0 v1 v2 v3 v4 v5 v6 v7 i' (r12_Same xa xz u0 u1 u2 u3 u4 u5 u6 u7 ya yz v0 v1 v2 v3 v4 v5 v6 v7)) (fun r__ => r__ = (r12_Same xa xz u0 u1 u2 u3 u4 u5 u6 u7 ya yz v0 v1 v2 v3 v4 v5 v6 v7)), fun _ _ _ => by kernel_rfl, r12_Same_begin xa xz u0 u1 u2 u3 u4 u5 u6 u7 ya yz v0 v1 v2 v3 v4 v5 v6 v7 hp0 hp1 hl0 hl1 ⟩, ⟨fun i hI => ⟨r12_Same_w0 xa xz u0 u1 u2 u3 u4 u5 u6 u7 ya yz v0 v1 v2 v3 v4 v5 v6 v7 i (fun i' => r12_Same_I0 xa xz u0 u1 u2 u3 u4 u5 u6 u7 ya yz v0 v1 v2 v3 v4 v5 v6 v7 i' (r12_Same xa xz u0 u1 u2 u3 u4 u5 u6 u7 ya yz v0 v1 v2 v3 v4 v5 v6 v7) ∧ lx ((xa.length - i').toNat, 0, 0) ((xa.length - i).toNat, 0, 0)) (fun r__ => r__ = (r12_Same xa xz u0 u1 u2 u3 u4 u5 u6 u7 ya yz v0 v1 v2 v3 v4 v5 v6 v7)), fun _ _ _ => by kernel_rfl, r12_Same_step0 xa xz u0 u1 u2 u3 u4 u5 u6 u7 ya yz v0 v1 v2 v3 v4 v5 v6 v7 hp0 hp1 hl0 hl1 i hI⟩, trivial⟩⟩
def T_r12_Same : Tb := (16, e_r12_Same) :: T_r12_State
theorem T_r12_Same_ok : TOk T_r12_Same := tc_ r12_Same_ok T_r12_State_ok
end Go.Proofs.YtcbeifgnccbfbaaGreat
namespace Go.Proofs.YtcbeifgnccbfbaaGreat
open Go.Sl
def sp_used (s : VS) (t : Int) (p : Int) (h : Int) (g : Int) (n : Int) : VS := (let r1 : Ty (Ct.RK c_view_Put) := VS.set s (place_Info t p h g) (Prod.fst (info_Put (2 : Int) n (0 : Int))); (let r3 : Ty (Ct.RK c_view_Put) := VS.set r1 (place_Foot t p h (IntKind.wrap IntKind.i64 (IntKind.wrap IntKind.i64 (g + n) - (1 : Int)))) (IntKind.wrap IntKind.u32 (IntKind.wrap IntKind.i64 (g + (1 : Int)))); r3))
def sp_used_out (r_ : VS) : List Value → Value := fun ss => undef
def sp_used_nw (p_0 : Addr) (r_ : VS) : List (Chunk Sg) := [.obj p_0 (.view (r_))]
def sp_used_rows (r_ : VS) : List (Mk Sg) := []
section
variable (s : VS) (t : Int) (p : Int) (h : Int) (g : Int) (n : Int) (p_0 : Addr)
theorem sp_used_calls {E_ : World} {G_ : Hp} {w_ : World} (hS : Sat E_ G_ w_ [Dg p_0 ((.view s))]) : Calls Tryz.prog 138 #[(.agg #[.pointer (some p_0), .int .i64 t, .int .i64 p, .int .i64 h]), (.int .i64 g), (.int .i64 n)] w_ (Post Dg E_ G_ (sp_used_out (sp_used s t p h g n)) (sp_used_nw p_0 (sp_used s t p h g n)) (sp_used_rows (sp_used s t p h g n))) :=
  calls_post Dg T_r12_Same_ok (I := []) Tryz.func138 mix (B := bodyOf Tryz.f138) (by kernel_rfl) [(.agg #[.pointer (some p_0), .int .i64 t, .int .i64 p, .int .i64 h]), (.int .i64 g), (.int .i64 n)] [.many [.pt 0 .obj, .no, .no, .no], .no, .no] (by kernel_rfl) (objs := [.obj p_0 (.view s)]) (ros := []) (psOk_cons (by simp [pOk, psOk, cOk]) (psOk_cons pOk_no (psOk_cons pOk_no (psOk_nil)))) (by kernel_rfl) (trivial) hS 400
    (t := Tree.fresh fun b => Tree.bind (VS.set s (place_Info t p h g) (Prod.fst (info_Put (2 : Int) n (0 : Int)))) fun a => Tree.need (bd32 (Prod.fst (info_Put (2 : Int) n (0 : Int)))) (Tree.bind (VS.set a (place_Foot t p h (IntKind.wrap IntKind.i64 (IntKind.wrap IntKind.i64 (g + n) - (1 : Int)))) (IntKind.wrap IntKind.u32 (IntKind.wrap IntKind.i64 (g + (1 : Int))))) fun a_1 => Tree.need (bd32 (IntKind.wrap IntKind.u32 (IntKind.wrap IntKind.i64 (g + (1 : Int))))) (Tree.ret (Value.tuple { toList := [] }) pn_ [Chunk.obj p_0 (Option.getD (some (Wr.inj wView a_1)) (Option.getD (some (Wr.inj wView a)) (Sg.view s))), kc_ b 147 [(Value.pointer (some p_0), po_ 0), (vi_ t, pn_), (vi_ p, pn_), (vi_ h, pn_)]])))
    (by kernel_rfl)
    (fun b0_0 => fun r1 e1 => ⟨by first | exact wu32_bd _ | exact VS.get_bd _ _ | exact zero_bd | (rw [info_Put_val]; exact iVal_bd _ _ _) | (subst_vars; exact VS.get_bd _ _) | omega, fun y2 => fun r3 e3 => ⟨by first | exact wu32_bd _ | exact VS.get_bd _ _ | exact zero_bd | (rw [info_Put_val]; exact iVal_bd _ _ _) | (subst_vars; exact VS.get_bd _ _) | omega, fun y4 => RetOk.at (outf := sp_used_out) (nwf := sp_used_nw p_0) (rowsf := sp_used_rows) (r := r3) (by subst e1; subst e3; first | exact Eq.symm rfl | (simp only [sp_used, cond_true, cond_false]; done) | (exfalso; simp_all; done) | decide) ⟨[], [0], (by decide), rfl, rfl, ⟨.inl rfl, trivial⟩⟩⟩⟩)
end
def sp_used_e : Entry Sg := fun
  | [(.agg ⟨[.pointer (some p_0), .int .i64 t, .int .i64 p, .int .i64 h]⟩, .many [.obj (.view s), .none, .none, .none]), (.int .i64 g, _), (.int .i64 n, _)] => some ⟨(sp_used s t p h g n), fun (r_ : VS) => ⟨[], some (.view (r_)), [], fun ss => undef, fun k_ => .no⟩⟩
  | _ => none
theorem sp_used_ok : EntryOk Dg Tryz.prog 138 sp_used_e := by
  intro args c r h hr_
  unfold sp_used_e at h
  split at h
  · injection h with h; subst h; subst hr_
    refine ⟨fun K acs _ => pOk_no, fun hpre E G w hi hS => ?_⟩
    exact entry_post Dg (by exact rfl) (sp_used_calls _ _ _ _ _ _ _  hS)
  · cases h
def T_sp_used : List (Nat × Entry Sg) := (138, sp_used_e) :: T_r12_Same
theorem T_sp_used_ok : TableOk Dg Tryz.prog T_sp_used := TableOk.cons Dg sp_used_ok T_r12_Same_ok
def sp_free (s : VS) (t : Int) (p : Int) (h : Int) (g : Int) : VS × Int := (let r1 : Ty (Ct.RK c_place_Info) := place_Info t p h g; (let r2 : Ty (Ct.RK c_view_Get) := (VS.read s r1, VS.get s r1); (let r3 : Ty (Ct.RK c_info_Get) := info_Get (Prod.snd r2); (bif Prod.fst r3 != (1 : Int) then (Prod.fst r2, (0 : Int)) else (Prod.fst r2, Prod.fst (Prod.snd r3))))))
def sp_free_out (r_ : VS × Int) : List Value → Value := fun ss => .int .i64 (r_.2)
def sp_free_nw (p_0 : Addr) (r_ : VS × Int) : List (Chunk Sg) := [.obj p_0 (.view (r_.1))]
def sp_free_rows (r_ : VS × Int) : List (Mk Sg) := []
section
variable (s : VS) (t : Int) (p : Int) (h : Int) (g : Int) (p_0 : Addr)
theorem sp_free_calls {E_ : World} {G_ : Hp} {w_ : World} (hS : Sat E_ G_ w_ [Dg p_0 ((.view s))]) : Calls Tryz.prog 109 #[(.agg #[.pointer (some p_0), .int .i64 t, .int .i64 p, .int .i64 h]), (.int .i64 g)] w_ (Post Dg E_ G_ (sp_free_out (sp_free s t p h g)) (sp_free_nw p_0 (sp_free s t p h g)) (sp_free_rows (sp_free s t p h g))) :=
  calls_post Dg T_sp_used_ok (I := []) Tryz.func109 mix (B := bodyOf Tryz.f109) (by kernel_rfl) [(.agg #[.pointer (some p_0), .int .i64 t, .int .i64 p, .int .i64 h]), (.int .i64 g)] [.many [.pt 0 .obj, .no, .no, .no], .no] (by kernel_rfl) (objs := [.obj p_0 (.view s)]) (ros := []) (psOk_cons (by simp [pOk, psOk, cOk]) (psOk_cons pOk_no (psOk_nil))) (by kernel_rfl) (trivial) hS 400
    (t := Tree.fresh fun b => Tree.two (Tree.bind (place_Info t p h g) fun a => Tree.two (Tree.bind (VS.read s a, VS.get s a) fun a => Tree.two (Tree.bind (info_Get (Prod.snd a)) fun a_1 => Tree.fresh fun b_1 => Tree.br (Prod.fst a_1 != (1 : Int)) (Tree.ret (vi_ (0 : Int)) pn_ [Chunk.obj p_0 (Option.getD (some (Wr.inj wView (Prod.fst a))) (Sg.view s)), kc_ b 147 [(Value.pointer (some p_0), po_ 0), (vi_ t, pn_), (vi_ p, pn_), (vi_ h, pn_)], kc_ b_1 50 [(vi_ (Prod.fst a_1), pn_), (vi_ (Prod.fst (Prod.snd a_1)), pn_), (vi_ (Prod.fst (Prod.snd (Prod.snd a_1))), pn_)]]) (Tree.ret (vi_ (Prod.fst (Prod.snd a_1))) pn_ [Chunk.obj p_0 (Option.getD (some (Wr.inj wView (Prod.fst a))) (Sg.view s)), kc_ b 147 [(Value.pointer (some p_0), po_ 0), (vi_ t, pn_), (vi_ p, pn_), (vi_ h, pn_)], kc_ b_1 50 [(vi_ (Prod.fst a_1), pn_), (vi_ (Prod.fst (Prod.snd a_1)), pn_), (vi_ (Prod.fst (Prod.snd (Prod.snd a_1))), pn_)]])) (Tree.fresh fun b_1 => Tree.bind (info_Get (Prod.snd a)) fun a_1 => Tree.br (Prod.fst a_1 != (1 : Int)) (Tree.ret (vi_ (0 : Int)) pn_ [Chunk.obj p_0 (Option.getD (some (Wr.inj wView (Prod.fst a))) (Sg.view s)), kc_ b 147 [(Value.pointer (some p_0), po_ 0), (vi_ t, pn_), (vi_ p, pn_), (vi_ h, pn_)], kc_ b_1 50 [(vi_ (Prod.fst a_1), pn_), (vi_ (Prod.fst (Prod.snd a_1)), pn_), (vi_ (Prod.fst (Prod.snd (Prod.snd a_1))), pn_)]]) (Tree.ret (vi_ (Prod.fst (Prod.snd a_1))) pn_ [Chunk.obj p_0 (Option.getD (some (Wr.inj wView (Prod.fst a))) (Sg.view s)), kc_ b 147 [(Value.pointer (some p_0), po_ 0), (vi_ t, pn_), (vi_ p, pn_), (vi_ h, pn_)], kc_ b_1 50 [(vi_ (Prod.fst a_1), pn_), (vi_ (Prod.fst (Prod.snd a_1)), pn_), (vi_ (Prod.fst (Prod.snd (Prod.snd a_1))), pn_)]]))) (Tree.fresh fun b_1 => Tree.bind (VS.read s a, VS.get s a) fun a => Tree.bind (info_Get (Prod.snd a)) fun a_1 => Tree.br (Prod.fst a_1 != (1 : Int)) (Tree.ret (vi_ (0 : Int)) pn_ [Chunk.obj p_0 (Option.getD (some (Wr.inj wView (Prod.fst a))) (Sg.view s)), kc_ b 147 [(Value.pointer (some p_0), po_ 0), (vi_ t, pn_), (vi_ p, pn_), (vi_ h, pn_)], kc_ b_1 50 [(vi_ (Prod.fst a_1), pn_), (vi_ (Prod.fst (Prod.snd a_1)), pn_), (vi_ (Prod.fst (Prod.snd (Prod.snd a_1))), pn_)]]) (Tree.ret (vi_ (Prod.fst (Prod.snd a_1))) pn_ [Chunk.obj p_0 (Option.getD (some (Wr.inj wView (Prod.fst a))) (Sg.view s)), kc_ b 147 [(Value.pointer (some p_0), po_ 0), (vi_ t, pn_), (vi_ p, pn_), (vi_ h, pn_)], kc_ b_1 50 [(vi_ (Prod.fst a_1), pn_), (vi_ (Prod.fst (Prod.snd a_1)), pn_), (vi_ (Prod.fst (Prod.snd (Prod.snd a_1))), pn_)]]))) (Tree.fresh fun b_1 => Tree.bind (place_Info t p h g) fun a => Tree.bind (VS.read s a, VS.get s a) fun a => Tree.bind (info_Get (Prod.snd a)) fun a_1 => Tree.br (Prod.fst a_1 != (1 : Int)) (Tree.ret (vi_ (0 : Int)) pn_ [Chunk.obj p_0 (Option.getD (some (Wr.inj wView (Prod.fst a))) (Sg.view s)), kc_ b 147 [(Value.pointer (some p_0), po_ 0), (vi_ t, pn_), (vi_ p, pn_), (vi_ h, pn_)], kc_ b_1 50 [(vi_ (Prod.fst a_1), pn_), (vi_ (Prod.fst (Prod.snd a_1)), pn_), (vi_ (Prod.fst (Prod.snd (Prod.snd a_1))), pn_)]]) (Tree.ret (vi_ (Prod.fst (Prod.snd a_1))) pn_ [Chunk.obj p_0 (Option.getD (some (Wr.inj wView (Prod.fst a))) (Sg.view s)), kc_ b 147 [(Value.pointer (some p_0), po_ 0), (vi_ t, pn_), (vi_ p, pn_), (vi_ h, pn_)], kc_ b_1 50 [(vi_ (Prod.fst a_1), pn_), (vi_ (Prod.fst (Prod.snd a_1)), pn_), (vi_ (Prod.fst (Prod.snd (Prod.snd a_1))), pn_)]])))
    (by kernel_rfl)
    (fun b0_0 => ⟨fun r1 e1 => ⟨fun r2 e2 => ⟨fun r3 e3 => fun b4_0 => ⟨fun z5 => RetOk.at (outf := sp_free_out) (nwf := sp_free_nw p_0) (rowsf := sp_free_rows) (r := (Prod.fst r2, (0 : Int))) (by subst e1; subst e2; subst e3; first | exact Eq.symm ((cT z5).trans rfl) | (simp only [sp_free, z5, cond_true, cond_false]; done) | (exfalso; simp_all; done) | decide) ⟨[], [0], (by decide), rfl, rfl, ⟨.inl rfl, trivial⟩⟩, fun z5 => RetOk.at (outf := sp_free_out) (nwf := sp_free_nw p_0) (rowsf := sp_free_rows) (r := (Prod.fst r2, Prod.fst (Prod.snd r3))) (by subst e1; subst e2; subst e3; first | exact Eq.symm ((cF z5).trans rfl) | (simp only [sp_free, z5, cond_true, cond_false]; done) | (exfalso; simp_all; done) | decide) ⟨[], [0], (by decide), rfl, rfl, ⟨.inl rfl, trivial⟩⟩⟩, fun b3_0 => fun r4 e4 => ⟨fun z5 => RetOk.at (outf := sp_free_out) (nwf := sp_free_nw p_0) (rowsf := sp_free_rows) (r := (Prod.fst r2, (0 : Int))) (by subst e1; subst e2; subst e4; first | exact Eq.symm ((cT z5).trans rfl) | (simp only [sp_free, z5, cond_true, cond_false]; done) | (exfalso; simp_all; done) | decide) ⟨[], [0], (by decide), rfl, rfl, ⟨.inl rfl, trivial⟩⟩, fun z5 => RetOk.at (outf := sp_free_out) (nwf := sp_free_nw p_0) (rowsf := sp_free_rows) (r := (Prod.fst r2, Prod.fst (Prod.snd r4))) (by subst e1; subst e2; subst e4; first | exact Eq.symm ((cF z5).trans rfl) | (simp only [sp_free, z5, cond_true, cond_false]; done) | (exfalso; simp_all; done) | decide) ⟨[], [0], (by decide), rfl, rfl, ⟨.inl rfl, trivial⟩⟩⟩⟩, fun b2_0 => fun r3 e3 => fun r4 e4 => ⟨fun z5 => RetOk.at (outf := sp_free_out) (nwf := sp_free_nw p_0) (rowsf := sp_free_rows) (r := (Prod.fst r3, (0 : Int))) (by subst e1; subst e3; subst e4; first | exact Eq.symm ((cT z5).trans rfl) | (simp only [sp_free, z5, cond_true, cond_false]; done) | (exfalso; simp_all; done) | decide) ⟨[], [0], (by decide), rfl, rfl, ⟨.inl rfl, trivial⟩⟩, fun z5 => RetOk.at (outf := sp_free_out) (nwf := sp_free_nw p_0) (rowsf := sp_free_rows) (r := (Prod.fst r3, Prod.fst (Prod.snd r4))) (by subst e1; subst e3; subst e4; first | exact Eq.symm ((cF z5).trans rfl) | (simp only [sp_free, z5, cond_true, cond_false]; done) | (exfalso; simp_all; done) | decide) ⟨[], [0], (by decide), rfl, rfl, ⟨.inl rfl, trivial⟩⟩⟩⟩, fun b1_0 => fun r2 e2 => fun r3 e3 => fun r4 e4 => ⟨fun z5 => RetOk.at (outf := sp_free_out) (nwf := sp_free_nw p_0) (rowsf := sp_free_rows) (r := (Prod.fst r3, (0 : Int))) (by subst e2; subst e3; subst e4; first | exact Eq.symm ((cT z5).trans rfl) | (simp only [sp_free, z5, cond_true, cond_false]; done) | (exfalso; simp_all; done) | decide) ⟨[], [0], (by decide), rfl, rfl, ⟨.inl rfl, trivial⟩⟩, fun z5 => RetOk.at (outf := sp_free_out) (nwf := sp_free_nw p_0) (rowsf := sp_free_rows) (r := (Prod.fst r3, Prod.fst (Prod.snd r4))) (by subst e2; subst e3; subst e4; first | exact Eq.symm ((cF z5).trans rfl) | (simp only [sp_free, z5, cond_true, cond_false]; done) | (exfalso; simp_all; done) | decide) ⟨[], [0], (by decide), rfl, rfl, ⟨.inl rfl, trivial⟩⟩⟩⟩)
end
def sp_free_e : Entry Sg := fun
  | [(.agg ⟨[.pointer (some p_0), .int .i64 t, .int .i64 p, .int .i64 h]⟩, .many [.obj (.view s), .none, .none, .none]), (.int .i64 g, _)] => some ⟨(sp_free s t p h g), fun (r_ : VS × Int) => ⟨[], some (.view (r_.1)), [], fun ss => .int .i64 (r_.2), fun k_ => .no⟩⟩
  | _ => none
theorem sp_free_ok : EntryOk Dg Tryz.prog 109 sp_free_e := by
  intro args c r h hr_
  unfold sp_free_e at h
  split at h
  · injection h with h; subst h; subst hr_
    refine ⟨fun K acs _ => pOk_no, fun hpre E G w hi hS => ?_⟩
    exact entry_post Dg (by exact rfl) (sp_free_calls _ _ _ _ _ _  hS)
  · cases h
def T_sp_free : List (Nat × Entry Sg) := (109, sp_free_e) :: T_sp_used
theorem T_sp_free_ok : TableOk Dg Tryz.prog T_sp_free := TableOk.cons Dg sp_free_ok T_sp_used_ok
def sp_count (s : VS) (t : Int) (p : Int) (h : Int) (n : Int) : VS := (let r1 : Ty (Ct.RK c_view_Get) := (VS.read s (0 : Int), VS.get s (0 : Int)); (let r2 : Ty (Ct.RK c_view_Put) := VS.set (Prod.fst r1) (0 : Int) (IntKind.wrap IntKind.u32 (Prod.snd r1 + IntKind.wrap IntKind.u32 n)); r2))
def sp_count_out (r_ : VS) : List Value → Value := fun ss => undef
def sp_count_nw (p_0 : Addr) (r_ : VS) : List (Chunk Sg) := [.obj p_0 (.view (r_))]
def sp_count_rows (r_ : VS) : List (Mk Sg) := []
section
variable (s : VS) (t : Int) (p : Int) (h : Int) (n : Int) (p_0 : Addr)
theorem sp_count_calls {E_ : World} {G_ : Hp} {w_ : World} (hS : Sat E_ G_ w_ [Dg p_0 ((.view s))]) : Calls Tryz.prog 112 #[(.agg #[.pointer (some p_0), .int .i64 t, .int .i64 p, .int .i64 h]), (.int .i64 n)] w_ (Post Dg E_ G_ (sp_count_out (sp_count s t p h n)) (sp_count_nw p_0 (sp_count s t p h n)) (sp_count_rows (sp_count s t p h n))) :=
  calls_post Dg T_sp_free_ok (I := []) Tryz.func112 mix (B := bodyOf Tryz.f112) (by kernel_rfl) [(.agg #[.pointer (some p_0), .int .i64 t, .int .i64 p, .int .i64 h]), (.int .i64 n)] [.many [.pt 0 .obj, .no, .no, .no], .no] (by kernel_rfl) (objs := [.obj p_0 (.view s)]) (ros := []) (psOk_cons (by simp [pOk, psOk, cOk]) (psOk_cons pOk_no (psOk_nil))) (by kernel_rfl) (trivial) hS 400
    (t := Tree.fresh fun b => Tree.bind (VS.read s (0 : Int), VS.get s (0 : Int)) fun a => Tree.bind (VS.set (Prod.fst a) (0 : Int) (IntKind.wrap IntKind.u32 (Prod.snd a + IntKind.wrap IntKind.u32 n))) fun a_1 => Tree.need (bd32 (IntKind.wrap IntKind.u32 (Prod.snd a + IntKind.wrap IntKind.u32 n))) (Tree.ret (Value.tuple { toList := [] }) pn_ [Chunk.obj p_0 (Option.getD (some (Wr.inj wView a_1)) (Option.getD (some (Wr.inj wView (Prod.fst a))) (Sg.view s))), kc_ b 147 [(Value.pointer (some p_0), po_ 0), (vi_ t, pn_), (vi_ p, pn_), (vi_ h, pn_)]]))
    (by kernel_rfl)
    (fun b0_0 => fun r1 e1 => fun r2 e2 => ⟨by first | exact wu32_bd _ | exact VS.get_bd _ _ | exact zero_bd | (rw [info_Put_val]; exact iVal_bd _ _ _) | (subst_vars; exact VS.get_bd _ _) | omega, fun y3 => RetOk.at (outf := sp_count_out) (nwf := sp_count_nw p_0) (rowsf := sp_count_rows) (r := r2) (by subst e1; subst e2; first | exact Eq.symm rfl | (simp only [sp_count, cond_true, cond_false]; done) | (exfalso; simp_all; done) | decide) ⟨[], [0], (by decide), rfl, rfl, ⟨.inl rfl, trivial⟩⟩⟩)
end
def sp_count_e : Entry Sg := fun
  | [(.agg ⟨[.pointer (some p_0), .int .i64 t, .int .i64 p, .int .i64 h]⟩, .many [.obj (.view s), .none, .none, .none]), (.int .i64 n, _)] => some ⟨(sp_count s t p h n), fun (r_ : VS) => ⟨[], some (.view (r_)), [], fun ss => undef, fun k_ => .no⟩⟩
  | _ => none
theorem sp_count_ok : EntryOk Dg Tryz.prog 112 sp_count_e := by
  intro args c r h hr_
  unfold sp_count_e at h
  split at h
  · injection h with h; subst h; subst hr_
    refine ⟨fun K acs _ => pOk_no, fun hpre E G w hi hS => ?_⟩
    exact entry_post Dg (by exact rfl) (sp_count_calls _ _ _ _ _ _  hS)
  · cases h
def T_sp_count : List (Nat × Entry Sg) := (112, sp_count_e) :: T_sp_free
theorem T_sp_count_ok : TableOk Dg Tryz.prog T_sp_count := TableOk.cons Dg sp_count_ok T_sp_free_ok
def sp_join (s : VS) (t : Int) (p : Int) (h : Int) (g : Int) (b : Int) : VS × Int := (let r1 : Ty (Ct.RK c_bin_Drop) := bin_Drop s t p h g; (let r2 : Ty (Ct.RK c_view_Put) := VS.set (Prod.fst r1) (place_Info t p h b) (0 : Int); (let r4 : Ty (Ct.RK c_view_Put) := VS.set r2 (place_Foot t p h (IntKind.wrap IntKind.i64 (b - (1 : Int)))) (0 : Int); (r4, Prod.snd r1))))
def sp_join_out (r_ : VS × Int) : List Value → Value := fun ss => .int .i64 (r_.2)
def sp_join_nw (p_0 : Addr) (r_ : VS × Int) : List (Chunk Sg) := [.obj p_0 (.view (r_.1))]
def sp_join_rows (r_ : VS × Int) : List (Mk Sg) := []
section
variable (s : VS) (t : Int) (p : Int) (h : Int) (g : Int) (b : Int) (p_0 : Addr)
theorem sp_join_calls {E_ : World} {G_ : Hp} {w_ : World} (hS : Sat E_ G_ w_ [Dg p_0 ((.view s))]) : Calls Tryz.prog 110 #[(.agg #[.pointer (some p_0), .int .i64 t, .int .i64 p, .int .i64 h]), (.int .i64 g), (.int .i64 b)] w_ (Post Dg E_ G_ (sp_join_out (sp_join s t p h g b)) (sp_join_nw p_0 (sp_join s t p h g b)) (sp_join_rows (sp_join s t p h g b))) :=
  calls_post Dg T_sp_count_ok (I := []) Tryz.func110 mix (B := bodyOf Tryz.f110) (by kernel_rfl) [(.agg #[.pointer (some p_0), .int .i64 t, .int .i64 p, .int .i64 h]), (.int .i64 g), (.int .i64 b)] [.many [.pt 0 .obj, .no, .no, .no], .no, .no] (by kernel_rfl) (objs := [.obj p_0 (.view s)]) (ros := []) (psOk_cons (by simp [pOk, psOk, cOk]) (psOk_cons pOk_no (psOk_cons pOk_no (psOk_nil)))) (by kernel_rfl) (trivial) hS 400
    (t := Tree.fresh fun b_1 => Tree.bind (bin_Drop s t p h g) fun a => Tree.bind (VS.set (Prod.fst a) (place_Info t p h b) (0 : Int)) fun a_1 => Tree.need (bd32 (0 : Int)) (Tree.bind (VS.set a_1 (place_Foot t p h (IntKind.wrap IntKind.i64 (b - (1 : Int)))) (0 : Int)) fun a_2 => Tree.need (bd32 (0 : Int)) (Tree.ret (vi_ (Prod.snd a)) pn_ [Chunk.obj p_0 (Option.getD (some (Wr.inj wView a_2)) (Option.getD (some (Wr.inj wView a_1)) (Option.getD (some (Wr.inj wView (Prod.fst a))) (Sg.view s)))), kc_ b_1 147 [(Value.pointer (some p_0), po_ 0), (vi_ t, pn_), (vi_ p, pn_), (vi_ h, pn_)]])))
    (by kernel_rfl)
    (fun b0_0 => fun r1 e1 => fun r2 e2 => ⟨by first | exact wu32_bd _ | exact VS.get_bd _ _ | exact zero_bd | (rw [info_Put_val]; exact iVal_bd _ _ _) | (subst_vars; exact VS.get_bd _ _) | omega, fun y3 => fun r4 e4 => ⟨by first | exact wu32_bd _ | exact VS.get_bd _ _ | exact zero_bd | (rw [info_Put_val]; exact iVal_bd _ _ _) | (subst_vars; exact VS.get_bd _ _) | omega, fun y5 => RetOk.at (outf := sp_join_out) (nwf := sp_join_nw p_0) (rowsf := sp_join_rows) (r := (r4, Prod.snd r1)) (by subst e1; subst e2; subst e4; first | exact Eq.symm rfl | (simp only [sp_join, cond_true, cond_false]; done) | (exfalso; simp_all; done) | decide) ⟨[], [0], (by decide), rfl, rfl, ⟨.inl rfl, trivial⟩⟩⟩⟩)
end
def sp_join_e : Entry Sg := fun
  | [(.agg ⟨[.pointer (some p_0), .int .i64 t, .int .i64 p, .int .i64 h]⟩, .many [.obj (.view s), .none, .none, .none]), (.int .i64 g, _), (.int .i64 b, _)] => some ⟨(sp_join s t p h g b), fun (r_ : VS × Int) => ⟨[], some (.view (r_.1)), [], fun ss => .int .i64 (r_.2), fun k_ => .no⟩⟩
  | _ => none
theorem sp_join_ok : EntryOk Dg Tryz.prog 110 sp_join_e := by
  intro args c r h hr_
  unfold sp_join_e at h
  split at h
  · injection h with h; subst h; subst hr_
    refine ⟨fun K acs _ => pOk_no, fun hpre E G w hi hS => ?_⟩
    exact entry_post Dg (by exact rfl) (sp_join_calls _ _ _ _ _ _ _  hS)
  · cases h
def T_sp_join : List (Nat × Entry Sg) := (110, sp_join_e) :: T_sp_count
theorem T_sp_join_ok : TableOk Dg Tryz.prog T_sp_join := TableOk.cons Dg sp_join_ok T_sp_count_ok
def sp_ahead (s : VS) (t : Int) (p : Int) (h : Int) (g : Int) : VS × Int := (bif g == (0 : Int) then (s, (-1 : Int)) else (let r2 : Ty (Ct.RK c_view_Get) := (VS.read s (place_Foot t p h (IntKind.wrap IntKind.i64 (g - (1 : Int)))), VS.get s (place_Foot t p h (IntKind.wrap IntKind.i64 (g - (1 : Int))))); (Prod.fst r2, IntKind.wrap IntKind.i64 (IntKind.wrap IntKind.i64 (Prod.snd r2) - (1 : Int)))))
def sp_ahead_out (r_ : VS × Int) : List Value → Value := fun ss => .int .i64 (r_.2)
def sp_ahead_nw (p_0 : Addr) (r_ : VS × Int) : List (Chunk Sg) := [.obj p_0 (.view (r_.1))]
def sp_ahead_rows (r_ : VS × Int) : List (Mk Sg) := []
section
variable (s : VS) (t : Int) (p : Int) (h : Int) (g : Int) (p_0 : Addr)
theorem sp_ahead_calls {E_ : World} {G_ : Hp} {w_ : World} (hS : Sat E_ G_ w_ [Dg p_0 ((.view s))]) : Calls Tryz.prog 108 #[(.agg #[.pointer (some p_0), .int .i64 t, .int .i64 p, .int .i64 h]), (.int .i64 g)] w_ (Post Dg E_ G_ (sp_ahead_out (sp_ahead s t p h g)) (sp_ahead_nw p_0 (sp_ahead s t p h g)) (sp_ahead_rows (sp_ahead s t p h g))) :=
  calls_post Dg T_sp_join_ok (I := []) Tryz.func108 mix (B := bodyOf Tryz.f108) (by kernel_rfl) [(.agg #[.pointer (some p_0), .int .i64 t, .int .i64 p, .int .i64 h]), (.int .i64 g)] [.many [.pt 0 .obj, .no, .no, .no], .no] (by kernel_rfl) (objs := [.obj p_0 (.view s)]) (ros := []) (psOk_cons (by simp [pOk, psOk, cOk]) (psOk_cons pOk_no (psOk_nil))) (by kernel_rfl) (trivial) hS 400
    (t := Tree.fresh fun b => Tree.br (g == (0 : Int)) (Tree.ret (vi_ (-1 : Int)) pn_ [Chunk.obj p_0 (Sg.view s), kc_ b 147 [(Value.pointer (some p_0), po_ 0), (vi_ t, pn_), (vi_ p, pn_), (vi_ h, pn_)]]) (Tree.bind (VS.read s (place_Foot t p h (IntKind.wrap IntKind.i64 (g - (1 : Int)))), VS.get s (place_Foot t p h (IntKind.wrap IntKind.i64 (g - (1 : Int))))) fun a => Tree.ret (vi_ (IntKind.wrap IntKind.i64 (IntKind.wrap IntKind.i64 (Prod.snd a) - (1 : Int)))) pn_ [Chunk.obj p_0 (Option.getD (some (Wr.inj wView (Prod.fst a))) (Sg.view s)), kc_ b 147 [(Value.pointer (some p_0), po_ 0), (vi_ t, pn_), (vi_ p, pn_), (vi_ h, pn_)]]))
    (by kernel_rfl)
    (fun b0_0 => ⟨fun z1 => RetOk.at (outf := sp_ahead_out) (nwf := sp_ahead_nw p_0) (rowsf := sp_ahead_rows) (r := (s, (-1 : Int))) (by first | exact Eq.symm ((cT z1).trans rfl) | (simp only [sp_ahead, z1, cond_true, cond_false]; done) | (exfalso; simp_all; done) | decide) ⟨[], [0], (by decide), rfl, rfl, ⟨.inl rfl, trivial⟩⟩, fun z1 => fun r2 e2 => RetOk.at (outf := sp_ahead_out) (nwf := sp_ahead_nw p_0) (rowsf := sp_ahead_rows) (r := (Prod.fst r2, IntKind.wrap IntKind.i64 (IntKind.wrap IntKind.i64 (Prod.snd r2) - (1 : Int)))) (by subst e2; first | exact Eq.symm ((cF z1).trans rfl) | (simp only [sp_ahead, z1, cond_true, cond_false]; done) | (exfalso; simp_all; done) | decide) ⟨[], [0], (by decide), rfl, rfl, ⟨.inl rfl, trivial⟩⟩⟩)
end
def sp_ahead_e : Entry Sg := fun
  | [(.agg ⟨[.pointer (some p_0), .int .i64 t, .int .i64 p, .int .i64 h]⟩, .many [.obj (.view s), .none, .none, .none]), (.int .i64 g, _)] => some ⟨(sp_ahead s t p h g), fun (r_ : VS × Int) => ⟨[], some (.view (r_.1)), [], fun ss => .int .i64 (r_.2), fun k_ => .no⟩⟩
  | _ => none
theorem sp_ahead_ok : EntryOk Dg Tryz.prog 108 sp_ahead_e := by
  intro args c r h hr_
  unfold sp_ahead_e at h
  split at h
  · injection h with h; subst h; subst hr_
    refine ⟨fun K acs _ => pOk_no, fun hpre E G w hi hS => ?_⟩
    exact entry_post Dg (by exact rfl) (sp_ahead_calls _ _ _ _ _ _  hS)
  · cases h
def T_sp_ahead : List (Nat × Entry Sg) := (108, sp_ahead_e) :: T_sp_join
theorem T_sp_ahead_ok : TableOk Dg Tryz.prog T_sp_ahead := TableOk.cons Dg sp_ahead_ok T_sp_join_ok
end Go.Proofs.YtcbeifgnccbfbaaGreat
namespace Go.Sl
abbrev wI (x : Int) : Int := IntKind.wrap IntKind.i64 x
section
variable (c : Cf)
def qUsed (p n : Int) : Pg Unit := .put (c.info p) (iVal 2 n 0) <| .put (c.foot (wI (wI (p + n) - 1))) (nv (p + 1)) (.ret ())
def qJoin (p b : Int) : Pg Int := (pDrop c p).bind fun l => .put (c.info b) 0 <| .put (c.foot (wI (b - 1))) 0 (.ret l)
def qTake (n : Int) : Pg (Int × Bool) :=
  (pFind c n).bind fun r => bif r.2 then
    (pDrop c r.1).bind fun l => (qUsed c r.1 n).bind fun _ =>
      (bif decide (n < l) then pAdd c (wI (r.1 + n)) (wI (l - n)) else .ret ()).bind fun _ => (pCount (-n)).bind fun _ => .ret (r.1, true)
  else .ret (0, false)
def qAhead (p n : Int) : Pg (Int × Int) :=
  bif p == 0 then .ret (p, n) else .get (c.foot (wI (p - 1))) fun f =>
    (pFree c (f - 1)).bind fun l => bif decide (0 < l) then (qJoin c (f - 1) p).bind fun m => .ret (f - 1, wI (n + m)) else .ret (p, n)
def qNext (r : Int) (a : Int × Int) : Pg (Int × Int) :=
  bif decide (r < c.p) then (pFree c r).bind fun l => bif decide (0 < l) then (qJoin c r r).bind fun m => .ret (a.1, wI (a.2 + m)) else .ret a else .ret a
def qRelease (p n : Int) : Pg Unit :=
  (qAhead c p n).bind fun a => (qNext c (wI (p + n)) a).bind fun a => (pAdd c a.1 a.2).bind fun _ => pCount n
end
theorem get_out1 (s : VS) {i : Int} (h : i < 0) : s.get i = 0 ∧ s.read i = s := by
  have : s.there i = false := by
    simp only [VS.there, Bool.and_eq_false_iff, decide_eq_false_iff_not]
    omega
  unfold VS.get VS.read
  rw [this]
  exact ⟨rfl, rfl⟩
end Go.Sl
namespace Go.Proofs.YtcbeifgnccbfbaaGreat
open Go.Sl
theorem nvadd (x y : Int) : nv (x + nv y) = nv (x + y) := by unfold nv; omega
theorem nvsub (x y : Int) : nv (x - nv y) = nv (x + -y) := by unfold nv; omega
theorem nvwi0 (y : Int) : nv (IntKind.wrap IntKind.i64 y) = nv y := by rw [IntKind.wrap_i64]; unfold nv; omega
theorem nvaddw (x y : Int) : nv (x + IntKind.wrap IntKind.i64 y) = nv (x + y) := by rw [IntKind.wrap_i64]; unfold nv; omega
theorem spFree_eq (s : VS) (t p h g : Int) : sp_free s t p h g = (pFree ⟨t, p, h⟩ g).run s := by
  simp only [sp_free, pFree, Pg.run_get, Pg.run_ret, place_Info_eq, infoG1, infoG2, bne]
  cases (iGet (s.get (Cf.info ⟨t, p, h⟩ g))).k == 1 <;> rfl
theorem pFreeR (c : Cf) (g : Int) (s : VS) : (pFree c g).run s = (s.read (c.info g), bif (iGet (s.get (c.info g))).k == 1 then (iGet (s.get (c.info g))).l else 0) := rfl
theorem nvnegw (x y : Int) : nv (x + -IntKind.wrap IntKind.i64 y) = nv (x + -y) := by rw [IntKind.wrap_i64]; unfold nv; omega
theorem dz0 : decide ((0 : Int) < 0) = false := rfl
theorem dge1 (x : Int) : decide (0 ≤ x - 1) = decide (1 ≤ x) := decide_eq_decide.2 (by omega)
theorem dneg : decide ((0 : Int) ≤ -1) = false := rfl
theorem get_fb (s : VS) (i : Int) : IntKind.wrap IntKind.i64 (s.get i) = s.get i := w64g s i
theorem get_fb1 (s : VS) (i : Int) : IntKind.wrap IntKind.i64 (s.get i - 1) = s.get i - 1 := w64g1 s i
def span_Take (s : VS) (t : Int) (p : Int) (h : Int) (n : Int) : VS × Int × Bool := (qTake ⟨t, p, h⟩ n).run s
abbrev c_span_Take : Ct Sg := ⟨some wView, false, [.agg [.i .i64, .i .i64, .i .i64], .i .i64], .tup [.i .i64, .b]⟩
def e_span_Take : Entry Sg := entC c_span_Take span_Take (fun s t p h n => [p ≤ 1024])
def span_Take_w (s : VS) (t : Int) (p : Int) (h : Int) (n : Int) (R_ : VS × Int × Bool → Prop) : Prop := (∀ r2 : VS × Int × Bool, r2 = (bin_Find s t p h n) → (aw_ (p ≤ 9223372036854775807) (bw_ (!r2.2.2) (R_ ((r2.1, 0, false))) (∀ r5 : VS × Int, r5 = (bin_Drop r2.1 t p h r2.2.1) → (∀ r6 : VS, r6 = (sp_used r5.1 t p h r2.2.1 n) → (bw_ (decide (r5.2 > n)) (∀ r8 : VS, r8 = (bin_Add r6 t p h (IntKind.wrap IntKind.i64 (r2.2.1 + n)) (IntKind.wrap IntKind.i64 (r5.2 - n))) → (aw_ (p ≤ 1024) (∀ r10 : VS, r10 = (sp_count r8 t p h (IntKind.wrap IntKind.i64 (0 - n))) → (R_ ((r10, r2.2.1, true)))))) (∀ r8 : VS, r8 = (sp_count r6 t p h (IntKind.wrap IntKind.i64 (0 - n))) → (R_ ((r8, r2.2.1, true))))))))))
theorem span_Take_begin (s : VS) (t : Int) (p : Int) (h : Int) (n : Int) (hp0 : p ≤ 1024) : span_Take_w s t p h n  (fun r__ => r__ = (span_Take s t p h n)) := by
  unfold span_Take_w
  repeat' first
    | (refine fun r hr => ?_; subst hr)
    | refine ⟨(by first | exact wu32_bd _ | exact VS.get_bd _ _ | exact zero_bd | exact iVal_bd _ _ _ | exact nv_bd _ | (rw [info_Put_val]; exact iVal_bd _ _ _) | (rw [r09_Value_eq]; exact iVal_bd _ _ _) | assumption | omega), fun _ => ?_⟩
    | refine ⟨fun hc => ?_, fun hc => ?_⟩
    | (refine fun hr => ?_; subst hr)
    | fail
  all_goals
    simp only [link_page_eq, page_ne t p h, link_next, link_prev, place_Next_eq, place_Prev_eq, r07_Next_eq, r07_Prev_eq, link_to, w64g, w64g1, wrapu_nv, nvw, nvw2, bin_page, place_Info_eq, place_Foot_eq, r07_Info_eq, r07_Foot_eq, place_Bin_eq, r07_Bin_eq, info_Put_val, bin_Of, infoG1, infoG2, infoG3, rinfoG1, rinfoG2, rinfoG3, gt_iff_lt, bin_Find, bin_Drop, bin_Add, sp_used, spFree_eq, sp_count, nvadd, nvsub, nvwi0, nvaddw, nvnegw, Int.zero_sub, get_fb, get_fb1, dge1, dneg, ge_iff_le, bne, Bool.not_eq_true', Bool.not_eq_false', reduceCtorEq] at *
  all_goals
    skip
  all_goals
    simp only [span_Take, qUsed, pCount, qJoin, wI, nvadd, nvsub, nvaddw, nvnegw, qTake, Pg.run_get, Pg.run_put, Pg.run_ret, Pg.run_bind, Pg.run_cond, gt_iff_lt, cond_true, cond_false, *]
  all_goals
    try rfl
theorem span_Take_ok : EOk 91 e_span_Take :=
  ent_w0 Dg T_sp_ahead_ok (I := [2999998]) Tryz.func91 mix (B := bodyOf Tryz.f91) (by kernel_rfl) rfl (by kernel_rfl) 400
    fun _ s t p h n hb hp => ⟨span_Take_w s t p h n (fun r__ => r__ = (span_Take s t p h n)), fun _ _ _ => by kernel_rfl, span_Take_begin s t p h n (hp _ (.head _))⟩
def T_span_Take : Tb := (91, e_span_Take) :: T_sp_ahead
theorem T_span_Take_ok : TOk T_span_Take := tc_ span_Take_ok T_sp_ahead_ok
def span_Release (s : VS) (t : Int) (p : Int) (h : Int) (g : Int) (n : Int) : VS := ((qRelease ⟨t, p, h⟩ g n).run s).1
abbrev c_span_Release : Ct Sg := ⟨some wView, false, [.agg [.i .i64, .i .i64, .i .i64], .i .i64, .i .i64], .skip⟩
def e_span_Release : Entry Sg := entC c_span_Release span_Release (fun s t p h g n => [p ≤ 1024, 0 ≤ g])
def span_Release_w (s : VS) (t : Int) (p : Int) (h : Int) (g : Int) (n : Int) (R_ : VS → Prop) : Prop := (∀ r3 : VS × Int, r3 = (sp_ahead s t p h g) → (bw_ (decide (r3.2 ≥ 0)) (∀ r5 : VS × Int, r5 = (sp_free r3.1 t p h r3.2) → (bw_ (decide (r5.2 > 0)) (∀ r7 : VS × Int, r7 = ((VS.set (VS.set (Prod.fst (bin_Drop r5.1 t p h r3.2)) (place_Info t p h g) 0) (place_Foot t p h (IntKind.wrap IntKind.i64 (g - 1))) 0, Prod.snd (bin_Drop r5.1 t p h r3.2))) → (bw_ (decide (IntKind.wrap IntKind.i64 (g + n) < p)) (∀ r9 : VS × Int, r9 = (sp_free r7.1 t p h (IntKind.wrap IntKind.i64 (g + n))) → (bw_ (decide (r9.2 > 0)) (∀ r11 : VS × Int, r11 = ((VS.set (VS.set (Prod.fst (bin_Drop r9.1 t p h (IntKind.wrap IntKind.i64 (g + n)))) (place_Info t p h (IntKind.wrap IntKind.i64 (g + n))) 0) (place_Foot t p h (IntKind.wrap IntKind.i64 (IntKind.wrap IntKind.i64 (g + n) - 1))) 0, Prod.snd (bin_Drop r9.1 t p h (IntKind.wrap IntKind.i64 (g + n))))) → (∀ r12 : VS, r12 = (bin_Add r11.1 t p h r3.2 (IntKind.wrap IntKind.i64 (IntKind.wrap IntKind.i64 (n + r7.2) + r11.2))) → (aw_ (p ≤ 1024) (∀ r14 : VS, r14 = (sp_count r12 t p h n) → (R_ (r14)))))) (∀ r11 : VS, r11 = (bin_Add r9.1 t p h r3.2 (IntKind.wrap IntKind.i64 (n + r7.2))) → (aw_ (p ≤ 1024) (∀ r13 : VS, r13 = (sp_count r11 t p h n) → (R_ (r13))))))) (∀ r9 : VS, r9 = (bin_Add r7.1 t p h r3.2 (IntKind.wrap IntKind.i64 (n + r7.2))) → (aw_ (p ≤ 1024) (∀ r11 : VS, r11 = (sp_count r9 t p h n) → (R_ (r11))))))) (bw_ (decide (IntKind.wrap IntKind.i64 (g + n) < p)) (∀ r8 : VS × Int, r8 = (sp_free r5.1 t p h (IntKind.wrap IntKind.i64 (g + n))) → (bw_ (decide (r8.2 > 0)) (∀ r10 : VS × Int, r10 = ((VS.set (VS.set (Prod.fst (bin_Drop r8.1 t p h (IntKind.wrap IntKind.i64 (g + n)))) (place_Info t p h (IntKind.wrap IntKind.i64 (g + n))) 0) (place_Foot t p h (IntKind.wrap IntKind.i64 (IntKind.wrap IntKind.i64 (g + n) - 1))) 0, Prod.snd (bin_Drop r8.1 t p h (IntKind.wrap IntKind.i64 (g + n))))) → (∀ r11 : VS, r11 = (bin_Add r10.1 t p h g (IntKind.wrap IntKind.i64 (n + r10.2))) → (aw_ (p ≤ 1024) (∀ r13 : VS, r13 = (sp_count r11 t p h n) → (R_ (r13)))))) (∀ r10 : VS, r10 = (bin_Add r8.1 t p h g n) → (aw_ (p ≤ 1024) (∀ r12 : VS, r12 = (sp_count r10 t p h n) → (R_ (r12))))))) (∀ r8 : VS, r8 = (bin_Add r5.1 t p h g n) → (aw_ (p ≤ 1024) (∀ r10 : VS, r10 = (sp_count r8 t p h n) → (R_ (r10)))))))) (bw_ (decide (IntKind.wrap IntKind.i64 (g + n) < p)) (∀ r6 : VS × Int, r6 = (sp_free r3.1 t p h (IntKind.wrap IntKind.i64 (g + n))) → (bw_ (decide (r6.2 > 0)) (∀ r8 : VS × Int, r8 = ((VS.set (VS.set (Prod.fst (bin_Drop r6.1 t p h (IntKind.wrap IntKind.i64 (g + n)))) (place_Info t p h (IntKind.wrap IntKind.i64 (g + n))) 0) (place_Foot t p h (IntKind.wrap IntKind.i64 (IntKind.wrap IntKind.i64 (g + n) - 1))) 0, Prod.snd (bin_Drop r6.1 t p h (IntKind.wrap IntKind.i64 (g + n))))) → (∀ r9 : VS, r9 = (bin_Add r8.1 t p h g (IntKind.wrap IntKind.i64 (n + r8.2))) → (aw_ (p ≤ 1024) (∀ r11 : VS, r11 = (sp_count r9 t p h n) → (R_ (r11)))))) (∀ r8 : VS, r8 = (bin_Add r6.1 t p h g n) → (aw_ (p ≤ 1024) (∀ r10 : VS, r10 = (sp_count r8 t p h n) → (R_ (r10))))))) (∀ r6 : VS, r6 = (bin_Add r3.1 t p h g n) → (aw_ (p ≤ 1024) (∀ r8 : VS, r8 = (sp_count r6 t p h n) → (R_ (r8))))))))
theorem span_Release_begin (s : VS) (t : Int) (p : Int) (h : Int) (g : Int) (n : Int) (hp0 : p ≤ 1024) (hp1 : 0 ≤ g) : span_Release_w s t p h g n  (fun r__ => r__ = (span_Release s t p h g n)) := by
  unfold span_Release_w
  have hz : decide (1 ≤ s.get (Cf.foot ⟨t, p, h⟩ (IntKind.wrap IntKind.i64 (g - 1)))) = false → ∀ s' : VS, (pFree ⟨t, p, h⟩ (s.get (Cf.foot ⟨t, p, h⟩ (IntKind.wrap IntKind.i64 (g - 1))) - 1)).run s' = (s', 0) := fun hf s' => by
    have hb := VS.get_bd s (Cf.foot ⟨t, p, h⟩ (IntKind.wrap IntKind.i64 (g - 1)))
    simp only [decide_eq_false_iff_not] at hf
    rw [show s.get (Cf.foot ⟨t, p, h⟩ (IntKind.wrap IntKind.i64 (g - 1))) - 1 = -1 by omega]
    have e : Cf.info ⟨t, p, h⟩ (-1) = -1 := by
      unfold Cf.info Cf.pc Cf.page
      simp
    rw [pFreeR, e, (get_out1 s' (by decide)).1, (get_out1 s' (by decide)).2]
    rfl
  unfold sp_ahead
  cases hg0 : g == 0
  all_goals simp only [cond_true, cond_false]
  repeat' first
    | (refine fun r hr => ?_; subst hr)
    | refine ⟨(by first | exact wu32_bd _ | exact VS.get_bd _ _ | exact zero_bd | exact iVal_bd _ _ _ | exact nv_bd _ | (rw [info_Put_val]; exact iVal_bd _ _ _) | (rw [r09_Value_eq]; exact iVal_bd _ _ _) | assumption | omega), fun _ => ?_⟩
    | refine ⟨fun hc => ?_, fun hc => ?_⟩
    | (refine fun hr => ?_; subst hr)
    | fail
  all_goals
    simp only [link_page_eq, page_ne t p h, link_next, link_prev, place_Next_eq, place_Prev_eq, r07_Next_eq, r07_Prev_eq, link_to, w64g, w64g1, wrapu_nv, nvw, nvw2, bin_page, place_Info_eq, place_Foot_eq, r07_Info_eq, r07_Foot_eq, place_Bin_eq, r07_Bin_eq, info_Put_val, bin_Of, infoG1, infoG2, infoG3, rinfoG1, rinfoG2, rinfoG3, gt_iff_lt, bin_Find, bin_Drop, bin_Add, sp_used, spFree_eq, sp_count, nvadd, nvsub, nvwi0, nvaddw, nvnegw, Int.zero_sub, get_fb, get_fb1, dge1, dneg, ge_iff_le, bne, Bool.not_eq_true', Bool.not_eq_false', reduceCtorEq] at *
  all_goals
    skip
  all_goals
    simp only [span_Release, qUsed, pCount, qJoin, wI, nvadd, nvsub, nvaddw, nvnegw, qRelease, qAhead, qNext, dz0, Pg.run_get, Pg.run_put, Pg.run_ret, Pg.run_bind, Pg.run_cond, gt_iff_lt, cond_true, cond_false, *]
  all_goals
    try rfl
theorem span_Release_ok : EOk 61 e_span_Release :=
  ent_w0 Dg T_span_Take_ok (I := [2999998]) Tryz.func61 mix (B := bodyOf Tryz.f61) (by kernel_rfl) rfl (by kernel_rfl) 400
    fun _ s t p h g n hb hp => ⟨span_Release_w s t p h g n (fun r__ => r__ = (span_Release s t p h g n)), fun _ _ _ => by kernel_rfl, span_Release_begin s t p h g n (hp _ (.head _)) (hp _ (.tail _ (.head _)))⟩
def T_span_Release : Tb := (61, e_span_Release) :: T_span_Take
theorem T_span_Release_ok : TOk T_span_Release := tc_ span_Release_ok T_span_Take_ok
end Go.Proofs.YtcbeifgnccbfbaaGreat
namespace Go.Proofs.YtcbeifgnccbfbaaGreat
open Go.Sl
def SlSlab1_bytes0 : ByteArray := ⟨⟨[0, 1, 1, 2, 1, 2, 2, 3, 1, 2, 2, 3, 2, 3, 3, 4, 1, 2, 2, 3, 2, 3, 3, 4, 2, 3, 3, 4, 3, 4, 4, 5, 1, 2, 2, 3, 2, 3, 3, 4, 2, 3, 3, 4, 3, 4, 4, 5, 2, 3, 3, 4, 3, 4, 4, 5, 3, 4, 4, 5, 4, 5, 5, 6, 1, 2, 2, 3, 2, 3, 3, 4, 2, 3, 3, 4, 3, 4, 4, 5, 2, 3, 3, 4, 3, 4, 4, 5, 3, 4, 4, 5, 4, 5, 5, 6, 2, 3, 3, 4, 3, 4, 4, 5, 3, 4, 4, 5, 4, 5, 5, 6, 3, 4, 4, 5, 4, 5, 5, 6, 4, 5, 5, 6, 5, 6, 6, 7, 1, 2, 2, 3, 2, 3, 3, 4, 2, 3, 3, 4, 3, 4, 4, 5, 2, 3, 3, 4, 3, 4, 4, 5, 3, 4, 4, 5, 4, 5, 5, 6, 2, 3, 3, 4, 3, 4, 4, 5, 3, 4, 4, 5, 4, 5, 5, 6, 3, 4, 4, 5, 4, 5, 5, 6, 4, 5, 5, 6, 5, 6, 6, 7, 2, 3, 3, 4, 3, 4, 4, 5, 3, 4, 4, 5, 4, 5, 5, 6, 3, 4, 4, 5, 4, 5, 5, 6, 4, 5, 5, 6, 5, 6, 6, 7, 3, 4, 4, 5, 4, 5, 5, 6, 4, 5, 5, 6, 5, 6, 6, 7, 4, 5, 5, 6, 5, 6, 6, 7, 5, 6, 6, 7, 6, 7, 7, 8]⟩⟩
def place_Rack (k : Int) : Int := place_within 13 k 9
abbrev c_place_Rack : Ct Sg := ⟨none, false, [.i .i64], .i .i64⟩
def e_place_Rack : Entry Sg := entC c_place_Rack place_Rack (fun _ => [])
theorem place_Rack_ok : EOk 48 e_place_Rack :=
  ent_ok Dg T_span_Release_ok (I := []) Tryz.func48 mix (B := bodyOf Tryz.f48) (by kernel_rfl) rfl (by kernel_rfl) 400
    fun _ k hb hp => ⟨(place_Rack k), .t, fun _ _ _ => by kernel_rfl, trivial, rfl⟩
def T_place_Rack : Tb := (48, e_place_Rack) :: T_span_Release
theorem T_place_Rack_ok : TOk T_place_Rack := tc_ place_Rack_ok T_span_Release_ok
def place_Taken (t : Int) (p : Int) (s : Int) (pg : Int) : Int := place_of t p s pg 5
abbrev c_place_Taken : Ct Sg := ⟨none, false, [.agg [.i .i64, .i .i64, .i .i64], .i .i64], .i .i64⟩
def e_place_Taken : Entry Sg := entC c_place_Taken place_Taken (fun _ _ _ _ => [])
theorem place_Taken_ok : EOk 41 e_place_Taken :=
  ent_ok Dg T_place_Rack_ok (I := []) Tryz.func41 mix (B := bodyOf Tryz.f41) (by kernel_rfl) rfl (by kernel_rfl) 400
    fun _ t p s pg hb hp => ⟨(place_Taken t p s pg), .t, fun _ _ _ => by kernel_rfl, trivial, rfl⟩
def T_place_Taken : Tb := (41, e_place_Taken) :: T_place_Rack
theorem T_place_Taken_ok : TOk T_place_Taken := tc_ place_Taken_ok T_place_Rack_ok
def place_Slots (t : Int) (p : Int) (s : Int) (pg : Int) : Int := place_of t p s pg 4
abbrev c_place_Slots : Ct Sg := ⟨none, false, [.agg [.i .i64, .i .i64, .i .i64], .i .i64], .i .i64⟩
def e_place_Slots : Entry Sg := entC c_place_Slots place_Slots (fun _ _ _ _ => [])
theorem place_Slots_ok : EOk 158 e_place_Slots :=
  ent_ok Dg T_place_Taken_ok (I := []) Tryz.func158 mix (B := bodyOf Tryz.f158) (by kernel_rfl) rfl (by kernel_rfl) 400
    fun _ t p s pg hb hp => ⟨(place_Slots t p s pg), .t, fun _ _ _ => by kernel_rfl, trivial, rfl⟩
def T_place_Slots : Tb := (158, e_place_Slots) :: T_place_Taken
theorem T_place_Slots_ok : TOk T_place_Slots := tc_ place_Slots_ok T_place_Taken_ok
def class_slots : Int × Int × Int × Int × Int × Int × Int × Int × Int := (32, 21, 16, 10, 8, 5, 4, 3, 2)
abbrev c_class_slots : Ct Sg := ⟨none, false, [], .agg [.i .i64, .i .i64, .i .i64, .i .i64, .i .i64, .i .i64, .i .i64, .i .i64, .i .i64]⟩
def e_class_slots : Entry Sg := entC c_class_slots class_slots ([])
theorem class_slots_ok : EOk 94 e_class_slots :=
  ent_ok Dg T_place_Slots_ok (I := []) Tryz.func94 mix (B := bodyOf Tryz.f94) (by kernel_rfl) rfl (by kernel_rfl) 400
    fun _  hb hp => ⟨class_slots, .t, fun _ _ _ => by kernel_rfl, trivial, rfl⟩
def T_class_slots : Tb := (94, e_class_slots) :: T_place_Slots
theorem T_class_slots_ok : TOk T_class_slots := tc_ class_slots_ok T_place_Slots_ok
abbrev c_class_Slots : Ct Sg := ⟨none, false, [.i .i64], .i .i64⟩
def e_class_Slots : Entry Sg := entC c_class_Slots kSlots (fun _ => [])
theorem ent_or {c : Ct Sg} {P : Program} {f : FuncId} {F : Cur c.AK (Ty c.RK)} {pre pre1 pre2 : Cur c.AK (List Prop)} (h1 : EntryOk Dg P f (entC c F pre1)) (h2 : EntryOk Dg P f (entC c F pre2))
    (h : ∀ cs, (∀ p ∈ appC c.AK pre cs, p) → (∀ p ∈ appC c.AK pre1 cs, p) ∨ (∀ p ∈ appC c.AK pre2 cs, p)) : EntryOk Dg P f (entC c F pre) := by
  intro args d r hd hr
  unfold entC at hd
  split at hd
  rotate_left
  · cases hd
  rename_i cs hcs
  injection hd with hd; subst hd; subst hr
  have e1 : entC c F pre1 args = some ⟨appC c.AK F cs, fun r => ⟨appC c.AK pre1 cs, newC c.rob (toCm c.RK r), c.mksC r, c.outC r, c.rs.outp⟩⟩ := by unfold entC; rw [hcs]
  have e2 : entC c F pre2 args = some ⟨appC c.AK F cs, fun r => ⟨appC c.AK pre2 cs, newC c.rob (toCm c.RK r), c.mksC r, c.outC r, c.rs.outp⟩⟩ := by unfold entC; rw [hcs]
  refine ⟨(h1 args _ _ e1 rfl).1, fun hp => ?_⟩
  rcases h cs hp with hp | hp
  · exact (h1 args _ _ e1 rfl).2 hp
  · exact (h2 args _ _ e2 rfl).2 hp
theorem class_Slots_ok1 : EntryOk Dg Tryz.prog 43 (entC c_class_Slots kSlots fun k => [¬ (0 ≤ k ∧ k < 9)]) :=
  ent_ok Dg T_class_slots_ok (I := []) Tryz.func43 mix (B := bodyOf Tryz.f43) (by kernel_rfl) rfl (by kernel_rfl) 26
    fun _ (k : Int) hb hp => by
  have h : ¬ (0 ≤ k ∧ k < 9) := hp _ (.head _)
  refine ⟨bif decide (k < 0) || decide (k ≥ 9) then (0 : Int) else (0 : Int), .br (decide (k < 0) || decide (k ≥ 9)) .t (.need (0 ≤ k ∧ k < 9) (.need False .t)), fun _ _ _ => by kernel_rfl, ⟨fun _ => trivial, fun hc => ?_⟩, ?_⟩
  · exfalso; simp at hc; omega
  · show _ = kSlots k
    have hk : kSlots k = 0 := by
      unfold kSlots
      by_cases h0 : 0 ≤ k
      · have e : decide (0 ≤ k) = true := by simpa using h0
        rw [e, cond_true, List.getD_eq_getElem?_getD, List.getElem?_eq_none (by simp; omega)]; rfl
      · have e : decide (0 ≤ k) = false := by simpa using h0
        rw [e]; rfl
    rw [hk]; cases decide (k < 0) || decide (k ≥ 9) <;> rfl
theorem class_Slots_ok2 : EntryOk Dg Tryz.prog 43 (entC c_class_Slots kSlots fun k => [0 ≤ k ∧ k < 9]) :=
  ent_ok Dg T_class_slots_ok (I := []) Tryz.func43 mix (B := bodyOf Tryz.f43) (by kernel_rfl) rfl (by kernel_rfl) 400
    fun _ (k : Int) hb hp => by
  have h : 0 ≤ k ∧ k < 9 := hp _ (.head _)
  have h' : k = 0 ∨ k = 1 ∨ k = 2 ∨ k = 3 ∨ k = 4 ∨ k = 5 ∨ k = 6 ∨ k = 7 ∨ k = 8 := by omega
  rcases h' with rfl | rfl | rfl | rfl | rfl | rfl | rfl | rfl | rfl
  · exact ⟨bif false then (0 : Int) else (32 : Int), .br false .t (.need ((0 : Int) ≤ (0 : Int) ∧ (0 : Int) < (9 : Int)) .t), fun _ _ _ => by kernel_rfl, ⟨fun _ => trivial, fun _ => ⟨by decide, fun _ => trivial⟩⟩, rfl⟩
  · exact ⟨bif false then (0 : Int) else (21 : Int), .br false .t (.need ((0 : Int) ≤ (1 : Int) ∧ (1 : Int) < (9 : Int)) .t), fun _ _ _ => by kernel_rfl, ⟨fun _ => trivial, fun _ => ⟨by decide, fun _ => trivial⟩⟩, rfl⟩
  · exact ⟨bif false then (0 : Int) else (16 : Int), .br false .t (.need ((0 : Int) ≤ (2 : Int) ∧ (2 : Int) < (9 : Int)) .t), fun _ _ _ => by kernel_rfl, ⟨fun _ => trivial, fun _ => ⟨by decide, fun _ => trivial⟩⟩, rfl⟩
  · exact ⟨bif false then (0 : Int) else (10 : Int), .br false .t (.need ((0 : Int) ≤ (3 : Int) ∧ (3 : Int) < (9 : Int)) .t), fun _ _ _ => by kernel_rfl, ⟨fun _ => trivial, fun _ => ⟨by decide, fun _ => trivial⟩⟩, rfl⟩
  · exact ⟨bif false then (0 : Int) else (8 : Int), .br false .t (.need ((0 : Int) ≤ (4 : Int) ∧ (4 : Int) < (9 : Int)) .t), fun _ _ _ => by kernel_rfl, ⟨fun _ => trivial, fun _ => ⟨by decide, fun _ => trivial⟩⟩, rfl⟩
  · exact ⟨bif false then (0 : Int) else (5 : Int), .br false .t (.need ((0 : Int) ≤ (5 : Int) ∧ (5 : Int) < (9 : Int)) .t), fun _ _ _ => by kernel_rfl, ⟨fun _ => trivial, fun _ => ⟨by decide, fun _ => trivial⟩⟩, rfl⟩
  · exact ⟨bif false then (0 : Int) else (4 : Int), .br false .t (.need ((0 : Int) ≤ (6 : Int) ∧ (6 : Int) < (9 : Int)) .t), fun _ _ _ => by kernel_rfl, ⟨fun _ => trivial, fun _ => ⟨by decide, fun _ => trivial⟩⟩, rfl⟩
  · exact ⟨bif false then (0 : Int) else (3 : Int), .br false .t (.need ((0 : Int) ≤ (7 : Int) ∧ (7 : Int) < (9 : Int)) .t), fun _ _ _ => by kernel_rfl, ⟨fun _ => trivial, fun _ => ⟨by decide, fun _ => trivial⟩⟩, rfl⟩
  · exact ⟨bif false then (0 : Int) else (2 : Int), .br false .t (.need ((0 : Int) ≤ (8 : Int) ∧ (8 : Int) < (9 : Int)) .t), fun _ _ _ => by kernel_rfl, ⟨fun _ => trivial, fun _ => ⟨by decide, fun _ => trivial⟩⟩, rfl⟩
theorem class_Slots_ok : EntryOk Dg Tryz.prog 43 e_class_Slots :=
  ent_or class_Slots_ok1 class_Slots_ok2 fun cs _ => by
  by_cases h : 0 ≤ (Kd.of .i (hdC cs) : Int) ∧ (Kd.of .i (hdC cs) : Int) < 9
  · exact .inr fun p hp => by
      rcases List.mem_singleton.1 hp with rfl
      exact h
  · exact .inl fun p hp => by
      rcases List.mem_singleton.1 hp with rfl
      exact h
def T_class_Slots : List (Nat × Entry Sg) := (43, e_class_Slots) :: T_class_slots
theorem T_class_Slots_ok : TableOk Dg Tryz.prog T_class_Slots := TableOk.cons Dg class_Slots_ok T_class_slots_ok
def u32ok (v : Int) : Prop := 0 ≤ v ∧ v < 4294967296
theorem and255 (z : Int) : 0 ≤ IntKind.u32.wrap ((BitVec.ofInt 32 z &&& BitVec.ofInt 32 255).toNat : Int) ∧ IntKind.u32.wrap ((BitVec.ofInt 32 z &&& BitVec.ofInt 32 255).toNat : Int) < ((256 : Nat) : Int) := by
  have h : (BitVec.ofInt 32 z &&& BitVec.ofInt 32 255).toNat < 256 := by
    rw [BitVec.toNat_and]
    exact Nat.lt_of_le_of_lt Nat.and_le_right (by decide)
  rw [IntKind.wrap_u32]; omega
theorem top8 {v : Int} (h0 : 0 ≤ v) (h1 : v < 4294967296) : 0 ≤ Int.fdiv v 16777216 ∧ Int.fdiv v 16777216 < ((256 : Nat) : Int) := by
  rw [Int.fdiv_eq_ediv_of_nonneg _ (by omega)]; omega
theorem frange_snoc (p : Nat → Bool) (n : Nat) : (List.range (n + 1)).filter p = (List.range n).filter p ++ (if p n = true then [n] else []) := by
  rw [List.range_succ, List.filter_append]
  by_cases h : p n = true
  · rw [if_pos h, List.filter_cons_of_pos h]; rfl
  · rw [if_neg h, List.filter_cons_of_neg h]; rfl
theorem frange_len (p : Nat → Bool) (n : Nat) : ((List.range n).filter p).length ≤ n := by
  have := List.length_filter_le p (List.range n)
  simpa using this
def frN (p : Nat → Bool) (n : Nat) : List Int := ((List.range n).filter p).map fun (i : Nat) => (i : Int)
def zeroAt (v : Int) (i : Nat) : Bool := IntKind.wrap IntKind.u32 ((BitVec.ofInt 32 (Int.fdiv v ((2 : Int) ^ min (Int.toNat (i : Int)) 32)) &&& BitVec.ofInt 32 1).toNat : Int) == 0
def orB (v s : Int) : Int := IntKind.wrap IntKind.u32 ((BitVec.ofInt 32 v ||| BitVec.ofInt 32 (IntKind.wrap IntKind.u32 (1 * (2 : Int) ^ min (Int.toNat s) 32))).toNat : Int)
abbrev nnL (xs : List Int) : Prop := ∀ s ∈ xs, (0 : Int) ≤ s
theorem take_snocB {xs : List Int} {k : Nat} (h : k < xs.length) : xs.take (k + 1) = xs.take k ++ [xs.getD k 0] := by
  rw [List.take_add_one, List.getD_eq_getElem?_getD, List.getElem?_eq_getElem h]; rfl
def bits_Ones (v : Int) : Int := IntKind.wrap IntKind.i64
  (IntKind.wrap IntKind.u8
    (IntKind.wrap IntKind.u8
        (IntKind.wrap IntKind.u8
            (sAt SlSlab1_bytes0 (Int.fdiv v 16777216) +
              sAt SlSlab1_bytes0 (IntKind.wrap IntKind.u32 (↑(BitVec.toNat (BitVec.ofInt 32 (Int.fdiv v 65536) &&& BitVec.ofInt 32 255)) : Int))) +
          sAt SlSlab1_bytes0 (IntKind.wrap IntKind.u32 (↑(BitVec.toNat (BitVec.ofInt 32 (Int.fdiv v 256) &&& BitVec.ofInt 32 255)) : Int))) +
      sAt SlSlab1_bytes0 (IntKind.wrap IntKind.u32 (↑(BitVec.toNat (BitVec.ofInt 32 v &&& BitVec.ofInt 32 255)) : Int))))
abbrev c_bits_Ones : Ct Sg := ⟨none, false, [.i .u32], .i .i64⟩
def e_bits_Ones : Entry Sg := entC c_bits_Ones bits_Ones (fun v => [u32ok v])
theorem bits_Ones_ok : EOk 142 e_bits_Ones :=
  ent_ok Dg T_class_Slots_ok (I := []) Tryz.func142 mix (B := bodyOf Tryz.f142) (by kernel_rfl) rfl (by kernel_rfl) 400
    fun _ v hb hp => have hp0 : u32ok v := hp _ (.head _); ⟨(bits_Ones v), (.need (0 ≤ Int.fdiv v 16777216 ∧ Int.fdiv v (16777216 : Int) < 256) (.need (0 ≤ IntKind.wrap IntKind.u32 (↑(BitVec.toNat (BitVec.ofInt 32 (Int.fdiv v 65536) &&& BitVec.ofInt 32 255)) : Int) ∧ IntKind.wrap IntKind.u32 (↑(BitVec.toNat (BitVec.ofInt 32 (Int.fdiv v 65536) &&& BitVec.ofInt 32 255)) : Int) < 256) (.need (0 ≤ IntKind.wrap IntKind.u32 (↑(BitVec.toNat (BitVec.ofInt 32 (Int.fdiv v 256) &&& BitVec.ofInt 32 255)) : Int) ∧ IntKind.wrap IntKind.u32 (↑(BitVec.toNat (BitVec.ofInt 32 (Int.fdiv v 256) &&& BitVec.ofInt 32 255)) : Int) < 256) (.need (0 ≤ IntKind.wrap IntKind.u32 (↑(BitVec.toNat (BitVec.ofInt 32 v &&& BitVec.ofInt 32 255)) : Int) ∧ IntKind.wrap IntKind.u32 (↑(BitVec.toNat (BitVec.ofInt 32 v &&& BitVec.ofInt 32 255)) : Int) < 256) .t)))), fun _ _ _ => by kernel_rfl, ⟨(by first | exact top8 hp0.1 hp0.2 | exact and255 _), fun z0 => ⟨(by first | exact top8 hp0.1 hp0.2 | exact and255 _), fun z1 => ⟨(by first | exact top8 hp0.1 hp0.2 | exact and255 _), fun z2 => ⟨(by first | exact top8 hp0.1 hp0.2 | exact and255 _), fun z3 => trivial⟩⟩⟩⟩, rfl⟩
def T_bits_Ones : Tb := (142, e_bits_Ones) :: T_class_Slots
theorem T_bits_Ones_ok : TOk T_bits_Ones := tc_ bits_Ones_ok T_class_Slots_ok
def half_Ones (v : Int) : Int := bits_Ones v
abbrev c_half_Ones : Ct Sg := ⟨none, false, [.i .u32], .i .i64⟩
def e_half_Ones : Entry Sg := entC c_half_Ones half_Ones (fun v => [u32ok v])
theorem half_Ones_ok : EOk 95 e_half_Ones :=
  ent_ok Dg T_bits_Ones_ok (I := []) Tryz.func95 mix (B := bodyOf Tryz.f95) (by kernel_rfl) rfl (by kernel_rfl) 400
    fun _ v hb hp => have hp0 : u32ok v := hp _ (.head _); ⟨(half_Ones v), (.need (u32ok v) .t), fun _ _ _ => by kernel_rfl, ⟨(by exact hp0), fun z0 => trivial⟩, rfl⟩
def T_half_Ones : Tb := (95, e_half_Ones) :: T_bits_Ones
theorem T_half_Ones_ok : TOk T_half_Ones := tc_ half_Ones_ok T_bits_Ones_ok
def half_Free (v : Int) (n : Int) : List Int := frN (zeroAt v) (min n.toNat 32)
abbrev c_half_Free : Ct Sg := ⟨none, false, [.i .u32, .i .i64], .new 3 [some .i64]⟩
def e_half_Free : Entry Sg := entC c_half_Free half_Free (fun _ _ => [])
def half_Free_w (v : Int) (n : Int) (Q0 : Int → Int → Nat → List Int → Prop) (R_ : List Int → Prop) : Prop := (Q0 (0) (if 32 < n then 32 else n) (0) ([]))
def half_Free_w0 (v : Int) (n : Int) (i : Int) (m : Int) (no : Nat) (xs : List Int) (Q0 : Int → Int → Nat → List Int → Prop) (R_ : List Int → Prop) : Prop := (bw_ (decide (i < m)) (aw_ (0 ≤ i) (bw_ (IntKind.wrap IntKind.u32 (↑(BitVec.toNat (BitVec.ofInt 32 (Int.fdiv v (2 ^ min (Int.toNat i) 32)) &&& BitVec.ofInt 32 1)) : Int) == 0) (aw_ ((no + 1) * 8 ≤ 140737488355328) (Q0 (IntKind.wrap IntKind.i64 (i + 1)) (m) (no + 1) (xs ++ [i]))) (Q0 (IntKind.wrap IntKind.i64 (i + 1)) (m) (no) (xs)))) (R_ (xs)))
def half_Free_I0 (v : Int) (n : Int) (i : Int) (m : Int) (no : Nat) (xs : List Int) (r_ : List Int) : Prop := 0 ≤ i ∧ (i ≤ m ∨ i = 0) ∧ m ≤ 32 ∧ m.toNat = min n.toNat 32 ∧ no = xs.length ∧ xs = frN (zeroAt v) i.toNat ∧ r_ = half_Free v n
abbrev half_Free_h0 (p0 : Addr) (v : Int) (n : Int) : Hd Sg := ⟨none, [0,1,0,1,1], [.blk 0, .code [1,1,1]], [9, 8, 5, 0], [.i .i64, .i .i64, .own 3 [some .i64], .ic .u32 (v)]⟩
theorem half_Free_begin (v : Int) (n : Int) : half_Free_w v n (fun i' m' no' xs' => half_Free_I0 v n i' m' no' xs' (half_Free v n)) (fun r__ => r__ = (half_Free v n)) := by
  unfold half_Free_w
  try unfold half_Free_I0
  exact ⟨by omega, .inr rfl, by split <;> omega, by split <;> omega, rfl, rfl, rfl⟩
theorem half_Free_step0 (v : Int) (n : Int) (i : Int) (m : Int) (no : Nat) (xs : List Int) {r_ : List Int} (hI : half_Free_I0 v n i m no xs r_) : half_Free_w0 v n i m no xs (fun i' m' no' xs' => half_Free_I0 v n i' m' no' xs' r_ ∧ lx ((m' - i').toNat, 0, 0) ((m - i).toNat, 0, 0)) (fun r__ => r__ = r_) := by
  unfold half_Free_I0 at hI
  unfold half_Free_w0
  try unfold half_Free_I0
  obtain ⟨h0, h1, hm, hn, h2, h3, hr⟩ := hI
  refine ⟨fun h => ⟨h0, fun _ => ?_⟩, fun h => ?_⟩
  · simp only [decide_eq_true_eq] at h
    have hi : ((i.toNat : Nat) : Int) = i := by omega
    have hl := frange_len (zeroAt v) i.toNat
    have hx : xs.length = ((List.range i.toNat).filter (zeroAt v)).length := by rw [h3, frN, List.length_map]
    rw [w64 (by omega)]
    refine ⟨fun hc => ⟨by omega, fun _ => ⟨⟨by omega, by omega, hm, hn, by simp [h2], ?_, hr⟩, lxo_⟩⟩, fun hc => ⟨⟨by omega, by omega, hm, hn, h2, ?_, hr⟩, lxo_⟩⟩
    · have hz : zeroAt v i.toNat = true := by unfold zeroAt; rw [hi]; exact hc
      rw [toNat_succ h0, frN, frange_snoc, if_pos hz, List.map_append, h3, frN]
      simp [hi]
    · have hz : ¬ zeroAt v i.toNat = true := by unfold zeroAt; rw [hi, hc]; simp
      rw [toNat_succ h0, frN, frange_snoc, if_neg hz, List.append_nil]
      exact h3
  · simp only [decide_eq_false_iff_not] at h
    show xs = r_
    rw [hr, h3, half_Free, show i.toNat = min n.toNat 32 by omega]
theorem half_Free_ok : EOk 42 e_half_Free :=
  ent_wp Dg T_half_Ones_ok (I := [411000000009, 411000000008, 411000000005, 411000000000]) Tryz.func42 mix (B := bodyOf Tryz.f42) (by kernel_rfl) rfl (by kernel_rfl) 400
    fun p0 v n hb hp => ⟨[half_Free_h0 p0 v n], fun j => List.getD [appC (Hd.kd (half_Free_h0 p0 v n)) (fun i' m' no' xs' => half_Free_I0 v n i' m' no' xs' (half_Free v n))] j (fun _ => False), fun j => List.getD [appC (Hd.kd (half_Free_h0 p0 v n)) (fun i' m' no' xs' => ((m' - i').toNat, 0, 0))] j (fun _ => (0, 0, 0)), by kernel_rfl, ⟨half_Free_w v n (fun i' m' no' xs' => half_Free_I0 v n i' m' no' xs' (half_Free v n)) (fun r__ => r__ = (half_Free v n)), fun _ _ _ => by kernel_rfl, half_Free_begin v n ⟩, ⟨fun i m no xs hI => ⟨half_Free_w0 v n i m no xs (fun i' m' no' xs' => half_Free_I0 v n i' m' no' xs' (half_Free v n) ∧ lx ((m' - i').toNat, 0, 0) ((m - i).toNat, 0, 0)) (fun r__ => r__ = (half_Free v n)), fun _ _ _ => by kernel_rfl, half_Free_step0 v n i m no xs hI⟩, trivial⟩⟩
def T_half_Free : Tb := (42, e_half_Free) :: T_half_Ones
theorem T_half_Free_ok : TOk T_half_Free := tc_ half_Free_ok T_half_Ones_ok
def slab_bits (xs : List Int) : Int := xs.foldl orB 0
abbrev c_slab_bits : Ct Sg := ⟨none, false, [.ro [some .i64]], .i .u32⟩
def e_slab_bits : Entry Sg := entC c_slab_bits slab_bits (fun xs => [nnL xs])
def slab_bits_w (xs : List Int) (Q0 : Int → Int → Prop) (R_ : Int → Prop) : Prop := (Q0 (0) (0))
def slab_bits_w0 (xs : List Int) (i : Int) (v : Int) (Q0 : Int → Int → Prop) (R_ : Int → Prop) : Prop := (bw_ (decide (i < (↑(List.length xs) : Int))) (aw_ (0 ≤ i ∧ i < (↑(List.length xs) : Int)) (aw_ (0 ≤ List.getD xs (Int.toNat i) 0) (Q0 (IntKind.wrap IntKind.i64 (i + 1)) (IntKind.wrap IntKind.u32 (↑(BitVec.toNat (BitVec.ofInt 32 v ||| BitVec.ofInt 32 (IntKind.wrap IntKind.u32 ((1 : Int) * 2 ^ min (Int.toNat (List.getD xs (Int.toNat i) 0)) 32)))) : Int))))) (R_ (v)))
def slab_bits_I0 (xs : List Int) (i : Int) (v : Int) (r_ : Int) : Prop := 0 ≤ i ∧ i ≤ xs.length ∧ v = (xs.take i.toNat).foldl orB 0 ∧ r_ = slab_bits xs
abbrev slab_bits_h0 (p0 : Addr) (xs : List Int) : Hd Sg := ⟨none, [0,1,0,1,1], [.blk 0, .code [1,1,1]], [8, 7, 6, 3], [.i .i64, .ic .i64 (xs.length), .roc [.ints .i64 (xs)], .i .u32]⟩
theorem slab_bits_begin (xs : List Int) (hp0 : nnL xs) (hl0 : xs.length ≤ 9223372036854775807) : slab_bits_w xs (fun i' v' => slab_bits_I0 xs i' v' (slab_bits xs)) (fun r__ => r__ = (slab_bits xs)) := by
  unfold slab_bits_w
  try unfold slab_bits_I0
  exact ⟨by omega, by omega, rfl, rfl⟩
theorem slab_bits_step0 (xs : List Int) (hp0 : nnL xs) (hl0 : xs.length ≤ 9223372036854775807) (i : Int) (v : Int) {r_ : Int} (hI : slab_bits_I0 xs i v r_) : slab_bits_w0 xs i v (fun i' v' => slab_bits_I0 xs i' v' r_ ∧ lx ((xs.length - i').toNat, 0, 0) ((xs.length - i).toNat, 0, 0)) (fun r__ => r__ = r_) := by
  unfold slab_bits_I0 at hI
  unfold slab_bits_w0
  try unfold slab_bits_I0
  obtain ⟨h0, h1, h2, hr⟩ := hI
  refine ⟨fun h => ?_, fun h => ?_⟩
  · simp only [decide_eq_true_eq] at h
    have hs := hp0 (xs.getD i.toNat 0) (getD_mem (by omega))
    rw [w64 (by omega)]
    refine ⟨⟨h0, h⟩, fun _ => ⟨hs, fun _ => ⟨⟨by omega, by omega, ?_, hr⟩, lxo_⟩⟩⟩
    rw [toNat_succ h0, take_snocB (by omega), List.foldl_append, ← h2]; rfl
  · simp only [decide_eq_false_iff_not] at h
    show v = r_
    rw [hr, h2, slab_bits, List.take_of_length_le (by omega)]
theorem slab_bits_ok : EOk 44 e_slab_bits :=
  ent_wp Dg T_half_Free_ok (I := [411000000008, 411000000007, 411000000006, 411000000003]) Tryz.func44 mix (B := bodyOf Tryz.f44) (by kernel_rfl) rfl (by kernel_rfl) 400
    fun p0 xs hb hp => have hl0 : xs.length ≤ 9223372036854775807 := hb.1; have hp0 : nnL xs := hp _ (.head _); ⟨[slab_bits_h0 p0 xs], fun j => List.getD [appC (Hd.kd (slab_bits_h0 p0 xs)) (fun i' v' => slab_bits_I0 xs i' v' (slab_bits xs))] j (fun _ => False), fun j => List.getD [appC (Hd.kd (slab_bits_h0 p0 xs)) (fun i' v' => ((xs.length - i').toNat, 0, 0))] j (fun _ => (0, 0, 0)), by kernel_rfl, ⟨slab_bits_w xs (fun i' v' => slab_bits_I0 xs i' v' (slab_bits xs)) (fun r__ => r__ = (slab_bits xs)), fun _ _ _ => by kernel_rfl, slab_bits_begin xs hp0 hl0 ⟩, ⟨fun i v hI => ⟨slab_bits_w0 xs i v (fun i' v' => slab_bits_I0 xs i' v' (slab_bits xs) ∧ lx ((xs.length - i').toNat, 0, 0) ((xs.length - i).toNat, 0, 0)) (fun r__ => r__ = (slab_bits xs)), fun _ _ _ => by kernel_rfl, slab_bits_step0 xs hp0 hl0 i v hI⟩, trivial⟩⟩
def T_slab_bits : Tb := (44, e_slab_bits) :: T_half_Free
theorem T_slab_bits_ok : TOk T_slab_bits := tc_ slab_bits_ok T_half_Free_ok
end Go.Proofs.YtcbeifgnccbfbaaGreat
namespace Go.Proofs.YtcbeifgnccbfbaaGreat
open Go.Sl
theorem ofInt32 (n : Nat) : BitVec.ofInt 32 (n : Int) = BitVec.ofNat 32 n := by apply BitVec.eq_of_toNat_eq; simp
theorem minNat {i : Nat} (h : i < 32) : min (Int.toNat (i : Int)) 32 = i := by simp; omega
theorem fdiv_pow {V i : Nat} : Int.fdiv (V : Int) (2 ^ i) = ((V / 2 ^ i : Nat) : Int) := by
  rw [Int.fdiv_eq_ediv_of_nonneg _ (by exact Int.le_of_lt (Int.pow_pos (by omega)))]
  push_cast; rfl
theorem bitAt_nat {V i : Nat} (hi : i < 32) : bitAt (V : Int) (i : Int) = V.testBit i := by
  unfold bitAt
  have e1 : decide ((i : Int) ≥ 0) = true := by simp
  have e2 : decide ((i : Int) < 32) = true := by simp; omega
  rw [e1, e2, Bool.true_and, Bool.true_and, Int.toNat_natCast, Nat.testBit_eq_decide_div_mod_eq]
  have e3 : (V : Int) / 2 ^ i % 2 = ((V / 2 ^ i % 2 : Nat) : Int) := by push_cast; rfl
  rw [e3]
  apply Bool.eq_iff_iff.2
  rw [beq_iff_eq, decide_eq_true_eq]
  omega
theorem bitAt_out {v b : Int} (h : ¬ (0 ≤ b ∧ b < 32)) : bitAt v b = false := by
  unfold bitAt
  have : (decide (b ≥ 0) && decide (b < 32)) = false := by simp; omega
  rw [this, Bool.false_and]
theorem zeroAt_eq {V i : Nat} (hV : V < 4294967296) (hi : i < 32) : zeroAt (V : Int) i = !V.testBit i := by
  unfold zeroAt
  rw [minNat hi, fdiv_pow, Nat.testBit_eq_decide_div_mod_eq]
  have h3 : V / 2 ^ i < 2 ^ 32 := Nat.lt_of_le_of_lt (Nat.div_le_self _ _) (by omega)
  have e : (BitVec.ofInt 32 ((V / 2 ^ i : Nat) : Int) &&& BitVec.ofInt 32 1).toNat = V / 2 ^ i % 2 := by
    rw [ofInt32, BitVec.toNat_and, BitVec.toNat_ofNat, Nat.mod_eq_of_lt h3]
    show _ &&& 1 = _
    rw [Nat.and_one_is_mod]
  rw [e]
  have := Nat.mod_lt (V / 2 ^ i) (show 2 > 0 by omega)
  rw [wrap_u32_nat (by omega)]
  apply Bool.eq_iff_iff.2
  simp only [beq_iff_eq, Bool.not_eq_true', decide_eq_false_iff_not]
  omega
def cb (V : Nat) : Nat → Nat
  | 0 => 0
  | k + 1 => (V.testBit k).toNat + cb V k
theorem cb_le (V : Nat) : ∀ k, cb V k ≤ k
  | 0 => Nat.le_refl _
  | k + 1 => by
    have := cb_le V k
    have := Bool.toNat_le (V.testBit k)
    simp only [cb]; omega
theorem onesF_cb {V : Nat} : ∀ k : Nat, k ≤ 32 → onesF (V : Int) k = (cb V k : Int)
  | 0, _ => rfl
  | k + 1, h => by
    rw [onesF, onesF_cb k (by omega), bitAt_nat (by omega), cb]
    cases V.testBit k <;> simp <;> omega
theorem cb_byte (V k : Nat) : cb V (k + 8) = cb (V / 2 ^ k % 256) 8 + cb V k := by
  have h : ∀ j, j < 8 → (V / 2 ^ k % 256).testBit j = V.testBit (k + j) := fun j hj => by
    rw [show (256 : Nat) = 2 ^ 8 by rfl, Nat.testBit_mod_two_pow, Nat.testBit_div_two_pow, Nat.add_comm j k]
    simp [hj]
  simp only [cb]
  rw [h 7 (by omega), h 6 (by omega), h 5 (by omega), h 4 (by omega), h 3 (by omega), h 2 (by omega), h 1 (by omega), h 0 (by omega)]
  simp only [Nat.add_zero]
  omega
theorem pop_tab : ∀ i : Fin 256, sAt SlSlab1_bytes0 (i.val : Int) = (cb i.val 8 : Int) := by decide +kernel
theorem pop_nat {b : Nat} (h : b < 256) : sAt SlSlab1_bytes0 (b : Int) = (cb b 8 : Int) := pop_tab ⟨b, h⟩
theorem and255_eq (m : Nat) (hm : m < 4294967296) : IntKind.u32.wrap ((BitVec.ofInt 32 (m : Int) &&& BitVec.ofInt 32 255).toNat : Int) = ((m % 256 : Nat) : Int) := by
  have e : (BitVec.ofInt 32 (m : Int) &&& BitVec.ofInt 32 255).toNat = m % 256 := by
    rw [ofInt32, BitVec.toNat_and, BitVec.toNat_ofNat, Nat.mod_eq_of_lt hm]
    show m &&& (2 ^ 8 - 1) = _
    rw [Nat.and_two_pow_sub_one_eq_mod]
  rw [e, wrap_u32_nat (by omega)]
theorem fdivN (z : Int) (k : Nat) (h0 : 0 ≤ z) (hk : 0 < k) : Int.fdiv z (k : Int) = ((z.toNat / k : Nat) : Int) := by
  rw [Int.fdiv_eq_ediv_of_nonneg _ (by omega)]
  obtain ⟨n, rfl⟩ := Int.eq_ofNat_of_zero_le h0
  simp
theorem bits_Ones_eq {V : Nat} (hV : V < 4294967296) : bits_Ones (V : Int) = (cb V 32 : Int) := by
  have c3 : cb V 32 = cb (V / 2 ^ 24 % 256) 8 + cb V 24 := cb_byte V 24
  have c2 : cb V 24 = cb (V / 2 ^ 16 % 256) 8 + cb V 16 := cb_byte V 16
  have c1 : cb V 16 = cb (V / 2 ^ 8 % 256) 8 + cb V 8 := cb_byte V 8
  have c0 : cb V 8 = cb (V / 2 ^ 0 % 256) 8 + cb V 0 := cb_byte V 0
  have z : cb V 0 = 0 := rfl
  have b3 := cb_le (V / 2 ^ 24 % 256) 8
  have b2 := cb_le (V / 2 ^ 16 % 256) 8
  have b1 := cb_le (V / 2 ^ 8 % 256) 8
  have b0 := cb_le (V / 2 ^ 0 % 256) 8
  have f : ∀ k : Nat, 0 < k → Int.fdiv (V : Int) (k : Int) = ((V / k : Nat) : Int) := fun k hk => by
    rw [fdivN _ _ (by omega) hk, Int.toNat_natCast]
  have f3 := f 16777216 (by omega)
  have f2 := f 65536 (by omega)
  have f1 := f 256 (by omega)
  have h3 : V / 16777216 < 256 := by omega
  unfold bits_Ones
  rw [show (16777216 : Int) = ((16777216 : Nat) : Int) by rfl, show (65536 : Int) = ((65536 : Nat) : Int) by rfl, show Int.fdiv (V : Int) (256 : Int) = Int.fdiv (V : Int) ((256 : Nat) : Int) by rfl, f3, f2, f1]
  rw [and255_eq _ (by omega), and255_eq _ (by omega), and255_eq _ hV, pop_nat h3, pop_nat (by omega), pop_nat (by omega), pop_nat (by omega)]
  have g3 : cb (V / 2 ^ 24 % 256) 8 = cb (V / 16777216) 8 := by rw [show (2 : Nat) ^ 24 = 16777216 by rfl, Nat.mod_eq_of_lt h3]
  have g2 : cb (V / 2 ^ 16 % 256) 8 = cb (V / 65536 % 256) 8 := rfl
  have g1 : cb (V / 2 ^ 8 % 256) 8 = cb (V / 256 % 256) 8 := rfl
  have g0 : cb (V / 2 ^ 0 % 256) 8 = cb (V % 256) 8 := by rw [Nat.pow_zero, Nat.div_one]
  simp only [IntKind.wrap_u8]
  rw [w64 (by omega)]
  omega
theorem natOf {v : Int} (h : bd32 v) : ∃ V : Nat, v = (V : Int) ∧ V < 4294967296 := ⟨v.toNat, by unfold bd32 at h; omega, by unfold bd32 at h; omega⟩
theorem half_Ones_eq {v : Int} (h : bd32 v) : half_Ones v = ones v := by
  obtain ⟨V, rfl, hV⟩ := natOf h
  rw [half_Ones, bits_Ones_eq hV, ones, onesF_cb 32 (Nat.le_refl _)]
theorem testBit_add {V k i : Nat} (h : V.testBit k = false) : (V + 2 ^ k).testBit i = (V.testBit i || decide (i = k)) := by
  have e : V + 2 ^ k = V ||| 2 ^ k := by
    have hb : ∀ w, V + 2 ^ k < 2 ^ w → V ||| 2 ^ k < 2 ^ w → V + 2 ^ k = V ||| 2 ^ k := fun w h1 h2 => by
      have hand : (BitVec.ofNat w V) &&& (BitVec.ofNat w (2 ^ k)) = 0#w := by
        apply BitVec.eq_of_toNat_eq
        have hp := Nat.two_pow_pos k
        have hV : V < 2 ^ w := by omega
        have hk : 2 ^ k < 2 ^ w := by omega
        rw [BitVec.toNat_and, BitVec.toNat_ofNat, BitVec.toNat_ofNat, Nat.mod_eq_of_lt hV, Nat.mod_eq_of_lt hk, BitVec.toNat_ofNat, Nat.zero_mod]
        apply Nat.eq_of_testBit_eq
        intro j
        rw [Nat.testBit_and, Nat.testBit_two_pow, Nat.zero_testBit]
        by_cases hj : k = j
        · subst hj; rw [h]; rfl
        · simp [hj]
      have := BitVec.add_eq_or_of_and_eq_zero _ _ hand
      have h3 := congrArg BitVec.toNat this
      have hp := Nat.two_pow_pos k
      have hV : V < 2 ^ w := by omega
      have hk : 2 ^ k < 2 ^ w := by omega
      rw [BitVec.toNat_add, BitVec.toNat_or, BitVec.toNat_ofNat, BitVec.toNat_ofNat, Nat.mod_eq_of_lt hV, Nat.mod_eq_of_lt hk, Nat.mod_eq_of_lt h1] at h3
      exact h3
    refine hb (V + 2 ^ k + (V ||| 2 ^ k)) ?_ ?_
    · exact Nat.lt_of_le_of_lt (Nat.le_add_right _ _) Nat.lt_two_pow_self
    · exact Nat.lt_of_le_of_lt (Nat.le_add_left _ _) Nat.lt_two_pow_self
  rw [e, Nat.testBit_or, Nat.testBit_two_pow]
  congr 1
  apply Bool.eq_iff_iff.2; simp [eq_comm]
theorem or_add {V k : Nat} (h : V.testBit k = false) : V ||| 2 ^ k = V + 2 ^ k := by
  apply Nat.eq_of_testBit_eq
  intro i
  rw [testBit_add h, Nat.testBit_or, Nat.testBit_two_pow]
  congr 1
  apply Bool.eq_iff_iff.2; simp [eq_comm]
theorem lt_of_bits {V : Nat} (h : ∀ i, 32 ≤ i → V.testBit i = false) : V < 4294967296 := by
  have := Nat.lt_pow_two_of_testBit V h
  simpa using this
theorem bits_of_lt {V : Nat} (h : V < 4294967296) {i : Nat} (hi : 32 ≤ i) : V.testBit i = false := Nat.testBit_lt_two_pow (Nat.lt_of_lt_of_le h (by have := Nat.pow_le_pow_right (n := 2) (by omega) hi; simpa using this))
def setB (v s : Int) : Int := bif bitAt v s then v else v + 2 ^ s.toNat
def clrB (v s : Int) : Int := bif bitAt v s then v - 2 ^ s.toNat else v
theorem setB_nat {V k : Nat} (hk : k < 32) : setB (V : Int) (k : Int) = ((V ||| 2 ^ k : Nat) : Int) := by
  unfold setB
  rw [bitAt_nat hk]
  cases h : V.testBit k with
  | true =>
    have e : V ||| 2 ^ k = V := by
      apply Nat.eq_of_testBit_eq
      intro i
      rw [Nat.testBit_or, Nat.testBit_two_pow]
      by_cases hi : k = i
      · subst hi; rw [h]; rfl
      · simp [hi]
    rw [cond_true, e]
  | false => rw [cond_false, or_add h]; push_cast; rfl
theorem or_lt {V k : Nat} (hV : V < 4294967296) (hk : k < 32) : V ||| 2 ^ k < 4294967296 := lt_of_bits fun i hi => by
  rw [Nat.testBit_or, bits_of_lt hV hi, Nat.testBit_two_pow]; simp; omega
theorem bitAt_setB {v s : Int} (hv : bd32 v) (hs : 0 ≤ s ∧ s < 32) : bd32 (setB v s) ∧ ∀ b, bitAt (setB v s) b = (bitAt v b || decide (b = s)) := by
  obtain ⟨V, rfl, hV⟩ := natOf hv
  obtain ⟨k, rfl⟩ := Int.eq_ofNat_of_zero_le hs.1
  have hk : k < 32 := by omega
  rw [setB_nat hk]
  refine ⟨by have := or_lt hV hk; unfold bd32; omega, fun b => ?_⟩
  by_cases hb : 0 ≤ b ∧ b < 32
  · obtain ⟨j, rfl⟩ := Int.eq_ofNat_of_zero_le hb.1
    rw [bitAt_nat (by omega), bitAt_nat (by omega), Nat.testBit_or, Nat.testBit_two_pow]
    congr 1
    apply Bool.eq_iff_iff.2
    simp only [decide_eq_true_eq]; omega
  · rw [bitAt_out hb, bitAt_out hb]
    symm; simp; omega
theorem clrB_nat {V k : Nat} (hk : k < 32) : ∃ W : Nat, clrB (V : Int) (k : Int) = (W : Int) ∧ ∀ i, W.testBit i = (V.testBit i && decide (i ≠ k)) := by
  unfold clrB
  rw [bitAt_nat hk]
  cases h : V.testBit k with
  | false =>
    refine ⟨V, rfl, fun i => ?_⟩
    by_cases hi : i = k
    · subst hi; simp [h]
    · simp [hi]
  | true =>
    have hx : (V ^^^ 2 ^ k).testBit k = false := by rw [Nat.testBit_xor, h, Nat.testBit_two_pow]; simp
    have e : (V ^^^ 2 ^ k) + 2 ^ k = V := by
      apply Nat.eq_of_testBit_eq
      intro i
      rw [testBit_add hx, Nat.testBit_xor, Nat.testBit_two_pow]
      by_cases hi : k = i
      · subst hi; rw [h]; simp
      · simp [hi]; intro e; exact absurd e.symm hi
    refine ⟨V ^^^ 2 ^ k, ?_, fun i => ?_⟩
    · rw [cond_true, Int.toNat_natCast]
      have : ((V ^^^ 2 ^ k : Nat) : Int) + ((2 ^ k : Nat) : Int) = (V : Int) := by exact_mod_cast e
      push_cast at this ⊢; omega
    · rw [Nat.testBit_xor, Nat.testBit_two_pow]
      by_cases hi : k = i
      · subst hi; rw [h]; simp
      · have : ¬ i = k := fun e => hi e.symm
        simp [hi, this]
theorem bitAt_clrB {v s : Int} (hv : bd32 v) (hs : 0 ≤ s ∧ s < 32) : bd32 (clrB v s) ∧ ∀ b, bitAt (clrB v s) b = (bitAt v b && !decide (b = s)) := by
  obtain ⟨V, rfl, hV⟩ := natOf hv
  obtain ⟨k, rfl⟩ := Int.eq_ofNat_of_zero_le hs.1
  obtain ⟨W, e, h⟩ := clrB_nat (V := V) (k := k) (by omega)
  have hW : W < 4294967296 := lt_of_bits fun i hi => by rw [h, bits_of_lt hV hi]; rfl
  rw [e]
  refine ⟨by unfold bd32; omega, fun b => ?_⟩
  by_cases hb : 0 ≤ b ∧ b < 32
  · obtain ⟨j, rfl⟩ := Int.eq_ofNat_of_zero_le hb.1
    rw [bitAt_nat (by omega), bitAt_nat (by omega), h]
    congr 1
    apply Bool.eq_iff_iff.2
    simp; omega
  · rw [bitAt_out hb, bitAt_out hb]; rfl
theorem bits_ext {v w : Int} (hv : bd32 v) (hw : bd32 w) (h : ∀ b, bitAt v b = bitAt w b) : v = w := by
  obtain ⟨V, rfl, hV⟩ := natOf hv
  obtain ⟨W, rfl, hW⟩ := natOf hw
  congr 1
  apply Nat.eq_of_testBit_eq
  intro i
  by_cases hi : i < 32
  · rw [← bitAt_nat hi, ← bitAt_nat hi]; exact h _
  · rw [bits_of_lt hV (by omega), bits_of_lt hW (by omega)]
theorem bitAt_zero (b : Int) : bitAt 0 b = false := by
  unfold bitAt; simp
theorem orB_eq {v s : Int} (hv : bd32 v) (hs : 0 ≤ s ∧ s < 32) : orB v s = setB v s := by
  obtain ⟨V, rfl, hV⟩ := natOf hv
  obtain ⟨k, rfl⟩ := Int.eq_ofNat_of_zero_le hs.1
  have hk : k < 32 := by omega
  have hp : 2 ^ k < 4294967296 := by have := Nat.pow_lt_pow_right (a := 2) (by omega) hk; simpa using this
  rw [setB_nat hk]
  unfold orB
  rw [minNat hk, Int.one_mul, show ((2 : Int) ^ k) = ((2 ^ k : Nat) : Int) by push_cast; rfl, wrap_u32_nat hp, ofInt32, ofInt32, BitVec.toNat_or, BitVec.toNat_ofNat, BitVec.toNat_ofNat, Nat.mod_eq_of_lt hV, Nat.mod_eq_of_lt hp, wrap_u32_nat (or_lt hV hk)]
def setL (v : Int) (l : List Int) : Int := l.foldl setB v
theorem bitAt_setL : ∀ {l : List Int} {v : Int}, bd32 v → (∀ s ∈ l, 0 ≤ s ∧ s < 32) → bd32 (setL v l) ∧ ∀ b, bitAt (setL v l) b = (bitAt v b || l.contains b)
  | [], v, hv, _ => ⟨hv, fun b => by simp [setL]⟩
  | s :: l, v, hv, hl => by
    obtain ⟨h1, h2⟩ := bitAt_setB hv (hl s (by simp))
    obtain ⟨g1, g2⟩ := bitAt_setL (l := l) h1 fun x hx => hl x (by simp [hx])
    refine ⟨g1, fun b => ?_⟩
    show bitAt (setL (setB v s) l) b = _
    rw [g2, h2, List.contains_cons, Bool.or_assoc]
    congr 2
theorem foldl_orB : ∀ {l : List Int} {v : Int}, bd32 v → (∀ s ∈ l, 0 ≤ s ∧ s < 32) → l.foldl orB v = setL v l
  | [], _, _, _ => rfl
  | s :: l, v, hv, hl => by
    have hs := hl s (by simp)
    show l.foldl orB (orB v s) = setL (setB v s) l
    rw [orB_eq hv hs]
    exact foldl_orB (bitAt_setB hv hs).1 fun x hx => hl x (by simp [hx])
theorem slab_bits_eq {l : List Int} (hl : ∀ s ∈ l, 0 ≤ s ∧ s < 32) : slab_bits l = setL 0 l := foldl_orB (by unfold bd32; decide) hl
theorem wrapOr {a b : Int} (ha : bd32 a) (hb : bd32 b) : bd32 (IntKind.u32.wrap ((BitVec.ofInt 32 a ||| BitVec.ofInt 32 b).toNat : Int)) ∧ ∀ i, bitAt (IntKind.u32.wrap ((BitVec.ofInt 32 a ||| BitVec.ofInt 32 b).toNat : Int)) i = (bitAt a i || bitAt b i) := by
  obtain ⟨A, rfl, hA⟩ := natOf ha
  obtain ⟨B, rfl, hB⟩ := natOf hb
  have hl : A ||| B < 4294967296 := lt_of_bits fun i hi => by rw [Nat.testBit_or, bits_of_lt hA hi, bits_of_lt hB hi]; rfl
  rw [ofInt32, ofInt32, BitVec.toNat_or, BitVec.toNat_ofNat, BitVec.toNat_ofNat, Nat.mod_eq_of_lt hA, Nat.mod_eq_of_lt hB, wrap_u32_nat hl]
  refine ⟨by unfold bd32; omega, fun b => ?_⟩
  by_cases hb : 0 ≤ b ∧ b < 32
  · obtain ⟨j, rfl⟩ := Int.eq_ofNat_of_zero_le hb.1
    rw [bitAt_nat (by omega), bitAt_nat (by omega), bitAt_nat (by omega), Nat.testBit_or]
  · rw [bitAt_out hb, bitAt_out hb, bitAt_out hb]; rfl
theorem or_bits {v : Int} {l : List Int} (hv : bd32 v) (hl : ∀ s ∈ l, 0 ≤ s ∧ s < 32) : IntKind.u32.wrap ((BitVec.ofInt 32 v ||| BitVec.ofInt 32 (slab_bits l)).toNat : Int) = setL v l := by
  rw [slab_bits_eq hl]
  obtain ⟨h1, h2⟩ := bitAt_setL (l := l) (v := 0) (by unfold bd32; decide) hl
  obtain ⟨g1, g2⟩ := wrapOr hv h1
  obtain ⟨k1, k2⟩ := bitAt_setL hv hl
  exact bits_ext g1 k1 fun b => by rw [g2, h2, k2, bitAt_zero, Bool.false_or]
theorem wrapAndNot {a b : Int} (ha : bd32 a) (hb : bd32 b) : bd32 (IntKind.u32.wrap ((BitVec.ofInt 32 a &&& ~~~ BitVec.ofInt 32 b).toNat : Int)) ∧ ∀ i, bitAt (IntKind.u32.wrap ((BitVec.ofInt 32 a &&& ~~~ BitVec.ofInt 32 b).toNat : Int)) i = (bitAt a i && !bitAt b i) := by
  obtain ⟨A, rfl, hA⟩ := natOf ha
  obtain ⟨B, rfl, hB⟩ := natOf hb
  have hx : ∀ i, ((BitVec.ofNat 32 A) &&& ~~~ (BitVec.ofNat 32 B)).toNat.testBit i = (A.testBit i && (decide (i < 32) && !B.testBit i)) := fun i => by
    rw [BitVec.testBit_toNat, BitVec.getLsbD_and, BitVec.getLsbD_not, BitVec.getLsbD_ofNat, BitVec.getLsbD_ofNat]
    by_cases hi : i < 32
    · simp [hi]
    · simp [hi]
  have hl := lt_of_bits (V := ((BitVec.ofNat 32 A) &&& ~~~ (BitVec.ofNat 32 B)).toNat) fun i hi => by rw [hx, bits_of_lt hA hi]; rfl
  rw [ofInt32, ofInt32, wrap_u32_nat hl]
  refine ⟨by unfold bd32; omega, fun b => ?_⟩
  by_cases hb : 0 ≤ b ∧ b < 32
  · obtain ⟨j, rfl⟩ := Int.eq_ofNat_of_zero_le hb.1
    have hj : j < 32 := by omega
    rw [bitAt_nat hj, bitAt_nat hj, bitAt_nat hj, hx]
    simp [hj]
  · rw [bitAt_out hb, bitAt_out hb, bitAt_out hb]; rfl
theorem frN_mem {p : Nat → Bool} {n : Nat} {s : Int} : s ∈ frN p n ↔ 0 ≤ s ∧ s < n ∧ p s.toNat = true := by
  unfold frN
  rw [List.mem_map]
  constructor
  · rintro ⟨i, hi, rfl⟩
    rw [List.mem_filter, List.mem_range] at hi
    exact ⟨by omega, by omega, by simpa using hi.2⟩
  · rintro ⟨h1, h2, h3⟩
    exact ⟨s.toNat, List.mem_filter.2 ⟨List.mem_range.2 (by omega), h3⟩, by omega⟩
def frL (v n : Int) : List Int := frN (fun i => !bitAt v (i : Int)) n.toNat
theorem frN_congr {p q : Nat → Bool} {n : Nat} (h : ∀ i, i < n → p i = q i) : frN p n = frN q n := by
  unfold frN
  congr 1
  exact List.filter_congr fun i hi => h i (List.mem_range.1 hi)
theorem half_Free_eq {v n : Int} (hv : bd32 v) (hn : n ≤ 32) : half_Free v n = frL v n := by
  obtain ⟨V, rfl, hV⟩ := natOf hv
  unfold half_Free frL
  rw [show min n.toNat 32 = n.toNat by omega]
  exact frN_congr fun i hi => by rw [zeroAt_eq hV (by omega), bitAt_nat (by omega)]
theorem frL_mem {v n s : Int} (h : s ∈ frL v n) : 0 ≤ s ∧ s < n ∧ bitAt v s = false := by
  obtain ⟨h1, h2, h3⟩ := frN_mem.1 h
  refine ⟨h1, by omega, ?_⟩
  have e : ((s.toNat : Nat) : Int) = s := by omega
  rw [e] at h3
  simpa using h3
theorem frN_succ (p : Nat → Bool) (n : Nat) : frN p (n + 1) = frN p n ++ (if p n = true then [(n : Int)] else []) := by
  unfold frN
  rw [frange_snoc, List.map_append]
  split <;> rfl
end Go.Proofs.YtcbeifgnccbfbaaGreat
namespace Go.Proofs.YtcbeifgnccbfbaaGreat
open Go.Sl
theorem place_Taken_eq (t p s g : Int) : place_Taken t p s g = Cf.taken ⟨t, p, s⟩ g := place_of_eq (by omega)
theorem r07_Taken_eq (t p s g : Int) : r07_Taken t p s g = Cf.taken ⟨t, p, s⟩ g := r07_Page_eq (by omega)
theorem place_Rack_eq (k : Int) : place_Rack k = cRack k := by
  unfold place_Rack place_within cRack
  by_cases hg : 0 ≤ k ∧ k < 9
  · have a1 : (decide (k < 0) || decide (k ≥ 9)) = false := by simp; omega
    have a2 : (decide (0 ≤ k) && decide (k < 9)) = true := by simp; omega
    rw [a1, a2, w64 (by omega)]; rfl
  · have a1 : (decide (k < 0) || decide (k ≥ 9)) = true := by simp; omega
    have a2 : (decide (0 ≤ k) && decide (k < 9)) = false := by simp; omega
    rw [a1, a2]; rfl
theorem full_eq (v k : Int) : r12_Full v k = full v k := by
  show (ones v == r05_Slots k) = _
  rw [r05_Slots_eq]; rfl
theorem and_bits {v b : Int} (hv : bd32 v) (hb : 0 ≤ b ∧ b < 32) : IntKind.u32.wrap ((BitVec.ofInt 32 v &&& ~~~ BitVec.ofInt 32 (slab_bits [b])).toNat : Int) = clrB v b := by
  have hl : ∀ s ∈ [b], 0 ≤ s ∧ s < 32 := fun s hs => by rw [List.mem_singleton] at hs; subst hs; exact hb
  rw [slab_bits_eq hl]
  obtain ⟨h1, h2⟩ := bitAt_setL (l := [b]) (v := 0) (by unfold bd32; decide) hl
  obtain ⟨g1, g2⟩ := wrapAndNot hv h1
  obtain ⟨k1, k2⟩ := bitAt_clrB hv hb
  refine bits_ext g1 k1 fun i => ?_
  rw [g2, h2, k2, bitAt_zero, Bool.false_or, List.contains_cons, List.contains_nil, Bool.or_false]
  congr 2
theorem take_if {l : List Int} {w : Int} (hw : 0 ≤ w) : l.take (Int.toNat (if (l.length : Int) < w then (l.length : Int) else w)) = l.take w.toNat := by
  split
  · rw [List.take_of_length_le (by omega), List.take_of_length_le (by omega)]
  · rfl
section
variable (c : Cf)
def pOpen (k : Int) : Pg (Int × Bool) :=
  .get (cRack k) fun q => bif q == 0 then
    (qTake c 1).bind fun r => bif r.2 then .put (c.info r.1) (iVal 3 1 k) ((pPush c (cRack k) r.1).bind fun _ => .ret (r.1, true)) else .ret (0, false)
  else .ret (q - 1, true)
def pPutS (p k t : Int) (l : List Int) : Pg (Int × List Int × Bool) :=
  .put (c.taken p) (setL t l) <| (bif full (setL t l) k then pPull c (cRack k) p else .ret ()).bind fun _ => .ret (p, l, true)
def pTakeS (p k want t : Int) : Pg (Int × List Int × Bool) :=
  bif ((frL t (kSlots k)).length : Int) == 0 then .ret (-1, [], false) else pPutS c p k t ((frL t (kSlots k)).take want.toNat)
def pPick (k want : Int) : Pg (Int × List Int × Bool) :=
  bif decide (k < 0) || decide (9 ≤ k) || decide (want < 1) || decide (4 < want) then .ret (-1, [], false) else
    (pOpen c k).bind fun r => bif r.2 then .get (c.taken r.1) (pTakeS c r.1 k want) else .ret (-1, [], false)
def pGive (p s : Int) : Pg Unit :=
  bif decide (s < 0) || decide (32 ≤ s) then .ret () else
    (pInfo c p).bind fun i => .get (c.taken p) fun t =>
      bif clrB t s == 0 then (bif full t i.2.2 then .ret () else pPull c (cRack i.2.2) p).bind fun _ => .put (c.taken p) 0 (qRelease c p 1)
      else .put (c.taken p) (clrB t s) (bif full t i.2.2 then pPush c (cRack i.2.2) p else .ret ())
end
end Go.Proofs.YtcbeifgnccbfbaaGreat
namespace Go.Proofs.YtcbeifgnccbfbaaGreat
open Go.Sl
def slab_full (v : Int) (k : Int) : Bool := full v k
abbrev c_slab_full : Ct Sg := ⟨none, false, [.i .u32, .i .i64], .b⟩
def e_slab_full : Entry Sg := entC c_slab_full slab_full (fun v k => [bd32 v])
def slab_full_w (v : Int) (k : Int) (R_ : Bool → Prop) : Prop := (aw_ (u32ok v) (R_ (half_Ones v == kSlots k)))
theorem slab_full_begin (v : Int) (k : Int) (hp0 : bd32 v) : slab_full_w v k  (fun r__ => r__ = (slab_full v k)) := by
  unfold slab_full_w
  refine ⟨hp0, fun _ => ?_⟩
  rw [half_Ones_eq hp0]; rfl
theorem slab_full_ok : EOk 46 e_slab_full :=
  ent_w0 Dg T_slab_bits_ok (I := []) Tryz.func46 mix (B := bodyOf Tryz.f46) (by kernel_rfl) rfl (by kernel_rfl) 400
    fun _ v k hb hp => ⟨slab_full_w v k (fun r__ => r__ = (slab_full v k)), fun _ _ _ => by kernel_rfl, slab_full_begin v k (hp _ (.head _))⟩
def T_slab_full : Tb := (46, e_slab_full) :: T_slab_bits
theorem T_slab_full_ok : TOk T_slab_full := tc_ slab_full_ok T_slab_bits_ok
def slab_open (s : VS) (t : Int) (p : Int) (h : Int) (k : Int) : VS × Int × Bool := (pOpen ⟨t, p, h⟩ k).run s
abbrev c_slab_open : Ct Sg := ⟨some wView, false, [.agg [.i .i64, .i .i64, .i .i64], .i .i64], .tup [.i .i64, .b]⟩
def e_slab_open : Entry Sg := entC c_slab_open slab_open (fun s t p h k => [p ≤ 1024])
def slab_open_w (s : VS) (t : Int) (p : Int) (h : Int) (k : Int) (R_ : VS × Int × Bool → Prop) : Prop := (∀ r1 : Int, r1 = (place_Rack k) → (∀ r2 : VS × Int, r2 = ((VS.read s r1, VS.get s r1)) → (bw_ (r2.2 != 0) (R_ ((r2.1, IntKind.wrap IntKind.i64 (IntKind.wrap IntKind.i64 r2.2 - 1), true))) (∀ r4 : VS × Int × Bool, r4 = (span_Take r2.1 t p h 1) → (aw_ (p ≤ 1024) (bw_ (!r4.2.2) (R_ ((r4.1, 0, false))) (∀ r7 : Int × Bool, r7 = (info_Put 3 1 k) → (∀ r8 : Int, r8 = (place_Info t p h r4.2.1) → (∀ r9 : VS, r9 = (VS.set r4.1 r8 r7.1) → (aw_ (bd32 r7.1) (∀ r11 : VS, r11 = (link_Push r9 t p h (place_Rack k) r4.2.1) → (R_ ((r11, r4.2.1, true))))))))))))))
theorem slab_open_begin (s : VS) (t : Int) (p : Int) (h : Int) (k : Int) (hp0 : p ≤ 1024) : slab_open_w s t p h k  (fun r__ => r__ = (slab_open s t p h k)) := by
  unfold slab_open_w
  repeat' first
    | (refine fun r hr => ?_; subst hr)
    | refine ⟨(by first | exact wu32_bd _ | exact VS.get_bd _ _ | exact zero_bd | exact iVal_bd _ _ _ | exact nv_bd _ | (rw [info_Put_val]; exact iVal_bd _ _ _) | (rw [r09_Value_eq]; exact iVal_bd _ _ _) | assumption | omega), fun _ => ?_⟩
    | refine ⟨fun hc => ?_, fun hc => ?_⟩
    | (refine fun hr => ?_; subst hr)
    | fail
  all_goals
    simp only [link_page_eq, page_ne t p h, link_next, link_prev, place_Next_eq, place_Prev_eq, r07_Next_eq, r07_Prev_eq, link_to, w64g, w64g1, wrapu_nv, nvw, nvw2, bin_page, place_Info_eq, place_Foot_eq, r07_Info_eq, r07_Foot_eq, place_Bin_eq, r07_Bin_eq, info_Put_val, bin_Of, infoG1, infoG2, infoG3, rinfoG1, rinfoG2, rinfoG3, gt_iff_lt, span_Take, span_Release, pInfo, Pg.run_get, Pg.run_ret, link_Push, link_Pull, place_Rack_eq, place_Taken_eq, r07_Rack_eq, r07_Taken_eq, full_eq, slab_full, bne, Bool.not_eq_true', Bool.not_eq_false', reduceCtorEq] at *
  all_goals
    skip
  all_goals
    simp only [slab_open, pOpen, Pg.run_get, Pg.run_put, Pg.run_ret, Pg.run_bind, Pg.run_cond, gt_iff_lt, cond_true, cond_false, *]
  all_goals
    try rfl
theorem slab_open_ok : EOk 40 e_slab_open :=
  ent_w0 Dg T_slab_full_ok (I := [2999998]) Tryz.func40 mix (B := bodyOf Tryz.f40) (by kernel_rfl) rfl (by kernel_rfl) 400
    fun _ s t p h k hb hp => ⟨slab_open_w s t p h k (fun r__ => r__ = (slab_open s t p h k)), fun _ _ _ => by kernel_rfl, slab_open_begin s t p h k (hp _ (.head _))⟩
def T_slab_open : Tb := (40, e_slab_open) :: T_slab_full
theorem T_slab_open_ok : TOk T_slab_open := tc_ slab_open_ok T_slab_full_ok
def slab_Pick (s : VS) (t : Int) (p : Int) (h : Int) (k : Int) (w : Int) : VS × Int × List Int × Bool := (pPick ⟨t, p, h⟩ k w).run s
abbrev c_slab_Pick : Ct Sg := ⟨some wView, false, [.agg [.i .i64, .i .i64, .i .i64], .i .i64, .i .i64], .tup [.i .i64, .new 3 [some .i64], .b]⟩
def e_slab_Pick : Entry Sg := entC c_slab_Pick slab_Pick (fun s t p h k w => [p ≤ 1024])
def slab_Pick_w (s : VS) (t : Int) (p : Int) (h : Int) (k : Int) (w : Int) (R_ : VS × Int × List Int × Bool → Prop) : Prop := (bw_ (decide (k < 0) || decide (k ≥ 9) || decide (w < 1) || decide (w > 4)) (R_ ((s, (-1), [], false))) (∀ r2 : VS × Int × Bool, r2 = (slab_open s t p h k) → (aw_ (p ≤ 1024) (bw_ (!r2.2.2) (R_ ((r2.1, (-1), [], false))) (∀ r5 : Int, r5 = (place_Taken t p h r2.2.1) → (∀ r6 : VS × Int, r6 = ((VS.read r2.1 r5, VS.get r2.1 r5)) → (∀ r7 : Int, r7 = (kSlots k) → (∀ r8 : List Int, r8 = (half_Free r6.2 r7) → (bw_ ((↑(List.length r8) : Int) == 0) (R_ ((r6.1, (-1), [], false))) (aw_ ((0 ≤ if (↑(List.length r8) : Int) < w then (↑(List.length r8) : Int) else w) ∧ (if (↑(List.length r8) : Int) < w then (↑(List.length r8) : Int) else w) ≤ (↑(List.length r8) : Int)) (∀ r12 : Int, r12 = (slab_bits (List.take (Int.toNat (if (↑(List.length r8) : Int) < w then (↑(List.length r8) : Int) else w)) r8)) → (aw_ (nnL (List.take (Int.toNat (if (↑(List.length r8) : Int) < w then (↑(List.length r8) : Int) else w)) r8)) (∀ r14 : Int, r14 = (place_Taken t p h r2.2.1) → (∀ r15 : VS, r15 = (VS.set r6.1 r14 (IntKind.wrap IntKind.u32 (↑(BitVec.toNat (BitVec.ofInt 32 r6.2 ||| BitVec.ofInt 32 r12)) : Int))) → (aw_ (bd32 (IntKind.wrap IntKind.u32 (↑(BitVec.toNat (BitVec.ofInt 32 r6.2 ||| BitVec.ofInt 32 r12)) : Int))) (∀ r17 : Bool, r17 = (slab_full (IntKind.wrap IntKind.u32 (↑(BitVec.toNat (BitVec.ofInt 32 r6.2 ||| BitVec.ofInt 32 r12)) : Int)) k) → (aw_ (bd32 (IntKind.wrap IntKind.u32 (↑(BitVec.toNat (BitVec.ofInt 32 r6.2 ||| BitVec.ofInt 32 r12)) : Int))) (bw_ (r17) (∀ r20 : VS, r20 = (link_Pull r15 t p h (place_Rack k) r2.2.1) → (R_ ((r20, r2.2.1, List.take (Int.toNat (if (↑(List.length r8) : Int) < w then (↑(List.length r8) : Int) else w)) r8, true)))) (R_ ((r15, r2.2.1, List.take (Int.toNat (if (↑(List.length r8) : Int) < w then (↑(List.length r8) : Int) else w)) r8, true)))))))))))))))))))))
theorem slab_Pick_begin (s : VS) (t : Int) (p : Int) (h : Int) (k : Int) (w : Int) (hp0 : p ≤ 1024) : slab_Pick_w s t p h k w  (fun r__ => r__ = (slab_Pick s t p h k w)) := by
  unfold slab_Pick_w
  have hcond : (decide (k < 0) || decide (k ≥ 9) || decide (w < 1) || decide (w > 4)) = (decide (k < 0) || decide (9 ≤ k) || decide (w < 1) || decide (4 < w)) := by
    rfl
  rw [hcond]
  refine ⟨fun hc => ?_, fun hc => ?_⟩
  · show _ = slab_Pick s t p h k w
    rw [slab_Pick, pPick, hc]; rfl
  have hkw : (0 ≤ k ∧ k ≤ 8) ∧ 1 ≤ w ∧ w ≤ 4 := by
    simp only [Bool.or_eq_false_iff, decide_eq_false_iff_not] at hc; omega
  have hrun : slab_Pick s t p h k w = ((pOpen ⟨t, p, h⟩ k).bind fun r => bif r.2 then .get (Cf.taken ⟨t, p, h⟩ r.1) (pTakeS ⟨t, p, h⟩ r.1 k w) else .ret (-1, [], false)).run s := by
    rw [slab_Pick, pPick, hc]; rfl
  rw [Pg.run_bind] at hrun
  have e0 : slab_open s t p h k = (pOpen ⟨t, p, h⟩ k).run s := rfl
  rw [e0]
  generalize (pOpen ⟨t, p, h⟩ k).run s = o at hrun ⊢
  obtain ⟨s1, g, ok⟩ := o
  rintro r2 rfl
  refine ⟨hp0, fun _ => ⟨fun hn => ?_, fun hn => ?_⟩⟩
  · have hn' : ok = false := (Bool.not_eq_true' _).mp hn
    subst hn'
    exact hrun.symm
  have hn' : ok = true := (Bool.not_eq_false' _).mp hn
  subst hn'
  simp only [place_Taken_eq, place_Rack_eq]
  rintro r5 rfl r6 rfl r7 rfl r8 rfl
  have hrun : slab_Pick s t p h k w = (pTakeS ⟨t, p, h⟩ g k w (s1.get (Cf.taken ⟨t, p, h⟩ g))).run (s1.read (Cf.taken ⟨t, p, h⟩ g)) := hrun
  have hT : bd32 (s1.get (Cf.taken ⟨t, p, h⟩ g)) := VS.get_bd _ _
  simp only
  rw [half_Free_eq hT (kSlots_bd k).2]
  generalize s1.get (Cf.taken ⟨t, p, h⟩ g) = T at hrun hT ⊢
  generalize s1.read (Cf.taken ⟨t, p, h⟩ g) = u at hrun ⊢
  have hks := kSlots_bd k
  refine ⟨fun he => ?_, fun he => ⟨⟨by split <;> omega, by split <;> omega⟩, fun _ => ?_⟩⟩
  · show _ = slab_Pick s t p h k w
    rw [hrun, pTakeS, he]; rfl
  rw [take_if (by omega)]
  have hm : ∀ x ∈ (frL T (kSlots k)).take w.toNat, 0 ≤ x ∧ x < 32 := fun x hx => by
    have := frL_mem (List.mem_of_mem_take hx); omega
  rw [pTakeS, he, cond_false] at hrun
  generalize (frL T (kSlots k)).take w.toNat = l at hrun hm ⊢
  rintro r12 rfl
  refine ⟨fun x hx => (hm x hx).1, fun _ => ?_⟩
  rw [or_bits hT hm]
  have hb := (bitAt_setL hT hm).1
  rintro r14 rfl r15 rfl
  refine ⟨hb, fun _ => ?_⟩
  rintro r17 rfl
  refine ⟨hb, fun _ => ⟨fun hf => ?_, fun hf => ?_⟩⟩
  · rintro r20 rfl
    have hf : full (setL T l) k = true := hf
    show _ = slab_Pick s t p h k w
    rw [hrun, pPutS, hf]; simp only [Pg.run_put, Pg.run_bind, Pg.run_ret, cond_true, cond_false] <;> rfl
  · have hf : full (setL T l) k = false := hf
    show _ = slab_Pick s t p h k w
    rw [hrun, pPutS, hf]; simp only [Pg.run_put, Pg.run_bind, Pg.run_ret, cond_true, cond_false] <;> rfl
theorem slab_Pick_ok : EOk 11 e_slab_Pick :=
  ent_w0 Dg T_slab_open_ok (I := [2999998]) Tryz.func11 mix (B := bodyOf Tryz.f11) (by kernel_rfl) rfl (by kernel_rfl) 400
    fun _ s t p h k w hb hp => ⟨slab_Pick_w s t p h k w (fun r__ => r__ = (slab_Pick s t p h k w)), fun _ _ _ => by kernel_rfl, slab_Pick_begin s t p h k w (hp _ (.head _))⟩
def T_slab_Pick : Tb := (11, e_slab_Pick) :: T_slab_open
theorem T_slab_Pick_ok : TOk T_slab_Pick := tc_ slab_Pick_ok T_slab_open_ok
def slab_Give (s : VS) (t : Int) (p : Int) (h : Int) (g : Int) (b : Int) : VS := ((pGive ⟨t, p, h⟩ g b).run s).1
abbrev c_slab_Give : Ct Sg := ⟨some wView, false, [.agg [.i .i64, .i .i64, .i .i64], .i .i64, .i .i64], .skip⟩
def e_slab_Give : Entry Sg := entC c_slab_Give slab_Give (fun s t p h g b => [p ≤ 1024, 0 ≤ g])
def slab_Give_w (s : VS) (t : Int) (p : Int) (h : Int) (g : Int) (b : Int) (R_ : VS → Prop) : Prop := (bw_ (decide (b < 0) || decide (b ≥ 32)) (R_ (s)) (∀ r2 : Int, r2 = (place_Info t p h g) → (∀ r3 : VS × Int, r3 = ((VS.read s r2, VS.get s r2)) → (∀ r4 : Int × Int × Int × Bool, r4 = (info_Get r3.2) → (∀ r6 : Int, r6 = (place_Rack r4.2.2.1) → (∀ r7 : Int, r7 = (place_Taken t p h g) → (∀ r8 : VS × Int, r8 = ((VS.read r3.1 r7, VS.get r3.1 r7)) → (∀ r10 : Int, r10 = (slab_bits [b]) → (aw_ (nnL [b]) (∀ r12 : Bool, r12 = (slab_full r8.2 r4.2.2.1) → (aw_ (bd32 r8.2) (bw_ (IntKind.wrap IntKind.u32 (↑(BitVec.toNat (BitVec.ofInt 32 r8.2 &&& ~~~BitVec.ofInt 32 r10)) : Int) != 0) (∀ r15 : Int, r15 = (place_Taken t p h g) → (∀ r16 : VS, r16 = (VS.set r8.1 r15 (IntKind.wrap IntKind.u32 (↑(BitVec.toNat (BitVec.ofInt 32 r8.2 &&& ~~~BitVec.ofInt 32 r10)) : Int))) → (aw_ (bd32 (IntKind.wrap IntKind.u32 (↑(BitVec.toNat (BitVec.ofInt 32 r8.2 &&& ~~~BitVec.ofInt 32 r10)) : Int))) (bw_ (r12) (∀ r19 : VS, r19 = (link_Push r16 t p h r6 g) → (R_ (r19))) (R_ (r16)))))) (bw_ (!r12) (∀ r16 : VS, r16 = (link_Pull r8.1 t p h r6 g) → (∀ r17 : Int, r17 = (place_Taken t p h g) → (∀ r18 : VS, r18 = (VS.set r16 r17 0) → (aw_ (bd32 0) (∀ r20 : VS, r20 = (span_Release r18 t p h g 1) → (aw_ (p ≤ 1024) (aw_ (0 ≤ g) (R_ (r20))))))))) (∀ r16 : Int, r16 = (place_Taken t p h g) → (∀ r17 : VS, r17 = (VS.set r8.1 r16 0) → (aw_ (bd32 0) (∀ r19 : VS, r19 = (span_Release r17 t p h g 1) → (aw_ (p ≤ 1024) (aw_ (0 ≤ g) (R_ (r19)))))))))))))))))))))
theorem slab_Give_begin (s : VS) (t : Int) (p : Int) (h : Int) (g : Int) (b : Int) (hp0 : p ≤ 1024) (hp1 : 0 ≤ g) : slab_Give_w s t p h g b  (fun r__ => r__ = (slab_Give s t p h g b)) := by
  unfold slab_Give_w
  refine ⟨fun hc => ?_, fun hc => ?_⟩
  · have hc : (decide (b < 0) || decide (32 ≤ b)) = true := hc
    show _ = slab_Give s t p h g b
    rw [slab_Give, pGive, hc]; rfl
  have hb : 0 ≤ b ∧ b < 32 := by simp only [Bool.or_eq_false_iff, decide_eq_false_iff_not] at hc; omega
  have hc : (decide (b < 0) || decide (32 ≤ b)) = false := hc
  simp only [place_Taken_eq, place_Rack_eq, place_Info_eq]
  rintro r2 rfl r3 rfl r4 rfl r6 rfl r7 rfl r8 rfl r10 rfl
  refine ⟨fun x hx => by rw [List.mem_singleton] at hx; omega, fun _ => ?_⟩
  simp only [infoG1, infoG2, infoG3]
  have hT := VS.get_bd (s.read (Cf.info ⟨t, p, h⟩ g)) (Cf.taken ⟨t, p, h⟩ g)
  rw [and_bits hT hb]
  have hu := (bitAt_clrB hT hb).1
  have hrun : slab_Give s t p h g b = ((pGive ⟨t, p, h⟩ g b).run s).1 := rfl
  unfold pGive at hrun
  rw [hc, cond_false, Pg.run_bind] at hrun
  simp only [pInfo, Pg.run_get, Pg.run_ret] at hrun
  generalize (s.read (Cf.info ⟨t, p, h⟩ g)).get (Cf.taken ⟨t, p, h⟩ g) = T at hrun hT hu ⊢
  generalize (s.read (Cf.info ⟨t, p, h⟩ g)).read (Cf.taken ⟨t, p, h⟩ g) = u at hrun ⊢
  generalize (iGet (s.get (Cf.info ⟨t, p, h⟩ g))).c = k at hrun ⊢
  rintro r12 rfl
  refine ⟨hT, fun _ => ⟨fun hz => ?_, fun hz => ?_⟩⟩
  · have hz : (clrB T b == 0) = false := by simpa using hz
    rw [hz] at hrun
    rintro r15 rfl r16 rfl
    refine ⟨hu, fun _ => ⟨fun hf => ?_, fun hf => ?_⟩⟩
    · rintro r19 rfl
      have hf : full T k = true := hf
      rw [hf] at hrun; (simp only [Pg.run_put, Pg.run_bind, Pg.run_ret, cond_true, cond_false] at hrun; exact hrun.symm)
    · have hf : full T k = false := hf
      rw [hf] at hrun; (simp only [Pg.run_put, Pg.run_bind, Pg.run_ret, cond_true, cond_false] at hrun; exact hrun.symm)
  · have hz : (clrB T b == 0) = true := by simpa using hz
    rw [hz] at hrun
    refine ⟨fun hf => ?_, fun hf => ?_⟩
    · have hf : full T k = false := (Bool.not_eq_true' _).mp hf
      rw [hf] at hrun
      rintro r16 rfl r17 rfl r18 rfl
      refine ⟨⟨by decide, by decide⟩, fun _ => ?_⟩
      rintro r20 rfl
      exact ⟨hp0, fun _ => ⟨hp1, fun _ => by simp only [Pg.run_put, Pg.run_bind, Pg.run_ret, cond_true, cond_false] at hrun; exact hrun.symm⟩⟩
    · have hf : full T k = true := (Bool.not_eq_false' _).mp hf
      rw [hf] at hrun
      rintro r16 rfl r17 rfl
      refine ⟨⟨by decide, by decide⟩, fun _ => ?_⟩
      rintro r19 rfl
      exact ⟨hp0, fun _ => ⟨hp1, fun _ => by simp only [Pg.run_put, Pg.run_bind, Pg.run_ret, cond_true, cond_false] at hrun; exact hrun.symm⟩⟩
theorem slab_Give_ok : EOk 20 e_slab_Give :=
  ent_w0 Dg T_slab_Pick_ok (I := [2999998]) Tryz.func20 mix (B := bodyOf Tryz.f20) (by kernel_rfl) rfl (by kernel_rfl) 400
    fun _ s t p h g b hb hp => ⟨slab_Give_w s t p h g b (fun r__ => r__ = (slab_Give s t p h g b)), fun _ _ _ => by kernel_rfl, slab_Give_begin s t p h g b (hp _ (.head _)) (hp _ (.tail _ (.head _)))⟩
def T_slab_Give : Tb := (20, e_slab_Give) :: T_slab_Pick
theorem T_slab_Give_ok : TOk T_slab_Give := tc_ slab_Give_ok T_slab_Pick_ok
end Go.Proofs.YtcbeifgnccbfbaaGreat
