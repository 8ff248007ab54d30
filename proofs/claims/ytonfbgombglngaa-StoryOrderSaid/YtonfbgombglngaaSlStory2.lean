/-
  DERIVED. What functions of the program compute, read off their bodies by the machine of SlB, and that it is so. Printed by a program of this claim's own.
-/
import Derived.Test.YtonfbgombglngaaSlStory
namespace Go.Proofs.Ytonfbgombglngaa
open Go.Sl
set_option linter.unusedSimpArgs false
set_option linter.unusedVariables false

/-- The place of the event by which a thread began what it is at, behind the first n events; -1: it is idle. -/
def atF (kd th : List Int) (t : Int) : Nat → Int
  | 0 => -1
  | n + 1 => bif kd.getD n 0 == 1 then (bif th.getD n 0 == t then (n : Int) else atF kd th t n) else bif kd.getD n 0 == 2 then (bif th.getD n 0 == t then -1 else atF kd th t n) else bif kd.getD n 0 == 4 then -1 else atF kd th t n
def crashF (kd : List Int) : Nat → Int
  | 0 => 0
  | n + 1 => bif kd.getD n 0 == 4 then crashF kd n + 1 else crashF kd n
def upF (kd : List Int) : Nat → Bool
  | 0 => true
  | n + 1 => bif kd.getD n 0 == 5 then true else bif kd.getD n 0 == 4 then false else upF kd n
def aboveF (kd th nm : List Int) (t x : Int) : Nat → Bool
  | 0 => true
  | n + 1 => bif kd.getD n 0 == 2 && th.getD n 0 == t && decide (nm.getD n 0 ≥ x) then false else aboveF kd th nm t x n
theorem crashF_bd (kd : List Int) : ∀ n, 0 ≤ crashF kd n ∧ crashF kd n ≤ n
  | 0 => by simp [crashF]
  | n + 1 => by
    have := crashF_bd kd n
    simp only [crashF]
    cases kd.getD n 0 == 4 <;> simp <;> omega
theorem atF_bd (kd th : List Int) (t : Int) : ∀ n, -1 ≤ atF kd th t n ∧ atF kd th t n < n
  | 0 => by simp [atF]
  | n + 1 => by
    have := atF_bd kd th t n
    simp only [atF]
    cases kd.getD n 0 == 1 <;> cases kd.getD n 0 == 2 <;> cases kd.getD n 0 == 4 <;> cases th.getD n 0 == t <;> simp <;> omega
theorem aboveF_mono {kd th nm : List Int} {t x : Int} {n : Nat} (h : aboveF kd th nm t x n = false) : ∀ m, n ≤ m → aboveF kd th nm t x m = false
  | 0, hm => by have : n = 0 := by omega
                subst this; exact h
  | m + 1, hm => by
    by_cases e : n = m + 1
    · subst e; exact h
    · have := aboveF_mono h m (by omega)
      simp only [aboveF, this]
      cases (kd.getD m 0 == 2 && th.getD m 0 == t && decide (nm.getD m 0 ≥ x)) <;> rfl


/- nacre/nacreref33.at -/
def r33_at (kd : List Int) (ep : List Int) (th : List Int) (nm : List Int) (oK : List Int) (oA : List Int) (oB : List Int) (rE : List Int) (rO : List Int) (rX : List Int) (aK : List Int) (pK : List Int) (pA : List Int) (pB : List Int) (sE : List Int) (sO : List Int) (sX : List Int) (t : Int) : Int := atF kd th t kd.length
abbrev c_r33_at : Ct Sg := ⟨none, false, [.ro [some .i64, some .i64, some .i64, some .i64, some .i64, some .i64, some .i64, some .i64, some .i64, some .i64, some .i64, some .i64, some .i64, some .i64, some .i64, some .i64, some .i64], .i .i64], .i .i64⟩
def e_r33_at : Entry Sg := entC c_r33_at r33_at (fun _ _ _ _ _ _ _ _ _ _ _ _ _ _ _ _ _ _ => [])
def r33_at_w (kd : List Int) (ep : List Int) (th : List Int) (nm : List Int) (oK : List Int) (oA : List Int) (oB : List Int) (rE : List Int) (rO : List Int) (rX : List Int) (aK : List Int) (pK : List Int) (pA : List Int) (pB : List Int) (sE : List Int) (sO : List Int) (sX : List Int) (t : Int) (Q0 : Int → Int → Prop) (R_ : Int → Prop) : Prop := (Q0 ((0 : Int)) ((-1 : Int)))
def r33_at_w0 (kd : List Int) (ep : List Int) (th : List Int) (nm : List Int) (oK : List Int) (oA : List Int) (oB : List Int) (rE : List Int) (rO : List Int) (rX : List Int) (aK : List Int) (pK : List Int) (pA : List Int) (pB : List Int) (sE : List Int) (sO : List Int) (sX : List Int) (t : Int) (i : Int) (o : Int) (Q0 : Int → Int → Prop) (R_ : Int → Prop) : Prop := (((decide (i < (↑(List.length kd) : Int))) = true → (((0 : Int) ≤ i ∧ i < (↑(List.length kd) : Int)) ∧ (((0 : Int) ≤ i ∧ i < (↑(List.length kd) : Int)) → (((List.getD kd (Int.toNat i) (0 : Int) == (1 : Int)) = true → (((0 : Int) ≤ i ∧ i < (↑(List.length kd) : Int)) ∧ (((0 : Int) ≤ i ∧ i < (↑(List.length kd) : Int)) → (((List.getD th (Int.toNat i) (0 : Int) == t) = true → (Q0 (IntKind.wrap IntKind.i64 (i + (1 : Int))) (i))) ∧ ((List.getD th (Int.toNat i) (0 : Int) == t) = false → (Q0 (IntKind.wrap IntKind.i64 (i + (1 : Int))) (o))))))) ∧ ((List.getD kd (Int.toNat i) (0 : Int) == (1 : Int)) = false → (((List.getD kd (Int.toNat i) (0 : Int) == (2 : Int)) = true → (((0 : Int) ≤ i ∧ i < (↑(List.length kd) : Int)) ∧ (((0 : Int) ≤ i ∧ i < (↑(List.length kd) : Int)) → (((List.getD th (Int.toNat i) (0 : Int) == t) = true → (Q0 (IntKind.wrap IntKind.i64 (i + (1 : Int))) ((-1 : Int)))) ∧ ((List.getD th (Int.toNat i) (0 : Int) == t) = false → (Q0 (IntKind.wrap IntKind.i64 (i + (1 : Int))) (o))))))) ∧ ((List.getD kd (Int.toNat i) (0 : Int) == (2 : Int)) = false → (((List.getD kd (Int.toNat i) (0 : Int) == (4 : Int)) = true → (Q0 (IntKind.wrap IntKind.i64 (i + (1 : Int))) ((-1 : Int)))) ∧ ((List.getD kd (Int.toNat i) (0 : Int) == (4 : Int)) = false → (Q0 (IntKind.wrap IntKind.i64 (i + (1 : Int))) (o))))))))))) ∧ ((decide (i < (↑(List.length kd) : Int))) = false → (R_ o)))
def r33_at_I0 (kd : List Int) (ep : List Int) (th : List Int) (nm : List Int) (oK : List Int) (oA : List Int) (oB : List Int) (rE : List Int) (rO : List Int) (rX : List Int) (aK : List Int) (pK : List Int) (pA : List Int) (pB : List Int) (sE : List Int) (sO : List Int) (sX : List Int) (t : Int) (i : Int) (o : Int) (r_ : Int) : Prop := 0 ≤ i ∧ i ≤ kd.length ∧ o = atF kd th t i.toNat ∧ r_ = atF kd th t kd.length
theorem r33_at_begin (kd : List Int) (ep : List Int) (th : List Int) (nm : List Int) (oK : List Int) (oA : List Int) (oB : List Int) (rE : List Int) (rO : List Int) (rX : List Int) (aK : List Int) (pK : List Int) (pA : List Int) (pB : List Int) (sE : List Int) (sO : List Int) (sX : List Int) (t : Int) (hl0 : kd.length ≤ 9223372036854775807) : r33_at_w kd ep th nm oK oA oB rE rO rX aK pK pA pB sE sO sX t (fun i' o' => r33_at_I0 kd ep th nm oK oA oB rE rO rX aK pK pA pB sE sO sX t i' o' (r33_at kd ep th nm oK oA oB rE rO rX aK pK pA pB sE sO sX t)) (fun r__ => r__ = (r33_at kd ep th nm oK oA oB rE rO rX aK pK pA pB sE sO sX t)) := by
  unfold r33_at_w
  try unfold r33_at_I0
  exact ⟨by omega, by omega, rfl, rfl⟩
theorem r33_at_step0 (kd : List Int) (ep : List Int) (th : List Int) (nm : List Int) (oK : List Int) (oA : List Int) (oB : List Int) (rE : List Int) (rO : List Int) (rX : List Int) (aK : List Int) (pK : List Int) (pA : List Int) (pB : List Int) (sE : List Int) (sO : List Int) (sX : List Int) (t : Int) (hl0 : kd.length ≤ 9223372036854775807) (i : Int) (o : Int) {r_ : Int} (hI : r33_at_I0 kd ep th nm oK oA oB rE rO rX aK pK pA pB sE sO sX t i o r_) : r33_at_w0 kd ep th nm oK oA oB rE rO rX aK pK pA pB sE sO sX t i o (fun i' o' => r33_at_I0 kd ep th nm oK oA oB rE rO rX aK pK pA pB sE sO sX t i' o' r_ ∧ lx ((kd.length - i').toNat, 0, 0) ((kd.length - i).toNat, 0, 0)) (fun r__ => r__ = r_) := by
  unfold r33_at_I0 at hI
  unfold r33_at_w0
  try unfold r33_at_I0
  obtain ⟨h0, h1, h2, h3⟩ := hI
  refine ⟨fun h => ?_, fun h => ?_⟩
  · simp only [decide_eq_true_eq] at h
    have e : (i + 1).toNat = i.toNat + 1 := by omega
    have hi : (i.toNat : Int) = i := by omega
    try rw [w64 (n := i + 1) (by omega)]
  
    have hs : atF kd th t (i + 1).toNat = (bif kd.getD i.toNat 0 == 1 then (bif th.getD i.toNat 0 == t then (i.toNat : Int) else atF kd th t i.toNat) else bif kd.getD i.toNat 0 == 2 then (bif th.getD i.toNat 0 == t then -1 else atF kd th t i.toNat) else bif kd.getD i.toNat 0 == 4 then -1 else atF kd th t i.toNat) := by rw [e]; rfl
    rw [← h2] at hs
    simp only [hi] at hs
    repeat' first
      | refine ⟨fun hc => ?_, fun hc => ?_⟩
      | refine ⟨⟨h0, h⟩, fun _ => ?_⟩
      | exact ⟨h0, h⟩
      | exact ⟨by omega, by omega⟩
      | refine ⟨⟨by omega, by omega, ?_, h3⟩, lxo_⟩
      | fail
    all_goals (rw [hs]; simp only [*, cond_true, cond_false])
  · simp only [decide_eq_false_iff_not] at h
    have e : i.toNat = kd.length := by omega
  
    show o = r_
    rw [h3, h2, e]
theorem r33_at_ok : EntryOk Dg Try.prog 120 e_r33_at :=
  ent_wp Dg T_story_Before_ok (I := [411000000006, 411000000005, 411000000000, 411000000001]) Try.func120 mix (B := bodyOf Try.f120) (by kernel_rfl) rfl (by kernel_rfl) 400
    fun p0 kd ep th nm oK oA oB rE rO rX aK pK pA pB sE sO sX t hb hp => have hl0 : kd.length ≤ 9223372036854775807 := hb.1; ⟨[⟨none, [0,1,0,1,1], [.blk 0, .code [1,1,1]], [6, 5, 0, 1], [.i .i64, .i .i64, .roc [.ints .i64 (kd), .ints .i64 (ep), .ints .i64 (th), .ints .i64 (nm), .ints .i64 (oK), .ints .i64 (oA), .ints .i64 (oB), .ints .i64 (rE), .ints .i64 (rO), .ints .i64 (rX), .ints .i64 (aK), .ints .i64 (pK), .ints .i64 (pA), .ints .i64 (pB), .ints .i64 (sE), .ints .i64 (sO), .ints .i64 (sX)], .ic .i64 (t)]⟩], fun j => List.getD [appC (Hd.kd (⟨none, [0,1,0,1,1], [.blk 0, .code [1,1,1]], [6, 5, 0, 1], [.i .i64, .i .i64, .roc [.ints .i64 (kd), .ints .i64 (ep), .ints .i64 (th), .ints .i64 (nm), .ints .i64 (oK), .ints .i64 (oA), .ints .i64 (oB), .ints .i64 (rE), .ints .i64 (rO), .ints .i64 (rX), .ints .i64 (aK), .ints .i64 (pK), .ints .i64 (pA), .ints .i64 (pB), .ints .i64 (sE), .ints .i64 (sO), .ints .i64 (sX)], .ic .i64 (t)]⟩ : Hd Sg)) (fun i' o' => r33_at_I0 kd ep th nm oK oA oB rE rO rX aK pK pA pB sE sO sX t i' o' (r33_at kd ep th nm oK oA oB rE rO rX aK pK pA pB sE sO sX t))] j (fun _ => False), fun j => List.getD [appC (Hd.kd (⟨none, [0,1,0,1,1], [.blk 0, .code [1,1,1]], [6, 5, 0, 1], [.i .i64, .i .i64, .roc [.ints .i64 (kd), .ints .i64 (ep), .ints .i64 (th), .ints .i64 (nm), .ints .i64 (oK), .ints .i64 (oA), .ints .i64 (oB), .ints .i64 (rE), .ints .i64 (rO), .ints .i64 (rX), .ints .i64 (aK), .ints .i64 (pK), .ints .i64 (pA), .ints .i64 (pB), .ints .i64 (sE), .ints .i64 (sO), .ints .i64 (sX)], .ic .i64 (t)]⟩ : Hd Sg)) (fun i' o' => ((kd.length - i').toNat, 0, 0))] j (fun _ => (0, 0, 0)), by kernel_rfl, ⟨r33_at_w kd ep th nm oK oA oB rE rO rX aK pK pA pB sE sO sX t (fun i' o' => r33_at_I0 kd ep th nm oK oA oB rE rO rX aK pK pA pB sE sO sX t i' o' (r33_at kd ep th nm oK oA oB rE rO rX aK pK pA pB sE sO sX t)) (fun r__ => r__ = (r33_at kd ep th nm oK oA oB rE rO rX aK pK pA pB sE sO sX t)), fun _ _ _ => by kernel_rfl, r33_at_begin kd ep th nm oK oA oB rE rO rX aK pK pA pB sE sO sX t hl0 ⟩, ⟨fun i o hI => ⟨r33_at_w0 kd ep th nm oK oA oB rE rO rX aK pK pA pB sE sO sX t i o (fun i' o' => r33_at_I0 kd ep th nm oK oA oB rE rO rX aK pK pA pB sE sO sX t i' o' (r33_at kd ep th nm oK oA oB rE rO rX aK pK pA pB sE sO sX t) ∧ lx ((kd.length - i').toNat, 0, 0) ((kd.length - i).toNat, 0, 0)) (fun r__ => r__ = (r33_at kd ep th nm oK oA oB rE rO rX aK pK pA pB sE sO sX t)), fun _ _ _ => by kernel_rfl, r33_at_step0 kd ep th nm oK oA oB rE rO rX aK pK pA pB sE sO sX t hl0 i o hI⟩, trivial⟩⟩
def T_r33_at : List (Nat × Entry Sg) := (120, e_r33_at) :: T_story_Before
theorem T_r33_at_ok : TableOk Dg Try.prog T_r33_at := TableOk.cons Dg r33_at_ok T_story_Before_ok

/- nacre/nacreref33.epoch -/
def r33_epoch (kd : List Int) (ep : List Int) (th : List Int) (nm : List Int) (oK : List Int) (oA : List Int) (oB : List Int) (rE : List Int) (rO : List Int) (rX : List Int) (aK : List Int) (pK : List Int) (pA : List Int) (pB : List Int) (sE : List Int) (sO : List Int) (sX : List Int) : Int × Bool := (crashF kd kd.length, upF kd kd.length)
abbrev c_r33_epoch : Ct Sg := ⟨none, false, [.ro [some .i64, some .i64, some .i64, some .i64, some .i64, some .i64, some .i64, some .i64, some .i64, some .i64, some .i64, some .i64, some .i64, some .i64, some .i64, some .i64, some .i64]], .tup [.i .i64, .b]⟩
def e_r33_epoch : Entry Sg := entC c_r33_epoch r33_epoch (fun _ _ _ _ _ _ _ _ _ _ _ _ _ _ _ _ _ => [])
def r33_epoch_w (kd : List Int) (ep : List Int) (th : List Int) (nm : List Int) (oK : List Int) (oA : List Int) (oB : List Int) (rE : List Int) (rO : List Int) (rX : List Int) (aK : List Int) (pK : List Int) (pA : List Int) (pB : List Int) (sE : List Int) (sO : List Int) (sX : List Int) (Q0 : Int → Int → Bool → Prop) (R_ : Int × Bool → Prop) : Prop := (Q0 ((0 : Int)) ((0 : Int)) (true))
def r33_epoch_w0 (kd : List Int) (ep : List Int) (th : List Int) (nm : List Int) (oK : List Int) (oA : List Int) (oB : List Int) (rE : List Int) (rO : List Int) (rX : List Int) (aK : List Int) (pK : List Int) (pA : List Int) (pB : List Int) (sE : List Int) (sO : List Int) (sX : List Int) (i : Int) (n : Int) (u : Bool) (Q0 : Int → Int → Bool → Prop) (R_ : Int × Bool → Prop) : Prop := (((decide (i < (↑(List.length kd) : Int))) = true → (((0 : Int) ≤ i ∧ i < (↑(List.length kd) : Int)) ∧ (((0 : Int) ≤ i ∧ i < (↑(List.length kd) : Int)) → (((List.getD kd (Int.toNat i) (0 : Int) == (4 : Int)) = true → (((0 : Int) ≤ i ∧ i < (↑(List.length kd) : Int)) ∧ (((0 : Int) ≤ i ∧ i < (↑(List.length kd) : Int)) → (((List.getD kd (Int.toNat i) (0 : Int) == (5 : Int)) = true → (Q0 (IntKind.wrap IntKind.i64 (i + (1 : Int))) (IntKind.wrap IntKind.i64 (n + (1 : Int))) (true))) ∧ ((List.getD kd (Int.toNat i) (0 : Int) == (5 : Int)) = false → (Q0 (IntKind.wrap IntKind.i64 (i + (1 : Int))) (IntKind.wrap IntKind.i64 (n + (1 : Int))) (false))))))) ∧ ((List.getD kd (Int.toNat i) (0 : Int) == (4 : Int)) = false → (((0 : Int) ≤ i ∧ i < (↑(List.length kd) : Int)) ∧ (((0 : Int) ≤ i ∧ i < (↑(List.length kd) : Int)) → (((List.getD kd (Int.toNat i) (0 : Int) == (5 : Int)) = true → (Q0 (IntKind.wrap IntKind.i64 (i + (1 : Int))) (n) (true))) ∧ ((List.getD kd (Int.toNat i) (0 : Int) == (5 : Int)) = false → (Q0 (IntKind.wrap IntKind.i64 (i + (1 : Int))) (n) (u))))))))))) ∧ ((decide (i < (↑(List.length kd) : Int))) = false → (R_ (n, u))))
def r33_epoch_I0 (kd : List Int) (ep : List Int) (th : List Int) (nm : List Int) (oK : List Int) (oA : List Int) (oB : List Int) (rE : List Int) (rO : List Int) (rX : List Int) (aK : List Int) (pK : List Int) (pA : List Int) (pB : List Int) (sE : List Int) (sO : List Int) (sX : List Int) (i : Int) (n : Int) (u : Bool) (r_ : Int × Bool) : Prop := 0 ≤ i ∧ i ≤ kd.length ∧ (n = crashF kd i.toNat ∧ u = upF kd i.toNat) ∧ r_ = (crashF kd kd.length, upF kd kd.length)
theorem r33_epoch_begin (kd : List Int) (ep : List Int) (th : List Int) (nm : List Int) (oK : List Int) (oA : List Int) (oB : List Int) (rE : List Int) (rO : List Int) (rX : List Int) (aK : List Int) (pK : List Int) (pA : List Int) (pB : List Int) (sE : List Int) (sO : List Int) (sX : List Int) (hl0 : kd.length ≤ 9223372036854775807) : r33_epoch_w kd ep th nm oK oA oB rE rO rX aK pK pA pB sE sO sX (fun i' n' u' => r33_epoch_I0 kd ep th nm oK oA oB rE rO rX aK pK pA pB sE sO sX i' n' u' (r33_epoch kd ep th nm oK oA oB rE rO rX aK pK pA pB sE sO sX)) (fun r__ => r__ = (r33_epoch kd ep th nm oK oA oB rE rO rX aK pK pA pB sE sO sX)) := by
  unfold r33_epoch_w
  try unfold r33_epoch_I0
  exact ⟨by omega, by omega, ⟨rfl, rfl⟩, rfl⟩
theorem r33_epoch_step0 (kd : List Int) (ep : List Int) (th : List Int) (nm : List Int) (oK : List Int) (oA : List Int) (oB : List Int) (rE : List Int) (rO : List Int) (rX : List Int) (aK : List Int) (pK : List Int) (pA : List Int) (pB : List Int) (sE : List Int) (sO : List Int) (sX : List Int) (hl0 : kd.length ≤ 9223372036854775807) (i : Int) (n : Int) (u : Bool) {r_ : Int × Bool} (hI : r33_epoch_I0 kd ep th nm oK oA oB rE rO rX aK pK pA pB sE sO sX i n u r_) : r33_epoch_w0 kd ep th nm oK oA oB rE rO rX aK pK pA pB sE sO sX i n u (fun i' n' u' => r33_epoch_I0 kd ep th nm oK oA oB rE rO rX aK pK pA pB sE sO sX i' n' u' r_ ∧ lx ((kd.length - i').toNat, 0, 0) ((kd.length - i).toNat, 0, 0)) (fun r__ => r__ = r_) := by
  unfold r33_epoch_I0 at hI
  unfold r33_epoch_w0
  try unfold r33_epoch_I0
  obtain ⟨h0, h1, h2, h3⟩ := hI
  refine ⟨fun h => ?_, fun h => ?_⟩
  · simp only [decide_eq_true_eq] at h
    have e : (i + 1).toNat = i.toNat + 1 := by omega
    have hi : (i.toNat : Int) = i := by omega
    try rw [w64 (n := i + 1) (by omega)]
  
    have hb := crashF_bd kd i.toNat
    rw [← h2.1] at hb
    have hs : crashF kd (i + 1).toNat = bif kd.getD i.toNat 0 == 4 then n + 1 else n := by rw [e, h2.1]; rfl
    have hu : upF kd (i + 1).toNat = bif kd.getD i.toNat 0 == 5 then true else bif kd.getD i.toNat 0 == 4 then false else u := by rw [e, h2.2]; rfl
    try rw [w64 (n := n + 1) (by omega)]
    repeat' first
      | refine ⟨fun hc => ?_, fun hc => ?_⟩
      | refine ⟨⟨h0, h⟩, fun _ => ?_⟩
      | exact ⟨h0, h⟩
      | exact ⟨by omega, by omega⟩
      | refine ⟨⟨by omega, by omega, ⟨?_, ?_⟩, h3⟩, lxo_⟩
      | fail
    all_goals first | (rw [hs]; simp only [*, cond_true, cond_false]; done) | (rw [hu]; simp only [*, cond_true, cond_false]; done) | skip
  · simp only [decide_eq_false_iff_not] at h
    have e : i.toNat = kd.length := by omega
  
    show (n, u) = r_
    rw [h3, h2.1, h2.2, e]
theorem r33_epoch_ok : EntryOk Dg Try.prog 118 e_r33_epoch :=
  ent_wp Dg T_r33_at_ok (I := [411000000006, 411000000004, 411000000005, 411000000000]) Try.func118 mix (B := bodyOf Try.f118) (by kernel_rfl) rfl (by kernel_rfl) 400
    fun p0 kd ep th nm oK oA oB rE rO rX aK pK pA pB sE sO sX hb hp => have hl0 : kd.length ≤ 9223372036854775807 := hb.1; ⟨[⟨none, [0,1,0,1,1], [.blk 0, .code [1,1,1]], [6, 4, 5, 0], [.i .i64, .i .i64, .b, .roc [.ints .i64 (kd), .ints .i64 (ep), .ints .i64 (th), .ints .i64 (nm), .ints .i64 (oK), .ints .i64 (oA), .ints .i64 (oB), .ints .i64 (rE), .ints .i64 (rO), .ints .i64 (rX), .ints .i64 (aK), .ints .i64 (pK), .ints .i64 (pA), .ints .i64 (pB), .ints .i64 (sE), .ints .i64 (sO), .ints .i64 (sX)]]⟩], fun j => List.getD [appC (Hd.kd (⟨none, [0,1,0,1,1], [.blk 0, .code [1,1,1]], [6, 4, 5, 0], [.i .i64, .i .i64, .b, .roc [.ints .i64 (kd), .ints .i64 (ep), .ints .i64 (th), .ints .i64 (nm), .ints .i64 (oK), .ints .i64 (oA), .ints .i64 (oB), .ints .i64 (rE), .ints .i64 (rO), .ints .i64 (rX), .ints .i64 (aK), .ints .i64 (pK), .ints .i64 (pA), .ints .i64 (pB), .ints .i64 (sE), .ints .i64 (sO), .ints .i64 (sX)]]⟩ : Hd Sg)) (fun i' n' u' => r33_epoch_I0 kd ep th nm oK oA oB rE rO rX aK pK pA pB sE sO sX i' n' u' (r33_epoch kd ep th nm oK oA oB rE rO rX aK pK pA pB sE sO sX))] j (fun _ => False), fun j => List.getD [appC (Hd.kd (⟨none, [0,1,0,1,1], [.blk 0, .code [1,1,1]], [6, 4, 5, 0], [.i .i64, .i .i64, .b, .roc [.ints .i64 (kd), .ints .i64 (ep), .ints .i64 (th), .ints .i64 (nm), .ints .i64 (oK), .ints .i64 (oA), .ints .i64 (oB), .ints .i64 (rE), .ints .i64 (rO), .ints .i64 (rX), .ints .i64 (aK), .ints .i64 (pK), .ints .i64 (pA), .ints .i64 (pB), .ints .i64 (sE), .ints .i64 (sO), .ints .i64 (sX)]]⟩ : Hd Sg)) (fun i' n' u' => ((kd.length - i').toNat, 0, 0))] j (fun _ => (0, 0, 0)), by kernel_rfl, ⟨r33_epoch_w kd ep th nm oK oA oB rE rO rX aK pK pA pB sE sO sX (fun i' n' u' => r33_epoch_I0 kd ep th nm oK oA oB rE rO rX aK pK pA pB sE sO sX i' n' u' (r33_epoch kd ep th nm oK oA oB rE rO rX aK pK pA pB sE sO sX)) (fun r__ => r__ = (r33_epoch kd ep th nm oK oA oB rE rO rX aK pK pA pB sE sO sX)), fun _ _ _ => by kernel_rfl, r33_epoch_begin kd ep th nm oK oA oB rE rO rX aK pK pA pB sE sO sX hl0 ⟩, ⟨fun i n u hI => ⟨r33_epoch_w0 kd ep th nm oK oA oB rE rO rX aK pK pA pB sE sO sX i n u (fun i' n' u' => r33_epoch_I0 kd ep th nm oK oA oB rE rO rX aK pK pA pB sE sO sX i' n' u' (r33_epoch kd ep th nm oK oA oB rE rO rX aK pK pA pB sE sO sX) ∧ lx ((kd.length - i').toNat, 0, 0) ((kd.length - i).toNat, 0, 0)) (fun r__ => r__ = (r33_epoch kd ep th nm oK oA oB rE rO rX aK pK pA pB sE sO sX)), fun _ _ _ => by kernel_rfl, r33_epoch_step0 kd ep th nm oK oA oB rE rO rX aK pK pA pB sE sO sX hl0 i n u hI⟩, trivial⟩⟩
def T_r33_epoch : List (Nat × Entry Sg) := (118, e_r33_epoch) :: T_r33_at
theorem T_r33_epoch_ok : TableOk Dg Try.prog T_r33_epoch := TableOk.cons Dg r33_epoch_ok T_r33_at_ok

/- nacre/nacreref33.above -/
def r33_above (kd : List Int) (ep : List Int) (th : List Int) (nm : List Int) (oK : List Int) (oA : List Int) (oB : List Int) (rE : List Int) (rO : List Int) (rX : List Int) (aK : List Int) (pK : List Int) (pA : List Int) (pB : List Int) (sE : List Int) (sO : List Int) (sX : List Int) (t : Int) (x : Int) : Bool := aboveF kd th nm t x kd.length
abbrev c_r33_above : Ct Sg := ⟨none, false, [.ro [some .i64, some .i64, some .i64, some .i64, some .i64, some .i64, some .i64, some .i64, some .i64, some .i64, some .i64, some .i64, some .i64, some .i64, some .i64, some .i64, some .i64], .i .i64, .i .i64], .b⟩
def e_r33_above : Entry Sg := entC c_r33_above r33_above (fun _ _ _ _ _ _ _ _ _ _ _ _ _ _ _ _ _ _ _ => [])
def r33_above_w (kd : List Int) (ep : List Int) (th : List Int) (nm : List Int) (oK : List Int) (oA : List Int) (oB : List Int) (rE : List Int) (rO : List Int) (rX : List Int) (aK : List Int) (pK : List Int) (pA : List Int) (pB : List Int) (sE : List Int) (sO : List Int) (sX : List Int) (t : Int) (x : Int) (Q0 : Int → Prop) (R_ : Bool → Prop) : Prop := (Q0 ((0 : Int)))
def r33_above_w0 (kd : List Int) (ep : List Int) (th : List Int) (nm : List Int) (oK : List Int) (oA : List Int) (oB : List Int) (rE : List Int) (rO : List Int) (rX : List Int) (aK : List Int) (pK : List Int) (pA : List Int) (pB : List Int) (sE : List Int) (sO : List Int) (sX : List Int) (t : Int) (x : Int) (i : Int) (Q0 : Int → Prop) (R_ : Bool → Prop) : Prop := (((decide (i < (↑(List.length kd) : Int))) = true → (((0 : Int) ≤ i ∧ i < (↑(List.length kd) : Int)) ∧ (((0 : Int) ≤ i ∧ i < (↑(List.length kd) : Int)) → (((List.getD kd (Int.toNat i) (0 : Int) == (2 : Int)) = true → (0 : Int) ≤ i ∧ i < (↑(List.length kd) : Int)) ∧ (((List.getD kd (Int.toNat i) (0 : Int) == (2 : Int)) = true → (0 : Int) ≤ i ∧ i < (↑(List.length kd) : Int)) → (((List.getD kd (Int.toNat i) (0 : Int) == (2 : Int) && List.getD th (Int.toNat i) (0 : Int) == t) = true → (0 : Int) ≤ i ∧ i < (↑(List.length kd) : Int)) ∧ (((List.getD kd (Int.toNat i) (0 : Int) == (2 : Int) && List.getD th (Int.toNat i) (0 : Int) == t) = true → (0 : Int) ≤ i ∧ i < (↑(List.length kd) : Int)) → (((List.getD kd (Int.toNat i) (0 : Int) == (2 : Int) && List.getD th (Int.toNat i) (0 : Int) == t && decide (List.getD nm (Int.toNat i) (0 : Int) ≥ x)) = true → (R_ false)) ∧ ((List.getD kd (Int.toNat i) (0 : Int) == (2 : Int) && List.getD th (Int.toNat i) (0 : Int) == t && decide (List.getD nm (Int.toNat i) (0 : Int) ≥ x)) = false → (Q0 (IntKind.wrap IntKind.i64 (i + (1 : Int))))))))))))) ∧ ((decide (i < (↑(List.length kd) : Int))) = false → (R_ true)))
def r33_above_I0 (kd : List Int) (ep : List Int) (th : List Int) (nm : List Int) (oK : List Int) (oA : List Int) (oB : List Int) (rE : List Int) (rO : List Int) (rX : List Int) (aK : List Int) (pK : List Int) (pA : List Int) (pB : List Int) (sE : List Int) (sO : List Int) (sX : List Int) (t : Int) (x : Int) (i : Int) (r_ : Bool) : Prop := 0 ≤ i ∧ i ≤ kd.length ∧ aboveF kd th nm t x i.toNat = true ∧ r_ = aboveF kd th nm t x kd.length
theorem r33_above_begin (kd : List Int) (ep : List Int) (th : List Int) (nm : List Int) (oK : List Int) (oA : List Int) (oB : List Int) (rE : List Int) (rO : List Int) (rX : List Int) (aK : List Int) (pK : List Int) (pA : List Int) (pB : List Int) (sE : List Int) (sO : List Int) (sX : List Int) (t : Int) (x : Int) (hl0 : kd.length ≤ 9223372036854775807) : r33_above_w kd ep th nm oK oA oB rE rO rX aK pK pA pB sE sO sX t x (fun i' => r33_above_I0 kd ep th nm oK oA oB rE rO rX aK pK pA pB sE sO sX t x i' (r33_above kd ep th nm oK oA oB rE rO rX aK pK pA pB sE sO sX t x)) (fun r__ => r__ = (r33_above kd ep th nm oK oA oB rE rO rX aK pK pA pB sE sO sX t x)) := by
  unfold r33_above_w
  try unfold r33_above_I0
  exact ⟨by omega, by omega, rfl, rfl⟩
theorem r33_above_step0 (kd : List Int) (ep : List Int) (th : List Int) (nm : List Int) (oK : List Int) (oA : List Int) (oB : List Int) (rE : List Int) (rO : List Int) (rX : List Int) (aK : List Int) (pK : List Int) (pA : List Int) (pB : List Int) (sE : List Int) (sO : List Int) (sX : List Int) (t : Int) (x : Int) (hl0 : kd.length ≤ 9223372036854775807) (i : Int) {r_ : Bool} (hI : r33_above_I0 kd ep th nm oK oA oB rE rO rX aK pK pA pB sE sO sX t x i r_) : r33_above_w0 kd ep th nm oK oA oB rE rO rX aK pK pA pB sE sO sX t x i (fun i' => r33_above_I0 kd ep th nm oK oA oB rE rO rX aK pK pA pB sE sO sX t x i' r_ ∧ lx ((kd.length - i').toNat, 0, 0) ((kd.length - i).toNat, 0, 0)) (fun r__ => r__ = r_) := by
  unfold r33_above_I0 at hI
  unfold r33_above_w0
  try unfold r33_above_I0
  obtain ⟨h0, h1, h2, h3⟩ := hI
  refine ⟨fun h => ?_, fun h => ?_⟩
  · simp only [decide_eq_true_eq] at h
    have e : (i + 1).toNat = i.toNat + 1 := by omega
    have hi : (i.toNat : Int) = i := by omega
    try rw [w64 (n := i + 1) (by omega)]
  
    have hs : aboveF kd th nm t x (i + 1).toNat = bif kd.getD i.toNat 0 == 2 && th.getD i.toNat 0 == t && decide (nm.getD i.toNat 0 ≥ x) then false else aboveF kd th nm t x i.toNat := by rw [e]; rfl
    rw [h2] at hs
    repeat' first
      | refine ⟨fun hc => ?_, fun hc => ?_⟩
      | refine ⟨⟨h0, h⟩, fun _ => ?_⟩
      | exact ⟨h0, h⟩
      | exact ⟨by omega, by omega⟩
      | refine ⟨⟨by omega, by omega, ?_, h3⟩, lxo_⟩
      | fail
    all_goals first
      | (rw [hs]; simp only [*, cond_true, cond_false]; done)
      | (show false = r_; rw [h3, aboveF_mono (n := (i + 1).toNat) (by rw [hs]; simp only [*, cond_true]) _ (by omega)])
  · simp only [decide_eq_false_iff_not] at h
    have e : i.toNat = kd.length := by omega
  
    show true = r_
    rw [h3, ← e, h2]
theorem r33_above_ok : EntryOk Dg Try.prog 121 e_r33_above :=
  ent_wp Dg T_r33_epoch_ok (I := [103000000007, 103000000000, 103000000001, 103000000002]) Try.func121 mix (B := bodyOf Try.f121) (by kernel_rfl) rfl (by kernel_rfl) 400
    fun p0 kd ep th nm oK oA oB rE rO rX aK pK pA pB sE sO sX t x hb hp => have hl0 : kd.length ≤ 9223372036854775807 := hb.1; ⟨[⟨none, [0,1,0,1], [.blk 0, .code [1,1]], [7, 0, 1, 2], [.i .i64, .roc [.ints .i64 (kd), .ints .i64 (ep), .ints .i64 (th), .ints .i64 (nm), .ints .i64 (oK), .ints .i64 (oA), .ints .i64 (oB), .ints .i64 (rE), .ints .i64 (rO), .ints .i64 (rX), .ints .i64 (aK), .ints .i64 (pK), .ints .i64 (pA), .ints .i64 (pB), .ints .i64 (sE), .ints .i64 (sO), .ints .i64 (sX)], .ic .i64 (t), .ic .i64 (x)]⟩], fun j => List.getD [appC (Hd.kd (⟨none, [0,1,0,1], [.blk 0, .code [1,1]], [7, 0, 1, 2], [.i .i64, .roc [.ints .i64 (kd), .ints .i64 (ep), .ints .i64 (th), .ints .i64 (nm), .ints .i64 (oK), .ints .i64 (oA), .ints .i64 (oB), .ints .i64 (rE), .ints .i64 (rO), .ints .i64 (rX), .ints .i64 (aK), .ints .i64 (pK), .ints .i64 (pA), .ints .i64 (pB), .ints .i64 (sE), .ints .i64 (sO), .ints .i64 (sX)], .ic .i64 (t), .ic .i64 (x)]⟩ : Hd Sg)) (fun i' => r33_above_I0 kd ep th nm oK oA oB rE rO rX aK pK pA pB sE sO sX t x i' (r33_above kd ep th nm oK oA oB rE rO rX aK pK pA pB sE sO sX t x))] j (fun _ => False), fun j => List.getD [appC (Hd.kd (⟨none, [0,1,0,1], [.blk 0, .code [1,1]], [7, 0, 1, 2], [.i .i64, .roc [.ints .i64 (kd), .ints .i64 (ep), .ints .i64 (th), .ints .i64 (nm), .ints .i64 (oK), .ints .i64 (oA), .ints .i64 (oB), .ints .i64 (rE), .ints .i64 (rO), .ints .i64 (rX), .ints .i64 (aK), .ints .i64 (pK), .ints .i64 (pA), .ints .i64 (pB), .ints .i64 (sE), .ints .i64 (sO), .ints .i64 (sX)], .ic .i64 (t), .ic .i64 (x)]⟩ : Hd Sg)) (fun i' => ((kd.length - i').toNat, 0, 0))] j (fun _ => (0, 0, 0)), by kernel_rfl, ⟨r33_above_w kd ep th nm oK oA oB rE rO rX aK pK pA pB sE sO sX t x (fun i' => r33_above_I0 kd ep th nm oK oA oB rE rO rX aK pK pA pB sE sO sX t x i' (r33_above kd ep th nm oK oA oB rE rO rX aK pK pA pB sE sO sX t x)) (fun r__ => r__ = (r33_above kd ep th nm oK oA oB rE rO rX aK pK pA pB sE sO sX t x)), fun _ _ _ => by kernel_rfl, r33_above_begin kd ep th nm oK oA oB rE rO rX aK pK pA pB sE sO sX t x hl0 ⟩, ⟨fun i hI => ⟨r33_above_w0 kd ep th nm oK oA oB rE rO rX aK pK pA pB sE sO sX t x i (fun i' => r33_above_I0 kd ep th nm oK oA oB rE rO rX aK pK pA pB sE sO sX t x i' (r33_above kd ep th nm oK oA oB rE rO rX aK pK pA pB sE sO sX t x) ∧ lx ((kd.length - i').toNat, 0, 0) ((kd.length - i).toNat, 0, 0)) (fun r__ => r__ = (r33_above kd ep th nm oK oA oB rE rO rX aK pK pA pB sE sO sX t x)), fun _ _ _ => by kernel_rfl, r33_above_step0 kd ep th nm oK oA oB rE rO rX aK pK pA pB sE sO sX t x hl0 i hI⟩, trivial⟩⟩
def T_r33_above : List (Nat × Entry Sg) := (121, e_r33_above) :: T_r33_epoch
theorem T_r33_above_ok : TableOk Dg Try.prog T_r33_above := TableOk.cons Dg r33_above_ok T_r33_epoch_ok

/-- Where what begins at the place q ends: not yet; it does not (-1); there. -/
def stF (kd th : List Int) (q : Nat) : Nat → Option Int
  | 0 => none
  | n + 1 => match stF kd th q n with
    | some v => some v
    | none => bif decide (n ≤ q) then none else bif kd.getD n 0 == 4 || kd.getD n 0 == 1 && th.getD n 0 == th.getD q 0 then some (-1) else bif kd.getD n 0 == 2 && th.getD n 0 == th.getD q 0 then some (n : Int) else none
theorem stF_some {kd th : List Int} {q n : Nat} {v : Int} (h : stF kd th q n = some v) : ∀ m, n ≤ m → stF kd th q m = some v
  | 0, hm => by have : n = 0 := by omega
                subst this; exact h
  | m + 1, hm => by
    by_cases e : n = m + 1
    · subst e; exact h
    · simp only [stF, stF_some h m (by omega)]
theorem stF_early {kd th : List Int} {q : Nat} : ∀ n, n ≤ q + 1 → stF kd th q n = none
  | 0, _ => rfl
  | n + 1, h => by
    have : decide (n ≤ q) = true := by simpa using h
    simp only [stF, stF_early (q := q) n (by omega), this, cond_true]
def endF (kd th : List Int) (q : Nat) : Int := (stF kd th q kd.length).getD (-1)


/- nacre/nacreref33.end -/
def r33_end (kd : List Int) (ep : List Int) (th : List Int) (nm : List Int) (oK : List Int) (oA : List Int) (oB : List Int) (rE : List Int) (rO : List Int) (rX : List Int) (aK : List Int) (pK : List Int) (pA : List Int) (pB : List Int) (sE : List Int) (sO : List Int) (sX : List Int) (q : Int) : Int := endF kd th q.toNat
abbrev c_r33_end : Ct Sg := ⟨none, false, [.ro [some .i64, some .i64, some .i64, some .i64, some .i64, some .i64, some .i64, some .i64, some .i64, some .i64, some .i64, some .i64, some .i64, some .i64, some .i64, some .i64, some .i64], .i .i64], .i .i64⟩
def e_r33_end : Entry Sg := entC c_r33_end r33_end (fun kd ep th nm oK oA oB rE rO rX aK pK pA pB sE sO sX q => [0 ≤ q ∧ q < (kd.length : Int)])
def r33_end_w (kd : List Int) (ep : List Int) (th : List Int) (nm : List Int) (oK : List Int) (oA : List Int) (oB : List Int) (rE : List Int) (rO : List Int) (rX : List Int) (aK : List Int) (pK : List Int) (pA : List Int) (pB : List Int) (sE : List Int) (sO : List Int) (sX : List Int) (q : Int) (Q0 : Int → Prop) (R_ : Int → Prop) : Prop := (Q0 (IntKind.wrap IntKind.i64 (q + (1 : Int))))
def r33_end_w0 (kd : List Int) (ep : List Int) (th : List Int) (nm : List Int) (oK : List Int) (oA : List Int) (oB : List Int) (rE : List Int) (rO : List Int) (rX : List Int) (aK : List Int) (pK : List Int) (pA : List Int) (pB : List Int) (sE : List Int) (sO : List Int) (sX : List Int) (q : Int) (i : Int) (Q0 : Int → Prop) (R_ : Int → Prop) : Prop := (((decide (i < (↑(List.length kd) : Int))) = true → (((0 : Int) ≤ i ∧ i < (↑(List.length kd) : Int)) ∧ (((0 : Int) ≤ i ∧ i < (↑(List.length kd) : Int)) → (((List.getD kd (Int.toNat i) (0 : Int) == (4 : Int)) = false → (0 : Int) ≤ i ∧ i < (↑(List.length kd) : Int)) ∧ (((List.getD kd (Int.toNat i) (0 : Int) == (4 : Int)) = false → (0 : Int) ≤ i ∧ i < (↑(List.length kd) : Int)) → (((List.getD kd (Int.toNat i) (0 : Int) == (1 : Int)) = true → (0 : Int) ≤ i ∧ i < (↑(List.length kd) : Int)) ∧ (((List.getD kd (Int.toNat i) (0 : Int) == (1 : Int)) = true → (0 : Int) ≤ i ∧ i < (↑(List.length kd) : Int)) → (((List.getD kd (Int.toNat i) (0 : Int) == (1 : Int)) = true → (0 : Int) ≤ q ∧ q < (↑(List.length kd) : Int)) ∧ (((List.getD kd (Int.toNat i) (0 : Int) == (1 : Int)) = true → (0 : Int) ≤ q ∧ q < (↑(List.length kd) : Int)) → (((List.getD kd (Int.toNat i) (0 : Int) == (4 : Int) || List.getD kd (Int.toNat i) (0 : Int) == (1 : Int) && List.getD th (Int.toNat i) (0 : Int) == List.getD th (Int.toNat q) (0 : Int)) = true → (R_ (-1 : Int))) ∧ ((List.getD kd (Int.toNat i) (0 : Int) == (4 : Int) || List.getD kd (Int.toNat i) (0 : Int) == (1 : Int) && List.getD th (Int.toNat i) (0 : Int) == List.getD th (Int.toNat q) (0 : Int)) = false → (((0 : Int) ≤ i ∧ i < (↑(List.length kd) : Int)) ∧ (((0 : Int) ≤ i ∧ i < (↑(List.length kd) : Int)) → (((List.getD kd (Int.toNat i) (0 : Int) == (2 : Int)) = true → (0 : Int) ≤ i ∧ i < (↑(List.length kd) : Int)) ∧ (((List.getD kd (Int.toNat i) (0 : Int) == (2 : Int)) = true → (0 : Int) ≤ i ∧ i < (↑(List.length kd) : Int)) → (((List.getD kd (Int.toNat i) (0 : Int) == (2 : Int)) = true → (0 : Int) ≤ q ∧ q < (↑(List.length kd) : Int)) ∧ (((List.getD kd (Int.toNat i) (0 : Int) == (2 : Int)) = true → (0 : Int) ≤ q ∧ q < (↑(List.length kd) : Int)) → (((List.getD kd (Int.toNat i) (0 : Int) == (2 : Int) && List.getD th (Int.toNat i) (0 : Int) == List.getD th (Int.toNat q) (0 : Int)) = true → (R_ i)) ∧ ((List.getD kd (Int.toNat i) (0 : Int) == (2 : Int) && List.getD th (Int.toNat i) (0 : Int) == List.getD th (Int.toNat q) (0 : Int)) = false → (Q0 (IntKind.wrap IntKind.i64 (i + (1 : Int))))))))))))))))))))))) ∧ ((decide (i < (↑(List.length kd) : Int))) = false → (R_ (-1 : Int))))
def r33_end_I0 (kd : List Int) (ep : List Int) (th : List Int) (nm : List Int) (oK : List Int) (oA : List Int) (oB : List Int) (rE : List Int) (rO : List Int) (rX : List Int) (aK : List Int) (pK : List Int) (pA : List Int) (pB : List Int) (sE : List Int) (sO : List Int) (sX : List Int) (q : Int) (i : Int) (r_ : Int) : Prop := 0 ≤ i ∧ i ≤ kd.length ∧ (q + 1 ≤ i ∧ stF kd th q.toNat i.toNat = none) ∧ r_ = endF kd th q.toNat
theorem r33_end_begin (kd : List Int) (ep : List Int) (th : List Int) (nm : List Int) (oK : List Int) (oA : List Int) (oB : List Int) (rE : List Int) (rO : List Int) (rX : List Int) (aK : List Int) (pK : List Int) (pA : List Int) (pB : List Int) (sE : List Int) (sO : List Int) (sX : List Int) (q : Int) (hp0 : 0 ≤ q ∧ q < (kd.length : Int)) (hl0 : kd.length ≤ 9223372036854775807) : r33_end_w kd ep th nm oK oA oB rE rO rX aK pK pA pB sE sO sX q (fun i' => r33_end_I0 kd ep th nm oK oA oB rE rO rX aK pK pA pB sE sO sX q i' (r33_end kd ep th nm oK oA oB rE rO rX aK pK pA pB sE sO sX q)) (fun r__ => r__ = (r33_end kd ep th nm oK oA oB rE rO rX aK pK pA pB sE sO sX q)) := by
  unfold r33_end_w
  try unfold r33_end_I0
  refine ⟨?_, ?_, ⟨?_, ?_⟩, rfl⟩
  all_goals (rw [w64 (n := q + 1) (by omega)]; first | omega | exact stF_early _ (by omega))
theorem r33_end_step0 (kd : List Int) (ep : List Int) (th : List Int) (nm : List Int) (oK : List Int) (oA : List Int) (oB : List Int) (rE : List Int) (rO : List Int) (rX : List Int) (aK : List Int) (pK : List Int) (pA : List Int) (pB : List Int) (sE : List Int) (sO : List Int) (sX : List Int) (q : Int) (hp0 : 0 ≤ q ∧ q < (kd.length : Int)) (hl0 : kd.length ≤ 9223372036854775807) (i : Int) {r_ : Int} (hI : r33_end_I0 kd ep th nm oK oA oB rE rO rX aK pK pA pB sE sO sX q i r_) : r33_end_w0 kd ep th nm oK oA oB rE rO rX aK pK pA pB sE sO sX q i (fun i' => r33_end_I0 kd ep th nm oK oA oB rE rO rX aK pK pA pB sE sO sX q i' r_ ∧ lx ((kd.length - i').toNat, 0, 0) ((kd.length - i).toNat, 0, 0)) (fun r__ => r__ = r_) := by
  unfold r33_end_I0 at hI
  unfold r33_end_w0
  try unfold r33_end_I0
  obtain ⟨h0, h1, h2, h3⟩ := hI
  refine ⟨fun h => ?_, fun h => ?_⟩
  · simp only [decide_eq_true_eq] at h
    have e : (i + 1).toNat = i.toNat + 1 := by omega
    have hi : (i.toNat : Int) = i := by omega
    try rw [w64 (n := i + 1) (by omega)]
  
    have hq : decide (i.toNat ≤ q.toNat) = false := by simp; omega
    have hs : stF kd th q.toNat (i + 1).toNat = bif kd.getD i.toNat 0 == 4 || kd.getD i.toNat 0 == 1 && th.getD i.toNat 0 == th.getD q.toNat 0 then some (-1) else bif kd.getD i.toNat 0 == 2 && th.getD i.toNat 0 == th.getD q.toNat 0 then some (i.toNat : Int) else none := by
      rw [e]; simp only [stF, h2.2, hq, cond_false]
    have hr : ∀ v, stF kd th q.toNat (i + 1).toNat = some v → v = r_ := fun v hv => by
      rw [h3, endF, stF_some hv _ (by omega)]; rfl
    repeat' first
      | refine ⟨fun hc => ?_, fun hc => ?_⟩
      | refine ⟨⟨h0, h⟩, fun _ => ?_⟩
      | exact ⟨h0, h⟩
      | exact ⟨by omega, by omega⟩
      | refine ⟨⟨by omega, by omega, ⟨by omega, ?_⟩, h3⟩, lxo_⟩
      | fail
    all_goals first
      | (rw [hs]; simp only [*, cond_true, cond_false]; done)
      | (refine hr _ ?_; rw [hs]; simp only [*, cond_true, cond_false]; done)
  · simp only [decide_eq_false_iff_not] at h
    have e : i.toNat = kd.length := by omega
  
    show -1 = r_
    rw [h3, endF, ← e, h2.2]; rfl
theorem r33_end_ok : EntryOk Dg Try.prog 62 e_r33_end :=
  ent_wp Dg T_r33_above_ok (I := [103000000005, 103000000000, 103000000001]) Try.func62 mix (B := bodyOf Try.f62) (by kernel_rfl) rfl (by kernel_rfl) 400
    fun p0 kd ep th nm oK oA oB rE rO rX aK pK pA pB sE sO sX q hb hp => have hl0 : kd.length ≤ 9223372036854775807 := hb.1; have hp0 : 0 ≤ q ∧ q < (kd.length : Int) := hp _ (.head _); ⟨[⟨none, [0,1,0,1], [.blk 0, .code [1,1]], [5, 0, 1], [.i .i64, .roc [.ints .i64 (kd), .ints .i64 (ep), .ints .i64 (th), .ints .i64 (nm), .ints .i64 (oK), .ints .i64 (oA), .ints .i64 (oB), .ints .i64 (rE), .ints .i64 (rO), .ints .i64 (rX), .ints .i64 (aK), .ints .i64 (pK), .ints .i64 (pA), .ints .i64 (pB), .ints .i64 (sE), .ints .i64 (sO), .ints .i64 (sX)], .ic .i64 (q)]⟩], fun j => List.getD [appC (Hd.kd (⟨none, [0,1,0,1], [.blk 0, .code [1,1]], [5, 0, 1], [.i .i64, .roc [.ints .i64 (kd), .ints .i64 (ep), .ints .i64 (th), .ints .i64 (nm), .ints .i64 (oK), .ints .i64 (oA), .ints .i64 (oB), .ints .i64 (rE), .ints .i64 (rO), .ints .i64 (rX), .ints .i64 (aK), .ints .i64 (pK), .ints .i64 (pA), .ints .i64 (pB), .ints .i64 (sE), .ints .i64 (sO), .ints .i64 (sX)], .ic .i64 (q)]⟩ : Hd Sg)) (fun i' => r33_end_I0 kd ep th nm oK oA oB rE rO rX aK pK pA pB sE sO sX q i' (r33_end kd ep th nm oK oA oB rE rO rX aK pK pA pB sE sO sX q))] j (fun _ => False), fun j => List.getD [appC (Hd.kd (⟨none, [0,1,0,1], [.blk 0, .code [1,1]], [5, 0, 1], [.i .i64, .roc [.ints .i64 (kd), .ints .i64 (ep), .ints .i64 (th), .ints .i64 (nm), .ints .i64 (oK), .ints .i64 (oA), .ints .i64 (oB), .ints .i64 (rE), .ints .i64 (rO), .ints .i64 (rX), .ints .i64 (aK), .ints .i64 (pK), .ints .i64 (pA), .ints .i64 (pB), .ints .i64 (sE), .ints .i64 (sO), .ints .i64 (sX)], .ic .i64 (q)]⟩ : Hd Sg)) (fun i' => ((kd.length - i').toNat, 0, 0))] j (fun _ => (0, 0, 0)), by kernel_rfl, ⟨r33_end_w kd ep th nm oK oA oB rE rO rX aK pK pA pB sE sO sX q (fun i' => r33_end_I0 kd ep th nm oK oA oB rE rO rX aK pK pA pB sE sO sX q i' (r33_end kd ep th nm oK oA oB rE rO rX aK pK pA pB sE sO sX q)) (fun r__ => r__ = (r33_end kd ep th nm oK oA oB rE rO rX aK pK pA pB sE sO sX q)), fun _ _ _ => by kernel_rfl, r33_end_begin kd ep th nm oK oA oB rE rO rX aK pK pA pB sE sO sX q hp0 hl0 ⟩, ⟨fun i hI => ⟨r33_end_w0 kd ep th nm oK oA oB rE rO rX aK pK pA pB sE sO sX q i (fun i' => r33_end_I0 kd ep th nm oK oA oB rE rO rX aK pK pA pB sE sO sX q i' (r33_end kd ep th nm oK oA oB rE rO rX aK pK pA pB sE sO sX q) ∧ lx ((kd.length - i').toNat, 0, 0) ((kd.length - i).toNat, 0, 0)) (fun r__ => r__ = (r33_end kd ep th nm oK oA oB rE rO rX aK pK pA pB sE sO sX q)), fun _ _ _ => by kernel_rfl, r33_end_step0 kd ep th nm oK oA oB rE rO rX aK pK pA pB sE sO sX q hp0 hl0 i hI⟩, trivial⟩⟩
def T_r33_end : List (Nat × Entry Sg) := (62, e_r33_end) :: T_r33_above
theorem T_r33_end_ok : TableOk Dg Try.prog T_r33_end := TableOk.cons Dg r33_end_ok T_r33_above_ok

theorem r33_need (kd th : List Int) (t : Int) (h : decide (atF kd th t kd.length ≥ 0) = true) : 0 ≤ max 0 (atF kd th t kd.length) ∧ max 0 (atF kd th t kd.length) < (kd.length : Int) := by
  have := atF_bd kd th t kd.length
  simp only [decide_eq_true_eq] at h
  omega


/- nacre/nacreref33.fits -/
def r33_fits (t : Int) (p : Int) (s : Int) (kd : List Int) (ep : List Int) (th : List Int) (nm : List Int) (oK : List Int) (oA : List Int) (oB : List Int) (rE : List Int) (rO : List Int) (rX : List Int) (aK : List Int) (pK : List Int) (pA : List Int) (pB : List Int) (sE : List Int) (sO : List Int) (sX : List Int) (k_kd : Int) (k_ep : Int) (k_th : Int) (k_nm : Int) (k_oK : Int) (k_oA : Int) (k_oB : Int) (k_rE : Int) (k_rO : Int) (k_rX : Int) (k_aK : Int) (k_pK : Int) (k_pA : Int) (k_pB : Int) (k_sE : Int) (k_sO : Int) (k_sX : Int) : Bool := (bif decide (k_kd < (1 : Int)) || decide (k_kd > (6 : Int)) || !r33_bare k_kd k_ep k_th k_nm k_oK k_oA k_oB k_rE k_rO k_rX k_aK k_pK k_pA k_pB k_sE k_sO k_sX || k_ep != Prod.fst (r33_epoch kd ep th nm oK oA oB rE rO rX aK pK pA pB sE sO sX) then false else (bif k_kd == (1 : Int) then Prod.snd (r33_epoch kd ep th nm oK oA oB rE rO rX aK pK pA pB sE sO sX) && (decide (k_th ≥ (0 : Int)) && decide (k_th < t) && decide (r33_at kd ep th nm oK oA oB rE rO rX aK pK pA pB sE sO sX k_th < (0 : Int))) && (decide (k_nm ≥ (1 : Int)) && decide (k_nm ≤ (2147483647 : Int))) && r33_above kd ep th nm oK oA oB rE rO rX aK pK pA pB sE sO sX k_th k_nm && r22_Right k_oK k_oA k_oB else (bif k_kd == (2 : Int) then Prod.snd (r33_epoch kd ep th nm oK oA oB rE rO rX aK pK pA pB sE sO sX) && decide (r33_at kd ep th nm oK oA oB rE rO rX aK pK pA pB sE sO sX k_th ≥ (0 : Int)) && List.getD nm (Int.toNat (if r33_at kd ep th nm oK oA oB rE rO rX aK pK pA pB sE sO sX k_th > (0 : Int) then r33_at kd ep th nm oK oA oB rE rO rX aK pK pA pB sE sO sX k_th else (0 : Int))) (0 : Int) == k_nm else (bif k_kd == (3 : Int) then Prod.snd (r33_epoch kd ep th nm oK oA oB rE rO rX aK pK pA pB sE sO sX) && (decide (k_th ≥ (0 : Int)) && decide (k_th < t) && decide (r33_at kd ep th nm oK oA oB rE rO rX aK pK pA pB sE sO sX k_th < (0 : Int))) && (decide (k_nm ≥ (1 : Int)) && decide (k_nm ≤ (2147483647 : Int))) && k_rE == (8 : Int) && k_rO == (0 : Int) && k_rX == (0 : Int) else (bif k_kd == (5 : Int) then !Prod.snd (r33_epoch kd ep th nm oK oA oB rE rO rX aK pK pA pB sE sO sX) else (bif k_kd == (6 : Int) then Prod.snd (r33_epoch kd ep th nm oK oA oB rE rO rX aK pK pA pB sE sO sX) && (decide (k_th ≥ (0 : Int)) && decide (k_th < t) && decide (r33_at kd ep th nm oK oA oB rE rO rX aK pK pA pB sE sO sX k_th < (0 : Int))) && (decide (k_nm ≥ (1 : Int)) && decide (k_nm ≤ (2147483647 : Int))) && decide (k_aK ≥ (0 : Int)) && decide (k_aK ≤ (2 : Int)) else true))))))
abbrev c_r33_fits : Ct Sg := ⟨none, false, [.agg [.i .i64, .i .i64, .i .i64], .ro [some .i64, some .i64, some .i64, some .i64, some .i64, some .i64, some .i64, some .i64, some .i64, some .i64, some .i64, some .i64, some .i64, some .i64, some .i64, some .i64, some .i64], .agg [.i .i64, .i .i64, .i .i64, .i .i64, .i .i64, .i .i64, .i .i64, .i .i64, .i .i64, .i .i64, .i .i64, .i .i64, .i .i64, .i .i64, .i .i64, .i .i64, .i .i64]], .b⟩
def e_r33_fits : Entry Sg := entC c_r33_fits r33_fits (fun _ _ _ _ _ _ _ _ _ _ _ _ _ _ _ _ _ _ _ _ _ _ _ _ _ _ _ _ _ _ _ _ _ _ _ _ _ => [])
theorem r33_fits_ok : EntryOk Dg Try.prog 61 e_r33_fits :=
  ent_ok Dg T_r33_end_ok (I := []) Try.func61 mix (B := bodyOf Try.f61) (by kernel_rfl) rfl (by kernel_rfl) 400
    fun _ t p s kd ep th nm oK oA oB rE rO rX aK pK pA pB sE sO sX k_kd k_ep k_th k_nm k_oK k_oA k_oB k_rE k_rO k_rX k_aK k_pK k_pA k_pB k_sE k_sO k_sX hb hp => have hl0 : kd.length ≤ 9223372036854775807 := hb.2.1; ⟨(r33_fits t p s kd ep th nm oK oA oB rE rO rX aK pK pA pB sE sO sX k_kd k_ep k_th k_nm k_oK k_oA k_oB k_rE k_rO k_rX k_aK k_pK k_pA k_pB k_sE k_sO k_sX), (.br (decide (k_kd < (1 : Int)) || decide (k_kd > (6 : Int)) || !r33_bare k_kd k_ep k_th k_nm k_oK k_oA k_oB k_rE k_rO k_rX k_aK k_pK k_pA k_pB k_sE k_sO k_sX || k_ep != Prod.fst (r33_epoch kd ep th nm oK oA oB rE rO rX aK pK pA pB sE sO sX)) .t (.br (k_kd == (1 : Int)) .t (.br (k_kd == (2 : Int)) (.need ((Prod.snd (r33_epoch kd ep th nm oK oA oB rE rO rX aK pK pA pB sE sO sX) && decide (r33_at kd ep th nm oK oA oB rE rO rX aK pK pA pB sE sO sX k_th ≥ (0 : Int))) = true → ((0 : Int) ≤ if r33_at kd ep th nm oK oA oB rE rO rX aK pK pA pB sE sO sX k_th > (0 : Int) then r33_at kd ep th nm oK oA oB rE rO rX aK pK pA pB sE sO sX k_th else (0 : Int)) ∧ (if r33_at kd ep th nm oK oA oB rE rO rX aK pK pA pB sE sO sX k_th > (0 : Int) then r33_at kd ep th nm oK oA oB rE rO rX aK pK pA pB sE sO sX k_th else (0 : Int)) < (↑(List.length kd) : Int)) .t) .t))), fun _ _ _ => by kernel_rfl, ⟨fun z2 => trivial, fun z2 => ⟨fun z3 => trivial, fun z3 => ⟨fun z4 => ⟨(by intro h_; have hb_ := atF_bd kd th k_th kd.length; simp only [Bool.and_eq_true, decide_eq_true_eq] at h_; unfold r33_at at h_ ⊢; split <;> omega), fun z5 => trivial⟩, fun z4 => trivial⟩⟩⟩, rfl⟩
def T_r33_fits : List (Nat × Entry Sg) := (61, e_r33_fits) :: T_r33_end
theorem T_r33_fits_ok : TableOk Dg Try.prog T_r33_fits := TableOk.cons Dg r33_fits_ok T_r33_end_ok
end Go.Proofs.Ytonfbgombglngaa
